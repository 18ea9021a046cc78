/-
  A part of the proof of the claim: walks over the program's functions and the plain laws that these need. No condition of its own.
-/
import Derived.Test.YtodlgmmbfbiilaaGreatDoorHTopPkCardPart8
import Derived.Test.YtodlgmmbfbiilaaGreatDoorHTopPkCardPart6
import Derived.Test.YtodlgmmbfbiilaaGreatDoorHTopPkCardPart1
import Derived.Test.YtodlgmmbfbiilaaGreatDoorFvPart10
import Derived.Test.YtodlgmmbfbiilaaGreatDoorFvPart11
import Derived.Test.YtodlgmmbfbiilaaGreatDoorHTopPkCardPart3
set_option linter.unusedSimpArgs false
set_option linter.unusedVariables false
set_option linter.unnecessarySimpa false
set_option maxRecDepth 8000
/- shrink.Take and the reference's TakeOf: the walk. -/
namespace Go.Fv.H
open Go Go.Proofs
set_option maxHeartbeats 4000000 in
theorem Xa (s name:Bytes) (hs:s.length≤140737488351232):aC Tryz.prog 44 [.str s,.str name] (.tup [.agg [.int .i64 (wO s name).w,.int .i64 (wO s name).h,.own 0],.int .i64 (wO s name).e]) [(0,.row 4 (.bools (wO s name).p))]:=by
 have kl:=Wn s hs
 have kn:=sK name
 have hin:=fun x hx=>TD (s:=s) (x:=x) hx
 have hlen:=Qj s
 obtain ⟨R,hR⟩:∃ R,wO s name=R:=⟨_,rfl⟩
 rw [hR]
 unfold wO at hR
 generalize eU s=q at *
 obtain ⟨l,e⟩:=q
 dsimp only at hR kl hin hlen
 refine aC.aJ Tryz.func44 rfl (by decide) (by simp [Tryz.f44]) [.cell 4 24,.tmp 5] rfl fun w0 T0 _=>?_
 simp only [Tryz.f44,aB]
 by_cases he:e=0
 rotate_left
 ·have f1:(e=0)=False:=eq_false he
  rw [if_pos he] at hR
  rw [←hR]
  (repeat' with_reducible first|intro _|exact dn|refine rn ?_|refine ra ?_ ?_)
  refine ah.f kl 0 ?_
  (repeat' with_reducible first|intro _|refine rz ?_|refine ra ?_ ?_|omega|simp only [go_sem,f1,sD])
  refine bf.ent (aO.jS (P:=Tryz.prog) 0 2 4 e4 rfl rfl) ?_
  simp only [go_sem,Int.natCast_succ,put]
  refine bf.of [(0,1)] 1 ?_ (by rfl) ?_<;>simp only [go_sem,Int.natCast_succ,Post]
 have f1:(e=0)=True:=eq_true he
 rw [if_neg (by omega)] at hR
 cases hn:fQ name with
 | false=>
  rw [hn,if_neg (by decide)] at hR
  rw [hn] at kn
  rw [←hR]
  (repeat' with_reducible first|intro _|exact dn|refine rn ?_|refine ra ?_ ?_)
  refine ah.f kl 0 ?_
  (repeat' with_reducible first|intro _|refine rz ?_|refine ra ?_ ?_|omega|simp only [go_sem,f1])
  refine ah.k kn ?_
  (repeat' with_reducible first|intro _|refine rz ?_|refine ra ?_ ?_|omega|simp only [go_sem,sD])
  refine bf.ent (aO.jS (P:=Tryz.prog) 0 2 4 e4 rfl rfl) ?_
  simp only [go_sem,Int.natCast_succ,put]
  refine bf.of [(0,1)] 1 ?_ (by rfl) ?_<;>simp only [go_sem,Int.natCast_succ,Post]
 | true=>
 rw [hn,if_pos rfl] at hR
 rw [hn] at kn
 (repeat' with_reducible first|intro _|exact dn|refine rn ?_|refine ra ?_ ?_)
 refine ah.f kl 0 ?_
 (repeat' with_reducible first|intro _|refine rz ?_|refine ra ?_ ?_|omega|simp only [go_sem,f1])
 refine ah.k kn ?_
 (repeat' with_reducible first|intro _|refine rz ?_|refine ra ?_ ?_|omega|simp only [go_sem,List.length_map])
 refine aI.intro (fun j:Nat=>⟨47,[(25,.int .i64 j),(24,.int .i64 l.length),(23,.ro (YH l)),(4,.ptr 0 0),(1,.str name),(0,.str s)],[(0,.box 24 [.int .i64 0,.int .i64 0,.nilS])],1⟩) (fun j=>j≤l.length∧(match (l.drop j).find? (fun x=>decide (x.n=name)) with|some x=>fO ((s.drop x.a).take x.k)|none=>sD 10)=R) (fun j=>l.length - j) 0 ?_ ⟨Nat.zero_le _,hR⟩ fun j hj=>?_
 ·refine aO.ak rfl ?_ ?_<;>simp only [go_sem,Int.natCast_succ]
  all_goals first|rfl|exact ⟨rfl,rfl⟩|trace_state
 obtain ⟨hj1,hj2⟩:=hj
 by_cases hlt:j<l.length
 ·have f7:((j:Int)<(l.length:Int))=True:=eq_true (by omega)
  have hee:=Oi l hlt
  have hx:=hin (l.getD j En.zero) (by rw [getD_lt hlt];exact List.getElem_mem hlt)
  rw [List.drop_eq_getElem_cons hlt,List.find?_cons,←getD_lt (d:=En.zero) hlt] at hj2
  generalize l.getD j En.zero=x at *
  obtain ⟨xn,xa,xk⟩:=x
  dsimp only at hee hx hj2
  by_cases hq:xn=name
  ·have f8:(xn=name)=True:=eq_true hq
   rw [decide_eq_true hq] at hj2
   dsimp only at hj2
   have e1:(xa:Int)+(xk:Int)=((xa+xk:Nat):Int):=by omega
   have e2:(s.drop xa).take (xa+xk - xa)=(s.drop xa).take xk:=by rw [Nat.add_sub_cancel_left]
   have kd:=decode_two ((s.drop xa).take xk) (by rw [List.length_take];omega)
   rw [hj2] at kd
   generalize (s.drop xa).take xk=Z at *
   rcases kd with ⟨_,k⟩|⟨hd,_,k⟩
   ·(repeat' with_reducible first|intro _|refine rz ?_|refine ra ?_ ?_|omega|simp only [go_sem,f7,hee,dY,f8,e1,e2,List.length_map])
    refine ah.o k 1 ?_
    (repeat' with_reducible first|intro _|exact dn|refine rn ?_|refine ra ?_ ?_)
    refine bf.of [(0,2)] 1 ?_ (by rfl) ?_<;>simp only [go_sem,Int.natCast_succ,Post]
   ·(repeat' with_reducible first|intro _|refine rz ?_|refine ra ?_ ?_|omega|simp only [go_sem,f7,hee,dY,f8,e1,e2,List.length_map])
    refine ah.k k ?_
    (repeat' with_reducible first|intro _|exact dn|refine rn ?_|refine ra ?_ ?_)
    rw [hd]
    refine bf.ent (aO.jS (P:=Tryz.prog) 0 2 4 e4 rfl rfl) ?_
    simp only [go_sem,Int.natCast_succ,put,sD]
    refine bf.of [(0,2)] 1 ?_ (by rfl) ?_<;>simp only [go_sem,Int.natCast_succ,Post]
  ·have f8:(xn=name)=False:=eq_false hq
   rw [decide_eq_false hq] at hj2
   (repeat' with_reducible first|intro _|refine rz ?_|refine ra ?_ ?_|omega|simp only [go_sem,f7,hee,dY,f8,List.length_map])
   refine ⟨j+1,aO.ak rfl ?_ ?_,⟨by omega,hj2⟩,by omega⟩<;>simp only [go_sem,Int.natCast_succ]
 ·have e:j=l.length:=by omega
  subst e
  have f7:((l.length:Int)<(l.length:Int))=False:=eq_false (by omega)
  rw [List.drop_length] at hj2
  rw [←hj2]
  (repeat' with_reducible first|intro _|refine rz ?_|refine ra ?_ ?_|omega|simp only [go_sem,f7])
  refine bf.ent (aO.jS (P:=Tryz.prog) 0 2 4 e4 rfl rfl) ?_
  simp only [go_sem,Int.natCast_succ,put]
  refine bf.of [(0,1)] 1 ?_ (by rfl) ?_<;>simp only [go_sem,Int.natCast_succ,Post,sD,List.find?_nil]
theorem W9 (s name:Bytes) (hs:s.length≤140737488351232):dG Tryz.prog 44 [.str s,.str name] (Xl (wO s name)) []:=
 dG.GZ (dG.gJ (Xa s name hs) rfl rfl) (by simp [Xl,fK,aU,bD,dO,aH,lk,aT])
end Go.Fv.H
/- Pages of archives that were made, taken and read. -/
namespace Go.Fv.H
open Go Go.Proofs
theorem LG {l:List En} (h:(l.map En.n).Nodup) {x:En} (hx:x∈l):l.find? (fun y=>decide (y.n=x.n))=some x:=by
 induction l with
 | nil=>cases hx
 | cons y l ih=>
  rw [List.map_cons,List.nodup_cons] at h
  rw [List.find?_cons]
  rcases List.mem_cons.1 hx with rfl|hx
  ·simp
  ·have hne:y.n≠x.n:=fun e=>h.1 (e▸List.mem_map.2 ⟨x,hx,rfl⟩)
   rw [decide_eq_false hne]
   exact ih h.2 hx
theorem Vz {l:List NP} (kind:Int) {i:Nat} (hi:i<l.length):(pz kind l).getD i ([],[])=((l.getD i NP.zero).n,zn kind (l.getD i NP.zero)):=by
 unfold pz
 rw [List.getD_eq_getElem?_getD,List.getElem?_map,List.getD_eq_getElem?_getD,List.getElem?_eq_getElem hi];rfl
theorem UY {l:List NP} {kind:Int} (h:(mG l kind).2=0) {i:Nat} (hi:i<l.length) :
  wO (mG l kind).1 (l.getD i NP.zero).n=⟨(l.getD i NP.zero).W.toNat,(l.getD i NP.zero).H.toNat,(l.getD i NP.zero).p,0⟩:=by
 obtain ⟨e,hA,hP,hl,hk⟩:=N9 h
 rw [e]
 dsimp only
 obtain ⟨hO,hL⟩:=Qi hA
 have hx:l.getD i NP.zero∈l:=by rw [getD_lt hi];exact List.getElem_mem hi
 have hic:i<(pz kind l).length:=by rw [vJ];exact hi
 obtain ⟨a1,a2⟩:=Ru hic
 have hci:=Vz kind hi
 unfold wO
 rw [sN hL,hO]
 dsimp only
 rw [if_neg (by simp),if_pos (hP.name _ hx)]
 have hlen:(fV ((pz kind l).map fun x=>(x.1,x.2.length)) (hdB (pz kind l)).length).length=(pz kind l).length:=by rw [fZ,List.length_map]
 have hnd:((fV ((pz kind l).map fun x=>(x.1,x.2.length)) (hdB (pz kind l)).length).map En.n).Nodup:=by
  rw [xJ,List.map_map]
  exact hA.nodup
 generalize fV ((pz kind l).map fun x=>(x.1,x.2.length)) (hdB (pz kind l)).length=M at *
 have hm:M.getD i En.zero∈M:=by rw [getD_lt (by omega)];exact List.getElem_mem (by omega)
 have hf:=LG hnd hm
 rw [a1,hci] at hf
 dsimp only at hf
 rw [hf]
 dsimp only
 rw [hci] at a2
 dsimp only at a2
 rw [a2]
 exact RX hk (hP.ok _ hx)
end Go.Fv.H
/- shrink.checkPages, dataFor, joined, Pack: the walk. -/
namespace Go.Fv.H
open Go Go.Proofs
set_option maxHeartbeats 4000000 in
theorem Du (l:List NP) (kind:Int):aC Tryz.prog 89 [.ro (YL l),.int .i64 kind] (.int .i64 (OW l kind)) []:=by
 obtain ⟨R,hR⟩:∃ R,OW l kind=R:=⟨_,rfl⟩
 rw [hR]
 unfold OW at hR
 refine aC.aJ Tryz.func89 rfl (by decide) (by simp [Tryz.f89]) [.tmp 4] rfl fun w0 T0 _=>?_
 simp only [Tryz.f89,aB]
 by_cases h1:500<l.length
 ·have f1:((500:Int)<(l.length:Int))=True:=eq_true (by omega)
  rw [if_pos h1] at hR
  rw [←hR]
  (repeat' with_reducible first|intro _|refine rz ?_|refine ra ?_ ?_|omega|simp only [go_sem,List.length_map,f1])
  refine bf.auto 0 ?_ rfl ?_<;>simp only [go_sem,Int.natCast_succ,Post]
 have f1:((500:Int)<(l.length:Int))=False:=eq_false (by omega)
 rw [if_neg h1] at hR
 (repeat' with_reducible first|intro _|refine rz ?_|refine ra ?_ ?_|omega|simp only [go_sem,List.length_map,f1])
 refine aI.intro (fun j:Nat=>⟨44,[(15,.int .i64 j),(14,.int .i64 l.length),(13,.ro (YL l)),(5,.own 0),(1,.int .i64 kind)],[(0,.map (((l.map NP.n).take j).map .str) (((l.map NP.n).take j).map fun _=>.bool true))],1⟩) (fun j=>j≤l.length∧zx l j=0) (fun j=>l.length - j) 0 ?_ ⟨Nat.zero_le _,rfl⟩ fun j hj=>?_
 ·refine aO.ak rfl ?_ ?_<;>simp only [go_sem,Int.natCast_succ]
  all_goals first|rfl|exact ⟨rfl,rfl⟩|trace_state
 obtain ⟨hj1,hj2⟩:=hj
 by_cases hlt:j<l.length
 ·have f7:((j:Int)<(l.length:Int))=True:=eq_true (by omega)
  have hst:zx l (j+1)=if zx l j≠0 then zx l j else if fQ (l.getD j NP.zero).n=true then (if (l.getD j NP.zero).n∈(l.take j).map NP.n then 6 else Xp (l.getD j NP.zero)) else 5:=rfl
  have hle:=@Ue l (j+1) l.length
  have hee:=Gt l hlt
  have htk:(l.map NP.n).take (j+1)=(l.map NP.n).take j++[(l.getD j NP.zero).n]:=by
   have hjl:j<(l.map NP.n).length:=by rw [List.length_map];exact hlt
   rw [List.take_succ_eq_append_getElem hjl,List.getElem_map,getD_lt hlt]
  rw [hj2,if_neg (by simp),List.map_take] at hst
  have kc:=jk (l.getD j NP.zero).W (l.getD j NP.zero).H (l.getD j NP.zero).p
  have hnp:Xp (l.getD j NP.zero)=jq (l.getD j NP.zero).W (l.getD j NP.zero).H (l.getD j NP.zero).p.length:=rfl
  generalize l.getD j NP.zero=x at *
  obtain ⟨xn,xw,xh,xp⟩:=x
  dsimp only at hst hee htk kc hnp
  rw [←hnp] at kc
  generalize Xp ⟨xn,xw,xh,xp⟩=E at *
  have kn:=sK xn
  (repeat' with_reducible first|intro _|refine rz ?_|refine ra ?_ ?_|omega|simp only [go_sem,f7,hee,dY,List.length_map])
  refine ah.k kn ?_
  cases hn:fQ xn with
  | false=>
   rw [hn,if_neg (by decide)] at hst
   have h0:=hle (by rw [hst];decide) (by omega)
   rw [h0,hst,if_pos (by decide)] at hR
   rw [←hR]
   (repeat' with_reducible first|intro _|exact dn|refine rn ?_|refine ra ?_ ?_)
   refine bf.auto 0 ?_ rfl ?_<;>simp only [go_sem,Int.natCast_succ,Post]
  | true=>
   rw [hn,if_pos rfl] at hst
   have g:=sJ ((l.map NP.n).take j) xn
   by_cases hd:xn∈(l.map NP.n).take j
   ·rw [if_pos hd] at hst
    have h0:=hle (by rw [hst];decide) (by omega)
    rw [h0,hst,if_pos (by decide)] at hR
    rw [←hR]
    rw [decide_eq_true hd] at g
    (repeat' with_reducible first|intro _|refine rz ?_|refine ra ?_ ?_|omega|simp only [go_sem,g])
    refine bf.auto 0 ?_ rfl ?_<;>simp only [go_sem,Int.natCast_succ,Post]
   ·rw [if_neg hd] at hst
    rw [decide_eq_false hd] at g
    have hins:DC ((l.map NP.n).take j) xn=(l.map NP.n).take (j+1):=by unfold DC;rw [if_neg hd,htk]
    (repeat' with_reducible first|intro _|refine rz ?_|refine ra ?_ ?_|omega|simp only [go_sem,g])
    refine ah.k kc ?_
    by_cases h0:E=0
    ·have f8:(E=0)=True:=eq_true h0
     (repeat' with_reducible first|intro _|refine rz ?_|refine ra ?_ ?_|omega|simp only [go_sem,f8])
     refine ⟨j+1,aO.ak rfl ?_ ?_,⟨by omega,by rw [hst];exact h0⟩,by omega⟩<;>simp only [go_sem,Int.natCast_succ,hins]
    ·have f8:(E=0)=False:=eq_false h0
     have h9:=hle (by rw [hst];exact h0) (by omega)
     rw [h9,hst,if_pos h0] at hR
     rw [←hR]
     (repeat' with_reducible first|intro _|refine rz ?_|refine ra ?_ ?_|omega|simp only [go_sem,f8])
     refine bf.auto 0 ?_ rfl ?_<;>simp only [go_sem,Int.natCast_succ,Post]
 ·have e:j=l.length:=by omega
  subst e
  have f7:((l.length:Int)<(l.length:Int))=False:=eq_false (by omega)
  rw [if_neg (by rw [hj2];simp)] at hR
  have ki:=jP kind
  by_cases hk:1≤kind∧kind≤4
  ·rw [decide_eq_true hk] at ki
   rw [if_pos (by omega)] at hR
   rw [←hR]
   (repeat' with_reducible first|intro _|refine rz ?_|refine ra ?_ ?_|omega|simp only [go_sem,f7])
   refine ah.k ki ?_
   (repeat' with_reducible first|intro _|exact dn|refine rn ?_|refine ra ?_ ?_)
   refine bf.auto 0 ?_ rfl ?_<;>simp only [go_sem,Int.natCast_succ,Post]
  ·rw [decide_eq_false hk] at ki
   by_cases h5:kind=5
   ·have f9:(kind=5)=True:=eq_true h5
    rw [if_pos (by omega)] at hR
    rw [←hR]
    (repeat' with_reducible first|intro _|refine rz ?_|refine ra ?_ ?_|omega|simp only [go_sem,f7])
    refine ah.k ki ?_
    (repeat' with_reducible first|intro _|refine rz ?_|refine ra ?_ ?_|omega|simp only [go_sem,f9])
    refine bf.auto 0 ?_ rfl ?_<;>simp only [go_sem,Int.natCast_succ,Post]
   ·have f9:(kind=5)=False:=eq_false h5
    rw [if_neg (by omega)] at hR
    rw [←hR]
    (repeat' with_reducible first|intro _|refine rz ?_|refine ra ?_ ?_|omega|simp only [go_sem,f7])
    refine ah.k ki ?_
    (repeat' with_reducible first|intro _|refine rz ?_|refine ra ?_ ?_|omega|simp only [go_sem,f9])
    refine bf.auto 0 ?_ rfl ?_<;>simp only [go_sem,Int.natCast_succ,Post]
theorem Lr (x:NP) (h:x.Ok) (kind:Int) (hk:1≤kind∧kind≤5):aC Tryz.prog 88 [.agg [.int .i64 x.W,.int .i64 x.H,.ro (.bools x.p)],.int .i64 kind] (.str (zn kind x)) []:=by
 have kb:=Vs _ _ _ h
 obtain ⟨w1,w2⟩:=h.w
 refine aC.aJ Tryz.func88 rfl (by decide) (by simp [Tryz.f88]) [.tmp 4] rfl fun w0 T0 _=>?_
 simp only [Tryz.f88,aB]
 unfold zn
 by_cases h5:kind=5
 ·have f9:(kind=5)=True:=eq_true h5
  rw [if_pos h5]
  rw [w1,w2] at kb
  generalize fU x.W.toNat x.H.toNat x.p 4=B at *
  (repeat' with_reducible first|intro _|refine rz ?_|refine ra ?_ ?_|omega|simp only [go_sem,f9])
  refine ah.k kb ?_
  (repeat' with_reducible first|intro _|exact dn|refine rn ?_|refine ra ?_ ?_)
  refine bf.auto 0 ?_ rfl ?_<;>simp only [go_sem,Int.natCast_succ,Post]
 ·have f9:(kind=5)=False:=eq_false h5
  have ke:=oC _ _ h.w0 h.w1 h.h1 h.wh x.p h.p kind (by omega)
  rw [if_neg h5]
  rw [w1,w2] at ke
  generalize dN x.W.toNat x.H.toNat x.p kind=B at *
  (repeat' with_reducible first|intro _|refine rz ?_|refine ra ?_ ?_|omega|simp only [go_sem,f9])
  refine ah.k ke ?_
  (repeat' with_reducible first|intro _|exact dn|refine rn ?_|refine ra ?_ ?_)
  refine bf.auto 0 ?_ rfl ?_<;>simp only [go_sem,Int.natCast_succ,Post]
def YK (x:Bytes × Bytes):List AV:=[.str x.1,.str x.2]
abbrev its (l:List (Bytes × Bytes)):aF:=.objs 2 (l.map YK)
instance:yK YK:=⟨fun _=>rfl⟩
theorem Oz (l:List (Bytes × Bytes)) {i:Nat} (h:i<l.length):(l.map YK).getD i []=[.str (l.getD i ([],[])).1,.str (l.getD i ([],[])).2]:=by
 simp [List.getD_eq_getElem?_getD,h,YK]
def Rh (l:List (Bytes × Bytes)) (i:Nat):Bytes:=(wz++dV 2 l.length)++(l.take i).flatMap jO
theorem V5 (l:List (Bytes × Bytes)):Rh l l.length=hdB l:=by unfold Rh hdB;rw [List.take_length,List.append_assoc]
theorem Jf (l:List (Bytes × Bytes)) {i:Nat} (h:i<l.length):Rh l (i+1)=Rh l i++(dV 1 (l.getD i ([],[])).1.length++(l.getD i ([],[])).1++dV 4 (l.getD i ([],[])).2.length):=by
 unfold Rh
 rw [List.take_succ_eq_append_getElem h,List.flatMap_append,List.flatMap_singleton,←List.append_assoc,getD_lt h]
 unfold jO
 simp only [List.append_assoc]
theorem Oy {l:List (Bytes × Bytes)} {n:Nat} (hN:∀ x,x∈l→x.1.length≤n):∀ i,i≤l.length→(Rh l i).length≤6+i*(n+5)
 | 0,_=>by unfold Rh;simp only [List.take_zero,List.flatMap_nil,List.append_nil,List.length_append,aP];show 4+2≤_;omega
 | i+1,h=>by
  have ih:=Oy hN i (by omega)
  have hi:i<l.length:=by omega
  rw [Jf l hi]
  have:=hN (l.getD i ([],[])) (by rw [getD_lt hi];exact List.getElem_mem hi)
  simp only [List.length_append,aP]
  rw [Nat.succ_mul];omega
theorem Pv {l:List (Bytes × Bytes)} {i:Nat} (h:i<l.length):eF (l.take (i+1))=eF (l.take i)++(l.getD i ([],[])).2:=by
 rw [List.take_succ_eq_append_getElem h,Ed,getD_lt h]
theorem Oa (l:List (Bytes × Bytes)) (i:Nat):(eF (l.take i)).length≤(eF l).length:=by
 conv=>rhs;rw [←List.take_append_drop i l]
 unfold eF
 rw [List.flatMap_append,List.length_append];omega
structure YR (l:List (Bytes × Bytes)):Prop where
 many:l.length≤70000
 name:∀ x,x∈l→x.1.length≤1000
 code:∀ x,x∈l→x.2.length≤100000000
 long:(eF l).length≤5000000000
set_option maxHeartbeats 4000000 in
theorem P8 (l:List (Bytes × Bytes)) (h:YR l):aC Tryz.prog 87 [.ro (its l)] (.str (oW l)) []:=by
 have hm:=h.many
 have hlong:=h.long
 have kb0:aC Tryz.prog 108 [.int .i64 l.length,.int .i64 2] (.str (dV 2 l.length)) []:=uy l.length l.length 2 (.inl rfl) (by omega) (by omega) (by omega)
 have hP:=Oy h.name
 have hb2:=aP 2 l.length
 have h00:Rh l 0=70::66::65::49::dV 2 l.length:=by unfold Rh;rw [List.take_zero,List.flatMap_nil,List.append_nil];rfl
 refine aC.aJ Tryz.func87 rfl (by decide) (by simp [Tryz.f87]) [.tmp 2] rfl fun w0 T0 _=>?_
 simp only [Tryz.f87,aB]
 generalize hB2:dV 2 l.length=B2 at *
 (repeat' with_reducible first|intro _|refine rz ?_|refine ra ?_ ?_|omega|simp only [go_sem,List.length_map])
 refine ah.k kb0 ?_
 (repeat' with_reducible first|intro _|refine rz ?_|refine ra ?_ ?_|omega|simp only [go_sem,List.length_map])
 refine aI.intro (fun i:Nat=>⟨54,[(16,.int .i64 i),(15,.int .i64 l.length),(14,.ro (its l)),(3,.str (Rh l i)),(0,.ro (its l))],[],0⟩) (fun i=>i≤l.length) (fun i=>l.length - i) 0 ?_ (Nat.zero_le _) fun i hi=>?_
 ·refine aO.ak rfl ?_ ?_<;>simp only [go_sem,Int.natCast_succ,h00]
 have hPi:=hP i hi
 have hP2:(Rh l i).length≤1000000000:=by have:i*(1000+5)≤70000*(1000+5):=Nat.mul_le_mul_right _ (by omega);omega
 by_cases hlt:i<l.length
 ·have f7:((i:Int)<(l.length:Int))=True:=eq_true (by omega)
  have hee:=Oz l hlt
  have hst:=Jf l hlt
  have hn:=h.name (l.getD i ([],[])) (by rw [getD_lt hlt];exact List.getElem_mem hlt)
  have hc:=h.code (l.getD i ([],[])) (by rw [getD_lt hlt];exact List.getElem_mem hlt)
  generalize l.getD i ([],[])=x at *
  obtain ⟨xn,xd⟩:=x
  dsimp only at hee hst hn hc
  have k1:aC Tryz.prog 108 [.int .i64 xn.length,.int .i64 1] (.str (dV 1 xn.length)) []:=uy xn.length xn.length 1 (.inl rfl) (by omega) (by omega) (by omega)
  have k4:aC Tryz.prog 108 [.int .i64 xd.length,.int .i64 4] (.str (dV 4 xd.length)) []:=uy xd.length xd.length 4 (.inl rfl) (by omega) (by omega) (by omega)
  have b1:=aP 1 xn.length
  have b4:=aP 4 xd.length
  generalize dV 1 xn.length=B1 at *
  generalize dV 4 xd.length=B4 at *
  generalize Rh l i=P at *
  (repeat' with_reducible first|intro _|refine rz ?_|refine ra ?_ ?_|omega|simp only [go_sem,f7,hee,dY,List.length_map])
  refine bC.lex [] [] (by kernel_rfl) (by kernel_rfl) ?_
  (repeat' with_reducible first|intro _|exact dn|refine rn ?_|refine ra ?_ ?_)
  (refine QV.intro (.str B1) ?_ ?_;focus ((repeat' with_reducible first|intro _|exact dn|refine rn ?_|refine ra ?_ ?_);refine ah.k (k1) ?_;(repeat' with_reducible first|intro _|exact dn|refine rn ?_|refine ra ?_ ?_)))
  (repeat' with_reducible first|intro _|exact dn|refine rn ?_|refine ra ?_ ?_)
  (refine QV.intro (.str B4) ?_ ?_;focus ((repeat' with_reducible first|intro _|exact dn|refine rn ?_|refine ra ?_ ?_);refine ah.k (k4) ?_;(repeat' with_reducible first|intro _|exact dn|refine rn ?_|refine ra ?_ ?_)))
  (repeat' with_reducible first|intro _|exact dn|refine rn ?_|refine ra ?_ ?_)
  refine ⟨i+1,aO.ak rfl ?_ ?_,by omega,by omega⟩<;>simp only [go_sem,Int.natCast_succ,hst]
 have e:i=l.length:=by omega
 subst e
 have f7:((l.length:Int)<(l.length:Int))=False:=eq_false (by omega)
 rw [V5] at hP2 ⊢
 have ks:=jE (hdB l) (by omega)
 have hA:oW l=hdB l++eF l++dX (hdB l):=by unfold oW;rw [List.append_assoc]
 have hsl:=rH (hdB l)
 have hc0:eF (l.take 0)=[]:=rfl
 have hle:=Oa l
 generalize hdB l=P at *
 generalize dX P=S at *
 rw [hA]
 (repeat' with_reducible first|intro _|refine rz ?_|refine ra ?_ ?_|omega|simp only [go_sem,f7])
 refine ah.k ks ?_
 (repeat' with_reducible first|intro _|refine rz ?_|refine ra ?_ ?_|omega|simp only [go_sem,List.length_map])
 refine aI.intro (fun i:Nat=>⟨54,[(41,.int .i64 i),(40,.int .i64 l.length),(39,.ro (its l)),(7,.own 0),(6,.str S)],[(0,.row 5 (.ints .u8 (aj (P++eF (l.take i)))))],1⟩) (fun i=>i≤l.length) (fun i=>l.length - i) 0 ?_ (Nat.zero_le _) fun i hi=>?_
 ·refine aO.ak rfl ?_ ?_<;>simp only [go_sem,Int.natCast_succ]
  all_goals (show aj P=aj (P++[]);rw [List.append_nil])
 have hbl:=pq (P++eF (l.take i))
 rw [List.length_append] at hbl
 have hlei:=hle i
 by_cases hlt:i<l.length
 ·have f8:((i:Int)<(l.length:Int))=True:=eq_true (by omega)
  have hee:=Oz l hlt
  have hst:=Pv hlt
  have hc:=h.code (l.getD i ([],[])) (by rw [getD_lt hlt];exact List.getElem_mem hlt)
  generalize l.getD i ([],[])=x at *
  obtain ⟨xn,xd⟩:=x
  dsimp only at hee hst hc
  have hb2:aj (P++eF (l.take (i+1)))=aj (P++eF (l.take i))++xd.map (fun b=>(b.toNat:Int)):=by
   rw [hst,←List.append_assoc];unfold aj;rw [List.map_append]
  generalize aj (P++eF (l.take i))=Q at *
  (repeat' with_reducible first|intro _|refine rz ?_|refine ra ?_ ?_|omega|simp only [go_sem,f8,hee,dY,List.length_map])
  refine ⟨i+1,aO.ak rfl ?_ ?_,by omega,by omega⟩<;>simp only [go_sem,Int.natCast_succ,hb2]
 have e:i=l.length:=by omega
 subst e
 have f8:((l.length:Int)<(l.length:Int))=False:=eq_false (by omega)
 rw [List.take_length] at *
 have hbb:=jM (P++eF l)
 (repeat' with_reducible first|intro _|refine rz ?_|refine ra ?_ ?_|omega|simp only [go_sem,f8,hbb])
 refine bf.auto 0 ?_ rfl ?_<;>simp only [go_sem,Int.natCast_succ,Post,hbb]
theorem RU {l:List NP} (kind:Int) {i:Nat} (h:i<l.length):pz kind (l.take (i+1))=pz kind (l.take i)++[((l.getD i NP.zero).n,zn kind (l.getD i NP.zero))]:=by
 unfold pz
 rw [List.take_succ_eq_append_getElem h,List.map_append,getD_lt h];rfl
theorem XM (kind:Int) (l:List NP) (i:Nat):(eF (pz kind (l.take i))).length≤(eF (pz kind l)).length:=by
 have:=Oa (pz kind l) i
 unfold pz at this ⊢
 rwa [List.map_take]
theorem XL {l:List NP} {kind:Int} (h:uZ l) (hl:l.length≤500) (hk:1≤kind∧kind≤5):YR (pz kind l):=by
 have hc:∀ x,x∈pz kind l→x.2.length≤1048597:=fun x hx=>by
  obtain ⟨y,hy,rfl⟩:=List.mem_map.1 hx
  exact (RY hk (h.ok y hy)).2
 refine ⟨by rw [vJ];omega,fun x hx=>?_,fun x hx=>by have:=hc x hx;omega,?_⟩
 ·obtain ⟨y,hy,rfl⟩:=List.mem_map.1 hx
  have:=uH (h.name y hy)
  dsimp only;omega
 ·have key:∀ m:List (Bytes × Bytes),(∀ x,x∈m→x.2.length≤1048597)→(eF m).length≤m.length*1048597:=by
   intro m
   induction m with
   | nil=>intro _;exact Nat.zero_le _
   | cons y m ih=>
    intro hm
    have h1:=hm y List.mem_cons_self
    have h2:=ih fun x hx=>hm x (List.mem_cons_of_mem _ hx)
    unfold eF at h2 ⊢
    rw [List.flatMap_cons,List.length_append,List.length_cons,Nat.succ_mul];omega
  have:=key _ hc
  rw [vJ] at this
  have:l.length*1048597≤500*1048597:=Nat.mul_le_mul_right _ hl
  omega
set_option maxHeartbeats 4000000 in
theorem WB (l:List NP) (kind:Int):aC Tryz.prog 38 [.ro (YL l),.int .i64 kind] (.tup [.str (mG l kind).1,.int .i64 (mG l kind).2]) []:=by
 have kc:=Du l kind
 obtain ⟨R,hR⟩:∃ R,mG l kind=R:=⟨_,rfl⟩
 rw [hR]
 unfold mG at hR
 refine aC.aJ Tryz.func38 rfl (by decide) (by simp [Tryz.f38]) [.tmp 4,.tmp 5] rfl fun w0 T0 _=>?_
 simp only [Tryz.f38,aB]
 by_cases h1:OW l kind=0
 rotate_left
 ·rw [if_pos h1] at hR
  have f1:(OW l kind=0)=False:=eq_false h1
  generalize OW l kind=E at *
  rw [←hR]
  (repeat' with_reducible first|intro _|exact dn|refine rn ?_|refine ra ?_ ?_)
  refine ah.k kc ?_
  (repeat' with_reducible first|intro _|refine rz ?_|refine ra ?_ ?_|omega|simp only [go_sem,f1])
  refine bf.auto 0 ?_ rfl ?_<;>simp only [go_sem,Int.natCast_succ,Post]
 rw [if_neg (by omega)] at hR
 obtain ⟨hP,hl5,hk⟩:=Uh h1
 rw [h1] at kc
 have hI:=XL hP hl5 hk
 have hlen:=vw (pz kind l)
 have hJ:=P8 _ hI
 have hlong:=hI.long
 have hmany:=hI.many
 (repeat' with_reducible first|intro _|exact dn|refine rn ?_|refine ra ?_ ?_)
 refine ah.k kc ?_
 (repeat' with_reducible first|intro _|refine rz ?_|refine ra ?_ ?_|omega|simp only [go_sem,List.length_map])
 refine aI.intro (fun i:Nat=>⟨50,[(21,.int .i64 i),(20,.int .i64 l.length),(19,.ro (YL l)),(8,.int .i64 ((eF (pz kind (l.take i))).length:Nat)),(7,.own 0),(1,.int .i64 kind)],[(0,.row 124 (its (pz kind (l.take i))))],1⟩) (fun i=>i≤l.length) (fun i=>l.length - i) 0 ?_ (Nat.zero_le _) fun i hi=>?_
 ·refine aO.ak rfl ?_ ?_<;>simp only [go_sem,Int.natCast_succ]
  all_goals first|rfl|exact ⟨rfl,rfl⟩|trace_state
 have hle:=XM kind l
 have hcl:=vJ kind (l.take i)
 rw [List.length_take,Nat.min_eq_left hi] at hcl
 by_cases hlt:i<l.length
 ·have f7:((i:Int)<(l.length:Int))=True:=eq_true (by omega)
  have hee:=Gt l hlt
  have hst:=RU kind hlt
  have hxo:=hP.ok (l.getD i NP.zero) (by rw [getD_lt hlt];exact List.getElem_mem hlt)
  have kd:=Lr (l.getD i NP.zero) hxo kind hk
  have hcs:=Ed (pz kind (l.take i)) ((l.getD i NP.zero).n,zn kind (l.getD i NP.zero))
  rw [←hst] at hcs
  replace hcs:=congrArg List.length hcs
  rw [List.length_append] at hcs
  dsimp only at hcs
  have hl2:=hle (i+1)
  have hl1:=hle i
  generalize hx:l.getD i NP.zero=x at *
  generalize hD:zn kind x=D at *
  have hmap:(pz kind (l.take i)).map YK++[[.str x.n,.str D]]=(pz kind (l.take (i+1))).map YK:=by rw [hst,List.map_append];rfl
  obtain ⟨xn,xw,xh,xp⟩:=x
  dsimp only at hee kd hmap
  generalize (eF (pz kind (l.take i))).length=A at *
  generalize hA2:(eF (pz kind (l.take (i+1)))).length=A2 at *
  have hAA:(A:Int)+(D.length:Int)=(A2:Int):=by omega
  (repeat' with_reducible first|intro _|refine rz ?_|refine ra ?_ ?_|omega|simp only [go_sem,f7,hee,dY,List.length_map])
  refine bC.lex [7,8] [(0,[1]),(1,[1]),(2,[1]),(3,[1]),(4,[1]),(5,[1]),(6,[1])] (by kernel_rfl) (by kernel_rfl) ?_
  (repeat' with_reducible first|intro _|exact dn|refine rn ?_|refine ra ?_ ?_)
  (refine QV.intro (.str D) ?_ ?_;focus ((repeat' with_reducible first|intro _|exact dn|refine rn ?_|refine ra ?_ ?_);refine ah.k (kd) ?_;(repeat' with_reducible first|intro _|exact dn|refine rn ?_|refine ra ?_ ?_)))
  (repeat' with_reducible first|intro _|refine rz ?_|refine ra ?_ ?_|omega|simp only [go_sem,hAA,hcl])
  ·refine ah.k kd ?_
   (repeat' with_reducible first|intro _|exact dn|refine rn ?_|refine ra ?_ ?_)
  ·rw [if_pos (by omega)] at hR
   rw [←hR]
   refine bf.auto 0 ?_ rfl ?_<;>simp only [go_sem,Int.natCast_succ,Post]
  ·refine ⟨i+1,aO.ak rfl ?_ ?_,by omega,by omega⟩<;>simp only [go_sem,Int.natCast_succ,hmap,hA2]
 have e:i=l.length:=by omega
 subst e
 have f7:((l.length:Int)<(l.length:Int))=False:=eq_false (by omega)
 rw [List.take_length]
 generalize oW (pz kind l)=A at *
 (repeat' with_reducible first|intro _|refine rz ?_|refine ra ?_ ?_|omega|simp only [go_sem,f7])
 refine ah.k hJ ?_
 by_cases h4:4194304<A.length
 ·have f8:((4194304:Int)<(A.length:Int))=True:=eq_true (by omega)
  rw [if_pos h4] at hR
  rw [←hR]
  (repeat' with_reducible first|intro _|refine rz ?_|refine ra ?_ ?_|omega|simp only [go_sem,f8])
  refine bf.auto 0 ?_ rfl ?_<;>simp only [go_sem,Int.natCast_succ,Post]
 ·have f8:((4194304:Int)<(A.length:Int))=False:=eq_false (by omega)
  rw [if_neg h4] at hR
  rw [←hR]
  (repeat' with_reducible first|intro _|refine rz ?_|refine ra ?_ ?_|omega|simp only [go_sem,f8])
  refine bf.auto 0 ?_ rfl ?_<;>simp only [go_sem,Int.natCast_succ,Post]
end Go.Fv.H
/- Pages, as data. -/
namespace Go.Fv.H
open Go Go.Proofs
structure Pg where
 W:Int
 H:Int
 p:List Bool
def Pg.av (s:Pg):List AV:=[.int .i64 s.W,.int .i64 s.H,.ro (.bools s.p)]
def Pg.zero:Pg:=⟨0,0,[]⟩
abbrev pgs (l:List Pg):aF:=.objs 3 (l.map Pg.av)
instance:yK Pg.av:=⟨fun _=>rfl⟩
theorem WC (l:List Pg) {i:Nat} (h:i<l.length):(l.map Pg.av).getD i []=[.int .i64 (l.getD i Pg.zero).W,.int .i64 (l.getD i Pg.zero).H,.ro (.bools (l.getD i Pg.zero).p)]:=by
 simp [List.getD_eq_getElem?_getD,h,Pg.av]
end Go.Fv.H
/- The page that bedtop makes of a raw one. -/
namespace Go.Fv.H
open Go Go.Proofs
theorem LX:aC Tryz.prog 47 [] (.bool true) []:=by
 have k:=sK [97]
 refine aC.aJ Tryz.func47 rfl (by decide) (by simp [Tryz.f47]) [.tmp 0] rfl fun w0 T0 _=>?_
 simp only [Tryz.f47,aB]
 have e:fQ [97]=true:=by decide
 rw [e] at k
 (repeat' with_reducible first|intro _|exact dn|refine rn ?_|refine ra ?_ ?_)
 refine ah.k k ?_
 (repeat' with_reducible first|intro _|exact dn|refine rn ?_|refine ra ?_ ?_)
 refine bf.auto 0 ?_ rfl ?_<;>simp only [go_sem,Int.natCast_succ,Post]
theorem NT (a:Int):0≤dh .and .i64 a 31∧dh .and .i64 a 31≤31:=by
 obtain ⟨h1,h2,h3⟩:=(show 1≤bT a 31∧bT a 31≤32∧1+dh .and .i64 a 31=((bT a 31:Nat):Int) from jo a 31 (by decide))
 omega
def WU (p:List Bool) (n:Nat):List Bool:=(List.range n).map fun k=>decide (0<p.length) && p.getD (k%p.length) false
theorem UM (p:List Bool) (n:Nat):WU p (n+1)=WU p n++[decide (0<p.length) && p.getD (n%p.length) false]:=by
 simp [WU,List.range_succ]
theorem zS (p:List Bool) (n:Nat):(WU p n).length=n:=by simp [WU]
def U8 (x:Pg):Pg:=⟨bT x.W 31,bT x.H 31,WU x.p (bT x.W 31*bT x.H 31)⟩
set_option maxHeartbeats 4000000 in
theorem Nj (x:Pg):aC Tryz.prog 49 [.agg x.av] (.agg [.int .i64 (bT x.W 31),.int .i64 (bT x.H 31),.own 0]) [(0,.row 4 (.bools (WU x.p (bT x.W 31*bT x.H 31))))]:=by
 obtain ⟨W,H,p⟩:=x
 obtain ⟨w1,w2,w3⟩:=(show 1≤bT W 31∧bT W 31≤32∧1+dh .and .i64 W 31=((bT W 31:Nat):Int) from jo W 31 (by decide))
 obtain ⟨h1,h2,h3⟩:=(show 1≤bT H 31∧bT H 31≤32∧1+dh .and .i64 H 31=((bT H 31:Nat):Int) from jo H 31 (by decide))
 have b1:=NT W
 have b2:=NT H
 unfold Pg.av
 dsimp only
 generalize bT W 31=w at *
 generalize bT H 31=h at *
 have hA:w*h≤32*32:=Nat.mul_le_mul w2 h2
 have hM:(w:Int)*(h:Int)=((w*h:Nat):Int):=by simp
 generalize w*h=A at *
 refine aC.aJ Tryz.func49 rfl (by decide) (by simp [Tryz.f49]) [.cell 2 24] rfl fun w0 T0 _=>?_
 simp only [Tryz.f49,aB]
 (repeat' with_reducible first|intro _|refine rz ?_|refine ra ?_ ?_|omega|simp only [go_sem,w3,h3,hM])
 refine aI.intro (fun i:Nat=>⟨44,[(19,.int .i64 i),(18,.int .i64 A),(3,.ptr 2 0),(2,.ptr 1 0),(1,.ptr 0 0)],[(0,.box 24 [.int .i64 W,.int .i64 H,.ro (.bools p)]),(1,.box 24 [.int .i64 0,.int .i64 0,.nilS]),(2,.box 24 [.int .i64 w,.int .i64 h,.own 3]),(3,.row 4 (.bools (WU p i)))],4⟩) (fun i=>i≤A) (fun i=>A - i) 0 ?_ (Nat.zero_le _) fun i hi=>?_
 ·refine aO.trans (aO.jS (P:=Tryz.prog) 2 2 4 e4 rfl rfl) (aO.ak rfl ?_ ?_)<;>simp only [go_sem,Int.natCast_succ,WU,put,List.range_zero,List.map_nil]
 by_cases hlt:i<A
 ·have hs:=UM p i
  have hl:=zS p i
  have hm:=Nat.mod_lt i (y:=p.length)
  (repeat' with_reducible first|intro _|exact dn|refine rn ?_|refine ra ?_ ?_)
  refine bC.lex [17,18,20] [(0,[1]),(1,[1])] (by kernel_rfl) (by kernel_rfl) ?_
  by_cases hp:0<p.length
  ·have hp':(0:Int)<p.length:=by omega
   have hm:=hm hp
   rw [decide_eq_true hp,Bool.true_and] at hs
   (repeat' with_reducible first|intro _|refine rz ?_|refine ra ?_ ?_|omega|simp only [go_sem,hp',up_tmod,Int.toNat_natCast])
   refine ⟨i+1,aO.ak rfl ?_ ?_,by omega,by omega⟩<;>simp only [go_sem,Int.natCast_succ,hs]
   all_goals rfl
  ·have hp':¬(0:Int)<p.length:=by omega
   rw [decide_eq_false hp,Bool.false_and] at hs
   (repeat' with_reducible first|intro _|refine rz ?_|refine ra ?_ ?_|omega|simp only [go_sem,hp',up_tmod,Int.toNat_natCast])
   refine ⟨i+1,aO.ak rfl ?_ ?_,by omega,by omega⟩<;>simp only [go_sem,Int.natCast_succ,hs]
   all_goals rfl
 ·have e:i=A:=by omega
  subst e
  (repeat' with_reducible first|intro _|exact dn|refine rn ?_|refine ra ?_ ?_)
  refine bf.auto 1 ?_ rfl ?_<;>simp only [go_sem,Int.natCast_succ,Post]
end Go.Fv.H
/- What is joined, in plain words: a search from each number that is not seen yet. -/
namespace Go.Fv.H
open Go
def rng (a:Int):Nat→List Int
 | 0=>[]
 | n+1=>a::rng (a+1) n
theorem O1:∀ {n:Nat} {a x:Int},x∈rng a n→a≤x∧x<a+n
 | 0,a,x,h=>by cases h
 | n+1,a,x,h=>by
  rcases List.mem_cons.1 h with rfl|h
  ·omega
  ·have:=O1 h
   omega
structure RS where
 seen:List Bool
 l:List Int
def RS.vis (ok:Nat→Bool) (s:RS) (i:Nat):RS:=if s.seen.getD i false=true∨ok i=false then s else ⟨s.seen.set i true,s.l++[(i:Int)]⟩
def Ig (f:RS→Int→RS):Nat→Nat→RS→RS
 | 0,_,s=>s
 | n+1,k,s=>if k<s.l.length then Ig f n (k+1) (f s (s.l.getD k 0)) else s
def regs (ok:Nat→Bool) (f:RS→Int→RS) (n:Nat):Nat→Nat→List Bool→List (List Int)
 | 0,_,_=>[]
 | m+1,i,seen=>if seen.getD i false=true∨ok i=false then regs ok f n m (i+1) seen else
  (Ig f n 0 ⟨seen.set i true,[(i:Int)]⟩).l::regs ok f n m (i+1) (Ig f n 0 ⟨seen.set i true,[(i:Int)]⟩).seen
def GH (ok:Nat→Bool) (f:RS→Int→RS) (n:Nat):List (List Int):=regs ok f n n 0 (List.replicate n false)
theorem Vt (f:RS→Int→RS) (n k:Nat) (s:RS) (h:¬k<s.l.length):Ig f n k s=s:=by
 cases n with
 | zero=>rfl
 | succ n=>simp only [Ig];rw [if_neg h]
theorem RD (f:RS→Int→RS) {n k:Nat} {s:RS} (h:k<s.l.length):Ig f (n+1) k s=Ig f n (k+1) (f s (s.l.getD k 0)):=by
 simp only [Ig];rw [if_pos h]
/-! ### What holds of a region that grows -/
theorem count_set:∀ {l:List Bool} {i:Nat},i<l.length→l.getD i false=false→(l.set i true).count true=l.count true+1
 | b::l,0,_,h=>by
  have:b=false:=h
  subst this
  simp
 | b::l,i+1,hi,h=>by
  have ih:=count_set (l:=l) (i:=i) (by simpa using hi) (by simpa using h)
  cases b<;>simp [ih]
structure RInv (ok:Nat→Bool) (n c0:Nat) (s:RS):Prop where
 len:s.seen.length=n
 cnt:s.seen.count true=c0+s.l.length
 bd:∀ x,x∈s.l→0≤x∧x<(n:Int)
 ink:∀ j,s.seen.getD j false=true→ok j=true
 sn:∀ x,x∈s.l→s.seen.getD x.toNat false=true
theorem qR {l:List Bool} {i:Nat} (hi:i<l.length):(l.set i true).getD i false=true:=by simp [List.getD_eq_getElem?_getD,hi]
theorem RInv.le {ok:Nat→Bool} {n c0:Nat} {s:RS} (h:RInv ok n c0 s):s.l.length≤n:=by
 have h1:=h.cnt
 have h2:s.seen.count true≤s.seen.length:=List.count_le_length
 have h3:=h.len
 omega
theorem Jd {l:List Bool} {i j:Nat}:(l.set i true).getD j false=true→l.getD j false=true∨j=i:=by
 intro h
 by_cases e:i=j
 ·exact .inr e.symm
 ·rw [List.getD_eq_getElem?_getD,List.getElem?_set_ne e] at h
  exact .inl (by rw [List.getD_eq_getElem?_getD];exact h)
theorem kD {l:List Bool} {i j:Nat} (hi:i<l.length):l.getD j false=true→(l.set i true).getD j false=true:=by
 intro h
 by_cases e:i=j
 ·subst e
  simp [List.getD_eq_getElem?_getD,hi]
 ·rw [List.getD_eq_getElem?_getD,List.getElem?_set_ne e,←List.getD_eq_getElem?_getD];exact h
structure Dt (s s':RS):Prop where
 len:s.l.length≤s'.l.length
 pre:∃ r,s'.l=s.l++r
 seen:∀ j,s.seen.getD j false=true→s'.seen.getD j false=true
 new:∀ x,x∈s'.l→x∈s.l∨s.seen.getD x.toNat false=false
theorem Dt.refl (s:RS):Dt s s:=⟨Nat.le_refl _,⟨[],(List.append_nil _).symm⟩,fun _ h=>h,fun _ h=>.inl h⟩
theorem Dt.trans {s s' s'':RS} (h:Dt s s') (h':Dt s' s''):Dt s s'':=by
 refine ⟨Nat.le_trans h.len h'.len,?_,fun j hj=>h'.seen j (h.seen j hj),fun x hx=>?_⟩
 ·obtain ⟨r,hr⟩:=h.pre
  obtain ⟨r',hr'⟩:=h'.pre
  exact ⟨r++r',by rw [hr',hr,List.append_assoc]⟩
 ·rcases h'.new x hx with h1|h1
  ·exact h.new x h1
  ·refine .inr ?_
   cases hq:s.seen.getD x.toNat false with
   | false=>rfl
   | true=>rw [h.seen _ hq] at h1;cases h1
theorem JG {a b:Bool} (h:¬(a=true∨b=false)):a=false∧b=true:=by
 cases a<;>cases b<;>simp at h ⊢
theorem RS.Xe {ok:Nat→Bool} {n c0:Nat} {s:RS} (h:RInv ok n c0 s) {i:Nat} (hi:i<n):RInv ok n c0 (s.vis ok i)∧Dt s (s.vis ok i):=by
 unfold RS.vis
 split
 ·exact ⟨h,Dt.refl s⟩
 ·rename_i hn
  obtain ⟨hs,hp⟩:=JG hn
  have hl:i<s.seen.length:=by rw [h.len];exact hi
  refine ⟨⟨by simp only [List.length_set];exact h.len,?_,fun x hx=>?_,fun j hj=>?_,fun x hx=>?_⟩,⟨by simp,⟨_,rfl⟩,fun j hj=>kD hl hj,fun x hx=>?_⟩⟩
  ·simp only [count_set hl hs,List.length_append,List.length_cons,List.length_nil]
   have:=h.cnt
   omega
  ·rcases List.mem_append.1 hx with hx|hx
   ·exact h.bd x hx
   ·rw [List.mem_singleton.1 hx];omega
  ·rcases Jd hj with hj|rfl
   ·exact h.ink j hj
   ·exact hp
  ·rcases List.mem_append.1 hx with hx|hx
   ·exact kD hl (h.sn x hx)
   ·rw [List.mem_singleton.1 hx,Int.toNat_natCast];exact qR hl
  ·rcases List.mem_append.1 hx with hx|hx
   ·exact .inl hx
   ·rw [List.mem_singleton.1 hx,Int.toNat_natCast];exact .inr hs
theorem AQ {α β:Type} {P:α→Prop} {R:α→α→Prop} (hr:∀ a,R a a) (ht:∀ a b c,R a b→R b c→R a c) {f:α→β→α}:∀ (l:List β) (s:α),P s→(∀ s x,P s→x∈l→P (f s x)∧R s (f s x))→P (l.foldl f s)∧R s (l.foldl f s)
 | [],s,hs,_=>⟨hs,hr s⟩
 | x::l,s,hs,h=>by
  obtain ⟨h1,h2⟩:=h s x hs (List.mem_cons_self)
  obtain ⟨h3,h4⟩:=AQ hr ht l (f s x) h1 fun s y hs hy=>h s y hs (List.mem_cons_of_mem _ hy)
  exact ⟨h3,ht _ _ _ h2 h4⟩
def qC (ok:Nat→Bool) (n:Nat) (f:RS→Int→RS):Prop:=∀ c0 s c,RInv ok n c0 s→0≤c→c<(n:Int)→RInv ok n c0 (f s c)∧Dt s (f s c)
theorem getD_mem {l:List Int} {k:Nat} (h:k<l.length):l.getD k 0∈l:=by rw [getD_lt h];exact List.getElem_mem h
theorem NY {ok:Nat→Bool} {n:Nat} {f:RS→Int→RS} (hf:qC ok n f) {c0:Nat}:∀ (m k:Nat) (s:RS),RInv ok n c0 s→RInv ok n c0 (Ig f m k s)∧Dt s (Ig f m k s)
 | 0,k,s,h=>⟨h,Dt.refl s⟩
 | m+1,k,s,h=>by
  simp only [Ig]
  split
  ·rename_i hk
   obtain ⟨b1,b2⟩:=h.bd _ (getD_mem hk)
   obtain ⟨h1,h2⟩:=hf c0 s (s.l.getD k 0) h b1 b2
   obtain ⟨h3,h4⟩:=NY hf m (k+1) _ h1
   exact ⟨h3,h2.trans h4⟩
  ·exact ⟨h,Dt.refl s⟩
structure tK (ok:Nat→Bool) (n i:Nat) (seen:List Bool):Prop where
 len:seen.length=n
 ink:∀ j,seen.getD j false=true→ok j=true
 all:∀ j,j<i→ok j=true→seen.getD j false=true
theorem tK.zero (ok:Nat→Bool) (n:Nat):tK ok n 0 (List.replicate n false):=by
 refine ⟨by simp,fun j hj=>?_,fun j hj=>absurd hj (by omega)⟩
 rw [List.getD_eq_getElem?_getD,List.getElem?_replicate] at hj
 split at hj<;>cases hj
theorem tK.skip {ok:Nat→Bool} {n i:Nat} {seen:List Bool} (h:tK ok n i seen) (hn:seen.getD i false=true∨ok i=false):tK ok n (i+1) seen:=by
 refine ⟨h.len,h.ink,fun j hj hp=>?_⟩
 by_cases e:j=i
 ·subst e
  rcases hn with hn|hn
  ·exact hn
  ·rw [hp] at hn;cases hn
 ·exact h.all j (by omega) hp
theorem tK.start {ok:Nat→Bool} {n i:Nat} {seen:List Bool} (h:tK ok n i seen) (hi:i<n) (hn:¬(seen.getD i false=true∨ok i=false)) :
  RInv ok n (seen.count true) ⟨seen.set i true,[(i:Int)]⟩:=by
 obtain ⟨hs,hp⟩:=JG hn
 have hl:=h.len
 refine ⟨by simp only [List.length_set];exact hl,?_,fun x hx=>?_,fun j hj=>?_,fun x hx=>?_⟩
 ·simp only [count_set (show i<seen.length by omega) hs,List.length_cons,List.length_nil]
 ·rw [List.mem_singleton.1 hx];omega
 ·rcases Jd hj with hj|rfl
  ·exact h.ink j hj
  ·exact hp
 ·rw [List.mem_singleton.1 hx,Int.toNat_natCast];exact qR (by omega)
structure NR (n i:Nat) (l:List Int):Prop where
 bd:∀ x,x∈l→(i:Int)≤x∧x<(n:Int)
 hd:∃ t,l=(i:Int)::t
 le:l.length≤n
theorem tK.region {ok:Nat→Bool} {n:Nat} {f:RS→Int→RS} (hf:qC ok n f) {i:Nat} {seen:List Bool} (h:tK ok n i seen) (hi:i<n) (hn:¬(seen.getD i false=true∨ok i=false)) (m:Nat) :
  tK ok n (i+1) (Ig f m 0 ⟨seen.set i true,[(i:Int)]⟩).seen∧NR n i (Ig f m 0 ⟨seen.set i true,[(i:Int)]⟩).l ∧
  (Ig f m 0 ⟨seen.set i true,[(i:Int)]⟩).seen.count true=seen.count true+(Ig f m 0 ⟨seen.set i true,[(i:Int)]⟩).l.length:=by
 obtain ⟨h1,h2⟩:=NY hf m 0 _ (h.start hi hn)
 have hlt:i<seen.length:=by rw [h.len];exact hi
 refine ⟨⟨h1.len,h1.ink,fun j hj hq=>?_⟩,⟨fun x hx=>⟨?_,(h1.bd x hx).2⟩,?_,h1.le⟩,h1.cnt⟩
 ·refine h2.seen j ?_
  by_cases e:j=i
  ·subst e;exact qR hlt
  ·exact kD hlt (h.all j (by omega) hq)
 ·have hb:=h1.bd x hx
  rcases h2.new x hx with hx'|hx'
  ·rw [List.mem_singleton.1 hx'];omega
  ·refine Classical.byContradiction fun hlt'=>?_
   have hj:x.toNat<i:=by omega
   have hq:ok x.toNat=true:=h1.ink _ (h1.sn x hx)
   rw [kD hlt (h.all _ hj hq)] at hx'
   cases hx'
 ·obtain ⟨r,hr⟩:=h2.pre
  exact ⟨r,hr⟩
/-! ### All regions -/
def yB (R:List (List Int)):Nat:=(R.map List.length).sum
theorem I8 {a b:List Bool} (h:a.length=b.length) (hh:∀ j,a.getD j false=b.getD j false):a=b:=by
 refine List.ext_getElem h fun j h1 h2=>?_
 have:=hh j
 rwa [getD_lt h1,getD_lt h2] at this
theorem BO {ok:Nat→Bool} {n:Nat} {f:RS→Int→RS} (hf:qC ok n f):∀ (m i:Nat) (seen:List Bool),tK ok n i seen→i+m=n→yB (regs ok f n m i seen)+seen.count true=((List.range n).map ok).count true
 | 0,i,seen,h,hm=>by
  have e:seen=(List.range n).map ok:=by
   refine I8 (by simp [h.len]) fun j=>?_
   by_cases hj:j<n
   ·have e2:((List.range n).map ok).getD j false=ok j:=by simp [List.getD_eq_getElem?_getD,hj]
    rw [e2,Bool.eq_iff_iff]
    exact ⟨h.ink j,h.all j (by omega)⟩
   ·have:=h.len
    rw [List.getD_eq_getElem?_getD,List.getD_eq_getElem?_getD,List.getElem?_eq_none (show seen.length≤j by omega),List.getElem?_eq_none (by simp;omega)]
  rw [←e]
  simp [regs,yB]
 | m+1,i,seen,h,hm=>by
  simp only [regs]
  split
  ·rename_i hn
   exact BO hf m (i+1) seen (h.skip hn) (by omega)
  ·rename_i hn
   obtain ⟨h1,h2,h3⟩:=h.region hf (by omega) hn n
   have ih:=BO hf m (i+1) _ h1 (by omega)
   generalize Ig f n 0 ⟨seen.set i true,[(i:Int)]⟩=s at *
   have e:yB (s.l::regs ok f n m (i+1) s.seen)=s.l.length+yB (regs ok f n m (i+1) s.seen):=by simp [yB]
   rw [e]
   omega
theorem GI {ok:Nat→Bool} {n:Nat} {f:RS→Int→RS} (hf:qC ok n f):∀ (m i:Nat) (seen:List Bool),tK ok n i seen→i+m=n→∀ r,r∈regs ok f n m i seen→∃ j,j<n∧NR n j r
 | 0,i,seen,h,hm,r,hr=>by cases hr
 | m+1,i,seen,h,hm,r,hr=>by
  simp only [regs] at hr
  split at hr
  ·rename_i hn
   exact GI hf m (i+1) seen (h.skip hn) (by omega) r hr
  ·rename_i hn
   obtain ⟨h1,h2,h3⟩:=h.region hf (by omega) hn n
   rcases List.mem_cons.1 hr with rfl|hr
   ·exact ⟨i,by omega,h2⟩
   ·exact GI hf m (i+1) _ h1 (by omega) r hr
theorem BN (ok:Nat→Bool) (f:RS→Int→RS) (n:Nat):∀ (m i:Nat) (seen:List Bool),(regs ok f n m i seen).length≤m
 | 0,i,seen=>Nat.le_refl _
 | m+1,i,seen=>by
  simp only [regs]
  split
  ·exact Nat.le_succ_of_le (BN ok f n m (i+1) seen)
  ·simp only [List.length_cons]
   exact Nat.succ_le_succ (BN ok f n m (i+1) _)
theorem Ym {ok:Nat→Bool} {n:Nat} {f:RS→Int→RS} (hf:qC ok n f):yB (GH ok f n)=((List.range n).map ok).count true:=by
 have:=BO hf n 0 _ (tK.zero ok n) (by omega)
 have e:(List.replicate n false).count true=0:=by rw [List.count_eq_zero];simp
 rw [e] at this
 exact this
theorem Qz {ok:Nat→Bool} {n:Nat} {f:RS→Int→RS} (hf:qC ok n f):∀ r,r∈GH ok f n→∃ j,j<n∧NR n j r:=GI hf _ 0 _ (tK.zero ok n) (by omega)
theorem MV (ok:Nat→Bool) (f:RS→Int→RS) (n:Nat):(GH ok f n).length≤n:=BN ok f n _ _ _
end Go.Fv.H
/- Joined pixels of a page, in plain words: the way round a pixel, and the reference's. -/
namespace Go.Fv.H
open Go
structure FN where
 p:List Bool
 w:Nat
 h:Nat
 ink:Bool
 cor:Bool
def FN.ok (g:FN) (i:Nat):Bool:=g.p.getD i false == g.ink
def RS.pt (g:FN) (x y v:Int) (s:RS) (u:Int):RS:=if g.cor=false∧u≠x∧v≠y then s else s.vis g.ok (v*g.w+u).toNat
def RS.row (g:FN) (x y:Int) (us:List Int) (s:RS) (v:Int):RS:=us.foldl (RS.pt g x y v) s
def lo3 (x:Int):Int:=max (x - 1) 0
def hi3 (x w:Int):Int:=min (x+1) (w - 1)
def QH (x w:Int):List Int:=rng (lo3 x) (hi3 x w+1 - lo3 x).toNat
def Xr (g:FN) (s:RS) (c:Int):RS:=(QH (c / g.w) g.h).foldl (RS.row g (c%g.w) (c / g.w) (QH (c%g.w) g.w)) s
theorem cell_lt {w h:Nat} {u v:Int} (hu:0≤u∧u<w) (hv:0≤v∧v<h):(v*w+u).toNat<w*h∧0≤v*w+u∧v*w+u<((w*h:Nat):Int):=by
 obtain ⟨a,rfl⟩:∃ a:Nat,u=a:=⟨u.toNat,by omega⟩
 obtain ⟨b,rfl⟩:∃ b:Nat,v=b:=⟨v.toNat,by omega⟩
 have e:(b:Int)*w+a=((b*w+a:Nat):Int):=by simp
 rw [e]
 have h1:b*w+w≤h*w:=by rw [←Nat.succ_mul];exact Nat.mul_le_mul_right _ (by omega)
 have h2:w*h=h*w:=Nat.mul_comm _ _
 omega
theorem Ce {x w u:Int} (h:u∈QH x w):0≤u∧u<w:=by
 have:=O1 h
 unfold lo3 hi3 at this
 omega
theorem Uo {g:FN} {c0:Nat} {s:RS} (h:RInv g.ok (g.w*g.h) c0 s) {x y u v:Int} (hu:0≤u∧u<g.w) (hv:0≤v∧v<g.h):RInv g.ok (g.w*g.h) c0 (RS.pt g x y v s u)∧Dt s (RS.pt g x y v s u):=by
 unfold RS.pt
 split
 ·exact ⟨h,Dt.refl s⟩
 ·exact RS.Xe h (cell_lt hu hv).1
theorem O4 {g:FN} {c0:Nat} {s:RS} (h:RInv g.ok (g.w*g.h) c0 s) {x y v:Int} {us:List Int} (hu:∀ u,u∈us→0≤u∧u<g.w) (hv:0≤v∧v<g.h):RInv g.ok (g.w*g.h) c0 (RS.row g x y us s v)∧Dt s (RS.row g x y us s v):=
 AQ (P:=RInv g.ok (g.w*g.h) c0) (R:=Dt) Dt.refl (fun _ _ _ h h'=>h.trans h') us s h fun s u hs hm=>Uo hs (hu u hm) hv
theorem Yr {g:FN} {c0:Nat} {s:RS} (h:RInv g.ok (g.w*g.h) c0 s) {x y:Int} {us vs:List Int} (hu:∀ u,u∈us→0≤u∧u<g.w) (hv:∀ v,v∈vs→0≤v∧v<g.h):RInv g.ok (g.w*g.h) c0 (vs.foldl (RS.row g x y us) s)∧Dt s (vs.foldl (RS.row g x y us) s):=
 AQ (P:=RInv g.ok (g.w*g.h) c0) (R:=Dt) Dt.refl (fun _ _ _ h h'=>h.trans h') vs s h fun s v hs hm=>O4 hs hu (hv v hm)
theorem JK (g:FN):qC g.ok (g.w*g.h) (Xr g):=fun c0 s c h _ _=>
 Yr h (fun _ hm=>Ce hm) (fun _ hm=>Ce hm)
def pieces (g:FN):List (List Int):=GH g.ok (Xr g) (g.w*g.h)
theorem Qs (g:FN):∀ r,r∈pieces g→∃ j,j<g.w*g.h∧NR (g.w*g.h) j r:=Qz (JK g)
theorem pieces_len (g:FN):(pieces g).length≤g.w*g.h:=MV _ _ _
/-! ### The reference's way: all nine places, those outside left out -/
def Zc (g:FN) (v u:Int):Prop:=0≤u∧0≤v∧u<g.w∧v<g.h
instance (g:FN) (v u:Int):Decidable (Zc g v u):=by unfold Zc;infer_instance
theorem Zl {g:FN} {c:Int} (h0:0≤c) (h1:c<((g.w*g.h:Nat):Int)):(0≤c%g.w∧c%g.w<g.w)∧(0≤c / g.w∧c / g.w<g.h):=by
 obtain ⟨k,rfl⟩:∃ k:Nat,c=k:=⟨c.toNat,by omega⟩
 have hk:k<g.w*g.h:=by omega
 have hw:0<g.w:=by
  rcases Nat.eq_zero_or_pos g.w with h|h
  ·rw [h,Nat.zero_mul] at hk;omega
  ·exact h
 have e1:(k:Int)%g.w=((k%g.w:Nat):Int):=rfl
 have e2:(k:Int) / g.w=((k / g.w:Nat):Int):=rfl
 have h3:=Nat.mod_lt k hw
 have h4:k / g.w<g.h:=Nat.div_lt_of_lt_mul hk
 rw [e1,e2]
 exact ⟨⟨Int.natCast_nonneg _,Int.ofNat_lt.2 h3⟩,Int.natCast_nonneg _,Int.ofNat_lt.2 h4⟩
end Go.Fv.H
/- Rows of rows of integers, as data. -/
namespace Go.Fv.H
open Go Go.Proofs
def Rf (g:List Int):List AV:=[.ro (.ints .i64 g)]
instance:yK Rf:=⟨fun _=>rfl⟩
theorem X6 (l:List (List Int)) {i:Nat} (h:i<l.length):(l.map Rf).getD i []=[.ro (.ints .i64 (l.getD i []))]:=by
 simp [List.getD_eq_getElem?_getD,h,Rf]
end Go.Fv.H
/- slices.Sort of ints, by the shelf. -/
namespace Go.Fv.H
open Go Go.Proofs
end Go.Fv.H
/- slices.Sort of ints, as a contract that writes the caller's row. -/
namespace Go.Fv.H
open Go Go.Proofs
end Go.Fv.H
/- Boxes, and the boxes of pixels, in plain words. -/
namespace Go.Fv.H
open Go
structure Bx where
 x:Int
 y:Int
 w:Int
 h:Int
def Bx.av (b:Bx):List AV:=[.int .i64 b.x,.int .i64 b.y,.int .i64 b.w,.int .i64 b.h]
def Bx.zero:Bx:=⟨0,0,0,0⟩
instance:yK Bx.av:=⟨fun _=>rfl⟩
def Wu {α:Type} (f:α→Int) (a:Int) (l:List α):Int:=l.foldl (fun m i=>min m (f i)) a
def Wx {α:Type} (f:α→Int) (a:Int) (l:List α):Int:=l.foldl (fun m i=>max m (f i)) a
theorem LY {α:Type} (f:α→Int):∀ (l:List α) (a m:Int),m≤Wu f a l↔m≤a∧∀ i,i∈l→m≤f i
 | [],a,m=>by simp [Wu]
 | x::l,a,m=>by
  have ih:=LY f l (min a (f x)) m
  show m≤Wu f (min a (f x)) l↔_
  rw [ih]
  constructor
  ·rintro ⟨h1,h2⟩
   refine ⟨by omega,fun i hi=>?_⟩
   rcases List.mem_cons.1 hi with rfl|hi
   ·omega
   ·exact h2 i hi
  ·rintro ⟨h1,h2⟩
   have:=h2 x (List.mem_cons_self)
   exact ⟨by omega,fun i hi=>h2 i (List.mem_cons_of_mem _ hi)⟩
theorem Md {α:Type} (f:α→Int):∀ (l:List α) (a m:Int),Wx f a l≤m↔a≤m∧∀ i,i∈l→f i≤m
 | [],a,m=>by simp [Wx]
 | x::l,a,m=>by
  have ih:=Md f l (max a (f x)) m
  show Wx f (max a (f x)) l≤m↔_
  rw [ih]
  constructor
  ·rintro ⟨h1,h2⟩
   refine ⟨by omega,fun i hi=>?_⟩
   rcases List.mem_cons.1 hi with rfl|hi
   ·omega
   ·exact h2 i hi
  ·rintro ⟨h1,h2⟩
   have:=h2 x (List.mem_cons_self)
   exact ⟨by omega,fun i hi=>h2 i (List.mem_cons_of_mem _ hi)⟩
theorem TS {α:Type} (f:α→Int) (a:Int) (l:List α) (x:α):Wu f a (l++[x])=min (Wu f a l) (f x):=by simp [Wu]
theorem TT {α:Type} (f:α→Int) (a:Int) (l:List α) (x:α):Wx f a (l++[x])=max (Wx f a l) (f x):=by simp [Wx]
/-! ### The box of pixels -/
def yV (w:Nat) (l:List Int):Int:=Wu (fun i=>i%(w:Int)) w l
def Kv (w h:Nat) (l:List Int):Int:=Wu (fun i=>i / (w:Int)) h l
def uK (w:Nat) (l:List Int):Int:=Wx (fun i=>i%(w:Int)) (-1) l
def Lc (w:Nat) (l:List Int):Int:=Wx (fun i=>i / (w:Int)) (-1) l
def IB (w h:Nat) (l:List Int):Bx:=⟨yV w l,Kv w h l,uK w l - yV w l+1,Lc w l - Kv w h l+1⟩
def KR (w h:Nat) (l:List Int):Prop:=∀ i,i∈l→0≤i∧i<((w*h:Nat):Int)
theorem U4 {w h:Nat} {c:Int} (h0:0≤c) (h1:c<((w*h:Nat):Int)):(0≤c%w∧c%w<w)∧(0≤c / w∧c / w<h):=by
 obtain ⟨k,rfl⟩:∃ k:Nat,c=k:=⟨c.toNat,by omega⟩
 have hk:k<w*h:=by omega
 have hw:0<w:=by
  rcases Nat.eq_zero_or_pos w with h|h
  ·rw [h,Nat.zero_mul] at hk;omega
  ·exact h
 have e1:(k:Int)%w=((k%w:Nat):Int):=rfl
 have e2:(k:Int) / w=((k / w:Nat):Int):=rfl
 have h3:=Nat.mod_lt k hw
 have h4:k / w<h:=Nat.div_lt_of_lt_mul hk
 rw [e1,e2]
 exact ⟨⟨Int.natCast_nonneg _,Int.ofNat_lt.2 h3⟩,Int.natCast_nonneg _,Int.ofNat_lt.2 h4⟩
end Go.Fv.H
/- The reference's parts: the walk. -/
namespace Go.Fv.H
open Go Go.Proofs
end Go.Fv.H
