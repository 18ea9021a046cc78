/-
  A part of the proof of the claim: walks over the program's functions and the plain laws that these need. No condition of its own.
-/
import Derived.Test.YtfhmmlobedilnaaGreatDoorEMpCardPart2
import Derived.Test.YtfhmmlobedilnaaGreatDoorEMpCardPart3
import Derived.Test.YtfhmmlobedilnaaGreatDoorFvPart10
import Derived.Test.YtfhmmlobedilnaaGreatDoorEMpCardPart1
set_option linter.unusedSimpArgs false
set_option linter.unusedVariables false
set_option linter.unnecessarySimpa false
set_option maxRecDepth 8000
namespace Go.Fv.E
open Go Go.Proofs
instance:EL Mx.av:=⟨fun _=>rfl⟩
instance {l:List Mx}:gQ (aX l):=inferInstanceAs (gQ (.objs 3 (l.map Mx.av)))
theorem G5 (l:List Mx) {i:Nat} (h:i≤l.length) (k:Key):k∈dA l i↔∃ q,q<i∧(l.getD q Mx.zero).key=k:=by
 unfold dA
 simp only [List.mem_map]
 constructor
 ·rintro ⟨m,hm,rfl⟩
  obtain ⟨q,hq,rfl⟩:=List.mem_iff_getElem.1 hm
  simp only [List.length_take] at hq
  refine ⟨q,by omega,?_⟩
  rw [getD_lt (by omega),List.getElem_take]
 ·rintro ⟨q,hq,rfl⟩
  refine ⟨l.getD q Mx.zero,?_,rfl⟩
  rw [getD_lt (by omega)]
  exact List.mem_take_iff_getElem.2 ⟨q,by omega,rfl⟩
set_option maxHeartbeats 4000000 in
theorem jG (l:List Mx):aU Tryz.prog 7 [.ro (aX l)] (.int .i64 (bH l)) []:=by
 unfold bH
 refine aU.bT Tryz.func7 rfl (by decide) (by simp [Tryz.f7]) [.tmp 2] rfl fun w0 T0 _=>?_
 simp only [Tryz.f7,aI]
 (repeat' with_reducible first|intro _|refine rz ?_|refine ra ?_ ?_|omega|simp only [go_sem,List.length_map,aX])
 ·refine dJ.auto 0 ?_ rfl ?_<;>simp only [go_sem,Int.natCast_succ,Post]
  rw [if_pos (by omega)]
 rw [if_neg (by omega)]
 refine bM.intro (fun i:Nat=>⟨78,[(12,.int .i64 i),(11,.int .i64 l.length),(10,.ro (aX l)),(0,.ro (aX l))],[],0⟩) (fun i=>i≤l.length∧oq (dA l i) (l.drop i)=oq [] l) (fun i=>l.length - i) 0 ?_ ⟨Nat.zero_le _,rfl⟩ fun i hi=>?_
 ·refine dB.bJ rfl ?_ ?_<;>simp only [go_sem,Int.natCast_succ,aX]
 by_cases hlt:i<l.length
 ·have he:=kS l hlt
  have hs:=wI l hlt
  have hd:=wo l hlt (dA l i)
  have hm:=G5 l hi.1 (l.getD i Mx.zero).key
  generalize l.getD i Mx.zero=m at *
  have hE:vZ (dA l i) m=if cu m.f=false∨cu m.t=false∨m.f=m.t then 2 else if m.c<0∨100<m.c then 3 else if m.key∈dA l i then 6 else 0:=rfl
  have hp:∀ s,cu s=false↔((s.length:Int)<1∨3<(s.length:Int)):=fun s=>by
   unfold cu
   rw [Bool.and_eq_false_iff,decide_eq_false_iff_not,decide_eq_false_iff_not];omega
  simp only [hp] at hE
  (repeat' with_reducible first|intro _|refine rz ?_|refine ra ?_ ?_|omega|simp only [go_sem,dR,he,aX,List.length_map])
  ·rename_i h1
   refine dJ.auto 0 ?_ rfl ?_<;>simp only [go_sem,Int.natCast_succ,Post]
   have h0:vZ (dA l i) m=2:=by rw [hE,if_pos (by grind)]
   rw [←hi.2,hd,h0];rfl
  ·rename_i h1 _ h2
   refine dJ.auto 0 ?_ rfl ?_<;>simp only [go_sem,Int.natCast_succ,Post]
   have h0:vZ (dA l i) m=3:=by rw [hE,if_neg (by grind),if_pos h2]
   rw [←hi.2,hd,h0];rfl
  ·rename_i h1 _ h2
   have hno:¬((((m.f.length:Int)<1∨3<(m.f.length:Int))∨((m.t.length:Int)<1∨3<(m.t.length:Int))∨m.f=m.t)):=by grind
   have hnr:¬(m.c<0∨100<m.c):=by assumption
   rw [if_neg hno,if_neg hnr] at hE
   have e1:List.take (i - 0) (l.map Mx.av)=(l.take i).map Mx.av:=by simp
   have hL:(l.take i).length=i:=by simp;omega
   have hsk:dA l i=(l.take i).map Mx.key:=rfl
   rw [hsk] at hE
   refine bM.intro (fun j:Nat=>⟨78,[(60,.int .i64 j),(59,.int .i64 i),(58,.ro (aX (l.take i))),(4,.ptr 0 0),(12,.int .i64 i),(11,.int .i64 l.length),(10,.ro (aX l)),(0,.ro (aX l))],[(0,.box 35 [.str m.f,.str m.t,.int .i64 m.c])],1⟩) (fun j=>j≤i∧∀ q,q<j→((l.take i).getD q Mx.zero).key≠m.key) (fun j=>i - j) 0 ?_ ⟨Nat.zero_le _,fun q hq=>by omega⟩ fun j hj=>?_
   ·refine dB.bJ rfl ?_ ?_<;>simp only [go_sem,Int.natCast_succ,aX,e1,hL,List.length_map]
   generalize l.take i=L at *
   by_cases hjl:j<i
   ·have he2:=kS L (i:=j) (by omega)
    generalize hx:L.getD j Mx.zero=x at *
    (repeat' with_reducible first|intro _|refine rz ?_|refine ra ?_ ?_|omega|simp only [go_sem,dR,he2,aX,List.length_map,hL])
    ·rename_i h3
     refine dJ.auto 0 ?_ rfl ?_<;>simp only [go_sem,Int.natCast_succ,Post]
     have hmem:m.key∈L.map Mx.key:=List.mem_map.2 ⟨x,by rw [←hx,getD_lt (by omega)];exact List.getElem_mem _,by unfold Mx.key;rw [h3.1,h3.2]⟩
     rw [if_pos hmem,←hsk] at hE
     rw [←hi.2,hd,hE];rfl
    ·rename_i h3
     refine ⟨j+1,dB.bJ rfl ?_ ?_,⟨by omega,fun q hq=>?_⟩,by omega⟩
     ·simp only [go_sem,Int.natCast_succ,aX]
     ·simp only [go_sem,Int.natCast_succ,aX]
     ·by_cases e:q=j
      ·subst e;rw [hx];intro e;injection e with e4 e5;exact h3 ⟨e4,e5⟩
      ·exact hj.2 q (by omega)
   ·have ej:j=i:=by omega
    subst ej
    have hmem:m.key∉L.map Mx.key:=by
     intro hm'
     obtain ⟨x,hx,hk⟩:=List.mem_map.1 hm'
     obtain ⟨q,hq,rfl⟩:=List.mem_iff_getElem.1 hx
     exact hj.2 q (by omega) (by rw [getD_lt hq];exact hk)
    rw [if_neg hmem,←hsk] at hE
    rw [if_pos hE,hi.2,←hs] at hd
    (repeat' with_reducible first|intro _|refine rz ?_|refine ra ?_ ?_|omega|simp only [go_sem,dR,aX,List.length_map,hL])
    refine ⟨j+1,dB.bJ rfl ?_ ?_,⟨by omega,hd.symm⟩,by omega⟩<;>simp only [go_sem,Int.natCast_succ,aX]
 ·have e:i=l.length:=by omega
  have h0:=hi.2
  rw [e,List.drop_length] at h0
  (repeat' with_reducible first|intro _|refine rz ?_|refine ra ?_ ?_|omega|simp only [go_sem,aX,List.length_map])
  refine dJ.auto 0 ?_ rfl ?_<;>simp only [go_sem,Int.natCast_succ,Post]
  rw [←h0];rfl
theorem Bv (l:List Mx) (hl:l.length≤137438953472):aU Tryz.prog 13 [.ro (aX l)] (.own 0) [(0,.row 35 (aX l))]:=by
 refine aU.bT Tryz.func13 rfl (by decide) (by simp [Tryz.f13]) [.tmp 2] rfl fun w0 T0 _=>?_
 simp only [Tryz.f13,aI]
 (repeat' with_reducible first|intro _|refine rz ?_|refine ra ?_ ?_|omega|simp only [go_sem,aX,List.length_map])
 ·rename_i h
  have:l=[]:=List.eq_nil_of_length_eq_zero (by simpa using h)
  refine dJ.auto 1 ?_ rfl ?_<;>simp only [go_sem,Int.natCast_succ,Post,this,aX]
 ·refine dJ.auto 1 ?_ rfl ?_<;>simp only [go_sem,Int.natCast_succ,Post,aX]
theorem Ci (acc l:List Mx) {i:Nat} (h:i<l.length):l7 acc (l.drop i)=l7 (if bH (acc++[l.getD i Mx.zero])=0 then acc++[l.getD i Mx.zero] else acc) (l.drop (i+1)):=by
 rw [List.drop_eq_getElem_cons h,getD_lt h];rfl
theorem Je (l:List Mx) (m:Mx):l.map Mx.av++[[.str m.f,.str m.t,.int .i64 m.c]]=(l++[m]).map Mx.av:=by simp [Mx.av]
set_option maxHeartbeats 4000000 in
theorem I9 (l:List Mx):aU Tryz.prog 5 [.ro (aX l)] (.own 0) [(0,.row 35 (aX (l7 [] (l.take 12))))]:=by
 refine aU.bT Tryz.func5 rfl (by decide) (by simp [Tryz.f5]) [.tmp 2] rfl fun w0 T0 _=>?_
 simp only [Tryz.f5,aI]
 have hmin:min (l.length:Int) 12=((min l.length 12:Nat):Int):=by omega
 have hsub:List.take (min l.length 12 - 0) (l.map Mx.av)=(l.take 12).map Mx.av:=by
  simp only [←List.map_take,Nat.sub_zero]
  rcases Nat.le_total l.length 12 with h|h
  ·rw [Nat.min_eq_left h,List.take_of_length_le (Nat.le_refl _),List.take_of_length_le h]
  ·rw [Nat.min_eq_right h]
 have hl12:(l.take 12).length≤12:=by simp;omega
 generalize l.take 12=q at *
 (repeat' with_reducible first|intro _|refine rz ?_|refine ra ?_ ?_|omega|simp only [go_sem,I8,hmin,Int.toNat_natCast,hsub,List.length_map,aX])
 refine bM.intro (fun x:Nat × List Mx=>⟨29,[(12,.int .i64 x.1),(11,.int .i64 q.length),(10,.ro (aX q)),(3,.own 0)],[(0,.row 35 (aX x.2))],1⟩) (fun x=>x.1≤q.length∧x.2.length≤x.1∧l7 x.2 (q.drop x.1)=l7 [] q) (fun x=>q.length - x.1) (0,[]) ?_ ⟨Nat.zero_le _,Nat.le_refl _,rfl⟩ fun x hx=>?_
 ·refine dB.bJ rfl ?_ ?_<;>simp only [go_sem,Int.natCast_succ,aX]
 obtain ⟨i,acc⟩:=x
 dsimp only at hx
 by_cases hlt:i<q.length
 ·have he:=kS q hlt
  have hs:=Ci acc q hlt
  generalize q.getD i Mx.zero=m at *
  have k1:=Bv acc (by omega)
  have k2:=jG (acc++[m])
  have es:=Je acc m
  (repeat' with_reducible first|intro _|refine rz ?_|refine ra ?_ ?_|omega|simp only [go_sem,dR,he,aX,List.length_map])
  refine aZ.cut (.first 0 (.cons 1 (.cons 2 (.cons 3 (.cons 4 (.cons 5 (.cons 6 .done .stop) .stop) .stop) .stop) .stop) (.cons 2 (.cons 1 (.cons 3 (.cons 4 (.cons 5 (.cons 6 .done .stop) .stop) .stop) .stop) (.cons 3 (.cons 1 (.cons 4 (.cons 5 (.cons 6 .done .stop) .stop) .stop) .stop) .stop)) .stop))) (by kernel_rfl) (by kernel_rfl) (by kernel_rfl)
   ⟨29,[(22,.bool (decide (bH (acc++[m])=0))),(12,.int .i64 i),(11,.int .i64 q.length),(10,.ro (aX q)),(3,.own 0),(5,.ptr 1 0)],[(0,.row 35 (aX acc)),(1,.box 35 [.str m.f,.str m.t,.int .i64 m.c])],2⟩ ?_ ?_
  ·(repeat' with_reducible first|intro _|exact dn|refine rn ?_|refine ra ?_ ?_)
   all_goals
    refine ah.fr (lu.ou k1 rfl (by simp [jU,jT,uq,iK,jH,aX,Mx.av])) (by simp only [dF,bG,jr,bU,aJ,List.drop_zero,lk,reduceIte,reduceCtorEq,Nat.reduceEqDiff,Option.some.injEq,Item.row.injEq,Item.box.injEq,AV.ro.injEq,exists_eq_left,exists_and_left,exists_eq_left',exists_eq_right,and_assoc,and_true,true_and,List.cons.injEq,exists_eq',exists_eq,aX]) 1 rfl (by simp [dw,Item.below]) ?_
    (repeat' with_reducible first|intro _|refine rz ?_|refine ra ?_ ?_|omega|simp only [go_sem,aX,es,List.length_map])
    refine ah.fr (lu.ou k2 rfl rfl) (by simp only [dF,bG,jr,bU,aJ,List.drop_zero,lk,reduceIte,reduceCtorEq,Nat.reduceEqDiff,Option.some.injEq,Item.row.injEq,Item.box.injEq,AV.ro.injEq,exists_eq_left,exists_and_left,exists_eq_left',exists_eq_right,and_assoc,and_true,true_and,List.cons.injEq,exists_eq',exists_eq,aX]) 0 rfl (by simp [dw]) ?_
    (repeat' with_reducible first|intro _|exact dn|refine rn ?_|refine ra ?_ ?_)
    refine dB.bJ rfl ?_ ?_<;>simp only [go_sem,Int.natCast_succ,aX]
  ·(repeat' with_reducible first|intro _|refine rz ?_|refine ra ?_ ?_|omega|simp only [go_sem,aX,es,List.length_map])
   ·rename_i h1
    rw [if_pos h1,hx.2.2] at hs
    refine ⟨(i+1,acc++[m]),dB.bJ rfl ?_ ?_,⟨by omega,?_,hs.symm⟩,by omega⟩
    ·simp only [go_sem,Int.natCast_succ,aX]
    ·simp only [go_sem,Int.natCast_succ,aX]
    ·simp;omega
   ·rename_i h1
    rw [if_neg h1,hx.2.2] at hs
    refine ⟨(i+1,acc),dB.bJ rfl ?_ ?_,⟨by omega,?_,hs.symm⟩,by omega⟩
    ·simp only [go_sem,Int.natCast_succ,aX]
    ·simp only [go_sem,Int.natCast_succ,aX]
    ·dsimp only;omega
 ·have e:i=q.length:=by omega
  have h0:=hx.2.2
  rw [e,List.drop_length] at h0
  (repeat' with_reducible first|intro _|refine rz ?_|refine ra ?_ ?_|omega|simp only [go_sem,aX,List.length_map])
  refine dJ.auto 1 ?_ rfl ?_<;>simp only [go_sem,Int.natCast_succ,Post,←h0,l7,aX]
end Go.Fv.E
/- ParseMixes. -/
namespace Go.Fv.E
open Go Go.Proofs
theorem I4 (c:UInt8) (s:Bytes):(nX c s).getD 0 []=fZ c s:=by
 unfold nX
 by_cases h:c∈s
 ·obtain ⟨n,hn⟩:∃ n,s.count c=n+1:=⟨s.count c - 1,by have:=List.count_pos_iff.2 h;omega⟩
  rw [hn];rfl
 ·rw [List.count_eq_zero_of_not_mem h,(zn h).1];rfl
theorem I5 {c:UInt8} {s:Bytes} (h:c∈s):(nX c s).drop 1=nX c ((lD c s).drop 1):=by
 unfold nX
 obtain ⟨t,ht⟩:=rD (List.count_pos_iff.2 h)
 have hc:=rC ht
 rw [ht,List.drop_succ_cons,List.drop_zero,hc]
 show ((lD c s).drop 1 |> fun u=>fZ c s::rM c _ u).drop 1=_
 rw [ht];rfl
theorem KH (c:UInt8) (s:Bytes):(nX c s).length=s.count c+1:=Cc c _ s
def DK (N:Nat) (L:List Bytes) (x:Nat × List Mx × Bytes):Go.Fv.S:=⟨119,[(5,.own 0),(7,.int .i64 N),(28,.own 1),(29,.int .i64 (N+1:Nat)),(30,.int .i64 x.1)],[(0,.row 35 (aX x.2.1)),(1,.row 9 (.strs L))],2⟩
set_option maxHeartbeats 8000000 in
theorem wB (s0:Bytes):aU Tryz.prog 11 [.str s0] (.tup [.own 0,.int .i64 (yR s0).2.1,.int .i64 (yR s0).2.2]) [(0,.row 35 (aX (yR s0).1))]:=by
 refine aU.bT Tryz.func11 rfl (by decide) (by simp [Tryz.f11]) [.tmp 2,.tmp 3,.tmp 4] rfl fun w0 T0 _=>?_
 simp only [Tryz.f11,aI]
 have hP:yR s0=if 1048576<s0.length then ([],0,4) else
  if (nY (s0.length+1) s0 [] 0).2.2≠0 then nY (s0.length+1) s0 [] 0 else
  if bH (nY (s0.length+1) s0 [] 0).1≠0 then ([],0,bH (nY (s0.length+1) s0 [] 0).1) else ((nY (s0.length+1) s0 [] 0).1,0,0):=rfl
 generalize yR s0=R at *
 by_cases hl:1048576<s0.length
 ·have g1:((1048576:Int)<(s0.length:Int))=True:=eq_true (by omega)
  rw [if_pos hl] at hP
  subst hP
  (repeat' with_reducible first|intro _|refine rz ?_|refine ra ?_ ?_|omega|simp only [go_sem,g1])
  refine dJ.auto 1 ?_ rfl ?_<;>simp only [go_sem,Int.natCast_succ,Post,List.map_nil,aX]
 have g1:((1048576:Int)<(s0.length:Int))=False:=eq_false (by omega)
 rw [if_neg hl] at hP
 have kL:=nM s0 10 (by omega)
 have hLl:=KH 10 s0
 have hLs:=kR 10 (s0.count 10) s0
 have hcl:s0.count 10≤s0.length:=List.count_le_length
 rw [show rM 10 (s0.count 10) s0=nX 10 s0 from rfl] at hLs
 have hL0:nX 10 s0=(nX 10 s0).drop 0:=rfl
 have hc0:s0.count 10=s0.count 10 - 0:=rfl
 generalize hLL:nX 10 s0=L at *
 rw [←hLL] at hL0
 have hL0:nX 10 s0=L.drop 0:=hLL
 generalize hNN:s0.count 10=N at *
 have f0:((((N+1:Nat):Int)) - 1)=(N:Int):=by omega
 (repeat' with_reducible first|intro _|refine rz ?_|refine ra ?_ ?_|omega|simp only [go_sem,g1])
 refine ah.o kL 1 ?_
 (repeat' with_reducible first|intro _|refine rz ?_|refine ra ?_ ?_|omega|simp only [go_sem,hLl,f0])
 refine bM.intro (DK N L) (fun x=>x.1≤N∧x.2.1.length≤x.1∧x.2.2.count 10=N - x.1∧nX 10 x.2.2=L.drop x.1∧x.2.2.length≤1048576∧nY (x.2.2.length+1) x.2.2 x.2.1 x.1=nY (s0.length+1) s0 [] 0) (fun x=>N+1 - x.1) (0,[],s0) ?_ ⟨Nat.zero_le _,Nat.le_refl _,hNN,hL0,by dsimp only;omega,rfl⟩ fun x hI=>?_
 ·refine dB.bJ rfl ?_ ?_<;>simp only [go_sem,Int.natCast_succ,DK,List.map_nil,aX]
  all_goals trace_state
 obtain ⟨i,acc,s⟩:=x
 dsimp only at hI
 obtain ⟨h1,h2,h3,h4,h6,h5⟩:=hI
 generalize nY (s0.length+1) s0 [] 0=E at *
 have hgd:L.getD i []=fZ 10 s:=by
  rw [←I4,h4];simp [List.getD_eq_getElem?_getD]
 have f1:((i:Int)<((N+1:Nat):Int))=True:=eq_true (by omega)
 have hj:∃ j:Nat,(i:Int)+1=j∧j=i+1:=⟨i+1,by omega,rfl⟩
 by_cases hf1:10∈s
 case neg=>
  have hiN:i=N:=by rw [List.count_eq_zero_of_not_mem hf1] at h3;omega
  have f2:((i:Int)=(N:Int))=True:=eq_true (by omega)
  have f3:((i:Int)<(N:Int))=False:=eq_false (by omega)
  rw [(zn hf1).1] at hgd
  by_cases hs:s=[]
  ·have g2:(s=[])=True:=eq_true hs
   rw [hs] at h5
   have hE:E=(acc,0,0):=h5.symm
   rw [hE] at hP
   rw [if_neg (by simp)] at hP
   have kc:=jG acc
   unfold aX at kc
   by_cases he:bH acc=0
   ·rw [he,if_neg (by decide)] at hP
    rw [he] at kc
    subst hP
    dsimp only [DK,aX]
    (repeat' with_reducible first|intro _|refine rz ?_|refine ra ?_ ?_|omega|simp only [go_sem,f1,hgd,f2,g2,hLl])
    refine ah.k kc ?_
    (repeat' with_reducible first|intro _|exact dn|refine rn ?_|refine ra ?_ ?_)
    refine dJ.auto 1 ?_ rfl ?_<;>simp only [go_sem,Int.natCast_succ,Post,aX]
   ·rw [if_pos he] at hP
    subst hP
    have g3:(bH acc=0)=False:=eq_false he
    dsimp only [DK,aX]
    (repeat' with_reducible first|intro _|refine rz ?_|refine ra ?_ ?_|omega|simp only [go_sem,f1,hgd,f2,g2,hLl])
    refine ah.k kc ?_
    (repeat' with_reducible first|intro _|refine rz ?_|refine ra ?_ ?_|omega|simp only [go_sem,g3])
    refine dJ.auto 1 ?_ rfl ?_<;>simp only [go_sem,Int.natCast_succ,Post,List.map_nil,aX]
  ·have g2:(s=[])=False:=eq_false hs
   rw [wE _ _ _ _ hs,if_neg hf1] at h5
   have hE:E=([],(i:Int),8):=h5.symm
   rw [hE,if_pos (by simp)] at hP
   subst hP
   have kw:=nM s 32 (by omega)
   generalize nX 32 s=W at *
   dsimp only [DK,aX]
   (repeat' with_reducible first|intro _|refine rz ?_|refine ra ?_ ?_|omega|simp only [go_sem,f1,hgd,f2,f3,g2,hLl])
   refine ah.o kw 1 ?_
   (repeat' with_reducible first|intro _|refine rz ?_|refine ra ?_ ?_|omega|simp only [go_sem,f3])
   refine dJ.auto 1 ?_ rfl ?_<;>simp only [go_sem,Int.natCast_succ,Post,List.map_nil,aX]
   all_goals trace_state
 have hs:¬s=[]:=fun e=>by rw [e] at hf1;cases hf1
 rw [wE _ _ _ _ hs,if_pos hf1] at h5
 have hiN:i<N:=by have:=List.count_pos_iff.2 hf1;omega
 have f2:((i:Int)=(N:Int))=False:=eq_false (by omega)
 have f3:((i:Int)<(N:Int))=True:=eq_true (by omega)
 have hb:=EX 10 s
 have kw:=nM (fZ 10 s) 32 (by omega)
 have hsm:∀ w,w∈nX 32 (fZ 10 s)→w.length≤(fZ 10 s).length:=kR 32 _ _
 have hbl:=congrArg List.length (eF 10 s)
 rw [List.length_append] at hbl
 have hnx:=I5 hf1
 rw [h4,List.drop_drop] at hnx
 have hcn:((lD 10 s).drop 1).count 10=N - (i+1):=by
  obtain ⟨t,ht⟩:=rD (List.count_pos_iff.2 hf1)
  have:=rC ht
  rw [ht,List.drop_succ_cons,List.drop_zero];omega
 by_cases hw3:(nX 32 (fZ 10 s)).length=3
 case neg=>
  rw [FU hw3] at h5
  have hE:E=([],(i:Int),8):=h5.symm
  rw [hE,if_pos (by simp)] at hP
  subst hP
  have g3:(((nX 32 (fZ 10 s)).length:Int)=3)=False:=eq_false (by omega)
  generalize nX 32 (fZ 10 s)=W at *
  generalize fZ 10 s=b at *
  dsimp only [DK,aX]
  (repeat' with_reducible first|intro _|refine rz ?_|refine ra ?_ ?_|omega|simp only [go_sem,f1,hgd,f2,f3,hLl])
  refine ah.o kw 1 ?_
  (repeat' with_reducible first|intro _|refine rz ?_|refine ra ?_ ?_|omega|simp only [go_sem,f3,g3])
  refine dJ.auto 1 ?_ rfl ?_<;>simp only [go_sem,Int.natCast_succ,Post,List.map_nil,aX]
  all_goals trace_state
 obtain ⟨x,y,z,hxyz⟩:=NH hw3
 rw [yS hxyz] at h5
 rw [hxyz] at kw hsm
 have hx:=hsm x (by simp)
 have hy:=hsm y (by simp)
 have hz:=hsm z (by simp)
 have ka:=Dq x (by omega)
 have kb:=Dq y (by omega)
 have kn:=EU z (by omega)
 have ki:=uo (ET z) (oL z).1 (oL z).2
 have hvb:=oL z
 generalize fZ 10 s=b at *
 have f4:[x,y,z].length=3:=rfl
 have d0:[x,y,z].getD 0 []=x:=rfl
 have d1:[x,y,z].getD 1 []=y:=rfl
 have d2:[x,y,z].getD 2 []=z:=rfl
 have hN:=oQ z
 generalize LZ z=ae at *
 generalize ET z=av at *
 generalize hun:uz x=ux at *
 generalize hvn:uz y=uy at *
 obtain ⟨p,ok⟩:=ux
 obtain ⟨q,fine⟩:=uy
 dsimp only at ka kb h5
 have hL:(E=([],(i:Int),8)∧(ok=false∨ok=true∧fine=false∨ok=true∧fine=true∧ae=.ifc 98 .dead∨ok=true∧fine=true∧ae=.raw .nilIface∧av<0∨ok=true∧fine=true∧ae=.raw .nilIface∧0≤av∧3<z.length∨ok=true∧fine=true∧ae=.raw .nilIface∧0≤av∧z.length≤3∧Lib.itoa av≠z))∨(ok=true∧fine=true∧ae=.raw .nilIface∧0≤av∧z.length≤3∧Lib.itoa av=z∧nY s.length ((lD 10 s).drop 1) (acc++[⟨p,q,av⟩]) (i+1)=E):=by
  cases ok with
  | false=>exact .inl ⟨h5.symm,.inl rfl⟩
  | true=>cases fine with
   | false=>exact .inl ⟨h5.symm,.inr (.inl ⟨rfl,rfl⟩)⟩
   | true=>
    rw [if_pos ⟨rfl,rfl⟩] at h5
    rcases hN with ⟨e1,e2⟩|⟨e1,e2⟩
    ·by_cases h0:av<0
     ·rw [e2,if_neg (fun h=>by omega)] at h5
      exact .inl ⟨h5.symm,.inr (.inr (.inr (.inl ⟨rfl,rfl,e1,h0⟩)))⟩
     ·by_cases hz3:z.length≤3
      ·by_cases hq:Lib.itoa av=z
       ·rw [e2,if_pos ⟨hz3,by omega,hq⟩] at h5
        exact .inr ⟨rfl,rfl,e1,by omega,hz3,hq,h5⟩
       ·rw [e2,if_neg (fun h=>hq h.2.2)] at h5
        exact .inl ⟨h5.symm,.inr (.inr (.inr (.inr (.inr ⟨rfl,rfl,e1,by omega,hz3,hq⟩))))⟩
      ·rw [e2,if_neg (fun h=>hz3 h.1)] at h5
       exact .inl ⟨h5.symm,.inr (.inr (.inr (.inr (.inl ⟨rfl,rfl,e1,by omega,by omega⟩))))⟩
    ·rw [e2] at h5
     exact .inl ⟨h5.symm,.inr (.inr (.inl ⟨rfl,rfl,e1⟩))⟩
 have hae:ae=.raw .nilIface∨ae=.ifc 98 .dead:=hN.elim (fun h=>.inl h.1) fun h=>.inr h.1
 clear h5 hN
 rcases hL with ⟨hE,hL⟩|⟨rfl,rfl,rfl,h0,hz3,hq,h5⟩
 ·rw [hE,if_pos (by simp)] at hP
  subst hP
  rcases hL with rfl|⟨rfl,rfl⟩|⟨rfl,rfl,rfl⟩|⟨rfl,rfl,rfl,h0⟩|⟨rfl,rfl,rfl,h0,hz3⟩|⟨rfl,rfl,rfl,h0,hz3,hq⟩
  ·rcases hae with rfl|rfl
   ·dsimp only [DK,aX]
    (repeat' with_reducible first|intro _|refine rz ?_|refine ra ?_ ?_|omega|simp only [go_sem,f1,hgd,f2,f3,hLl])
    refine ah.o kw 1 ?_
    (repeat' with_reducible first|intro _|refine rz ?_|refine ra ?_ ?_|omega|simp only [go_sem,f3,d0,d1,d2,f4])
    refine ah.k ka ?_
    (repeat' with_reducible first|intro _|refine rz ?_|refine ra ?_ ?_|omega|simp only [go_sem,d0,d1,d2])
    refine ah.k kb ?_
    (repeat' with_reducible first|intro _|refine rz ?_|refine ra ?_ ?_|omega|simp only [go_sem,d0,d1,d2])
    refine ah.k kn ?_
    (repeat' with_reducible first|intro _|refine rz ?_|refine ra ?_ ?_|omega|simp only [go_sem,d0,d1,d2])
    refine aZ.lex [] [] (by kernel_rfl) (by kernel_rfl) ?_
    (repeat' with_reducible first|intro _|refine rz ?_|refine ra ?_ ?_|omega|simp only [go_sem,d0,d1,d2])
    refine QV.intro (.bool false) (by ((repeat' with_reducible first|intro _|refine rz ?_|refine ra ?_ ?_|omega|simp only [go_sem,d2]);done)) ?_
    (repeat' with_reducible first|intro _|refine rz ?_|refine ra ?_ ?_|omega|simp only [go_sem,d0,d1,d2])
    refine QV.intro (.str (Lib.itoa av)) (by ((repeat' with_reducible first|intro _|refine rz ?_|refine ra ?_ ?_|omega|simp only [go_sem,d2]);done)) ?_
    (repeat' with_reducible first|intro _|refine rz ?_|refine ra ?_ ?_|omega|simp only [go_sem,d0,d1,d2])
    refine dJ.auto 1 ?_ rfl ?_<;>simp only [go_sem,Int.natCast_succ,Post,List.map_nil,aX]
    all_goals trace_state
   ·dsimp only [DK,aX]
    (repeat' with_reducible first|intro _|refine rz ?_|refine ra ?_ ?_|omega|simp only [go_sem,f1,hgd,f2,f3,hLl])
    refine ah.o kw 1 ?_
    (repeat' with_reducible first|intro _|refine rz ?_|refine ra ?_ ?_|omega|simp only [go_sem,f3,d0,d1,d2,f4])
    refine ah.k ka ?_
    (repeat' with_reducible first|intro _|refine rz ?_|refine ra ?_ ?_|omega|simp only [go_sem,d0,d1,d2])
    refine ah.k kb ?_
    (repeat' with_reducible first|intro _|refine rz ?_|refine ra ?_ ?_|omega|simp only [go_sem,d0,d1,d2])
    refine ah.k kn ?_
    (repeat' with_reducible first|intro _|refine rz ?_|refine ra ?_ ?_|omega|simp only [go_sem,d0,d1,d2])
    refine aZ.lex [] [] (by kernel_rfl) (by kernel_rfl) ?_
    (repeat' with_reducible first|intro _|refine rz ?_|refine ra ?_ ?_|omega|simp only [go_sem,d0,d1,d2])
    refine QV.intro (.bool true) (by ((repeat' with_reducible first|intro _|refine rz ?_|refine ra ?_ ?_|omega|simp only [go_sem,d2]);done)) ?_
    (repeat' with_reducible first|intro _|refine rz ?_|refine ra ?_ ?_|omega|simp only [go_sem,d0,d1,d2])
    refine QV.intro (.str (Lib.itoa av)) (by ((repeat' with_reducible first|intro _|refine rz ?_|refine ra ?_ ?_|omega|simp only [go_sem,d2]);done)) ?_
    (repeat' with_reducible first|intro _|refine rz ?_|refine ra ?_ ?_|omega|simp only [go_sem,d0,d1,d2])
    refine dJ.auto 1 ?_ rfl ?_<;>simp only [go_sem,Int.natCast_succ,Post,List.map_nil,aX]
    all_goals trace_state
  ·rcases hae with rfl|rfl
   ·dsimp only [DK,aX]
    (repeat' with_reducible first|intro _|refine rz ?_|refine ra ?_ ?_|omega|simp only [go_sem,f1,hgd,f2,f3,hLl])
    refine ah.o kw 1 ?_
    (repeat' with_reducible first|intro _|refine rz ?_|refine ra ?_ ?_|omega|simp only [go_sem,f3,d0,d1,d2,f4])
    refine ah.k ka ?_
    (repeat' with_reducible first|intro _|refine rz ?_|refine ra ?_ ?_|omega|simp only [go_sem,d0,d1,d2])
    refine ah.k kb ?_
    (repeat' with_reducible first|intro _|refine rz ?_|refine ra ?_ ?_|omega|simp only [go_sem,d0,d1,d2])
    refine ah.k kn ?_
    (repeat' with_reducible first|intro _|refine rz ?_|refine ra ?_ ?_|omega|simp only [go_sem,d0,d1,d2])
    refine aZ.lex [] [] (by kernel_rfl) (by kernel_rfl) ?_
    (repeat' with_reducible first|intro _|refine rz ?_|refine ra ?_ ?_|omega|simp only [go_sem,d0,d1,d2])
    refine QV.intro (.bool false) (by ((repeat' with_reducible first|intro _|refine rz ?_|refine ra ?_ ?_|omega|simp only [go_sem,d2]);done)) ?_
    (repeat' with_reducible first|intro _|refine rz ?_|refine ra ?_ ?_|omega|simp only [go_sem,d0,d1,d2])
    refine QV.intro (.str (Lib.itoa av)) (by ((repeat' with_reducible first|intro _|refine rz ?_|refine ra ?_ ?_|omega|simp only [go_sem,d2]);done)) ?_
    (repeat' with_reducible first|intro _|refine rz ?_|refine ra ?_ ?_|omega|simp only [go_sem,d0,d1,d2])
    refine dJ.auto 1 ?_ rfl ?_<;>simp only [go_sem,Int.natCast_succ,Post,List.map_nil,aX]
    all_goals trace_state
   ·dsimp only [DK,aX]
    (repeat' with_reducible first|intro _|refine rz ?_|refine ra ?_ ?_|omega|simp only [go_sem,f1,hgd,f2,f3,hLl])
    refine ah.o kw 1 ?_
    (repeat' with_reducible first|intro _|refine rz ?_|refine ra ?_ ?_|omega|simp only [go_sem,f3,d0,d1,d2,f4])
    refine ah.k ka ?_
    (repeat' with_reducible first|intro _|refine rz ?_|refine ra ?_ ?_|omega|simp only [go_sem,d0,d1,d2])
    refine ah.k kb ?_
    (repeat' with_reducible first|intro _|refine rz ?_|refine ra ?_ ?_|omega|simp only [go_sem,d0,d1,d2])
    refine ah.k kn ?_
    (repeat' with_reducible first|intro _|refine rz ?_|refine ra ?_ ?_|omega|simp only [go_sem,d0,d1,d2])
    refine aZ.lex [] [] (by kernel_rfl) (by kernel_rfl) ?_
    (repeat' with_reducible first|intro _|refine rz ?_|refine ra ?_ ?_|omega|simp only [go_sem,d0,d1,d2])
    refine QV.intro (.bool true) (by ((repeat' with_reducible first|intro _|refine rz ?_|refine ra ?_ ?_|omega|simp only [go_sem,d2]);done)) ?_
    (repeat' with_reducible first|intro _|refine rz ?_|refine ra ?_ ?_|omega|simp only [go_sem,d0,d1,d2])
    refine QV.intro (.str (Lib.itoa av)) (by ((repeat' with_reducible first|intro _|refine rz ?_|refine ra ?_ ?_|omega|simp only [go_sem,d2]);done)) ?_
    (repeat' with_reducible first|intro _|refine rz ?_|refine ra ?_ ?_|omega|simp only [go_sem,d0,d1,d2])
    refine dJ.auto 1 ?_ rfl ?_<;>simp only [go_sem,Int.natCast_succ,Post,List.map_nil,aX]
    all_goals trace_state
  ·dsimp only [DK,aX]
   (repeat' with_reducible first|intro _|refine rz ?_|refine ra ?_ ?_|omega|simp only [go_sem,f1,hgd,f2,f3,hLl])
   refine ah.o kw 1 ?_
   (repeat' with_reducible first|intro _|refine rz ?_|refine ra ?_ ?_|omega|simp only [go_sem,f3,d0,d1,d2,f4])
   refine ah.k ka ?_
   (repeat' with_reducible first|intro _|refine rz ?_|refine ra ?_ ?_|omega|simp only [go_sem,d0,d1,d2])
   refine ah.k kb ?_
   (repeat' with_reducible first|intro _|refine rz ?_|refine ra ?_ ?_|omega|simp only [go_sem,d0,d1,d2])
   refine ah.k kn ?_
   (repeat' with_reducible first|intro _|refine rz ?_|refine ra ?_ ?_|omega|simp only [go_sem,d0,d1,d2])
   refine aZ.lex [] [] (by kernel_rfl) (by kernel_rfl) ?_
   (repeat' with_reducible first|intro _|refine rz ?_|refine ra ?_ ?_|omega|simp only [go_sem,d0,d1,d2])
   refine QV.intro (.bool false) (by ((repeat' with_reducible first|intro _|refine rz ?_|refine ra ?_ ?_|omega|simp only [go_sem,d2]);done)) ?_
   (repeat' with_reducible first|intro _|refine rz ?_|refine ra ?_ ?_|omega|simp only [go_sem,d0,d1,d2])
   refine QV.intro (.str (Lib.itoa av)) (by ((repeat' with_reducible first|intro _|refine rz ?_|refine ra ?_ ?_|omega|simp only [go_sem,d2]);done)) ?_
   (repeat' with_reducible first|intro _|refine rz ?_|refine ra ?_ ?_|omega|simp only [go_sem,d0,d1,d2])
   refine dJ.auto 1 ?_ rfl ?_<;>simp only [go_sem,Int.natCast_succ,Post,List.map_nil,aX]
   all_goals trace_state
  ·have fv:(0≤av)=False:=eq_false (by omega)
   dsimp only [DK,aX]
   (repeat' with_reducible first|intro _|refine rz ?_|refine ra ?_ ?_|omega|simp only [go_sem,f1,hgd,f2,f3,hLl])
   refine ah.o kw 1 ?_
   (repeat' with_reducible first|intro _|refine rz ?_|refine ra ?_ ?_|omega|simp only [go_sem,f3,d0,d1,d2,f4])
   refine ah.k ka ?_
   (repeat' with_reducible first|intro _|refine rz ?_|refine ra ?_ ?_|omega|simp only [go_sem,d0,d1,d2])
   refine ah.k kb ?_
   (repeat' with_reducible first|intro _|refine rz ?_|refine ra ?_ ?_|omega|simp only [go_sem,d0,d1,d2])
   refine ah.k kn ?_
   (repeat' with_reducible first|intro _|refine rz ?_|refine ra ?_ ?_|omega|simp only [go_sem,d0,d1,d2])
   refine aZ.lex [] [] (by kernel_rfl) (by kernel_rfl) ?_
   (repeat' with_reducible first|intro _|refine rz ?_|refine ra ?_ ?_|omega|simp only [go_sem,d0,d1,d2,fv])
   refine QV.intro (.bool true) (by ((repeat' with_reducible first|intro _|refine rz ?_|refine ra ?_ ?_|omega|simp only [go_sem,d2,fv]);done)) ?_
   (repeat' with_reducible first|intro _|refine rz ?_|refine ra ?_ ?_|omega|simp only [go_sem,d0,d1,d2,fv])
   refine QV.intro (.str (Lib.itoa av)) (by ((repeat' with_reducible first|intro _|refine rz ?_|refine ra ?_ ?_|omega|simp only [go_sem,d2,fv]);done)) ?_
   (repeat' with_reducible first|intro _|refine rz ?_|refine ra ?_ ?_|omega|simp only [go_sem,d0,d1,d2,fv])
   refine dJ.auto 1 ?_ rfl ?_<;>simp only [go_sem,Int.natCast_succ,Post,List.map_nil,aX]
   all_goals trace_state
  ·have fv:(0≤av)=True:=eq_true h0
   have fz:((z.length:Int)≤3)=False:=eq_false (by omega)
   dsimp only [DK,aX]
   (repeat' with_reducible first|intro _|refine rz ?_|refine ra ?_ ?_|omega|simp only [go_sem,f1,hgd,f2,f3,hLl])
   refine ah.o kw 1 ?_
   (repeat' with_reducible first|intro _|refine rz ?_|refine ra ?_ ?_|omega|simp only [go_sem,f3,d0,d1,d2,f4])
   refine ah.k ka ?_
   (repeat' with_reducible first|intro _|refine rz ?_|refine ra ?_ ?_|omega|simp only [go_sem,d0,d1,d2])
   refine ah.k kb ?_
   (repeat' with_reducible first|intro _|refine rz ?_|refine ra ?_ ?_|omega|simp only [go_sem,d0,d1,d2])
   refine ah.k kn ?_
   (repeat' with_reducible first|intro _|refine rz ?_|refine ra ?_ ?_|omega|simp only [go_sem,d0,d1,d2])
   refine aZ.lex [] [] (by kernel_rfl) (by kernel_rfl) ?_
   (repeat' with_reducible first|intro _|refine rz ?_|refine ra ?_ ?_|omega|simp only [go_sem,d0,d1,d2,fv,fz])
   refine QV.intro (.bool true) (by ((repeat' with_reducible first|intro _|refine rz ?_|refine ra ?_ ?_|omega|simp only [go_sem,d2,fv,fz]);done)) ?_
   (repeat' with_reducible first|intro _|refine rz ?_|refine ra ?_ ?_|omega|simp only [go_sem,d0,d1,d2,fv,fz])
   refine QV.intro (.str (Lib.itoa av)) (by ((repeat' with_reducible first|intro _|refine rz ?_|refine ra ?_ ?_|omega|simp only [go_sem,d2,fv,fz]);done)) ?_
   (repeat' with_reducible first|intro _|refine rz ?_|refine ra ?_ ?_|omega|simp only [go_sem,d0,d1,d2,fv,fz])
   refine dJ.auto 1 ?_ rfl ?_<;>simp only [go_sem,Int.natCast_succ,Post,List.map_nil,aX]
   all_goals trace_state
  ·have fv:(0≤av)=True:=eq_true h0
   have fz:((z.length:Int)≤3)=True:=eq_true (by omega)
   have fq:(Lib.itoa av=z)=False:=eq_false hq
   dsimp only [DK,aX]
   (repeat' with_reducible first|intro _|refine rz ?_|refine ra ?_ ?_|omega|simp only [go_sem,f1,hgd,f2,f3,hLl])
   refine ah.o kw 1 ?_
   (repeat' with_reducible first|intro _|refine rz ?_|refine ra ?_ ?_|omega|simp only [go_sem,f3,d0,d1,d2,f4])
   refine ah.k ka ?_
   (repeat' with_reducible first|intro _|refine rz ?_|refine ra ?_ ?_|omega|simp only [go_sem,d0,d1,d2])
   refine ah.k kb ?_
   (repeat' with_reducible first|intro _|refine rz ?_|refine ra ?_ ?_|omega|simp only [go_sem,d0,d1,d2])
   refine ah.k kn ?_
   (repeat' with_reducible first|intro _|refine rz ?_|refine ra ?_ ?_|omega|simp only [go_sem,d0,d1,d2])
   refine aZ.lex [] [] (by kernel_rfl) (by kernel_rfl) ?_
   (repeat' with_reducible first|intro _|refine rz ?_|refine ra ?_ ?_|omega|simp only [go_sem,d0,d1,d2,fv,fz,fq])
   refine QV.intro (.bool true) (by ((repeat' with_reducible first|intro _|refine rz ?_|refine ra ?_ ?_|omega|simp only [go_sem,d2,fv,fz,fq]);done)) ?_
   (repeat' with_reducible first|intro _|refine rz ?_|refine ra ?_ ?_|omega|simp only [go_sem,d0,d1,d2,fv,fz,fq])
   refine QV.intro (.str (Lib.itoa av)) (by ((repeat' with_reducible first|intro _|refine rz ?_|refine ra ?_ ?_|omega|simp only [go_sem,d2,fv,fz,fq]);refine ah.k ki ?_;(repeat' with_reducible first|intro _|exact dn|refine rn ?_|refine ra ?_ ?_))) ?_
   (repeat' with_reducible first|intro _|refine rz ?_|refine ra ?_ ?_|omega|simp only [go_sem,d0,d1,d2,fv,fz,fq])
   refine dJ.auto 1 ?_ rfl ?_<;>simp only [go_sem,Int.natCast_succ,Post,List.map_nil,aX]
   all_goals trace_state
 ·have fv:(0≤av)=True:=eq_true h0
  have fz:((z.length:Int)≤3)=True:=eq_true (by omega)
  have fq:(Lib.itoa av=z)=True:=eq_true hq
  dsimp only [DK,aX]
  (repeat' with_reducible first|intro _|refine rz ?_|refine ra ?_ ?_|omega|simp only [go_sem,f1,hgd,f2,f3,hLl])
  refine ah.o kw 1 ?_
  (repeat' with_reducible first|intro _|refine rz ?_|refine ra ?_ ?_|omega|simp only [go_sem,f3,d0,d1,d2,f4])
  refine ah.k ka ?_
  (repeat' with_reducible first|intro _|refine rz ?_|refine ra ?_ ?_|omega|simp only [go_sem,d0,d1,d2])
  refine ah.k kb ?_
  (repeat' with_reducible first|intro _|refine rz ?_|refine ra ?_ ?_|omega|simp only [go_sem,d0,d1,d2])
  refine ah.k kn ?_
  (repeat' with_reducible first|intro _|refine rz ?_|refine ra ?_ ?_|omega|simp only [go_sem,d0,d1,d2])
  refine aZ.lex [] [] (by kernel_rfl) (by kernel_rfl) ?_
  (repeat' with_reducible first|intro _|refine rz ?_|refine ra ?_ ?_|omega|simp only [go_sem,d0,d1,d2,fv,fz,fq])
  refine QV.intro (.bool true) (by ((repeat' with_reducible first|intro _|refine rz ?_|refine ra ?_ ?_|omega|simp only [go_sem,d2,fv,fz,fq]);done)) ?_
  (repeat' with_reducible first|intro _|refine rz ?_|refine ra ?_ ?_|omega|simp only [go_sem,d0,d1,d2,fv,fz,fq])
  refine QV.intro (.str (Lib.itoa av)) (by ((repeat' with_reducible first|intro _|refine rz ?_|refine ra ?_ ?_|omega|simp only [go_sem,d2,fv,fz,fq]);refine ah.k ki ?_;(repeat' with_reducible first|intro _|exact dn|refine rn ?_|refine ra ?_ ?_))) ?_
  (repeat' with_reducible first|intro _|refine rz ?_|refine ra ?_ ?_|omega|simp only [go_sem,d0,d1,d2,fv,fz,fq])
  have ha:1≤(lD 10 s).length:=List.length_pos_iff.2 ((qg 10 s).1 hf1)
  have hT:((lD 10 s).drop 1).length<s.length:=by rw [List.length_drop];omega
  rw [wC _ (((lD 10 s).drop 1).length+1) _ _ _ hT (by omega)] at h5
  generalize (lD 10 s).drop 1=t at *
  refine ⟨(i+1,acc++[⟨p,q,av⟩],t),?_,⟨by dsimp only;omega,by simp;omega,hcn,hnx.symm,by dsimp only;omega,h5⟩,by dsimp only;omega⟩
  refine dB.bJ rfl ?_ ?_<;>simp only [go_sem,Int.natCast_succ,DK,aX]
  all_goals simp [Mx.av]
end Go.Fv.E
/- Lists of mixes compared. -/
namespace Go.Fv.E
open Go Go.Proofs
set_option maxHeartbeats 4000000 in
theorem vk (a:List Mx):aU Tryz.prog 10 [.ro (aX a),.ro (aX a)] (.bool true) []:=by
 refine aU.bT Tryz.func10 rfl (by decide) (by simp [Tryz.f10]) [.tmp 4] rfl fun w0 T0 _=>?_
 simp only [Tryz.f10,aI]
 (repeat' with_reducible first|intro _|refine rz ?_|refine ra ?_ ?_|omega|simp only [go_sem,aX,List.length_map])
 refine bM.intro (fun i:Nat=>⟨26,[(0,.ro (aX a)),(1,.ro (aX a)),(12,.int .i64 a.length),(13,.int .i64 i)],[],0⟩) (fun i=>i≤a.length) (fun i=>a.length - i) 0 ?_ (Nat.zero_le _) fun i hi=>?_
 ·refine dB.bJ rfl ?_ ?_<;>simp only [go_sem,Int.natCast_succ,aX]
 by_cases hlt:i<a.length
 ·have e1:=kS a hlt
  have f1:((i:Int)<(a.length:Int))=True:=eq_true (by omega)
  generalize hx:a.getD i Mx.zero=x at *
  (repeat' with_reducible first|intro _|refine rz ?_|refine ra ?_ ?_|omega|simp only [go_sem,f1,dR,e1,aX,List.length_map])
  refine aZ.lex [] [] (by kernel_rfl) (by kernel_rfl) ?_
  (repeat' with_reducible first|intro _|refine rz ?_|refine ra ?_ ?_|omega|simp only [go_sem,dR,e1,aX,List.length_map])
  refine ⟨i+1,dB.bJ rfl ?_ ?_,by omega,by omega⟩<;>simp only [go_sem,Int.natCast_succ,aX]
 ·have f1:((i:Int)<(a.length:Int))=False:=eq_false (by omega)
  (repeat' with_reducible first|intro _|refine rz ?_|refine ra ?_ ?_|omega|simp only [go_sem,f1])
  refine dJ.auto 0 ?_ rfl ?_<;>simp only [go_sem,Int.natCast_succ,Post]
theorem DY {tab:List Bool} {n:Nat} (h:n<tab.length):(tab.map AV.bool).drop n=.bool (tab.getD n false)::(tab.map AV.bool).drop (n+1):=by
 rw [List.drop_eq_getElem_cons (by simpa using h)]
 simp [List.getD,h]
set_option maxHeartbeats 1000000 in
theorem Bz (tab:List Bool) (b:Int) (hl:tab.length=256) (h0:0≤b) (h1:b<256):aU Tryz.prog 59 [.cell (tab.map .bool),.int .u8 b] (.bool (tab.getD b.toNat false)) []:=by
 refine aU.bT Tryz.func59 rfl (by decide) (by simp [Tryz.f59]) [.tmp 4] rfl fun w0 T0 _=>?_
 simp only [Tryz.f59,aI]
 have hd:=DY (tab:=tab) (n:=b.toNat) (by omega)
 simp only [go_sem,Nat.mul_one,hd]
 (repeat' first|(with_reducible refine A8.intro fun _=>?_)|((with_reducible refine aN.intro ?_ ?_);(· first|omega|(with_reducible refine aN.intro ?_ ?_<;>omega)|(simp;done)|(simp;omega)))|((with_reducible refine dP.i64 ?_ ?_ ?_);(· omega);(· omega))|((with_reducible refine Ite.decide (fun _=>?_) (fun _=>?_))<;>first|(exfalso;omega)|simp only [go_sem])|((with_reducible refine Ite.bool (fun _=>?_) (fun _=>?_))<;>simp only [go_sem])|(with_reducible refine And.intro ?_ ?_))
 refine dJ.auto 0 ?_ rfl ?_<;>simp only [go_sem,Int.natCast_succ,Post]
theorem z83:zeroOf Tryz.prog 83=some (.agg (Array.replicate 256 (.bool false))):=by kernel_rfl
theorem O8:Tryz.prog.cellsOf 83=256:=by kernel_rfl
attribute [go_sem] z83 O8
def dD (s:List UInt8):Nat→List Bool
 | 0=>List.replicate 256 false
 | i+1=>(dD s i).set (s.getD i 0).toNat true
theorem jv (s:List UInt8):∀ i,(dD s i).length=256
 | 0=>by simp [dD]
 | i+1=>by simp [dD,jv s i]
set_option maxHeartbeats 1000000 in
theorem zK (s:List UInt8) (hs:∀ i,i<s.length→(s.getD i 0).toNat<128):aU Tryz.prog 39 [.str s] (.tup [.agg ((dD s s.length).map .bool),.bool true]) []:=by
 refine aU.bT Tryz.func39 rfl (by decide) (by simp [Tryz.f39]) [.cell 2 83,.tmp 3] rfl fun w0 T0 _=>?_
 simp only [Tryz.f39,aI]
 simp only [go_sem]
 refine bM.intro (fun i:Nat=>⟨21,[(0,.str s),(2,.ptr 0 0),(4,.int .i64 i)],[(0,.box 83 ((dD s i).map .bool))],1⟩) (fun i=>i≤s.length) (fun i=>s.length - i) 0 ?_ (Nat.zero_le _) fun i hi=>?_
 ·refine dB.bJ rfl ?_ ?_<;>simp only [go_sem,Int.natCast_succ,dD]
 have hlen:=jv s i
 simp only [go_sem]
 (repeat' first|(with_reducible refine A8.intro fun _=>?_)|((with_reducible refine aN.intro ?_ ?_);(· first|omega|(with_reducible refine aN.intro ?_ ?_<;>omega)|(simp;done)|(simp;omega)))|((with_reducible refine dP.i64 ?_ ?_ ?_);(· omega);(· omega))|((with_reducible refine Ite.decide (fun _=>?_) (fun _=>?_))<;>first|(exfalso;omega)|simp only [go_sem])|((with_reducible refine Ite.bool (fun _=>?_) (fun _=>?_))<;>simp only [go_sem])|(with_reducible refine And.intro ?_ ?_))
 ·have:=hs i (by omega)
  omega
 ·refine ⟨i+1,dB.bJ rfl ?_ ?_,by omega,by omega⟩
  ·simp only [go_sem,Int.natCast_succ]
  ·simp only [go_sem,Int.natCast_succ,dD]
 ·have e:i=s.length:=by omega
  subst e
  have e2:((dD s s.length).map AV.bool).take 256=(dD s s.length).map AV.bool:=List.take_of_length_le (by simp [hlen])
  have e3:spl ((dD s s.length).map AV.bool) 0 ((dD s s.length).map AV.bool)=(dD s s.length).map AV.bool:=Aa rfl
  refine dJ.auto 0 ?_ ?_ ?_<;>simp only [go_sem,Int.natCast_succ,Post,e2,e3]
  simp only [go_sem,e2,hlen,List.length_map]
def cutset:List UInt8:=[97,98,99,100,101,102,103,104,105,106,107,108,109,110,111,112,113,114,115,116,117,118,119,120,121,122,48,49,50,51,52,53,54,55,56,57,45]
theorem cut_small:∀ i,i<cutset.length→(cutset.getD i 0).toNat<128:=by decide
end Go.Fv.E
/- strings.Trim at any set of small letters; IsName. -/
namespace Go.Fv.E
open Go Go.Proofs
def dQ (p:UInt8→Bool) (s:List UInt8):List UInt8:=(s.reverse.dropWhile p).reverse
def sN (cut:List UInt8) (c:UInt8):Bool:=decide (c∈cut)
theorem sG (s:List UInt8) (c:UInt8):∀ i,i≤s.length→(dD s i).getD c.toNat false=decide (c∈s.take i)
 | 0,_=>by
  have h:c.toNat<256:=c.toNat_lt
  rw [List.take_zero]
  show (List.replicate 256 false).getD c.toNat false=_
  rw [List.getD_eq_getElem?_getD,List.getElem?_replicate,if_pos h]
  simp
 | i+1,h=>by
  have ih:=sG s c i (by omega)
  have hlen:=jv s i
  have hlt:i<s.length:=by omega
  have hc:=c.toNat_lt
  have htk:=List.take_succ_eq_append_getElem hlt
  rw [htk]
  simp only [dD,List.getD_eq_getElem?_getD] at ih ⊢
  rw [List.getElem?_set]
  have e:s[i]?.getD 0=s[i]:=by simp [hlt]
  rw [e]
  by_cases hq:s[i].toNat=c.toNat
  ·have hq2:s[i]=c:=UInt8.toNat_inj.1 hq
   rw [if_pos hq,if_pos (by rw [hlen];omega)]
   simp [hq2]
  ·rw [if_neg hq,ih]
   have hq2:¬c=s[i]:=fun h=>hq (by rw [h])
   rw [Bool.eq_iff_iff,decide_eq_true_eq,decide_eq_true_eq,List.mem_append,List.mem_singleton]
   exact ⟨.inl,fun h=>h.elim id fun h=>absurd h hq2⟩
theorem vS {s:List UInt8} (h0:0<s.length):s=s.take (s.length - 1)++[s.getD (s.length - 1) 0]:=by
 rw [getD_lt (by omega),List.take_append_getElem (by omega),List.take_of_length_le (by omega)]
theorem sJ (p:UInt8→Bool) (t:List UInt8) (c:UInt8):dQ p (t++[c])=if p c=true then dQ p t else t++[c]:=by
 unfold dQ
 rw [List.reverse_append,List.reverse_singleton,List.singleton_append,List.dropWhile_cons]
 split<;>simp_all
theorem Ip {p:UInt8→Bool} {s:List UInt8} (h0:0<s.length) (h:p (s.getD (s.length - 1) 0)=true):dQ p (s.take (s.length - 1))=dQ p s:=by
 conv=>rhs;rw [vS h0,sJ,if_pos h]
theorem BH {p:UInt8→Bool} {s:List UInt8} (h:0<s.length→p (s.getD (s.length - 1) 0)=false):dQ p s=s:=by
 by_cases h0:0<s.length
 ·conv=>lhs;rw [vS h0,sJ,if_neg (by rw [h h0];decide)]
  exact (vS h0).symm
 ·have:s=[]:=List.eq_nil_of_length_eq_zero (by omega)
  subst this;rfl
theorem Kr {p:UInt8→Bool} {s:List UInt8} (h0:0<s.length) (h:p (s.getD 0 0)=true):(s.drop 1).dropWhile p=s.dropWhile p:=by
 cases s with
 | nil=>simp at h0
 | cons c t=>
  have h':p c=true:=h
  rw [List.dropWhile_cons,if_pos h'];rfl
theorem E5 {p:UInt8→Bool} {s:List UInt8} (h:0<s.length→p (s.getD 0 0)=false):s.dropWhile p=s:=by
 cases s with
 | nil=>rfl
 | cons c t=>rw [List.dropWhile_cons,if_neg (by have:=h (by simp);rw [show (c::t).getD 0 0=c from rfl] at this;rw [this];decide)]
theorem nC {p:UInt8→Bool}:∀ {s:List UInt8},s.dropWhile p=[]↔s.all p=true
 | []=>by simp
 | c::t=>by
  rw [List.dropWhile_cons,List.all_cons]
  cases h:p c with
  | true=>simpa using nC
  | false=>simp
theorem JG (p:UInt8→Bool) (s:List UInt8):(dQ p s).dropWhile p=[]↔s.all p=true:=by
 rw [nC]
 unfold dQ
 rw [List.all_reverse,←nC]
 have hd:(s.reverse.dropWhile p).dropWhile p=s.reverse.dropWhile p:=by
  generalize s.reverse=t
  induction t with
  | nil=>rfl
  | cons c t ih=>
   rw [List.dropWhile_cons]
   cases h:p c with
   | true=>simpa using ih
   | false=>simp [List.dropWhile_cons,h]
 rw [hd,nC,List.all_reverse]
theorem pJ (tab:List Bool) (hl:tab.length=256) (c:UInt8):aU Tryz.prog 59 [.cell (tab.map .bool),.int .u8 c.toNat] (.bool (tab.getD c.toNat false)) []:=by
 have h:=Bz tab c.toNat hl (by omega) (by have:=c.toNat_lt;omega)
 rwa [Int.toNat_natCast] at h
set_option maxHeartbeats 1000000 in
theorem Ac (tab:List Bool) (hl:tab.length=256) (p:UInt8→Bool) (hp:∀ c:UInt8,tab.getD c.toNat false=p c) (s:List UInt8) :
  aU Tryz.prog 40 [.str s,.cell (tab.map .bool)] (.str (s.dropWhile p)) []:=by
 refine aU.bT Tryz.func40 rfl (by decide) (by simp [Tryz.f40]) [.tmp 4] rfl fun w0 T0 _=>?_
 simp only [Tryz.f40,aI]
 (repeat' with_reducible first|intro _|exact dn|refine rn ?_|refine ra ?_ ?_)
 refine bM.intro (fun t:List UInt8=>⟨16,[(0,.str t),(1,.cell (tab.map .bool))],[],0⟩) (fun t=>t.dropWhile p=s.dropWhile p) (fun t=>t.length) s ?_ rfl fun t he=>?_
 ·refine dB.bJ rfl ?_ ?_<;>simp only [go_sem,Int.natCast_succ]
 (repeat' with_reducible first|intro _|exact dn|refine rn ?_|refine ra ?_ ?_)
 ·have k:=pJ tab hl (t.getD 0 0)
  rw [hp] at k
  refine ah.fr (args':=[.cell (tab.map .bool),.int .u8 (t.getD 0 0).toNat]) (lu.ou k rfl rfl) (by simp [bG,bU,aJ]) 0 rfl (by simp [dw]) ?_
  cases hq:p (t.getD 0 0) with
  | true=>
   (repeat' with_reducible first|intro _|exact dn|refine rn ?_|refine ra ?_ ?_)
   refine ⟨t.drop 1,dB.bJ rfl ?_ ?_,?_,?_⟩
   ·simp only [go_sem,Int.natCast_succ]
    all_goals first|rfl|exact List.take_of_length_le (by simp)
   ·simp only [go_sem,Int.natCast_succ]
   ·rw [Kr (by omega) hq];exact he
   ·simp;omega
  | false=>
   have e:t=s.dropWhile p:=by rw [←he,E5 (fun _=>hq)]
   (repeat' with_reducible first|intro _|exact dn|refine rn ?_|refine ra ?_ ?_)
   refine dJ.auto 0 ?_ rfl ?_<;>simp only [go_sem,Int.natCast_succ,Post,e]
 ·have e:t=s.dropWhile p:=by rw [←he,E5 (fun h=>by omega)]
  refine dJ.auto 0 ?_ rfl ?_<;>simp only [go_sem,Int.natCast_succ,Post,e]
set_option maxHeartbeats 1000000 in
theorem xI (tab:List Bool) (hl:tab.length=256) (p:UInt8→Bool) (hp:∀ c:UInt8,tab.getD c.toNat false=p c) (s:List UInt8) :
  aU Tryz.prog 41 [.str s,.cell (tab.map .bool)] (.str (dQ p s)) []:=by
 refine aU.bT Tryz.func41 rfl (by decide) (by simp [Tryz.f41]) [.tmp 4] rfl fun w0 T0 _=>?_
 simp only [Tryz.f41,aI]
 (repeat' with_reducible first|intro _|exact dn|refine rn ?_|refine ra ?_ ?_)
 refine bM.intro (fun t:List UInt8=>⟨22,[(0,.str t),(1,.cell (tab.map .bool))],[],0⟩) (fun t=>dQ p t=dQ p s) (fun t=>t.length) s ?_ rfl fun t he=>?_
 ·refine dB.bJ rfl ?_ ?_<;>simp only [go_sem,Int.natCast_succ]
 have et:((t.length:Int) - 1).toNat=t.length - 1:=by omega
 (repeat' with_reducible first|intro _|refine rz ?_|refine ra ?_ ?_|omega|simp only [go_sem,et])
 ·have k:=pJ tab hl (t.getD (t.length - 1) 0)
  rw [hp] at k
  refine ah.fr (args':=[.cell (tab.map .bool),.int .u8 (t.getD (t.length - 1) 0).toNat]) (lu.ou k rfl rfl) (by simp [bG,bU,aJ]) 0 rfl (by simp [dw]) ?_
  cases hq:p (t.getD (t.length - 1) 0) with
  | true=>
   (repeat' with_reducible first|intro _|refine rz ?_|refine ra ?_ ?_|omega|simp only [go_sem,et])
   refine ⟨t.take (t.length - 1),dB.bJ rfl ?_ ?_,?_,?_⟩
   ·simp only [go_sem,Int.natCast_succ,et]
    all_goals rfl
   ·simp only [go_sem,Int.natCast_succ]
   ·rw [Ip (by omega) hq];exact he
   ·simp;omega
  | false=>
   have e:t=dQ p s:=by rw [←he,BH (fun _=>hq)]
   (repeat' with_reducible first|intro _|exact dn|refine rn ?_|refine ra ?_ ?_)
   refine dJ.auto 0 ?_ rfl ?_<;>simp only [go_sem,Int.natCast_succ,Post,e]
 ·have e:t=dQ p s:=by rw [←he,BH (fun h=>by omega)]
  refine dJ.auto 0 ?_ rfl ?_<;>simp only [go_sem,Int.natCast_succ,Post,e]
set_option maxHeartbeats 1000000 in
theorem JF (s cut:List UInt8) (hc:∀ i,i<cut.length→(cut.getD i 0).toNat<128) (h2:2≤cut.length) :
  aU Tryz.prog 26 [.str s,.str cut] (.str ((dQ (sN cut) s).dropWhile (sN cut))) []:=by
 have hlen:=jv cut cut.length
 have km:=zK cut hc
 have hg:∀ c:UInt8,(dD cut cut.length).getD c.toNat false=sN cut c:=fun c=>by
  rw [sG cut c _ (Nat.le_refl _),List.take_length];rfl
 have hne:¬cut=[]:=fun e=>by subst e;simp at h2
 refine aU.bT Tryz.func26 rfl (by decide) (by simp [Tryz.f26]) [.tmp 4] rfl fun w0 T0 _=>?_
 simp only [Tryz.f26,aI]
 by_cases h0:s=[]
 ·have e:(dQ (sN cut) []).dropWhile (sN cut)=[]:=rfl
  (repeat' with_reducible first|intro _|refine rz ?_|refine ra ?_ ?_|omega|simp only [go_sem,h0])
  refine dJ.auto 0 ?_ rfl ?_<;>simp only [go_sem,Int.natCast_succ,Post,e]
 generalize sN cut=p at *
 (repeat' with_reducible first|intro _|refine rz ?_|refine ra ?_ ?_|omega|simp only [go_sem,h0,hne])
 refine ah.fr (args':=[.str cut]) (lu.ou km (by simp [jH,iK,tC]) rfl) (by simp [bG,bU,aJ]) 0 (by simp [Fv.below,aA,kC]) (by simp [dw]) ?_
 generalize dD cut cut.length=tab at hlen hg ⊢
 simp only [go_sem]
 have e1:spl (List.replicate 256 (AV.bool false)) 0 (tab.map .bool)=tab.map .bool:=Aa (by simp [hlen])
 refine aN.intro (by simp [hlen]) ?_
 rw [e1]
 refine aN.intro (by omega) ?_
 refine ah.fr (args':=[.str s,.cell (tab.map .bool)]) (lu.ou (xI tab hlen p hg s) rfl rfl) ?_ 0 rfl (by simp [dw]) ?_
 ·exact ⟨_,_,rfl,⟨_,_,⟨_,_,_,rfl,lJ _ 4 _,rfl⟩,rfl,rfl⟩,rfl⟩
 simp only [go_sem]
 refine ah.fr (args':=[.str (dQ p s),.cell (tab.map .bool)]) (lu.ou (Ac tab hlen p hg (dQ p s)) rfl rfl) ?_ 0 rfl (by simp [dw]) ?_
 ·exact ⟨_,_,rfl,⟨_,_,⟨_,_,_,rfl,lJ _ 4 _,rfl⟩,rfl,rfl⟩,rfl⟩
 simp only [go_sem]
 refine dJ.auto 0 ?_ rfl ?_<;>simp only [go_sem,Int.natCast_succ,Post]
def nameB (c:UInt8):Bool:=decide (97≤c.toNat) && decide (c.toNat≤122) || decide (48≤c.toNat) && decide (c.toNat≤57) || decide (c.toNat=45)
def Ef (s:List UInt8):Bool:=decide (s≠[]) && decide (s.length≤40) && (decide (97≤(s.getD 0 0).toNat) && decide ((s.getD 0 0).toNat≤122)) && s.all nameB
set_option maxRecDepth 20000 in
theorem Ii:∀ n:Nat,n<256→sN cutset (UInt8.ofNat n)=nameB (UInt8.ofNat n):=by decide
theorem D7:sN cutset=nameB:=funext fun c=>by
 have h:=Ii c.toNat c.toNat_lt
 simpa using h
set_option maxHeartbeats 1000000 in
theorem Gs (s:List UInt8):aU Tryz.prog 12 [.str s] (.bool (Ef s)) []:=by
 have k:=JF s cutset cut_small (by decide)
 rw [D7] at k
 have ht:=JG nameB s
 have hcut:cutset=[97,98,99,100,101,102,103,104,105,106,107,108,109,110,111,112,113,114,115,116,117,118,119,120,121,122,48,49,50,51,52,53,54,55,56,57,45]:=rfl
 unfold Ef
 generalize dQ nameB s=t at *
 generalize t.dropWhile nameB=t at *
 generalize s.all nameB=a at *
 refine aU.bT Tryz.func12 rfl (by decide) (by simp [Tryz.f12]) [.tmp 2] rfl fun w0 T0 _=>?_
 simp only [Tryz.f12,aI]
 by_cases h0:s=[]
 ·(repeat' with_reducible first|intro _|refine rz ?_|refine ra ?_ ?_|omega|simp only [go_sem,h0])
  refine dJ.auto 0 ?_ rfl ?_<;>simp only [go_sem,Int.natCast_succ,Post]
  all_goals simp
 ·have hlp:0<s.length:=List.length_pos_iff.2 h0
  (repeat' with_reducible first|intro _|refine rz ?_|refine ra ?_ ?_|omega|simp only [go_sem,h0])
  all_goals first
   |(refine ah.fr (args':=[.str s,.str cutset]) (lu.ou k rfl rfl) (by simp [bG,bU,aJ,cutset]) 0 rfl (by simp [dw]) ?_
     (repeat' with_reducible first|intro _|exact dn|refine rn ?_|refine ra ?_ ?_)
     refine dJ.auto 0 ?_ rfl ?_<;>simp only [go_sem,Int.natCast_succ,Post])
   |(refine dJ.auto 0 ?_ rfl ?_<;>simp only [go_sem,Int.natCast_succ,Post])
  all_goals
   rw [Bool.eq_iff_iff]
   simp only [Bool.and_eq_true,decide_eq_true_eq,ht,Bool.false_eq_true,false_iff]
   first
    | exact ⟨fun ha=>⟨⟨⟨h0,by omega⟩,by omega,by omega⟩,ha⟩,fun h=>h.2⟩
    |(intro h;omega)
end Go.Fv.E
/- The laws' first question. -/
namespace Go.Fv.E
open Go Go.Proofs
theorem Gt:aU Tryz.prog 4 [] (.bool true) []:=by
 have k:=Gs [97]
 refine aU.bT Tryz.func4 rfl (by decide) (by simp [Tryz.f4]) [.tmp 0] rfl fun w0 T0 _=>?_
 simp only [Tryz.f4,aI]
 have e:Ef [97]=true:=by decide
 rw [e] at k
 (repeat' with_reducible first|intro _|exact dn|refine rn ?_|refine ra ?_ ?_)
 refine ah.k k ?_
 (repeat' with_reducible first|intro _|exact dn|refine rn ?_|refine ra ?_ ?_)
 refine dJ.auto 0 ?_ rfl ?_<;>simp only [go_sem,Int.natCast_succ,Post]
end Go.Fv.E
/- The law MixesPrint. -/
namespace Go.Fv.E
open Go Go.Proofs
theorem aU.weak {P:Program} {f:Nat} {args:List AV} {out out':AV} {rows:List (Nat × Item)} (k:aU P f args out rows) (h:jC rows out out'):aU P f args out' []:=
 ⟨k.1,fun w T vals hg hv=>Calls.mono (k.2 w T vals hg hv) fun e w' ⟨v,he,hb,ho⟩=>⟨v,he,hb,ho.ro h⟩⟩
theorem CP (s:Bytes):aU Tryz.prog 8 [.str s] (.tup [.ro (aX (yR s).1),.int .i64 (yR s).2.1,.int .i64 (yR s).2.2]) []:=
 aU.weak (GN s) (by simp [jC,bG,bU,aJ,lk,aX])
theorem xC (s:Bytes):aU Tryz.prog 11 [.str s] (.tup [.ro (aX (yR s).1),.int .i64 (yR s).2.1,.int .i64 (yR s).2.2]) []:=
 aU.weak (wB s) (by simp [jC,bG,bU,aJ,lk,aX])
set_option maxHeartbeats 4000000 in
theorem xB (l:List Mx) (s:Bytes):aU Tryz.prog 3 [.ro (aX l),.str s] (.bool true) []:=by
 have kr:=I9 l
 refine aU.bT Tryz.func3 rfl (by decide) (by simp [Tryz.f3]) [.tmp 4] rfl fun w0 T0 _=>?_
 simp only [Tryz.f3,aI]
 generalize l7 [] (l.take 12)=k at *
 have hel:∀ i,i<2→∃ m,([[AV.ro (aX l)],[AV.ro (aX k)]]:List (List AV)).getD i []=[.ro (aX m)]:=fun i hi=>by
  rcases (by omega:i=0∨i=1) with rfl|rfl
  ·exact ⟨l,rfl⟩
  ·exact ⟨k,rfl⟩
 unfold aX at kr hel ⊢
 (repeat' with_reducible first|intro _|exact dn|refine rn ?_|refine ra ?_ ?_)
 refine ah.k Gt ?_
 (repeat' with_reducible first|intro _|exact dn|refine rn ?_|refine ra ?_ ?_)
 refine ah.N9 (.ro (.objs 3 (k.map Mx.av))) kr (by simp only [dF,bG,jr,bU,aJ,List.drop_zero,lk,reduceIte,reduceCtorEq,Nat.reduceEqDiff,Option.some.injEq,Item.row.injEq,Item.box.injEq,AV.ro.injEq,exists_eq_left,exists_and_left,exists_eq_left',exists_eq_right,and_assoc,and_true,true_and,List.cons.injEq,exists_eq',exists_eq]) (by simp [jC,jr,aJ,lk]) rfl ?_
 clear kr
 (repeat' with_reducible first|intro _|exact dn|refine rn ?_|refine ra ?_ ?_)
 refine bM.intro (fun i:Nat=>⟨100,[(1,.str s),(24,.own 0),(25,.int .i64 2),(26,.int .i64 i)],[(0,.row 22 (.objs 1 [[.ro (.objs 3 (l.map Mx.av))],[.ro (.objs 3 (k.map Mx.av))]]))],1⟩) (fun i=>i≤2) (fun i=>2 - i) 0 ?_ (Nat.zero_le _) fun i hi=>?_
 ·refine dB.bJ rfl ?_ ?_<;>simp only [go_sem,Int.natCast_succ]
 by_cases hlt:i<2
 ·obtain ⟨m,he⟩:=hel i hlt
  have f1:((i:Int)<2)=True:=eq_true (by omega)
  have k1:=Jm m
  have k2:=jG m
  have k5:=vk m
  unfold Ov at k1
  unfold aX at k1 k2 k5
  by_cases hp:bH m=0
  ·have k3:=CP (m.flatMap lF)
   rw [Ji hp] at k3
   have k4:=xE m hp
   unfold aX at k3 k4
   rw [if_pos hp] at k1
   rw [hp] at k1 k2
   generalize m.flatMap lF=pt at *
   (repeat' with_reducible first|intro _|refine rz ?_|refine ra ?_ ?_|omega|simp only [go_sem,f1,dR,he])
   refine ah.k k1 ?_
   (repeat' with_reducible first|intro _|exact dn|refine rn ?_|refine ra ?_ ?_)
   refine ah.k k2 ?_
   (repeat' with_reducible first|intro _|exact dn|refine rn ?_|refine ra ?_ ?_)
   refine ah.N9 (.tup [.ro (.objs 3 (m.map Mx.av)),.int .i64 0,.int .i64 0]) k3 (by simp only [dF,bG,jr,bU,aJ,List.drop_zero,lk,reduceIte,reduceCtorEq,Nat.reduceEqDiff,Option.some.injEq,Item.row.injEq,Item.box.injEq,AV.ro.injEq,exists_eq_left,exists_and_left,exists_eq_left',exists_eq_right,and_assoc,and_true,true_and,List.cons.injEq,exists_eq',exists_eq]) (by simp [jC,bG,bU,jr,aJ,lk,dF]) rfl ?_
   (repeat' with_reducible first|intro _|exact dn|refine rn ?_|refine ra ?_ ?_)
   refine ah.k k4 ?_
   (repeat' with_reducible first|intro _|exact dn|refine rn ?_|refine ra ?_ ?_)
   refine ah.k k5 ?_
   (repeat' with_reducible first|intro _|exact dn|refine rn ?_|refine ra ?_ ?_)
   refine ⟨i+1,dB.bJ rfl ?_ ?_,by omega,by omega⟩<;>simp only [go_sem,Int.natCast_succ]
  ·have g:(bH m=0)=False:=eq_false hp
   rw [if_neg hp] at k1
   (repeat' with_reducible first|intro _|refine rz ?_|refine ra ?_ ?_|omega|simp only [go_sem,f1,dR,he])
   refine ah.k k1 ?_
   (repeat' with_reducible first|intro _|exact dn|refine rn ?_|refine ra ?_ ?_)
   refine ah.k k2 ?_
   (repeat' with_reducible first|intro _|refine rz ?_|refine ra ?_ ?_|omega|simp only [go_sem,g])
   refine ⟨i+1,dB.bJ rfl ?_ ?_,by omega,by omega⟩<;>simp only [go_sem,Int.natCast_succ]
 ·have f1:((i:Int)<2)=False:=eq_false (by omega)
  have k1:=CP s
  have k2:=xC s
  have k3:=vk (yR s).1
  generalize yR s=R at *
  unfold aX at k1 k2 k3
  (repeat' with_reducible first|intro _|refine rz ?_|refine ra ?_ ?_|omega|simp only [go_sem,f1])
  refine ah.N9 (.tup [.ro (.objs 3 (R.1.map Mx.av)),.int .i64 R.2.1,.int .i64 R.2.2]) k1 (by simp only [dF,bG,jr,bU,aJ,List.drop_zero,lk,reduceIte,reduceCtorEq,Nat.reduceEqDiff,Option.some.injEq,Item.row.injEq,Item.box.injEq,AV.ro.injEq,exists_eq_left,exists_and_left,exists_eq_left',exists_eq_right,and_assoc,and_true,true_and,List.cons.injEq,exists_eq',exists_eq]) (by simp [jC,bG,bU,jr,aJ,lk,dF]) rfl ?_
  (repeat' with_reducible first|intro _|exact dn|refine rn ?_|refine ra ?_ ?_)
  refine ah.N9 (.tup [.ro (.objs 3 (R.1.map Mx.av)),.int .i64 R.2.1,.int .i64 R.2.2]) k2 (by simp only [dF,bG,jr,bU,aJ,List.drop_zero,lk,reduceIte,reduceCtorEq,Nat.reduceEqDiff,Option.some.injEq,Item.row.injEq,Item.box.injEq,AV.ro.injEq,exists_eq_left,exists_and_left,exists_eq_left',exists_eq_right,and_assoc,and_true,true_and,List.cons.injEq,exists_eq',exists_eq]) (by simp [jC,bG,bU,jr,aJ,lk,dF]) rfl ?_
  (repeat' with_reducible first|intro _|exact dn|refine rn ?_|refine ra ?_ ?_)
  refine ah.k k3 ?_
  (repeat' with_reducible first|intro _|exact dn|refine rn ?_|refine ra ?_ ?_)
  refine dJ.auto 0 ?_ rfl ?_<;>simp only [go_sem,Int.natCast_succ,Post]
end Go.Fv.E
