/-
  A part of the proof of the claim: walks over the program's functions and the plain laws that these need. No condition of its own.
-/
import Derived.Test.YtodlgmmbfbiilaaGreatDoorHArcMCardPart2
import Derived.Test.YtodlgmmbfbiilaaGreatDoorHArcMCardPart14
import Derived.Test.YtodlgmmbfbiilaaGreatDoorFvPart10
import Derived.Test.YtodlgmmbfbiilaaGreatDoorHArcMCardPart9
import Derived.Test.YtodlgmmbfbiilaaGreatDoorHArcMCardPart7
import Derived.Test.YtodlgmmbfbiilaaGreatDoorHArcMCardPart6
import Derived.Lib.MakeNoZero
import Derived.Test.YtodlgmmbfbiilaaGreatDoorHArcMCardPart1
set_option linter.unusedSimpArgs false
set_option linter.unusedVariables false
set_option linter.unnecessarySimpa false
set_option maxRecDepth 8000
/- The closures of shrink.List and of the reference's. -/
namespace Go.Fv.H
open Go Go.Proofs
theorem slc {s:Bytes} {a n:Nat}:(s.drop a).take (a+n - a)=(s.drop a).take n:=by rw [Nat.add_sub_cancel_left]
theorem WZ (s:Bytes) (a:Nat) (sh:Bool) (n:Nat) (hs:s.length≤300000000000000) (ha:a≤s.length) (hn:n≤4294967296) :
  fA Tryz.prog 90 [.int .i64 n,.ptr 0 0,.ptr 1 0,.ptr 2 0] [(0,.box 4 [.bool sh]),(1,.box 9 [.str s]),(2,.box 3 [.int .i64 a])] 3 (.str (tk s a sh n).t) [(0,.box 4 [.bool (tk s a sh n).sh]),(1,.box 9 [.str s]),(2,.box 3 [.int .i64 (tk s a sh n).a])]:=by
 refine fA.aG Tryz.func90 rfl (by decide) (by simp [Tryz.f90]) cv3 [.tmp 5] rfl fun w0 T0 _=>?_
 simp only [Tryz.f90,au]
 cases sh with
 | true=>
  rw [NM]
  (repeat' with_reducible first|intro _|exact dn|refine rn ?_|refine ra ?_ ?_)
  refine jf.auto 3 (Nat.le_refl 3) ?_ rfl ?_<;>simp only [go_sem,Int.natCast_succ,gq]
 | false=>
  by_cases h:s.length<a+n
  ·have e:tk s a false n=⟨[],a,true⟩:=by unfold tk;rw [if_pos (.inr h)]
   have f1:((s.length:Int) - (a:Int)<(n:Int))=True:=eq_true (by omega)
   rw [e]
   (repeat' with_reducible first|intro _|refine rz ?_|refine ra ?_ ?_|omega|simp only [go_sem,f1])
   refine jf.auto 3 (Nat.le_refl 3) ?_ rfl ?_<;>simp only [go_sem,Int.natCast_succ,gq]
  ·have e:tk s a false n=⟨(s.drop a).take n,a+n,false⟩:=by unfold tk;rw [if_neg (by simp;omega)]
   have f1:((s.length:Int) - (a:Int)<(n:Int))=False:=eq_false (by omega)
   have e2:(a:Int)+(n:Int)=((a+n:Nat):Int):=by omega
   have e3:((a+n:Nat):Int) - (n:Int)=(a:Int):=by omega
   rw [e]
   (repeat' with_reducible first|intro _|refine rz ?_|refine ra ?_ ?_|omega|simp only [go_sem,f1,e2,e3,slc])
   refine jf.auto 3 (Nat.le_refl 3) ?_ rfl ?_<;>simp only [go_sem,Int.natCast_succ,gq]
def iR (s:Bytes) (a:Nat) (sh:Bool) (n:Nat):Tk:=
 if s.length<a+n then ⟨List.replicate n 0,a,true⟩ else ⟨(s.drop a).take n,a+n,sh⟩
theorem JL (s:Bytes) (a:Nat) (sh:Bool) (n:Nat):(iR s a sh n).t.length≤n:=by
 unfold iR;split
 ·exact Nat.le_of_eq List.length_replicate
 ·rw [List.length_take];exact Nat.min_le_left _ _
theorem WX {s:Bytes} {a:Nat} (sh:Bool) (n:Nat) (h:a≤s.length):(iR s a sh n).a≤s.length:=by
 unfold iR;split
 ·exact h
 ·dsimp only;omega
theorem Qd (s:Bytes) (a n:Nat):(iR s a true n).sh=true:=by unfold iR;split<;>rfl
theorem Qb (s:Bytes) (a n:Nat):(iR s a false n).sh=(tk s a false n).sh∧((iR s a false n).sh=false→iR s a false n=tk s a false n):=by
 unfold iR tk
 by_cases h:s.length<a+n
 ·rw [if_pos h,if_pos (.inr h)];exact ⟨rfl,fun h=>by cases h⟩
 ·rw [if_neg h,if_neg (by simp;omega)];exact ⟨rfl,fun _=>rfl⟩
def U8 (s:Bytes) (a:Nat):Z4:=
 let x:=iR s a false 1
 let y:=iR s x.a x.sh (aW x.t)
 let z:=iR s y.a y.sh 4
 ⟨y.t,aW z.t,z.a,z.sh⟩
theorem XG (s:Bytes) (a:Nat):(U8 s a).sh=(AO s a false).sh∧((U8 s a).sh=false→U8 s a=AO s a false):=by
 have h1:=Qb s a 1
 unfold U8 AO
 dsimp only
 generalize iR s a false 1=X at *
 generalize tk s a false 1=X' at *
 obtain ⟨xt,xa,xs⟩:=X
 cases xs with
 | true=>
  dsimp only at h1 ⊢
  rw [←h1.1]
  have e1:=Qd s xa (aW xt)
  generalize iR s xa true (aW xt)=Y at *
  obtain ⟨yt,ya,ys⟩:=Y
  dsimp only at e1
  subst e1
  dsimp only
  rw [Qd,NM]
  dsimp only
  rw [NM]
  exact ⟨rfl,fun h=>by cases h⟩
 | false=>
  have h2:=h1.2 rfl
  rw [←h2]
  dsimp only
  have h3:=Qb s xa (aW xt)
  generalize iR s xa false (aW xt)=Y at *
  generalize tk s xa false (aW xt)=Y' at *
  obtain ⟨yt,ya,ys⟩:=Y
  cases ys with
  | true=>
   dsimp only at h3 ⊢
   rw [Qd,←h3.1,NM]
   exact ⟨rfl,fun h=>by cases h⟩
  | false=>
   have h4:=h3.2 rfl
   rw [←h4]
   dsimp only
   have h5:=Qb s ya 4
   refine ⟨h5.1,fun h=>?_⟩
   rw [h5.2 h]
set_option maxHeartbeats 1000000 in
theorem Fh (s:Bytes) (a:Nat) (sh:Bool) (n:Nat) (hs:s.length≤300000000000000) (ha:a≤s.length) (hn:n≤1000) :
  fA Tryz.prog 91 [.int .i64 n,.ptr 0 0,.ptr 1 0,.ptr 2 0] [(0,.box 9 [.str s]),(1,.box 3 [.int .i64 a]),(2,.box 4 [.bool sh])] 3 (.str (iR s a sh n).t) [(0,.box 9 [.str s]),(1,.box 3 [.int .i64 (iR s a sh n).a]),(2,.box 4 [.bool (iR s a sh n).sh])]:=by
 have kr:=PY n (by omega)
 refine fA.aG Tryz.func91 rfl (by decide) (by simp [Tryz.f91]) cv3 [.tmp 5] rfl fun w0 T0 _=>?_
 simp only [Tryz.f91,au]
 by_cases h:s.length<a+n
 ·have e:iR s a sh n=⟨List.replicate n 0,a,true⟩:=by unfold iR;rw [if_pos h]
  have f1:((s.length:Int) - (a:Int)<(n:Int))=True:=eq_true (by omega)
  rw [e]
  (repeat' with_reducible first|intro _|refine rz ?_|refine ra ?_ ?_|omega|simp only [go_sem,f1])
  refine ah.k kr ?_
  (repeat' with_reducible first|intro _|exact dn|refine rn ?_|refine ra ?_ ?_)
  refine jf.auto 3 (Nat.le_refl 3) ?_ rfl ?_<;>simp only [go_sem,Int.natCast_succ,gq]
 ·have e:iR s a sh n=⟨(s.drop a).take n,a+n,sh⟩:=by unfold iR;rw [if_neg h]
  have f1:((s.length:Int) - (a:Int)<(n:Int))=False:=eq_false (by omega)
  have e2:(a:Int)+(n:Int)=((a+n:Nat):Int):=by omega
  have e3:((a+n:Nat):Int) - (n:Int)=(a:Int):=by omega
  rw [e]
  (repeat' with_reducible first|intro _|refine rz ?_|refine ra ?_ ?_|omega|simp only [go_sem,f1,e2,e3,slc])
  refine jf.auto 3 (Nat.le_refl 3) ?_ rfl ?_<;>simp only [go_sem,Int.natCast_succ,gq]
end Go.Fv.H
/- shrink.List: the walk. -/
namespace Go.Fv.H
open Go Go.Proofs
def Et (l:List (Bytes × Nat)) (a j:Nat):List En:=(fG l a).take j++(fG l 0).drop j
theorem VG (l:List (Bytes × Nat)) (a:Nat) {j:Nat} (h:j≤l.length):(Et l a j).length=l.length:=by
 unfold Et
 rw [List.length_append,List.length_take,List.length_drop,eX,eX];omega
theorem X4 (l:List (Bytes × Nat)) (a:Nat) {j:Nat} (h:j<l.length):(Et l a j).getD j En.zero=(fG l 0).getD j En.zero:=by
 unfold Et
 have h1:=eX l a
 rw [List.getD_eq_getElem?_getD,List.getD_eq_getElem?_getD,List.getElem?_append_right (by rw [List.length_take];omega),List.length_take,List.getElem?_drop,h1]
 congr 2;omega
theorem VH (l:List (Bytes × Nat)) (a:Nat) {j:Nat} (h:j<l.length):(Et l a j).set j ⟨((fG l 0).getD j En.zero).n,((fG l 0).getD j En.zero).a+a,((fG l 0).getD j En.zero).k⟩=Et l a (j+1):=by
 have h1:=eX l a
 have h2:=eX l 0
 have e:=QW a l 0 j h
 rw [Nat.zero_add] at e
 rw [←e]
 have hj:j<(fG l a).length:=by omega
 have e2:(fG l a).getD j En.zero=(fG l a)[j]:=by simp [List.getD_eq_getElem?_getD,hj]
 rw [e2]
 unfold Et
 rw [List.set_append_right _ _ (by rw [List.length_take];omega),List.length_take,Nat.min_eq_left (by omega),Nat.sub_self,List.drop_eq_getElem_cons (show j<(fG l 0).length by omega),List.set_cons_zero,List.take_succ_eq_append_getElem hj,List.append_assoc]
 rfl
theorem QX (l:List (Bytes × Nat)) (a j:Nat):((fG l a).getD j En.zero).n=(l.map Prod.fst).getD j []:=by
 rw [←zF l a,List.getD_eq_getElem?_getD,List.getD_eq_getElem?_getD,List.getElem?_map]
 cases (fG l a)[j]?<;>rfl
set_option maxHeartbeats 4000000 in
theorem X0 (s:Bytes) (hs:s.length≤140737488351232):aA Tryz.prog 39 [.str s] (.tup [.own 0,.int .i64 (bU s).2]) [(0,.row 75 (GZ (bU s).1))]:=by
 refine aA.aG Tryz.func39 rfl (by decide) (by simp [Tryz.f39]) [.tmp 2,.tmp 3] rfl fun w0 T0 _=>?_
 simp only [Tryz.f39,au]
 by_cases h1:4194304<s.length
 ·have f1:((4194304:Int)<(s.length:Int))=True:=eq_true (by omega)
  have e:bU s=([],4):=by unfold bU;rw [if_pos h1]
  rw [e]
  (repeat' with_reducible first|intro _|refine rz ?_|refine ra ?_ ?_|omega|simp only [go_sem,f1])
  refine aT.auto 1 ?_ rfl ?_<;>simp only [go_sem,Int.natCast_succ,Post]
 have f1:((4194304:Int)<(s.length:Int))=False:=eq_false (by omega)
 by_cases h2:s.length<6
 ·have f2:((s.length:Int)<6)=True:=eq_true (by omega)
  have e:bU s=([],8):=by unfold bU;rw [if_neg h1,if_pos (.inl h2)]
  rw [e]
  (repeat' with_reducible first|intro _|refine rz ?_|refine ra ?_ ?_|omega|simp only [go_sem,f1,f2])
  refine aT.auto 1 ?_ rfl ?_<;>simp only [go_sem,Int.natCast_succ,Post]
 have f2:((s.length:Int)<6)=False:=eq_false (by omega)
 by_cases h3:s.take 4=wZ
 rotate_left
 ·have e:bU s=([],8):=by unfold bU;rw [if_neg h1,if_pos (.inr h3)]
  have f3:(s.take 4=[70,66,65,49])=False:=eq_false h3
  rw [e]
  (repeat' with_reducible first|intro _|refine rz ?_|refine ra ?_ ?_|omega|simp only [go_sem,f1,f2,f3])
  refine aT.auto 1 ?_ rfl ?_<;>simp only [go_sem,Int.natCast_succ,Post]
 have f3:(s.take 4=[70,66,65,49])=True:=eq_true h3
 have kb:=bQ ((s.drop 4).take 2) (by rw [List.length_take];omega)
 have hm:=Zp (s:=(s.drop 4).take 2) (List.length_take_le _ _)
 obtain ⟨M,hM⟩:∃ M,aW ((s.drop 4).take 2)=M:=⟨_,rfl⟩
 rw [hM] at kb hm
 have hsl:(s.drop 4).take (6 - 4)=(s.drop 4).take 2:=rfl
 (repeat' with_reducible first|intro _|refine rz ?_|refine ra ?_ ?_|omega|simp only [go_sem,f1,f2,f3])
 refine ah.k kb ?_
 (repeat' with_reducible first|intro _|exact dn|refine rn ?_|refine ra ?_ ?_)
 have hls:=fun i=>RG (s:=s) (by omega) i
 have hN:YG s=M:=hM
 refine aF.intro (fun i:Nat=>⟨104,[(34,.int .i64 i),(33,.int .i64 M),(9,.int .i64 (fE (ls s i).l)),(8,.own 3),(7,.fn 90 [.ptr 2 0,.ptr 0 0,.ptr 1 0]),(6,.ptr 2 0),(4,.ptr 1 0),(1,.ptr 0 0)],[(0,.box 9 [.str s]),(1,.box 3 [.int .i64 (ls s i).a]),(2,.box 4 [.bool false]),(3,.row 75 (GZ (fG (ls s i).l 0)))],4⟩) (fun i=>i≤M∧(ls s i).sh=false) (fun i=>M - i) 0 ?_ ⟨Nat.zero_le _,rfl⟩ fun i hi=>?_
 ·refine aK.ak rfl ?_ ?_<;>simp only [go_sem,Int.natCast_succ]
  all_goals first|rfl|exact ⟨rfl,rfl⟩|trace_state
 obtain ⟨hiM,hish⟩:=hi
 have ho:=hls i
 by_cases hlt:i<M
 ·have f4:((i:Int)<(M:Int))=True:=eq_true (by omega)
  have ho2:=U9 (ls s i).sh ho.a1
  have hst:ls s (i+1)=⟨(ls s i).l++[((AO s (ls s i).a (ls s i).sh).n,(AO s (ls s i).a (ls s i).sh).k)],(AO s (ls s i).a (ls s i).sh).a,(AO s (ls s i).a (ls s i).sh).sh⟩:=rfl
  have hsn:=GY ((AO s (ls s i).a (ls s i).sh).n,(AO s (ls s i).a (ls s i).sh).k) (ls s i).l 0
  have hsk:=Ah (ls s i).l ((AO s (ls s i).a (ls s i).sh).n,(AO s (ls s i).a (ls s i).sh).k)
  have hel:=eX (ls s i).l 0
  have hlen:=ho.len
  have hk:=ho.k
  rw [hish] at hst hsn hsk ho2
  have hsM:=@VD s (i+1)
  rw [hst] at hsM
  have ha1:=ho.a1
  have hk2:=ho2.k
  generalize hq:ls s i=q at *
  obtain ⟨ql,qa,qs⟩:=q
  dsimp only at *
  have kt1:fA Tryz.prog 90 [.int .i64 1,.ptr 0 0,.ptr 1 0,.ptr 2 0] [(0,.box 4 [.bool false]),(1,.box 9 [.str s]),(2,.box 3 [.int .i64 qa])] 3 (.str (tk s qa false 1).t) [(0,.box 4 [.bool (tk s qa false 1).sh]),(1,.box 9 [.str s]),(2,.box 3 [.int .i64 (tk s qa false 1).a])]:=WZ s qa false 1 (by omega) ha1 (by omega)
  have b1:=WY (s:=s) false 1 ha1
  have l1:=Fj s qa false 1
  have n1:=num1 l1
  have kb1:=bQ (tk s qa false 1).t (by omega)
  have hx:AO s qa false=⟨(tk s (tk s qa false 1).a (tk s qa false 1).sh (aW (tk s qa false 1).t)).t,aW (tk s (tk s (tk s qa false 1).a (tk s qa false 1).sh (aW (tk s qa false 1).t)).a (tk s (tk s qa false 1).a (tk s qa false 1).sh (aW (tk s qa false 1).t)).sh 4).t,(tk s (tk s (tk s qa false 1).a (tk s qa false 1).sh (aW (tk s qa false 1).t)).a (tk s (tk s qa false 1).a (tk s qa false 1).sh (aW (tk s qa false 1).t)).sh 4).a,(tk s (tk s (tk s qa false 1).a (tk s qa false 1).sh (aW (tk s qa false 1).t)).a (tk s (tk s qa false 1).a (tk s qa false 1).sh (aW (tk s qa false 1).t)).sh 4).sh⟩:=rfl
  rw [hx] at hst hsn hsk hsM hk2
  generalize tk s qa false 1=X at *
  have kt2:=WZ s X.a X.sh (aW X.t) (by omega) b1.2 (by omega)
  have b2:=WY (s:=s) X.sh (aW X.t) b1.2
  generalize tk s X.a X.sh (aW X.t)=Y at *
  have kt3:fA Tryz.prog 90 [.int .i64 4,.ptr 0 0,.ptr 1 0,.ptr 2 0] [(0,.box 4 [.bool Y.sh]),(1,.box 9 [.str s]),(2,.box 3 [.int .i64 Y.a])] 3 (.str (tk s Y.a Y.sh 4).t) [(0,.box 4 [.bool (tk s Y.a Y.sh 4).sh]),(1,.box 9 [.str s]),(2,.box 3 [.int .i64 (tk s Y.a Y.sh 4).a])]:=WZ s Y.a Y.sh 4 (by omega) b2.2 (by omega)
  have l3:=Fj s Y.a Y.sh 4
  have kb3:=bQ (tk s Y.a Y.sh 4).t l3
  generalize tk s Y.a Y.sh 4=Z at *
  dsimp only at hst hsn hsk hsM hk2
  rw [Nat.zero_add] at hsn
  (repeat' with_reducible first|intro _|refine rz ?_|refine ra ?_ ?_|omega|simp only [go_sem,f4])
  refine ah.i [2,0,1] kt1 3 ?_
  (repeat' with_reducible first|intro _|exact dn|refine rn ?_|refine ra ?_ ?_)
  refine ah.k kb1 ?_
  (repeat' with_reducible first|intro _|exact dn|refine rn ?_|refine ra ?_ ?_)
  refine ah.i [2,0,1] kt2 3 ?_
  (repeat' with_reducible first|intro _|exact dn|refine rn ?_|refine ra ?_ ?_)
  refine ah.i [2,0,1] kt3 3 ?_
  (repeat' with_reducible first|intro _|exact dn|refine rn ?_|refine ra ?_ ?_)
  refine ah.k kb3 ?_
  cases hz:Z.sh with
  | true=>
   have e:bU s=([],8):=by
    have h:=hsM hz (M - (i+1))
    rw [show i+1+(M - (i+1))=M by omega] at h
    have:(vZ s).sh=true:=by unfold vZ;rw [hN];exact h
    unfold bU
    rw [if_neg h1,if_neg (by rw [h3];simp;omega),if_pos this]
   rw [e]
   (repeat' with_reducible first|intro _|exact dn|refine rn ?_|refine ra ?_ ?_)
   refine aT.auto 1 ?_ rfl ?_<;>simp only [go_sem,Int.natCast_succ,Post]
  | false=>
   (repeat' with_reducible first|intro _|exact dn|refine rn ?_|refine ra ?_ ?_)
   refine ⟨i+1,aK.ak rfl ?_ ?_,⟨by omega,by rw [hst];exact hz⟩,by omega⟩<;>simp only [go_sem,Int.natCast_succ,hst,hsn,hsk]
   all_goals first|rfl|(rw [List.map_append];rfl)
 have e:i=M:=by omega
 subst e
 have hO:vZ s=ls s i:=by unfold vZ;rw [hN]
 obtain ⟨hlen,hk,ha0,ha1⟩:=ho
 have hin:=fun x hx=>(I4 (ls s i).l 0 x hx).2
 have hL:bU s=if (ls s i).a+fE (ls s i).l+8≠s.length then ([],8) else if cO (s.take (ls s i).a)≠s.drop ((ls s i).a+fE (ls s i).l) then ([],14) else if zk ((ls s i).l.map Prod.fst) (ls s i).l.length≠0 then ([],zk ((ls s i).l.map Prod.fst) (ls s i).l.length) else (fG (ls s i).l (ls s i).a,0):=by
  unfold bU
  rw [if_neg h1,if_neg (by rw [h3];simp;omega),hO,if_neg (by rw [hish];decide)]
 clear hls hO hN hM hish
 generalize ls s i=q at *
 obtain ⟨l,a,sh⟩:=q
 dsimp only at hlen hk ha0 ha1 hL hin
 have f4:((i:Int)<(i:Int))=False:=eq_false (by omega)
 by_cases h5:a+fE l+8=s.length
 rotate_left
 ·have f5:((a:Int)+(fE l:Int)+8=(s.length:Int))=False:=eq_false (by omega)
  rw [if_pos h5] at hL
  rw [hL]
  (repeat' with_reducible first|intro _|refine rz ?_|refine ra ?_ ?_|omega|simp only [go_sem,f4,f5])
  refine aT.auto 1 ?_ rfl ?_<;>simp only [go_sem,Int.natCast_succ,Post]
 have f5:((a:Int)+(fE l:Int)+8=(s.length:Int))=True:=eq_true (by omega)
 rw [if_neg (fun h=>h h5)] at hL
 have ks:aA Tryz.prog 26 [.str (s.take (a - 0))] (.str (cO (s.take a))) []:=kS (s.take a) (by rw [List.length_take];omega)
 have e1:(a:Int)+(fE l:Int)=((a+fE l:Nat):Int):=by omega
 have e2:(s.drop (a+fE l)).take (s.length - (a+fE l))=s.drop (a+fE l):=List.take_of_length_le (by rw [List.length_drop];exact Nat.le_refl _)
 generalize hS:cO (s.take a)=S at *
 obtain ⟨D,hD⟩:∃ D,s.drop (a+fE l)=D:=⟨_,rfl⟩
 rw [hD] at hL e2
 (repeat' with_reducible first|intro _|refine rz ?_|refine ra ?_ ?_|omega|simp only [go_sem,f4,f5])
 refine aN.lex [] [] (by kernel_rfl) (by kernel_rfl) ?_
 (repeat' with_reducible first|intro _|refine rz ?_|refine ra ?_ ?_|omega|simp only [go_sem,e1,e2,hD])
 (refine QV.intro (.str S) ?_ ?_;focus ((repeat' with_reducible first|intro _|exact dn|refine rn ?_|refine ra ?_ ?_);refine ah.k (ks) ?_;(repeat' with_reducible first|intro _|exact dn|refine rn ?_|refine ra ?_ ?_)))
 by_cases h6:S=D
 rotate_left
 ·have f6:(S=D)=False:=eq_false h6
  rw [if_pos h6] at hL
  rw [hL]
  (repeat' with_reducible first|intro _|refine rz ?_|refine ra ?_ ?_|omega|simp only [go_sem,e1,e2,hD,f6])
  refine aT.auto 1 ?_ rfl ?_<;>simp only [go_sem,Int.natCast_succ,Post]
 have f6:(S=D)=True:=eq_true h6
 rw [if_neg (fun h=>h h6)] at hL
 (repeat' with_reducible first|intro _|refine rz ?_|refine ra ?_ ?_|omega|simp only [go_sem,e1,e2,hD,f6])
 have hel:=eX l 0
 rw [hel]
 have hnl:(l.map Prod.fst).length=l.length:=List.length_map _
 refine aF.intro (fun j:Nat=>⟨104,[(77,.int .i64 j),(76,.int .i64 l.length),(75,.own 0),(13,.own 1),(12,.int .i64 a),(8,.own 0)],[(0,.row 75 (GZ (Et l a j))),(1,.map (((l.map Prod.fst).take j).map .str) (((l.map Prod.fst).take j).map fun _=>.bool true))],2⟩) (fun j=>j≤l.length∧zk (l.map Prod.fst) j=0) (fun j=>l.length - j) 0 ?_ ⟨Nat.zero_le _,rfl⟩ fun j hj=>?_
 ·refine aK.ak rfl ?_ ?_<;>simp only [go_sem,Int.natCast_succ]
  all_goals first|rfl|exact ⟨rfl,rfl⟩|trace_state
 obtain ⟨hj1,hj2⟩:=hj
 have hml:=VG l a hj1
 by_cases hlt:j<l.length
 ·have f7:((j:Int)<(l.length:Int))=True:=eq_true (by omega)
  have hst:zk (l.map Prod.fst) (j+1)=if zk (l.map Prod.fst) j≠0 then zk (l.map Prod.fst) j else if eU ((l.map Prod.fst).getD j [])=true then (if (l.map Prod.fst).getD j []∈(l.map Prod.fst).take j then 6 else 0) else 5:=rfl
  have hle:=@VP (l.map Prod.fst) (j+1) l.length
  have hat:=X4 l a hlt
  have hset:=VH l a hlt
  have hnm:=QX l 0 j
  have hee:=pJ (Et l a j) (i:=j) (by omega)
  rw [hat] at hee
  have hxm:=hin ((fG l 0).getD j En.zero) (by rw [List.getD_eq_getElem?_getD,List.getElem?_eq_getElem (by omega)];exact List.getElem_mem _)
  have htk:(l.map Prod.fst).take (j+1)=(l.map Prod.fst).take j++[(l.map Prod.fst).getD j []]:=by
   have hjl:j<(l.map Prod.fst).length:=by omega
   rw [List.take_succ_eq_append_getElem hjl,getD_lt hjl]
  rw [hj2,if_neg (by simp),←hnm] at hst
  rw [←hnm] at htk
  generalize (fG l 0).getD j En.zero=x at *
  obtain ⟨xn,xa,xk⟩:=x
  dsimp only at hst hee hxm htk hset
  have kn:=vw xn
  (repeat' with_reducible first|intro _|refine rz ?_|refine ra ?_ ?_|omega|simp only [go_sem,f7,hee,hml,dw])
  refine ah.k kn ?_
  cases hn:eU xn with
  | false=>
   rw [hn,if_neg (by decide)] at hst
   have h0:=hle (by rw [hst];decide) (by omega)
   rw [h0,hst,if_pos (by decide)] at hL
   rw [hL]
   (repeat' with_reducible first|intro _|exact dn|refine rn ?_|refine ra ?_ ?_)
   refine aT.auto 1 ?_ rfl ?_<;>simp only [go_sem,Int.natCast_succ,Post]
  | true=>
   rw [hn,if_pos rfl] at hst
   by_cases hd:xn∈(l.map Prod.fst).take j
   ·rw [if_pos hd] at hst
    have h0:=hle (by rw [hst];decide) (by omega)
    rw [h0,hst,if_pos (by decide)] at hL
    rw [hL]
    have g:=nV ((l.map Prod.fst).take j) xn
    rw [decide_eq_true hd] at g
    (repeat' with_reducible first|intro _|refine rz ?_|refine ra ?_ ?_|omega|simp only [go_sem,g])
    refine aT.auto 1 ?_ rfl ?_<;>simp only [go_sem,Int.natCast_succ,Post]
   ·rw [if_neg hd] at hst
    have g:=nV ((l.map Prod.fst).take j) xn
    rw [decide_eq_false hd] at g
    have hins:yF ((l.map Prod.fst).take j) xn=(l.map Prod.fst).take (j+1):=by unfold yF;rw [if_neg hd,htk]
    (repeat' with_reducible first|intro _|refine rz ?_|refine ra ?_ ?_|omega|simp only [go_sem,g,hml,hee])
    refine ⟨j+1,aK.ak rfl ?_ ?_,⟨by omega,hst⟩,by omega⟩<;>simp only [go_sem,Int.natCast_succ,hins]
    rw [←hset,List.map_set];rfl
 ·have e:j=l.length:=by omega
  subst e
  have f7:((l.length:Int)<(l.length:Int))=False:=eq_false (by omega)
  have hmx:Et l a l.length=fG l a:=by
   unfold Et
   rw [List.take_of_length_le (by rw [eX];exact Nat.le_refl _),List.drop_of_length_le (by rw [eX];exact Nat.le_refl _),List.append_nil]
  rw [if_neg (by rw [hj2];simp)] at hL
  rw [hL,hmx]
  (repeat' with_reducible first|intro _|refine rz ?_|refine ra ?_ ?_|omega|simp only [go_sem,f7])
  refine aT.auto 1 ?_ rfl ?_<;>simp only [go_sem,Int.natCast_succ,Post]
theorem Jf (s:Bytes) (hs:s.length≤140737488351232):bZ Tryz.prog 39 [.str s] (.tup [.ro (GZ (bU s).1),.int .i64 (bU s).2]) []:=
 bZ.yX (bZ.eH (X0 s hs) rfl (by simp [fQ,fP,jd,iO,lC,GZ,En.av])) (by simp [dG,aQ,aU,bJ,aH,lk,aI])
end Go.Fv.H
/- shrink.checkPages, dataFor, joined, Pack: the walk. -/
namespace Go.Fv.H
open Go Go.Proofs
set_option maxHeartbeats 4000000 in
theorem FZ (l:List NP) (kind:Int):aA Tryz.prog 89 [.ro (Kw l),.int .i64 kind] (.int .i64 (Uw l kind)) []:=by
 obtain ⟨R,hR⟩:∃ R,Uw l kind=R:=⟨_,rfl⟩
 rw [hR]
 unfold Uw at hR
 refine aA.aG Tryz.func89 rfl (by decide) (by simp [Tryz.f89]) [.tmp 4] rfl fun w0 T0 _=>?_
 simp only [Tryz.f89,au]
 by_cases h1:500<l.length
 ·have f1:((500:Int)<(l.length:Int))=True:=eq_true (by omega)
  rw [if_pos h1] at hR
  rw [←hR]
  (repeat' with_reducible first|intro _|refine rz ?_|refine ra ?_ ?_|omega|simp only [go_sem,List.length_map,f1])
  refine aT.auto 0 ?_ rfl ?_<;>simp only [go_sem,Int.natCast_succ,Post]
 have f1:((500:Int)<(l.length:Int))=False:=eq_false (by omega)
 rw [if_neg h1] at hR
 (repeat' with_reducible first|intro _|refine rz ?_|refine ra ?_ ?_|omega|simp only [go_sem,List.length_map,f1])
 refine aF.intro (fun j:Nat=>⟨44,[(15,.int .i64 j),(14,.int .i64 l.length),(13,.ro (Kw l)),(5,.own 0),(1,.int .i64 kind)],[(0,.map (((l.map NP.n).take j).map .str) (((l.map NP.n).take j).map fun _=>.bool true))],1⟩) (fun j=>j≤l.length∧Bj l j=0) (fun j=>l.length - j) 0 ?_ ⟨Nat.zero_le _,rfl⟩ fun j hj=>?_
 ·refine aK.ak rfl ?_ ?_<;>simp only [go_sem,Int.natCast_succ]
  all_goals first|rfl|exact ⟨rfl,rfl⟩|trace_state
 obtain ⟨hj1,hj2⟩:=hj
 by_cases hlt:j<l.length
 ·have f7:((j:Int)<(l.length:Int))=True:=eq_true (by omega)
  have hst:Bj l (j+1)=if Bj l j≠0 then Bj l j else if eU (l.getD j NP.zero).n=true then (if (l.getD j NP.zero).n∈(l.take j).map NP.n then 6 else VT (l.getD j NP.zero)) else 5:=rfl
  have hle:=@PI l (j+1) l.length
  have hee:=rP l hlt
  have htk:(l.map NP.n).take (j+1)=(l.map NP.n).take j++[(l.getD j NP.zero).n]:=by
   have hjl:j<(l.map NP.n).length:=by rw [List.length_map];exact hlt
   rw [List.take_succ_eq_append_getElem hjl,List.getElem_map,getD_lt hlt]
  rw [hj2,if_neg (by simp),List.map_take] at hst
  have kc:=IZ (l.getD j NP.zero).W (l.getD j NP.zero).H (l.getD j NP.zero).p
  have hnp:VT (l.getD j NP.zero)=jy (l.getD j NP.zero).W (l.getD j NP.zero).H (l.getD j NP.zero).p.length:=rfl
  generalize l.getD j NP.zero=x at *
  obtain ⟨xn,xw,xh,xp⟩:=x
  dsimp only at hst hee htk kc hnp
  rw [←hnp] at kc
  generalize VT ⟨xn,xw,xh,xp⟩=E at *
  have kn:=vw xn
  (repeat' with_reducible first|intro _|refine rz ?_|refine ra ?_ ?_|omega|simp only [go_sem,f7,hee,dw,List.length_map])
  refine ah.k kn ?_
  cases hn:eU xn with
  | false=>
   rw [hn,if_neg (by decide)] at hst
   have h0:=hle (by rw [hst];decide) (by omega)
   rw [h0,hst,if_pos (by decide)] at hR
   rw [←hR]
   (repeat' with_reducible first|intro _|exact dn|refine rn ?_|refine ra ?_ ?_)
   refine aT.auto 0 ?_ rfl ?_<;>simp only [go_sem,Int.natCast_succ,Post]
  | true=>
   rw [hn,if_pos rfl] at hst
   have g:=nV ((l.map NP.n).take j) xn
   by_cases hd:xn∈(l.map NP.n).take j
   ·rw [if_pos hd] at hst
    have h0:=hle (by rw [hst];decide) (by omega)
    rw [h0,hst,if_pos (by decide)] at hR
    rw [←hR]
    rw [decide_eq_true hd] at g
    (repeat' with_reducible first|intro _|refine rz ?_|refine ra ?_ ?_|omega|simp only [go_sem,g])
    refine aT.auto 0 ?_ rfl ?_<;>simp only [go_sem,Int.natCast_succ,Post]
   ·rw [if_neg hd] at hst
    rw [decide_eq_false hd] at g
    have hins:yF ((l.map NP.n).take j) xn=(l.map NP.n).take (j+1):=by unfold yF;rw [if_neg hd,htk]
    (repeat' with_reducible first|intro _|refine rz ?_|refine ra ?_ ?_|omega|simp only [go_sem,g])
    refine ah.k kc ?_
    by_cases h0:E=0
    ·have f8:(E=0)=True:=eq_true h0
     (repeat' with_reducible first|intro _|refine rz ?_|refine ra ?_ ?_|omega|simp only [go_sem,f8])
     refine ⟨j+1,aK.ak rfl ?_ ?_,⟨by omega,by rw [hst];exact h0⟩,by omega⟩<;>simp only [go_sem,Int.natCast_succ,hins]
    ·have f8:(E=0)=False:=eq_false h0
     have h9:=hle (by rw [hst];exact h0) (by omega)
     rw [h9,hst,if_pos h0] at hR
     rw [←hR]
     (repeat' with_reducible first|intro _|refine rz ?_|refine ra ?_ ?_|omega|simp only [go_sem,f8])
     refine aT.auto 0 ?_ rfl ?_<;>simp only [go_sem,Int.natCast_succ,Post]
 ·have e:j=l.length:=by omega
  subst e
  have f7:((l.length:Int)<(l.length:Int))=False:=eq_false (by omega)
  rw [if_neg (by rw [hj2];simp)] at hR
  have ki:=nY kind
  by_cases hk:1≤kind∧kind≤4
  ·rw [decide_eq_true hk] at ki
   rw [if_pos (by omega)] at hR
   rw [←hR]
   (repeat' with_reducible first|intro _|refine rz ?_|refine ra ?_ ?_|omega|simp only [go_sem,f7])
   refine ah.k ki ?_
   (repeat' with_reducible first|intro _|exact dn|refine rn ?_|refine ra ?_ ?_)
   refine aT.auto 0 ?_ rfl ?_<;>simp only [go_sem,Int.natCast_succ,Post]
  ·rw [decide_eq_false hk] at ki
   by_cases h5:kind=5
   ·have f9:(kind=5)=True:=eq_true h5
    rw [if_pos (by omega)] at hR
    rw [←hR]
    (repeat' with_reducible first|intro _|refine rz ?_|refine ra ?_ ?_|omega|simp only [go_sem,f7])
    refine ah.k ki ?_
    (repeat' with_reducible first|intro _|refine rz ?_|refine ra ?_ ?_|omega|simp only [go_sem,f9])
    refine aT.auto 0 ?_ rfl ?_<;>simp only [go_sem,Int.natCast_succ,Post]
   ·have f9:(kind=5)=False:=eq_false h5
    rw [if_neg (by omega)] at hR
    rw [←hR]
    (repeat' with_reducible first|intro _|refine rz ?_|refine ra ?_ ?_|omega|simp only [go_sem,f7])
    refine ah.k ki ?_
    (repeat' with_reducible first|intro _|refine rz ?_|refine ra ?_ ?_|omega|simp only [go_sem,f9])
    refine aT.auto 0 ?_ rfl ?_<;>simp only [go_sem,Int.natCast_succ,Post]
theorem OH (x:NP) (h:x.Ok) (kind:Int) (hk:1≤kind∧kind≤5):aA Tryz.prog 88 [.agg [.int .i64 x.W,.int .i64 x.H,.ro (.bools x.p)],.int .i64 kind] (.str (vY kind x)) []:=by
 have kb:=Xu _ _ _ h
 obtain ⟨w1,w2⟩:=h.w
 refine aA.aG Tryz.func88 rfl (by decide) (by simp [Tryz.f88]) [.tmp 4] rfl fun w0 T0 _=>?_
 simp only [Tryz.f88,au]
 unfold vY
 by_cases h5:kind=5
 ·have f9:(kind=5)=True:=eq_true h5
  rw [if_pos h5]
  rw [w1,w2] at kb
  generalize fF x.W.toNat x.H.toNat x.p 4=B at *
  (repeat' with_reducible first|intro _|refine rz ?_|refine ra ?_ ?_|omega|simp only [go_sem,f9])
  refine ah.k kb ?_
  (repeat' with_reducible first|intro _|exact dn|refine rn ?_|refine ra ?_ ?_)
  refine aT.auto 0 ?_ rfl ?_<;>simp only [go_sem,Int.natCast_succ,Post]
 ·have f9:(kind=5)=False:=eq_false h5
  have ke:=uY _ _ h.w0 h.w1 h.h1 h.wh x.p h.p kind (by omega)
  rw [if_neg h5]
  rw [w1,w2] at ke
  generalize eu x.W.toNat x.H.toNat x.p kind=B at *
  (repeat' with_reducible first|intro _|refine rz ?_|refine ra ?_ ?_|omega|simp only [go_sem,f9])
  refine ah.k ke ?_
  (repeat' with_reducible first|intro _|exact dn|refine rn ?_|refine ra ?_ ?_)
  refine aT.auto 0 ?_ rfl ?_<;>simp only [go_sem,Int.natCast_succ,Post]
def ZU (x:Bytes × Bytes):List AV:=[.str x.1,.str x.2]
abbrev its (l:List (Bytes × Bytes)):aO:=.objs 2 (l.map ZU)
instance:Gz ZU:=⟨fun _=>rfl⟩
theorem Rt (l:List (Bytes × Bytes)) {i:Nat} (h:i<l.length):(l.map ZU).getD i []=[.str (l.getD i ([],[])).1,.str (l.getD i ([],[])).2]:=by
 simp [List.getD_eq_getElem?_getD,h,ZU]
def LH (l:List (Bytes × Bytes)) (i:Nat):Bytes:=(wZ++cZ 2 l.length)++(l.take i).flatMap lV
theorem Ro (l:List (Bytes × Bytes)):LH l l.length=hdB l:=by unfold LH hdB;rw [List.take_length,List.append_assoc]
theorem DY (l:List (Bytes × Bytes)) {i:Nat} (h:i<l.length):LH l (i+1)=LH l i++(cZ 1 (l.getD i ([],[])).1.length++(l.getD i ([],[])).1++cZ 4 (l.getD i ([],[])).2.length):=by
 unfold LH
 rw [List.take_succ_eq_append_getElem h,List.flatMap_append,List.flatMap_singleton,←List.append_assoc,getD_lt h]
 unfold lV
 simp only [List.append_assoc]
theorem I9 {l:List (Bytes × Bytes)} {n:Nat} (hN:∀ x,x∈l→x.1.length≤n):∀ i,i≤l.length→(LH l i).length≤6+i*(n+5)
 | 0,_=>by unfold LH;simp only [List.take_zero,List.flatMap_nil,List.append_nil,List.length_append,aS];show 4+2≤_;omega
 | i+1,h=>by
  have ih:=I9 hN i (by omega)
  have hi:i<l.length:=by omega
  rw [DY l hi]
  have:=hN (l.getD i ([],[])) (by rw [getD_lt hi];exact List.getElem_mem hi)
  simp only [List.length_append,aS]
  rw [Nat.succ_mul];omega
theorem SI {l:List (Bytes × Bytes)} {i:Nat} (h:i<l.length):fU (l.take (i+1))=fU (l.take i)++(l.getD i ([],[])).2:=by
 rw [List.take_succ_eq_append_getElem h,GR,getD_lt h]
theorem QK (l:List (Bytes × Bytes)) (i:Nat):(fU (l.take i)).length≤(fU l).length:=by
 conv=>rhs;rw [←List.take_append_drop i l]
 unfold fU
 rw [List.flatMap_append,List.length_append];omega
structure YP (l:List (Bytes × Bytes)):Prop where
 many:l.length≤70000
 name:∀ x,x∈l→x.1.length≤1000
 code:∀ x,x∈l→x.2.length≤100000000
 long:(fU l).length≤5000000000
set_option maxHeartbeats 4000000 in
theorem TB (l:List (Bytes × Bytes)) (h:YP l):aA Tryz.prog 87 [.ro (its l)] (.str (lS l)) []:=by
 have hm:=h.many
 have hlong:=h.long
 have kb0:aA Tryz.prog 108 [.int .i64 l.length,.int .i64 2] (.str (cZ 2 l.length)) []:=wO l.length l.length 2 (.inl rfl) (by omega) (by omega) (by omega)
 have hP:=I9 h.name
 have hb2:=aS 2 l.length
 have h00:LH l 0=70::66::65::49::cZ 2 l.length:=by unfold LH;rw [List.take_zero,List.flatMap_nil,List.append_nil];rfl
 refine aA.aG Tryz.func87 rfl (by decide) (by simp [Tryz.f87]) [.tmp 2] rfl fun w0 T0 _=>?_
 simp only [Tryz.f87,au]
 generalize hB2:cZ 2 l.length=B2 at *
 (repeat' with_reducible first|intro _|refine rz ?_|refine ra ?_ ?_|omega|simp only [go_sem,List.length_map])
 refine ah.k kb0 ?_
 (repeat' with_reducible first|intro _|refine rz ?_|refine ra ?_ ?_|omega|simp only [go_sem,List.length_map])
 refine aF.intro (fun i:Nat=>⟨54,[(16,.int .i64 i),(15,.int .i64 l.length),(14,.ro (its l)),(3,.str (LH l i)),(0,.ro (its l))],[],0⟩) (fun i=>i≤l.length) (fun i=>l.length - i) 0 ?_ (Nat.zero_le _) fun i hi=>?_
 ·refine aK.ak rfl ?_ ?_<;>simp only [go_sem,Int.natCast_succ,h00]
 have hPi:=hP i hi
 have hP2:(LH l i).length≤1000000000:=by have:i*(1000+5)≤70000*(1000+5):=Nat.mul_le_mul_right _ (by omega);omega
 by_cases hlt:i<l.length
 ·have f7:((i:Int)<(l.length:Int))=True:=eq_true (by omega)
  have hee:=Rt l hlt
  have hst:=DY l hlt
  have hn:=h.name (l.getD i ([],[])) (by rw [getD_lt hlt];exact List.getElem_mem hlt)
  have hc:=h.code (l.getD i ([],[])) (by rw [getD_lt hlt];exact List.getElem_mem hlt)
  generalize l.getD i ([],[])=x at *
  obtain ⟨xn,xd⟩:=x
  dsimp only at hee hst hn hc
  have k1:aA Tryz.prog 108 [.int .i64 xn.length,.int .i64 1] (.str (cZ 1 xn.length)) []:=wO xn.length xn.length 1 (.inl rfl) (by omega) (by omega) (by omega)
  have k4:aA Tryz.prog 108 [.int .i64 xd.length,.int .i64 4] (.str (cZ 4 xd.length)) []:=wO xd.length xd.length 4 (.inl rfl) (by omega) (by omega) (by omega)
  have b1:=aS 1 xn.length
  have b4:=aS 4 xd.length
  generalize cZ 1 xn.length=B1 at *
  generalize cZ 4 xd.length=B4 at *
  generalize LH l i=P at *
  (repeat' with_reducible first|intro _|refine rz ?_|refine ra ?_ ?_|omega|simp only [go_sem,f7,hee,dw,List.length_map])
  refine aN.lex [] [] (by kernel_rfl) (by kernel_rfl) ?_
  (repeat' with_reducible first|intro _|exact dn|refine rn ?_|refine ra ?_ ?_)
  (refine QV.intro (.str B1) ?_ ?_;focus ((repeat' with_reducible first|intro _|exact dn|refine rn ?_|refine ra ?_ ?_);refine ah.k (k1) ?_;(repeat' with_reducible first|intro _|exact dn|refine rn ?_|refine ra ?_ ?_)))
  (repeat' with_reducible first|intro _|exact dn|refine rn ?_|refine ra ?_ ?_)
  (refine QV.intro (.str B4) ?_ ?_;focus ((repeat' with_reducible first|intro _|exact dn|refine rn ?_|refine ra ?_ ?_);refine ah.k (k4) ?_;(repeat' with_reducible first|intro _|exact dn|refine rn ?_|refine ra ?_ ?_)))
  (repeat' with_reducible first|intro _|exact dn|refine rn ?_|refine ra ?_ ?_)
  refine ⟨i+1,aK.ak rfl ?_ ?_,by omega,by omega⟩<;>simp only [go_sem,Int.natCast_succ,hst]
 have e:i=l.length:=by omega
 subst e
 have f7:((l.length:Int)<(l.length:Int))=False:=eq_false (by omega)
 rw [Ro] at hP2 ⊢
 have ks:=kS (hdB l) (by omega)
 have hA:lS l=hdB l++fU l++cO (hdB l):=by unfold lS;rw [List.append_assoc]
 have hsl:=oQ (hdB l)
 have hc0:fU (l.take 0)=[]:=rfl
 have hle:=QK l
 generalize hdB l=P at *
 generalize cO P=S at *
 rw [hA]
 (repeat' with_reducible first|intro _|refine rz ?_|refine ra ?_ ?_|omega|simp only [go_sem,f7])
 refine ah.k ks ?_
 (repeat' with_reducible first|intro _|refine rz ?_|refine ra ?_ ?_|omega|simp only [go_sem,List.length_map])
 refine aF.intro (fun i:Nat=>⟨54,[(41,.int .i64 i),(40,.int .i64 l.length),(39,.ro (its l)),(7,.own 0),(6,.str S)],[(0,.row 5 (.ints .u8 (aj (P++fU (l.take i)))))],1⟩) (fun i=>i≤l.length) (fun i=>l.length - i) 0 ?_ (Nat.zero_le _) fun i hi=>?_
 ·refine aK.ak rfl ?_ ?_<;>simp only [go_sem,Int.natCast_succ]
  all_goals (show aj P=aj (P++[]);rw [List.append_nil])
 have hbl:=nJ (P++fU (l.take i))
 rw [List.length_append] at hbl
 have hlei:=hle i
 by_cases hlt:i<l.length
 ·have f8:((i:Int)<(l.length:Int))=True:=eq_true (by omega)
  have hee:=Rt l hlt
  have hst:=SI hlt
  have hc:=h.code (l.getD i ([],[])) (by rw [getD_lt hlt];exact List.getElem_mem hlt)
  generalize l.getD i ([],[])=x at *
  obtain ⟨xn,xd⟩:=x
  dsimp only at hee hst hc
  have hb2:aj (P++fU (l.take (i+1)))=aj (P++fU (l.take i))++xd.map (fun b=>(b.toNat:Int)):=by
   rw [hst,←List.append_assoc];unfold aj;rw [List.map_append]
  generalize aj (P++fU (l.take i))=Q at *
  (repeat' with_reducible first|intro _|refine rz ?_|refine ra ?_ ?_|omega|simp only [go_sem,f8,hee,dw,List.length_map])
  refine ⟨i+1,aK.ak rfl ?_ ?_,by omega,by omega⟩<;>simp only [go_sem,Int.natCast_succ,hb2]
 have e:i=l.length:=by omega
 subst e
 have f8:((l.length:Int)<(l.length:Int))=False:=eq_false (by omega)
 rw [List.take_length] at *
 have hbb:=iU (P++fU l)
 (repeat' with_reducible first|intro _|refine rz ?_|refine ra ?_ ?_|omega|simp only [go_sem,f8,hbb])
 refine aT.auto 0 ?_ rfl ?_<;>simp only [go_sem,Int.natCast_succ,Post,hbb]
theorem KP {l:List NP} (kind:Int) {i:Nat} (h:i<l.length):kC kind (l.take (i+1))=kC kind (l.take i)++[((l.getD i NP.zero).n,vY kind (l.getD i NP.zero))]:=by
 unfold kC
 rw [List.take_succ_eq_append_getElem h,List.map_append,getD_lt h];rfl
theorem qZ (kind:Int) (l:List NP):(kC kind l).length=l.length:=List.length_map _
theorem Y4 (kind:Int) (l:List NP) (i:Nat):(fU (kC kind (l.take i))).length≤(fU (kC kind l)).length:=by
 have:=QK (kC kind l) i
 unfold kC at this ⊢
 rwa [List.map_take]
theorem UY {l:List NP} {kind:Int} (h:Au l) (hl:l.length≤500) (hk:1≤kind∧kind≤5):YP (kC kind l):=by
 have hc:∀ x,x∈kC kind l→x.2.length≤1048597:=fun x hx=>by
  obtain ⟨y,hy,rfl⟩:=List.mem_map.1 hx
  exact (KT hk (h.ok y hy)).2
 refine ⟨by rw [qZ];omega,fun x hx=>?_,fun x hx=>by have:=hc x hx;omega,?_⟩
 ·obtain ⟨y,hy,rfl⟩:=List.mem_map.1 hx
  have:=Eu (h.name y hy)
  dsimp only;omega
 ·have key:∀ m:List (Bytes × Bytes),(∀ x,x∈m→x.2.length≤1048597)→(fU m).length≤m.length*1048597:=by
   intro m
   induction m with
   | nil=>intro _;exact Nat.zero_le _
   | cons y m ih=>
    intro hm
    have h1:=hm y List.mem_cons_self
    have h2:=ih fun x hx=>hm x (List.mem_cons_of_mem _ hx)
    unfold fU at h2 ⊢
    rw [List.flatMap_cons,List.length_append,List.length_cons,Nat.succ_mul];omega
  have:=key _ hc
  rw [qZ] at this
  have:l.length*1048597≤500*1048597:=Nat.mul_le_mul_right _ hl
  omega
set_option maxHeartbeats 4000000 in
theorem Ya (l:List NP) (kind:Int):aA Tryz.prog 38 [.ro (Kw l),.int .i64 kind] (.tup [.str (jT l kind).1,.int .i64 (jT l kind).2]) []:=by
 have kc:=FZ l kind
 obtain ⟨R,hR⟩:∃ R,jT l kind=R:=⟨_,rfl⟩
 rw [hR]
 unfold jT at hR
 refine aA.aG Tryz.func38 rfl (by decide) (by simp [Tryz.f38]) [.tmp 4,.tmp 5] rfl fun w0 T0 _=>?_
 simp only [Tryz.f38,au]
 by_cases h1:Uw l kind=0
 rotate_left
 ·rw [if_pos h1] at hR
  have f1:(Uw l kind=0)=False:=eq_false h1
  generalize Uw l kind=E at *
  rw [←hR]
  (repeat' with_reducible first|intro _|exact dn|refine rn ?_|refine ra ?_ ?_)
  refine ah.k kc ?_
  (repeat' with_reducible first|intro _|refine rz ?_|refine ra ?_ ?_|omega|simp only [go_sem,f1])
  refine aT.auto 0 ?_ rfl ?_<;>simp only [go_sem,Int.natCast_succ,Post]
 rw [if_neg (by omega)] at hR
 obtain ⟨hP,hl5,hk⟩:=PL h1
 rw [h1] at kc
 have hI:=UY hP hl5 hk
 have hlen:=Dt (kC kind l)
 have hJ:=TB _ hI
 have hlong:=hI.long
 have hmany:=hI.many
 (repeat' with_reducible first|intro _|exact dn|refine rn ?_|refine ra ?_ ?_)
 refine ah.k kc ?_
 (repeat' with_reducible first|intro _|refine rz ?_|refine ra ?_ ?_|omega|simp only [go_sem,List.length_map])
 refine aF.intro (fun i:Nat=>⟨50,[(21,.int .i64 i),(20,.int .i64 l.length),(19,.ro (Kw l)),(8,.int .i64 ((fU (kC kind (l.take i))).length:Nat)),(7,.own 0),(1,.int .i64 kind)],[(0,.row 124 (its (kC kind (l.take i))))],1⟩) (fun i=>i≤l.length) (fun i=>l.length - i) 0 ?_ (Nat.zero_le _) fun i hi=>?_
 ·refine aK.ak rfl ?_ ?_<;>simp only [go_sem,Int.natCast_succ]
  all_goals first|rfl|exact ⟨rfl,rfl⟩|trace_state
 have hle:=Y4 kind l
 have hcl:=qZ kind (l.take i)
 rw [List.length_take,Nat.min_eq_left hi] at hcl
 by_cases hlt:i<l.length
 ·have f7:((i:Int)<(l.length:Int))=True:=eq_true (by omega)
  have hee:=rP l hlt
  have hst:=KP kind hlt
  have hxo:=hP.ok (l.getD i NP.zero) (by rw [getD_lt hlt];exact List.getElem_mem hlt)
  have kd:=OH (l.getD i NP.zero) hxo kind hk
  have hcs:=GR (kC kind (l.take i)) ((l.getD i NP.zero).n,vY kind (l.getD i NP.zero))
  rw [←hst] at hcs
  replace hcs:=congrArg List.length hcs
  rw [List.length_append] at hcs
  dsimp only at hcs
  have hl2:=hle (i+1)
  have hl1:=hle i
  generalize hx:l.getD i NP.zero=x at *
  generalize hD:vY kind x=D at *
  have hmap:(kC kind (l.take i)).map ZU++[[.str x.n,.str D]]=(kC kind (l.take (i+1))).map ZU:=by rw [hst,List.map_append];rfl
  obtain ⟨xn,xw,xh,xp⟩:=x
  dsimp only at hee kd hmap
  generalize (fU (kC kind (l.take i))).length=A at *
  generalize hA2:(fU (kC kind (l.take (i+1)))).length=A2 at *
  have hAA:(A:Int)+(D.length:Int)=(A2:Int):=by omega
  (repeat' with_reducible first|intro _|refine rz ?_|refine ra ?_ ?_|omega|simp only [go_sem,f7,hee,dw,List.length_map])
  refine aN.lex [7,8] [(0,[1]),(1,[1]),(2,[1]),(3,[1]),(4,[1]),(5,[1]),(6,[1])] (by kernel_rfl) (by kernel_rfl) ?_
  (repeat' with_reducible first|intro _|exact dn|refine rn ?_|refine ra ?_ ?_)
  (refine QV.intro (.str D) ?_ ?_;focus ((repeat' with_reducible first|intro _|exact dn|refine rn ?_|refine ra ?_ ?_);refine ah.k (kd) ?_;(repeat' with_reducible first|intro _|exact dn|refine rn ?_|refine ra ?_ ?_)))
  (repeat' with_reducible first|intro _|refine rz ?_|refine ra ?_ ?_|omega|simp only [go_sem,hAA,hcl])
  ·refine ah.k kd ?_
   (repeat' with_reducible first|intro _|exact dn|refine rn ?_|refine ra ?_ ?_)
  ·rw [if_pos (by omega)] at hR
   rw [←hR]
   refine aT.auto 0 ?_ rfl ?_<;>simp only [go_sem,Int.natCast_succ,Post]
  ·refine ⟨i+1,aK.ak rfl ?_ ?_,by omega,by omega⟩<;>simp only [go_sem,Int.natCast_succ,hmap,hA2]
 have e:i=l.length:=by omega
 subst e
 have f7:((l.length:Int)<(l.length:Int))=False:=eq_false (by omega)
 rw [List.take_length]
 generalize lS (kC kind l)=A at *
 (repeat' with_reducible first|intro _|refine rz ?_|refine ra ?_ ?_|omega|simp only [go_sem,f7])
 refine ah.k hJ ?_
 by_cases h4:4194304<A.length
 ·have f8:((4194304:Int)<(A.length:Int))=True:=eq_true (by omega)
  rw [if_pos h4] at hR
  rw [←hR]
  (repeat' with_reducible first|intro _|refine rz ?_|refine ra ?_ ?_|omega|simp only [go_sem,f8])
  refine aT.auto 0 ?_ rfl ?_<;>simp only [go_sem,Int.natCast_succ,Post]
 ·have f8:((4194304:Int)<(A.length:Int))=False:=eq_false (by omega)
  rw [if_neg h4] at hR
  rw [←hR]
  (repeat' with_reducible first|intro _|refine rz ?_|refine ra ?_ ?_|omega|simp only [go_sem,f8])
  refine aT.auto 0 ?_ rfl ?_<;>simp only [go_sem,Int.natCast_succ,Post]
end Go.Fv.H
/- strings.Builder: Grow at a fresh builder. -/
namespace Go.Fv.H
open Go Go.Proofs Go.RowKit
theorem ntG:Tryz.f118.ntmps=30:=rfl
theorem ZB:(Tryz.prog.info? 5).map (·.size)=some 1:=by kernel_rfl
set_option maxHeartbeats 2000000 in
set_option maxRecDepth 1000000 in
theorem Tz (b n:Nat) (w:World) (hbk:w.heap[b]?=some (.cells #[.pointer (some ⟨b,0,none⟩),.slice none 0 0] 89 (0,0))) (hn:n≤281474976710656) :
  Calls Tryz.prog 118 #[.pointer (some ⟨b,0,none⟩),.int .i64 n] w fun e w'=>e=.returned (.tuple #[])∧∃ cs:Array Value,n≤cs.size∧cs.size≤maxLen ∧
   w'=((w.setCell ⟨b,1,none⟩ (.slice (some ⟨w.heap.size,0,none⟩) 0 cs.size)).alloc (.cells cs 5)).drew.drew.drew:=by
 obtain ⟨cs,hrun,hle,hmax⟩:=Lib.run_makeNoZero (P:=Tryz.prog) w.drew #[3] 27 5 Tryz.underlying27 n hn
 have hw:IntKind.i64.wrap (IntKind.i64.wrap 0+(n:Int))=n:=by
  rw [IntKind.wrap_i64,IntKind.wrap_i64]
  omega
 have hcall:(callFunc 162 #[.int .i64 (IntKind.i64.wrap (IntKind.i64.wrap 0+(n:Int)))]).run Tryz.prog w.drew=.ok (.value (.slice (some ⟨w.drew.heap.size,0,none⟩) n cs.size)) (w.drew.drew.drew.alloc (.cells cs 5)):=by
  rw [hw,run_callFunc_extern Tryz.func162 (by kernel_rfl) (by kernel_rfl) (by kernel_rfl) (e:=Extern.BytealgMakeNoZero.makeNoZero #[3] #[27]) (by kernel_rfl),hrun]
  rfl
 have hlt:b<w.heap.size:=by
  rcases Nat.lt_or_ge b w.heap.size with h'|h'
  ·exact h'
  ·simp [Array.getElem?_eq_none h'] at hbk
 have c1:w.drew.cell? ⟨b,1,none⟩=some (.slice none 0 0):=by
  have:w.drew.heap[b]?=_:=hbk
  rw [Lib.cell_of_heap this];rfl
 have c2:(w.alloc (.cells cs 5)).cell? ⟨b,1,none⟩=some (.slice none 0 0):=by
  have:(w.alloc (.cells cs 5)).heap[b]?=_:=(Lib.alloc_old w _ b hlt).trans hbk
  rw [Lib.cell_of_heap this];rfl
 have f2:(w.alloc (.cells cs 5)).frozen? ⟨b,1,none⟩=false:=by
  exact Lib.frozen_of_heap ((Lib.alloc_old w _ b hlt).trans hbk) 1
 have hcopy:∀ W:World,(Builtin.copy_ #[27,27] 3 #[.slice (some ⟨w.heap.size,0,none⟩) 0 cs.size,.slice none 0 0]).run Tryz.prog W=.ok (goInt 0) W:=
  fun W=>run_copy_none W 27 27 3 5 _ _ 0 cs.size 0 0 Tryz.underlying27 ZB rfl
 clear hw
 have t70:=Tryz.underlying87
 have t72:=Tryz.underlying89
 have a72:=Tryz.isAgg89
 have z72:=Tryz.sizeOf89
 have a70:=Tryz.isAgg87
 have z70:=Tryz.sizeOf87
 have t37:=Tryz.underlying27
 have a37:=Tryz.isAgg27
 have z37:=Tryz.sizeOf27
 have t3:=Tryz.underlying3
 have a3:=Tryz.isAgg3
 have z3:=Tryz.sizeOf3
 have t5:=Tryz.underlying5
 have a5:=Tryz.isAgg5
 have z5:=Tryz.sizeOf5
 have hf:=Tryz.func118
 have mixed:Tryz.prog.follows .mixedOrders=true:=by kernel_rfl
 have u70:=run_underlying t70
 have u72:=run_underlying t72
 have u37:=run_underlying t37
 have u3:=run_underlying t3
 have u5:=run_underlying t5
 have hm1:=hmax
 have hnt:=ntG
 generalize Tryz.prog=P at *
 go_enter hf,hnt
 go_wp2
 go_region_o
 all_goals (go_wp2;go_end0;exact ⟨rfl,cs,hle,hm1 (by unfold maxLen;omega),rfl⟩)
end Go.Fv.H
/- strings.Builder: Grow of a fresh builder, for a caller. -/
namespace Go.Fv.H
open Go Go.Proofs Go.RowKit
theorem WQ (w:World) (g:Nat) (a b v:Value) (t:TypeId) (h:w.heap[g]?=some (.cells #[a,b] t (0,0))):(w.setCell ⟨g,1,none⟩ v).heap[g]?=some (.cells #[a,v] t (0,0)):=by
 unfold World.setCell
 simp [h,Array.getElem?_modify]
theorem E8 (w:World) (g k:Nat) (v:Value) (h:k≠g):(w.setCell ⟨g,1,none⟩ v).heap[k]?=w.heap[k]?:=by
 unfold World.setCell
 simp only [Array.getElem?_modify]
 rw [if_neg (fun e=>h e.symm)]
theorem XR (n:Nat) (hn:n≤281474976710656):fA Tryz.prog 118 [.ptr 0 0,.int .i64 n] [(0,.box 89 [.ptr 0 0,.nilS])] 1 (.tup []) [(0,.box 89 [.ptr 0 0,.own 1]),(1,.row 5 (.ints .u8 []))]:=by
 refine ⟨⟨_,Tryz.func118,by kernel_rfl,by kernel_rfl⟩,fun w T g m0 vals ⟨hrow,_,hd⟩ hgl hng hv=>?_⟩
 obtain ⟨_,g0,vs,hm,hO,hl,hh⟩:=hrow 0 _ rfl
 cases hv with
 | cons _ v0 _ vs0 h0 hvs=>
 cases hvs with
 | cons _ v1 _ vs1 h1 hvs=>
 cases hvs
 cases h1
 cases h0 with
 | ptr _ _ gp hi hg=>
 have hg:blk (m0 0)=some gp:=hg
 rw [hm] at hg
 cases hg
 cases hl with
 | cons _ a _ _ ha _ hl=>
 cases ha with
 | ptr _ _ ga _ hga=>
 have hga:blk (m0 0)=some ga:=hga
 rw [hm] at hga
 cases hga
 cases hl with
 | cons _ b _ _ hb _ hl=>
 cases hb
 cases hl
 have hh':w.heap[g0]?=some (.cells #[.pointer (some ⟨g0,0,none⟩),.slice none 0 0] 89 (0,0)):=hh
 have hlt:g0<w.heap.size:=(Array.getElem?_eq_some_iff.1 hh').1
 refine (Tz g0 n w hh' hn).mono ?_
 rintro e w' ⟨rfl,cs,hc1,hc2,rfl⟩
 have hsz:(w.setCell ⟨g0,1,none⟩ (.slice (some ⟨w.heap.size,0,none⟩) 0 cs.size)).heap.size=w.heap.size:=by simp [World.setCell]
 have hat:∀ k,k<w.heap.size→(((w.setCell ⟨g0,1,none⟩ (.slice (some ⟨w.heap.size,0,none⟩) 0 cs.size)).alloc (.cells cs 5)).drew.drew.drew).heap[k]?=(w.setCell ⟨g0,1,none⟩ (.slice (some ⟨w.heap.size,0,none⟩) 0 cs.size)).heap[k]?:=
  fun k hk=>Below.heap_alloc _ _ k (by rw [hsz];exact hk)
 have hnew:(((w.setCell ⟨g0,1,none⟩ (.slice (some ⟨w.heap.size,0,none⟩) 0 cs.size)).alloc (.cells cs 5)).drew.drew.drew).heap[w.heap.size]?=some (.cells cs 5):=by
  have:=heap_alloc_new (w.setCell ⟨g0,1,none⟩ (.slice (some ⟨w.heap.size,0,none⟩) 0 cs.size)) (.cells cs 5)
  rw [hsz] at this
  exact this
 have hm0:Fv.upd m0 1 (.slice (some ⟨w.heap.size,0,none⟩) 0 cs.size) 0=m0 0:=by rfl
 have hm1:Fv.upd m0 1 (.slice (some ⟨w.heap.size,0,none⟩) 0 cs.size) 1=.slice (some ⟨w.heap.size,0,none⟩) 0 cs.size:=by rfl
 refine ⟨_,rfl,⟨rfl,rfl,rfl,?_,?_,fun k hk hn=>?_⟩,Fv.upd m0 1 (.slice (some ⟨w.heap.size,0,none⟩) 0 cs.size),2,fun i hi=>?_,by decide,.tup [] [] .nil,fun i it hi=>?_,fun i j it jt b hi hj h1 h2=>?_⟩
 ·show w.heap.size≤((w.setCell _ _).heap.push _).size
  rw [Array.size_push,hsz];exact Nat.le_succ _
 ·trivial
 ·rw [hat k hk];exact E8 w g0 k _ fun e=>hn (e▸hO)
 ·obtain rfl:i=0:=by omega
  exact hm0
 ·rcases lk2 hi with ⟨rfl,rfl⟩|⟨rfl,rfl⟩
  ·refine ⟨by decide,g0,[.pointer (some ⟨g0,0,none⟩),.slice (some ⟨w.heap.size,0,none⟩) 0 cs.size],by rw [hm0,hm],.inr ⟨hO,.inr hO⟩,?_,?_⟩
   ·exact .cons _ _ _ _ (.ptr 0 0 g0 (show 0<2 by decide) (by show blk (Fv.upd m0 1 (.slice (some ⟨w.heap.size,0,none⟩) 0 cs.size) 0)=some g0;rw [hm0,hm];rfl)) rfl (.cons _ _ _ _ (.own 1 (show 1<2 by decide) rfl) rfl .nil)
   ·rw [hat g0 hlt]
    exact WQ w g0 _ _ _ _ hh'
  ·refine ⟨by decide,0,[],.ints _ _ (fun x hx=>by cases hx),rfl,?_,fun b hb=>?_⟩
   ·rw [hm1]
    exact ⟨by simp,.inr ⟨_,_,cs,(0,0),rfl,.inl rfl,hnew,Nat.zero_le _,hc2,(Nat.mul_one _).symm,rfl⟩⟩
   ·rw [hm1] at hb
    cases hb
    exact .inl (Nat.le_refl _)
 ·have hne:g0≠w.heap.size:=by omega
  rcases lk2 hi with ⟨rfl,rfl⟩|⟨rfl,rfl⟩<;>rcases lk2 hj with ⟨rfl,rfl⟩|⟨rfl,rfl⟩
  ·rfl
  ·rw [hm0,hm] at h1;rw [hm1] at h2;cases h1;cases h2;exact absurd rfl hne
  ·rw [hm0,hm] at h2;rw [hm1] at h1;cases h1;cases h2;exact absurd rfl hne
  ·rfl
set_option maxHeartbeats 4000000 in
theorem Xh (n:Nat) (h0:1≤n) (hn:n≤281474976710656):fA Tryz.prog 84 [.ptr 0 0,.int .i64 n] [(0,.box 89 [.raw (.pointer none),.nilS])] 1 (.tup []) [(0,.box 89 [.ptr 0 0,.own 1]),(1,.row 5 (.ints .u8 []))]:=by
 have k:=rC
 have k2:=XR n hn
 refine fA.aG Tryz.func84 rfl (by decide) (by simp [Tryz.f84]) GV [] rfl fun w0 T0 _=>?_
 simp only [Tryz.f84,au]
 (repeat' with_reducible first|intro _|exact dn|refine rn ?_|refine ra ?_ ?_)
 refine ah.i [0] k 1 ?_
 (repeat' with_reducible first|intro _|refine rz ?_|refine ra ?_ ?_|omega|simp only [go_sem,S.Vo,qg,qB,DI,Item.ren,ren,iV,List.getElem?_cons_zero,List.getElem?_cons_succ,List.getElem?_nil,List.filter])
 refine aN.lex [] [] (by kernel_rfl) (by kernel_rfl) ?_
 (repeat' with_reducible first|intro _|exact dn|refine rn ?_|refine ra ?_ ?_)
 refine QV.intro (.int .i64 0) ?_ ?_
 ·(repeat' with_reducible first|intro _|exact dn|refine rn ?_|refine ra ?_ ?_)
 (repeat' with_reducible first|intro _|exact dn|refine rn ?_|refine ra ?_ ?_)
 refine ah.i [0] k2 2 ?_
 (repeat' with_reducible first|intro _|exact dn|refine rn ?_|refine ra ?_ ?_)
 refine jf.of [(1,1)] 2 (by decide) (by decide) ?_ rfl ?_<;>simp only [go_sem,Int.natCast_succ]
end Go.Fv.H
/- strings.Join with nothing between. -/
namespace Go.Fv.H
open Go Go.Proofs
theorem Hg (l:List Bytes) {i:Nat} (h:i<l.length):(l.take (i+1)).flatten=(l.take i).flatten++l.getD i []:=by
 rw [List.take_succ_eq_append_getElem h,List.flatten_append,getD_lt h];simp
theorem Q8 (l:List Bytes) (i:Nat):(l.take i).flatten.length≤l.flatten.length:=by
 conv=>rhs;rw [←List.take_append_drop i l]
 rw [List.flatten_append,List.length_append];omega
set_option maxHeartbeats 4000000 in
theorem Vp (l:List Bytes) (hl:l.flatten.length≤5000000000) (hp:2≤l.length→0<l.flatten.length):aA Tryz.prog 115 [.ro (.strs l),.str []] (.str l.flatten) []:=by
 refine aA.aG Tryz.func115 rfl (by decide) (by simp [Tryz.f115]) [.tmp 4] rfl fun w0 T0 _=>?_
 simp only [Tryz.f115,au]
 by_cases h0:l.length=0
 ·have f0:((l.length:Int)=0)=True:=eq_true (by omega)
  have e:l=[]:=List.eq_nil_of_length_eq_zero h0
  (repeat' with_reducible first|intro _|refine rz ?_|refine ra ?_ ?_|omega|simp only [go_sem,f0])
  refine aT.auto 0 ?_ rfl ?_<;>simp only [go_sem,Int.natCast_succ,Post]
  rw [e];rfl
 have f0:((l.length:Int)=0)=False:=eq_false (by omega)
 by_cases h1:l.length=1
 ·have f1:((l.length:Int)=1)=True:=eq_true (by omega)
  obtain ⟨x,rfl⟩:∃ x,l=[x]:=List.length_eq_one_iff.1 h1
  (repeat' with_reducible first|intro _|refine rz ?_|refine ra ?_ ?_|omega|simp only [go_sem,f0,f1])
  refine aT.auto 0 ?_ rfl ?_<;>simp only [go_sem,Int.natCast_succ,Post]
  all_goals first|rfl|simp
 have f1:((l.length:Int)=1)=False:=eq_false (by omega)
 have hpos:=hp (by omega)
 (repeat' with_reducible first|intro _|refine rz ?_|refine ra ?_ ?_|omega|simp only [go_sem,f0,f1])
 refine aF.intro (fun i:Nat=>⟨75,[(41,.int .i64 i),(40,.int .i64 l.length),(39,.ro (.strs l)),(5,.int .i64 ((l.take i).flatten.length:Nat)),(1,.str []),(0,.ro (.strs l))],[],0⟩) (fun i=>i≤l.length) (fun i=>l.length - i) 0 ?_ (Nat.zero_le _) fun i hi=>?_
 ·refine aK.ak rfl ?_ ?_<;>simp only [go_sem,Int.natCast_succ]
  all_goals first|rfl|exact ⟨rfl,rfl⟩|trace_state
 by_cases hlt:i<l.length
 ·have f7:((i:Int)<(l.length:Int))=True:=eq_true (by omega)
  have hst:=congrArg List.length (Hg l hlt)
  have hle:=Q8 l (i+1)
  rw [List.length_append] at hst
  generalize hx:l.getD i []=x at *
  generalize hA:(l.take i).flatten.length=A at *
  generalize hA2:(l.take (i+1)).flatten.length=A2 at *
  have hAA:(A:Int)+(x.length:Int)=(A2:Int):=by omega
  have f8:((9223372036854775807:Int) - (A:Int)<(x.length:Int))=False:=eq_false (by omega)
  (repeat' with_reducible first|intro _|refine rz ?_|refine ra ?_ ?_|omega|simp only [go_sem,f7,dw,hx,f8,hAA])
  refine ⟨i+1,aK.ak rfl ?_ ?_,by omega,by omega⟩<;>simp only [go_sem,Int.natCast_succ,hA2]
 have e:i=l.length:=by omega
 subst e
 have f7:((l.length:Int)<(l.length:Int))=False:=eq_false (by omega)
 rw [List.take_length]
 obtain ⟨z,m,rfl⟩:∃ z m,l=z::m:=by
  cases l with
  | nil=>simp at h0
  | cons x l=>exact ⟨x,l,rfl⟩
 have kg:=Xh (z::m).flatten.length hpos (by omega)
 have hfl:(z::m).flatten=z++m.flatten:=List.flatten_cons
 have hfl2:=congrArg List.length hfl
 rw [List.length_append] at hfl2
 have k1:=dY [] z (by simp) (by omega)
 rw [List.nil_append,show aj []=[] from rfl] at k1
 have hz:(z::m).getD 0 []=z:=rfl
 have htd:((z::m).drop 1).take ((z::m).length - 1)=m:=by rw [List.length_cons,Nat.add_sub_cancel];exact List.take_of_length_le (Nat.le_refl _)
 have hle:=Q8 m
 have hml:(z::m).length=m.length+1:=rfl
 rw [hfl] at kg
 generalize hF:(z::m).flatten=F at *
 generalize hZ:z::m=Z at *
 generalize hFl:F.length=Fl at *
 (repeat' with_reducible first|intro _|refine rz ?_|refine ra ?_ ?_|omega|simp only [go_sem,f7])
 subst hfl
 rw [←hFl]
 refine ah.i [0] kg 2 ?_
 (repeat' with_reducible first|intro _|refine rz ?_|refine ra ?_ ?_|omega|simp only [go_sem,dw,hz])
 refine ah.i [0,1] k1 3 ?_
 (repeat' with_reducible first|intro _|refine rz ?_|refine ra ?_ ?_|omega|simp only [go_sem,htd])
 refine aF.intro (fun i:Nat=>⟨75,[(65,.int .i64 i),(64,.int .i64 m.length),(63,.ro (.strs m)),(8,.ptr 0 0),(1,.str [])],[(0,.box 89 [.ptr 0 0,.own 1]),(1,.row 5 (.ints .u8 (aj (z++(m.take i).flatten))))],2⟩) (fun i=>i≤m.length) (fun i=>m.length - i) 0 ?_ (Nat.zero_le _) fun i hi=>?_
 ·refine aK.ak rfl ?_ ?_<;>simp only [go_sem,Int.natCast_succ]
  all_goals (show aj z=aj (z++[]);rw [List.append_nil])
 have hlei:=hle i
 by_cases hlt:i<m.length
 ·have f8:((i:Int)<(m.length:Int))=True:=eq_true (by omega)
  have hst:=Hg m hlt
  have hle2:=hle (i+1)
  have hst2:=congrArg List.length hst
  rw [List.length_append] at hst2
  have k2:=dY (z++(m.take i).flatten) [] (by rw [List.length_append];omega) (by simp)
  rw [List.append_nil] at k2
  have k3:=dY (z++(m.take i).flatten) (m.getD i []) (by rw [List.length_append];omega) (by omega)
  rw [List.append_assoc,←hst] at k3
  generalize hx:m.getD i []=x at *
  (repeat' with_reducible first|intro _|refine rz ?_|refine ra ?_ ?_|omega|simp only [go_sem,f8,dw,hx])
  refine ah.i [0,1] k2 3 ?_
  (repeat' with_reducible first|intro _|exact dn|refine rn ?_|refine ra ?_ ?_)
  refine ah.i [0,2] k3 3 ?_
  (repeat' with_reducible first|intro _|exact dn|refine rn ?_|refine ra ?_ ?_)
  refine ⟨i+1,aK.ak rfl ?_ ?_,by omega,by omega⟩<;>simp only [go_sem,Int.natCast_succ]
 have e:i=m.length:=by omega
 subst e
 have f8:((m.length:Int)<(m.length:Int))=False:=eq_false (by omega)
 rw [List.take_length]
 have k4:=gB (z++m.flatten) (by omega)
 (repeat' with_reducible first|intro _|refine rz ?_|refine ra ?_ ?_|omega|simp only [go_sem,f8])
 refine ah.i [0,1] k4 2 ?_
 (repeat' with_reducible first|intro _|exact dn|refine rn ?_|refine ra ?_ ?_)
 refine aT.auto 0 ?_ rfl ?_<;>simp only [go_sem,Int.natCast_succ,Post]
end Go.Fv.H
/- The reference's NameOf. -/
namespace Go.Fv.H
open Go Go.Proofs
def DW (s:List UInt8) (j:Nat):Prop:=(97≤(s.getD j 0).toNat∧(s.getD j 0).toNat≤122)∨(j≠0∧((48≤(s.getD j 0).toNat∧(s.getD j 0).toNat≤57)∨(s.getD j 0).toNat=45))
theorem H7 (c:UInt8):nameB c=true↔(97≤c.toNat∧c.toNat≤122)∨(48≤c.toNat∧c.toNat≤57)∨c.toNat=45:=by
 simp only [nameB,Bool.or_eq_true,Bool.and_eq_true,decide_eq_true_eq];omega
theorem Ph (s:List UInt8):eU s=true↔s≠[]∧s.length≤40∧∀ j,j<s.length→DW s j:=by
 unfold eU DW
 simp only [Bool.and_eq_true,decide_eq_true_eq,List.all_eq_true]
 constructor
 ·rintro ⟨⟨⟨h0,h1⟩,h2⟩,h3⟩
  refine ⟨h0,h1,fun j hj=>?_⟩
  by_cases e:j=0
  ·subst e;exact .inl h2
  ·have:=h3 (s.getD j 0) (by rw [getD_lt hj];exact List.getElem_mem hj)
   rw [H7] at this
   rcases this with h|h
   ·exact .inl h
   ·exact .inr ⟨e,h⟩
 ·rintro ⟨h0,h1,h2⟩
  have hp:0<s.length:=List.length_pos_iff.2 h0
  refine ⟨⟨⟨h0,h1⟩,?_⟩,fun c hc=>?_⟩
  ·rcases h2 0 hp with h|h
   ·exact h
   ·exact absurd rfl h.1
  ·obtain ⟨j,hj,rfl⟩:=List.getElem_of_mem hc
   have:=h2 j hj
   rw [getD_lt hj] at this
   rw [H7]
   rcases this with h|h
   ·exact .inl h
   ·exact .inr h.2
set_option maxHeartbeats 1000000 in
theorem zT (s:List UInt8):aA Tryz.prog 80 [.str s] (.bool (eU s)) []:=by
 have hi:=Ph s
 refine aA.aG Tryz.func80 rfl (by decide) (by simp [Tryz.f80]) [.tmp 2] rfl fun w0 T0 _=>?_
 simp only [Tryz.f80,au]
 (repeat' with_reducible first|intro _|exact dn|refine rn ?_|refine ra ?_ ?_)
 refine aF.intro (fun i:Nat=>⟨45,[(7,.int .i64 i),(6,.int .i64 s.length),(0,.str s)],[],0⟩) (fun i=>i≤s.length∧∀ j,j<i→DW s j) (fun i=>s.length - i) 0 ?_ ⟨Nat.zero_le _,fun j hj=>by omega⟩ fun i hI=>?_
 ·refine aK.ak rfl ?_ ?_<;>simp only [go_sem,Int.natCast_succ]
 obtain ⟨hl,hI⟩:=hI
 (repeat' with_reducible first|intro _|refine rz ?_|refine ra ?_ ?_|omega|simp only [go_sem,Int.toNat_natCast])
 ·rename_i h2
  have:eU s=false:=by
   rw [←Bool.not_eq_true,hi]
   rintro ⟨_,_,h⟩
   have:=h i (by omega)
   unfold DW at this
   omega
  refine aT.auto 0 ?_ rfl ?_<;>simp only [go_sem,Int.natCast_succ,Post,this]
 ·rename_i h2
  refine ⟨i+1,aK.ak rfl ?_ ?_,⟨by omega,fun j hj=>?_⟩,by omega⟩
  ·simp only [go_sem,Int.natCast_succ]
  ·simp only [go_sem,Int.natCast_succ]
  ·by_cases e:j=i
   ·subst e;unfold DW;omega
   ·exact hI j (by omega)
 all_goals
  have e:eU s=decide (¬s=[]∧(s.length:Int)≤40):=by
   rw [Bool.eq_iff_iff,decide_eq_true_eq,hi]
   exact ⟨fun h=>⟨h.1,by omega⟩,fun h=>⟨h.1,by omega,fun j hj=>hI j (by omega)⟩⟩
  refine aT.auto 0 ?_ rfl ?_<;>simp only [go_sem,Int.natCast_succ,Post,e]
end Go.Fv.H
