/-
  A part of the proof of the claim: walks over the program's functions and the plain laws that these need. No condition of its own.
-/
import Derived.Test.YtodlgmmbfbiilaaGreatDoorHArcCCardPart2
import Derived.Test.YtodlgmmbfbiilaaGreatDoorHArcCCardPart13
import Derived.Test.YtodlgmmbfbiilaaGreatDoorFvPart10
import Derived.Test.YtodlgmmbfbiilaaGreatDoorHArcCCardPart9
import Derived.Test.YtodlgmmbfbiilaaGreatDoorHArcCCardPart7
import Derived.Test.YtodlgmmbfbiilaaGreatDoorHArcCCardPart6
import Derived.Lib.MakeNoZero
import Derived.Test.YtodlgmmbfbiilaaGreatDoorHArcCCardPart1
import Derived.Test.YtodlgmmbfbiilaaGreatDoorHArcCCardPart4
set_option linter.unusedSimpArgs false
set_option linter.unusedVariables false
set_option linter.unnecessarySimpa false
set_option maxRecDepth 8000
/- The closures of shrink.List and of the reference's. -/
namespace Go.Fv.H
open Go Go.Proofs
theorem slc {s:Bytes} {a n:Nat}:(s.drop a).take (a+n - a)=(s.drop a).take n:=by rw [Nat.add_sub_cancel_left]
theorem XA (s:Bytes) (a:Nat) (sh:Bool) (n:Nat) (hs:s.length≤300000000000000) (ha:a≤s.length) (hn:n≤4294967296) :
  fA Tryz.prog 90 [.int .i64 n,.ptr 0 0,.ptr 1 0,.ptr 2 0] [(0,.box 4 [.bool sh]),(1,.box 9 [.str s]),(2,.box 3 [.int .i64 a])] 3 (.str (tk s a sh n).t) [(0,.box 4 [.bool (tk s a sh n).sh]),(1,.box 9 [.str s]),(2,.box 3 [.int .i64 (tk s a sh n).a])]:=by
 refine fA.aG Tryz.func90 rfl (by decide) (by simp [Tryz.f90]) cv3 [.tmp 5] rfl fun w0 T0 _=>?_
 simp only [Tryz.f90,au]
 cases sh with
 | true=>
  rw [FV]
  (repeat' with_reducible first|intro _|exact dn|refine rn ?_|refine ra ?_ ?_)
  refine jl.auto 3 (Nat.le_refl 3) ?_ rfl ?_<;>simp only [go_sem,Int.natCast_succ,gq]
 | false=>
  by_cases h:s.length<a+n
  ·have e:tk s a false n=⟨[],a,true⟩:=by unfold tk;rw [if_pos (.inr h)]
   have f1:((s.length:Int) - (a:Int)<(n:Int))=True:=eq_true (by omega)
   rw [e]
   (repeat' with_reducible first|intro _|refine rz ?_|refine ra ?_ ?_|omega|simp only [go_sem,f1])
   refine jl.auto 3 (Nat.le_refl 3) ?_ rfl ?_<;>simp only [go_sem,Int.natCast_succ,gq]
  ·have e:tk s a false n=⟨(s.drop a).take n,a+n,false⟩:=by unfold tk;rw [if_neg (by simp;omega)]
   have f1:((s.length:Int) - (a:Int)<(n:Int))=False:=eq_false (by omega)
   have e2:(a:Int)+(n:Int)=((a+n:Nat):Int):=by omega
   have e3:((a+n:Nat):Int) - (n:Int)=(a:Int):=by omega
   rw [e]
   (repeat' with_reducible first|intro _|refine rz ?_|refine ra ?_ ?_|omega|simp only [go_sem,f1,e2,e3,slc])
   refine jl.auto 3 (Nat.le_refl 3) ?_ rfl ?_<;>simp only [go_sem,Int.natCast_succ,gq]
def iT (s:Bytes) (a:Nat) (sh:Bool) (n:Nat):Tk:=
 if s.length<a+n then ⟨List.replicate n 0,a,true⟩ else ⟨(s.drop a).take n,a+n,sh⟩
theorem Kq (s:Bytes) (a:Nat) (sh:Bool) (n:Nat):(iT s a sh n).t.length≤n:=by
 unfold iT;split
 ·exact Nat.le_of_eq List.length_replicate
 ·rw [List.length_take];exact Nat.min_le_left _ _
theorem Xy {s:Bytes} {a:Nat} (sh:Bool) (n:Nat) (h:a≤s.length):(iT s a sh n).a≤s.length:=by
 unfold iT;split
 ·exact h
 ·dsimp only;omega
theorem QD (s:Bytes) (a n:Nat):(iT s a true n).sh=true:=by unfold iT;split<;>rfl
theorem QA (s:Bytes) (a n:Nat):(iT s a false n).sh=(tk s a false n).sh∧((iT s a false n).sh=false→iT s a false n=tk s a false n):=by
 unfold iT tk
 by_cases h:s.length<a+n
 ·rw [if_pos h,if_pos (.inr h)];exact ⟨rfl,fun h=>by cases h⟩
 ·rw [if_neg h,if_neg (by simp;omega)];exact ⟨rfl,fun _=>rfl⟩
def Vy (s:Bytes) (a:Nat):EN1:=
 let x:=iT s a false 1
 let y:=iT s x.a x.sh (aT x.t)
 let z:=iT s y.a y.sh 4
 ⟨y.t,aT z.t,z.a,z.sh⟩
theorem Yc (s:Bytes) (a:Nat):(Vy s a).sh=(qC s a false).sh∧((Vy s a).sh=false→Vy s a=qC s a false):=by
 have h1:=QA s a 1
 unfold Vy qC
 dsimp only
 generalize iT s a false 1=X at *
 generalize tk s a false 1=X' at *
 obtain ⟨xt,xa,xs⟩:=X
 cases xs with
 | true=>
  dsimp only at h1 ⊢
  rw [←h1.1]
  have e1:=QD s xa (aT xt)
  generalize iT s xa true (aT xt)=Y at *
  obtain ⟨yt,ya,ys⟩:=Y
  dsimp only at e1
  subst e1
  dsimp only
  rw [QD,FV]
  dsimp only
  rw [FV]
  exact ⟨rfl,fun h=>by cases h⟩
 | false=>
  have h2:=h1.2 rfl
  rw [←h2]
  dsimp only
  have h3:=QA s xa (aT xt)
  generalize iT s xa false (aT xt)=Y at *
  generalize tk s xa false (aT xt)=Y' at *
  obtain ⟨yt,ya,ys⟩:=Y
  cases ys with
  | true=>
   dsimp only at h3 ⊢
   rw [QD,←h3.1,FV]
   exact ⟨rfl,fun h=>by cases h⟩
  | false=>
   have h4:=h3.2 rfl
   rw [←h4]
   dsimp only
   have h5:=QA s ya 4
   refine ⟨h5.1,fun h=>?_⟩
   rw [h5.2 h]
set_option maxHeartbeats 1000000 in
theorem FT (s:Bytes) (a:Nat) (sh:Bool) (n:Nat) (hs:s.length≤300000000000000) (ha:a≤s.length) (hn:n≤1000) :
  fA Tryz.prog 91 [.int .i64 n,.ptr 0 0,.ptr 1 0,.ptr 2 0] [(0,.box 9 [.str s]),(1,.box 3 [.int .i64 a]),(2,.box 4 [.bool sh])] 3 (.str (iT s a sh n).t) [(0,.box 9 [.str s]),(1,.box 3 [.int .i64 (iT s a sh n).a]),(2,.box 4 [.bool (iT s a sh n).sh])]:=by
 have kr:=Qq n (by omega)
 refine fA.aG Tryz.func91 rfl (by decide) (by simp [Tryz.f91]) cv3 [.tmp 5] rfl fun w0 T0 _=>?_
 simp only [Tryz.f91,au]
 by_cases h:s.length<a+n
 ·have e:iT s a sh n=⟨List.replicate n 0,a,true⟩:=by unfold iT;rw [if_pos h]
  have f1:((s.length:Int) - (a:Int)<(n:Int))=True:=eq_true (by omega)
  rw [e]
  (repeat' with_reducible first|intro _|refine rz ?_|refine ra ?_ ?_|omega|simp only [go_sem,f1])
  refine ah.k kr ?_
  (repeat' with_reducible first|intro _|exact dn|refine rn ?_|refine ra ?_ ?_)
  refine jl.auto 3 (Nat.le_refl 3) ?_ rfl ?_<;>simp only [go_sem,Int.natCast_succ,gq]
 ·have e:iT s a sh n=⟨(s.drop a).take n,a+n,sh⟩:=by unfold iT;rw [if_neg h]
  have f1:((s.length:Int) - (a:Int)<(n:Int))=False:=eq_false (by omega)
  have e2:(a:Int)+(n:Int)=((a+n:Nat):Int):=by omega
  have e3:((a+n:Nat):Int) - (n:Int)=(a:Int):=by omega
  rw [e]
  (repeat' with_reducible first|intro _|refine rz ?_|refine ra ?_ ?_|omega|simp only [go_sem,f1,e2,e3,slc])
  refine jl.auto 3 (Nat.le_refl 3) ?_ rfl ?_<;>simp only [go_sem,Int.natCast_succ,gq]
end Go.Fv.H
/- shrink.List: the walk. -/
namespace Go.Fv.H
open Go Go.Proofs
def EM (l:List (Bytes × Nat)) (a j:Nat):List En:=(fO l a).take j++(fO l 0).drop j
theorem Wh (l:List (Bytes × Nat)) (a:Nat) {j:Nat} (h:j≤l.length):(EM l a j).length=l.length:=by
 unfold EM
 rw [List.length_append,List.length_take,List.length_drop,fF,fF];omega
theorem Yw (l:List (Bytes × Nat)) (a:Nat) {j:Nat} (h:j<l.length):(EM l a j).getD j En.zero=(fO l 0).getD j En.zero:=by
 unfold EM
 have h1:=fF l a
 rw [List.getD_eq_getElem?_getD,List.getD_eq_getElem?_getD,List.getElem?_append_right (by rw [List.length_take];omega),List.length_take,List.getElem?_drop,h1]
 congr 2;omega
theorem Wi (l:List (Bytes × Nat)) (a:Nat) {j:Nat} (h:j<l.length):(EM l a j).set j ⟨((fO l 0).getD j En.zero).n,((fO l 0).getD j En.zero).a+a,((fO l 0).getD j En.zero).k⟩=EM l a (j+1):=by
 have h1:=fF l a
 have h2:=fF l 0
 have e:=Rx a l 0 j h
 rw [Nat.zero_add] at e
 rw [←e]
 have hj:j<(fO l a).length:=by omega
 have e2:(fO l a).getD j En.zero=(fO l a)[j]:=by simp [List.getD_eq_getElem?_getD,hj]
 rw [e2]
 unfold EM
 rw [List.set_append_right _ _ (by rw [List.length_take];omega),List.length_take,Nat.min_eq_left (by omega),Nat.sub_self,List.drop_eq_getElem_cons (show j<(fO l 0).length by omega),List.set_cons_zero,List.take_succ_eq_append_getElem hj,List.append_assoc]
 rfl
theorem Ry (l:List (Bytes × Nat)) (a j:Nat):((fO l a).getD j En.zero).n=(l.map Prod.fst).getD j []:=by
 rw [←zQ l a,List.getD_eq_getElem?_getD,List.getD_eq_getElem?_getD,List.getElem?_map]
 cases (fO l a)[j]?<;>rfl
set_option maxHeartbeats 4000000 in
theorem Yu (s:Bytes) (hs:s.length≤140737488351232):aA Tryz.prog 39 [.str s] (.tup [.own 0,.int .i64 (aZ s).2]) [(0,.row 75 (CP (aZ s).1))]:=by
 refine aA.aG Tryz.func39 rfl (by decide) (by simp [Tryz.f39]) [.tmp 2,.tmp 3] rfl fun w0 T0 _=>?_
 simp only [Tryz.f39,au]
 by_cases h1:4194304<s.length
 ·have f1:((4194304:Int)<(s.length:Int))=True:=eq_true (by omega)
  have e:aZ s=([],4):=by unfold aZ;rw [if_pos h1]
  rw [e]
  (repeat' with_reducible first|intro _|refine rz ?_|refine ra ?_ ?_|omega|simp only [go_sem,f1])
  refine aU.auto 1 ?_ rfl ?_<;>simp only [go_sem,Int.natCast_succ,Post]
 have f1:((4194304:Int)<(s.length:Int))=False:=eq_false (by omega)
 by_cases h2:s.length<6
 ·have f2:((s.length:Int)<6)=True:=eq_true (by omega)
  have e:aZ s=([],8):=by unfold aZ;rw [if_neg h1,if_pos (.inl h2)]
  rw [e]
  (repeat' with_reducible first|intro _|refine rz ?_|refine ra ?_ ?_|omega|simp only [go_sem,f1,f2])
  refine aU.auto 1 ?_ rfl ?_<;>simp only [go_sem,Int.natCast_succ,Post]
 have f2:((s.length:Int)<6)=False:=eq_false (by omega)
 by_cases h3:s.take 4=mY
 rotate_left
 ·have e:aZ s=([],8):=by unfold aZ;rw [if_neg h1,if_pos (.inr h3)]
  have f3:(s.take 4=[70,66,65,49])=False:=eq_false h3
  rw [e]
  (repeat' with_reducible first|intro _|refine rz ?_|refine ra ?_ ?_|omega|simp only [go_sem,f1,f2,f3])
  refine aU.auto 1 ?_ rfl ?_<;>simp only [go_sem,Int.natCast_succ,Post]
 have f3:(s.take 4=[70,66,65,49])=True:=eq_true h3
 have kb:=bQ ((s.drop 4).take 2) (by rw [List.length_take];omega)
 have hm:=ZX (s:=(s.drop 4).take 2) (List.length_take_le _ _)
 obtain ⟨M,hM⟩:∃ M,aT ((s.drop 4).take 2)=M:=⟨_,rfl⟩
 rw [hM] at kb hm
 have hsl:(s.drop 4).take (6 - 4)=(s.drop 4).take 2:=rfl
 (repeat' with_reducible first|intro _|refine rz ?_|refine ra ?_ ?_|omega|simp only [go_sem,f1,f2,f3])
 refine ah.k kb ?_
 (repeat' with_reducible first|intro _|exact dn|refine rn ?_|refine ra ?_ ?_)
 have hls:=fun i=>Ih (s:=s) (by omega) i
 have hN:MP s=M:=hM
 refine aF.intro (fun i:Nat=>⟨104,[(34,.int .i64 i),(33,.int .i64 M),(9,.int .i64 (dO (ls s i).l)),(8,.own 3),(7,.fn 90 [.ptr 2 0,.ptr 0 0,.ptr 1 0]),(6,.ptr 2 0),(4,.ptr 1 0),(1,.ptr 0 0)],[(0,.box 9 [.str s]),(1,.box 3 [.int .i64 (ls s i).a]),(2,.box 4 [.bool false]),(3,.row 75 (CP (fO (ls s i).l 0)))],4⟩) (fun i=>i≤M∧(ls s i).sh=false) (fun i=>M - i) 0 ?_ ⟨Nat.zero_le _,rfl⟩ fun i hi=>?_
 ·refine aK.ak rfl ?_ ?_<;>simp only [go_sem,Int.natCast_succ]
  all_goals first|rfl|exact ⟨rfl,rfl⟩|trace_state
 obtain ⟨hiM,hish⟩:=hi
 have ho:=hls i
 by_cases hlt:i<M
 ·have f4:((i:Int)<(M:Int))=True:=eq_true (by omega)
  have ho2:=Vz (ls s i).sh ho.a1
  have hst:ls s (i+1)=⟨(ls s i).l++[((qC s (ls s i).a (ls s i).sh).n,(qC s (ls s i).a (ls s i).sh).k)],(qC s (ls s i).a (ls s i).sh).a,(qC s (ls s i).a (ls s i).sh).sh⟩:=rfl
  have hsn:=Hr ((qC s (ls s i).a (ls s i).sh).n,(qC s (ls s i).a (ls s i).sh).k) (ls s i).l 0
  have hsk:=AA (ls s i).l ((qC s (ls s i).a (ls s i).sh).n,(qC s (ls s i).a (ls s i).sh).k)
  have hel:=fF (ls s i).l 0
  have hlen:=ho.len
  have hk:=ho.k
  rw [hish] at hst hsn hsk ho2
  have hsM:=@Sl s (i+1)
  rw [hst] at hsM
  have ha1:=ho.a1
  have hk2:=ho2.k
  generalize hq:ls s i=q at *
  obtain ⟨ql,qa,qs⟩:=q
  dsimp only at *
  have kt1:fA Tryz.prog 90 [.int .i64 1,.ptr 0 0,.ptr 1 0,.ptr 2 0] [(0,.box 4 [.bool false]),(1,.box 9 [.str s]),(2,.box 3 [.int .i64 qa])] 3 (.str (tk s qa false 1).t) [(0,.box 4 [.bool (tk s qa false 1).sh]),(1,.box 9 [.str s]),(2,.box 3 [.int .i64 (tk s qa false 1).a])]:=XA s qa false 1 (by omega) ha1 (by omega)
  have b1:=Xz (s:=s) false 1 ha1
  have l1:=FU s qa false 1
  have n1:=num1 l1
  have kb1:=bQ (tk s qa false 1).t (by omega)
  have hx:qC s qa false=⟨(tk s (tk s qa false 1).a (tk s qa false 1).sh (aT (tk s qa false 1).t)).t,aT (tk s (tk s (tk s qa false 1).a (tk s qa false 1).sh (aT (tk s qa false 1).t)).a (tk s (tk s qa false 1).a (tk s qa false 1).sh (aT (tk s qa false 1).t)).sh 4).t,(tk s (tk s (tk s qa false 1).a (tk s qa false 1).sh (aT (tk s qa false 1).t)).a (tk s (tk s qa false 1).a (tk s qa false 1).sh (aT (tk s qa false 1).t)).sh 4).a,(tk s (tk s (tk s qa false 1).a (tk s qa false 1).sh (aT (tk s qa false 1).t)).a (tk s (tk s qa false 1).a (tk s qa false 1).sh (aT (tk s qa false 1).t)).sh 4).sh⟩:=rfl
  rw [hx] at hst hsn hsk hsM hk2
  generalize tk s qa false 1=X at *
  have kt2:=XA s X.a X.sh (aT X.t) (by omega) b1.2 (by omega)
  have b2:=Xz (s:=s) X.sh (aT X.t) b1.2
  generalize tk s X.a X.sh (aT X.t)=Y at *
  have kt3:fA Tryz.prog 90 [.int .i64 4,.ptr 0 0,.ptr 1 0,.ptr 2 0] [(0,.box 4 [.bool Y.sh]),(1,.box 9 [.str s]),(2,.box 3 [.int .i64 Y.a])] 3 (.str (tk s Y.a Y.sh 4).t) [(0,.box 4 [.bool (tk s Y.a Y.sh 4).sh]),(1,.box 9 [.str s]),(2,.box 3 [.int .i64 (tk s Y.a Y.sh 4).a])]:=XA s Y.a Y.sh 4 (by omega) b2.2 (by omega)
  have l3:=FU s Y.a Y.sh 4
  have kb3:=bQ (tk s Y.a Y.sh 4).t l3
  generalize tk s Y.a Y.sh 4=Z at *
  dsimp only at hst hsn hsk hsM hk2
  rw [Nat.zero_add] at hsn
  (repeat' with_reducible first|intro _|refine rz ?_|refine ra ?_ ?_|omega|simp only [go_sem,f4])
  refine ah.i [2,0,1] kt1 3 ?_
  (repeat' with_reducible first|intro _|exact dn|refine rn ?_|refine ra ?_ ?_)
  refine ah.k kb1 ?_
  (repeat' with_reducible first|intro _|exact dn|refine rn ?_|refine ra ?_ ?_)
  refine ah.i [2,0,1] kt2 3 ?_
  (repeat' with_reducible first|intro _|exact dn|refine rn ?_|refine ra ?_ ?_)
  refine ah.i [2,0,1] kt3 3 ?_
  (repeat' with_reducible first|intro _|exact dn|refine rn ?_|refine ra ?_ ?_)
  refine ah.k kb3 ?_
  cases hz:Z.sh with
  | true=>
   have e:aZ s=([],8):=by
    have h:=hsM hz (M - (i+1))
    rw [show i+1+(M - (i+1))=M by omega] at h
    have:(qY s).sh=true:=by unfold qY;rw [hN];exact h
    unfold aZ
    rw [if_neg h1,if_neg (by rw [h3];simp;omega),if_pos this]
   rw [e]
   (repeat' with_reducible first|intro _|exact dn|refine rn ?_|refine ra ?_ ?_)
   refine aU.auto 1 ?_ rfl ?_<;>simp only [go_sem,Int.natCast_succ,Post]
  | false=>
   (repeat' with_reducible first|intro _|exact dn|refine rn ?_|refine ra ?_ ?_)
   refine ⟨i+1,aK.ak rfl ?_ ?_,⟨by omega,by rw [hst];exact hz⟩,by omega⟩<;>simp only [go_sem,Int.natCast_succ,hst,hsn,hsk]
   all_goals first|rfl|(rw [List.map_append];rfl)
 have e:i=M:=by omega
 subst e
 have hO:qY s=ls s i:=by unfold qY;rw [hN]
 obtain ⟨hlen,hk,ha0,ha1⟩:=ho
 have hin:=fun x hx=>(Jk (ls s i).l 0 x hx).2
 have hL:aZ s=if (ls s i).a+dO (ls s i).l+8≠s.length then ([],8) else if bY (s.take (ls s i).a)≠s.drop ((ls s i).a+dO (ls s i).l) then ([],14) else if xP ((ls s i).l.map Prod.fst) (ls s i).l.length≠0 then ([],xP ((ls s i).l.map Prod.fst) (ls s i).l.length) else (fO (ls s i).l (ls s i).a,0):=by
  unfold aZ
  rw [if_neg h1,if_neg (by rw [h3];simp;omega),hO,if_neg (by rw [hish];decide)]
 clear hls hO hN hM hish
 generalize ls s i=q at *
 obtain ⟨l,a,sh⟩:=q
 dsimp only at hlen hk ha0 ha1 hL hin
 have f4:((i:Int)<(i:Int))=False:=eq_false (by omega)
 by_cases h5:a+dO l+8=s.length
 rotate_left
 ·have f5:((a:Int)+(dO l:Int)+8=(s.length:Int))=False:=eq_false (by omega)
  rw [if_pos h5] at hL
  rw [hL]
  (repeat' with_reducible first|intro _|refine rz ?_|refine ra ?_ ?_|omega|simp only [go_sem,f4,f5])
  refine aU.auto 1 ?_ rfl ?_<;>simp only [go_sem,Int.natCast_succ,Post]
 have f5:((a:Int)+(dO l:Int)+8=(s.length:Int))=True:=eq_true (by omega)
 rw [if_neg (fun h=>h h5)] at hL
 have ks:aA Tryz.prog 26 [.str (s.take (a - 0))] (.str (bY (s.take a))) []:=mM (s.take a) (by rw [List.length_take];omega)
 have e1:(a:Int)+(dO l:Int)=((a+dO l:Nat):Int):=by omega
 have e2:(s.drop (a+dO l)).take (s.length - (a+dO l))=s.drop (a+dO l):=List.take_of_length_le (by rw [List.length_drop];exact Nat.le_refl _)
 generalize hS:bY (s.take a)=S at *
 obtain ⟨D,hD⟩:∃ D,s.drop (a+dO l)=D:=⟨_,rfl⟩
 rw [hD] at hL e2
 (repeat' with_reducible first|intro _|refine rz ?_|refine ra ?_ ?_|omega|simp only [go_sem,f4,f5])
 refine aN.lex [] [] (by kernel_rfl) (by kernel_rfl) ?_
 (repeat' with_reducible first|intro _|refine rz ?_|refine ra ?_ ?_|omega|simp only [go_sem,e1,e2,hD])
 (refine QV.intro (.str S) ?_ ?_;focus ((repeat' with_reducible first|intro _|exact dn|refine rn ?_|refine ra ?_ ?_);refine ah.k (ks) ?_;(repeat' with_reducible first|intro _|exact dn|refine rn ?_|refine ra ?_ ?_)))
 by_cases h6:S=D
 rotate_left
 ·have f6:(S=D)=False:=eq_false h6
  rw [if_pos h6] at hL
  rw [hL]
  (repeat' with_reducible first|intro _|refine rz ?_|refine ra ?_ ?_|omega|simp only [go_sem,e1,e2,hD,f6])
  refine aU.auto 1 ?_ rfl ?_<;>simp only [go_sem,Int.natCast_succ,Post]
 have f6:(S=D)=True:=eq_true h6
 rw [if_neg (fun h=>h h6)] at hL
 (repeat' with_reducible first|intro _|refine rz ?_|refine ra ?_ ?_|omega|simp only [go_sem,e1,e2,hD,f6])
 have hel:=fF l 0
 rw [hel]
 have hnl:(l.map Prod.fst).length=l.length:=List.length_map _
 refine aF.intro (fun j:Nat=>⟨104,[(77,.int .i64 j),(76,.int .i64 l.length),(75,.own 0),(13,.own 1),(12,.int .i64 a),(8,.own 0)],[(0,.row 75 (CP (EM l a j))),(1,.map (((l.map Prod.fst).take j).map .str) (((l.map Prod.fst).take j).map fun _=>.bool true))],2⟩) (fun j=>j≤l.length∧xP (l.map Prod.fst) j=0) (fun j=>l.length - j) 0 ?_ ⟨Nat.zero_le _,rfl⟩ fun j hj=>?_
 ·refine aK.ak rfl ?_ ?_<;>simp only [go_sem,Int.natCast_succ]
  all_goals first|rfl|exact ⟨rfl,rfl⟩|trace_state
 obtain ⟨hj1,hj2⟩:=hj
 have hml:=Wh l a hj1
 by_cases hlt:j<l.length
 ·have f7:((j:Int)<(l.length:Int))=True:=eq_true (by omega)
  have hst:xP (l.map Prod.fst) (j+1)=if xP (l.map Prod.fst) j≠0 then xP (l.map Prod.fst) j else if dA ((l.map Prod.fst).getD j [])=true then (if (l.map Prod.fst).getD j []∈(l.map Prod.fst).take j then 6 else 0) else 5:=rfl
  have hle:=@PX (l.map Prod.fst) (j+1) l.length
  have hat:=Yw l a hlt
  have hset:=Wi l a hlt
  have hnm:=Ry l 0 j
  have hee:=lS (EM l a j) (i:=j) (by omega)
  rw [hat] at hee
  have hxm:=hin ((fO l 0).getD j En.zero) (by rw [List.getD_eq_getElem?_getD,List.getElem?_eq_getElem (by omega)];exact List.getElem_mem _)
  have htk:(l.map Prod.fst).take (j+1)=(l.map Prod.fst).take j++[(l.map Prod.fst).getD j []]:=by
   have hjl:j<(l.map Prod.fst).length:=by omega
   rw [List.take_succ_eq_append_getElem hjl,getD_lt hjl]
  rw [hj2,if_neg (by simp),←hnm] at hst
  rw [←hnm] at htk
  generalize (fO l 0).getD j En.zero=x at *
  obtain ⟨xn,xa,xk⟩:=x
  dsimp only at hst hee hxm htk hset
  have kn:=zV xn
  (repeat' with_reducible first|intro _|refine rz ?_|refine ra ?_ ?_|omega|simp only [go_sem,f7,hee,hml,bZ])
  refine ah.k kn ?_
  cases hn:dA xn with
  | false=>
   rw [hn,if_neg (by decide)] at hst
   have h0:=hle (by rw [hst];decide) (by omega)
   rw [h0,hst,if_pos (by decide)] at hL
   rw [hL]
   (repeat' with_reducible first|intro _|exact dn|refine rn ?_|refine ra ?_ ?_)
   refine aU.auto 1 ?_ rfl ?_<;>simp only [go_sem,Int.natCast_succ,Post]
  | true=>
   rw [hn,if_pos rfl] at hst
   by_cases hd:xn∈(l.map Prod.fst).take j
   ·rw [if_pos hd] at hst
    have h0:=hle (by rw [hst];decide) (by omega)
    rw [h0,hst,if_pos (by decide)] at hL
    rw [hL]
    have g:=qE ((l.map Prod.fst).take j) xn
    rw [decide_eq_true hd] at g
    (repeat' with_reducible first|intro _|refine rz ?_|refine ra ?_ ?_|omega|simp only [go_sem,g])
    refine aU.auto 1 ?_ rfl ?_<;>simp only [go_sem,Int.natCast_succ,Post]
   ·rw [if_neg hd] at hst
    have g:=qE ((l.map Prod.fst).take j) xn
    rw [decide_eq_false hd] at g
    have hins:BZ ((l.map Prod.fst).take j) xn=(l.map Prod.fst).take (j+1):=by unfold BZ;rw [if_neg hd,htk]
    (repeat' with_reducible first|intro _|refine rz ?_|refine ra ?_ ?_|omega|simp only [go_sem,g,hml,hee])
    refine ⟨j+1,aK.ak rfl ?_ ?_,⟨by omega,hst⟩,by omega⟩<;>simp only [go_sem,Int.natCast_succ,hins]
    rw [←hset,List.map_set];rfl
 ·have e:j=l.length:=by omega
  subst e
  have f7:((l.length:Int)<(l.length:Int))=False:=eq_false (by omega)
  have hmx:EM l a l.length=fO l a:=by
   unfold EM
   rw [List.take_of_length_le (by rw [fF];exact Nat.le_refl _),List.drop_of_length_le (by rw [fF];exact Nat.le_refl _),List.append_nil]
  rw [if_neg (by rw [hj2];simp)] at hL
  rw [hL,hmx]
  (repeat' with_reducible first|intro _|refine rz ?_|refine ra ?_ ?_|omega|simp only [go_sem,f7])
  refine aU.auto 1 ?_ rfl ?_<;>simp only [go_sem,Int.natCast_succ,Post]
theorem Jy (s:Bytes) (hs:s.length≤140737488351232):cO Tryz.prog 39 [.str s] (.tup [.ro (CP (aZ s).1),.int .i64 (aZ s).2]) []:=
 cO.zl (cO.eY (Yu s hs) rfl (by simp [fQ,fP,jh,iQ,lG,CP,En.av])) (by simp [dJ,aS,aV,bH,aH,lk,aI])
end Go.Fv.H
/- shrink.checkPages, dataFor, joined, Pack: the walk. -/
namespace Go.Fv.H
open Go Go.Proofs
def itA (x:Bytes × Bytes):List AV:=[.str x.1,.str x.2]
instance:G9 itA:=⟨fun _=>rfl⟩
def UY (l:List (Bytes × Bytes)) (i:Nat):Bytes:=(mY++bV 2 l.length)++(l.take i).flatMap fB
theorem Ym (l:List (Bytes × Bytes)):UY l l.length=hdB l:=by unfold UY hdB;rw [List.take_length,List.append_assoc]
theorem Md (l:List (Bytes × Bytes)) {i:Nat} (h:i<l.length):UY l (i+1)=UY l i++(bV 1 (l.getD i ([],[])).1.length++(l.getD i ([],[])).1++bV 4 (l.getD i ([],[])).2.length):=by
 unfold UY
 rw [List.take_succ_eq_append_getElem h,List.flatMap_append,List.flatMap_singleton,←List.append_assoc,getD_lt h]
 unfold fB
 simp only [List.append_assoc]
theorem RQ {l:List (Bytes × Bytes)} {n:Nat} (hN:∀ x,x∈l→x.1.length≤n):∀ i,i≤l.length→(UY l i).length≤6+i*(n+5)
 | 0,_=>by unfold UY;simp only [List.take_zero,List.flatMap_nil,List.append_nil,List.length_append,aQ];show 4+2≤_;omega
 | i+1,h=>by
  have ih:=RQ hN i (by omega)
  have hi:i<l.length:=by omega
  rw [Md l hi]
  have:=hN (l.getD i ([],[])) (by rw [getD_lt hi];exact List.getElem_mem hi)
  simp only [List.length_append,aQ]
  rw [Nat.succ_mul];omega
structure aaG (l:List (Bytes × Bytes)):Prop where
 many:l.length≤70000
 name:∀ x,x∈l→x.1.length≤1000
 code:∀ x,x∈l→x.2.length≤100000000
 long:(jD l).length≤5000000000
theorem Vm {l:List NP} (kind:Int) {i:Nat} (h:i<l.length):qo kind (l.take (i+1))=qo kind (l.take i)++[((l.getD i NP.zero).n,yh kind (l.getD i NP.zero))]:=by
 unfold qo
 rw [List.take_succ_eq_append_getElem h,List.map_append,getD_lt h];rfl
theorem yg (kind:Int) (l:List NP):(qo kind l).length=l.length:=List.length_map _
theorem Zy {l:List NP} {kind:Int} (h:xW l) (hl:l.length≤500) (hk:1≤kind∧kind≤5):aaG (qo kind l):=by
 have hc:∀ x,x∈qo kind l→x.2.length≤1048597:=fun x hx=>by
  obtain ⟨y,hy,rfl⟩:=List.mem_map.1 hx
  exact (DY hk (h.ok y hy)).2
 refine ⟨by rw [yg];omega,fun x hx=>?_,fun x hx=>by have:=hc x hx;omega,?_⟩
 ·obtain ⟨y,hy,rfl⟩:=List.mem_map.1 hx
  have:=oP (h.name y hy)
  dsimp only;omega
 ·have key:∀ m:List (Bytes × Bytes),(∀ x,x∈m→x.2.length≤1048597)→(jD m).length≤m.length*1048597:=by
   intro m
   induction m with
   | nil=>intro _;exact Nat.zero_le _
   | cons y m ih=>
    intro hm
    have h1:=hm y List.mem_cons_self
    have h2:=ih fun x hx=>hm x (List.mem_cons_of_mem _ hx)
    unfold jD at h2 ⊢
    rw [List.flatMap_cons,List.length_append,List.length_cons,Nat.succ_mul];omega
  have:=key _ hc
  rw [yg] at this
  have:l.length*1048597≤500*1048597:=Nat.mul_le_mul_right _ hl
  omega
end Go.Fv.H
/- strings.Builder: Grow at a fresh builder. -/
namespace Go.Fv.H
open Go Go.Proofs Go.RowKit
theorem ntG:Tryz.f118.ntmps=30:=rfl
theorem aag:(Tryz.prog.info? 5).map (·.size)=some 1:=by kernel_rfl
set_option maxHeartbeats 2000000 in
set_option maxRecDepth 1000000 in
theorem Ua (b n:Nat) (w:World) (hbk:w.heap[b]?=some (.cells #[.pointer (some ⟨b,0,none⟩),.slice none 0 0] 89 (0,0))) (hn:n≤281474976710656) :
  Calls Tryz.prog 118 #[.pointer (some ⟨b,0,none⟩),.int .i64 n] w fun e w'=>e=.returned (.tuple #[])∧∃ cs:Array Value,n≤cs.size∧cs.size≤maxLen ∧
   w'=((w.setCell ⟨b,1,none⟩ (.slice (some ⟨w.heap.size,0,none⟩) 0 cs.size)).alloc (.cells cs 5)).drew.drew.drew:=by
 obtain ⟨cs,hrun,hle,hmax⟩:=Lib.run_makeNoZero (P:=Tryz.prog) w.drew #[3] 27 5 Tryz.underlying27 n hn
 have hw:IntKind.i64.wrap (IntKind.i64.wrap 0+(n:Int))=n:=by
  rw [IntKind.wrap_i64,IntKind.wrap_i64]
  omega
 have hcall:(callFunc 162 #[.int .i64 (IntKind.i64.wrap (IntKind.i64.wrap 0+(n:Int)))]).run Tryz.prog w.drew=.ok (.value (.slice (some ⟨w.drew.heap.size,0,none⟩) n cs.size)) (w.drew.drew.drew.alloc (.cells cs 5)):=by
  rw [hw,run_callFunc_extern Tryz.func162 (by kernel_rfl) (by kernel_rfl) (by kernel_rfl) (e:=Extern.BytealgMakeNoZero.makeNoZero #[3] #[27]) (by kernel_rfl),hrun]
  rfl
 have hlt:b<w.heap.size:=by
  rcases Nat.lt_or_ge b w.heap.size with h'|h'
  ·exact h'
  ·simp [Array.getElem?_eq_none h'] at hbk
 have c1:w.drew.cell? ⟨b,1,none⟩=some (.slice none 0 0):=by
  have:w.drew.heap[b]?=_:=hbk
  rw [Lib.cell_of_heap this];rfl
 have c2:(w.alloc (.cells cs 5)).cell? ⟨b,1,none⟩=some (.slice none 0 0):=by
  have:(w.alloc (.cells cs 5)).heap[b]?=_:=(Lib.alloc_old w _ b hlt).trans hbk
  rw [Lib.cell_of_heap this];rfl
 have f2:(w.alloc (.cells cs 5)).frozen? ⟨b,1,none⟩=false:=by
  exact Lib.frozen_of_heap ((Lib.alloc_old w _ b hlt).trans hbk) 1
 have hcopy:∀ W:World,(Builtin.copy_ #[27,27] 3 #[.slice (some ⟨w.heap.size,0,none⟩) 0 cs.size,.slice none 0 0]).run Tryz.prog W=.ok (goInt 0) W:=
  fun W=>run_copy_none W 27 27 3 5 _ _ 0 cs.size 0 0 Tryz.underlying27 aag rfl
 clear hw
 have t70:=Tryz.underlying87
 have t72:=Tryz.underlying89
 have a72:=Tryz.isAgg89
 have z72:=Tryz.sizeOf89
 have a70:=Tryz.isAgg87
 have z70:=Tryz.sizeOf87
 have t37:=Tryz.underlying27
 have a37:=Tryz.isAgg27
 have z37:=Tryz.sizeOf27
 have t3:=Tryz.underlying3
 have a3:=Tryz.isAgg3
 have z3:=Tryz.sizeOf3
 have t5:=Tryz.underlying5
 have a5:=Tryz.isAgg5
 have z5:=Tryz.sizeOf5
 have hf:=Tryz.func118
 have mixed:Tryz.prog.follows .mixedOrders=true:=by kernel_rfl
 have u70:=run_underlying t70
 have u72:=run_underlying t72
 have u37:=run_underlying t37
 have u3:=run_underlying t3
 have u5:=run_underlying t5
 have hm1:=hmax
 have hnt:=ntG
 generalize Tryz.prog=P at *
 go_enter hf,hnt
 go_wp2
 go_region_o
 all_goals (go_wp2;go_end0;exact ⟨rfl,cs,hle,hm1 (by unfold maxLen;omega),rfl⟩)
end Go.Fv.H
/- strings.Builder: Grow of a fresh builder, for a caller. -/
namespace Go.Fv.H
open Go Go.Proofs Go.RowKit
theorem Xp (w:World) (g:Nat) (a b v:Value) (t:TypeId) (h:w.heap[g]?=some (.cells #[a,b] t (0,0))):(w.setCell ⟨g,1,none⟩ v).heap[g]?=some (.cells #[a,v] t (0,0)):=by
 unfold World.setCell
 simp [h,Array.getElem?_modify]
theorem FI (w:World) (g k:Nat) (v:Value) (h:k≠g):(w.setCell ⟨g,1,none⟩ v).heap[k]?=w.heap[k]?:=by
 unfold World.setCell
 simp only [Array.getElem?_modify]
 rw [if_neg (fun e=>h e.symm)]
theorem Yl (n:Nat) (hn:n≤281474976710656):fA Tryz.prog 118 [.ptr 0 0,.int .i64 n] [(0,.box 89 [.ptr 0 0,.nilS])] 1 (.tup []) [(0,.box 89 [.ptr 0 0,.own 1]),(1,.row 5 (.ints .u8 []))]:=by
 refine ⟨⟨_,Tryz.func118,by kernel_rfl,by kernel_rfl⟩,fun w T g m0 vals ⟨hrow,_,hd⟩ hgl hng hv=>?_⟩
 obtain ⟨_,g0,vs,hm,hO,hl,hh⟩:=hrow 0 _ rfl
 cases hv with
 | cons _ v0 _ vs0 h0 hvs=>
 cases hvs with
 | cons _ v1 _ vs1 h1 hvs=>
 cases hvs
 cases h1
 cases h0 with
 | ptr _ _ gp hi hg=>
 have hg:blk (m0 0)=some gp:=hg
 rw [hm] at hg
 cases hg
 cases hl with
 | cons _ a _ _ ha _ hl=>
 cases ha with
 | ptr _ _ ga _ hga=>
 have hga:blk (m0 0)=some ga:=hga
 rw [hm] at hga
 cases hga
 cases hl with
 | cons _ b _ _ hb _ hl=>
 cases hb
 cases hl
 have hh':w.heap[g0]?=some (.cells #[.pointer (some ⟨g0,0,none⟩),.slice none 0 0] 89 (0,0)):=hh
 have hlt:g0<w.heap.size:=(Array.getElem?_eq_some_iff.1 hh').1
 refine (Ua g0 n w hh' hn).mono ?_
 rintro e w' ⟨rfl,cs,hc1,hc2,rfl⟩
 have hsz:(w.setCell ⟨g0,1,none⟩ (.slice (some ⟨w.heap.size,0,none⟩) 0 cs.size)).heap.size=w.heap.size:=by simp [World.setCell]
 have hat:∀ k,k<w.heap.size→(((w.setCell ⟨g0,1,none⟩ (.slice (some ⟨w.heap.size,0,none⟩) 0 cs.size)).alloc (.cells cs 5)).drew.drew.drew).heap[k]?=(w.setCell ⟨g0,1,none⟩ (.slice (some ⟨w.heap.size,0,none⟩) 0 cs.size)).heap[k]?:=
  fun k hk=>Below.heap_alloc _ _ k (by rw [hsz];exact hk)
 have hnew:(((w.setCell ⟨g0,1,none⟩ (.slice (some ⟨w.heap.size,0,none⟩) 0 cs.size)).alloc (.cells cs 5)).drew.drew.drew).heap[w.heap.size]?=some (.cells cs 5):=by
  have:=heap_alloc_new (w.setCell ⟨g0,1,none⟩ (.slice (some ⟨w.heap.size,0,none⟩) 0 cs.size)) (.cells cs 5)
  rw [hsz] at this
  exact this
 have hm0:Fv.upd m0 1 (.slice (some ⟨w.heap.size,0,none⟩) 0 cs.size) 0=m0 0:=by rfl
 have hm1:Fv.upd m0 1 (.slice (some ⟨w.heap.size,0,none⟩) 0 cs.size) 1=.slice (some ⟨w.heap.size,0,none⟩) 0 cs.size:=by rfl
 refine ⟨_,rfl,⟨rfl,rfl,rfl,?_,?_,fun k hk hn=>?_⟩,Fv.upd m0 1 (.slice (some ⟨w.heap.size,0,none⟩) 0 cs.size),2,fun i hi=>?_,by decide,.tup [] [] .nil,fun i it hi=>?_,fun i j it jt b hi hj h1 h2=>?_⟩
 ·show w.heap.size≤((w.setCell _ _).heap.push _).size
  rw [Array.size_push,hsz];exact Nat.le_succ _
 ·trivial
 ·rw [hat k hk];exact FI w g0 k _ fun e=>hn (e▸hO)
 ·obtain rfl:i=0:=by omega
  exact hm0
 ·rcases lk2 hi with ⟨rfl,rfl⟩|⟨rfl,rfl⟩
  ·refine ⟨by decide,g0,[.pointer (some ⟨g0,0,none⟩),.slice (some ⟨w.heap.size,0,none⟩) 0 cs.size],by rw [hm0,hm],.inr ⟨hO,.inr hO⟩,?_,?_⟩
   ·exact .cons _ _ _ _ (.ptr 0 0 g0 (show 0<2 by decide) (by show blk (Fv.upd m0 1 (.slice (some ⟨w.heap.size,0,none⟩) 0 cs.size) 0)=some g0;rw [hm0,hm];rfl)) rfl (.cons _ _ _ _ (.own 1 (show 1<2 by decide) rfl) rfl .nil)
   ·rw [hat g0 hlt]
    exact Xp w g0 _ _ _ _ hh'
  ·refine ⟨by decide,0,[],.ints _ _ (fun x hx=>by cases hx),rfl,?_,fun b hb=>?_⟩
   ·rw [hm1]
    exact ⟨by simp,.inr ⟨_,_,cs,(0,0),rfl,.inl rfl,hnew,Nat.zero_le _,hc2,(Nat.mul_one _).symm,rfl⟩⟩
   ·rw [hm1] at hb
    cases hb
    exact .inl (Nat.le_refl _)
 ·have hne:g0≠w.heap.size:=by omega
  rcases lk2 hi with ⟨rfl,rfl⟩|⟨rfl,rfl⟩<;>rcases lk2 hj with ⟨rfl,rfl⟩|⟨rfl,rfl⟩
  ·rfl
  ·rw [hm0,hm] at h1;rw [hm1] at h2;cases h1;cases h2;exact absurd rfl hne
  ·rw [hm0,hm] at h2;rw [hm1] at h1;cases h1;cases h2;exact absurd rfl hne
  ·rfl
set_option maxHeartbeats 4000000 in
theorem XJ (n:Nat) (h0:1≤n) (hn:n≤281474976710656):fA Tryz.prog 84 [.ptr 0 0,.int .i64 n] [(0,.box 89 [.raw (.pointer none),.nilS])] 1 (.tup []) [(0,.box 89 [.ptr 0 0,.own 1]),(1,.row 5 (.ints .u8 []))]:=by
 have k:=rH
 have k2:=Yl n hn
 refine fA.aG Tryz.func84 rfl (by decide) (by simp [Tryz.f84]) Ho [] rfl fun w0 T0 _=>?_
 simp only [Tryz.f84,au]
 (repeat' with_reducible first|intro _|exact dn|refine rn ?_|refine ra ?_ ?_)
 refine ah.i [0] k 1 ?_
 (repeat' with_reducible first|intro _|refine rz ?_|refine ra ?_ ?_|omega|simp only [go_sem,S.VP,qp,qF,Ea,Item.ren,ren,iW,List.getElem?_cons_zero,List.getElem?_cons_succ,List.getElem?_nil,List.filter])
 refine aN.lex [] [] (by kernel_rfl) (by kernel_rfl) ?_
 (repeat' with_reducible first|intro _|exact dn|refine rn ?_|refine ra ?_ ?_)
 refine QV.intro (.int .i64 0) ?_ ?_
 ·(repeat' with_reducible first|intro _|exact dn|refine rn ?_|refine ra ?_ ?_)
 (repeat' with_reducible first|intro _|exact dn|refine rn ?_|refine ra ?_ ?_)
 refine ah.i [0] k2 2 ?_
 (repeat' with_reducible first|intro _|exact dn|refine rn ?_|refine ra ?_ ?_)
 refine jl.of [(1,1)] 2 (by decide) (by decide) ?_ rfl ?_<;>simp only [go_sem,Int.natCast_succ]
end Go.Fv.H
/- strings.Join with nothing between. -/
namespace Go.Fv.H
open Go Go.Proofs
theorem H8 (l:List Bytes) {i:Nat} (h:i<l.length):(l.take (i+1)).flatten=(l.take i).flatten++l.getD i []:=by
 rw [List.take_succ_eq_append_getElem h,List.flatten_append,getD_lt h];simp
theorem RG (l:List Bytes) (i:Nat):(l.take i).flatten.length≤l.flatten.length:=by
 conv=>rhs;rw [←List.take_append_drop i l]
 rw [List.flatten_append,List.length_append];omega
set_option maxHeartbeats 4000000 in
theorem VQ (l:List Bytes) (hl:l.flatten.length≤5000000000) (hp:2≤l.length→0<l.flatten.length):aA Tryz.prog 115 [.ro (.strs l),.str []] (.str l.flatten) []:=by
 refine aA.aG Tryz.func115 rfl (by decide) (by simp [Tryz.f115]) [.tmp 4] rfl fun w0 T0 _=>?_
 simp only [Tryz.f115,au]
 by_cases h0:l.length=0
 ·have f0:((l.length:Int)=0)=True:=eq_true (by omega)
  have e:l=[]:=List.eq_nil_of_length_eq_zero h0
  (repeat' with_reducible first|intro _|refine rz ?_|refine ra ?_ ?_|omega|simp only [go_sem,f0])
  refine aU.auto 0 ?_ rfl ?_<;>simp only [go_sem,Int.natCast_succ,Post]
  rw [e];rfl
 have f0:((l.length:Int)=0)=False:=eq_false (by omega)
 by_cases h1:l.length=1
 ·have f1:((l.length:Int)=1)=True:=eq_true (by omega)
  obtain ⟨x,rfl⟩:∃ x,l=[x]:=List.length_eq_one_iff.1 h1
  (repeat' with_reducible first|intro _|refine rz ?_|refine ra ?_ ?_|omega|simp only [go_sem,f0,f1])
  refine aU.auto 0 ?_ rfl ?_<;>simp only [go_sem,Int.natCast_succ,Post]
  all_goals first|rfl|simp
 have f1:((l.length:Int)=1)=False:=eq_false (by omega)
 have hpos:=hp (by omega)
 (repeat' with_reducible first|intro _|refine rz ?_|refine ra ?_ ?_|omega|simp only [go_sem,f0,f1])
 refine aF.intro (fun i:Nat=>⟨75,[(41,.int .i64 i),(40,.int .i64 l.length),(39,.ro (.strs l)),(5,.int .i64 ((l.take i).flatten.length:Nat)),(1,.str []),(0,.ro (.strs l))],[],0⟩) (fun i=>i≤l.length) (fun i=>l.length - i) 0 ?_ (Nat.zero_le _) fun i hi=>?_
 ·refine aK.ak rfl ?_ ?_<;>simp only [go_sem,Int.natCast_succ]
  all_goals first|rfl|exact ⟨rfl,rfl⟩|trace_state
 by_cases hlt:i<l.length
 ·have f7:((i:Int)<(l.length:Int))=True:=eq_true (by omega)
  have hst:=congrArg List.length (H8 l hlt)
  have hle:=RG l (i+1)
  rw [List.length_append] at hst
  generalize hx:l.getD i []=x at *
  generalize hA:(l.take i).flatten.length=A at *
  generalize hA2:(l.take (i+1)).flatten.length=A2 at *
  have hAA:(A:Int)+(x.length:Int)=(A2:Int):=by omega
  have f8:((9223372036854775807:Int) - (A:Int)<(x.length:Int))=False:=eq_false (by omega)
  (repeat' with_reducible first|intro _|refine rz ?_|refine ra ?_ ?_|omega|simp only [go_sem,f7,bZ,hx,f8,hAA])
  refine ⟨i+1,aK.ak rfl ?_ ?_,by omega,by omega⟩<;>simp only [go_sem,Int.natCast_succ,hA2]
 have e:i=l.length:=by omega
 subst e
 have f7:((l.length:Int)<(l.length:Int))=False:=eq_false (by omega)
 rw [List.take_length]
 obtain ⟨z,m,rfl⟩:∃ z m,l=z::m:=by
  cases l with
  | nil=>simp at h0
  | cons x l=>exact ⟨x,l,rfl⟩
 have kg:=XJ (z::m).flatten.length hpos (by omega)
 have hfl:(z::m).flatten=z++m.flatten:=List.flatten_cons
 have hfl2:=congrArg List.length hfl
 rw [List.length_append] at hfl2
 have k1:=eF [] z (by simp) (by omega)
 rw [List.nil_append,show aj []=[] from rfl] at k1
 have hz:(z::m).getD 0 []=z:=rfl
 have htd:((z::m).drop 1).take ((z::m).length - 1)=m:=by rw [List.length_cons,Nat.add_sub_cancel];exact List.take_of_length_le (Nat.le_refl _)
 have hle:=RG m
 have hml:(z::m).length=m.length+1:=rfl
 rw [hfl] at kg
 generalize hF:(z::m).flatten=F at *
 generalize hZ:z::m=Z at *
 generalize hFl:F.length=Fl at *
 (repeat' with_reducible first|intro _|refine rz ?_|refine ra ?_ ?_|omega|simp only [go_sem,f7])
 subst hfl
 rw [←hFl]
 refine ah.i [0] kg 2 ?_
 (repeat' with_reducible first|intro _|refine rz ?_|refine ra ?_ ?_|omega|simp only [go_sem,bZ,hz])
 refine ah.i [0,1] k1 3 ?_
 (repeat' with_reducible first|intro _|refine rz ?_|refine ra ?_ ?_|omega|simp only [go_sem,htd])
 refine aF.intro (fun i:Nat=>⟨75,[(65,.int .i64 i),(64,.int .i64 m.length),(63,.ro (.strs m)),(8,.ptr 0 0),(1,.str [])],[(0,.box 89 [.ptr 0 0,.own 1]),(1,.row 5 (.ints .u8 (aj (z++(m.take i).flatten))))],2⟩) (fun i=>i≤m.length) (fun i=>m.length - i) 0 ?_ (Nat.zero_le _) fun i hi=>?_
 ·refine aK.ak rfl ?_ ?_<;>simp only [go_sem,Int.natCast_succ]
  all_goals (show aj z=aj (z++[]);rw [List.append_nil])
 have hlei:=hle i
 by_cases hlt:i<m.length
 ·have f8:((i:Int)<(m.length:Int))=True:=eq_true (by omega)
  have hst:=H8 m hlt
  have hle2:=hle (i+1)
  have hst2:=congrArg List.length hst
  rw [List.length_append] at hst2
  have k2:=eF (z++(m.take i).flatten) [] (by rw [List.length_append];omega) (by simp)
  rw [List.append_nil] at k2
  have k3:=eF (z++(m.take i).flatten) (m.getD i []) (by rw [List.length_append];omega) (by omega)
  rw [List.append_assoc,←hst] at k3
  generalize hx:m.getD i []=x at *
  (repeat' with_reducible first|intro _|refine rz ?_|refine ra ?_ ?_|omega|simp only [go_sem,f8,bZ,hx])
  refine ah.i [0,1] k2 3 ?_
  (repeat' with_reducible first|intro _|exact dn|refine rn ?_|refine ra ?_ ?_)
  refine ah.i [0,2] k3 3 ?_
  (repeat' with_reducible first|intro _|exact dn|refine rn ?_|refine ra ?_ ?_)
  refine ⟨i+1,aK.ak rfl ?_ ?_,by omega,by omega⟩<;>simp only [go_sem,Int.natCast_succ]
 have e:i=m.length:=by omega
 subst e
 have f8:((m.length:Int)<(m.length:Int))=False:=eq_false (by omega)
 rw [List.take_length]
 have k4:=gB (z++m.flatten) (by omega)
 (repeat' with_reducible first|intro _|refine rz ?_|refine ra ?_ ?_|omega|simp only [go_sem,f8])
 refine ah.i [0,1] k4 2 ?_
 (repeat' with_reducible first|intro _|exact dn|refine rn ?_|refine ra ?_ ?_)
 refine aU.auto 0 ?_ rfl ?_<;>simp only [go_sem,Int.natCast_succ,Post]
end Go.Fv.H
/- The reference's NameOf. -/
namespace Go.Fv.H
open Go Go.Proofs
def Ei (s:List UInt8) (j:Nat):Prop:=(97≤(s.getD j 0).toNat∧(s.getD j 0).toNat≤122)∨(j≠0∧((48≤(s.getD j 0).toNat∧(s.getD j 0).toNat≤57)∨(s.getD j 0).toNat=45))
theorem Io (c:UInt8):nameB c=true↔(97≤c.toNat∧c.toNat≤122)∨(48≤c.toNat∧c.toNat≤57)∨c.toNat=45:=by
 simp only [nameB,Bool.or_eq_true,Bool.and_eq_true,decide_eq_true_eq];omega
theorem PW (s:List UInt8):dA s=true↔s≠[]∧s.length≤40∧∀ j,j<s.length→Ei s j:=by
 unfold dA Ei
 simp only [Bool.and_eq_true,decide_eq_true_eq,List.all_eq_true]
 constructor
 ·rintro ⟨⟨⟨h0,h1⟩,h2⟩,h3⟩
  refine ⟨h0,h1,fun j hj=>?_⟩
  by_cases e:j=0
  ·subst e;exact .inl h2
  ·have:=h3 (s.getD j 0) (by rw [getD_lt hj];exact List.getElem_mem hj)
   rw [Io] at this
   rcases this with h|h
   ·exact .inl h
   ·exact .inr ⟨e,h⟩
 ·rintro ⟨h0,h1,h2⟩
  have hp:0<s.length:=List.length_pos_iff.2 h0
  refine ⟨⟨⟨h0,h1⟩,?_⟩,fun c hc=>?_⟩
  ·rcases h2 0 hp with h|h
   ·exact h
   ·exact absurd rfl h.1
  ·obtain ⟨j,hj,rfl⟩:=List.getElem_of_mem hc
   have:=h2 j hj
   rw [getD_lt hj] at this
   rw [Io]
   rcases this with h|h
   ·exact .inl h
   ·exact .inr h.2
set_option maxHeartbeats 1000000 in
theorem Ae (s:List UInt8):aA Tryz.prog 80 [.str s] (.bool (dA s)) []:=by
 have hi:=PW s
 refine aA.aG Tryz.func80 rfl (by decide) (by simp [Tryz.f80]) [.tmp 2] rfl fun w0 T0 _=>?_
 simp only [Tryz.f80,au]
 (repeat' with_reducible first|intro _|exact dn|refine rn ?_|refine ra ?_ ?_)
 refine aF.intro (fun i:Nat=>⟨45,[(7,.int .i64 i),(6,.int .i64 s.length),(0,.str s)],[],0⟩) (fun i=>i≤s.length∧∀ j,j<i→Ei s j) (fun i=>s.length - i) 0 ?_ ⟨Nat.zero_le _,fun j hj=>by omega⟩ fun i hI=>?_
 ·refine aK.ak rfl ?_ ?_<;>simp only [go_sem,Int.natCast_succ]
 obtain ⟨hl,hI⟩:=hI
 (repeat' with_reducible first|intro _|refine rz ?_|refine ra ?_ ?_|omega|simp only [go_sem,Int.toNat_natCast])
 ·rename_i h2
  have:dA s=false:=by
   rw [←Bool.not_eq_true,hi]
   rintro ⟨_,_,h⟩
   have:=h i (by omega)
   unfold Ei at this
   omega
  refine aU.auto 0 ?_ rfl ?_<;>simp only [go_sem,Int.natCast_succ,Post,this]
 ·rename_i h2
  refine ⟨i+1,aK.ak rfl ?_ ?_,⟨by omega,fun j hj=>?_⟩,by omega⟩
  ·simp only [go_sem,Int.natCast_succ]
  ·simp only [go_sem,Int.natCast_succ]
  ·by_cases e:j=i
   ·subst e;unfold Ei;omega
   ·exact hI j (by omega)
 all_goals
  have e:dA s=decide (¬s=[]∧(s.length:Int)≤40):=by
   rw [Bool.eq_iff_iff,decide_eq_true_eq,hi]
   exact ⟨fun h=>⟨h.1,by omega⟩,fun h=>⟨h.1,by omega,fun j hj=>hI j (by omega)⟩⟩
  refine aU.auto 0 ?_ rfl ?_<;>simp only [go_sem,Int.natCast_succ,Post,e]
end Go.Fv.H
/- The reference's packed, encoded, PackAll: the walk. -/
namespace Go.Fv.H
open Go Go.Proofs
structure NQ where
 (n:Bytes) (q:Option (Int × Int × List Bool))
def NQ.av (x:NQ):List AV:=match x.q with
 | none=>[.str x.n,.int .i64 0,.int .i64 0,.nilS]
 | some (w,h,p)=>[.str x.n,.int .i64 w,.int .i64 h,.ro (.bools p)]
def NQ.zero:NQ:=⟨[],none⟩
abbrev nqs (l:List NQ):aP:=.objs 4 (l.map NQ.av)
instance:G9 NQ.av:=⟨fun x=>by unfold NQ.av;split<;>rfl⟩
def NP.toQ (x:NP):NQ:=⟨x.n,some (x.W,x.H,x.p)⟩
theorem YB (l:List NP):nqs (l.map NP.toQ)=OI l:=by unfold nqs OI;rw [List.map_map];rfl
theorem DZ (l:List (Bytes × Bytes)):(l.map Prod.snd).flatten=jD l:=rfl
theorem JL (n k:Nat) (hn:n≤1000000000000) (hk:k≤8):aA Tryz.prog 64 [.int .i64 n,.int .i64 k] (.str (bV k n)) []:=qR n n k (.inl rfl) (by omega) (by omega) hk
set_option maxHeartbeats 4000000 in
theorem P9 (m:List (Bytes × Bytes)) (l:List NQ) (hq:l.map NQ.n=m.map Prod.fst) (h:aaG m) (hp:2≤m.length→0<(jD m).length):aA Tryz.prog 82 [.ro (nqs l),.ro (.strs (m.map Prod.snd))] (.str (iM m)) []:=by
 have hm:=h.many
 have hlong:=h.long
 have hlm:l.length=m.length:=by have:=congrArg List.length hq;simpa using this
 have kb0:aA Tryz.prog 64 [.int .i64 l.length,.int .i64 2] (.str (bV 2 l.length)) []:=JL l.length 2 (by omega) (by omega)
 have hP:=RQ h.name
 rw [hlm] at kb0
 have hb2:=aQ 2 m.length
 have h00:UY m 0=70::66::65::49::bV 2 m.length:=by unfold UY;rw [List.take_zero,List.flatMap_nil,List.append_nil];rfl
 refine aA.aG Tryz.func82 rfl (by decide) (by simp [Tryz.f82]) [.tmp 4] rfl fun w0 T0 _=>?_
 simp only [Tryz.f82,au]
 generalize hB2:bV 2 m.length=B2 at *
 (repeat' with_reducible first|intro _|refine rz ?_|refine ra ?_ ?_|omega|simp only [go_sem,List.length_map,hlm])
 refine ah.k kb0 ?_
 (repeat' with_reducible first|intro _|refine rz ?_|refine ra ?_ ?_|omega|simp only [go_sem,List.length_map,hlm])
 refine aF.intro (fun i:Nat=>⟨43,[(14,.int .i64 i),(13,.int .i64 m.length),(12,.ro (nqs l)),(5,.str (UY m i)),(1,.ro (.strs (m.map Prod.snd)))],[],0⟩) (fun i=>i≤m.length) (fun i=>m.length - i) 0 ?_ (Nat.zero_le _) fun i hi=>?_
 ·refine aK.ak rfl ?_ ?_<;>simp only [go_sem,Int.natCast_succ,h00]
 have hPi:=hP i hi
 have hP2:(UY m i).length≤1000000000:=by have:i*(1000+5)≤70000*(1000+5):=Nat.mul_le_mul_right _ (by omega);omega
 by_cases hlt:i<m.length
 ·have f7:((i:Int)<(m.length:Int))=True:=eq_true (by omega)
  have hst:=Md m hlt
  have hn:=h.name (m.getD i ([],[])) (by rw [getD_lt hlt];exact List.getElem_mem hlt)
  have hc:=h.code (m.getD i ([],[])) (by rw [getD_lt hlt];exact List.getElem_mem hlt)
  have hcd:(m.map Prod.snd).getD i []=(m.getD i ([],[])).2:=by
   rw [List.getD_eq_getElem?_getD,List.getD_eq_getElem?_getD,List.getElem?_map]
   cases m[i]?<;>rfl
  have hnm:(l.getD i NQ.zero).n=(m.getD i ([],[])).1:=by
   have:=congrArg (fun z=>List.getD z i []) hq
   rw [List.getD_eq_getElem?_getD,List.getD_eq_getElem?_getD,List.getElem?_map,List.getElem?_map] at this
   rw [List.getD_eq_getElem?_getD,List.getD_eq_getElem?_getD]
   rw [List.getElem?_eq_getElem (show i<l.length by omega),List.getElem?_eq_getElem hlt] at this ⊢
   exact this
  have hee:(l.map NQ.av).getD i []=(l.getD i NQ.zero).av:=by
   rw [List.getD_eq_getElem?_getD,List.getD_eq_getElem?_getD,List.getElem?_map,List.getElem?_eq_getElem (show i<l.length by omega)];rfl
  generalize l.getD i NQ.zero=y at *
  generalize m.getD i ([],[])=x at *
  obtain ⟨xn,xd⟩:=x
  obtain ⟨yn,yq⟩:=y
  dsimp only at hst hn hc hcd hnm
  subst hnm
  have k1:aA Tryz.prog 64 [.int .i64 yn.length,.int .i64 1] (.str (bV 1 yn.length)) []:=JL yn.length 1 (by omega) (by omega)
  have k4:aA Tryz.prog 64 [.int .i64 xd.length,.int .i64 4] (.str (bV 4 xd.length)) []:=JL xd.length 4 (by omega) (by omega)
  have b1:=aQ 1 yn.length
  have b4:=aQ 4 xd.length
  generalize bV 1 yn.length=B1 at *
  generalize bV 4 xd.length=B4 at *
  generalize UY m i=P at *
  cases yq with
  | none=>
   replace hee:(l.map NQ.av).getD i []=[.str yn,.int .i64 0,.int .i64 0,.nilS]:=hee
   (repeat' with_reducible first|intro _|refine rz ?_|refine ra ?_ ?_|omega|simp only [go_sem,f7,hee,bZ,List.length_map,hlm])
   refine aN.lex [] [] (by kernel_rfl) (by kernel_rfl) ?_
   (repeat' with_reducible first|intro _|exact dn|refine rn ?_|refine ra ?_ ?_)
   (refine QV.intro (.str B1) ?_ ?_;focus ((repeat' with_reducible first|intro _|exact dn|refine rn ?_|refine ra ?_ ?_);refine ah.k (k1) ?_;(repeat' with_reducible first|intro _|exact dn|refine rn ?_|refine ra ?_ ?_)))
   (repeat' with_reducible first|intro _|refine rz ?_|refine ra ?_ ?_|omega|simp only [go_sem,bZ,hcd,List.length_map])
   (refine QV.intro (.str B4) ?_ ?_;focus ((repeat' with_reducible first|intro _|exact dn|refine rn ?_|refine ra ?_ ?_);refine ah.k (k4) ?_;(repeat' with_reducible first|intro _|exact dn|refine rn ?_|refine ra ?_ ?_)))
   (repeat' with_reducible first|intro _|exact dn|refine rn ?_|refine ra ?_ ?_)
   refine ⟨i+1,aK.ak rfl ?_ ?_,by omega,by omega⟩<;>simp only [go_sem,Int.natCast_succ,hst]
  | some z=>
   obtain ⟨w,hh,p⟩:=z
   replace hee:(l.map NQ.av).getD i []=[.str yn,.int .i64 w,.int .i64 hh,.ro (.bools p)]:=hee
   (repeat' with_reducible first|intro _|refine rz ?_|refine ra ?_ ?_|omega|simp only [go_sem,f7,hee,bZ,List.length_map,hlm])
   refine aN.lex [] [] (by kernel_rfl) (by kernel_rfl) ?_
   (repeat' with_reducible first|intro _|exact dn|refine rn ?_|refine ra ?_ ?_)
   (refine QV.intro (.str B1) ?_ ?_;focus ((repeat' with_reducible first|intro _|exact dn|refine rn ?_|refine ra ?_ ?_);refine ah.k (k1) ?_;(repeat' with_reducible first|intro _|exact dn|refine rn ?_|refine ra ?_ ?_)))
   (repeat' with_reducible first|intro _|refine rz ?_|refine ra ?_ ?_|omega|simp only [go_sem,bZ,hcd,List.length_map])
   (refine QV.intro (.str B4) ?_ ?_;focus ((repeat' with_reducible first|intro _|exact dn|refine rn ?_|refine ra ?_ ?_);refine ah.k (k4) ?_;(repeat' with_reducible first|intro _|exact dn|refine rn ?_|refine ra ?_ ?_)))
   (repeat' with_reducible first|intro _|exact dn|refine rn ?_|refine ra ?_ ?_)
   refine ⟨i+1,aK.ak rfl ?_ ?_,by omega,by omega⟩<;>simp only [go_sem,Int.natCast_succ,hst]
 have e:i=m.length:=by omega
 subst e
 have f7:((m.length:Int)<(m.length:Int))=False:=eq_false (by omega)
 rw [Ym] at hP2 ⊢
 have ks:=iC (hdB m) (by omega)
 have kj:=VQ (m.map Prod.snd) (by rw [DZ];omega) (by rw [DZ,List.length_map];exact hp)
 rw [DZ] at kj
 have hA:iM m=hdB m++jD m++bY (hdB m):=by unfold iM;rw [List.append_assoc]
 have hsl:=mJ (hdB m)
 rw [hA]
 generalize hdB m=P at *
 generalize bY P=S at *
 generalize jD m=C at *
 (repeat' with_reducible first|intro _|refine rz ?_|refine ra ?_ ?_|omega|simp only [go_sem,f7])
 refine ah.k kj ?_
 (repeat' with_reducible first|intro _|exact dn|refine rn ?_|refine ra ?_ ?_)
 refine ah.k ks ?_
 (repeat' with_reducible first|intro _|exact dn|refine rn ?_|refine ra ?_ ?_)
 refine aU.auto 0 ?_ rfl ?_<;>simp only [go_sem,Int.natCast_succ,Post]
theorem Pm (x:NP) (h:x.Ok) (kind:Int) (hk:1≤kind∧kind≤5):aA Tryz.prog 81 [.agg [.int .i64 x.W,.int .i64 x.H,.ro (.bools x.p)],.int .i64 kind] (.str (yh kind x)) []:=by
 have kb:=Ob _ _ _ h
 obtain ⟨w1,w2⟩:=h.w
 refine aA.aG Tryz.func81 rfl (by decide) (by simp [Tryz.f81]) [.tmp 4] rfl fun w0 T0 _=>?_
 simp only [Tryz.f81,au]
 unfold yh
 by_cases h5:kind=5
 ·have f9:(kind=5)=True:=eq_true h5
  rw [if_pos h5]
  rw [w1,w2] at kb
  generalize iZ x.W.toNat x.H.toNat x.p 4=B at *
  (repeat' with_reducible first|intro _|refine rz ?_|refine ra ?_ ?_|omega|simp only [go_sem,f9])
  refine ah.k kb ?_
  (repeat' with_reducible first|intro _|exact dn|refine rn ?_|refine ra ?_ ?_)
  refine aU.auto 0 ?_ rfl ?_<;>simp only [go_sem,Int.natCast_succ,Post]
 ·have f9:(kind=5)=False:=eq_false h5
  have ke:=nS _ _ h.w0 h.w1 h.h1 h.wh x.p h.p kind (by omega)
  rw [if_neg h5]
  rw [w1,w2] at ke
  generalize dY x.W.toNat x.H.toNat x.p kind=B at *
  (repeat' with_reducible first|intro _|refine rz ?_|refine ra ?_ ?_|omega|simp only [go_sem,f9])
  refine ah.k ke ?_
  (repeat' with_reducible first|intro _|exact dn|refine rn ?_|refine ra ?_ ?_)
  refine aU.auto 0 ?_ rfl ?_<;>simp only [go_sem,Int.natCast_succ,Post]
theorem wU (x y:Int):eu [x,y]=if x=0 then y else x:=by
 unfold eu
 split
 ·unfold eu
  split
  ·rename_i h;rw [h];rfl
  ·rfl
 ·rfl
theorem X4 {l:List NP} {kind:Int} (h:xW l) (hk:1≤kind∧kind≤5):2≤(qo kind l).length→0<(jD (qo kind l)).length:=by
 intro hl
 cases l with
 | nil=>cases hl
 | cons x l=>
  have:=(DY hk (h.ok x List.mem_cons_self)).1
  show 0<(yh kind x++jD (qo kind l)).length
  rw [List.length_append];omega
set_option maxHeartbeats 8000000 in
theorem P8 (l:List NP) (kind:Int):aA Tryz.prog 34 [.ro (OI l),.int .i64 kind] (.tup [.str (iq l kind).1,.int .i64 (iq l kind).2]) []:=by
 obtain ⟨R,hR⟩:∃ R,iq l kind=R:=⟨_,rfl⟩
 rw [hR]
 unfold iq at hR
 obtain ⟨E,hE⟩:∃ E,pkE l kind=E:=⟨_,rfl⟩
 rw [hE] at hR
 have hE0:=hE
 unfold pkE at hE
 refine aA.aG Tryz.func34 rfl (by decide) (by simp [Tryz.f34]) [.tmp 4,.tmp 5] rfl fun w0 T0 _=>?_
 simp only [Tryz.f34,au]
 by_cases h1:500<l.length
 ·have f1:((500:Int)<(l.length:Int))=True:=eq_true (by omega)
  rw [if_pos h1] at hE
  rw [if_pos (by omega)] at hR
  rw [←hR,←hE]
  (repeat' with_reducible first|intro _|refine rz ?_|refine ra ?_ ?_|omega|simp only [go_sem,List.length_map,f1])
  refine aU.auto 0 ?_ rfl ?_<;>simp only [go_sem,Int.natCast_succ,Post]
 have f1:((500:Int)<(l.length:Int))=False:=eq_false (by omega)
 rw [if_neg h1] at hE
 (repeat' with_reducible first|intro _|refine rz ?_|refine ra ?_ ?_|omega|simp only [go_sem,List.length_map,f1])
 refine aF.intro (fun j:Nat=>⟨77,[(20,.int .i64 j),(19,.int .i64 l.length),(18,.ro (OI l)),(6,.own 0),(1,.int .i64 kind),(0,.ro (OI l))],[(0,.map (((l.map NP.n).take j).map .str) (((l.map NP.n).take j).map fun _=>.bool true))],1⟩) (fun j=>j≤l.length∧Gl l j=0) (fun j=>l.length - j) 0 ?_ ⟨Nat.zero_le _,rfl⟩ fun j hj=>?_
 ·refine aK.ak rfl ?_ ?_<;>simp only [go_sem,Int.natCast_succ]
  all_goals first|rfl|exact ⟨rfl,rfl⟩|trace_state
 obtain ⟨hj1,hj2⟩:=hj
 by_cases hlt:j<l.length
 ·have f7:((j:Int)<(l.length:Int))=True:=eq_true (by omega)
  have hst:Gl l (j+1)=if Gl l j≠0 then Gl l j else if dA (l.getD j NP.zero).n=true then (if (l.getD j NP.zero).n∈(l.take j).map NP.n then 6 else ZV (l.getD j NP.zero)) else 5:=rfl
  have hle:=@WE l (j+1) l.length
  have hee:=yU l hlt
  have htk:(l.map NP.n).take (j+1)=(l.map NP.n).take j++[(l.getD j NP.zero).n]:=by
   have hjl:j<(l.map NP.n).length:=by rw [List.length_map];exact hlt
   rw [List.take_succ_eq_append_getElem hjl,List.getElem_map,getD_lt hlt]
  rw [hj2,if_neg (by simp),List.map_take] at hst
  have kc:=Ql (l.getD j NP.zero).W (l.getD j NP.zero).H (l.getD j NP.zero).p
  have hnp:ZV (l.getD j NP.zero)=vC (l.getD j NP.zero).W (l.getD j NP.zero).H (l.getD j NP.zero).p.length:=rfl
  generalize l.getD j NP.zero=x at *
  obtain ⟨xn,xw,xh,xp⟩:=x
  dsimp only at hst hee htk kc hnp
  rw [←hnp] at kc
  generalize ZV ⟨xn,xw,xh,xp⟩=B at *
  have kn:=Ae xn
  (repeat' with_reducible first|intro _|refine rz ?_|refine ra ?_ ?_|omega|simp only [go_sem,f7,hee,bZ,List.length_map])
  refine ah.k kn ?_
  cases hn:dA xn with
  | false=>
   rw [hn,if_neg (by decide)] at hst
   have h0:=hle (by rw [hst];decide) (by omega)
   rw [h0,hst,if_pos (by decide)] at hE
   rw [if_pos (by omega)] at hR
   rw [←hR,←hE]
   have kw:=nV true 5
   rw [if_pos rfl] at kw
   have kf:=oL [5,B] (by simp)
   rw [wU,if_neg (by decide)] at kf
   (repeat' with_reducible first|intro _|exact dn|refine rn ?_|refine ra ?_ ?_)
   refine ah.k kw ?_
   (repeat' with_reducible first|intro _|exact dn|refine rn ?_|refine ra ?_ ?_)
   refine ah.k kc ?_
   (repeat' with_reducible first|intro _|exact dn|refine rn ?_|refine ra ?_ ?_)
   refine ah.k kf ?_
   (repeat' with_reducible first|intro _|exact dn|refine rn ?_|refine ra ?_ ?_)
   refine aU.auto 0 ?_ rfl ?_<;>simp only [go_sem,Int.natCast_succ,Post]
  | true=>
   rw [hn,if_pos rfl] at hst
   have kw:=nV false 5
   rw [if_neg (by decide)] at kw
   have g:=qE ((l.map NP.n).take j) xn
   by_cases hd:xn∈(l.map NP.n).take j
   ·rw [if_pos hd] at hst
    have h0:=hle (by rw [hst];decide) (by omega)
    rw [h0,hst,if_pos (by decide)] at hE
    rw [if_pos (by omega)] at hR
    rw [←hR,←hE]
    rw [decide_eq_true hd] at g
    have kf:=oL [6,B] (by simp)
    rw [wU,if_neg (by decide)] at kf
    (repeat' with_reducible first|intro _|exact dn|refine rn ?_|refine ra ?_ ?_)
    refine ah.k kw ?_
    (repeat' with_reducible first|intro _|refine rz ?_|refine ra ?_ ?_|omega|simp only [go_sem,g])
    refine ah.k kc ?_
    (repeat' with_reducible first|intro _|exact dn|refine rn ?_|refine ra ?_ ?_)
    refine ah.k kf ?_
    (repeat' with_reducible first|intro _|exact dn|refine rn ?_|refine ra ?_ ?_)
    refine aU.auto 0 ?_ rfl ?_<;>simp only [go_sem,Int.natCast_succ,Post]
   ·rw [if_neg hd] at hst
    rw [decide_eq_false hd] at g
    have hins:BZ ((l.map NP.n).take j) xn=(l.map NP.n).take (j+1):=by unfold BZ;rw [if_neg hd,htk]
    have kf:=oL [0,B] (by simp)
    rw [wU,if_pos rfl] at kf
    (repeat' with_reducible first|intro _|exact dn|refine rn ?_|refine ra ?_ ?_)
    refine ah.k kw ?_
    (repeat' with_reducible first|intro _|refine rz ?_|refine ra ?_ ?_|omega|simp only [go_sem,g])
    refine ah.k kc ?_
    (repeat' with_reducible first|intro _|exact dn|refine rn ?_|refine ra ?_ ?_)
    refine ah.k kf ?_
    by_cases h0:B=0
    ·have f8:(B=0)=True:=eq_true h0
     (repeat' with_reducible first|intro _|refine rz ?_|refine ra ?_ ?_|omega|simp only [go_sem,f8])
     refine ⟨j+1,aK.ak rfl ?_ ?_,⟨by omega,by rw [hst];exact h0⟩,by omega⟩<;>simp only [go_sem,Int.natCast_succ,hins]
    ·have f8:(B=0)=False:=eq_false h0
     have h9:=hle (by rw [hst];exact h0) (by omega)
     rw [h9,hst,if_pos h0] at hE
     rw [if_pos (by omega)] at hR
     rw [←hR,←hE]
     (repeat' with_reducible first|intro _|refine rz ?_|refine ra ?_ ?_|omega|simp only [go_sem,f8])
     refine aU.auto 0 ?_ rfl ?_<;>simp only [go_sem,Int.natCast_succ,Post]
 have e:j=l.length:=by omega
 subst e
 have f7:((l.length:Int)<(l.length:Int))=False:=eq_false (by omega)
 rw [if_neg (by rw [hj2];simp)] at hE
 by_cases hk:1≤kind∧kind≤5
 rotate_left
 ·rw [if_neg hk] at hE
  rw [if_pos (by omega)] at hR
  rw [←hR,←hE]
  by_cases hk1:kind<1
  ·have f8:(kind<1)=True:=eq_true hk1
   (repeat' with_reducible first|intro _|refine rz ?_|refine ra ?_ ?_|omega|simp only [go_sem,f7,f8])
   refine aU.auto 0 ?_ rfl ?_<;>simp only [go_sem,Int.natCast_succ,Post]
  ·have f8:(kind<1)=False:=eq_false hk1
   have f9:(5<kind)=True:=eq_true (by omega)
   (repeat' with_reducible first|intro _|refine rz ?_|refine ra ?_ ?_|omega|simp only [go_sem,f7,f8,f9])
   refine aU.auto 0 ?_ rfl ?_<;>simp only [go_sem,Int.natCast_succ,Post]
 rw [if_pos hk] at hE
 rw [←hE] at hE0
 obtain ⟨hP,hl5,_⟩:=WI hE0
 rw [if_neg (by omega)] at hR
 have f8:(kind<1)=False:=eq_false (by omega)
 have f9:(5<kind)=False:=eq_false (by omega)
 (repeat' with_reducible first|intro _|refine rz ?_|refine ra ?_ ?_|omega|simp only [go_sem,f7,f8,f9,List.length_map])
 refine aF.intro (fun i:Nat=>⟨77,[(58,.int .i64 i),(57,.int .i64 l.length),(56,.ro (OI l)),(10,.own 0),(1,.int .i64 kind),(0,.ro (OI l))],[(0,.row 9 (.strs ((qo kind (l.take i)).map Prod.snd)))],1⟩) (fun i=>i≤l.length) (fun i=>l.length - i) 0 ?_ (Nat.zero_le _) fun i hi=>?_
 ·refine aK.ak rfl ?_ ?_<;>simp only [go_sem,Int.natCast_succ]
  all_goals first|rfl|exact ⟨rfl,rfl⟩|trace_state
 have hcl:((qo kind (l.take i)).map Prod.snd).length=i:=by rw [List.length_map,yg,List.length_take];omega
 by_cases hlt:i<l.length
 ·have f7:((i:Int)<(l.length:Int))=True:=eq_true (by omega)
  have hee:=yU l hlt
  have hst:=congrArg (List.map Prod.snd) (Vm kind hlt)
  rw [List.map_append] at hst
  have hxo:=hP.ok (l.getD i NP.zero) (by rw [getD_lt hlt];exact List.getElem_mem hlt)
  have kd:=Pm (l.getD i NP.zero) hxo kind hk
  generalize hx:l.getD i NP.zero=x at *
  generalize hD:yh kind x=D at *
  obtain ⟨xn,xw,xh,xp⟩:=x
  dsimp only at hee kd
  replace hst:(qo kind (l.take (i+1))).map Prod.snd=(qo kind (l.take i)).map Prod.snd++[D]:=hst
  generalize (qo kind (l.take i)).map Prod.snd=A at *
  (repeat' with_reducible first|intro _|refine rz ?_|refine ra ?_ ?_|omega|simp only [go_sem,f7,hee,bZ,List.length_map])
  refine ah.k kd ?_
  (repeat' with_reducible first|intro _|refine rz ?_|refine ra ?_ ?_|omega|simp only [go_sem,hcl])
  refine ⟨i+1,aK.ak rfl ?_ ?_,by omega,by omega⟩<;>simp only [go_sem,Int.natCast_succ,hst]
 have e:i=l.length:=by omega
 subst e
 have f7:((l.length:Int)<(l.length:Int))=False:=eq_false (by omega)
 rw [List.take_length]
 have kp:=P9 (qo kind l) (l.map NP.toQ) (by unfold qo;rw [List.map_map,List.map_map];rfl) (Zy hP hl5 hk) (X4 hP hk)
 rw [YB] at kp
 generalize iM (qo kind l)=A at *
 (repeat' with_reducible first|intro _|refine rz ?_|refine ra ?_ ?_|omega|simp only [go_sem,f7])
 refine ah.k kp ?_
 by_cases h4:4194304<A.length
 ·have f8:((4194304:Int)<(A.length:Int))=True:=eq_true (by omega)
  rw [if_pos h4] at hR
  rw [←hR]
  (repeat' with_reducible first|intro _|refine rz ?_|refine ra ?_ ?_|omega|simp only [go_sem,f8])
  refine aU.auto 0 ?_ rfl ?_<;>simp only [go_sem,Int.natCast_succ,Post]
 ·have f8:((4194304:Int)<(A.length:Int))=False:=eq_false (by omega)
  rw [if_neg h4] at hR
  rw [←hR]
  (repeat' with_reducible first|intro _|refine rz ?_|refine ra ?_ ?_|omega|simp only [go_sem,f8])
  refine aU.auto 0 ?_ rfl ?_<;>simp only [go_sem,Int.natCast_succ,Post]
end Go.Fv.H
