/-
  A part of the proof of the claim: walks over the program's functions and the plain laws that these need. No condition of its own.
-/
import Derived.Test.YtodlgmmbfbiilaaGreatDoorHArcCCardPart14
import Derived.Test.YtodlgmmbfbiilaaGreatDoorHArcCCardPart7
import Derived.Test.YtodlgmmbfbiilaaGreatDoorHArcCCardPart9
import Derived.Test.YtodlgmmbfbiilaaGreatDoorHArcCCardPart13
import Derived.Test.YtodlgmmbfbiilaaGreatDoorHArcCCardPart1
set_option linter.unusedSimpArgs false
set_option linter.unusedVariables false
set_option linter.unnecessarySimpa false
set_option maxRecDepth 8000
/- The reference's ListOf: the walk. -/
namespace Go.Fv.H
open Go Go.Proofs
def en0 (l:List (Bytes × Nat)):List En:=l.map fun x=>⟨x.1,0,x.2⟩
theorem CO (l:List (Bytes × Nat)):(en0 l).length=l.length:=List.length_map _
def wZ (l:List (Bytes × Nat)) (a j:Nat):List En:=(fO l a).take j++(en0 l).drop j
theorem MR (l:List (Bytes × Nat)) (a:Nat) {j:Nat} (h:j≤l.length):(wZ l a j).length=l.length:=by
 unfold wZ
 rw [List.length_append,List.length_take,List.length_drop,fF,CO];omega
theorem LV:∀ (l:List (Bytes × Nat)) (a j:Nat),j<l.length→(fO l a).getD j En.zero=⟨(l.getD j ([],0)).1,a+dO (l.take j),(l.getD j ([],0)).2⟩
 | x::l,a,0,_=>rfl
 | x::l,a,j+1,h=>by
  have ih:=LV l (a+x.2) j (by simpa using h)
  show (fO l (a+x.2)).getD j En.zero=_
  rw [ih]
  have e:a+x.2+dO (l.take j)=a+dO ((x::l).take (j+1)):=by unfold dO;simp;omega
  rw [e];rfl
theorem Yx (l:List (Bytes × Nat)) (a:Nat) {j:Nat} (h:j<l.length):(wZ l a j).getD j En.zero=⟨(l.getD j ([],0)).1,0,(l.getD j ([],0)).2⟩:=by
 unfold wZ
 have h1:=fF l a
 rw [List.getD_eq_getElem?_getD,List.getElem?_append_right (by rw [List.length_take];omega),List.length_take,List.getElem?_drop,h1,Nat.min_eq_left (by omega),Nat.sub_self,Nat.add_zero]
 unfold en0
 rw [List.getElem?_map,List.getD_eq_getElem?_getD]
 simp [h]
theorem Wj (l:List (Bytes × Nat)) (a:Nat) {j:Nat} (h:j<l.length):(wZ l a j).set j ⟨(l.getD j ([],0)).1,a+dO (l.take j),(l.getD j ([],0)).2⟩=wZ l a (j+1):=by
 have h1:=fF l a
 have h2:=CO l
 rw [←LV l a j h]
 have hj:j<(fO l a).length:=by omega
 have e2:(fO l a).getD j En.zero=(fO l a)[j]:=by simp [List.getD_eq_getElem?_getD,hj]
 rw [e2]
 unfold wZ
 rw [List.set_append_right _ _ (by rw [List.length_take];omega),List.length_take,Nat.min_eq_left (by omega),Nat.sub_self,List.drop_eq_getElem_cons (show j<(en0 l).length by omega),List.set_cons_zero,List.take_succ_eq_append_getElem hj,List.append_assoc]
 rfl
theorem UO (l:List (Bytes × Nat)) {j:Nat} (h:j<l.length):dO (l.take (j+1))=dO (l.take j)+(l.getD j ([],0)).2:=by
 rw [List.take_succ_eq_append_getElem h,AA]
 simp [List.getD_eq_getElem?_getD,h]
theorem YU (l:List (Bytes × Nat)) (j:Nat):dO (l.take j)≤dO l:=by
 conv=>rhs;rw [←List.take_append_drop j l]
 unfold dO
 rw [List.map_append,List.sum_append];omega
set_option maxHeartbeats 8000000 in
theorem Qm (s:Bytes) (hs:s.length≤140737488351232):aA Tryz.prog 40 [.str s] (.tup [.own 0,.int .i64 (aZ s).2]) [(0,.row 75 (CP (aZ s).1))]:=by
 refine aA.aG Tryz.func40 rfl (by decide) (by simp [Tryz.f40]) [.tmp 2,.tmp 3] rfl fun w0 T0 _=>?_
 simp only [Tryz.f40,au]
 by_cases h1:4194304<s.length
 ·have f1:((4194304:Int)<(s.length:Int))=True:=eq_true (by omega)
  have e:aZ s=([],4):=by unfold aZ;rw [if_pos h1]
  rw [e]
  (repeat' with_reducible first|intro _|refine rz ?_|refine ra ?_ ?_|omega|simp only [go_sem,f1])
  refine aU.auto 1 ?_ rfl ?_<;>simp only [go_sem,Int.natCast_succ,Post]
 have f1:((4194304:Int)<(s.length:Int))=False:=eq_false (by omega)
 have kt1:fA Tryz.prog 91 [.int .i64 4,.ptr 0 0,.ptr 1 0,.ptr 2 0] [(0,.box 9 [.str s]),(1,.box 3 [.int .i64 0]),(2,.box 4 [.bool false])] 3 (.str (iT s 0 false 4).t) [(0,.box 9 [.str s]),(1,.box 3 [.int .i64 (iT s 0 false 4).a]),(2,.box 4 [.bool (iT s 0 false 4).sh])]:=FT s 0 false 4 (by omega) (by omega) (by omega)
 by_cases h2:s.length<4
 ·have e:aZ s=([],8):=by unfold aZ;rw [if_neg h1,if_pos (.inl (by omega))]
  have e4:iT s 0 false 4=⟨List.replicate 4 0,0,true⟩:=by unfold iT;rw [if_pos (by omega)]
  rw [e4] at kt1
  rw [e]
  have f3:((List.replicate 4 0:Bytes)=[70,66,65,49])=False:=eq_false (by decide)
  (repeat' with_reducible first|intro _|refine rz ?_|refine ra ?_ ?_|omega|simp only [go_sem,f1])
  refine ah.i [0,2,3] kt1 3 ?_
  (repeat' with_reducible first|intro _|refine rz ?_|refine ra ?_ ?_|omega|simp only [go_sem,f3])
  refine aU.auto 1 ?_ rfl ?_<;>simp only [go_sem,Int.natCast_succ,Post]
 have e4:iT s 0 false 4=⟨s.take 4,4,false⟩:=by unfold iT;rw [if_neg (by omega)];rfl
 rw [e4] at kt1
 by_cases h3:s.take 4=mY
 rotate_left
 ·have e:aZ s=([],8):=by unfold aZ;rw [if_neg h1,if_pos (.inr h3)]
  have f3:(s.take 4=[70,66,65,49])=False:=eq_false h3
  rw [e]
  (repeat' with_reducible first|intro _|refine rz ?_|refine ra ?_ ?_|omega|simp only [go_sem,f1])
  refine ah.i [0,2,3] kt1 3 ?_
  (repeat' with_reducible first|intro _|refine rz ?_|refine ra ?_ ?_|omega|simp only [go_sem,f3])
  refine aU.auto 1 ?_ rfl ?_<;>simp only [go_sem,Int.natCast_succ,Post]
 have f3:(s.take 4=[70,66,65,49])=True:=eq_true h3
 have kt2:fA Tryz.prog 91 [.int .i64 2,.ptr 0 0,.ptr 1 0,.ptr 2 0] [(0,.box 9 [.str s]),(1,.box 3 [.int .i64 4]),(2,.box 4 [.bool false])] 3 (.str (iT s 4 false 2).t) [(0,.box 9 [.str s]),(1,.box 3 [.int .i64 (iT s 4 false 2).a]),(2,.box 4 [.bool (iT s 4 false 2).sh])]:=FT s 4 false 2 (by omega) (by omega) (by omega)
 have kb:=bC (iT s 4 false 2).t (by have:=Kq s 4 false 2;omega)
 by_cases h6:s.length<6
 ·have e:aZ s=([],8):=by unfold aZ;rw [if_neg h1,if_pos (.inl h6)]
  have e5:iT s 4 false 2=⟨List.replicate 2 0,4,true⟩:=by unfold iT;rw [if_pos (by omega)]
  rw [e5] at kt2 kb
  have e6:((aT (List.replicate 2 0):Nat):Int)=0:=by decide
  rw [e6] at kb
  rw [e]
  (repeat' with_reducible first|intro _|refine rz ?_|refine ra ?_ ?_|omega|simp only [go_sem,f1])
  refine ah.i [0,2,3] kt1 3 ?_
  (repeat' with_reducible first|intro _|refine rz ?_|refine ra ?_ ?_|omega|simp only [go_sem,f3])
  refine ah.i [0,2,3] kt2 3 ?_
  (repeat' with_reducible first|intro _|exact dn|refine rn ?_|refine ra ?_ ?_)
  refine ah.k kb ?_
  (repeat' with_reducible first|intro _|exact dn|refine rn ?_|refine ra ?_ ?_)
  refine aF.intro (fun _:Nat=>⟨104,[(24,.int .i64 0),(23,.int .i64 0),(7,.own 3),(6,.fn 91 [.ptr 0 0,.ptr 1 0,.ptr 2 0]),(5,.ptr 2 0),(4,.ptr 1 0),(1,.ptr 0 0)],[(0,.box 9 [.str s]),(1,.box 3 [.int .i64 4]),(2,.box 4 [.bool true]),(3,.row 75 (CP []))],4⟩) (fun _=>True) (fun i=>i) 0 ?_ trivial fun i _=>?_
  ·refine aK.ak rfl ?_ ?_<;>simp only [go_sem,Int.natCast_succ]
   all_goals first|rfl|exact ⟨rfl,rfl⟩|trace_state
  (repeat' with_reducible first|intro _|exact dn|refine rn ?_|refine ra ?_ ?_)
  refine aU.auto 1 ?_ rfl ?_<;>simp only [go_sem,Int.natCast_succ,Post]
 have e5:iT s 4 false 2=⟨(s.drop 4).take 2,6,false⟩:=by unfold iT;rw [if_neg (by omega)]
 rw [e5] at kt2 kb
 have hm:=ZX (s:=(s.drop 4).take 2) (List.length_take_le _ _)
 obtain ⟨M,hM⟩:∃ M,aT ((s.drop 4).take 2)=M:=⟨_,rfl⟩
 dsimp only at kb
 rw [hM] at kb hm
 (repeat' with_reducible first|intro _|refine rz ?_|refine ra ?_ ?_|omega|simp only [go_sem,f1])
 refine ah.i [0,2,3] kt1 3 ?_
 (repeat' with_reducible first|intro _|refine rz ?_|refine ra ?_ ?_|omega|simp only [go_sem,f3])
 refine ah.i [0,2,3] kt2 3 ?_
 (repeat' with_reducible first|intro _|exact dn|refine rn ?_|refine ra ?_ ?_)
 refine ah.k kb ?_
 (repeat' with_reducible first|intro _|exact dn|refine rn ?_|refine ra ?_ ?_)
 have hls:=fun i=>Ih (s:=s) (by omega) i
 have hN:MP s=M:=hM
 refine aF.intro (fun x:Nat × LS=>⟨104,[(24,.int .i64 x.1),(23,.int .i64 M),(7,.own 3),(6,.fn 91 [.ptr 0 0,.ptr 1 0,.ptr 2 0]),(5,.ptr 2 0),(4,.ptr 1 0),(1,.ptr 0 0)],[(0,.box 9 [.str s]),(1,.box 3 [.int .i64 x.2.a]),(2,.box 4 [.bool x.2.sh]),(3,.row 75 (CP (en0 x.2.l)))],4⟩)
  (fun x=>x.1≤M∧x.2.a≤s.length∧x.2.l.length=x.1∧(x.2.sh=false→x.2=ls s x.1)∧(x.2.sh=true→(qY s).sh=true)) (fun x=>M - x.1) (0,⟨[],6,false⟩) ?_ ⟨Nat.zero_le _,(show 6≤s.length by omega),rfl,fun _=>rfl,fun h=>by cases h⟩ fun x hi=>?_
 ·refine aK.ak rfl ?_ ?_<;>simp only [go_sem,Int.natCast_succ]
  all_goals first|rfl|exact ⟨rfl,rfl⟩|trace_state
 obtain ⟨i,l,a,sh⟩:=x
 obtain ⟨hiM,ha1,hlen,hno,hyes⟩:=hi
 dsimp only at hiM ha1 hlen hno hyes
 have hel:=CO l
 by_cases hlt:i<M
 ·have f4:((i:Int)<(M:Int))=True:=eq_true (by omega)
  cases sh with
  | true=>
   have e:aZ s=([],8):=by
    unfold aZ
    rw [if_neg h1,if_neg (by rw [h3];simp;omega),if_pos (hyes rfl)]
   rw [e]
   (repeat' with_reducible first|intro _|refine rz ?_|refine ra ?_ ?_|omega|simp only [go_sem,f4])
   refine aU.auto 1 ?_ rfl ?_<;>simp only [go_sem,Int.natCast_succ,Post]
  | false=>
   have hq:=hno rfl
   have hst:ls s (i+1)=⟨(ls s i).l++[((qC s (ls s i).a (ls s i).sh).n,(qC s (ls s i).a (ls s i).sh).k)],(qC s (ls s i).a (ls s i).sh).a,(qC s (ls s i).a (ls s i).sh).sh⟩:=rfl
   have hsM:=@Sl s (i+1)
   rw [←hq] at hst
   rw [hst] at hsM
   dsimp only at hst hsM
   have hR:=Yc s a
   have hRd:Vy s a=⟨(iT s (iT s a false 1).a (iT s a false 1).sh (aT (iT s a false 1).t)).t,aT (iT s (iT s (iT s a false 1).a (iT s a false 1).sh (aT (iT s a false 1).t)).a (iT s (iT s a false 1).a (iT s a false 1).sh (aT (iT s a false 1).t)).sh 4).t,(iT s (iT s (iT s a false 1).a (iT s a false 1).sh (aT (iT s a false 1).t)).a (iT s (iT s a false 1).a (iT s a false 1).sh (aT (iT s a false 1).t)).sh 4).a,(iT s (iT s (iT s a false 1).a (iT s a false 1).sh (aT (iT s a false 1).t)).a (iT s (iT s a false 1).a (iT s a false 1).sh (aT (iT s a false 1).t)).sh 4).sh⟩:=rfl
   rw [hRd] at hR
   have kt1:fA Tryz.prog 91 [.int .i64 1,.ptr 0 0,.ptr 1 0,.ptr 2 0] [(0,.box 9 [.str s]),(1,.box 3 [.int .i64 a]),(2,.box 4 [.bool false])] 3 (.str (iT s a false 1).t) [(0,.box 9 [.str s]),(1,.box 3 [.int .i64 (iT s a false 1).a]),(2,.box 4 [.bool (iT s a false 1).sh])]:=FT s a false 1 (by omega) ha1 (by omega)
   have b1:=Xy (s:=s) false 1 ha1
   have l1:=Kq s a false 1
   have n1:=num1 l1
   have kb1:=bC (iT s a false 1).t (by omega)
   generalize iT s a false 1=X at *
   have kt2:=FT s X.a X.sh (aT X.t) (by omega) b1 (by omega)
   have b2:=Xy (s:=s) X.sh (aT X.t) b1
   generalize iT s X.a X.sh (aT X.t)=Y at *
   have kt3:fA Tryz.prog 91 [.int .i64 4,.ptr 0 0,.ptr 1 0,.ptr 2 0] [(0,.box 9 [.str s]),(1,.box 3 [.int .i64 Y.a]),(2,.box 4 [.bool Y.sh])] 3 (.str (iT s Y.a Y.sh 4).t) [(0,.box 9 [.str s]),(1,.box 3 [.int .i64 (iT s Y.a Y.sh 4).a]),(2,.box 4 [.bool (iT s Y.a Y.sh 4).sh])]:=FT s Y.a Y.sh 4 (by omega) b2 (by omega)
   have b3:=Xy (s:=s) Y.sh 4 b2
   have l3:=Kq s Y.a Y.sh 4
   have kb3:=bC (iT s Y.a Y.sh 4).t l3
   have n3:=aa1 l3
   generalize iT s Y.a Y.sh 4=Z at *
   dsimp only at hR
   (repeat' with_reducible first|intro _|refine rz ?_|refine ra ?_ ?_|omega|simp only [go_sem,f4])
   refine ah.i [0,1,2] kt1 3 ?_
   (repeat' with_reducible first|intro _|exact dn|refine rn ?_|refine ra ?_ ?_)
   refine ah.k kb1 ?_
   (repeat' with_reducible first|intro _|exact dn|refine rn ?_|refine ra ?_ ?_)
   refine ah.i [0,1,2] kt2 3 ?_
   (repeat' with_reducible first|intro _|exact dn|refine rn ?_|refine ra ?_ ?_)
   refine ah.i [0,1,2] kt3 3 ?_
   (repeat' with_reducible first|intro _|exact dn|refine rn ?_|refine ra ?_ ?_)
   refine ah.k kb3 ?_
   (repeat' with_reducible first|intro _|exact dn|refine rn ?_|refine ra ?_ ?_)
   refine ⟨(i+1,⟨l++[(Y.t,aT Z.t)],Z.a,Z.sh⟩),aK.ak rfl ?_ ?_,⟨by omega,b3,by simp [hlen],fun hz=>?_,fun hz=>?_⟩,by dsimp only;omega⟩
   ·simp only [go_sem,Int.natCast_succ]
   ·simp only [go_sem,Int.natCast_succ]
    all_goals first|rfl|(unfold en0;rw [List.map_append,List.map_append];rfl)
   ·dsimp only at hz ⊢
    rw [hst,←hR.2 hz]
   ·have hz2:Z.sh=true:=hz
    rw [hz2] at hR
    have h:=hsM hR.1.symm (M - (i+1))
    rw [show i+1+(M - (i+1))=M by omega] at h
    unfold qY;rw [hN];exact h
 have e:i=M:=by omega
 subst e
 have f4:((i:Int)<(i:Int))=False:=eq_false (by omega)
 cases sh with
 | true=>
  have e:aZ s=([],8):=by
   unfold aZ
   rw [if_neg h1,if_neg (by rw [h3];simp;omega),if_pos (hyes rfl)]
  rw [e]
  (repeat' with_reducible first|intro _|refine rz ?_|refine ra ?_ ?_|omega|simp only [go_sem,f4])
  refine aU.auto 1 ?_ rfl ?_<;>simp only [go_sem,Int.natCast_succ,Post]
 | false=>
 have hq:=hno rfl
 have hO:qY s=ls s i:=by unfold qY;rw [hN]
 obtain ⟨_,hk,ha0,_⟩:=hls i
 have hL:aZ s=if a+dO l+8≠s.length then ([],8) else if bY (s.take a)≠s.drop (a+dO l) then ([],14) else if xP (l.map Prod.fst) l.length≠0 then ([],xP (l.map Prod.fst) l.length) else (fO l a,0):=by
  unfold aZ
  rw [if_neg h1,if_neg (by rw [h3];simp;omega),hO,←hq,if_neg (fun h=>by cases h)]
 rw [←hq] at hk ha0
 dsimp only at hk ha0
 clear hls hO hN hM hq hno hyes kt1 kt2 kb
 have htk0:List.take (a - 0) s=s.take a:=rfl
 (repeat' with_reducible first|intro _|refine rz ?_|refine ra ?_ ?_|omega|simp only [go_sem,f4,htk0])
 rw [hel]
 refine aF.intro (fun j:Nat=>⟨104,[(47,.int .i64 j),(46,.int .i64 l.length),(45,.own 2),(9,.str (s.take a)),(7,.own 2),(4,.ptr 1 0),(1,.ptr 0 0)],[(0,.box 9 [.str s]),(1,.box 3 [.int .i64 (a+dO (l.take j):Nat)]),(2,.row 75 (CP (wZ l a j)))],3⟩) (fun j=>j≤l.length∧a+dO (l.take j)≤s.length) (fun j=>l.length - j) 0 ?_ ⟨Nat.zero_le _,ha1⟩ fun j hj=>?_
 ·refine aK.ak rfl ?_ ?_<;>simp only [go_sem,Int.natCast_succ]
  all_goals first|rfl|exact ⟨rfl,rfl⟩|trace_state
 obtain ⟨hj1,hj2⟩:=hj
 have hml:=MR l a hj1
 by_cases hlt:j<l.length
 ·have f7:((j:Int)<(l.length:Int))=True:=eq_true (by omega)
  have hml2:=MR l a (show j+1≤l.length by omega)
  have hat:=Yx l a hlt
  have hset:=Wj l a hlt
  have hee:=lS (wZ l a j) (i:=j) (by omega)
  have hee2:=lS (wZ l a (j+1)) (i:=j) (by omega)
  have hsk:=UO l hlt
  have hsl:=YU l (j+1)
  rw [hat] at hee
  rw [←hset,List.getD_eq_getElem?_getD (l:=(wZ l a j).set _ _),List.getElem?_set_self (by omega)] at hee2
  generalize l.getD j ([],0)=x at *
  obtain ⟨xn,xk⟩:=x
  dsimp only [Option.getD_some] at hset hee hee2 hsk
  obtain ⟨z,hz⟩:∃ z,a+dO (l.take j)=z:=⟨_,rfl⟩
  have hrow:(List.map En.av (wZ l a j)).set j [.str xn,.int .i64 (z:Int),.int .i64 xk]=(wZ l a (j+1)).map En.av:=by rw [←hset,List.map_set,hz];rfl
  rw [hset,hz] at hee2
  have hz2:z+xk=a+dO (l.take (j+1)):=by omega
  rw [hz] at hj2 ⊢
  by_cases h5:s.length<z+xk
  ·have f8:((s.length:Int) - (z:Int)<(xk:Int))=True:=eq_true (by omega)
   rw [if_pos (by omega)] at hL
   rw [hL]
   (repeat' with_reducible first|intro _|refine rz ?_|refine ra ?_ ?_|omega|simp only [go_sem,f7,hee,hml,bZ,hrow])
   refine aN.lex [] [] (by kernel_rfl) (by kernel_rfl) ?_
   (repeat' with_reducible first|intro _|refine rz ?_|refine ra ?_ ?_|omega|simp only [go_sem,hee2,hml2,bZ,f8])
   refine aU.auto 1 ?_ rfl ?_<;>simp only [go_sem,Int.natCast_succ,Post]
  ·have f8:((s.length:Int) - (z:Int)<(xk:Int))=False:=eq_false (by omega)
   have e1:(z:Int)+(xk:Int)=((z+xk:Nat):Int):=by omega
   (repeat' with_reducible first|intro _|refine rz ?_|refine ra ?_ ?_|omega|simp only [go_sem,f7,hee,hml,bZ,hrow])
   refine aN.lex [] [] (by kernel_rfl) (by kernel_rfl) ?_
   (repeat' with_reducible first|intro _|refine rz ?_|refine ra ?_ ?_|omega|simp only [go_sem,hee2,hml2,bZ,f8])
   refine aN.lex [7] [] (by kernel_rfl) (by kernel_rfl) ?_
   (repeat' with_reducible first|intro _|refine rz ?_|refine ra ?_ ?_|omega|simp only [go_sem,hee2,hml2,bZ,e1])
   refine ⟨j+1,aK.ak rfl ?_ ?_,⟨by omega,by omega⟩,by omega⟩<;>simp only [go_sem,Int.natCast_succ,hz2]
 have e:j=l.length:=by omega
 subst e
 rw [List.take_length] at hj2 ⊢
 have f7:((l.length:Int)<(l.length:Int))=False:=eq_false (by omega)
 have hmx:wZ l a l.length=fO l a:=by
  unfold wZ
  rw [List.take_of_length_le (by rw [fF];exact Nat.le_refl _),List.drop_of_length_le (by rw [CO];exact Nat.le_refl _),List.append_nil]
 rw [hmx]
 by_cases h5:a+dO l+8=s.length
 rotate_left
 ·have f5:((s.length:Int) - ((a+dO l:Nat):Int)=8)=False:=eq_false (by omega)
  rw [if_pos h5] at hL
  rw [hL]
  (repeat' with_reducible first|intro _|refine rz ?_|refine ra ?_ ?_|omega|simp only [go_sem,f7,f5])
  refine aU.auto 1 ?_ rfl ?_<;>simp only [go_sem,Int.natCast_succ,Post]
 have f5:((s.length:Int) - ((a+dO l:Nat):Int)=8)=True:=eq_true (by omega)
 rw [if_neg (fun h=>h h5)] at hL
 have ks:=iC (s.take a) (by rw [List.length_take];omega)
 have e2:(s.drop (a+dO l)).take (s.length - (a+dO l))=s.drop (a+dO l):=List.take_of_length_le (by rw [List.length_drop];exact Nat.le_refl _)
 generalize hS:bY (s.take a)=S at *
 obtain ⟨D,hD⟩:∃ D,s.drop (a+dO l)=D:=⟨_,rfl⟩
 rw [hD] at hL e2
 (repeat' with_reducible first|intro _|refine rz ?_|refine ra ?_ ?_|omega|simp only [go_sem,f7,f5])
 refine aN.lex [] [] (by kernel_rfl) (by kernel_rfl) ?_
 (repeat' with_reducible first|intro _|refine rz ?_|refine ra ?_ ?_|omega|simp only [go_sem,e2,hD])
 (refine QV.intro (.str S) ?_ ?_;focus ((repeat' with_reducible first|intro _|exact dn|refine rn ?_|refine ra ?_ ?_);refine ah.k (ks) ?_;(repeat' with_reducible first|intro _|exact dn|refine rn ?_|refine ra ?_ ?_)))
 by_cases h6:S=D
 rotate_left
 ·have f6:(S=D)=False:=eq_false h6
  rw [if_pos h6] at hL
  rw [hL]
  (repeat' with_reducible first|intro _|refine rz ?_|refine ra ?_ ?_|omega|simp only [go_sem,e2,hD,f6])
  refine aU.auto 1 ?_ rfl ?_<;>simp only [go_sem,Int.natCast_succ,Post]
 have f6:(S=D)=True:=eq_true h6
 rw [if_neg (fun h=>h h6)] at hL
 (repeat' with_reducible first|intro _|refine rz ?_|refine ra ?_ ?_|omega|simp only [go_sem,e2,hD,f6])
 have hen:=fF l a
 rw [hen]
 have hnl:(l.map Prod.fst).length=l.length:=List.length_map _
 refine aF.intro (fun j:Nat=>⟨104,[(87,.int .i64 j),(86,.int .i64 l.length),(85,.own 0),(11,.own 1),(7,.own 0)],[(0,.row 75 (CP (fO l a))),(1,.map (((l.map Prod.fst).take j).map .str) (((l.map Prod.fst).take j).map fun _=>.bool true))],2⟩) (fun j=>j≤l.length∧xP (l.map Prod.fst) j=0) (fun j=>l.length - j) 0 ?_ ⟨Nat.zero_le _,rfl⟩ fun j hj=>?_
 ·refine aK.ak rfl ?_ ?_<;>simp only [go_sem,Int.natCast_succ]
  all_goals first|rfl|exact ⟨rfl,rfl⟩|trace_state
 obtain ⟨hj1,hj3⟩:=hj
 by_cases hlt:j<l.length
 ·have f9:((j:Int)<(l.length:Int))=True:=eq_true (by omega)
  have hst:xP (l.map Prod.fst) (j+1)=if xP (l.map Prod.fst) j≠0 then xP (l.map Prod.fst) j else if dA ((l.map Prod.fst).getD j [])=true then (if (l.map Prod.fst).getD j []∈(l.map Prod.fst).take j then 6 else 0) else 5:=rfl
  have hle:=@PX (l.map Prod.fst) (j+1) l.length
  have hnm:=Ry l a j
  have hee:=lS (fO l a) (i:=j) (by omega)
  have htk:(l.map Prod.fst).take (j+1)=(l.map Prod.fst).take j++[(l.map Prod.fst).getD j []]:=by
   have hjl:j<(l.map Prod.fst).length:=by omega
   rw [List.take_succ_eq_append_getElem hjl,getD_lt hjl]
  rw [hj3,if_neg (by simp),←hnm] at hst
  rw [←hnm] at htk
  generalize (fO l a).getD j En.zero=x at *
  obtain ⟨xn,xa,xk⟩:=x
  dsimp only at hst hee htk
  have kn:=Ae xn
  (repeat' with_reducible first|intro _|refine rz ?_|refine ra ?_ ?_|omega|simp only [go_sem,f9,hee,hen,bZ])
  refine ah.k kn ?_
  cases hn:dA xn with
  | false=>
   rw [hn,if_neg (by decide)] at hst
   have h0:=hle (by rw [hst];decide) (by omega)
   rw [h0,hst,if_pos (by decide)] at hL
   rw [hL]
   (repeat' with_reducible first|intro _|exact dn|refine rn ?_|refine ra ?_ ?_)
   refine aU.auto 1 ?_ rfl ?_<;>simp only [go_sem,Int.natCast_succ,Post]
  | true=>
   rw [hn,if_pos rfl] at hst
   have g:=qE ((l.map Prod.fst).take j) xn
   by_cases hd:xn∈(l.map Prod.fst).take j
   ·rw [if_pos hd] at hst
    have h0:=hle (by rw [hst];decide) (by omega)
    rw [h0,hst,if_pos (by decide)] at hL
    rw [hL]
    rw [decide_eq_true hd] at g
    (repeat' with_reducible first|intro _|refine rz ?_|refine ra ?_ ?_|omega|simp only [go_sem,g])
    refine aU.auto 1 ?_ rfl ?_<;>simp only [go_sem,Int.natCast_succ,Post]
   ·rw [if_neg hd] at hst
    rw [decide_eq_false hd] at g
    have hins:BZ ((l.map Prod.fst).take j) xn=(l.map Prod.fst).take (j+1):=by unfold BZ;rw [if_neg hd,htk]
    (repeat' with_reducible first|intro _|refine rz ?_|refine ra ?_ ?_|omega|simp only [go_sem,g])
    refine ⟨j+1,aK.ak rfl ?_ ?_,⟨by omega,hst⟩,by omega⟩<;>simp only [go_sem,Int.natCast_succ,hins]
 ·have e:j=l.length:=by omega
  subst e
  rw [if_neg (by rw [hj3];simp)] at hL
  rw [hL]
  (repeat' with_reducible first|intro _|refine rz ?_|refine ra ?_ ?_|omega|simp only [go_sem,f7])
  refine aU.auto 1 ?_ rfl ?_<;>simp only [go_sem,Int.natCast_succ,Post]
theorem xu (s:Bytes) (hs:s.length≤140737488351232):cO Tryz.prog 40 [.str s] (.tup [.ro (CP (aZ s).1),.int .i64 (aZ s).2]) []:=
 cO.zl (cO.eY (Qm s hs) rfl (by simp [fQ,fP,jh,iQ,lG,CP,En.av])) (by simp [dJ,aS,aV,bH,aH,lk,aI])
end Go.Fv.H
/- shrink.Take and the reference's TakeOf: the walk. -/
namespace Go.Fv.H
open Go Go.Proofs
set_option maxHeartbeats 4000000 in
theorem YX (s name:Bytes) (hs:s.length≤140737488351232):aA Tryz.prog 44 [.str s,.str name] (.tup [.agg [.int .i64 (fU s name).w,.int .i64 (fU s name).h,.own 0],.int .i64 (fU s name).e]) [(0,.row 4 (.bools (fU s name).p))]:=by
 have kl:=Jy s hs
 have kn:=zV name
 have hin:=fun x hx=>um (s:=s) (x:=x) hx
 have hlen:=vF s
 obtain ⟨R,hR⟩:∃ R,fU s name=R:=⟨_,rfl⟩
 rw [hR]
 unfold fU at hR
 generalize aZ s=q at *
 obtain ⟨l,e⟩:=q
 dsimp only at hR kl hin hlen
 refine aA.aG Tryz.func44 rfl (by decide) (by simp [Tryz.f44]) [.cell 4 24,.tmp 5] rfl fun w0 T0 _=>?_
 simp only [Tryz.f44,au]
 by_cases he:e=0
 rotate_left
 ·have f1:(e=0)=False:=eq_false he
  rw [if_pos he] at hR
  rw [←hR]
  (repeat' with_reducible first|intro _|exact dn|refine rn ?_|refine ra ?_ ?_)
  refine ah.f kl 0 ?_
  (repeat' with_reducible first|intro _|refine rz ?_|refine ra ?_ ?_|omega|simp only [go_sem,f1,D8])
  refine aU.ent (aK.jH (P:=Tryz.prog) 0 2 4 e4 rfl rfl) ?_
  simp only [go_sem,Int.natCast_succ,put]
  refine aU.of [(0,1)] 1 ?_ (by rfl) ?_<;>simp only [go_sem,Int.natCast_succ,Post]
 have f1:(e=0)=True:=eq_true he
 rw [if_neg (by omega)] at hR
 cases hn:dA name with
 | false=>
  rw [hn,if_neg (by decide)] at hR
  rw [hn] at kn
  rw [←hR]
  (repeat' with_reducible first|intro _|exact dn|refine rn ?_|refine ra ?_ ?_)
  refine ah.f kl 0 ?_
  (repeat' with_reducible first|intro _|refine rz ?_|refine ra ?_ ?_|omega|simp only [go_sem,f1])
  refine ah.k kn ?_
  (repeat' with_reducible first|intro _|refine rz ?_|refine ra ?_ ?_|omega|simp only [go_sem,D8])
  refine aU.ent (aK.jH (P:=Tryz.prog) 0 2 4 e4 rfl rfl) ?_
  simp only [go_sem,Int.natCast_succ,put]
  refine aU.of [(0,1)] 1 ?_ (by rfl) ?_<;>simp only [go_sem,Int.natCast_succ,Post]
 | true=>
 rw [hn,if_pos rfl] at hR
 rw [hn] at kn
 (repeat' with_reducible first|intro _|exact dn|refine rn ?_|refine ra ?_ ?_)
 refine ah.f kl 0 ?_
 (repeat' with_reducible first|intro _|refine rz ?_|refine ra ?_ ?_|omega|simp only [go_sem,f1])
 refine ah.k kn ?_
 (repeat' with_reducible first|intro _|refine rz ?_|refine ra ?_ ?_|omega|simp only [go_sem,List.length_map])
 refine aF.intro (fun j:Nat=>⟨47,[(25,.int .i64 j),(24,.int .i64 l.length),(23,.ro (CP l)),(4,.ptr 0 0),(1,.str name),(0,.str s)],[(0,.box 24 [.int .i64 0,.int .i64 0,.nilS])],1⟩) (fun j=>j≤l.length∧(match (l.drop j).find? (fun x=>decide (x.n=name)) with|some x=>jc ((s.drop x.a).take x.k)|none=>D8 10)=R) (fun j=>l.length - j) 0 ?_ ⟨Nat.zero_le _,hR⟩ fun j hj=>?_
 ·refine aK.ak rfl ?_ ?_<;>simp only [go_sem,Int.natCast_succ]
  all_goals first|rfl|exact ⟨rfl,rfl⟩|trace_state
 obtain ⟨hj1,hj2⟩:=hj
 by_cases hlt:j<l.length
 ·have f7:((j:Int)<(l.length:Int))=True:=eq_true (by omega)
  have hee:=lS l hlt
  have hx:=hin (l.getD j En.zero) (by rw [getD_lt hlt];exact List.getElem_mem hlt)
  rw [List.drop_eq_getElem_cons hlt,List.find?_cons,←getD_lt (d:=En.zero) hlt] at hj2
  generalize l.getD j En.zero=x at *
  obtain ⟨xn,xa,xk⟩:=x
  dsimp only at hee hx hj2
  by_cases hq:xn=name
  ·have f8:(xn=name)=True:=eq_true hq
   rw [decide_eq_true hq] at hj2
   dsimp only at hj2
   have e1:(xa:Int)+(xk:Int)=((xa+xk:Nat):Int):=by omega
   have e2:(s.drop xa).take (xa+xk - xa)=(s.drop xa).take xk:=by rw [Nat.add_sub_cancel_left]
   have kd:=decode_two ((s.drop xa).take xk) (by rw [List.length_take];omega)
   rw [hj2] at kd
   generalize (s.drop xa).take xk=Z at *
   rcases kd with ⟨_,k⟩|⟨hd,_,k⟩
   ·(repeat' with_reducible first|intro _|refine rz ?_|refine ra ?_ ?_|omega|simp only [go_sem,f7,hee,bZ,f8,e1,e2,List.length_map])
    refine ah.o k 1 ?_
    (repeat' with_reducible first|intro _|exact dn|refine rn ?_|refine ra ?_ ?_)
    refine aU.of [(0,2)] 1 ?_ (by rfl) ?_<;>simp only [go_sem,Int.natCast_succ,Post]
   ·(repeat' with_reducible first|intro _|refine rz ?_|refine ra ?_ ?_|omega|simp only [go_sem,f7,hee,bZ,f8,e1,e2,List.length_map])
    refine ah.k k ?_
    (repeat' with_reducible first|intro _|exact dn|refine rn ?_|refine ra ?_ ?_)
    rw [hd]
    refine aU.ent (aK.jH (P:=Tryz.prog) 0 2 4 e4 rfl rfl) ?_
    simp only [go_sem,Int.natCast_succ,put,D8]
    refine aU.of [(0,2)] 1 ?_ (by rfl) ?_<;>simp only [go_sem,Int.natCast_succ,Post]
  ·have f8:(xn=name)=False:=eq_false hq
   rw [decide_eq_false hq] at hj2
   (repeat' with_reducible first|intro _|refine rz ?_|refine ra ?_ ?_|omega|simp only [go_sem,f7,hee,bZ,f8,List.length_map])
   refine ⟨j+1,aK.ak rfl ?_ ?_,⟨by omega,hj2⟩,by omega⟩<;>simp only [go_sem,Int.natCast_succ]
 ·have e:j=l.length:=by omega
  subst e
  have f7:((l.length:Int)<(l.length:Int))=False:=eq_false (by omega)
  rw [List.drop_length] at hj2
  rw [←hj2]
  (repeat' with_reducible first|intro _|refine rz ?_|refine ra ?_ ?_|omega|simp only [go_sem,f7])
  refine aU.ent (aK.jH (P:=Tryz.prog) 0 2 4 e4 rfl rfl) ?_
  simp only [go_sem,Int.natCast_succ,put]
  refine aU.of [(0,1)] 1 ?_ (by rfl) ?_<;>simp only [go_sem,Int.natCast_succ,Post,D8,List.find?_nil]
theorem SY (s name:Bytes) (hs:s.length≤140737488351232):cO Tryz.prog 44 [.str s,.str name] (TQ (fU s name)) []:=
 cO.zl (cO.eY (YX s name hs) rfl rfl) (by simp [TQ,dJ,aS,aV,bH,aH,lk,aI])
set_option maxHeartbeats 4000000 in
theorem Qp (s name:Bytes) (hs:s.length≤140737488351232):aA Tryz.prog 45 [.str s,.str name] (.tup [.agg [.int .i64 (fU s name).w,.int .i64 (fU s name).h,.own 0],.int .i64 (fU s name).e]) [(0,.row 4 (.bools (fU s name).p))]:=by
 have kl:=xu s hs
 have kn:=Ae name
 have hin:=fun x hx=>um (s:=s) (x:=x) hx
 have hlen:=vF s
 obtain ⟨R,hR⟩:∃ R,fU s name=R:=⟨_,rfl⟩
 rw [hR]
 unfold fU at hR
 generalize aZ s=q at *
 obtain ⟨l,e⟩:=q
 dsimp only at hR kl hin hlen
 refine aA.aG Tryz.func45 rfl (by decide) (by simp [Tryz.f45]) [.cell 4 24,.tmp 5] rfl fun w0 T0 _=>?_
 simp only [Tryz.f45,au]
 by_cases he:e=0
 rotate_left
 ·have f1:(e=0)=False:=eq_false he
  rw [if_pos he] at hR
  rw [←hR]
  (repeat' with_reducible first|intro _|exact dn|refine rn ?_|refine ra ?_ ?_)
  refine ah.f kl 0 ?_
  (repeat' with_reducible first|intro _|refine rz ?_|refine ra ?_ ?_|omega|simp only [go_sem,f1,D8])
  refine aU.ent (aK.jH (P:=Tryz.prog) 0 2 4 e4 rfl rfl) ?_
  simp only [go_sem,Int.natCast_succ,put]
  refine aU.of [(0,1)] 1 ?_ (by rfl) ?_<;>simp only [go_sem,Int.natCast_succ,Post]
 have f1:(e=0)=True:=eq_true he
 rw [if_neg (by omega)] at hR
 cases hn:dA name with
 | false=>
  rw [hn,if_neg (by decide)] at hR
  rw [hn] at kn
  rw [←hR]
  (repeat' with_reducible first|intro _|exact dn|refine rn ?_|refine ra ?_ ?_)
  refine ah.f kl 0 ?_
  (repeat' with_reducible first|intro _|refine rz ?_|refine ra ?_ ?_|omega|simp only [go_sem,f1])
  refine ah.k kn ?_
  (repeat' with_reducible first|intro _|refine rz ?_|refine ra ?_ ?_|omega|simp only [go_sem,D8])
  refine aU.ent (aK.jH (P:=Tryz.prog) 0 2 4 e4 rfl rfl) ?_
  simp only [go_sem,Int.natCast_succ,put]
  refine aU.of [(0,1)] 1 ?_ (by rfl) ?_<;>simp only [go_sem,Int.natCast_succ,Post]
 | true=>
 rw [hn,if_pos rfl] at hR
 rw [hn] at kn
 (repeat' with_reducible first|intro _|exact dn|refine rn ?_|refine ra ?_ ?_)
 refine ah.f kl 0 ?_
 (repeat' with_reducible first|intro _|refine rz ?_|refine ra ?_ ?_|omega|simp only [go_sem,f1])
 refine ah.k kn ?_
 (repeat' with_reducible first|intro _|refine rz ?_|refine ra ?_ ?_|omega|simp only [go_sem,List.length_map])
 refine aF.intro (fun j:Nat=>⟨47,[(25,.int .i64 j),(24,.int .i64 l.length),(23,.ro (CP l)),(4,.ptr 0 0),(1,.str name),(0,.str s)],[(0,.box 24 [.int .i64 0,.int .i64 0,.nilS])],1⟩) (fun j=>j≤l.length∧(match (l.drop j).find? (fun x=>decide (x.n=name)) with|some x=>jc ((s.drop x.a).take x.k)|none=>D8 10)=R) (fun j=>l.length - j) 0 ?_ ⟨Nat.zero_le _,hR⟩ fun j hj=>?_
 ·refine aK.ak rfl ?_ ?_<;>simp only [go_sem,Int.natCast_succ]
  all_goals first|rfl|exact ⟨rfl,rfl⟩|trace_state
 obtain ⟨hj1,hj2⟩:=hj
 by_cases hlt:j<l.length
 ·have f7:((j:Int)<(l.length:Int))=True:=eq_true (by omega)
  have hee:=lS l hlt
  have hx:=hin (l.getD j En.zero) (by rw [getD_lt hlt];exact List.getElem_mem hlt)
  rw [List.drop_eq_getElem_cons hlt,List.find?_cons,←getD_lt (d:=En.zero) hlt] at hj2
  generalize l.getD j En.zero=x at *
  obtain ⟨xn,xa,xk⟩:=x
  dsimp only at hee hx hj2
  by_cases hq:xn=name
  ·have f8:(xn=name)=True:=eq_true hq
   rw [decide_eq_true hq] at hj2
   dsimp only at hj2
   have e1:(xa:Int)+(xk:Int)=((xa+xk:Nat):Int):=by omega
   have e2:(s.drop xa).take (xa+xk - xa)=(s.drop xa).take xk:=by rw [Nat.add_sub_cancel_left]
   have kd:=wF ((s.drop xa).take xk) (by rw [List.length_take];omega)
   rw [hj2] at kd
   generalize (s.drop xa).take xk=Z at *
   rcases kd with ⟨_,k⟩|⟨hd,_,k⟩
   ·(repeat' with_reducible first|intro _|refine rz ?_|refine ra ?_ ?_|omega|simp only [go_sem,f7,hee,bZ,f8,e1,e2,List.length_map])
    refine ah.o k 1 ?_
    (repeat' with_reducible first|intro _|exact dn|refine rn ?_|refine ra ?_ ?_)
    refine aU.of [(0,2)] 1 ?_ (by rfl) ?_<;>simp only [go_sem,Int.natCast_succ,Post]
   ·(repeat' with_reducible first|intro _|refine rz ?_|refine ra ?_ ?_|omega|simp only [go_sem,f7,hee,bZ,f8,e1,e2,List.length_map])
    refine ah.k k ?_
    (repeat' with_reducible first|intro _|exact dn|refine rn ?_|refine ra ?_ ?_)
    rw [hd]
    refine aU.ent (aK.jH (P:=Tryz.prog) 0 2 4 e4 rfl rfl) ?_
    simp only [go_sem,Int.natCast_succ,put,D8]
    refine aU.of [(0,2)] 1 ?_ (by rfl) ?_<;>simp only [go_sem,Int.natCast_succ,Post]
  ·have f8:(xn=name)=False:=eq_false hq
   rw [decide_eq_false hq] at hj2
   (repeat' with_reducible first|intro _|refine rz ?_|refine ra ?_ ?_|omega|simp only [go_sem,f7,hee,bZ,f8,List.length_map])
   refine ⟨j+1,aK.ak rfl ?_ ?_,⟨by omega,hj2⟩,by omega⟩<;>simp only [go_sem,Int.natCast_succ]
 ·have e:j=l.length:=by omega
  subst e
  have f7:((l.length:Int)<(l.length:Int))=False:=eq_false (by omega)
  rw [List.drop_length] at hj2
  rw [←hj2]
  (repeat' with_reducible first|intro _|refine rz ?_|refine ra ?_ ?_|omega|simp only [go_sem,f7])
  refine aU.ent (aK.jH (P:=Tryz.prog) 0 2 4 e4 rfl rfl) ?_
  simp only [go_sem,Int.natCast_succ,put]
  refine aU.of [(0,1)] 1 ?_ (by rfl) ?_<;>simp only [go_sem,Int.natCast_succ,Post,D8,List.find?_nil]
theorem Qo (s name:Bytes) (hs:s.length≤140737488351232):cO Tryz.prog 45 [.str s,.str name] (TQ (fU s name)) []:=
 cO.zl (cO.eY (Qp s name hs) rfl rfl) (by simp [TQ,dJ,aS,aV,bH,aH,lk,aI])
end Go.Fv.H
/- shrink.Check and the reference's CheckAll: the walk. -/
namespace Go.Fv.H
open Go Go.Proofs
set_option maxHeartbeats 4000000 in
theorem Vp (s:Bytes) (hs:s.length≤140737488351232):aA Tryz.prog 41 [.str s] (.tup [.int .i64 (Jj s).1,.int .i64 (Jj s).2]) []:=by
 have kl:=Jy s hs
 have hin:=fun x hx=>um (s:=s) (x:=x) hx
 have hlen:=vF s
 obtain ⟨R,hR⟩:∃ R,Jj s=R:=⟨_,rfl⟩
 rw [hR]
 unfold Jj at hR
 generalize aZ s=q at *
 obtain ⟨l,e⟩:=q
 dsimp only at hR kl hin hlen
 refine aA.aG Tryz.func41 rfl (by decide) (by simp [Tryz.f41]) [.tmp 2,.tmp 3] rfl fun w0 T0 _=>?_
 simp only [Tryz.f41,au]
 by_cases he:e=0
 rotate_left
 ·have f1:(e=0)=False:=eq_false he
  rw [if_pos he] at hR
  rw [←hR]
  (repeat' with_reducible first|intro _|exact dn|refine rn ?_|refine ra ?_ ?_)
  refine ah.f kl 0 ?_
  (repeat' with_reducible first|intro _|refine rz ?_|refine ra ?_ ?_|omega|simp only [go_sem,f1])
  refine aU.auto 0 ?_ rfl ?_<;>simp only [go_sem,Int.natCast_succ,Post]
 have f1:(e=0)=True:=eq_true he
 rw [if_neg (by omega)] at hR
 (repeat' with_reducible first|intro _|exact dn|refine rn ?_|refine ra ?_ ?_)
 refine ah.f kl 0 ?_
 (repeat' with_reducible first|intro _|refine rz ?_|refine ra ?_ ?_|omega|simp only [go_sem,f1,List.length_map])
 refine aF.intro (fun j:Nat=>⟨45,[(20,.int .i64 j),(19,.int .i64 l.length),(18,.ro (CP l)),(4,.ro (CP l)),(0,.str s)],[],0⟩) (fun j=>j≤l.length∧LC s (l.drop j) j=R) (fun j=>l.length - j) 0 ?_ ⟨Nat.zero_le _,hR⟩ fun j hj=>?_
 ·refine aK.ak rfl ?_ ?_<;>simp only [go_sem,Int.natCast_succ]
 obtain ⟨hj1,hj2⟩:=hj
 by_cases hlt:j<l.length
 ·have f7:((j:Int)<(l.length:Int))=True:=eq_true (by omega)
  have hee:=lS l hlt
  have hx:=hin (l.getD j En.zero) (by rw [getD_lt hlt];exact List.getElem_mem hlt)
  rw [List.drop_eq_getElem_cons hlt,←getD_lt (d:=En.zero) hlt] at hj2
  generalize l.getD j En.zero=x at *
  obtain ⟨xn,xa,xk⟩:=x
  dsimp only at hee hx
  unfold LC at hj2
  dsimp only at hj2
  have e1:(xa:Int)+(xk:Int)=((xa+xk:Nat):Int):=by omega
  have e2:(s.drop xa).take (xa+xk - xa)=(s.drop xa).take xk:=by rw [Nat.add_sub_cancel_left]
  have kd:=TP ((s.drop xa).take xk) (by rw [List.length_take];omega)
  generalize (s.drop xa).take xk=Z at *
  unfold TQ at kd
  generalize jc Z=Q at *
  (repeat' with_reducible first|intro _|refine rz ?_|refine ra ?_ ?_|omega|simp only [go_sem,f7,hee,bZ,e1,e2,List.length_map])
  refine ah.f kd 0 ?_
  by_cases h0:Q.e=0
  ·have f8:(Q.e=0)=True:=eq_true h0
   rw [if_neg (by omega)] at hj2
   (repeat' with_reducible first|intro _|refine rz ?_|refine ra ?_ ?_|omega|simp only [go_sem,f8])
   refine ⟨j+1,aK.ak rfl ?_ ?_,⟨by omega,hj2⟩,by omega⟩<;>simp only [go_sem,Int.natCast_succ]
  ·have f8:(Q.e=0)=False:=eq_false h0
   rw [if_pos h0] at hj2
   rw [←hj2]
   (repeat' with_reducible first|intro _|refine rz ?_|refine ra ?_ ?_|omega|simp only [go_sem,f8])
   refine aU.auto 0 ?_ rfl ?_<;>simp only [go_sem,Int.natCast_succ,Post]
 ·have e:j=l.length:=by omega
  subst e
  have f7:((l.length:Int)<(l.length:Int))=False:=eq_false (by omega)
  rw [List.drop_length] at hj2
  rw [←hj2]
  (repeat' with_reducible first|intro _|refine rz ?_|refine ra ?_ ?_|omega|simp only [go_sem,f7,List.length_map])
  refine aU.auto 0 ?_ rfl ?_<;>simp only [go_sem,Int.natCast_succ,Post,LC]
set_option maxHeartbeats 4000000 in
theorem NT (s:Bytes) (hs:s.length≤140737488351232):aA Tryz.prog 42 [.str s] (.tup [.int .i64 (Jj s).1,.int .i64 (Jj s).2]) []:=by
 have kl:=xu s hs
 have hin:=fun x hx=>um (s:=s) (x:=x) hx
 have hlen:=vF s
 obtain ⟨R,hR⟩:∃ R,Jj s=R:=⟨_,rfl⟩
 rw [hR]
 unfold Jj at hR
 generalize aZ s=q at *
 obtain ⟨l,e⟩:=q
 dsimp only at hR kl hin hlen
 refine aA.aG Tryz.func42 rfl (by decide) (by simp [Tryz.f42]) [.tmp 2,.tmp 3] rfl fun w0 T0 _=>?_
 simp only [Tryz.f42,au]
 by_cases he:e=0
 rotate_left
 ·have f1:(e=0)=False:=eq_false he
  rw [if_pos he] at hR
  rw [←hR]
  (repeat' with_reducible first|intro _|exact dn|refine rn ?_|refine ra ?_ ?_)
  refine ah.f kl 0 ?_
  (repeat' with_reducible first|intro _|refine rz ?_|refine ra ?_ ?_|omega|simp only [go_sem,f1])
  refine aU.auto 0 ?_ rfl ?_<;>simp only [go_sem,Int.natCast_succ,Post]
 have f1:(e=0)=True:=eq_true he
 rw [if_neg (by omega)] at hR
 (repeat' with_reducible first|intro _|exact dn|refine rn ?_|refine ra ?_ ?_)
 refine ah.f kl 0 ?_
 (repeat' with_reducible first|intro _|refine rz ?_|refine ra ?_ ?_|omega|simp only [go_sem,f1,List.length_map])
 refine aF.intro (fun j:Nat=>⟨45,[(20,.int .i64 j),(19,.int .i64 l.length),(18,.ro (CP l)),(4,.ro (CP l)),(0,.str s)],[],0⟩) (fun j=>j≤l.length∧LC s (l.drop j) j=R) (fun j=>l.length - j) 0 ?_ ⟨Nat.zero_le _,hR⟩ fun j hj=>?_
 ·refine aK.ak rfl ?_ ?_<;>simp only [go_sem,Int.natCast_succ]
 obtain ⟨hj1,hj2⟩:=hj
 by_cases hlt:j<l.length
 ·have f7:((j:Int)<(l.length:Int))=True:=eq_true (by omega)
  have hee:=lS l hlt
  have hx:=hin (l.getD j En.zero) (by rw [getD_lt hlt];exact List.getElem_mem hlt)
  rw [List.drop_eq_getElem_cons hlt,←getD_lt (d:=En.zero) hlt] at hj2
  generalize l.getD j En.zero=x at *
  obtain ⟨xn,xa,xk⟩:=x
  dsimp only at hee hx
  unfold LC at hj2
  dsimp only at hj2
  have e1:(xa:Int)+(xk:Int)=((xa+xk:Nat):Int):=by omega
  have e2:(s.drop xa).take (xa+xk - xa)=(s.drop xa).take xk:=by rw [Nat.add_sub_cancel_left]
  have kd:=JX ((s.drop xa).take xk) (by rw [List.length_take];omega)
  generalize (s.drop xa).take xk=Z at *
  unfold TQ at kd
  generalize jc Z=Q at *
  (repeat' with_reducible first|intro _|refine rz ?_|refine ra ?_ ?_|omega|simp only [go_sem,f7,hee,bZ,e1,e2,List.length_map])
  refine ah.f kd 0 ?_
  by_cases h0:Q.e=0
  ·have f8:(Q.e=0)=True:=eq_true h0
   rw [if_neg (by omega)] at hj2
   (repeat' with_reducible first|intro _|refine rz ?_|refine ra ?_ ?_|omega|simp only [go_sem,f8])
   refine ⟨j+1,aK.ak rfl ?_ ?_,⟨by omega,hj2⟩,by omega⟩<;>simp only [go_sem,Int.natCast_succ]
  ·have f8:(Q.e=0)=False:=eq_false h0
   rw [if_pos h0] at hj2
   rw [←hj2]
   (repeat' with_reducible first|intro _|refine rz ?_|refine ra ?_ ?_|omega|simp only [go_sem,f8])
   refine aU.auto 0 ?_ rfl ?_<;>simp only [go_sem,Int.natCast_succ,Post]
 ·have e:j=l.length:=by omega
  subst e
  have f7:((l.length:Int)<(l.length:Int))=False:=eq_false (by omega)
  rw [List.drop_length] at hj2
  rw [←hj2]
  (repeat' with_reducible first|intro _|refine rz ?_|refine ra ?_ ?_|omega|simp only [go_sem,f7,List.length_map])
  refine aU.auto 0 ?_ rfl ?_<;>simp only [go_sem,Int.natCast_succ,Post,LC]
end Go.Fv.H
/- The laws' first question. -/
namespace Go.Fv.H
open Go Go.Proofs
theorem Uc:aA Tryz.prog 11 [] (.bool true) []:=by
 have k:=zV [97]
 refine aA.aG Tryz.func11 rfl (by decide) (by simp [Tryz.f11]) [.tmp 0] rfl fun w0 T0 _=>?_
 simp only [Tryz.f11,au]
 have e:dA [97]=true:=by decide
 rw [e] at k
 (repeat' with_reducible first|intro _|exact dn|refine rn ?_|refine ra ?_ ?_)
 refine ah.k k ?_
 (repeat' with_reducible first|intro _|exact dn|refine rn ?_|refine ra ?_ ?_)
 refine aU.auto 0 ?_ rfl ?_<;>simp only [go_sem,Int.natCast_succ,Post]
end Go.Fv.H
/- ArchivesMatch: the law. -/
namespace Go.Fv.H
open Go Go.Proofs
theorem Pv {l:List En} (h:(l.map En.n).Nodup) {x:En} (hx:x∈l):l.find? (fun y=>decide (y.n=x.n))=some x:=by
 induction l with
 | nil=>cases hx
 | cons y l ih=>
  rw [List.map_cons,List.nodup_cons] at h
  rw [List.find?_cons]
  rcases List.mem_cons.1 hx with rfl|hx
  ·simp
  ·have hne:y.n≠x.n:=fun e=>h.1 (e▸List.mem_map.2 ⟨x,hx,rfl⟩)
   rw [decide_eq_false hne]
   exact ih h.2 hx
theorem X3 {l:List NP} (kind:Int) {i:Nat} (hi:i<l.length):(qo kind l).getD i ([],[])=((l.getD i NP.zero).n,yh kind (l.getD i NP.zero)):=by
 unfold qo
 rw [List.getD_eq_getElem?_getD,List.getElem?_map,List.getD_eq_getElem?_getD,List.getElem?_eq_getElem hi];rfl
theorem ZF (s name:Bytes):(fU s name).e≠0→(fU s name).w=0∧(fU s name).h=0∧(fU s name).p=[]:=by
 intro h
 unfold fU at h ⊢
 split
 ·exact ⟨rfl,rfl,rfl⟩
 ·rename_i h1
  rw [if_neg h1] at h
  split
  ·rename_i h2
   rw [if_pos h2] at h
   split
   ·rename_i x hx
    rw [hx] at h
    exact Vw _ h
   ·exact ⟨rfl,rfl,rfl⟩
  ·exact ⟨rfl,rfl,rfl⟩
theorem OQ (s name:Bytes):aA Tryz.prog 17 [.agg [.int .i64 (fU s name).w,.int .i64 (fU s name).h,.ro (.bools (fU s name).p)],.int .i64 (fU s name).e,.agg [.int .i64 (fU s name).w,.int .i64 (fU s name).h,.ro (.bools (fU s name).p)],.int .i64 (fU s name).e] (.bool true) []:=
 OO _ _ _ _ (ZF s name)
end Go.Fv.H
/- CodesAreChecked: the law. -/
namespace Go.Fv.H
open Go Go.Proofs
def Og (s:Bytes):Prop:=bY (s.take (s.length - 8))=s.drop (s.length - 8)
theorem Vx {s:Bytes} (h:(jc s).e=0):Og s∧17≤s.length:=by
 have h0:=Ya h
 have e:=h0.2.2.1
 have hl:=oK (jc s).w (jc s).h (jc s).p (dK s)
 have k:=D9 (jc s).w (jc s).h (jc s).p (dK s)
 rw [e] at k hl
 exact ⟨k,by omega⟩
theorem Oh {s:Bytes} (hs:Og s) (h8:8≤s.length) {k:Nat} (hk:k<s.length) {x:UInt8} (hx:x≠s.getD k 0):¬Og (s.set k x):=by
 intro h
 unfold Og at hs h
 rw [List.length_set] at h
 by_cases hk8:k<s.length - 8
 ·have e1:(s.set k x).drop (s.length - 8)=s.drop (s.length - 8):=by
   rw [List.drop_set_of_lt hk8]
  have e2:(s.set k x).take (s.length - 8)=(s.take (s.length - 8)).set k x:=by rw [List.take_set]
  rw [e1,e2,←hs] at h
  have hl:k<(s.take (s.length - 8)).length:=by rw [List.length_take];omega
  have hg:(s.take (s.length - 8)).getD k 0=s.getD k 0:=by
   rw [List.getD_eq_getElem?_getD,List.getElem?_take_of_lt hk8,←List.getD_eq_getElem?_getD]
  generalize s.take (s.length - 8)=a at *
  have hsp:a=a.take k++a.getD k 0::a.drop (k+1):=by
   rw [getD_lt hl]
   have:=List.take_append_drop k a
   rw [List.drop_eq_getElem_cons hl] at this
   exact this.symm
  have hset:a.set k x=a.take k++x::a.drop (k+1):=by
   rw [List.set_eq_take_append_cons_drop,if_pos hl]
  rw [hset] at h
  conv at h=>rhs;rw [hsp]
  have:=Oe (a.take k) (a.drop (k+1)) h
  exact hx (by rw [this,hg])
 ·have e2:(s.set k x).take (s.length - 8)=s.take (s.length - 8):=by
   rw [List.take_set,List.set_eq_of_length_le (by rw [List.length_take];omega)]
  rw [e2,hs] at h
  have hg:((s.set k x).drop (s.length - 8))[k - (s.length - 8)]?=(s.drop (s.length - 8))[k - (s.length - 8)]?:=by rw [h]
  rw [List.getElem?_drop,List.getElem?_drop,show s.length - 8+(k - (s.length - 8))=k by omega,List.getElem?_set_self hk,List.getElem?_eq_getElem hk] at hg
  have:=Option.some.inj hg
  exact hx (by rw [getD_lt hk];exact this)
theorem LP {w h:Nat} {p:List Bool} (kind:Int) {k:Nat} (hk:k<(dY w h p kind).length) {x:UInt8} (hx:x≠(dY w h p kind).getD k 0):(jc ((dY w h p kind).set k x)).e≠0:=by
 intro hd
 have hl:=oK w h p kind
 have hs:Og (dY w h p kind):=D9 w h p kind
 generalize dY w h p kind=E at *
 exact Oh hs (by omega) hk hx (Vx hd).1
theorem abN (a b:UInt8):gJ .xor .u8 (a.toNat:Int) (b.toNat:Int)=(((a ^^^ b:UInt8).toNat:Nat):Int):=by
 obtain ⟨e1,e2⟩:=zK a.toNat b.toNat a.toNat_lt b.toNat_lt
 show IntKind.u8.wrap (((BitVec.ofInt 8 (a.toNat:Int)) ^^^ (BitVec.ofInt 8 (b.toNat:Int))).toNat:Int)=_
 rw [BitVec.toNat_xor,e1,e2,UInt8.toNat_xor,lu]
 have h:a.toNat ^^^ b.toNat<256:=Nat.xor_lt_two_pow (n:=8) a.toNat_lt b.toNat_lt
 omega
theorem aaq {a b:UInt8} (hb:b≠0):a ^^^ b≠a:=by
 intro h
 apply hb
 apply UInt8.toNat_inj.1
 have h1:=congrArg UInt8.toNat h
 rw [UInt8.toNat_xor] at h1
 have:a.toNat ^^^ b.toNat=a.toNat ^^^ 0:=by rw [h1,Nat.xor_zero]
 have h2:a.toNat ^^^ (a.toNat ^^^ b.toNat)=a.toNat ^^^ (a.toNat ^^^ 0):=by rw [this]
 rw [←Nat.xor_assoc,←Nat.xor_assoc,Nat.xor_self,Nat.zero_xor,Nat.zero_xor] at h2
 rw [h2];rfl
theorem O4 (E:Bytes) (k:Nat) (x:UInt8):(aj E).set k (x.toNat:Int)=aj (E.set k x):=by unfold aj;rw [List.map_set]
theorem WX (at_:Int) {n:Nat} (h:0<n):0≤((at_.tmod n+n).tmod n:Int)∧((at_.tmod n+n).tmod n:Int)<n∧-(n:Int)<at_.tmod n∧at_.tmod n<n:=by
 have h1:-(n:Int)<at_.tmod n:=by
  have:=Int.lt_tmod_of_pos (a:=at_) (b:=n) (by omega)
  exact this
 have h2:at_.tmod n<n:=Int.tmod_lt_of_pos _ (by omega)
 refine ⟨Int.tmod_nonneg _ (by omega),Int.tmod_lt_of_pos _ (by omega),h1,h2⟩
end Go.Fv.H
