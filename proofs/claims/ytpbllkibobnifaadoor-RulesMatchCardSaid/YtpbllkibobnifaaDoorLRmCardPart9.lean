/-
  A part of the proof of the claim: walks over the program's functions and the plain laws that these need. No condition of its own.
-/
import Derived.Test.YtpbllkibobnifaaDoorLRmCardPart4
import Derived.Test.YtpbllkibobnifaaDoorLRmCardPart1
import Derived.Test.YtpbllkibobnifaaDoorLRmCardPart8
import Derived.Test.YtpbllkibobnifaaDoorFvPart11
import Derived.Test.YtpbllkibobnifaaDoorLRmCardPart3
import Derived.Test.YtpbllkibobnifaaDoorLRmCardPart2
import Derived.Test.YtpbllkibobnifaaDoorLRmCardPart6
set_option linter.unusedSimpArgs false
set_option linter.unusedVariables false
set_option linter.unnecessarySimpa false
set_option maxRecDepth 8000
/- The reference's RulesOf. -/
namespace Go.Fv.L
open Go Go.Proofs
def SN (w h:Nat) (p:List Bool):Nat × Item:=(0,.box 24 [.int .i64 w,.int .i64 h,.ro (.bools p)])
theorem V8 (d:Bool) (U:List (List Rn)) {i:Nat} (h:i<U.length):((U.map (nX d)).map Pz).getD i []=[.int .i64 (nX d (U.getD i [])).x,.int .i64 (nX d (U.getD i [])).y]:=by
 rw [getD_lt (by simpa using h),getD_lt h,List.getElem_map,List.getElem_map];rfl
theorem RG (d:Bool) (U:List (List Rn)) {i:Nat} (h:i<U.length):((U.map (iE d)).map Bx.av).getD i []=[.int .i64 (iE d (U.getD i [])).x,.int .i64 (iE d (U.getD i [])).y,.int .i64 (iE d (U.getD i [])).w,.int .i64 (iE d (U.getD i [])).h]:=by
 rw [getD_lt (by simpa using h),getD_lt h,List.getElem_map,List.getElem_map];rfl
set_option maxHeartbeats 16000000 in
theorem Lh (w h least:Nat) (p:List Bool) (hw1:1≤w) (hw:w≤100) (hh1:1≤h) (hh:h≤100) (hp:p.length=w*h) (hl:1≤least) (hl2:least≤4000)
  (c1 c2:Nat→Nat) (hc1:fG (nZ p w h least).length (fZ (nZ p w h least)) c1) (hc2:fG (nY p w h least).length (fZ (nY p w h least)) c2) :
  aU Tryd.prog 8 [.agg [.int .i64 w,.int .i64 h,.ro (.bools p)],.int .i64 least] (.own 0)
   [(0,.row 35 (rls (aO (jr (dG c1 (nZ p w h least) (nZ p w h least).length) (dG c2 (nY p w h least) (nY p w h least).length)))))]:=by
 have b1:(nZ p w h least).Pairwise Pv:=mM _ _ _ _
 have b2:(nY p w h least).Pairwise Pv:=mM _ _ _ _
 have m1:∀ r,r∈nZ p w h least→r.f<r.t∧r.t≤100∧r.y≤100:=fun r hr=>by
  have:=kE hr
  omega
 have m2:∀ r,r∈nY p w h least→r.f<r.t∧r.t≤100∧r.y≤100:=fun r hr=>by
  have:=kE hr
  omega
 have s1:=Jh (zJ b1) hc1
 have s2:=Jh (zJ b2) hc2
 have q1:=I8 w h least p hw1 hw hh1 hh hp hl hl2
 have q2:=I8 h w least (Jw p w h) hh1 hh hw1 hw (by rw [NV,Nat.mul_comm]) hl hl2
 have qa:=DI w h (by omega) (by omega) p hp
 rw [OY w h p hl] at q2
 have e1:(uN w h p least).map Xk=(dG c1 (nZ p w h least) (nZ p w h least).length).map (iE false):=Ji false s1
 have e2:(uN w h p least).map (WW (nZ p w h least))=(dG c1 (nZ p w h least) (nZ p w h least).length).map (nX false):=UD b1 (fun r hr=>(m1 r hr).1) hc1.le s1
 have e3:(yB w h p least).map Xk=(dG c2 (nY p w h least) (nY p w h least).length).map (iE false):=Ji false s2
 have kf:∀ g,g∈dG c2 (nY p w h least) (nY p w h least).length→Ig (iE true g) (yB w h p least)=nX true g:=fun g hg=>by
  have hg':=hg
  unfold dG at hg'
  obtain ⟨j,hj,rfl⟩:=List.mem_map.1 hg'
  obtain ⟨h1,h2⟩:=List.mem_filter.1 hj
  exact TP b2 hc2 (fun k hk=>(m2 _ (kQ hk)).1) (List.mem_range.1 h1) (by simpa using h2) s2 hg
 have r1:∀ g,g∈dG c1 (nZ p w h least) (nZ p w h least).length→∀ r,r∈g→zi r:=fun g hg r hr=>Vf (by omega) (by omega) r (wE hg r hr)
 have r2:∀ g,g∈dG c2 (nY p w h least) (nY p w h least).length→∀ r,r∈g→zi r:=fun g hg r hr=>Ve (by omega) (by omega) r (wE hg r hr)
 have kf2:∀ g,g∈dG c2 (nY p w h least) (nY p w h least).length→aU Tryd.prog 32 [.agg [.int .i64 w,.int .i64 h,.ro (.bools p)],.agg [.int .i64 (iE true g).x,.int .i64 (iE true g).y,.int .i64 (iE true g).w,.int .i64 (iE true g).h],.int .i64 least] (.agg (Pz (nX true g))) []:=fun g hg=>by
  have:=Kt w h least p (iE true g) hw1 hw hh1 hh hp hl hl2
  rwa [kf g hg] at this
 have n1:(nZ p w h least).length≤h*w:=fM _ _ _ _
 have n2:(nY p w h least).length≤w*h:=fM _ _ _ _
 have hb1:h*w≤10000:=Nat.mul_le_mul hh hw
 have hb2:w*h≤10000:=Nat.mul_le_mul hw hh
 have g1:=jq c1 (nZ p w h least) (nZ p w h least).length
 have g2:=jq c2 (nY p w h least) (nY p w h least).length
 unfold Wx WC at q1 q2
 rw [e3] at q2
 rw [show runs (nV p w) h w least=nZ p w h least from rfl,e1,e2] at q1
 generalize (yB w h p least).map (WW (runs (nV (Jw p w h) h) w h least))=PP at q2
 clear kf e1 e2 e3 s1 s2 b1 b2 m1 m2 hc1 hc2
 generalize dG c1 (nZ p w h least) (nZ p w h least).length=U1 at *
 generalize dG c2 (nY p w h least) (nY p w h least).length=U2 at *
 obtain ⟨Q1,hQ1⟩:∃ q,q=U1.map (nX false):=⟨_,rfl⟩
 obtain ⟨B1,hB1⟩:∃ q,q=U1.map (iE false):=⟨_,rfl⟩
 obtain ⟨B2,hB2⟩:∃ q,q=U2.map (iE false):=⟨_,rfl⟩
 rw [←hQ1,←hB1] at q1
 rw [←hB2] at q2
 have l1:Q1.length=U1.length:=by rw [hQ1,List.length_map]
 have l2:B1.length=U1.length:=by rw [hB1,List.length_map]
 have l3:B2.length=U2.length:=by rw [hB2,List.length_map]
 have hall:=xR U1 U2
 have ks:=Bz _ Je (jr U1 U2) (by omega) (Bg _ _)
 have hsl:=dB (jr U1 U2)
 unfold jr at ks hall hsl ⊢
 generalize aO (oL false 0 U1++oL true U1.length U2)=Z at *
 refine aU.aY Tryd.func8 rfl (by decide) (by simp [Tryd.f8]) [.tmp 4] rfl fun w0 T0 _=>?_
 simp only [Tryd.f8,aK]
 (repeat' with_reducible first|intro _|exact dn|refine rn ?_|refine ra ?_ ?_)
 refine aj.ro (.tup [.ro (SI B1),.ro (.objs 2 (Q1.map Pz))]) (dW.dP q1 rfl (by simp [dR,dQ,gq,fK,iL,aG,Bx.av,Pz])) (by simp only [aG,aV,dI,bf,aH,List.drop_zero,lk,reduceIte,reduceCtorEq,Nat.reduceEqDiff,Option.some.injEq,Item.row.injEq,Item.box.injEq,AV.ro.injEq,exists_eq_left,exists_and_left,exists_eq_left',exists_eq_right,and_assoc,and_true,true_and,List.cons.injEq,exists_eq',exists_eq,aG]) (by simp [gX,aV,bf,dI,aH,lk,aG]) rfl ?_
 (repeat' with_reducible first|intro _|refine rz ?_|refine ra ?_ ?_|omega|simp only [go_sem,List.length_map,l2])
 refine aJ.intro (fun i:Nat=>⟨88,[(1,.int .i64 least),(2,.ptr 0 0),(5,.own 1),(6,.ro (SI B1)),(7,.ro (.objs 2 (Q1.map Pz))),(22,.ro (SI B1)),(23,.int .i64 U1.length),(24,.int .i64 i)],[SN w h p,(1,.row 72 (aC (oL false 0 (U1.take i))))],2⟩) (fun i=>i≤U1.length) (fun i=>U1.length - i) 0 ?_ (Nat.zero_le _) fun i hi=>?_
 ·refine aS.aB rfl ?_ ?_<;>simp only [go_sem,Int.natCast_succ,oL,aC,SN,List.map_nil]
  all_goals trace_state
 by_cases hlt:i<U1.length
 case pos=>
  have f1:((i:Int)<(U1.length:Int))=True:=eq_true (by omega)
  have hg:=r1 (U1.getD i []) (by rw [getD_lt hlt];exact List.getElem_mem hlt)
  have ht:=wF false U1 0 hlt
  have hav:=zF (i:=0+i) (B:=iE false (U1.getD i [])) (d:=false) (P:=nX false (U1.getD i [])) (NC false hg)
  have hln:=jS false (U1.take i) 0
  rw [List.length_take] at hln
  have hb:=RG false U1 hlt
  rw [←hB1] at hb
  have hq:=V8 false U1 hlt
  rw [←hQ1] at hq
  generalize y5 (0+i) (iE false (U1.getD i [])) false (nX false (U1.getD i []))=E at *
  generalize iE false (U1.getD i [])=B at *
  generalize nX false (U1.getD i [])=Q at *
  generalize oL false 0 (U1.take i)=Y at *
  (repeat' with_reducible first|intro _|refine rz ?_|refine ra ?_ ?_|omega|simp only [go_sem,f1,aN,hb,List.length_map,l2,SN])
  refine aP.lex [8,9] [(0,[1])] (by kernel_rfl) (by kernel_rfl) ?_
  (repeat' with_reducible first|intro _|refine rz ?_|refine ra ?_ ?_|omega|simp only [go_sem,f1,aN,hb,hq,List.length_map,l1,l2,SN,aC])
  refine ⟨i+1,aS.aB rfl ?_ ?_,by omega,by omega⟩<;>simp only [go_sem,Int.natCast_succ,ht,aC]
  rw [←hav];simp
 have e:i=U1.length:=by omega
 subst e
 have f1:((U1.length:Int)<(U1.length:Int))=False:=eq_false (by omega)
 rw [List.take_length]
 have hl1:=jS false U1 0
 generalize oL false 0 U1=X at *
 (repeat' with_reducible first|intro _|refine rz ?_|refine ra ?_ ?_|omega|simp only [go_sem,f1,SN])
 refine aj.ro (.agg [.int .i64 h,.int .i64 w,.ro (.bools (Jw p w h))]) (dW.dP qa rfl (by simp [dR,dQ,gq,fK,iL,aG])) (by simp only [aG,aV,dI,bf,aH,List.drop_zero,lk,reduceIte,reduceCtorEq,Nat.reduceEqDiff,Option.some.injEq,Item.row.injEq,Item.box.injEq,AV.ro.injEq,exists_eq_left,exists_and_left,exists_eq_left',exists_eq_right,and_assoc,and_true,true_and,List.cons.injEq,exists_eq',exists_eq,aG]) (by simp [gX,aV,bf,dI,aH,lk,aG]) rfl ?_
 (repeat' with_reducible first|intro _|exact dn|refine rn ?_|refine ra ?_ ?_)
 refine aj.ro (.tup [.ro (SI B2),.ro (.objs 2 (PP.map Pz))]) (dW.dP q2 rfl (by simp [dR,dQ,gq,fK,iL,aG,Bx.av,Pz])) (by simp only [aG,aV,dI,bf,aH,List.drop_zero,lk,reduceIte,reduceCtorEq,Nat.reduceEqDiff,Option.some.injEq,Item.row.injEq,Item.box.injEq,AV.ro.injEq,exists_eq_left,exists_and_left,exists_eq_left',exists_eq_right,and_assoc,and_true,true_and,List.cons.injEq,exists_eq',exists_eq,aG]) (by simp [gX,aV,bf,dI,aH,lk,aG]) rfl ?_
 (repeat' with_reducible first|intro _|refine rz ?_|refine ra ?_ ?_|omega|simp only [go_sem,List.length_map,l3])
 refine aJ.intro (fun i:Nat=>⟨88,[(1,.int .i64 least),(2,.ptr 0 0),(5,.own 1),(47,.ro (SI B2)),(48,.int .i64 U2.length),(49,.int .i64 i)],[SN w h p,(1,.row 72 (aC (X++oL true U1.length (U2.take i))))],2⟩) (fun i=>i≤U2.length) (fun i=>U2.length - i) 0 ?_ (Nat.zero_le _) fun i hi=>?_
 ·refine aS.aB rfl ?_ ?_<;>simp only [go_sem,Int.natCast_succ,oL,aC,SN]
  all_goals trace_state
 by_cases hlt:i<U2.length
 case pos=>
  have f1:((i:Int)<(U2.length:Int))=True:=eq_true (by omega)
  have hmem:U2.getD i []∈U2:=by rw [getD_lt hlt];exact List.getElem_mem hlt
  have hg:=r2 (U2.getD i []) hmem
  have kF:=kf2 (U2.getD i []) hmem
  have ht:=wF true U2 U1.length hlt
  have hav:=zF (i:=U1.length+i) (B:=iE true (U2.getD i [])) (d:=true) (P:=nX true (U2.getD i [])) (NC true hg)
  have hln:=jS true (U2.take i) U1.length
  rw [List.length_take] at hln
  have hb:=RG false U2 hlt
  rw [←hB2] at hb
  have htn:=SA (U2.getD i [])
  rw [←htn] at hav kF ht
  generalize y5 (U1.length+i) (iE false (U2.getD i [])).turn true (nX true (U2.getD i []))=E at *
  generalize iE false (U2.getD i [])=B at *
  generalize nX true (U2.getD i [])=Q at *
  generalize oL true U1.length (U2.take i)=Y at *
  obtain ⟨bx,bY,bw,bh⟩:=B
  obtain ⟨qx,qy⟩:=Q
  unfold Bx.turn at hav kF
  dsimp only [Pz] at hav kF hb
  (repeat' with_reducible first|intro _|refine rz ?_|refine ra ?_ ?_|omega|simp only [go_sem,f1,aN,hb,List.length_map,l3,SN])
  refine aP.lex [8,9] [(0,[1])] (by kernel_rfl) (by kernel_rfl) ?_
  (repeat' with_reducible first|intro _|exact dn|refine rn ?_|refine ra ?_ ?_)
  refine QV.intro (.agg [.int .i64 qx,.int .i64 qy]) ?_ ?_
  ·(repeat' with_reducible first|intro _|exact dn|refine rn ?_|refine ra ?_ ?_)
   refine aj.k kF ?_
   (repeat' with_reducible first|intro _|exact dn|refine rn ?_|refine ra ?_ ?_)
  (repeat' with_reducible first|intro _|refine rz ?_|refine ra ?_ ?_|omega|simp only [go_sem,List.length_map,aC])
  refine ⟨i+1,aS.aB rfl ?_ ?_,by omega,by omega⟩<;>simp only [go_sem,Int.natCast_succ,ht,aC,SN]
  rw [←hav];simp
 have e:i=U2.length:=by omega
 subst e
 have f1:((U2.length:Int)<(U2.length:Int))=False:=eq_false (by omega)
 rw [List.take_length]
 generalize X++oL true U1.length U2=Y at *
 unfold aC at ks
 (repeat' with_reducible first|intro _|refine rz ?_|refine ra ?_ ?_|omega|simp only [go_sem,f1,SN,aC])
 refine aj.i [1] ks 1 ?_
 (repeat' with_reducible first|intro _|refine rz ?_|refine ra ?_ ?_|omega|simp only [go_sem,List.length_map])
 refine aJ.intro (fun i:Nat=>⟨88,[(13,.own 2),(75,.own 1),(76,.int .i64 Z.length),(77,.int .i64 i)],[(1,.row 72 (aC Z)),(2,.row 35 (rls (Z.take i)))],3⟩) (fun i=>i≤Z.length) (fun i=>Z.length - i) 0 ?_ (Nat.zero_le _) fun i hi=>?_
 ·refine aS.aB rfl ?_ ?_<;>simp only [go_sem,Int.natCast_succ,List.map_nil,aC]
  all_goals trace_state
 by_cases hlt:i<Z.length
 case neg=>
  have e:i=Z.length:=by omega
  subst e
  have f3:((Z.length:Int)<(Z.length:Int))=False:=eq_false (by omega)
  rw [List.take_length]
  (repeat' with_reducible first|intro _|refine rz ?_|refine ra ?_ ?_|omega|simp only [go_sem,f3])
  refine eP.auto 1 ?_ rfl ?_<;>simp only [go_sem,Int.natCast_succ,Post]
  all_goals trace_state
 have f3:((i:Int)<(Z.length:Int))=True:=eq_true (by omega)
 have he:=Nv Z hlt
 have ht:=Jc Z hlt
 generalize Z.getD i Pl.zero=z at *
 (repeat' with_reducible first|intro _|refine rz ?_|refine ra ?_ ?_|omega|simp only [go_sem,f3,aC,aN,he,List.length_map,List.length_take])
 refine ⟨i+1,aS.aB rfl ?_ ?_,by omega,by omega⟩<;>simp only [go_sem,Int.natCast_succ,aC]
 exact ht.symm
end Go.Fv.L
/- slices.IndexFunc and ContainsFunc of integers. -/
namespace Go.Fv.L
open Go Go.Proofs
end Go.Fv.L
/-! Gaps out of their range: the walk. -/
namespace Go.Fv.L
open Go Go.Proofs
def jk:List Int→Int
 | []=>0
 | e::l=>if e=0 then jk l else e
set_option maxHeartbeats 2000000 in
theorem Ih (l:List Int) (hl:l.length≤1000):aU Tryd.prog 10 [.ro (.ints .i64 l)] (.int .i64 (jk l)) []:=by
 refine aU.aY Tryd.func10 rfl (by decide) (by simp [Tryd.f10]) [.tmp 2] rfl fun w0 T0 _=>?_
 simp only [Tryd.f10,aK]
 (repeat' with_reducible first|intro _|exact dn|refine rn ?_|refine ra ?_ ?_)
 refine aJ.intro (fun i:Nat=>⟨15,[(7,.int .i64 i),(6,.int .i64 l.length),(5,.ro (.ints .i64 l))],[],0⟩) (fun i=>i≤l.length∧jk (l.drop i)=jk l) (fun i=>l.length - i) 0 ?_ ⟨Nat.zero_le _,rfl⟩ fun i hi=>?_
 ·refine aS.aB rfl ?_ ?_<;>simp only [go_sem,Int.natCast_succ]
 obtain ⟨hi,he⟩:=hi
 (repeat' with_reducible first|intro _|exact dn|refine rn ?_|refine ra ?_ ?_)
 ·have hlt:i<l.length:=by omega
  have hd:l.drop i=l.getD i 0::l.drop (i+1):=by rw [List.drop_eq_getElem_cons hlt,getD_lt hlt]
  rw [hd,jk,if_neg (by omega)] at he
  rw [←he]
  refine eP.auto 0 ?_ rfl ?_<;>simp only [go_sem,Int.natCast_succ,Post]
 ·have hlt:i<l.length:=by omega
  have hd:l.drop i=l.getD i 0::l.drop (i+1):=by rw [List.drop_eq_getElem_cons hlt,getD_lt hlt]
  rw [hd,jk,if_pos (by omega)] at he
  refine ⟨i+1,aS.aB rfl ?_ ?_,⟨by omega,he⟩,by omega⟩<;>simp only [go_sem,Int.natCast_succ]
  all_goals rfl
 ·have e:i=l.length:=by omega
  subst e
  rw [List.drop_length] at he
  rw [←he]
  refine eP.auto 0 ?_ rfl ?_<;>simp only [go_sem,Int.natCast_succ,Post,jk]
end Go.Fv.L
/-! The arguments of Split: a box of a page and gaps. -/
namespace Go.Fv.L
open Go Go.Proofs
def jC (w h X Y W H:Int):Prop:=1≤W∧1≤H∧0≤X∧0≤Y∧X+W≤w∧Y+H≤h
instance (w h X Y W H:Int):Decidable (jC w h X Y W H):=inferInstanceAs (Decidable (_∧_))
set_option maxHeartbeats 2000000 in
theorem Au (w h:Nat) (hw1:1≤w) (hw:w≤4000) (hh1:1≤h) (hh:h≤4000) (X Y W H:Int) :
  aU Tryd.prog 36 [.agg [.int .i64 X,.int .i64 Y,.int .i64 W,.int .i64 H],.int .i64 w,.int .i64 h] (.int .i64 (if jC w h X Y W H then 0 else 13)) []:=by
 refine aU.aY Tryd.func36 rfl (by decide) (by simp [Tryd.f36]) [.tmp 6] rfl fun w0 T0 _=>?_
 simp only [Tryd.f36,aK]
 by_cases hb:jC w h X Y W H
 ·rw [if_pos hb]
  unfold jC at hb
  (repeat' with_reducible first|intro _|exact dn|refine rn ?_|refine ra ?_ ?_)
  all_goals refine eP.auto 0 ?_ rfl ?_<;>simp only [go_sem,Int.natCast_succ,Post]
 ·rw [if_neg hb]
  unfold jC at hb
  (repeat' with_reducible first|intro _|exact dn|refine rn ?_|refine ra ?_ ?_)
  all_goals refine eP.auto 0 ?_ rfl ?_<;>simp only [go_sem,Int.natCast_succ,Post]
theorem xU (n lo hi:Int) (q:Bool) (hq:decide (lo≤n∧n≤hi)=q):aU Tryd.prog 35 [.int .i64 n,.int .i64 lo,.int .i64 hi] (.bool q) []:=by
 rw [←hq];exact oM n lo hi
set_option maxHeartbeats 4000000 in
theorem FQ (w h:Nat) (hw1:1≤w) (hw:w≤4000) (hh1:1≤h) (hh:h≤4000) (X Y W H:Int) :
  aU Tryd.prog 12 [.agg [.int .i64 X,.int .i64 Y,.int .i64 W,.int .i64 H],.int .i64 w,.int .i64 h] (.bool (decide (jC w h X Y W H))) []:=by
 refine aU.aY Tryd.func12 rfl (by decide) (by simp [Tryd.f12]) [.tmp 6] rfl fun w0 T0 _=>?_
 simp only [Tryd.f12,aK]
 (repeat' with_reducible first|intro _|exact dn|refine rn ?_|refine ra ?_ ?_)
 by_cases h1:0≤X∧X≤(w:Int) - 1
 ·have k1:=xU X 0 ((w:Int) - 1) true (decide_eq_true h1)
  refine aj.k k1 ?_
  (repeat' with_reducible first|intro _|exact dn|refine rn ?_|refine ra ?_ ?_)
  by_cases h2:0≤Y∧Y≤(h:Int) - 1
  ·have k2:=xU Y 0 ((h:Int) - 1) true (decide_eq_true h2)
   refine aj.k k2 ?_
   (repeat' with_reducible first|intro _|exact dn|refine rn ?_|refine ra ?_ ?_)
   by_cases h3:1≤W∧W≤(w:Int) - X
   ·have k3:=xU W 1 ((w:Int) - X) true (decide_eq_true h3)
    refine aj.k k3 ?_
    (repeat' with_reducible first|intro _|exact dn|refine rn ?_|refine ra ?_ ?_)
    have k4:=oM H 1 ((h:Int) - Y)
    rw [show decide (1≤H∧H≤(h:Int) - Y)=decide (jC w h X Y W H) from decide_eq_decide.2 (by unfold jC;omega)] at k4
    refine aj.k k4 ?_
    (repeat' with_reducible first|intro _|exact dn|refine rn ?_|refine ra ?_ ?_)
    refine eP.auto 0 ?_ rfl ?_<;>simp only [go_sem,Int.natCast_succ,Post]
   ·have k3:=xU W 1 ((w:Int) - X) false (decide_eq_false h3)
    rw [show decide (jC w h X Y W H)=false from decide_eq_false (by unfold jC;omega)]
    refine aj.k k3 ?_
    (repeat' with_reducible first|intro _|exact dn|refine rn ?_|refine ra ?_ ?_)
    refine eP.auto 0 ?_ rfl ?_<;>simp only [go_sem,Int.natCast_succ,Post]
  ·have k2:=xU Y 0 ((h:Int) - 1) false (decide_eq_false h2)
   rw [show decide (jC w h X Y W H)=false from decide_eq_false (by unfold jC;omega)]
   refine aj.k k2 ?_
   (repeat' with_reducible first|intro _|exact dn|refine rn ?_|refine ra ?_ ?_)
   refine eP.auto 0 ?_ rfl ?_<;>simp only [go_sem,Int.natCast_succ,Post]
 ·have k1:=xU X 0 ((w:Int) - 1) false (decide_eq_false h1)
  rw [show decide (jC w h X Y W H)=false from decide_eq_false (by unfold jC;omega)]
  refine aj.k k1 ?_
  (repeat' with_reducible first|intro _|exact dn|refine rn ?_|refine ra ?_ ?_)
  refine eP.auto 0 ?_ rfl ?_<;>simp only [go_sem,Int.natCast_succ,Post]
end Go.Fv.L
/- A page without rails, in plain words. -/
namespace Go.Fv.L
open Go Go.Proofs
def dO (x y w:Nat):Bool→Nat→Nat→Nat
 | true,line,k=>(y+k)*w+x+line
 | false,line,k=>(y+line)*w+x+k
def IJ (bw bh:Nat):Bool→Nat
 | true=>bw
 | false=>bh
def zD (bw bh:Nat):Bool→Nat
 | true=>bh
 | false=>bw
def qp (p:List Bool) (x y w:Nat) (d:Bool) (line k:Nat):Bool:=p.getD (dO x y w d line k) false
def fF (c:Nat→Nat) (q:List Bool) (f:Nat):Nat→List Bool
 | 0=>q
 | n+1=>(fF c q f n).set (c (f+n)) false
theorem jW (c:Nat→Nat) (q:List Bool) (f:Nat):∀ n,(fF c q f n).length=q.length
 | 0=>rfl
 | n+1=>by unfold fF;rw [List.length_set,jW c q f n]
def Oj (c:Nat→Nat→Nat) (q:List Bool) (u:Rn):List Bool:=fF (c u.y) q u.f (u.t - u.f)
theorem Qh (c:Nat→Nat→Nat) (q:List Bool) (u:Rn):(Oj c q u).length=q.length:=jW _ _ _ _
def nU (c:Nat→Nat→Nat) (q:List Bool) (l:List Rn):List Bool:=l.foldl (Oj c) q
theorem nN (c:Nat→Nat→Nat):∀ (l:List Rn) (q:List Bool),(nU c q l).length=q.length
 | [],_=>rfl
 | u::l,q=>by
  show (nU c (Oj c q u) l).length=_
  rw [nN c l,Qh]
theorem JJ (c:Nat→Nat→Nat) (q:List Bool) (l:List Rn) {i:Nat} (h:i<l.length):nU c q (l.take (i+1))=Oj c (nU c q (l.take i)) (l.getD i Rn.zero):=by
 unfold nU
 rw [List.take_succ_eq_append_getElem h,List.foldl_append,getD_lt h];rfl
theorem zM (c:Nat→Nat→Nat) (q:List Bool) (a b:List Rn):nU c q (a++b)=nU c (nU c q a) b:=List.foldl_append
def Yd (p:List Bool) (w x y bw bh:Nat) (d:Bool) (q:List Bool):List Bool:=nU (dO x y w d) q (runs (qp p x y w d) (IJ bw bh d) (zD bw bh d) ((zD bw bh d+1) / 2))
def WG (p:List Bool) (w:Nat) (q:List Bool) (r:Pl):List Bool:=Yd p w r.a1.toNat r.a2.toNat r.a3.toNat r.a4.toNat r.dn q
theorem UR (p:List Bool) (w:Nat) (q:List Bool) (r:Pl):(WG p w q r).length=q.length:=nN _ _ _
def NZ (p:List Bool) (w:Nat) (L:List Pl):List Bool:=L.foldl (WG p w) p
theorem JI (p:List Bool) (w:Nat) (L:List Pl) {i:Nat} (h:i<L.length):NZ p w (L.take (i+1))=WG p w (NZ p w (L.take i)) (L.getD i Pl.zero):=by
 unfold NZ
 rw [List.take_succ_eq_append_getElem h,List.foldl_append,getD_lt h];rfl
theorem N7 (p:List Bool) (w:Nat) (L:List Pl):(NZ p w L).length=p.length:=by
 unfold NZ
 have:∀ (L:List Pl) (q:List Bool),(L.foldl (WG p w) q).length=q.length:=by
  intro L
  induction L with
  | nil=>intro q;rfl
  | cons r L ih=>intro q;rw [List.foldl_cons,ih,UR]
 exact this L p
def lX (w h:Nat) (r:Pl):Prop:=jC w h r.a1 r.a2 r.a3 r.a4
instance (w h:Nat) (r:Pl):Decidable (lX w h r):=inferInstanceAs (Decidable (jC _ _ _ _ _ _))
theorem rl_elem (l:List Pl) {i:Nat} (h:i<l.length):(l.map uP).getD i []=[.int .i64 (l.getD i Pl.zero).a1,.int .i64 (l.getD i Pl.zero).a2,.int .i64 (l.getD i Pl.zero).a3,.int .i64 (l.getD i Pl.zero).a4,.bool (l.getD i Pl.zero).dn]:=by
 rw [getD_lt (by simpa using h),getD_lt h,List.getElem_map];rfl
theorem PZ {w h x y bw bh:Nat} (hx:x+bw≤w) (hy:y+bh≤h) {d:Bool} {line k:Nat} (hl:line<IJ bw bh d) (hk:k<zD bw bh d):dO x y w d line k<w*h:=by
 cases d with
 | true=>
  unfold IJ at hl;unfold zD at hk;unfold dO
  dsimp only at *
  have h1:(y+k+1)*w≤h*w:=Nat.mul_le_mul_right w (by omega)
  rw [Nat.succ_mul,Nat.mul_comm h w] at h1
  omega
 | false=>
  unfold IJ at hl;unfold zD at hk;unfold dO
  dsimp only at *
  have h1:(y+line+1)*w≤h*w:=Nat.mul_le_mul_right w (by omega)
  rw [Nat.succ_mul,Nat.mul_comm h w] at h1
  omega
end Go.Fv.L
/- The closures of Without. -/
namespace Go.Fv.L
open Go Go.Proofs
def fX:Bool→Nat
 | true=>39
 | false=>38
theorem UQ (w h x y bw bh line k:Nat) (p:List Bool) (hw:w≤1000) (hx:x≤1000) (hy:y≤1000) (hl:line≤1000) (hk:k≤1000) (d:Bool) :
  aU Tryd.prog (fX d) [.int .i64 line,.int .i64 k,.cell [.int .i64 x,.int .i64 y,.int .i64 bw,.int .i64 bh],.cell [.int .i64 w,.int .i64 h,.ro (.bools p)]] (.int .i64 (dO x y w d line k:Nat)) []:=by
 cases d with
 | true=>
  have hb:(y+k)*w≤2000*1000:=Nat.mul_le_mul (by omega) hw
  have ha:(y:Int)+(k:Int)=((y+k:Nat):Int):=by omega
  have hm:((y+k:Nat):Int)*(w:Int)=(((y+k)*w:Nat):Int):=by simp
  have hc:(((y+k)*w:Nat):Int)+(x:Int)=(((y+k)*w+x:Nat):Int):=by omega
  have hd:(((y+k)*w+x:Nat):Int)+(line:Int)=(((y+k)*w+x+line:Nat):Int):=by omega
  refine aU.aY Tryd.func39 rfl (by decide) (by simp [Tryd.f39]) [.tmp 6] rfl fun w0 T0 _=>?_
  simp only [Tryd.f39,aK]
  (repeat' with_reducible first|intro _|refine rz ?_|refine ra ?_ ?_|omega|simp only [go_sem,ha,hm,hc,hd])
  refine eP.auto 0 ?_ rfl ?_<;>simp only [go_sem,Int.natCast_succ,Post,dO]
 | false=>
  have hb:(y+line)*w≤2000*1000:=Nat.mul_le_mul (by omega) hw
  have ha:(y:Int)+(line:Int)=((y+line:Nat):Int):=by omega
  have hm:((y+line:Nat):Int)*(w:Int)=(((y+line)*w:Nat):Int):=by simp
  have hc:(((y+line)*w:Nat):Int)+(x:Int)=(((y+line)*w+x:Nat):Int):=by omega
  have hd:(((y+line)*w+x:Nat):Int)+(k:Int)=(((y+line)*w+x+k:Nat):Int):=by omega
  refine aU.aY Tryd.func38 rfl (by decide) (by simp [Tryd.f38]) [.tmp 6] rfl fun w0 T0 _=>?_
  simp only [Tryd.f38,aK]
  (repeat' with_reducible first|intro _|refine rz ?_|refine ra ?_ ?_|omega|simp only [go_sem,ha,hm,hc,hd])
  refine eP.auto 0 ?_ rfl ?_<;>simp only [go_sem,Int.natCast_succ,Post,dO]
theorem SG (w h line k at' f:Nat) (p:List Bool) (caps:List AV) (hc:caps.all (jm 3)=true) (ha:at'<p.length) (hp:p.length≤1000000) (hq:dW Tryd.prog f ([.int .i64 line,.int .i64 k]++caps) (.int .i64 at') []) :
  aU Tryd.prog 40 [.int .i64 line,.int .i64 k,.cell [.int .i64 w,.int .i64 h,.ro (.bools p)],.cell [.fn f caps]] (.bool (p.getD at' false)) []:=by
 haveI:=ES hc
 refine aU.aY Tryd.func40 rfl (by decide) (by simp [Tryd.f40]) [.tmp 6] rfl fun w0 T0 _=>?_
 simp only [Tryd.f40,aK]
 (repeat' with_reducible first|intro _|exact dn|refine rn ?_|refine ra ?_ ?_)
 refine aP.lex [8] [] (by kernel_rfl) (by kernel_rfl) ?_
 (repeat' with_reducible first|intro _|exact dn|refine rn ?_|refine ra ?_ ?_)
 refine QV.intro (.int .i64 at') ?_ ?_
 ·(repeat' with_reducible first|intro _|exact dn|refine rn ?_|refine ra ?_ ?_)
  refine aj.fr (args':=[.int .i64 line,.int .i64 k]++caps) hq (by simp [aV,bf,aH,iO]) 0 rfl (by simp [bn]) ?_
  (repeat' with_reducible first|intro _|exact dn|refine rn ?_|refine ra ?_ ?_)
 (repeat' with_reducible first|intro _|refine rz ?_|refine ra ?_ ?_|omega|simp only [go_sem,Int.toNat_natCast])
 refine eP.auto 0 ?_ rfl ?_<;>simp only [go_sem,Int.natCast_succ,Post]
theorem tH (l:List Bool) (hl:l.length≤137438953472):aU Tryd.prog 37 [.ro (.bools l)] (.own 0) [(0,.row 4 (.bools l))]:=by
 refine aU.aY Tryd.func37 rfl (by decide) (by simp [Tryd.f37]) [.tmp 2] rfl fun w0 T0 _=>?_
 simp only [Tryd.f37,aK]
 (repeat' with_reducible first|intro _|exact dn|refine rn ?_|refine ra ?_ ?_)
 ·rename_i h
  have:l=[]:=List.eq_nil_of_length_eq_zero h
  refine eP.auto 1 ?_ rfl ?_<;>simp only [go_sem,Int.natCast_succ,Post,this]
 ·refine eP.auto 1 ?_ rfl ?_<;>simp only [go_sem,Int.natCast_succ,Post]
end Go.Fv.L
/- Without. -/
namespace Go.Fv.L
open Go Go.Proofs
set_option maxHeartbeats 16000000 in
theorem LV (w h:Nat) (hw1:1≤w) (hw:w≤100) (hh1:1≤h) (hh:h≤100) (p:List Bool) (hp:p.length=w*h) (L:List Pl) (hL:∀ r,r∈L→lX w h r) :
  aU Tryd.prog 13 [.agg [.int .i64 w,.int .i64 h,.ro (.bools p)],.ro (rls L)] (.tup [.agg [.int .i64 w,.int .i64 h,.own 0],.int .i64 0]) [(0,.row 4 (.bools (NZ p w L)))]:=by
 have hb2:w*h≤10000:=Nat.mul_le_mul hw hh
 have k0:=lu w h p
 rw [lF hw1 (by omega) hh1 (by omega) hp] at k0
 have kc:=tH p (by omega)
 have hin:∀ i,i<L.length→lX w h (L.getD i Pl.zero):=fun i hi=>hL _ (by rw [getD_lt hi];exact List.getElem_mem hi)
 refine aU.aY Tryd.func13 rfl (by decide) (by simp [Tryd.f13]) [.cell 4 24,.tmp 5] rfl fun w0 T0 _=>?_
 simp only [Tryd.f13,aK]
 (repeat' with_reducible first|intro _|exact dn|refine rn ?_|refine ra ?_ ?_)
 refine aj.k k0 ?_
 (repeat' with_reducible first|intro _|refine rz ?_|refine ra ?_ ?_|omega|simp only [go_sem,List.length_map])
 refine aJ.intro (fun i:Nat=>⟨103,[(1,.ro (rls L)),(2,.ptr 0 0),(4,.ptr 1 0),(26,.ro (rls L)),(27,.int .i64 L.length),(28,.int .i64 i)],[(0,.box 24 [.int .i64 w,.int .i64 h,.ro (.bools p)]),(1,.box 24 [.int .i64 0,.int .i64 0,.nilS])],2⟩) (fun i=>i≤L.length) (fun i=>L.length - i) 0 ?_ (Nat.zero_le _) fun i hi=>?_
 ·refine aS.aB rfl ?_ ?_<;>simp only [go_sem,Int.natCast_succ]
 by_cases hlt:i<L.length
 case pos=>
  have f1:((i:Int)<(L.length:Int))=True:=eq_true (by omega)
  have he:=rl_elem L hlt
  have hi1:=hin i hlt
  unfold lX at hi1
  have kp:=Au w h hw1 (by omega) hh1 (by omega) (L.getD i Pl.zero).a1 (L.getD i Pl.zero).a2 (L.getD i Pl.zero).a3 (L.getD i Pl.zero).a4
  rw [if_pos hi1] at kp
  (repeat' with_reducible first|intro _|refine rz ?_|refine ra ?_ ?_|omega|simp only [go_sem,f1,aN,he,List.length_map])
  refine aj.k kp ?_
  (repeat' with_reducible first|intro _|refine rz ?_|refine ra ?_ ?_|omega|simp only [go_sem,f1,aN,he,List.length_map])
  refine ⟨i+1,aS.aB rfl ?_ ?_,by omega,by omega⟩<;>simp only [go_sem,Int.natCast_succ]
 have e:i=L.length:=by omega
 subst e
 have f1:((L.length:Int)<(L.length:Int))=False:=eq_false (by omega)
 (repeat' with_reducible first|intro _|refine rz ?_|refine ra ?_ ?_|omega|simp only [go_sem,f1])
 refine aP.cut (.first 0 (.first 2 (.first 4 (.cons 1 (.cons 3 (.cons 5 (.cons 6 (.cons 7 (.cons 8 (.cons 9 .done .stop) .stop) (.cons 8 (.cons 7 (.cons 9 .done .stop) .stop) .stop)) (.cons 8 (.cons 6 (.cons 7 (.cons 9 .done .stop) .stop) .stop) .stop)) (.cons 8 (.cons 5 (.cons 6 (.cons 7 (.cons 9 .done .stop) .stop) .stop) .stop) .stop)) (.cons 5 (.cons 3 (.cons 6 (.cons 7 (.cons 8 (.cons 9 .done .stop) .stop) (.cons 8 (.cons 7 (.cons 9 .done .stop) .stop) .stop)) (.cons 8 (.cons 6 (.cons 7 (.cons 9 .done .stop) .stop) .stop) .stop)) (.cons 6 (.cons 3 (.cons 7 (.cons 8 (.cons 9 .done .stop) .stop) (.cons 8 (.cons 7 (.cons 9 .done .stop) .stop) .stop)) (.cons 8 (.cons 3 (.cons 7 (.cons 9 .done .stop) .stop) .stop) .stop)) (.cons 8 (.cons 3 (.cons 6 (.cons 7 (.cons 9 .done .stop) .stop) .stop) (.cons 6 (.cons 3 (.cons 7 (.cons 9 .done .stop) .stop) .stop) .stop)) .stop))) (.cons 8 (.cons 3 (.cons 5 (.cons 6 (.cons 7 (.cons 9 .done .stop) .stop) .stop) .stop) (.cons 5 (.cons 3 (.cons 6 (.cons 7 (.cons 9 .done .stop) .stop) .stop) (.cons 6 (.cons 3 (.cons 7 (.cons 9 .done .stop) .stop) .stop) .stop)) .stop)) .stop))) (.cons 3 (.cons 1 (.cons 5 (.cons 6 (.cons 7 (.cons 8 (.cons 9 .done .stop) .stop) (.cons 8 (.cons 7 (.cons 9 .done .stop) .stop) .stop)) (.cons 8 (.cons 6 (.cons 7 (.cons 9 .done .stop) .stop) .stop) .stop)) (.cons 8 (.cons 5 (.cons 6 (.cons 7 (.cons 9 .done .stop) .stop) .stop) .stop) .stop)) (.cons 5 (.cons 1 (.cons 6 (.cons 7 (.cons 8 (.cons 9 .done .stop) .stop) (.cons 8 (.cons 7 (.cons 9 .done .stop) .stop) .stop)) (.cons 8 (.cons 6 (.cons 7 (.cons 9 .done .stop) .stop) .stop) .stop)) (.cons 6 (.cons 1 (.cons 7 (.cons 8 (.cons 9 .done .stop) .stop) (.cons 8 (.cons 7 (.cons 9 .done .stop) .stop) .stop)) (.cons 8 (.cons 1 (.cons 7 (.cons 9 .done .stop) .stop) .stop) .stop)) (.cons 8 (.cons 1 (.cons 6 (.cons 7 (.cons 9 .done .stop) .stop) .stop) (.cons 6 (.cons 1 (.cons 7 (.cons 9 .done .stop) .stop) .stop) .stop)) .stop))) (.cons 8 (.cons 1 (.cons 5 (.cons 6 (.cons 7 (.cons 9 .done .stop) .stop) .stop) .stop) (.cons 5 (.cons 1 (.cons 6 (.cons 7 (.cons 9 .done .stop) .stop) .stop) (.cons 6 (.cons 1 (.cons 7 (.cons 9 .done .stop) .stop) .stop) .stop)) .stop)) .stop))) (.cons 5 (.cons 1 (.cons 3 (.cons 6 (.cons 7 (.cons 8 (.cons 9 .done .stop) .stop) (.cons 8 (.cons 7 (.cons 9 .done .stop) .stop) .stop)) (.cons 8 (.cons 6 (.cons 7 (.cons 9 .done .stop) .stop) .stop) .stop)) (.cons 6 (.cons 3 (.cons 7 (.cons 8 (.cons 9 .done .stop) .stop) (.cons 8 (.cons 7 (.cons 9 .done .stop) .stop) .stop)) (.cons 8 (.cons 3 (.cons 7 (.cons 9 .done .stop) .stop) .stop) .stop)) (.cons 8 (.cons 3 (.cons 6 (.cons 7 (.cons 9 .done .stop) .stop) .stop) (.cons 6 (.cons 3 (.cons 7 (.cons 9 .done .stop) .stop) .stop) .stop)) .stop))) (.cons 3 (.cons 1 (.cons 6 (.cons 7 (.cons 8 (.cons 9 .done .stop) .stop) (.cons 8 (.cons 7 (.cons 9 .done .stop) .stop) .stop)) (.cons 8 (.cons 6 (.cons 7 (.cons 9 .done .stop) .stop) .stop) .stop)) (.cons 6 (.cons 1 (.cons 7 (.cons 8 (.cons 9 .done .stop) .stop) (.cons 8 (.cons 7 (.cons 9 .done .stop) .stop) .stop)) (.cons 8 (.cons 1 (.cons 7 (.cons 9 .done .stop) .stop) .stop) .stop)) (.cons 8 (.cons 1 (.cons 6 (.cons 7 (.cons 9 .done .stop) .stop) .stop) (.cons 6 (.cons 1 (.cons 7 (.cons 9 .done .stop) .stop) .stop) .stop)) .stop))) (.cons 6 (.cons 1 (.cons 3 (.cons 7 (.cons 8 (.cons 9 .done .stop) .stop) (.cons 8 (.cons 7 (.cons 9 .done .stop) .stop) .stop)) (.cons 8 (.cons 3 (.cons 7 (.cons 9 .done .stop) .stop) .stop) .stop)) (.cons 3 (.cons 1 (.cons 7 (.cons 8 (.cons 9 .done .stop) .stop) (.cons 8 (.cons 7 (.cons 9 .done .stop) .stop) .stop)) (.cons 8 (.cons 1 (.cons 7 (.cons 9 .done .stop) .stop) .stop) .stop)) (.cons 8 (.cons 1 (.cons 3 (.cons 7 (.cons 9 .done .stop) .stop) .stop) (.cons 3 (.cons 1 (.cons 7 (.cons 9 .done .stop) .stop) .stop) .stop)) .stop))) (.cons 8 (.cons 1 (.cons 3 (.cons 6 (.cons 7 (.cons 9 .done .stop) .stop) .stop) (.cons 6 (.cons 3 (.cons 7 (.cons 9 .done .stop) .stop) .stop) .stop)) (.cons 3 (.cons 1 (.cons 6 (.cons 7 (.cons 9 .done .stop) .stop) .stop) (.cons 6 (.cons 1 (.cons 7 (.cons 9 .done .stop) .stop) .stop) .stop)) (.cons 6 (.cons 1 (.cons 3 (.cons 7 (.cons 9 .done .stop) .stop) .stop) (.cons 3 (.cons 1 (.cons 7 (.cons 9 .done .stop) .stop) .stop) .stop)) .stop))) .stop)))) (.cons 8 (.cons 1 (.cons 3 (.cons 5 (.cons 6 (.cons 7 (.cons 9 .done .stop) .stop) .stop) .stop) (.cons 5 (.cons 3 (.cons 6 (.cons 7 (.cons 9 .done .stop) .stop) .stop) (.cons 6 (.cons 3 (.cons 7 (.cons 9 .done .stop) .stop) .stop) .stop)) .stop)) (.cons 3 (.cons 1 (.cons 5 (.cons 6 (.cons 7 (.cons 9 .done .stop) .stop) .stop) .stop) (.cons 5 (.cons 1 (.cons 6 (.cons 7 (.cons 9 .done .stop) .stop) .stop) (.cons 6 (.cons 1 (.cons 7 (.cons 9 .done .stop) .stop) .stop) .stop)) .stop)) (.cons 5 (.cons 1 (.cons 3 (.cons 6 (.cons 7 (.cons 9 .done .stop) .stop) .stop) (.cons 6 (.cons 3 (.cons 7 (.cons 9 .done .stop) .stop) .stop) .stop)) (.cons 3 (.cons 1 (.cons 6 (.cons 7 (.cons 9 .done .stop) .stop) .stop) (.cons 6 (.cons 1 (.cons 7 (.cons 9 .done .stop) .stop) .stop) .stop)) (.cons 6 (.cons 1 (.cons 3 (.cons 7 (.cons 9 .done .stop) .stop) .stop) (.cons 3 (.cons 1 (.cons 7 (.cons 9 .done .stop) .stop) .stop) .stop)) .stop))) .stop))) .stop))))))) (by kernel_rfl) (by kernel_rfl) (by kernel_rfl) ⟨103,[(1,.ro (rls L)),(2,.ptr 0 0),(4,.ptr 1 0),(10,.ptr 3 0)],[(0,.box 24 [.int .i64 w,.int .i64 h,.ro (.bools p)]),(1,.box 24 [.int .i64 0,.int .i64 0,.nilS]),(2,.row 4 (.bools p)),(3,.box 24 [.int .i64 w,.int .i64 h,.own 2])],4⟩ ?_ ?_
 ·(repeat' with_reducible first|intro _|exact dn|refine rn ?_|refine ra ?_ ?_)
  all_goals
   refine aj.o kc 1 ?_
   (repeat' with_reducible first|intro _|exact dn|refine rn ?_|refine ra ?_ ?_)
  all_goals
   refine aS.aB rfl ?_ ?_<;>simp only [go_sem,Int.natCast_succ]
 (repeat' with_reducible first|intro _|exact dn|refine rn ?_|refine ra ?_ ?_)
 refine aJ.intro (fun i:Nat=>⟨103,[(2,.ptr 0 0),(4,.ptr 1 0),(10,.ptr 3 0),(52,.ro (rls L)),(53,.int .i64 L.length),(54,.int .i64 i)],[(0,.box 24 [.int .i64 w,.int .i64 h,.ro (.bools p)]),(1,.box 24 [.int .i64 0,.int .i64 0,.nilS]),(2,.row 4 (.bools (NZ p w (L.take i)))),(3,.box 24 [.int .i64 w,.int .i64 h,.own 2])],4⟩) (fun i=>i≤L.length) (fun i=>L.length - i) 0 ?_ (Nat.zero_le _) fun i hi=>?_
 ·refine aS.aB rfl ?_ ?_<;>simp only [go_sem,Int.natCast_succ]
  all_goals rfl
 by_cases hlt:i<L.length
 case neg=>
  have e:i=L.length:=by omega
  subst e
  have f2:((L.length:Int)<(L.length:Int))=False:=eq_false (by omega)
  rw [List.take_length]
  (repeat' with_reducible first|intro _|refine rz ?_|refine ra ?_ ?_|omega|simp only [go_sem,f2])
  refine eP.auto 1 ?_ rfl ?_<;>simp only [go_sem,Int.natCast_succ,Post]
 have f2:((i:Int)<(L.length:Int))=True:=eq_true (by omega)
 have he:=rl_elem L hlt
 have hi1:=hin i hlt
 have hs:=JI p w L hlt
 have hql:=N7 p w (L.take i)
 unfold lX jC at hi1
 unfold WG at hs
 generalize (L.getD i Pl.zero).a1=A1 at *
 generalize (L.getD i Pl.zero).a2=A2 at *
 generalize (L.getD i Pl.zero).a3=A3 at *
 generalize (L.getD i Pl.zero).a4=A4 at *
 generalize (L.getD i Pl.zero).dn=d at *
 obtain ⟨x,rfl⟩:∃ k:Nat,A1=k:=⟨A1.toNat,by omega⟩
 obtain ⟨y,rfl⟩:∃ k:Nat,A2=k:=⟨A2.toNat,by omega⟩
 obtain ⟨bw,rfl⟩:∃ k:Nat,A3=k:=⟨A3.toNat,by omega⟩
 obtain ⟨bh,rfl⟩:∃ k:Nat,A4=k:=⟨A4.toNat,by omega⟩
 simp only [Int.toNat_natCast] at hs
 unfold Yd at hs
 have hlg:zD bw bh d≤100:=by cases d<;>unfold zD<;>dsimp only<;>omega
 have hln:IJ bw bh d≤100:=by cases d<;>unfold IJ<;>dsimp only<;>omega
 have kA:∀ line k:Nat,line<IJ bw bh d→k<zD bw bh d→aU Tryd.prog (fX d) [.int .i64 line,.int .i64 k,.cell [.int .i64 x,.int .i64 y,.int .i64 bw,.int .i64 bh],.cell [.int .i64 w,.int .i64 h,.ro (.bools p)]] (.int .i64 (dO x y w d line k:Nat)) []:=fun line k h1 h2=>
  UQ w h x y bw bh line k p (by omega) (by omega) (by omega) (by omega) (by omega) d
 have hat:∀ line k:Nat,line<IJ bw bh d→k<zD bw bh d→dO x y w d line k<w*h:=fun line k h1 h2=>PZ (by omega) (by omega) h1 h2
 have kr:=xX (IJ bw bh d) (zD bw bh d) ((zD bw bh d+1) / 2) 40 [.cell [.int .i64 w,.int .i64 h,.ro (.bools p)],.cell [.fn (fX d) [.cell [.int .i64 x,.int .i64 y,.int .i64 bw,.int .i64 bh],.cell [.int .i64 w,.int .i64 h,.ro (.bools p)]]]] rfl (qp p x y w d) (by omega) (by omega) fun line k h1 h2=>dW.dP (SG w h line k (dO x y w d line k) (fX d) p _ rfl (by rw [hp];exact hat line k h1 h2) (by omega) (dW.dP (kA line k h1 h2) rfl rfl)) rfl rfl
 have hR:∀ u,u∈runs (qp p x y w d) (IJ bw bh d) (zD bw bh d) ((zD bw bh d+1) / 2)→u.y<IJ bw bh d∧u.f<u.t∧u.t≤zD bw bh d:=fun u hu=>by
  obtain ⟨h1,_,h2,h3,_⟩:=kE hu
  exact ⟨h1,h2,h3⟩
 have hRl:=fM (qp p x y w d) (zD bw bh d) ((zD bw bh d+1) / 2) (IJ bw bh d)
 have hRb:IJ bw bh d*zD bw bh d≤100*100:=Nat.mul_le_mul hln hlg
 have hq2:(((zD bw bh d:Nat):Int)+1).tdiv 2=(((zD bw bh d+1) / 2:Nat):Int):=by
  rw [Int.tdiv_eq_ediv_of_nonneg (by omega)];omega
 generalize runs (qp p x y w d) (IJ bw bh d) (zD bw bh d) ((zD bw bh d+1) / 2)=R at *
 generalize hq:NZ p w (L.take i)=q at *
 cases d
 all_goals
  dsimp only [fX,IJ,zD] at *
  (repeat' with_reducible first|intro _|refine rz ?_|refine ra ?_ ?_|omega|simp only [go_sem,f2,aN,he,List.length_map])
  refine aP.lex [5,6,7,8] [(0,[1]),(1,[1]),(2,[1,2]),(3,[1,2]),(4,[1,2,3])] (by kernel_rfl) (by kernel_rfl) ?_
  (repeat' with_reducible first|intro _|exact dn|refine rn ?_|refine ra ?_ ?_)
 case' true=>refine aP.lex [5,6,7] [(2,[1]),(3,[1]),(4,[1,2])] (by kernel_rfl) (by kernel_rfl) ?_
 all_goals
  (repeat' with_reducible first|intro _|refine rz ?_|refine ra ?_ ?_|omega|simp only [go_sem,hq2])
  refine aj.ro (.ro (uQ R)) (dW.dP kr rfl (by simp [dR,dQ,gq,fK,iL,aG,Rn.av])) (by simp only [aG,aV,dI,bf,aH,List.drop_zero,lk,reduceIte,reduceCtorEq,Nat.reduceEqDiff,Option.some.injEq,Item.row.injEq,Item.box.injEq,AV.ro.injEq,exists_eq_left,exists_and_left,exists_eq_left',exists_eq_right,and_assoc,and_true,true_and,List.cons.injEq,exists_eq',exists_eq,aG]) (by simp [gX,aV,bf,dI,aH,lk,aG]) rfl ?_
  (repeat' with_reducible first|intro _|refine rz ?_|refine ra ?_ ?_|omega|simp only [go_sem,List.length_map])
 case true=>
  refine aJ.intro (fun j:Nat=>⟨103,[(2,.ptr 0 0),(4,.ptr 1 0),(10,.ptr 3 0),(16,.ptr 5 0),(52,.ro (rls L)),(53,.int .i64 L.length),(54,.int .i64 i),(78,.ro (uQ R)),(79,.int .i64 R.length),(80,.int .i64 j)],[(0,.box 24 [.int .i64 w,.int .i64 h,.ro (.bools p)]),(1,.box 24 [.int .i64 0,.int .i64 0,.nilS]),(2,.row 4 (.bools (nU (dO x y w true) q (R.take j)))),(3,.box 24 [.int .i64 w,.int .i64 h,.own 2]),(4,.box 33 [.int .i64 x,.int .i64 y,.int .i64 bw,.int .i64 bh]),(5,.box 64 [.fn 39 [.ptr 4 0,.ptr 0 0]])],6⟩) (fun j=>j≤R.length) (fun j=>R.length - j) 0 ?_ (Nat.zero_le _) fun j hj=>?_
  ·refine aS.aB rfl ?_ ?_<;>simp only [go_sem,Int.natCast_succ]
   all_goals rfl
  by_cases hjl:j<R.length
  case neg=>
   have e:j=R.length:=by omega
   subst e
   have f3:((R.length:Int)<(R.length:Int))=False:=eq_false (by omega)
   rw [List.take_length,←hs]
   (repeat' with_reducible first|intro _|refine rz ?_|refine ra ?_ ?_|omega|simp only [go_sem,f3])
   refine ⟨i+1,aS.aB rfl ?_ ?_,by omega,by omega⟩<;>simp only [go_sem,Int.natCast_succ]
  have f3:((j:Int)<(R.length:Int))=True:=eq_true (by omega)
  have hu:=pO R hjl
  obtain ⟨u1,u2,u3⟩:=hR (R.getD j Rn.zero) (by rw [getD_lt hjl];exact List.getElem_mem hjl)
  have ht:=JJ (dO x y w true) q R hjl
  have hlq:=nN (dO x y w true) (R.take j) q
  unfold Oj at ht
  generalize nU (dO x y w true) q (R.take j)=q1 at *
  generalize R.getD j Rn.zero=u at *
  obtain ⟨uy,uf,ut⟩:=u
  dsimp only at u1 u2 u3 ht hu
  (repeat' with_reducible first|intro _|refine rz ?_|refine ra ?_ ?_|omega|simp only [go_sem,f3,aN,hu,List.length_map])
  refine aJ.intro (fun m:Nat=>⟨103,[(2,.ptr 0 0),(4,.ptr 1 0),(10,.ptr 3 0),(16,.ptr 5 0),(18,.ptr 6 0),(19,.int .i64 (uf+m:Nat)),(52,.ro (rls L)),(53,.int .i64 L.length),(54,.int .i64 i),(78,.ro (uQ R)),(79,.int .i64 R.length),(80,.int .i64 j)],[(0,.box 24 [.int .i64 w,.int .i64 h,.ro (.bools p)]),(1,.box 24 [.int .i64 0,.int .i64 0,.nilS]),(2,.row 4 (.bools (fF (dO x y w true uy) q1 uf m))),(3,.box 24 [.int .i64 w,.int .i64 h,.own 2]),(4,.box 33 [.int .i64 x,.int .i64 y,.int .i64 bw,.int .i64 bh]),(5,.box 64 [.fn 39 [.ptr 4 0,.ptr 0 0]]),(6,.box 81 [.int .i64 uy,.int .i64 uf,.int .i64 ut])],7⟩) (fun m=>m≤ut - uf) (fun m=>ut - uf - m) 0 ?_ (Nat.zero_le _) fun m hm=>?_
  ·refine aS.aB rfl ?_ ?_<;>simp only [go_sem,Int.natCast_succ,fF]
  by_cases hml:m<ut - uf
  case neg=>
   have e:m=ut - uf:=by omega
   subst e
   have f4:(((uf+(ut - uf):Nat):Int)<(ut:Int))=False:=eq_false (by omega)
   rw [←ht]
   (repeat' with_reducible first|intro _|refine rz ?_|refine ra ?_ ?_|omega|simp only [go_sem,f4])
   refine ⟨j+1,aS.aB rfl ?_ ?_,by omega,by omega⟩<;>simp only [go_sem,Int.natCast_succ]
  have f4:(((uf+m:Nat):Int)<(ut:Int))=True:=eq_true (by omega)
  have k1:=kA uy (uf+m) u1 (by omega)
  have hc:=hat uy (uf+m) u1 (by omega)
  have hcl:=jW (dO x y w true uy) q1 uf m
  have hcs:fF (dO x y w true uy) q1 uf (m+1)=(fF (dO x y w true uy) q1 uf m).set (dO x y w true uy (uf+m)) false:=rfl
  generalize dO x y w true uy (uf+m)=at' at *
  generalize fF (dO x y w true uy) q1 uf m=q2 at *
  (repeat' with_reducible first|intro _|refine rz ?_|refine ra ?_ ?_|omega|simp only [go_sem,f4])
  refine aP.lex [8] [] (by kernel_rfl) (by kernel_rfl) ?_
  (repeat' with_reducible first|intro _|exact dn|refine rn ?_|refine ra ?_ ?_)
  refine QV.intro (.int .i64 at') ?_ ?_
  ·(repeat' with_reducible first|intro _|exact dn|refine rn ?_|refine ra ?_ ?_)
   refine aj.k k1 ?_
   (repeat' with_reducible first|intro _|exact dn|refine rn ?_|refine ra ?_ ?_)
  (repeat' with_reducible first|intro _|refine rz ?_|refine ra ?_ ?_|omega|simp only [go_sem,Int.toNat_natCast])
  refine ⟨m+1,aS.aB rfl ?_ ?_,by omega,by omega⟩<;>simp only [go_sem,Int.natCast_succ,hcs]
  omega
 case false=>
  refine aJ.intro (fun j:Nat=>⟨103,[(2,.ptr 0 0),(4,.ptr 1 0),(10,.ptr 3 0),(16,.ptr 5 0),(52,.ro (rls L)),(53,.int .i64 L.length),(54,.int .i64 i),(78,.ro (uQ R)),(79,.int .i64 R.length),(80,.int .i64 j)],[(0,.box 24 [.int .i64 w,.int .i64 h,.ro (.bools p)]),(1,.box 24 [.int .i64 0,.int .i64 0,.nilS]),(2,.row 4 (.bools (nU (dO x y w false) q (R.take j)))),(3,.box 24 [.int .i64 w,.int .i64 h,.own 2]),(4,.box 33 [.int .i64 x,.int .i64 y,.int .i64 bw,.int .i64 bh]),(5,.box 64 [.fn 38 [.ptr 4 0,.ptr 0 0]])],6⟩) (fun j=>j≤R.length) (fun j=>R.length - j) 0 ?_ (Nat.zero_le _) fun j hj=>?_
  ·refine aS.aB rfl ?_ ?_<;>simp only [go_sem,Int.natCast_succ]
   all_goals rfl
  by_cases hjl:j<R.length
  case neg=>
   have e:j=R.length:=by omega
   subst e
   have f3:((R.length:Int)<(R.length:Int))=False:=eq_false (by omega)
   rw [List.take_length,←hs]
   (repeat' with_reducible first|intro _|refine rz ?_|refine ra ?_ ?_|omega|simp only [go_sem,f3])
   refine ⟨i+1,aS.aB rfl ?_ ?_,by omega,by omega⟩<;>simp only [go_sem,Int.natCast_succ]
  have f3:((j:Int)<(R.length:Int))=True:=eq_true (by omega)
  have hu:=pO R hjl
  obtain ⟨u1,u2,u3⟩:=hR (R.getD j Rn.zero) (by rw [getD_lt hjl];exact List.getElem_mem hjl)
  have ht:=JJ (dO x y w false) q R hjl
  have hlq:=nN (dO x y w false) (R.take j) q
  unfold Oj at ht
  generalize nU (dO x y w false) q (R.take j)=q1 at *
  generalize R.getD j Rn.zero=u at *
  obtain ⟨uy,uf,ut⟩:=u
  dsimp only at u1 u2 u3 ht hu
  (repeat' with_reducible first|intro _|refine rz ?_|refine ra ?_ ?_|omega|simp only [go_sem,f3,aN,hu,List.length_map])
  refine aJ.intro (fun m:Nat=>⟨103,[(2,.ptr 0 0),(4,.ptr 1 0),(10,.ptr 3 0),(16,.ptr 5 0),(18,.ptr 6 0),(19,.int .i64 (uf+m:Nat)),(52,.ro (rls L)),(53,.int .i64 L.length),(54,.int .i64 i),(78,.ro (uQ R)),(79,.int .i64 R.length),(80,.int .i64 j)],[(0,.box 24 [.int .i64 w,.int .i64 h,.ro (.bools p)]),(1,.box 24 [.int .i64 0,.int .i64 0,.nilS]),(2,.row 4 (.bools (fF (dO x y w false uy) q1 uf m))),(3,.box 24 [.int .i64 w,.int .i64 h,.own 2]),(4,.box 33 [.int .i64 x,.int .i64 y,.int .i64 bw,.int .i64 bh]),(5,.box 64 [.fn 38 [.ptr 4 0,.ptr 0 0]]),(6,.box 81 [.int .i64 uy,.int .i64 uf,.int .i64 ut])],7⟩) (fun m=>m≤ut - uf) (fun m=>ut - uf - m) 0 ?_ (Nat.zero_le _) fun m hm=>?_
  ·refine aS.aB rfl ?_ ?_<;>simp only [go_sem,Int.natCast_succ,fF]
  by_cases hml:m<ut - uf
  case neg=>
   have e:m=ut - uf:=by omega
   subst e
   have f4:(((uf+(ut - uf):Nat):Int)<(ut:Int))=False:=eq_false (by omega)
   rw [←ht]
   (repeat' with_reducible first|intro _|refine rz ?_|refine ra ?_ ?_|omega|simp only [go_sem,f4])
   refine ⟨j+1,aS.aB rfl ?_ ?_,by omega,by omega⟩<;>simp only [go_sem,Int.natCast_succ]
  have f4:(((uf+m:Nat):Int)<(ut:Int))=True:=eq_true (by omega)
  have k1:=kA uy (uf+m) u1 (by omega)
  have hc:=hat uy (uf+m) u1 (by omega)
  have hcl:=jW (dO x y w false uy) q1 uf m
  have hcs:fF (dO x y w false uy) q1 uf (m+1)=(fF (dO x y w false uy) q1 uf m).set (dO x y w false uy (uf+m)) false:=rfl
  generalize dO x y w false uy (uf+m)=at' at *
  generalize fF (dO x y w false uy) q1 uf m=q2 at *
  (repeat' with_reducible first|intro _|refine rz ?_|refine ra ?_ ?_|omega|simp only [go_sem,f4])
  refine aP.lex [8] [] (by kernel_rfl) (by kernel_rfl) ?_
  (repeat' with_reducible first|intro _|exact dn|refine rn ?_|refine ra ?_ ?_)
  refine QV.intro (.int .i64 at') ?_ ?_
  ·(repeat' with_reducible first|intro _|exact dn|refine rn ?_|refine ra ?_ ?_)
   refine aj.k k1 ?_
   (repeat' with_reducible first|intro _|exact dn|refine rn ?_|refine ra ?_ ?_)
  (repeat' with_reducible first|intro _|refine rz ?_|refine ra ?_ ?_|omega|simp only [go_sem,Int.toNat_natCast])
  refine ⟨m+1,aS.aB rfl ?_ ?_,by omega,by omega⟩<;>simp only [go_sem,Int.natCast_succ,hcs]
  omega
set_option maxHeartbeats 4000000 in
theorem JH (w h:Nat) (hw1:1≤w) (hw:w≤100) (hh1:1≤h) (hh:h≤100) (p:List Bool) (hp:p.length=w*h) (L:List Pl) (hL:¬∀ r,r∈L→lX w h r) :
  aU Tryd.prog 13 [.agg [.int .i64 w,.int .i64 h,.ro (.bools p)],.ro (rls L)] (.tup [.agg [.int .i64 0,.int .i64 0,.nilS],.int .i64 13]) []:=by
 have k0:=lu w h p
 rw [lF hw1 (by omega) hh1 (by omega) hp] at k0
 refine aU.aY Tryd.func13 rfl (by decide) (by simp [Tryd.f13]) [.cell 4 24,.tmp 5] rfl fun w0 T0 _=>?_
 simp only [Tryd.f13,aK]
 (repeat' with_reducible first|intro _|exact dn|refine rn ?_|refine ra ?_ ?_)
 refine aj.k k0 ?_
 (repeat' with_reducible first|intro _|refine rz ?_|refine ra ?_ ?_|omega|simp only [go_sem,List.length_map])
 refine aJ.intro (fun i:Nat=>⟨103,[(1,.ro (rls L)),(2,.ptr 0 0),(4,.ptr 1 0),(26,.ro (rls L)),(27,.int .i64 L.length),(28,.int .i64 i)],[(0,.box 24 [.int .i64 w,.int .i64 h,.ro (.bools p)]),(1,.box 24 [.int .i64 0,.int .i64 0,.nilS])],2⟩) (fun i=>i≤L.length∧∀ j,j<i→lX w h (L.getD j Pl.zero)) (fun i=>L.length - i) 0 ?_ ⟨Nat.zero_le _,fun j hj=>absurd hj (by omega)⟩ fun i hi=>?_
 ·refine aS.aB rfl ?_ ?_<;>simp only [go_sem,Int.natCast_succ]
 obtain ⟨hi,hpr⟩:=hi
 by_cases hlt:i<L.length
 case neg=>
  exfalso
  apply hL
  intro r hr
  obtain ⟨j,hj,rfl⟩:=List.mem_iff_getElem.1 hr
  have:=hpr j (by omega)
  rwa [getD_lt hj] at this
 have f1:((i:Int)<(L.length:Int))=True:=eq_true (by omega)
 have he:=rl_elem L hlt
 have kp:=Au w h hw1 (by omega) hh1 (by omega) (L.getD i Pl.zero).a1 (L.getD i Pl.zero).a2 (L.getD i Pl.zero).a3 (L.getD i Pl.zero).a4
 by_cases hb:lX w h (L.getD i Pl.zero)
 ·have hpr2:∀ j,j<i+1→lX w h (L.getD j Pl.zero):=fun j hj=>by
   by_cases e:j=i
   ·rw [e];exact hb
   ·exact hpr j (by omega)
  unfold lX at hb
  rw [if_pos hb] at kp
  (repeat' with_reducible first|intro _|refine rz ?_|refine ra ?_ ?_|omega|simp only [go_sem,f1,aN,he,List.length_map])
  refine aj.k kp ?_
  (repeat' with_reducible first|intro _|refine rz ?_|refine ra ?_ ?_|omega|simp only [go_sem,f1,aN,he,List.length_map])
  refine ⟨i+1,aS.aB rfl ?_ ?_,⟨by omega,hpr2⟩,by omega⟩<;>simp only [go_sem,Int.natCast_succ]
 ·unfold lX at hb
  rw [if_neg hb] at kp
  (repeat' with_reducible first|intro _|refine rz ?_|refine ra ?_ ?_|omega|simp only [go_sem,f1,aN,he,List.length_map])
  refine aj.k kp ?_
  (repeat' with_reducible first|intro _|refine rz ?_|refine ra ?_ ?_|omega|simp only [go_sem,f1,aN,he,List.length_map])
  refine eP.auto 0 ?_ rfl ?_<;>simp only [go_sem,Int.natCast_succ,Post]
end Go.Fv.L
