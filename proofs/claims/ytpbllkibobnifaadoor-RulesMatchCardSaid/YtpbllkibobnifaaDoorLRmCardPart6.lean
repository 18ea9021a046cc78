/-
  A part of the proof of the claim: walks over the program's functions and the plain laws that these need. No condition of its own.
-/
import Derived.Test.YtpbllkibobnifaaDoorLRmCardPart1
import Derived.Test.YtpbllkibobnifaaDoorLRmCardPart5
import Derived.Test.YtpbllkibobnifaaDoorLRmCardPart3
set_option linter.unusedSimpArgs false
set_option linter.unusedVariables false
set_option linter.unnecessarySimpa false
set_option maxRecDepth 8000
/- runsOf. -/
namespace Go.Fv.L
open Go Go.Proofs
theorem ES {caps:List AV} (hc:caps.all (jm 3)=true):qC caps:=⟨List.all_eq_true.2 fun x hx=>jZ 4 x (jZ 3 x (List.all_eq_true.1 hc x hx))⟩
theorem Tv {f:Nat} {caps:List AV} (hc:caps.all (jm 3)=true) (y:Int):qC [.cell [.fn f caps],.cell [.int .i64 y]]:=⟨by
 simp only [List.all_cons,List.all_nil,jm,Bool.and_true]
 first|done|exact hc⟩
theorem RS (f:Nat) (caps:List AV) (hc:caps.all (jm 3)=true) (y i:Nat) (b:Bool) (hq:dW Tryd.prog f ([.int .i64 y,.int .i64 i]++caps) (.bool b) []) :
  aU Tryd.prog 48 [.int .i64 i,.cell [.fn f caps],.cell [.int .i64 y]] (.bool b) []:=by
 haveI:=ES hc
 refine aU.aY Tryd.func48 rfl (by decide) (by simp [Tryd.f48]) [.tmp 4] rfl fun w0 T0 _=>?_
 simp only [Tryd.f48,aK]
 (repeat' with_reducible first|intro _|exact dn|refine rn ?_|refine ra ?_ ?_)
 refine aj.fr (args':=[.int .i64 y,.int .i64 i]++caps) hq (by simp [aV,bf,aH,iO]) 0 rfl (by simp [bn]) ?_
 (repeat' with_reducible first|intro _|exact dn|refine rn ?_|refine ra ?_ ?_)
 refine eP.auto 0 ?_ rfl ?_<;>simp only [go_sem,Int.natCast_succ,Post]
set_option maxHeartbeats 8000000 in
theorem xX (n long least f:Nat) (caps:List AV) (hc:caps.all (jm 3)=true) (is:Nat→Nat→Bool) (hn:n≤1000) (hl:long≤1000) (hq:∀ y i:Nat,y<n→i<long→dW Tryd.prog f ([.int .i64 y,.int .i64 i]++caps) (.bool (is y i)) []) :
  aU Tryd.prog 23 [.int .i64 n,.int .i64 long,.int .i64 least,.fn f caps] (.own 0) [(0,.row 81 (uQ (runs is n long least)))]:=by
 haveI:=ES hc
 have hrl:=fM is long least
 refine aU.aY Tryd.func23 rfl (by decide) (by simp [Tryd.f23]) [.tmp 8] rfl fun w0 T0 _=>?_
 simp only [Tryd.f23,aK]
 (repeat' with_reducible first|intro _|exact dn|refine rn ?_|refine ra ?_ ?_)
 refine aJ.intro (fun y:Nat=>⟨44,[(1,.int .i64 long),(2,.int .i64 least),(7,.ptr 1 0),(9,.own 0),(13,.int .i64 n),(14,.int .i64 y)],[(0,.row 81 (uQ (runs is y long least))),(1,.box 48 [.fn f caps])],2⟩) (fun y=>y≤n) (fun y=>n - y) 0 ?_ (Nat.zero_le _) fun y hy=>?_
 ·refine aS.aB rfl ?_ ?_<;>simp only [go_sem,Int.natCast_succ]
  all_goals rfl
 by_cases hlt:y<n
 case neg=>
  have e:y=n:=by omega
  subst e
  have f1:((y:Int)<(y:Int))=False:=eq_false (by omega)
  (repeat' with_reducible first|intro _|refine rz ?_|refine ra ?_ ?_|omega|simp only [go_sem,f1])
  refine eP.auto 1 ?_ rfl ?_<;>simp only [go_sem,Int.natCast_succ,Post]
 have f1:((y:Int)<(n:Int))=True:=eq_true (by omega)
 haveI:=Tv (f:=f) hc (y:Int)
 have kS:=Gh 0 long (Nat.zero_le _) (by omega) 48 [.cell [.fn f caps],.cell [.int .i64 y]] (is y) fun i _ hi=>dW.dP (RS f caps hc y i (is y i) (hq y i hlt hi)) rfl rfl
 rw [Nat.sub_zero] at kS
 have hsu:=iF is y long least
 have hL:∀ s,s∈strs (is y) long 0→s.1+s.2≤long:=fun s hs=>by have:=rM _ _ _ _ hs;omega
 have hLl:=wI (is y) long 0
 have hr0:=hrl y
 have hr1:y*long≤1000000:=Nat.mul_le_mul (by omega:y≤1000) hl
 rw [show SQ is long least y=Em least y (strs (is y) long 0) from rfl] at hsu
 generalize strs (is y) long 0=L at *
 generalize runs is y long least=R at *
 (repeat' with_reducible first|intro _|refine rz ?_|refine ra ?_ ?_|omega|simp only [go_sem,f1])
 refine aj.ro (.ro (PG L)) (dW.dP kS rfl (by simp [dR,dQ,gq,fK,iL,PG,Jk])) ?_ (by simp [gX,aV,bf,dI,aH,lk,aG,PG]) rfl ?_
 ·have c3:∀ rows,bf (aH rows 3) caps caps:=fun rows=>jE fun x hx=>qW rows 3 x (List.all_eq_true.1 hc x hx)
  have c4:∀ rows,bf (aH rows 4) caps caps:=fun rows=>jE fun x hx=>qW rows 4 x (jZ 3 x (List.all_eq_true.1 hc x hx))
  have c5:∀ rows,bf (aH rows 5) caps caps:=fun rows=>jE fun x hx=>qW rows 5 x (jZ 4 x (jZ 3 x (List.all_eq_true.1 hc x hx)))
  simp [aV,dI,bf,aH,lk,c3,c4,c5]
  refine ⟨⟨_,_,⟨rfl,rfl⟩,?_⟩,⟨_,_,⟨rfl,rfl⟩,?_⟩⟩<;>simp [bf,aH,c3]
 (repeat' with_reducible first|intro _|refine rz ?_|refine ra ?_ ?_|omega|simp only [go_sem,PG,List.length_map])
 refine aJ.intro (fun i:Nat=>⟨44,[(1,.int .i64 long),(2,.int .i64 least),(7,.ptr 1 0),(9,.own 0),(10,.ptr 2 0),(13,.int .i64 n),(14,.int .i64 y),(19,.ro (PG L)),(20,.int .i64 L.length),(21,.int .i64 i)],[(0,.row 81 (uQ (R++Em least y (L.take i)))),(1,.box 48 [.fn f caps]),(2,.box 3 [.int .i64 y])],3⟩) (fun i=>i≤L.length) (fun i=>L.length - i) 0 ?_ (Nat.zero_le _) fun i hi=>?_
 ·refine aS.aB rfl ?_ ?_<;>simp only [go_sem,Int.natCast_succ,PG]
  simp [Em]
 by_cases hil:i<L.length
 case neg=>
  have e:i=L.length:=by omega
  subst e
  have f2:((L.length:Int)<(L.length:Int))=False:=eq_false (by omega)
  rw [List.take_length,←hsu]
  (repeat' with_reducible first|intro _|refine rz ?_|refine ra ?_ ?_|omega|simp only [go_sem,f2])
  refine ⟨y+1,aS.aB rfl ?_ ?_,by omega,by omega⟩<;>simp only [go_sem,Int.natCast_succ]
  all_goals trace_state
 have f2:((i:Int)<(L.length:Int))=True:=eq_true (by omega)
 have he:=UG L hil
 have ht:=RN least y L hil
 have hsl:=hL _ (by rw [getD_lt hil];exact List.getElem_mem hil:L.getD i (0,0)∈L)
 have hpl:(Em least y (L.take i)).length≤1000:=by
  unfold Em
  rw [List.length_map]
  have:=List.length_filter_le (fun s:Nat × Nat=>decide (least≤s.2)) (L.take i)
  rw [List.length_take] at this;omega
 generalize L.getD i (0,0)=s at *
 obtain ⟨a,m⟩:=s
 dsimp only at *
 generalize hP:Em least y (L.take i)=Pf at *
 by_cases hlm:least≤m
 ·have f3:((least:Int)≤(m:Int))=True:=eq_true (by omega)
  rw [if_pos hlm] at ht
  have n1:(a:Int)+(m:Int)=((a+m:Nat):Int):=by omega
  (repeat' with_reducible first|intro _|refine rz ?_|refine ra ?_ ?_|omega|simp only [go_sem,f2,PG,aN,he,f3,n1,List.length_map])
  refine ⟨i+1,aS.aB rfl ?_ ?_,by omega,by omega⟩<;>simp only [go_sem,Int.natCast_succ,ht,PG]
  simp [Rn.av]
 ·have f3:((least:Int)≤(m:Int))=False:=eq_false (by omega)
  rw [if_neg hlm,List.append_nil] at ht
  (repeat' with_reducible first|intro _|refine rz ?_|refine ra ?_ ?_|omega|simp only [go_sem,f2,PG,aN,he,f3,List.length_map])
  refine ⟨i+1,aS.aB rfl ?_ ?_,by omega,by omega⟩<;>simp only [go_sem,Int.natCast_succ,ht,PG]
  all_goals trace_state
end Go.Fv.L
/- The stable sort of rails: the walk of insertion. -/
namespace Go.Fv.L
open Go Go.Proofs
def vG (a b:Int):Int:=if a<b then -1 else if b<a then 1 else 0
def He (x y:Pl):Int:=if vG x.d y.d=0 then vG x.c y.c else vG x.d y.d
theorem Qg (x y:Pl):He x y<0↔dS x y:=by
 unfold He vG dS;split<;>split<;>(try split)<;>(try split)<;>omega
def EH (F:Nat):Prop:=∀ x y:Pl,aU Tryd.prog F [.agg [.int .i64 x.a1,.int .i64 x.a2,.int .i64 x.a3,.int .i64 x.a4,.bool x.dn,.int .i64 x.c,.int .i64 x.d],.agg [.int .i64 y.a1,.int .i64 y.a2,.int .i64 y.a3,.int .i64 y.a4,.bool y.dn,.int .i64 y.c,.int .i64 y.d]] (.int .i64 (He x y)) []
theorem P9 (l:List Pl) (n i:Nat):aQ n (List.take 7 ((l.map Pl.av).getD i []))=true:=by
 rw [List.getD_eq_getElem?_getD,List.getElem?_map]
 cases l[i]?<;>rfl
theorem Ae {x y:Pl} (h:dS x y):He x y<0:=(Qg x y).2 h
theorem Af {x y:Pl} (h:¬dS x y):¬He x y<0:=fun h2=>h ((Qg x y).1 h2)
set_option maxHeartbeats 8000000 in
theorem vX (F:Nat) (hF:EH F) (P X Q:List Pl) (a b:Nat) (ha:a=P.length) (hb:b=P.length+X.length) (hS:eF X) (hN:P.length+X.length+Q.length≤1000000) :
  dD Tryd.prog 62 [.own 0,.int .i64 a,.int .i64 b,.fn F []] [(0,.row 59 (aC (P++(X++Q))))] 1 (.tup []) [(0,.row 59 (aC (P++(aO X++Q))))]:=by
 refine dD.aY Tryd.func62 rfl (by decide) (by simp [Tryd.f62]) bQ [] rfl fun w0 T0 _=>?_
 simp only [Tryd.f62,aK]
 generalize hR:aO X=R
 have i1:(a:Int)+1=((P.length+1:Nat):Int):=by omega
 (repeat' with_reducible first|intro _|refine rz ?_|refine ra ?_ ?_|omega|simp only [go_sem,i1])
 refine aJ.intro (fun x:Nat × List Pl=>⟨53,[(0,.own 0),(1,.int .i64 a),(2,.int .i64 b),(3,.fn F []),(8,.int .i64 (P.length+x.1:Nat))],[(0,.row 59 (aC (P++(x.2++Q))))],1⟩) (fun x=>1≤x.1∧(x.1≤X.length∨x.1=1)∧x.2.Perm X∧qc x.2∧∀ p q,p<q→q<x.1→¬dS (gd x.2 q) (gd x.2 p)) (fun x=>X.length+1 - x.1) (1,X) ?_ ⟨Nat.le_refl 1,.inr rfl,List.Perm.refl _,Jl hS,fun p q h1 h2=>by omega⟩ fun x hx=>?_
 ·refine aS.bG 1 rfl (Nat.le_refl 1) ?_ ?_<;>simp only [go_sem,Int.natCast_succ,aI,aC]
 obtain ⟨k,Y⟩:=x
 obtain ⟨hk1,hk2,hp,hs,ho⟩:=hx
 dsimp only at hk1 hk2 hp hs ho ⊢
 have hYl:=hp.length_eq
 by_cases hlt:k<X.length
 ·have hc:((P.length+k:Nat):Int)<(b:Int):=by omega
  (repeat' with_reducible first|intro _|refine rz ?_|refine ra ?_ ?_|omega|simp only [go_sem,hc])
  refine aJ.intro (fun x:Nat × List Pl=>⟨53,[(0,.own 0),(1,.int .i64 a),(2,.int .i64 b),(3,.fn F []),(8,.int .i64 (P.length+k:Nat)),(9,.int .i64 (P.length+x.1:Nat))],[(0,.row 59 (aC (P++(x.2++Q))))],1⟩) (fun x=>x.1≤k∧x.2.Perm X∧qc x.2∧JW x.2 k x.1) (fun x=>x.1) (k,Y) ?_ ⟨Nat.le_refl _,hp,hs,fun p q h1 h2 h3=>ho p q h1 (by omega)⟩ fun x hx=>?_
  ·refine aS.bG 1 rfl (Nat.le_refl 1) ?_ ?_<;>simp only [go_sem,Int.natCast_succ,aI,aC]
  clear hp hs ho hYl
  obtain ⟨j,Y⟩:=x
  obtain ⟨hj,hp,hs,ho⟩:=hx
  dsimp only at hj hp hs ho ⊢
  have hYl:=hp.length_eq
  have hlen:((P++(Y++Q)).map Pl.av).length=P.length+X.length+Q.length:=by simp;omega
  have hlen2:(P++(Y++Q)).length=P.length+X.length+Q.length:=by simp;omega
  have hend:(0<j→¬dS (gd Y j) (gd Y (j - 1)))→(1≤k+1∧(k+1≤X.length∨k+1=1)∧Y.Perm X∧qc Y∧∀ p q,p<q→q<k+1→¬dS (gd Y q) (gd Y p)):=fun he=>
   ⟨by omega,by omega,hp,hs,fun p q h1 h2=>Iu hj ho he p q h1 (by omega)⟩
  have n1:((P.length+k:Nat):Int)+1=((P.length+(k+1):Nat):Int):=by omega
  cases j with
  | zero=>
   have hg:¬(a:Int)<(P.length:Int):=by omega
   (repeat' with_reducible first|intro _|refine rz ?_|refine ra ?_ ?_|omega|simp only [go_sem,hg])
   refine aP.lex [] [] (by kernel_rfl) (by kernel_rfl) ?_
   (repeat' with_reducible first|intro _|refine rz ?_|refine ra ?_ ?_|omega|simp only [go_sem,hg,aC,P9])
   refine QV.intro (.int .i64 0) ?_ ?_
   ·(repeat' with_reducible first|intro _|refine rz ?_|refine ra ?_ ?_|omega|simp only [go_sem,hg,aC])
   (repeat' with_reducible first|intro _|refine rz ?_|refine ra ?_ ?_|omega|simp only [go_sem,hg,aC])
   refine ⟨(k+1,Y),aS.bG 1 rfl (Nat.le_refl 1) ?_ ?_,hend (fun h=>absurd h (Nat.lt_irrefl 0)),by dsimp only;omega⟩<;>simp only [go_sem,Int.natCast_succ,aI,aC,n1]
  | succ j=>
   have hjb:j+1<Y.length:=by omega
   have hg:(a:Int)<((P.length+(j+1):Nat):Int):=by omega
   have m1:((P.length+(j+1):Nat):Int) - 1=((P.length+j:Nat):Int):=by omega
   have hsw:=Ew (P:=P) (Q:=Q) hjb
   have kc:=hF (gd Y (j+1)) (gd Y j)
   have hsl:(swp Y j).length=Y.length:=Gj hjb
   obtain ⟨hl,hl',e1,e2,s1,s2,t1,t2⟩:=hsw
   by_cases hlt0:dS (gd Y (j+1)) (gd Y j)
   ·have hcn:=Ae hlt0
    have hinv:j≤k∧(swp Y j).Perm X∧qc (swp Y j)∧JW (swp Y j) k j:=⟨by omega,(BH hjb).trans hp,Jr hjb hlt0 hs,DX (by omega) hj ho hlt0⟩
    generalize He (gd Y (j+1)) (gd Y j)=cv at *
    generalize gd Y (j+1)=v at *
    generalize gd Y j=u at *
    (repeat' with_reducible first|intro _|refine rz ?_|refine ra ?_ ?_|omega|simp only [go_sem,hg,m1])
    refine aP.lex [] [] (by kernel_rfl) (by kernel_rfl) ?_
    (repeat' with_reducible first|intro _|refine rz ?_|refine ra ?_ ?_|omega|simp only [go_sem,hg,m1,aC,Int.toNat_natCast,aN,e1,e2])
    refine QV.intro (.int .i64 cv) ?_ ?_
    ·(repeat' with_reducible first|intro _|refine rz ?_|refine ra ?_ ?_|omega|simp only [go_sem,hg,m1,aC,Int.toNat_natCast,aN,e1,e2])
     refine aj.k kc ?_
     (repeat' with_reducible first|intro _|refine rz ?_|refine ra ?_ ?_|omega|simp only [go_sem,aC])
    (repeat' with_reducible first|intro _|refine rz ?_|refine ra ?_ ?_|omega|simp only [go_sem,hg,m1,hcn,aC])
    refine aP.lex [15,17] [(2,[1]),(3,[1]),(4,[1])] (by kernel_rfl) (by kernel_rfl) ?_
    (repeat' with_reducible first|intro _|refine rz ?_|refine ra ?_ ?_|omega|simp only [go_sem,hg,m1,aC,Int.toNat_natCast,aN,e1,e2,s1,s2,t1,t2])
    refine ⟨(j,swp Y j),aS.bG 1 rfl (Nat.le_refl 1) ?_ ?_,hinv,by dsimp only;omega⟩<;>simp only [go_sem,Int.natCast_succ,aI,aC,m1]
   ·have hcn:=Af hlt0
    have hfin:=hend (fun _=>hlt0)
    clear hend
    generalize He (gd Y (j+1)) (gd Y j)=cv at *
    generalize gd Y (j+1)=v at *
    generalize gd Y j=u at *
    (repeat' with_reducible first|intro _|refine rz ?_|refine ra ?_ ?_|omega|simp only [go_sem,hg,m1])
    refine aP.lex [] [] (by kernel_rfl) (by kernel_rfl) ?_
    (repeat' with_reducible first|intro _|refine rz ?_|refine ra ?_ ?_|omega|simp only [go_sem,hg,m1,aC,Int.toNat_natCast,aN,e1,e2])
    refine QV.intro (.int .i64 cv) ?_ ?_
    ·(repeat' with_reducible first|intro _|refine rz ?_|refine ra ?_ ?_|omega|simp only [go_sem,hg,m1,aC,Int.toNat_natCast,aN,e1,e2])
     refine aj.k kc ?_
     (repeat' with_reducible first|intro _|refine rz ?_|refine ra ?_ ?_|omega|simp only [go_sem,aC])
    (repeat' with_reducible first|intro _|refine rz ?_|refine ra ?_ ?_|omega|simp only [go_sem,hg,m1,hcn,aC])
    refine ⟨(k+1,Y),aS.bG 1 rfl (Nat.le_refl 1) ?_ ?_,hfin,by dsimp only;omega⟩<;>simp only [go_sem,Int.natCast_succ,aI,aC,n1]
 ·have e:R=Y:=by
   rw [←hR]
   refine (Lm hp (NJ fun p q h1 h2=>ho p q h1 (by omega)) (Jm hs)).symm
  subst e
  have hc:¬((P.length+k:Nat):Int)<(b:Int):=by omega
  (repeat' with_reducible first|intro _|refine rz ?_|refine ra ?_ ?_|omega|simp only [go_sem,hc])
  refine dN.auto 1 (Nat.le_refl 1) ?_ rfl ?_<;>simp only [go_sem,Int.natCast_succ,aI,aC]
end Go.Fv.L
/- The stable sort of rails: swaps of ranges. -/
namespace Go.Fv.L
open Go Go.Proofs
set_option maxHeartbeats 4000000 in
theorem pV (P U M V Q:List Pl) (n a b:Nat) (F:Nat) (hU:U.length=n) (hV:V.length=n) (ha:a=P.length) (hb:b=P.length+n+M.length) (hq:P.length+n+M.length+n+Q.length≤1000000) :
  dD Tryd.prog 75 [.own 0,.int .i64 a,.int .i64 b,.int .i64 n,.fn F []] [(0,.row 59 (aC (P++(U++(M++(V++Q))))))] 1 (.tup []) [(0,.row 59 (aC (P++(V++(M++(U++Q))))))]:=by
 refine dD.aY Tryd.func75 rfl (by decide) (by simp [Tryd.f75]) bQ [] rfl fun w0 T0 _=>?_
 simp only [Tryd.f75,aK]
 (repeat' with_reducible first|intro _|exact dn|refine rn ?_|refine ra ?_ ?_)
 refine aJ.intro (fun i:Nat=>⟨38,[(0,.own 0),(1,.int .i64 a),(2,.int .i64 b),(3,.int .i64 n),(10,.int .i64 i)],[(0,.row 59 (aC (PI P U M V Q i)))],1⟩) (fun i=>i≤n) (fun i=>n - i) 0 ?_ (Nat.zero_le _) fun i hi=>?_
 ·refine aS.bG 1 rfl (Nat.le_refl 1) ?_ ?_<;>simp only [go_sem,Int.natCast_succ,Jp,aI,aC]
  all_goals rfl
 by_cases hlt:i<n
 ·have hs:=Jo (P:=P) (M:=M) (Q:=Q) hU hV hlt
  have hsl:=NS P U M V Q hU hV hi
  have i1:(a:Int)+(i:Int)=((P.length+i:Nat):Int):=by omega
  have i2:(b:Int)+(i:Int)=((P.length+n+M.length+i:Nat):Int):=by omega
  have hsl2:=hsl
  rw [←List.length_map (f:=Pl.av)] at hsl
  obtain ⟨hl,hl',e1,e2,s1,s2,t1,t2⟩:=hs
  generalize U.getD i Pl.zero=u at *
  generalize V.getD i Pl.zero=v at *
  (repeat' with_reducible first|intro _|refine rz ?_|refine ra ?_ ?_|omega|simp only [go_sem,i1,i2,Int.toNat_natCast,aC])
  refine aP.lex [21,23] [(4,[1]),(5,[1]),(6,[1]),(7,[1])] (by kernel_rfl) (by kernel_rfl) ?_
  (repeat' with_reducible first|intro _|refine rz ?_|refine ra ?_ ?_|omega|simp only [go_sem,i1,i2,Int.toNat_natCast,aC,aN,e1,e2,s1,s2,t1,t2])
  refine ⟨i+1,aS.bG 1 rfl (Nat.le_refl 1) ?_ ?_,by omega,by omega⟩<;>simp only [go_sem,Int.natCast_succ,aI,aC]
 ·have e:i=n:=by omega
  subst e
  rw [NR P U M V Q hU hV]
  (repeat' with_reducible first|intro _|exact dn|refine rn ?_|refine ra ?_ ?_)
  refine dN.auto 1 (Nat.le_refl 1) ?_ rfl ?_<;>simp only [go_sem,Int.natCast_succ,aI,aC]
end Go.Fv.L
/- The stable sort of rails: two parts change their places. -/
namespace Go.Fv.L
open Go Go.Proofs
structure Yz where
 P:List Pl
 U:List Pl
 V:List Pl
 Q:List Pl
set_option maxHeartbeats 8000000 in
theorem O8 (P U V Q:List Pl) (a m b:Nat) (F:Nat) (ha:a=P.length) (hm:m=P.length+U.length) (hb:b=P.length+U.length+V.length) (hU:0<U.length) (hV:0<V.length) (hN:P.length+U.length+V.length+Q.length≤1000000) :
  dD Tryd.prog 70 [.own 0,.int .i64 a,.int .i64 m,.int .i64 b,.fn F []] [(0,.row 59 (aC (P++(U++(V++Q)))))] 1 (.tup []) [(0,.row 59 (aC (P++(V++(U++Q)))))]:=by
 refine dD.aY Tryd.func70 rfl (by decide) (by simp [Tryd.f70]) bQ [] rfl fun w0 T0 _=>?_
 simp only [Tryd.f70,aK]
 have i1:(m:Int) - (a:Int)=(U.length:Int):=by omega
 have i2:(b:Int) - (m:Int)=(V.length:Int):=by omega
 generalize hR:P++(V++(U++Q))=R
 generalize hT:P.length+U.length+V.length+Q.length=N at *
 (repeat' with_reducible first|intro _|refine rz ?_|refine ra ?_ ?_|omega|simp only [go_sem,i1,i2])
 refine aJ.intro (fun x:Yz=>⟨58,[(0,.own 0),(2,.int .i64 m),(4,.fn F []),(10,.int .i64 x.U.length),(11,.int .i64 x.V.length)],[(0,.row 59 (aC (x.P++(x.U++(x.V++x.Q)))))],1⟩) (fun x=>x.P.length+x.U.length=m∧0<x.U.length∧0<x.V.length∧x.P.length+x.U.length+x.V.length+x.Q.length=N∧x.P++(x.V++(x.U++x.Q))=R) (fun x=>x.U.length+x.V.length) ⟨P,U,V,Q⟩ ?_ ⟨hm.symm,hU,hV,hT,hR⟩ fun x hx=>?_
 ·refine aS.bG 1 rfl (Nat.le_refl 1) ?_ ?_<;>simp only [go_sem,Int.natCast_succ,aI,aC]
 clear hR hT hU hV i1 i2 ha hm hb
 obtain ⟨P,U,V,Q⟩:=x
 obtain ⟨hm,hU,hV,hT,hR⟩:=hx
 dsimp only at hm hU hV hT hR ⊢
 have j1:(m:Int) - (U.length:Int)=(P.length:Int):=by omega
 rcases Nat.lt_trichotomy V.length U.length with hlt|heq|hgt
 ·have hr:P++(U++(V++Q))=P++(U.take V.length++(U.drop V.length++(V++Q))):=by
   rw [←List.append_assoc (U.take V.length),List.take_append_drop]
  have k:=pV P (U.take V.length) (U.drop V.length) V Q V.length P.length m F (by simp;omega) rfl rfl (by simp;omega) (by simp;omega)
  rw [hr]
  have j2:(U.length:Int) - (V.length:Int)=((U.drop V.length).length:Int):=by rw [List.length_drop];omega
  have j3:(V.length:Int)=((U.take V.length).length:Int):=by rw [List.length_take];omega
  have hR':(P++V)++(U.take V.length++(U.drop V.length++Q))=R:=by
   rw [←hR]
   rw [List.append_assoc,←List.append_assoc (U.take V.length),List.take_append_drop]
  have hl1:(U.take V.length).length=V.length:=by simp;omega
  have hl2:(U.drop V.length).length=U.length - V.length:=by simp
  have hne:¬(U.length:Int)=(V.length:Int):=by omega
  have hgt:(U.length:Int) > (V.length:Int):=by omega
  have hgt:(V.length:Int)<(U.length:Int):=by omega
  generalize U.take V.length=U1 at *
  generalize U.drop V.length=U2 at *
  have ha:(P++V)++(U2++(U1++Q))=P++(V++(U2++(U1++Q))):=by simp
  (repeat' with_reducible first|intro _|refine rz ?_|refine ra ?_ ?_|omega|simp only [go_sem,j1,hne])
  refine aj.io [0] k (by decide) (by simp [bZ,ren,bV]) rfl (by simp [bU,bV,lk,Item.ren,Item.below,aC,bg,ak]) bQ 1 (by decide) rfl (by simp [bn,Item.below,aC,ak]) ?_
  (repeat' with_reducible first|intro _|refine rz ?_|refine ra ?_ ?_|omega|simp only [go_sem,S.je,aW,bV,dF,Item.ren,aC,List.getElem?_cons_zero,List.getElem?_cons_succ,List.getElem?_nil,List.filter,j1,j2])
  refine ⟨⟨P++V,U2,U1,Q⟩,aS.bG 1 rfl (Nat.le_refl 1) ?_ ?_,⟨by simp;omega,by dsimp only;omega,by dsimp only;omega,by simp;omega,hR'⟩,by dsimp only;omega⟩
  ·simp only [go_sem,Int.natCast_succ,aI,aC,ha,hl1]
  ·simp only [go_sem,Int.natCast_succ,aI,aC,ha,hl1]
 ·have k:dD Tryd.prog 75 [.own 0,.int .i64 P.length,.int .i64 m,.int .i64 U.length,.fn F []] [(0,.row 59 (aC (P++(U++(V++Q)))))] 1 (.tup []) [(0,.row 59 (aC (P++(V++(U++Q)))))]:=pV P U [] V Q U.length P.length m F rfl heq rfl (by simp;omega) (by simp;omega)
  have he:(U.length:Int)=(V.length:Int):=by omega
  have hv:(V.length:Int)=(U.length:Int):=by omega
  rw [hR] at k
  (repeat' with_reducible first|intro _|refine rz ?_|refine ra ?_ ?_|omega|simp only [go_sem,j1,hv])
  refine aj.io [0] k (by decide) (by simp [bZ,ren,bV]) rfl (by simp [bU,bV,lk,Item.ren,Item.below,aC,bg,ak]) bQ 1 (by decide) rfl (by simp [bn,Item.below,aC,ak]) ?_
  (repeat' with_reducible first|intro _|refine rz ?_|refine ra ?_ ?_|omega|simp only [go_sem,S.je,aW,bV,dF,Item.ren,aC,List.getElem?_cons_zero,List.getElem?_cons_succ,List.getElem?_nil,List.filter])
  refine dN.auto 1 (Nat.le_refl 1) ?_ rfl ?_<;>simp only [go_sem,Int.natCast_succ,aI,aC]
 ·have j2:(V.length:Int) - (U.length:Int)=((V.take (V.length - U.length)).length:Int):=by rw [List.length_take];omega
  have j3:(m:Int)+(V.length:Int) - (U.length:Int)=((m+(V.take (V.length - U.length)).length:Nat):Int):=by rw [List.length_take];omega
  have hr:P++(U++(V++Q))=P++(U++(V.take (V.length - U.length)++(V.drop (V.length - U.length)++Q))):=by
   rw [←List.append_assoc (V.take _),List.take_append_drop]
  have k:=pV P U (V.take (V.length - U.length)) (V.drop (V.length - U.length)) Q U.length P.length (m+(V.take (V.length - U.length)).length) F rfl (by simp;omega) rfl (by omega) (by simp;omega)
  rw [hr]
  have hR':P++(V.take (V.length - U.length)++(V.drop (V.length - U.length)++(U++Q)))=R:=by
   rw [←hR,←List.append_assoc (V.take _),List.take_append_drop]
  have hl1:(V.take (V.length - U.length)).length=V.length - U.length:=by rw [List.length_take];omega
  have hl2:(V.drop (V.length - U.length)).length=U.length:=by simp;omega
  have hne:¬(U.length:Int)=(V.length:Int):=by omega
  generalize V.take (V.length - U.length)=V1 at *
  generalize V.drop (V.length - U.length)=V2 at *
  (repeat' with_reducible first|intro _|refine rz ?_|refine ra ?_ ?_|omega|simp only [go_sem,j1,j3,hne])
  refine aj.io [0] k (by decide) (by simp [bZ,ren,bV]) rfl (by simp [bU,bV,lk,Item.ren,Item.below,aC,bg,ak]) bQ 1 (by decide) rfl (by simp [bn,Item.below,aC,ak]) ?_
  (repeat' with_reducible first|intro _|refine rz ?_|refine ra ?_ ?_|omega|simp only [go_sem,S.je,aW,bV,dF,Item.ren,aC,List.getElem?_cons_zero,List.getElem?_cons_succ,List.getElem?_nil,List.filter,j2])
  refine ⟨⟨P,V2,V1,U++Q⟩,aS.bG 1 rfl (Nat.le_refl 1) ?_ ?_,⟨by dsimp only;omega,by dsimp only;omega,by dsimp only;omega,by simp;omega,hR'⟩,by dsimp only;omega⟩
  ·simp only [go_sem,Int.natCast_succ,aI,aC,hl2]
  ·simp only [go_sem,Int.natCast_succ,aI,aC,hl2]
end Go.Fv.L
/- The stable sort of rails: the walk of a merge, where one side has one element. -/
namespace Go.Fv.L
open Go Go.Proofs
theorem oD (x y:Nat):Ll .u64 ((x:Int)+(y:Int)) 1=(((x+y) / 2:Nat):Int):=by
 show Int.fdiv _ 2=_
 rw [Int.fdiv_eq_ediv_of_nonneg _ (by decide)];omega
set_option maxHeartbeats 16000000 in
theorem Js (F:Nat) (hF:EH F) (P V Q:List Pl) (x:Pl) (a m b:Nat) (ha:a=P.length) (hm:m=P.length+1) (hb:b=P.length+1+V.length) (hV:o7 V) (hS:eF (x::V)) (hN:P.length+1+V.length+Q.length≤1000000) :
  dD Tryd.prog 63 [.own 0,.int .i64 a,.int .i64 m,.int .i64 b,.fn F []] [(0,.row 59 (aC (P++([x]++(V++Q)))))] 1 (.tup []) [(0,.row 59 (aC (P++(aO (x::V)++Q))))]:=by
 refine dD.aY Tryd.func63 rfl (by decide) (by simp [Tryd.f63]) bQ [] rfl fun w0 T0 _=>?_
 simp only [Tryd.f63,aK]
 generalize hR:aO (x::V)=R
 have i1:(m:Int) - (a:Int)=1:=by omega
 have hWl:(P++([x]++(V++Q))).length=P.length+1+V.length+Q.length:=by simp;omega
 have eV:∀ g,g<V.length→((P++([x]++(V++Q))).map Pl.av).getD (m+g) []=[.int .i64 (gd V g).a1,.int .i64 (gd V g).a2,.int .i64 (gd V g).a3,.int .i64 (gd V g).a4,.bool (gd V g).dn,.int .i64 (gd V g).c,.int .i64 (gd V g).d]:=fun g hg=>by
  rw [fA _ (by omega)]
  have:=jY (P:=P) (U:=[x]) Q (V:=V) (i:=g) (k:=m+g) (by simp;omega) hg
  unfold gd at this ⊢
  rw [this]
 have ex:((P++([x]++(V++Q))).map Pl.av).getD a []=[.int .i64 x.a1,.int .i64 x.a2,.int .i64 x.a3,.int .i64 x.a4,.bool x.dn,.int .i64 x.c,.int .i64 x.d]:=by
  rw [fA _ (by omega)]
  have:=lD (P:=P) (V++Q) (U:=[x]) (i:=0) (k:=a) (by omega) (by simp)
  unfold gd at this
  rw [this];rfl
 have hW0:P++([x]++(V++Q))=P++((V.take 0++x::V.drop 0)++Q):=by simp
 generalize hW:P++([x]++(V++Q))=W at *
 have hWm:(W.map Pl.av).length=P.length+1+V.length+Q.length:=by rw [List.length_map];exact hWl
 (repeat' with_reducible first|intro _|refine ry ?_|refine ra ?_ ?_|omega|simp only [go_sem,i1])
 refine aJ.intro (fun y:Nat × Nat=>⟨220,[(0,.own 0),(1,.int .i64 a),(2,.int .i64 m),(3,.int .i64 b),(4,.fn F []),(10,.int .i64 (m+y.1:Nat)),(11,.int .i64 (m+y.2:Nat))],[(0,.row 59 (aC W))],1⟩) (fun y=>y.1≤y.2∧y.2≤V.length∧(∀ i,i<y.1→i<V.length→dS (gd V i) x)∧(∀ i,y.2≤i→i<V.length→¬dS (gd V i) x)) (fun y=>y.2 - y.1) (0,V.length) ?_ ⟨Nat.zero_le _,Nat.le_refl _,fun i h=>by omega,fun i h1 h2=>by omega⟩ fun y hy=>?_
 ·refine aS.bG 1 rfl (Nat.le_refl 1) ?_ ?_<;>simp only [go_sem,Int.natCast_succ,aI,aC]
  all_goals omega
 obtain ⟨al,be⟩:=y
 obtain ⟨h1,h2,h3,h4⟩:=hy
 dsimp only at h1 h2 h3 h4 ⊢
 by_cases hij:al<be
 ·have hsh:=oD (m+al) (m+be)
  have hmid:(m+al+(m+be)) / 2=m+(al+be) / 2:=by omega
  rw [hmid] at hsh
  have hm1:al≤(al+be) / 2:=by omega
  have hm2:(al+be) / 2<be:=by omega
  have eg:=eV ((al+be) / 2) (by omega)
  have kc:=hF (gd V ((al+be) / 2)) x
  generalize hgm:(al+be) / 2=g at *
  have hc1:((m+al:Nat):Int)<((m+be:Nat):Int):=by omega
  (repeat' with_reducible first|intro _|refine ry ?_|refine ra ?_ ?_|omega|simp only [go_sem,hc1])
  refine dh.Fb (gJ.2 (by omega)) ?_
  rw [hsh]
  (repeat' with_reducible first|intro _|refine ry ?_|refine ra ?_ ?_|omega|simp only [go_sem,Int.toNat_natCast])
  refine aP.lex [] [] (by kernel_rfl) (by kernel_rfl) ?_
  by_cases hlt0:dS (gd V g) x
  ·have hcn:=Ae hlt0
   have hinv:g+1≤be∧be≤V.length∧(∀ i,i<g+1→i<V.length→dS (gd V i) x)∧(∀ i,be≤i→i<V.length→¬dS (gd V i) x):=⟨by omega,h2,fun i hi hl=>by
    have:=eX hV (i:=i) (j:=g) (by omega) (by omega)
    unfold dS at *;omega,h4⟩
   generalize He (gd V g) x=cv at *
   generalize gd V g=v at *
   (repeat' with_reducible first|intro _|refine ry ?_|refine ra ?_ ?_|omega|simp only [go_sem,Int.toNat_natCast,aN,eg,ex,aC])
   refine QV.intro (.int .i64 cv) ?_ ?_
   ·(repeat' with_reducible first|intro _|refine ry ?_|refine ra ?_ ?_|omega|simp only [go_sem,Int.toNat_natCast,aN,eg,ex,aC])
    refine aj.k kc ?_
    (repeat' with_reducible first|intro _|refine ry ?_|refine ra ?_ ?_|omega|simp only [go_sem,aC])
   (repeat' with_reducible first|intro _|refine ry ?_|refine ra ?_ ?_|omega|simp only [go_sem,hcn,aC])
   refine ⟨(g+1,be),aS.bG 1 rfl (Nat.le_refl 1) ?_ ?_,hinv,by dsimp only;omega⟩<;>simp only [go_sem,Int.natCast_succ,aI,aC]
   all_goals omega
  ·have hcn:=Af hlt0
   have hinv:al≤g∧g≤V.length∧(∀ i,i<al→i<V.length→dS (gd V i) x)∧(∀ i,g≤i→i<V.length→¬dS (gd V i) x):=⟨hm1,by omega,h3,fun i hi hl=>by
    have:=eX hV (i:=g) (j:=i) hi hl
    exact gB hlt0 this⟩
   generalize He (gd V g) x=cv at *
   generalize gd V g=v at *
   (repeat' with_reducible first|intro _|refine ry ?_|refine ra ?_ ?_|omega|simp only [go_sem,Int.toNat_natCast,aN,eg,ex,aC])
   refine QV.intro (.int .i64 cv) ?_ ?_
   ·(repeat' with_reducible first|intro _|refine ry ?_|refine ra ?_ ?_|omega|simp only [go_sem,Int.toNat_natCast,aN,eg,ex,aC])
    refine aj.k kc ?_
    (repeat' with_reducible first|intro _|refine ry ?_|refine ra ?_ ?_|omega|simp only [go_sem,aC])
   (repeat' with_reducible first|intro _|refine ry ?_|refine ra ?_ ?_|omega|simp only [go_sem,hcn,aC])
   refine ⟨(al,g),aS.bG 1 rfl (Nat.le_refl 1) ?_ ?_,hinv,by dsimp only;omega⟩<;>simp only [go_sem,Int.natCast_succ,aI,aC]
 have e:be=al:=by omega
 subst e
 have hend:V.take be++x::V.drop be=R:=by rw [←hR];exact yP hV hS h3 h4
 have hc1:¬((m+be:Nat):Int)<((m+be:Nat):Int):=by omega
 have m1:((m+be:Nat):Int) - 1=((a+be:Nat):Int):=by omega
 clear h3 h4 hij
 (repeat' with_reducible first|intro _|refine ry ?_|refine ra ?_ ?_|omega|simp only [go_sem,hc1])
 refine aJ.intro (fun k:Nat=>⟨220,[(0,.own 0),(1,.int .i64 a),(2,.int .i64 m),(3,.int .i64 b),(4,.fn F []),(10,.int .i64 (m+be:Nat)),(13,.int .i64 (a+k:Nat))],[(0,.row 59 (aC (P++((V.take k++x::V.drop k)++Q))))],1⟩) (fun k=>k≤be) (fun k=>be - k) 0 ?_ (Nat.zero_le _) fun k hk=>?_
 ·refine aS.bG 1 rfl (Nat.le_refl 1) ?_ ?_<;>simp only [go_sem,Int.natCast_succ,aI,aC,hW0]
 have hlk:(P++((V.take k++x::V.drop k)++Q)).length=P.length+1+V.length+Q.length:=by simp;omega
 by_cases hkb:k<be
 ·have hkl:k<V.length:=by omega
  have hsw:zU ((P++((V.take k++x::V.drop k)++Q)).map Pl.av) ((P++((V.take (k+1)++x::V.drop (k+1))++Q)).map Pl.av) (a+k) (a+(k+1)) x (gd V k):=by
   refine Eu (A:=P++V.take k) (B:=[]) (C:=V.drop (k+1)++Q) ?_ ?_ ?_ ?_
   ·rw [List.drop_eq_getElem_cons hkl,←fJ hkl];simp
   ·rw [List.take_succ_eq_append_getElem hkl,←fJ hkl];simp
   ·simp;omega
   ·simp;omega
  obtain ⟨hl,hl',e1,e2,s1,s2,t1,t2⟩:=hsw
  generalize gd V k=v at *
  have hc2:((a+k:Nat):Int)<((a+be:Nat):Int):=by omega
  have n1:((a+k:Nat):Int)+1=((a+(k+1):Nat):Int):=by omega
  generalize P++((V.take k++x::V.drop k)++Q)=W1 at *
  generalize hW2:P++((V.take (k+1)++x::V.drop (k+1))++Q)=W2 at *
  (repeat' with_reducible first|intro _|refine ry ?_|refine ra ?_ ?_|omega|simp only [go_sem,m1,hc2,n1,aC])
  refine aP.lex [15,17] [(2,[1]),(3,[1]),(4,[1])] (by kernel_rfl) (by kernel_rfl) ?_
  (repeat' with_reducible first|intro _|refine ry ?_|refine ra ?_ ?_|omega|simp only [go_sem,m1,hc2,n1,aC,Int.toNat_natCast,aN,e1,e2,s1,s2,t1,t2])
  refine ⟨k+1,aS.bG 1 rfl (Nat.le_refl 1) ?_ ?_,by omega,by omega⟩<;>simp only [go_sem,Int.natCast_succ,aI,aC,n1,hW2]
 ·have e:k=be:=by omega
  subst e
  rw [hend]
  have hc2:¬((a+k:Nat):Int)<((a+k:Nat):Int):=by omega
  (repeat' with_reducible first|intro _|refine ry ?_|refine ra ?_ ?_|omega|simp only [go_sem,m1,hc2])
  refine dN.auto 1 (Nat.le_refl 1) ?_ rfl ?_<;>simp only [go_sem,Int.natCast_succ,aI,aC]
end Go.Fv.L
/- The stable sort of rails: the walk of a merge, where the second side has one element. -/
namespace Go.Fv.L
open Go Go.Proofs
set_option maxHeartbeats 16000000 in
theorem Lu (F:Nat) (hF:EH F) (P U Q:List Pl) (y:Pl) (a m b:Nat) (ha:a=P.length) (hm:m=P.length+U.length) (hb:b=P.length+U.length+1) (h2U:2≤U.length) (hU:o7 U) (hS:eF (U++[y])) (hN:P.length+U.length+1+Q.length≤1000000) :
  dD Tryd.prog 63 [.own 0,.int .i64 a,.int .i64 m,.int .i64 b,.fn F []] [(0,.row 59 (aC (P++(U++([y]++Q)))))] 1 (.tup []) [(0,.row 59 (aC (P++(aO (U++[y])++Q))))]:=by
 refine dD.aY Tryd.func63 rfl (by decide) (by simp [Tryd.f63]) bQ [] rfl fun w0 T0 _=>?_
 simp only [Tryd.f63,aK]
 generalize hR:aO (U++[y])=R
 have i1:¬(m:Int) - (a:Int)=1:=by omega
 have i2:(b:Int) - (m:Int)=1:=by omega
 have hWl:(P++(U++([y]++Q))).length=P.length+U.length+1+Q.length:=by simp;omega
 have eU:∀ g,g<U.length→((P++(U++([y]++Q))).map Pl.av).getD (a+g) []=[.int .i64 (gd U g).a1,.int .i64 (gd U g).a2,.int .i64 (gd U g).a3,.int .i64 (gd U g).a4,.bool (gd U g).dn,.int .i64 (gd U g).c,.int .i64 (gd U g).d]:=fun g hg=>by
  rw [fA _ (by omega)]
  have:=lD (P:=P) ([y]++Q) (U:=U) (i:=g) (k:=a+g) (by omega) hg
  unfold gd at this ⊢
  rw [this]
 have ey:((P++(U++([y]++Q))).map Pl.av).getD m []=[.int .i64 y.a1,.int .i64 y.a2,.int .i64 y.a3,.int .i64 y.a4,.bool y.dn,.int .i64 y.c,.int .i64 y.d]:=by
  rw [fA _ (by omega)]
  have:=jY (P:=P) (U:=U) Q (V:=[y]) (i:=0) (k:=m) (by omega) (by simp)
  unfold gd at this
  rw [this];rfl
 have hW0:P++(U++([y]++Q))=P++((U.take U.length++y::U.drop U.length)++Q):=by simp
 generalize hW:P++(U++([y]++Q))=W at *
 have hWm:(W.map Pl.av).length=P.length+U.length+1+Q.length:=by rw [List.length_map];exact hWl
 (repeat' with_reducible first|intro _|refine ry ?_|refine ra ?_ ?_|omega|simp only [go_sem,i1,i2])
 refine aJ.intro (fun z:Nat × Nat=>⟨220,[(0,.own 0),(1,.int .i64 a),(2,.int .i64 m),(3,.int .i64 b),(4,.fn F []),(14,.int .i64 (a+z.1:Nat)),(15,.int .i64 (a+z.2:Nat))],[(0,.row 59 (aC W))],1⟩) (fun z=>z.1≤z.2∧z.2≤U.length∧(∀ i,i<z.1→i<U.length→¬dS y (gd U i))∧(∀ i,z.2≤i→i<U.length→dS y (gd U i))) (fun z=>z.2 - z.1) (0,U.length) ?_ ⟨Nat.zero_le _,Nat.le_refl _,fun i h=>by omega,fun i h1 h2=>by omega⟩ fun z hz=>?_
 ·refine aS.bG 1 rfl (Nat.le_refl 1) ?_ ?_<;>simp only [go_sem,Int.natCast_succ,aI,aC]
  all_goals omega
 obtain ⟨al,be⟩:=z
 obtain ⟨h1,h2,h3,h4⟩:=hz
 dsimp only at h1 h2 h3 h4 ⊢
 by_cases hij:al<be
 ·have hsh:=oD (a+al) (a+be)
  have hmid:(a+al+(a+be)) / 2=a+(al+be) / 2:=by omega
  rw [hmid] at hsh
  have hm1:al≤(al+be) / 2:=by omega
  have hm2:(al+be) / 2<be:=by omega
  have eg:=eU ((al+be) / 2) (by omega)
  have kc:=hF y (gd U ((al+be) / 2))
  generalize hgm:(al+be) / 2=g at *
  have hc1:((a+al:Nat):Int)<((a+be:Nat):Int):=by omega
  (repeat' with_reducible first|intro _|refine ry ?_|refine ra ?_ ?_|omega|simp only [go_sem,hc1])
  refine dh.Fb (gJ.2 (by omega)) ?_
  rw [hsh]
  (repeat' with_reducible first|intro _|refine ry ?_|refine ra ?_ ?_|omega|simp only [go_sem,Int.toNat_natCast])
  refine aP.lex [] [] (by kernel_rfl) (by kernel_rfl) ?_
  by_cases hlt0:dS y (gd U g)
  ·have hcn:=Ae hlt0
   have hinv:al≤g∧g≤U.length∧(∀ i,i<al→i<U.length→¬dS y (gd U i))∧(∀ i,g≤i→i<U.length→dS y (gd U i)):=⟨hm1,by omega,h3,fun i hi hl=>by
    have:=eX hU (i:=g) (j:=i) hi hl
    unfold dS at *;omega⟩
   generalize He y (gd U g)=cv at *
   generalize gd U g=v at *
   (repeat' with_reducible first|intro _|refine ry ?_|refine ra ?_ ?_|omega|simp only [go_sem,Int.toNat_natCast,aN,eg,ey,aC])
   refine QV.intro (.int .i64 cv) ?_ ?_
   ·(repeat' with_reducible first|intro _|refine ry ?_|refine ra ?_ ?_|omega|simp only [go_sem,Int.toNat_natCast,aN,eg,ey,aC])
    refine aj.k kc ?_
    (repeat' with_reducible first|intro _|refine ry ?_|refine ra ?_ ?_|omega|simp only [go_sem,aC])
   (repeat' with_reducible first|intro _|refine ry ?_|refine ra ?_ ?_|omega|simp only [go_sem,hcn,aC])
   refine ⟨(al,g),aS.bG 1 rfl (Nat.le_refl 1) ?_ ?_,hinv,by dsimp only;omega⟩<;>simp only [go_sem,Int.natCast_succ,aI,aC]
  ·have hcn:=Af hlt0
   have hinv:g+1≤be∧be≤U.length∧(∀ i,i<g+1→i<U.length→¬dS y (gd U i))∧(∀ i,be≤i→i<U.length→dS y (gd U i)):=⟨by omega,h2,fun i hi hl=>by
    have:=eX hU (i:=i) (j:=g) (by omega) (by omega)
    exact gB this hlt0,h4⟩
   generalize He y (gd U g)=cv at *
   generalize gd U g=v at *
   (repeat' with_reducible first|intro _|refine ry ?_|refine ra ?_ ?_|omega|simp only [go_sem,Int.toNat_natCast,aN,eg,ey,aC])
   refine QV.intro (.int .i64 cv) ?_ ?_
   ·(repeat' with_reducible first|intro _|refine ry ?_|refine ra ?_ ?_|omega|simp only [go_sem,Int.toNat_natCast,aN,eg,ey,aC])
    refine aj.k kc ?_
    (repeat' with_reducible first|intro _|refine ry ?_|refine ra ?_ ?_|omega|simp only [go_sem,aC])
   (repeat' with_reducible first|intro _|refine ry ?_|refine ra ?_ ?_|omega|simp only [go_sem,hcn,aC])
   refine ⟨(g+1,be),aS.bG 1 rfl (Nat.le_refl 1) ?_ ?_,hinv,by dsimp only;omega⟩<;>simp only [go_sem,Int.natCast_succ,aI,aC]
   all_goals omega
 have e:be=al:=by omega
 subst e
 have hend:U.take be++y::U.drop be=R:=by rw [←hR];exact Bc hU hS h3 h4
 have hc1:¬((a+be:Nat):Int)<((a+be:Nat):Int):=by omega
 have hma:(m:Int)=((a+U.length:Nat):Int):=by omega
 clear h3 h4 hij
 (repeat' with_reducible first|intro _|refine ry ?_|refine ra ?_ ?_|omega|simp only [go_sem,hc1])
 refine aJ.intro (fun k:Nat=>⟨220,[(0,.own 0),(1,.int .i64 a),(2,.int .i64 m),(3,.int .i64 b),(4,.fn F []),(14,.int .i64 (a+be:Nat)),(17,.int .i64 (a+k:Nat))],[(0,.row 59 (aC (P++((U.take k++y::U.drop k)++Q))))],1⟩) (fun k=>be≤k∧k≤U.length) (fun k=>k) U.length ?_ ⟨h2,Nat.le_refl _⟩ fun k hk=>?_
 ·refine aS.bG 1 rfl (Nat.le_refl 1) ?_ ?_<;>simp only [go_sem,Int.natCast_succ,aI,aC,hW0,hma]
 obtain ⟨hk1,hk2⟩:=hk
 by_cases hkb:be<k
 ·obtain ⟨k,rfl⟩:∃ k',k=k'+1:=⟨k - 1,by omega⟩
  have hkl:k<U.length:=by omega
  have hlk:(P++((U.take (k+1)++y::U.drop (k+1))++Q)).length=P.length+U.length+1+Q.length:=by simp;omega
  have hsw:zU ((P++((U.take (k+1)++y::U.drop (k+1))++Q)).map Pl.av) ((P++((U.take k++y::U.drop k)++Q)).map Pl.av) (a+k) (a+(k+1)) (gd U k) y:=by
   refine Eu (A:=P++U.take k) (B:=[]) (C:=U.drop (k+1)++Q) ?_ ?_ ?_ ?_
   ·rw [List.take_succ_eq_append_getElem hkl,←fJ hkl];simp
   ·rw [List.drop_eq_getElem_cons hkl,←fJ hkl];simp
   ·simp;omega
   ·simp;omega
  obtain ⟨hl,hl',e1,e2,s1,s2,t1,t2⟩:=hsw
  generalize gd U k=v at *
  have hc2:((a+be:Nat):Int)<((a+(k+1):Nat):Int):=by omega
  have n1:((a+(k+1):Nat):Int) - 1=((a+k:Nat):Int):=by omega
  generalize hW2:P++((U.take k++y::U.drop k)++Q)=W2 at *
  generalize P++((U.take (k+1)++y::U.drop (k+1))++Q)=W1 at *
  (repeat' with_reducible first|intro _|refine ry ?_|refine ra ?_ ?_|omega|simp only [go_sem,hc2,n1,aC])
  refine aP.lex [15,17] [(2,[1]),(3,[1]),(4,[1])] (by kernel_rfl) (by kernel_rfl) ?_
  (repeat' with_reducible first|intro _|refine ry ?_|refine ra ?_ ?_|omega|simp only [go_sem,hc2,n1,aC,Int.toNat_natCast,aN,e1,e2,s1,s2,t1,t2])
  refine ⟨k,aS.bG 1 rfl (Nat.le_refl 1) ?_ ?_,⟨by omega,by omega⟩,by omega⟩<;>simp only [go_sem,Int.natCast_succ,aI,aC,n1,hW2]
 ·have e:k=be:=by omega
  subst e
  rw [hend]
  have hc2:¬((a+k:Nat):Int)<((a+k:Nat):Int):=by omega
  (repeat' with_reducible first|intro _|refine ry ?_|refine ra ?_ ?_|omega|simp only [go_sem,hc2])
  refine dN.auto 1 (Nat.le_refl 1) ?_ rfl ?_<;>simp only [go_sem,Int.natCast_succ,aI,aC]
end Go.Fv.L
/- The stable sort of rails: the walk of a merge in general. -/
namespace Go.Fv.L
open Go Go.Proofs
def LZ (F n:Nat):Prop:=∀ (P U V Q:List Pl) (a m b:Nat),a=P.length→m=P.length+U.length→b=P.length+U.length+V.length→0<U.length→0<V.length→U.length+V.length≤n→o7 U→o7 V→eF (U++V)→P.length+U.length+V.length+Q.length≤1000000 →
  dD Tryd.prog 63 [.own 0,.int .i64 a,.int .i64 m,.int .i64 b,.fn F []] [(0,.row 59 (aC (P++(U++(V++Q)))))] 1 (.tup []) [(0,.row 59 (aC (P++(aO (U++V)++Q))))]
structure WL (F:Nat) (W0 W3:List Pl) (a m b md s:Nat):Prop where
 ex:∃ W1 W2:List Pl,
  (s<m→s<md→dD Tryd.prog 70 [.own 0,.int .i64 s,.int .i64 m,.int .i64 (md+m - s:Nat),.fn F []] [(0,.row 59 (aC W0))] 1 (.tup []) [(0,.row 59 (aC W1))]) ∧
  (¬(s<m∧s<md)→W0=W1) ∧
  (a<s→s<md→dD Tryd.prog 63 [.own 0,.int .i64 a,.int .i64 s,.int .i64 md,.fn F []] [(0,.row 59 (aC W1))] 1 (.tup []) [(0,.row 59 (aC W2))]) ∧
  (¬(a<s∧s<md)→W1=W2) ∧
  (s<m→md+m - s<b→dD Tryd.prog 63 [.own 0,.int .i64 md,.int .i64 (md+m - s:Nat),.int .i64 b,.fn F []] [(0,.row 59 (aC W2))] 1 (.tup []) [(0,.row 59 (aC W3))]) ∧
  (¬(s<m∧md+m - s<b)→W2=W3)
theorem Vd {F n:Nat} (hI:LZ F n) {P U V Q:List Pl} {a m b md s:Nat} (ha:a=P.length) (hm:m=P.length+U.length) (hb:b=P.length+U.length+V.length) (hn:U.length+V.length≤n+1) (h1:a<md) (h2:md<b)
  (hs1:a≤s) (hs2:s≤m) (hs3:s≤md) (hs4:md+m≤b+s) (hU:o7 U) (hV:o7 V) (hS:eF (U++V)) (hN:P.length+U.length+V.length+Q.length≤1000000) (hc:N8 U V (s - a) (md - s)) :
  WL F (P++(U++(V++Q))) (P++(aO (U++V)++Q)) a m b md s:=by
 have hm3:=hc.merge hU hV hS
 have tU:=List.take_append_drop (s - a) U
 have tV:=List.take_append_drop (md - s) V
 have l1:(U.take (s - a)).length=s - a:=by rw [List.length_take];omega
 have l2:(U.drop (s - a)).length=m - s:=by rw [List.length_drop];omega
 have l3:(V.take (md - s)).length=md - s:=by rw [List.length_take];omega
 have l4:(V.drop (md - s)).length=b+s - (md+m):=by rw [List.length_drop];omega
 have sU1:=hU.take (s - a)
 have sU2:=hU.drop (s - a)
 have sV1:=hV.take (md - s)
 have sV2:=hV.drop (md - s)
 have st1:=BF hS (s - a) (md - s)
 have st2:=BD hS (s - a) (md - s)
 rw [←hm3]
 have hUl:U.length=(s - a)+(m - s):=by omega
 have hVl:V.length=(md - s)+(b+s - (md+m)):=by omega
 clear hm3 hc hU hV hS
 generalize U.take (s - a)=U1 at *
 generalize U.drop (s - a)=U2 at *
 generalize V.take (md - s)=V1 at *
 generalize V.drop (md - s)=V2 at *
 have sl1:(aO (U1++V1)).length=md - a:=by rw [dB,List.length_append];omega
 refine ⟨P++(U1++(V1++(U2++(V2++Q)))),P++(aO (U1++V1)++(U2++(V2++Q))),fun c1 c2=>?_,fun c=>?_,fun c1 c2=>?_,fun c=>?_,fun c1 c2=>?_,fun c=>?_⟩
 ·have k:=O8 (P++U1) U2 V1 (V2++Q) s m (md+m - s) F (by rw [List.length_append];omega) (by rw [List.length_append];omega) (by rw [List.length_append];omega) (by omega) (by omega) (by simp only [List.length_append];omega)
  have e1:(P++U1)++(U2++(V1++(V2++Q)))=P++(U++(V++Q)):=by rw [←tU,←tV];simp
  have e2:(P++U1)++(V1++(U2++(V2++Q)))=P++(U1++(V1++(U2++(V2++Q)))):=by simp
  rw [e1,e2] at k
  exact k
 ·rw [←tU,←tV]
  by_cases c1:s<m
  ·have:V1=[]:=List.eq_nil_of_length_eq_zero (by omega)
   subst this;simp
  ·have:U2=[]:=List.eq_nil_of_length_eq_zero (by omega)
   subst this;simp
 ·exact hI P U1 V1 (U2++(V2++Q)) a s md ha (by omega) (by omega) (by omega) (by omega) (by omega) sU1 sV1 st1 (by simp only [List.length_append];omega)
 ·have:aO (U1++V1)=U1++V1:=by
   by_cases c1:a<s
   ·have:V1=[]:=List.eq_nil_of_length_eq_zero (by omega)
    subst this
    rw [List.append_nil] at st1 ⊢
    exact gZ sU1 st1
   ·have:U1=[]:=List.eq_nil_of_length_eq_zero (by omega)
    subst this
    exact gZ sV1 st1
  rw [this];simp
 ·have k:=hI (P++aO (U1++V1)) U2 V2 Q md (md+m - s) b (by rw [List.length_append];omega) (by rw [List.length_append];omega) (by rw [List.length_append];omega) (by omega) (by omega) (by omega) sU2 sV2 st2 (by rw [List.length_append];omega)
  have e1:(P++aO (U1++V1))++(U2++(V2++Q))=P++(aO (U1++V1)++(U2++(V2++Q))):=by simp
  have e2:(P++aO (U1++V1))++(aO (U2++V2)++Q)=P++((aO (U1++V1)++aO (U2++V2))++Q):=by simp
  rw [e1,e2] at k
  exact k
 ·have:aO (U2++V2)=U2++V2:=by
   by_cases c1:s<m
   ·have:V2=[]:=List.eq_nil_of_length_eq_zero (by omega)
    subst this
    rw [List.append_nil] at st2 ⊢
    exact gZ sU2 st2
   ·have:U2=[]:=List.eq_nil_of_length_eq_zero (by omega)
    subst this
    exact gZ sV2 st2
  rw [this];simp
def PL (lo hi a m b md:Nat):Prop:=(lo=a∨md+m=b+lo)∧(hi=m∨hi=md)
def Hq (U V:List Pl) (a md lo hi s r:Nat):Prop:=(lo<s→¬dS (gd V (md - s)) (gd U (s - 1 - a)))∧(r<hi→dS (gd V (md - 1 - r)) (gd U (r - a)))
theorem Hq.cut {U V:List Pl} {a m b md lo hi s:Nat} (h:Hq U V a md lo hi s s) (he:PL lo hi a m b md) (h1:lo≤s) (h2:s≤hi) (ha:a≤lo) (hm:hi≤m) (hmd:hi≤md) (hb:md+m≤b+lo) (hU:m=a+U.length) (hV:b=m+V.length):N8 U V (s - a) (md - s):=by
 obtain ⟨e1,e2⟩:=he
 refine ⟨by omega,by omega,fun x1 x2=>?_,fun x1 x2=>?_⟩
 ·have:=h.1 (by omega)
  rw [show s - 1 - a=s - a - 1 by omega] at this;exact this
 ·have:=h.2 (by omega)
  rw [show md - 1 - s=md - s - 1 by omega] at this;exact this
end Go.Fv.L
/- The stable sort of rails: the walk of a merge in general. -/
namespace Go.Fv.L
open Go Go.Proofs
set_option maxHeartbeats 32000000 in
theorem Lr (F:Nat) (hF:EH F) (n:Nat) (hI:LZ F n) (P U V Q:List Pl) (a m b:Nat) (ha:a=P.length) (hm:m=P.length+U.length) (hb:b=P.length+U.length+V.length) (h2U:2≤U.length) (h2V:2≤V.length) (hn:U.length+V.length≤n+1) (hU:o7 U) (hV:o7 V) (hS:eF (U++V)) (hmd00:(a+b) / 2<m) (hN:P.length+U.length+V.length+Q.length≤1000000) :
  dD Tryd.prog 63 [.own 0,.int .i64 a,.int .i64 m,.int .i64 b,.fn F []] [(0,.row 59 (aC (P++(U++(V++Q)))))] 1 (.tup []) [(0,.row 59 (aC (P++(aO (U++V)++Q))))]:=by
 refine dD.aY Tryd.func63 rfl (by decide) (by simp [Tryd.f63]) bQ [] rfl fun w0 T0 _=>?_
 simp only [Tryd.f63,aK]
 have i1:¬(m:Int) - (a:Int)=1:=by omega
 have i2:¬(b:Int) - (m:Int)=1:=by omega
 have hWl:(P++(U++(V++Q))).length=P.length+U.length+V.length+Q.length:=by simp;omega
 have eU:∀ g,a≤g→g<m→((P++(U++(V++Q))).map Pl.av).getD g []=[.int .i64 (gd U (g - a)).a1,.int .i64 (gd U (g - a)).a2,.int .i64 (gd U (g - a)).a3,.int .i64 (gd U (g - a)).a4,.bool (gd U (g - a)).dn,.int .i64 (gd U (g - a)).c,.int .i64 (gd U (g - a)).d]:=fun g hg hg2=>by
  rw [fA _ (by omega)]
  have:=lD (P:=P) (V++Q) (U:=U) (i:=g - a) (k:=g) (by omega) (by omega)
  unfold gd at this ⊢
  rw [this]
 have eV:∀ g,m≤g→g<b→((P++(U++(V++Q))).map Pl.av).getD g []=[.int .i64 (gd V (g - m)).a1,.int .i64 (gd V (g - m)).a2,.int .i64 (gd V (g - m)).a3,.int .i64 (gd V (g - m)).a4,.bool (gd V (g - m)).dn,.int .i64 (gd V (g - m)).c,.int .i64 (gd V (g - m)).d]:=fun g hg hg2=>by
  rw [fA _ (by omega)]
  have:=jY (P:=P) (U:=U) Q (V:=V) (i:=g - m) (k:=g) (by omega) (by omega)
  unfold gd at this ⊢
  rw [this]
 have hmd0:=oD a b
 have hmd1:a<(a+b) / 2:=by omega
 have hmd2:(a+b) / 2<b:=by omega
 have hmd3:2*((a+b) / 2)≤a+b∧a+b≤2*((a+b) / 2)+1:=by omega
 have hrest:=fun s h1 h2 h3 h4 hc=>Vd (P:=P) (U:=U) (V:=V) (Q:=Q) (a:=a) (m:=m) (b:=b) (md:=(a+b) / 2) (s:=s) hI ha hm hb hn hmd1 hmd2 h1 h2 h3 h4 hU hV hS hN hc
 generalize (a+b) / 2=md at *
 generalize P++(aO (U++V)++Q)=W3 at *
 generalize hW:P++(U++(V++Q))=W at *
 have hWm:(W.map Pl.av).length=P.length+U.length+V.length+Q.length:=by rw [List.length_map];exact hWl
 have nn:(md:Int)+(m:Int)=((md+m:Nat):Int):=by omega
 have np:((md+m:Nat):Int) - 1=((md+m - 1:Nat):Int):=by omega
 (repeat' with_reducible first|intro _|refine ry ?_|refine ra ?_ ?_|omega|simp only [go_sem,i1,i2])
 refine dh.Fb (gJ.2 (by omega)) ?_
 rw [hmd0]
 obtain ⟨lo,hi,hlh,b1,b2,b3,b4,hends,l1,l2⟩:∃ lo hi:Nat,lo≤hi∧a≤lo∧hi≤m∧hi≤md∧md+m≤b+lo∧PL lo hi a m b md∧((md+m:Nat):Int) - (b:Int)=(lo:Int)∧(md:Int)=(hi:Int):=⟨md+m - b,md,by omega,by omega,by omega,by omega,by omega,⟨by omega,by omega⟩,by omega,rfl⟩
 have hg:(md:Int)<(m:Int):=by omega
 (repeat' with_reducible first|intro _|refine ry ?_|refine ra ?_ ?_|omega|simp only [go_sem,nn,np,hg,l1])
 refine aJ.intro (fun z:Nat × Nat=>⟨220,[(0,.own 0),(1,.int .i64 a),(2,.int .i64 m),(3,.int .i64 b),(4,.fn F []),(18,.int .i64 md),(19,.int .i64 (md+m:Nat)),(20,.int .i64 z.1),(21,.int .i64 z.2),(22,.int .i64 (md+m - 1:Nat))],[(0,.row 59 (aC W))],1⟩) (fun z=>(lo≤z.1∧z.1≤z.2∧z.2≤hi)∧Hq U V a md lo hi z.1 z.2) (fun z=>z.2 - z.1) (lo,hi) ?_ ⟨⟨Nat.le_refl _,hlh,Nat.le_refl _⟩,fun h=>absurd h (Nat.lt_irrefl _),fun h=>absurd h (Nat.lt_irrefl _)⟩ fun z hz=>?_
 ·refine aS.bG 1 rfl (Nat.le_refl 1) ?_ ?_<;>simp only [go_sem,Int.natCast_succ,aI,aC,nn,np]
  all_goals omega
 obtain ⟨s,r⟩:=z
 obtain ⟨⟨z1,z2,z3⟩,za⟩:=hz
 dsimp only at z1 z2 z3 za ⊢
 by_cases hsr:s<r
 ·have hsh:=oD s r
  have hm1:s≤(s+r) / 2:=by omega
  have hm2:(s+r) / 2<r:=by omega
  generalize (s+r) / 2=c at *
  have n1:((md+m - 1:Nat):Int) - (c:Int)=((md+m - 1 - c:Nat):Int):=by omega
  have e1:=eU c (by omega) (by omega)
  have e2:=eV (md+m - 1 - c) (by omega) (by omega)
  have ei:md+m - 1 - c - m=md - 1 - c:=by omega
  rw [ei] at e2
  have kc:=hF (gd V (md - 1 - c)) (gd U (c - a))
  have hc1:(s:Int)<(r:Int):=by omega
  (repeat' with_reducible first|intro _|refine ry ?_|refine ra ?_ ?_|omega|simp only [go_sem,hc1])
  refine dh.Fb (gJ.2 (by omega)) ?_
  rw [hsh]
  (repeat' with_reducible first|intro _|refine ry ?_|refine ra ?_ ?_|omega|simp only [go_sem,Int.toNat_natCast])
  refine aP.lex [] [] (by kernel_rfl) (by kernel_rfl) ?_
  by_cases hlt0:dS (gd V (md - 1 - c)) (gd U (c - a))
  ·have hcn:=Ae hlt0
   have hinv:(lo≤s∧s≤c∧c≤hi)∧Hq U V a md lo hi s c:=⟨by omega,za.1,fun _=>hlt0⟩
   generalize He (gd V (md - 1 - c)) (gd U (c - a))=cv at *
   generalize gd V (md - 1 - c)=v at *
   generalize gd U (c - a)=u at *
   (repeat' with_reducible first|intro _|refine ry ?_|refine ra ?_ ?_|omega|simp only [go_sem,Int.toNat_natCast,aN,e1,e2,n1,aC])
   refine QV.intro (.int .i64 cv) ?_ ?_
   ·(repeat' with_reducible first|intro _|refine ry ?_|refine ra ?_ ?_|omega|simp only [go_sem,Int.toNat_natCast,aN,e1,e2,n1,aC])
    refine aj.k kc ?_
    (repeat' with_reducible first|intro _|refine ry ?_|refine ra ?_ ?_|omega|simp only [go_sem,aC])
   (repeat' with_reducible first|intro _|refine ry ?_|refine ra ?_ ?_|omega|simp only [go_sem,hcn,aC])
   refine ⟨(s,c),aS.bG 1 rfl (Nat.le_refl 1) ?_ ?_,hinv,by dsimp only;omega⟩<;>simp only [go_sem,Int.natCast_succ,aI,aC]
  ·have hcn:=Af hlt0
   have hinv:(lo≤c+1∧c+1≤r∧r≤hi)∧Hq U V a md lo hi (c+1) r:=⟨by omega,fun _=>by
    rw [show md - (c+1)=md - 1 - c by omega,show c+1 - 1 - a=c - a by omega];exact hlt0,za.2⟩
   generalize He (gd V (md - 1 - c)) (gd U (c - a))=cv at *
   generalize gd V (md - 1 - c)=v at *
   generalize gd U (c - a)=u at *
   (repeat' with_reducible first|intro _|refine ry ?_|refine ra ?_ ?_|omega|simp only [go_sem,Int.toNat_natCast,aN,e1,e2,n1,aC])
   refine QV.intro (.int .i64 cv) ?_ ?_
   ·(repeat' with_reducible first|intro _|refine ry ?_|refine ra ?_ ?_|omega|simp only [go_sem,Int.toNat_natCast,aN,e1,e2,n1,aC])
    refine aj.k kc ?_
    (repeat' with_reducible first|intro _|refine ry ?_|refine ra ?_ ?_|omega|simp only [go_sem,aC])
   (repeat' with_reducible first|intro _|refine ry ?_|refine ra ?_ ?_|omega|simp only [go_sem,hcn,aC])
   refine ⟨(c+1,r),aS.bG 1 rfl (Nat.le_refl 1) ?_ ?_,hinv,by dsimp only;omega⟩<;>simp only [go_sem,Int.natCast_succ,aI,aC]
 have e:r=s:=by omega
 subst e
 obtain ⟨W1,W2,kr,h01,k1,h12,k2,h23⟩:=(hrest r (by omega) (by omega) (by omega) (by omega) (za.cut hends z1 z3 b1 b2 b3 b4 (by omega) (by omega))).ex
 have ne1:((md+m:Nat):Int) - (r:Int)=((md+m - r:Nat):Int):=by omega
 have hc1:¬(r:Int)<(r:Int):=by omega
 clear za hsr hrest eU eV hends
 rcases Classical.em (r<m∧r<md) with c0|c0
 ·first
  |(exfalso;omega)
  |(
    have kk:=kr c0.1 c0.2
    (repeat' with_reducible first|intro _|refine ry ?_|refine ra ?_ ?_|omega|simp only [go_sem,hc1,ne1])
    refine aj.io [0] kk (by decide) (by simp [bZ,ren,bV]) rfl (by simp [bU,bV,lk,Item.ren,Item.below,aC,bg,ak]) bQ 1 (by decide) rfl (by simp [bn,Item.below,aC,ak]) ?_
    rcases Classical.em (a<r∧r<md) with c1|c1
    ·first
     |(exfalso;omega)
     |(
       have kk:=k1 c1.1 c1.2
       (repeat' with_reducible first|intro _|refine ry ?_|refine ra ?_ ?_|omega|simp only [go_sem,S.je,aW,bV,dF,Item.ren,aC,List.getElem?_cons_zero,List.getElem?_cons_succ,List.getElem?_nil,List.filter,ne1])
       refine aj.io [0] kk (by decide) (by simp [bZ,ren,bV]) rfl (by simp [bU,bV,lk,Item.ren,Item.below,aC,bg,ak]) bQ 1 (by decide) rfl (by simp [bn,Item.below,aC,ak]) ?_
       rcases Classical.em (r<m∧md+m - r<b) with c2|c2
       ·first
        |(exfalso;omega)
        |(
          have kk:=k2 c2.1 c2.2
          (repeat' with_reducible first|intro _|refine ry ?_|refine ra ?_ ?_|omega|simp only [go_sem,S.je,aW,bV,dF,Item.ren,aC,List.getElem?_cons_zero,List.getElem?_cons_succ,List.getElem?_nil,List.filter,ne1])
          refine aj.io [0] kk (by decide) (by simp [bZ,ren,bV]) rfl (by simp [bU,bV,lk,Item.ren,Item.below,aC,bg,ak]) bQ 1 (by decide) rfl (by simp [bn,Item.below,aC,ak]) ?_
          (repeat' with_reducible first|intro _|refine ry ?_|refine ra ?_ ?_|omega|simp only [go_sem,S.je,aW,bV,dF,Item.ren,aC,List.getElem?_cons_zero,List.getElem?_cons_succ,List.getElem?_nil,List.filter,ne1])
          refine dN.auto 1 (Nat.le_refl 1) ?_ rfl ?_<;>simp only [go_sem,Int.natCast_succ,aI,aC])
       ·first
        |(exfalso;omega)
        |(
          have hw:=h23 c2
          subst hw
          (repeat' with_reducible first|intro _|refine ry ?_|refine ra ?_ ?_|omega|simp only [go_sem,S.je,aW,bV,dF,Item.ren,aC,List.getElem?_cons_zero,List.getElem?_cons_succ,List.getElem?_nil,List.filter,ne1])
          refine dN.auto 1 (Nat.le_refl 1) ?_ rfl ?_<;>simp only [go_sem,Int.natCast_succ,aI,aC]))
    ·first
     |(exfalso;omega)
     |(
       have hw:=h12 c1
       subst hw
       rcases Classical.em (r<m∧md+m - r<b) with c2|c2
       ·first
        |(exfalso;omega)
        |(
          have kk:=k2 c2.1 c2.2
          (repeat' with_reducible first|intro _|refine ry ?_|refine ra ?_ ?_|omega|simp only [go_sem,S.je,aW,bV,dF,Item.ren,aC,List.getElem?_cons_zero,List.getElem?_cons_succ,List.getElem?_nil,List.filter,ne1])
          refine aj.io [0] kk (by decide) (by simp [bZ,ren,bV]) rfl (by simp [bU,bV,lk,Item.ren,Item.below,aC,bg,ak]) bQ 1 (by decide) rfl (by simp [bn,Item.below,aC,ak]) ?_
          (repeat' with_reducible first|intro _|refine ry ?_|refine ra ?_ ?_|omega|simp only [go_sem,S.je,aW,bV,dF,Item.ren,aC,List.getElem?_cons_zero,List.getElem?_cons_succ,List.getElem?_nil,List.filter,ne1])
          refine dN.auto 1 (Nat.le_refl 1) ?_ rfl ?_<;>simp only [go_sem,Int.natCast_succ,aI,aC])
       ·first
        |(exfalso;omega)
        |(
          have hw:=h23 c2
          subst hw
          (repeat' with_reducible first|intro _|refine ry ?_|refine ra ?_ ?_|omega|simp only [go_sem,S.je,aW,bV,dF,Item.ren,aC,List.getElem?_cons_zero,List.getElem?_cons_succ,List.getElem?_nil,List.filter,ne1])
          refine dN.auto 1 (Nat.le_refl 1) ?_ rfl ?_<;>simp only [go_sem,Int.natCast_succ,aI,aC])))
 ·first
  |(exfalso;omega)
  |(
    have hw:=h01 c0
    subst hw
    rcases Classical.em (a<r∧r<md) with c1|c1
    ·first
     |(exfalso;omega)
     |(
       have kk:=k1 c1.1 c1.2
       (repeat' with_reducible first|intro _|refine ry ?_|refine ra ?_ ?_|omega|simp only [go_sem,hc1,ne1])
       refine aj.io [0] kk (by decide) (by simp [bZ,ren,bV]) rfl (by simp [bU,bV,lk,Item.ren,Item.below,aC,bg,ak]) bQ 1 (by decide) rfl (by simp [bn,Item.below,aC,ak]) ?_
       rcases Classical.em (r<m∧md+m - r<b) with c2|c2
       ·exact absurd (And.intro c2.1 c1.2) c0
       ·first
        |(exfalso;omega)
        |(
          have hw:=h23 c2
          subst hw
          (repeat' with_reducible first|intro _|refine ry ?_|refine ra ?_ ?_|omega|simp only [go_sem,S.je,aW,bV,dF,Item.ren,aC,List.getElem?_cons_zero,List.getElem?_cons_succ,List.getElem?_nil,List.filter,ne1])
          refine dN.auto 1 (Nat.le_refl 1) ?_ rfl ?_<;>simp only [go_sem,Int.natCast_succ,aI,aC]))
    ·first
     |(exfalso;omega)
     |(
       have hw:=h12 c1
       subst hw
       rcases Classical.em (r<m∧md+m - r<b) with c2|c2
       ·first
        |(exfalso;omega)
        |(
          have kk:=k2 c2.1 c2.2
          (repeat' with_reducible first|intro _|refine ry ?_|refine ra ?_ ?_|omega|simp only [go_sem,hc1,ne1])
          refine aj.io [0] kk (by decide) (by simp [bZ,ren,bV]) rfl (by simp [bU,bV,lk,Item.ren,Item.below,aC,bg,ak]) bQ 1 (by decide) rfl (by simp [bn,Item.below,aC,ak]) ?_
          (repeat' with_reducible first|intro _|refine ry ?_|refine ra ?_ ?_|omega|simp only [go_sem,S.je,aW,bV,dF,Item.ren,aC,List.getElem?_cons_zero,List.getElem?_cons_succ,List.getElem?_nil,List.filter,ne1])
          refine dN.auto 1 (Nat.le_refl 1) ?_ rfl ?_<;>simp only [go_sem,Int.natCast_succ,aI,aC])
       ·first
        |(exfalso;omega)
        |(
          have hw:=h23 c2
          subst hw
          (repeat' with_reducible first|intro _|refine ry ?_|refine ra ?_ ?_|omega|simp only [go_sem,hc1,ne1])
          refine dN.auto 1 (Nat.le_refl 1) ?_ rfl ?_<;>simp only [go_sem,Int.natCast_succ,aI,aC])))
end Go.Fv.L
