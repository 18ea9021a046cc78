/-
  A part of the proof of the claim: walks over the program's functions and the plain laws that these need. No condition of its own.
-/
import Derived.Test.YtpbllkibobnifaaDoorLRmCardPart7
import Derived.Test.YtpbllkibobnifaaDoorLRmCardPart3
import Derived.Test.YtpbllkibobnifaaDoorLRmCardPart5
import Derived.Test.YtpbllkibobnifaaDoorLRmCardPart6
import Derived.Test.YtpbllkibobnifaaDoorLRmCardPart1
set_option linter.unusedSimpArgs false
set_option linter.unusedVariables false
set_option linter.unnecessarySimpa false
set_option maxRecDepth 8000
/- The stable sort of rails: the walk of a merge in general. -/
namespace Go.Fv.L
open Go Go.Proofs
def EO (F n:Nat):Prop:=∀ (P U V Q:List Pl) (a m b:Nat),a=P.length→m=P.length+U.length→b=P.length+U.length+V.length→0<U.length→0<V.length→U.length+V.length≤n→o7 U→o7 V→eF (U++V)→P.length+U.length+V.length+Q.length≤1000000 →
  dD Tryd.prog 65 [.own 0,.int .i64 a,.int .i64 m,.int .i64 b,.fn F []] [(0,.row 72 (aC (P++(U++(V++Q)))))] 1 (.tup []) [(0,.row 72 (aC (P++(aO (U++V)++Q))))]
structure Vw (F:Nat) (W0 W3:List Pl) (a m b md s:Nat):Prop where
 ex:∃ W1 W2:List Pl,
  (s<m→s<md→dD Tryd.prog 71 [.own 0,.int .i64 s,.int .i64 m,.int .i64 (md+m - s:Nat),.fn F []] [(0,.row 72 (aC W0))] 1 (.tup []) [(0,.row 72 (aC W1))]) ∧
  (¬(s<m∧s<md)→W0=W1) ∧
  (a<s→s<md→dD Tryd.prog 65 [.own 0,.int .i64 a,.int .i64 s,.int .i64 md,.fn F []] [(0,.row 72 (aC W1))] 1 (.tup []) [(0,.row 72 (aC W2))]) ∧
  (¬(a<s∧s<md)→W1=W2) ∧
  (s<m→md+m - s<b→dD Tryd.prog 65 [.own 0,.int .i64 md,.int .i64 (md+m - s:Nat),.int .i64 b,.fn F []] [(0,.row 72 (aC W2))] 1 (.tup []) [(0,.row 72 (aC W3))]) ∧
  (¬(s<m∧md+m - s<b)→W2=W3)
theorem RD {F n:Nat} (hI:EO F n) {P U V Q:List Pl} {a m b md s:Nat} (ha:a=P.length) (hm:m=P.length+U.length) (hb:b=P.length+U.length+V.length) (hn:U.length+V.length≤n+1) (h1:a<md) (h2:md<b)
  (hs1:a≤s) (hs2:s≤m) (hs3:s≤md) (hs4:md+m≤b+s) (hU:o7 U) (hV:o7 V) (hS:eF (U++V)) (hN:P.length+U.length+V.length+Q.length≤1000000) (hc:N8 U V (s - a) (md - s)) :
  Vw F (P++(U++(V++Q))) (P++(aO (U++V)++Q)) a m b md s:=by
 have hm3:=hc.merge hU hV hS
 have tU:=List.take_append_drop (s - a) U
 have tV:=List.take_append_drop (md - s) V
 have l1:(U.take (s - a)).length=s - a:=by rw [List.length_take];omega
 have l2:(U.drop (s - a)).length=m - s:=by rw [List.length_drop];omega
 have l3:(V.take (md - s)).length=md - s:=by rw [List.length_take];omega
 have l4:(V.drop (md - s)).length=b+s - (md+m):=by rw [List.length_drop];omega
 have sU1:=hU.take (s - a)
 have sU2:=hU.drop (s - a)
 have sV1:=hV.take (md - s)
 have sV2:=hV.drop (md - s)
 have st1:=BF hS (s - a) (md - s)
 have st2:=BD hS (s - a) (md - s)
 rw [←hm3]
 have hUl:U.length=(s - a)+(m - s):=by omega
 have hVl:V.length=(md - s)+(b+s - (md+m)):=by omega
 clear hm3 hc hU hV hS
 generalize U.take (s - a)=U1 at *
 generalize U.drop (s - a)=U2 at *
 generalize V.take (md - s)=V1 at *
 generalize V.drop (md - s)=V2 at *
 have sl1:(aO (U1++V1)).length=md - a:=by rw [dB,List.length_append];omega
 refine ⟨P++(U1++(V1++(U2++(V2++Q)))),P++(aO (U1++V1)++(U2++(V2++Q))),fun c1 c2=>?_,fun c=>?_,fun c1 c2=>?_,fun c=>?_,fun c1 c2=>?_,fun c=>?_⟩
 ·have k:=Ld (P++U1) U2 V1 (V2++Q) s m (md+m - s) F (by rw [List.length_append];omega) (by rw [List.length_append];omega) (by rw [List.length_append];omega) (by omega) (by omega) (by simp only [List.length_append];omega)
  have e1:(P++U1)++(U2++(V1++(V2++Q)))=P++(U++(V++Q)):=by rw [←tU,←tV];simp
  have e2:(P++U1)++(V1++(U2++(V2++Q)))=P++(U1++(V1++(U2++(V2++Q)))):=by simp
  rw [e1,e2] at k
  exact k
 ·rw [←tU,←tV]
  by_cases c1:s<m
  ·have:V1=[]:=List.eq_nil_of_length_eq_zero (by omega)
   subst this;simp
  ·have:U2=[]:=List.eq_nil_of_length_eq_zero (by omega)
   subst this;simp
 ·exact hI P U1 V1 (U2++(V2++Q)) a s md ha (by omega) (by omega) (by omega) (by omega) (by omega) sU1 sV1 st1 (by simp only [List.length_append];omega)
 ·have:aO (U1++V1)=U1++V1:=by
   by_cases c1:a<s
   ·have:V1=[]:=List.eq_nil_of_length_eq_zero (by omega)
    subst this
    rw [List.append_nil] at st1 ⊢
    exact gZ sU1 st1
   ·have:U1=[]:=List.eq_nil_of_length_eq_zero (by omega)
    subst this
    exact gZ sV1 st1
  rw [this];simp
 ·have k:=hI (P++aO (U1++V1)) U2 V2 Q md (md+m - s) b (by rw [List.length_append];omega) (by rw [List.length_append];omega) (by rw [List.length_append];omega) (by omega) (by omega) (by omega) sU2 sV2 st2 (by rw [List.length_append];omega)
  have e1:(P++aO (U1++V1))++(U2++(V2++Q))=P++(aO (U1++V1)++(U2++(V2++Q))):=by simp
  have e2:(P++aO (U1++V1))++(aO (U2++V2)++Q)=P++((aO (U1++V1)++aO (U2++V2))++Q):=by simp
  rw [e1,e2] at k
  exact k
 ·have:aO (U2++V2)=U2++V2:=by
   by_cases c1:s<m
   ·have:V2=[]:=List.eq_nil_of_length_eq_zero (by omega)
    subst this
    rw [List.append_nil] at st2 ⊢
    exact gZ sU2 st2
   ·have:U2=[]:=List.eq_nil_of_length_eq_zero (by omega)
    subst this
    exact gZ sV2 st2
  rw [this];simp
def JR (lo hi a m b md:Nat):Prop:=(lo=a∨md+m=b+lo)∧(hi=m∨hi=md)
def yw (U V:List Pl) (a md lo hi s r:Nat):Prop:=(lo<s→¬dS (gd V (md - s)) (gd U (s - 1 - a)))∧(r<hi→dS (gd V (md - 1 - r)) (gd U (r - a)))
theorem yw.cut {U V:List Pl} {a m b md lo hi s:Nat} (h:yw U V a md lo hi s s) (he:JR lo hi a m b md) (h1:lo≤s) (h2:s≤hi) (ha:a≤lo) (hm:hi≤m) (hmd:hi≤md) (hb:md+m≤b+lo) (hU:m=a+U.length) (hV:b=m+V.length):N8 U V (s - a) (md - s):=by
 obtain ⟨e1,e2⟩:=he
 refine ⟨by omega,by omega,fun x1 x2=>?_,fun x1 x2=>?_⟩
 ·have:=h.1 (by omega)
  rw [show s - 1 - a=s - a - 1 by omega] at this;exact this
 ·have:=h.2 (by omega)
  rw [show md - 1 - s=md - s - 1 by omega] at this;exact this
end Go.Fv.L
/- The stable sort of rails: the walk of a merge in general. -/
namespace Go.Fv.L
open Go Go.Proofs
set_option maxHeartbeats 32000000 in
theorem Jt (F:Nat) (hF:vk F) (n:Nat) (hI:EO F n) (P U V Q:List Pl) (a m b:Nat) (ha:a=P.length) (hm:m=P.length+U.length) (hb:b=P.length+U.length+V.length) (h2U:2≤U.length) (h2V:2≤V.length) (hn:U.length+V.length≤n+1) (hU:o7 U) (hV:o7 V) (hS:eF (U++V)) (hmd00:(a+b) / 2<m) (hN:P.length+U.length+V.length+Q.length≤1000000) :
  dD Tryd.prog 65 [.own 0,.int .i64 a,.int .i64 m,.int .i64 b,.fn F []] [(0,.row 72 (aC (P++(U++(V++Q)))))] 1 (.tup []) [(0,.row 72 (aC (P++(aO (U++V)++Q))))]:=by
 refine dD.aY Tryd.func65 rfl (by decide) (by simp [Tryd.f65]) bQ [] rfl fun w0 T0 _=>?_
 simp only [Tryd.f65,aK]
 have i1:¬(m:Int) - (a:Int)=1:=by omega
 have i2:¬(b:Int) - (m:Int)=1:=by omega
 have hWl:(P++(U++(V++Q))).length=P.length+U.length+V.length+Q.length:=by simp;omega
 have eU:∀ g,a≤g→g<m→((P++(U++(V++Q))).map Pl.av).getD g []=[.int .i64 (gd U (g - a)).a1,.int .i64 (gd U (g - a)).a2,.int .i64 (gd U (g - a)).a3,.int .i64 (gd U (g - a)).a4,.bool (gd U (g - a)).dn,.int .i64 (gd U (g - a)).c,.int .i64 (gd U (g - a)).d]:=fun g hg hg2=>by
  rw [fA _ (by omega)]
  have:=lD (P:=P) (V++Q) (U:=U) (i:=g - a) (k:=g) (by omega) (by omega)
  unfold gd at this ⊢
  rw [this]
 have eV:∀ g,m≤g→g<b→((P++(U++(V++Q))).map Pl.av).getD g []=[.int .i64 (gd V (g - m)).a1,.int .i64 (gd V (g - m)).a2,.int .i64 (gd V (g - m)).a3,.int .i64 (gd V (g - m)).a4,.bool (gd V (g - m)).dn,.int .i64 (gd V (g - m)).c,.int .i64 (gd V (g - m)).d]:=fun g hg hg2=>by
  rw [fA _ (by omega)]
  have:=jY (P:=P) (U:=U) Q (V:=V) (i:=g - m) (k:=g) (by omega) (by omega)
  unfold gd at this ⊢
  rw [this]
 have hmd0:=lJ a b
 have hmd1:a<(a+b) / 2:=by omega
 have hmd2:(a+b) / 2<b:=by omega
 have hmd3:2*((a+b) / 2)≤a+b∧a+b≤2*((a+b) / 2)+1:=by omega
 have hrest:=fun s h1 h2 h3 h4 hc=>RD (P:=P) (U:=U) (V:=V) (Q:=Q) (a:=a) (m:=m) (b:=b) (md:=(a+b) / 2) (s:=s) hI ha hm hb hn hmd1 hmd2 h1 h2 h3 h4 hU hV hS hN hc
 generalize (a+b) / 2=md at *
 generalize P++(aO (U++V)++Q)=W3 at *
 generalize hW:P++(U++(V++Q))=W at *
 have hWm:(W.map Pl.av).length=P.length+U.length+V.length+Q.length:=by rw [List.length_map];exact hWl
 have nn:(md:Int)+(m:Int)=((md+m:Nat):Int):=by omega
 have np:((md+m:Nat):Int) - 1=((md+m - 1:Nat):Int):=by omega
 (repeat' with_reducible first|intro _|refine ry ?_|refine ra ?_ ?_|omega|simp only [go_sem,i1,i2])
 refine dh.Fb (gJ.2 (by omega)) ?_
 rw [hmd0]
 obtain ⟨lo,hi,hlh,b1,b2,b3,b4,hends,l1,l2⟩:∃ lo hi:Nat,lo≤hi∧a≤lo∧hi≤m∧hi≤md∧md+m≤b+lo∧JR lo hi a m b md∧((md+m:Nat):Int) - (b:Int)=(lo:Int)∧(md:Int)=(hi:Int):=⟨md+m - b,md,by omega,by omega,by omega,by omega,by omega,⟨by omega,by omega⟩,by omega,rfl⟩
 have hg:(md:Int)<(m:Int):=by omega
 (repeat' with_reducible first|intro _|refine ry ?_|refine ra ?_ ?_|omega|simp only [go_sem,nn,np,hg,l1])
 refine aJ.intro (fun z:Nat × Nat=>⟨220,[(0,.own 0),(1,.int .i64 a),(2,.int .i64 m),(3,.int .i64 b),(4,.fn F []),(18,.int .i64 md),(19,.int .i64 (md+m:Nat)),(20,.int .i64 z.1),(21,.int .i64 z.2),(22,.int .i64 (md+m - 1:Nat))],[(0,.row 72 (aC W))],1⟩) (fun z=>(lo≤z.1∧z.1≤z.2∧z.2≤hi)∧yw U V a md lo hi z.1 z.2) (fun z=>z.2 - z.1) (lo,hi) ?_ ⟨⟨Nat.le_refl _,hlh,Nat.le_refl _⟩,fun h=>absurd h (Nat.lt_irrefl _),fun h=>absurd h (Nat.lt_irrefl _)⟩ fun z hz=>?_
 ·refine aS.bG 1 rfl (Nat.le_refl 1) ?_ ?_<;>simp only [go_sem,Int.natCast_succ,aI,aC,nn,np]
  all_goals omega
 obtain ⟨s,r⟩:=z
 obtain ⟨⟨z1,z2,z3⟩,za⟩:=hz
 dsimp only at z1 z2 z3 za ⊢
 by_cases hsr:s<r
 ·have hsh:=lJ s r
  have hm1:s≤(s+r) / 2:=by omega
  have hm2:(s+r) / 2<r:=by omega
  generalize (s+r) / 2=c at *
  have n1:((md+m - 1:Nat):Int) - (c:Int)=((md+m - 1 - c:Nat):Int):=by omega
  have e1:=eU c (by omega) (by omega)
  have e2:=eV (md+m - 1 - c) (by omega) (by omega)
  have ei:md+m - 1 - c - m=md - 1 - c:=by omega
  rw [ei] at e2
  have kc:=hF (gd V (md - 1 - c)) (gd U (c - a))
  have hc1:(s:Int)<(r:Int):=by omega
  (repeat' with_reducible first|intro _|refine ry ?_|refine ra ?_ ?_|omega|simp only [go_sem,hc1])
  refine dh.Fb (gJ.2 (by omega)) ?_
  rw [hsh]
  (repeat' with_reducible first|intro _|refine ry ?_|refine ra ?_ ?_|omega|simp only [go_sem,Int.toNat_natCast])
  refine aP.lex [] [] (by kernel_rfl) (by kernel_rfl) ?_
  by_cases hlt0:dS (gd V (md - 1 - c)) (gd U (c - a))
  ·have hcn:=vC hlt0
   have hinv:(lo≤s∧s≤c∧c≤hi)∧yw U V a md lo hi s c:=⟨by omega,za.1,fun _=>hlt0⟩
   generalize qo (gd V (md - 1 - c)) (gd U (c - a))=cv at *
   generalize gd V (md - 1 - c)=v at *
   generalize gd U (c - a)=u at *
   (repeat' with_reducible first|intro _|refine ry ?_|refine ra ?_ ?_|omega|simp only [go_sem,Int.toNat_natCast,aN,e1,e2,n1,aC])
   refine QV.intro (.int .i64 cv) ?_ ?_
   ·(repeat' with_reducible first|intro _|refine ry ?_|refine ra ?_ ?_|omega|simp only [go_sem,Int.toNat_natCast,aN,e1,e2,n1,aC])
    refine aj.k kc ?_
    (repeat' with_reducible first|intro _|refine ry ?_|refine ra ?_ ?_|omega|simp only [go_sem,aC])
   (repeat' with_reducible first|intro _|refine ry ?_|refine ra ?_ ?_|omega|simp only [go_sem,hcn,aC])
   refine ⟨(s,c),aS.bG 1 rfl (Nat.le_refl 1) ?_ ?_,hinv,by dsimp only;omega⟩<;>simp only [go_sem,Int.natCast_succ,aI,aC]
  ·have hcn:=vF hlt0
   have hinv:(lo≤c+1∧c+1≤r∧r≤hi)∧yw U V a md lo hi (c+1) r:=⟨by omega,fun _=>by
    rw [show md - (c+1)=md - 1 - c by omega,show c+1 - 1 - a=c - a by omega];exact hlt0,za.2⟩
   generalize qo (gd V (md - 1 - c)) (gd U (c - a))=cv at *
   generalize gd V (md - 1 - c)=v at *
   generalize gd U (c - a)=u at *
   (repeat' with_reducible first|intro _|refine ry ?_|refine ra ?_ ?_|omega|simp only [go_sem,Int.toNat_natCast,aN,e1,e2,n1,aC])
   refine QV.intro (.int .i64 cv) ?_ ?_
   ·(repeat' with_reducible first|intro _|refine ry ?_|refine ra ?_ ?_|omega|simp only [go_sem,Int.toNat_natCast,aN,e1,e2,n1,aC])
    refine aj.k kc ?_
    (repeat' with_reducible first|intro _|refine ry ?_|refine ra ?_ ?_|omega|simp only [go_sem,aC])
   (repeat' with_reducible first|intro _|refine ry ?_|refine ra ?_ ?_|omega|simp only [go_sem,hcn,aC])
   refine ⟨(c+1,r),aS.bG 1 rfl (Nat.le_refl 1) ?_ ?_,hinv,by dsimp only;omega⟩<;>simp only [go_sem,Int.natCast_succ,aI,aC]
 have e:r=s:=by omega
 subst e
 obtain ⟨W1,W2,kr,h01,k1,h12,k2,h23⟩:=(hrest r (by omega) (by omega) (by omega) (by omega) (za.cut hends z1 z3 b1 b2 b3 b4 (by omega) (by omega))).ex
 have ne1:((md+m:Nat):Int) - (r:Int)=((md+m - r:Nat):Int):=by omega
 have hc1:¬(r:Int)<(r:Int):=by omega
 clear za hsr hrest eU eV hends
 rcases Classical.em (r<m∧r<md) with c0|c0
 ·first
  |(exfalso;omega)
  |(
    have kk:=kr c0.1 c0.2
    (repeat' with_reducible first|intro _|refine ry ?_|refine ra ?_ ?_|omega|simp only [go_sem,hc1,ne1])
    refine aj.io [0] kk (by decide) (by simp [bZ,ren,bV]) rfl (by simp [bU,bV,lk,Item.ren,Item.below,aC,bg,ak]) bQ 1 (by decide) rfl (by simp [bn,Item.below,aC,ak]) ?_
    rcases Classical.em (a<r∧r<md) with c1|c1
    ·first
     |(exfalso;omega)
     |(
       have kk:=k1 c1.1 c1.2
       (repeat' with_reducible first|intro _|refine ry ?_|refine ra ?_ ?_|omega|simp only [go_sem,S.je,aW,bV,dF,Item.ren,aC,List.getElem?_cons_zero,List.getElem?_cons_succ,List.getElem?_nil,List.filter,ne1])
       refine aj.io [0] kk (by decide) (by simp [bZ,ren,bV]) rfl (by simp [bU,bV,lk,Item.ren,Item.below,aC,bg,ak]) bQ 1 (by decide) rfl (by simp [bn,Item.below,aC,ak]) ?_
       rcases Classical.em (r<m∧md+m - r<b) with c2|c2
       ·first
        |(exfalso;omega)
        |(
          have kk:=k2 c2.1 c2.2
          (repeat' with_reducible first|intro _|refine ry ?_|refine ra ?_ ?_|omega|simp only [go_sem,S.je,aW,bV,dF,Item.ren,aC,List.getElem?_cons_zero,List.getElem?_cons_succ,List.getElem?_nil,List.filter,ne1])
          refine aj.io [0] kk (by decide) (by simp [bZ,ren,bV]) rfl (by simp [bU,bV,lk,Item.ren,Item.below,aC,bg,ak]) bQ 1 (by decide) rfl (by simp [bn,Item.below,aC,ak]) ?_
          (repeat' with_reducible first|intro _|refine ry ?_|refine ra ?_ ?_|omega|simp only [go_sem,S.je,aW,bV,dF,Item.ren,aC,List.getElem?_cons_zero,List.getElem?_cons_succ,List.getElem?_nil,List.filter,ne1])
          refine dN.auto 1 (Nat.le_refl 1) ?_ rfl ?_<;>simp only [go_sem,Int.natCast_succ,aI,aC])
       ·first
        |(exfalso;omega)
        |(
          have hw:=h23 c2
          subst hw
          (repeat' with_reducible first|intro _|refine ry ?_|refine ra ?_ ?_|omega|simp only [go_sem,S.je,aW,bV,dF,Item.ren,aC,List.getElem?_cons_zero,List.getElem?_cons_succ,List.getElem?_nil,List.filter,ne1])
          refine dN.auto 1 (Nat.le_refl 1) ?_ rfl ?_<;>simp only [go_sem,Int.natCast_succ,aI,aC]))
    ·first
     |(exfalso;omega)
     |(
       have hw:=h12 c1
       subst hw
       rcases Classical.em (r<m∧md+m - r<b) with c2|c2
       ·first
        |(exfalso;omega)
        |(
          have kk:=k2 c2.1 c2.2
          (repeat' with_reducible first|intro _|refine ry ?_|refine ra ?_ ?_|omega|simp only [go_sem,S.je,aW,bV,dF,Item.ren,aC,List.getElem?_cons_zero,List.getElem?_cons_succ,List.getElem?_nil,List.filter,ne1])
          refine aj.io [0] kk (by decide) (by simp [bZ,ren,bV]) rfl (by simp [bU,bV,lk,Item.ren,Item.below,aC,bg,ak]) bQ 1 (by decide) rfl (by simp [bn,Item.below,aC,ak]) ?_
          (repeat' with_reducible first|intro _|refine ry ?_|refine ra ?_ ?_|omega|simp only [go_sem,S.je,aW,bV,dF,Item.ren,aC,List.getElem?_cons_zero,List.getElem?_cons_succ,List.getElem?_nil,List.filter,ne1])
          refine dN.auto 1 (Nat.le_refl 1) ?_ rfl ?_<;>simp only [go_sem,Int.natCast_succ,aI,aC])
       ·first
        |(exfalso;omega)
        |(
          have hw:=h23 c2
          subst hw
          (repeat' with_reducible first|intro _|refine ry ?_|refine ra ?_ ?_|omega|simp only [go_sem,S.je,aW,bV,dF,Item.ren,aC,List.getElem?_cons_zero,List.getElem?_cons_succ,List.getElem?_nil,List.filter,ne1])
          refine dN.auto 1 (Nat.le_refl 1) ?_ rfl ?_<;>simp only [go_sem,Int.natCast_succ,aI,aC])))
 ·first
  |(exfalso;omega)
  |(
    have hw:=h01 c0
    subst hw
    rcases Classical.em (a<r∧r<md) with c1|c1
    ·first
     |(exfalso;omega)
     |(
       have kk:=k1 c1.1 c1.2
       (repeat' with_reducible first|intro _|refine ry ?_|refine ra ?_ ?_|omega|simp only [go_sem,hc1,ne1])
       refine aj.io [0] kk (by decide) (by simp [bZ,ren,bV]) rfl (by simp [bU,bV,lk,Item.ren,Item.below,aC,bg,ak]) bQ 1 (by decide) rfl (by simp [bn,Item.below,aC,ak]) ?_
       rcases Classical.em (r<m∧md+m - r<b) with c2|c2
       ·exact absurd (And.intro c2.1 c1.2) c0
       ·first
        |(exfalso;omega)
        |(
          have hw:=h23 c2
          subst hw
          (repeat' with_reducible first|intro _|refine ry ?_|refine ra ?_ ?_|omega|simp only [go_sem,S.je,aW,bV,dF,Item.ren,aC,List.getElem?_cons_zero,List.getElem?_cons_succ,List.getElem?_nil,List.filter,ne1])
          refine dN.auto 1 (Nat.le_refl 1) ?_ rfl ?_<;>simp only [go_sem,Int.natCast_succ,aI,aC]))
    ·first
     |(exfalso;omega)
     |(
       have hw:=h12 c1
       subst hw
       rcases Classical.em (r<m∧md+m - r<b) with c2|c2
       ·first
        |(exfalso;omega)
        |(
          have kk:=k2 c2.1 c2.2
          (repeat' with_reducible first|intro _|refine ry ?_|refine ra ?_ ?_|omega|simp only [go_sem,hc1,ne1])
          refine aj.io [0] kk (by decide) (by simp [bZ,ren,bV]) rfl (by simp [bU,bV,lk,Item.ren,Item.below,aC,bg,ak]) bQ 1 (by decide) rfl (by simp [bn,Item.below,aC,ak]) ?_
          (repeat' with_reducible first|intro _|refine ry ?_|refine ra ?_ ?_|omega|simp only [go_sem,S.je,aW,bV,dF,Item.ren,aC,List.getElem?_cons_zero,List.getElem?_cons_succ,List.getElem?_nil,List.filter,ne1])
          refine dN.auto 1 (Nat.le_refl 1) ?_ rfl ?_<;>simp only [go_sem,Int.natCast_succ,aI,aC])
       ·first
        |(exfalso;omega)
        |(
          have hw:=h23 c2
          subst hw
          (repeat' with_reducible first|intro _|refine ry ?_|refine ra ?_ ?_|omega|simp only [go_sem,hc1,ne1])
          refine dN.auto 1 (Nat.le_refl 1) ?_ rfl ?_<;>simp only [go_sem,Int.natCast_succ,aI,aC])))
end Go.Fv.L
/- The stable sort of rails: the walk of a merge in general. -/
namespace Go.Fv.L
open Go Go.Proofs
set_option maxHeartbeats 32000000 in
theorem Ju (F:Nat) (hF:vk F) (n:Nat) (hI:EO F n) (P U V Q:List Pl) (a m b:Nat) (ha:a=P.length) (hm:m=P.length+U.length) (hb:b=P.length+U.length+V.length) (h2U:2≤U.length) (h2V:2≤V.length) (hn:U.length+V.length≤n+1) (hU:o7 U) (hV:o7 V) (hS:eF (U++V)) (hmd00:¬(a+b) / 2<m) (hN:P.length+U.length+V.length+Q.length≤1000000) :
  dD Tryd.prog 65 [.own 0,.int .i64 a,.int .i64 m,.int .i64 b,.fn F []] [(0,.row 72 (aC (P++(U++(V++Q)))))] 1 (.tup []) [(0,.row 72 (aC (P++(aO (U++V)++Q))))]:=by
 refine dD.aY Tryd.func65 rfl (by decide) (by simp [Tryd.f65]) bQ [] rfl fun w0 T0 _=>?_
 simp only [Tryd.f65,aK]
 have i1:¬(m:Int) - (a:Int)=1:=by omega
 have i2:¬(b:Int) - (m:Int)=1:=by omega
 have hWl:(P++(U++(V++Q))).length=P.length+U.length+V.length+Q.length:=by simp;omega
 have eU:∀ g,a≤g→g<m→((P++(U++(V++Q))).map Pl.av).getD g []=[.int .i64 (gd U (g - a)).a1,.int .i64 (gd U (g - a)).a2,.int .i64 (gd U (g - a)).a3,.int .i64 (gd U (g - a)).a4,.bool (gd U (g - a)).dn,.int .i64 (gd U (g - a)).c,.int .i64 (gd U (g - a)).d]:=fun g hg hg2=>by
  rw [fA _ (by omega)]
  have:=lD (P:=P) (V++Q) (U:=U) (i:=g - a) (k:=g) (by omega) (by omega)
  unfold gd at this ⊢
  rw [this]
 have eV:∀ g,m≤g→g<b→((P++(U++(V++Q))).map Pl.av).getD g []=[.int .i64 (gd V (g - m)).a1,.int .i64 (gd V (g - m)).a2,.int .i64 (gd V (g - m)).a3,.int .i64 (gd V (g - m)).a4,.bool (gd V (g - m)).dn,.int .i64 (gd V (g - m)).c,.int .i64 (gd V (g - m)).d]:=fun g hg hg2=>by
  rw [fA _ (by omega)]
  have:=jY (P:=P) (U:=U) Q (V:=V) (i:=g - m) (k:=g) (by omega) (by omega)
  unfold gd at this ⊢
  rw [this]
 have hmd0:=lJ a b
 have hmd1:a<(a+b) / 2:=by omega
 have hmd2:(a+b) / 2<b:=by omega
 have hmd3:2*((a+b) / 2)≤a+b∧a+b≤2*((a+b) / 2)+1:=by omega
 have hrest:=fun s h1 h2 h3 h4 hc=>RD (P:=P) (U:=U) (V:=V) (Q:=Q) (a:=a) (m:=m) (b:=b) (md:=(a+b) / 2) (s:=s) hI ha hm hb hn hmd1 hmd2 h1 h2 h3 h4 hU hV hS hN hc
 generalize (a+b) / 2=md at *
 generalize P++(aO (U++V)++Q)=W3 at *
 generalize hW:P++(U++(V++Q))=W at *
 have hWm:(W.map Pl.av).length=P.length+U.length+V.length+Q.length:=by rw [List.length_map];exact hWl
 have nn:(md:Int)+(m:Int)=((md+m:Nat):Int):=by omega
 have np:((md+m:Nat):Int) - 1=((md+m - 1:Nat):Int):=by omega
 (repeat' with_reducible first|intro _|refine ry ?_|refine ra ?_ ?_|omega|simp only [go_sem,i1,i2])
 refine dh.Fb (gJ.2 (by omega)) ?_
 rw [hmd0]
 have hlh:a≤m:=by omega
 have b1:a≤a:=Nat.le_refl _
 have b2:m≤m:=Nat.le_refl _
 have b3:m≤md:=by omega
 have b4:md+m≤b+a:=by omega
 have hends:JR a m a m b md:=⟨.inl rfl,.inl rfl⟩
 have hg:¬(md:Int)<(m:Int):=by omega
 (repeat' with_reducible first|intro _|refine ry ?_|refine ra ?_ ?_|omega|simp only [go_sem,nn,np,hg])
 refine aJ.intro (fun z:Nat × Nat=>⟨220,[(0,.own 0),(1,.int .i64 a),(2,.int .i64 m),(3,.int .i64 b),(4,.fn F []),(18,.int .i64 md),(19,.int .i64 (md+m:Nat)),(20,.int .i64 z.1),(21,.int .i64 z.2),(22,.int .i64 (md+m - 1:Nat))],[(0,.row 72 (aC W))],1⟩) (fun z=>(a≤z.1∧z.1≤z.2∧z.2≤m)∧yw U V a md a m z.1 z.2) (fun z=>z.2 - z.1) (a,m) ?_ ⟨⟨Nat.le_refl _,hlh,Nat.le_refl _⟩,fun h=>absurd h (Nat.lt_irrefl _),fun h=>absurd h (Nat.lt_irrefl _)⟩ fun z hz=>?_
 ·refine aS.bG 1 rfl (Nat.le_refl 1) ?_ ?_<;>simp only [go_sem,Int.natCast_succ,aI,aC,nn,np]
  all_goals omega
 obtain ⟨s,r⟩:=z
 obtain ⟨⟨z1,z2,z3⟩,za⟩:=hz
 dsimp only at z1 z2 z3 za ⊢
 by_cases hsr:s<r
 ·have hsh:=lJ s r
  have hm1:s≤(s+r) / 2:=by omega
  have hm2:(s+r) / 2<r:=by omega
  generalize (s+r) / 2=c at *
  have n1:((md+m - 1:Nat):Int) - (c:Int)=((md+m - 1 - c:Nat):Int):=by omega
  have e1:=eU c (by omega) (by omega)
  have e2:=eV (md+m - 1 - c) (by omega) (by omega)
  have ei:md+m - 1 - c - m=md - 1 - c:=by omega
  rw [ei] at e2
  have kc:=hF (gd V (md - 1 - c)) (gd U (c - a))
  have hc1:(s:Int)<(r:Int):=by omega
  (repeat' with_reducible first|intro _|refine ry ?_|refine ra ?_ ?_|omega|simp only [go_sem,hc1])
  refine dh.Fb (gJ.2 (by omega)) ?_
  rw [hsh]
  (repeat' with_reducible first|intro _|refine ry ?_|refine ra ?_ ?_|omega|simp only [go_sem,Int.toNat_natCast])
  refine aP.lex [] [] (by kernel_rfl) (by kernel_rfl) ?_
  by_cases hlt0:dS (gd V (md - 1 - c)) (gd U (c - a))
  ·have hcn:=vC hlt0
   have hinv:(a≤s∧s≤c∧c≤m)∧yw U V a md a m s c:=⟨by omega,za.1,fun _=>hlt0⟩
   generalize qo (gd V (md - 1 - c)) (gd U (c - a))=cv at *
   generalize gd V (md - 1 - c)=v at *
   generalize gd U (c - a)=u at *
   (repeat' with_reducible first|intro _|refine ry ?_|refine ra ?_ ?_|omega|simp only [go_sem,Int.toNat_natCast,aN,e1,e2,n1,aC])
   refine QV.intro (.int .i64 cv) ?_ ?_
   ·(repeat' with_reducible first|intro _|refine ry ?_|refine ra ?_ ?_|omega|simp only [go_sem,Int.toNat_natCast,aN,e1,e2,n1,aC])
    refine aj.k kc ?_
    (repeat' with_reducible first|intro _|refine ry ?_|refine ra ?_ ?_|omega|simp only [go_sem,aC])
   (repeat' with_reducible first|intro _|refine ry ?_|refine ra ?_ ?_|omega|simp only [go_sem,hcn,aC])
   refine ⟨(s,c),aS.bG 1 rfl (Nat.le_refl 1) ?_ ?_,hinv,by dsimp only;omega⟩<;>simp only [go_sem,Int.natCast_succ,aI,aC]
  ·have hcn:=vF hlt0
   have hinv:(a≤c+1∧c+1≤r∧r≤m)∧yw U V a md a m (c+1) r:=⟨by omega,fun _=>by
    rw [show md - (c+1)=md - 1 - c by omega,show c+1 - 1 - a=c - a by omega];exact hlt0,za.2⟩
   generalize qo (gd V (md - 1 - c)) (gd U (c - a))=cv at *
   generalize gd V (md - 1 - c)=v at *
   generalize gd U (c - a)=u at *
   (repeat' with_reducible first|intro _|refine ry ?_|refine ra ?_ ?_|omega|simp only [go_sem,Int.toNat_natCast,aN,e1,e2,n1,aC])
   refine QV.intro (.int .i64 cv) ?_ ?_
   ·(repeat' with_reducible first|intro _|refine ry ?_|refine ra ?_ ?_|omega|simp only [go_sem,Int.toNat_natCast,aN,e1,e2,n1,aC])
    refine aj.k kc ?_
    (repeat' with_reducible first|intro _|refine ry ?_|refine ra ?_ ?_|omega|simp only [go_sem,aC])
   (repeat' with_reducible first|intro _|refine ry ?_|refine ra ?_ ?_|omega|simp only [go_sem,hcn,aC])
   refine ⟨(c+1,r),aS.bG 1 rfl (Nat.le_refl 1) ?_ ?_,hinv,by dsimp only;omega⟩<;>simp only [go_sem,Int.natCast_succ,aI,aC]
 have e:r=s:=by omega
 subst e
 obtain ⟨W1,W2,kr,h01,k1,h12,k2,h23⟩:=(hrest r (by omega) (by omega) (by omega) (by omega) (za.cut hends z1 z3 b1 b2 b3 b4 (by omega) (by omega))).ex
 have ne1:((md+m:Nat):Int) - (r:Int)=((md+m - r:Nat):Int):=by omega
 have hc1:¬(r:Int)<(r:Int):=by omega
 clear za hsr hrest eU eV hends
 rcases Classical.em (r<m∧r<md) with c0|c0
 ·first
  |(exfalso;omega)
  |(
    have kk:=kr c0.1 c0.2
    (repeat' with_reducible first|intro _|refine ry ?_|refine ra ?_ ?_|omega|simp only [go_sem,hc1,ne1])
    refine aj.io [0] kk (by decide) (by simp [bZ,ren,bV]) rfl (by simp [bU,bV,lk,Item.ren,Item.below,aC,bg,ak]) bQ 1 (by decide) rfl (by simp [bn,Item.below,aC,ak]) ?_
    rcases Classical.em (a<r∧r<md) with c1|c1
    ·first
     |(exfalso;omega)
     |(
       have kk:=k1 c1.1 c1.2
       (repeat' with_reducible first|intro _|refine ry ?_|refine ra ?_ ?_|omega|simp only [go_sem,S.je,aW,bV,dF,Item.ren,aC,List.getElem?_cons_zero,List.getElem?_cons_succ,List.getElem?_nil,List.filter,ne1])
       refine aj.io [0] kk (by decide) (by simp [bZ,ren,bV]) rfl (by simp [bU,bV,lk,Item.ren,Item.below,aC,bg,ak]) bQ 1 (by decide) rfl (by simp [bn,Item.below,aC,ak]) ?_
       rcases Classical.em (r<m∧md+m - r<b) with c2|c2
       ·first
        |(exfalso;omega)
        |(
          have kk:=k2 c2.1 c2.2
          (repeat' with_reducible first|intro _|refine ry ?_|refine ra ?_ ?_|omega|simp only [go_sem,S.je,aW,bV,dF,Item.ren,aC,List.getElem?_cons_zero,List.getElem?_cons_succ,List.getElem?_nil,List.filter,ne1])
          refine aj.io [0] kk (by decide) (by simp [bZ,ren,bV]) rfl (by simp [bU,bV,lk,Item.ren,Item.below,aC,bg,ak]) bQ 1 (by decide) rfl (by simp [bn,Item.below,aC,ak]) ?_
          (repeat' with_reducible first|intro _|refine ry ?_|refine ra ?_ ?_|omega|simp only [go_sem,S.je,aW,bV,dF,Item.ren,aC,List.getElem?_cons_zero,List.getElem?_cons_succ,List.getElem?_nil,List.filter,ne1])
          refine dN.auto 1 (Nat.le_refl 1) ?_ rfl ?_<;>simp only [go_sem,Int.natCast_succ,aI,aC])
       ·first
        |(exfalso;omega)
        |(
          have hw:=h23 c2
          subst hw
          (repeat' with_reducible first|intro _|refine ry ?_|refine ra ?_ ?_|omega|simp only [go_sem,S.je,aW,bV,dF,Item.ren,aC,List.getElem?_cons_zero,List.getElem?_cons_succ,List.getElem?_nil,List.filter,ne1])
          refine dN.auto 1 (Nat.le_refl 1) ?_ rfl ?_<;>simp only [go_sem,Int.natCast_succ,aI,aC]))
    ·first
     |(exfalso;omega)
     |(
       have hw:=h12 c1
       subst hw
       rcases Classical.em (r<m∧md+m - r<b) with c2|c2
       ·first
        |(exfalso;omega)
        |(
          have kk:=k2 c2.1 c2.2
          (repeat' with_reducible first|intro _|refine ry ?_|refine ra ?_ ?_|omega|simp only [go_sem,S.je,aW,bV,dF,Item.ren,aC,List.getElem?_cons_zero,List.getElem?_cons_succ,List.getElem?_nil,List.filter,ne1])
          refine aj.io [0] kk (by decide) (by simp [bZ,ren,bV]) rfl (by simp [bU,bV,lk,Item.ren,Item.below,aC,bg,ak]) bQ 1 (by decide) rfl (by simp [bn,Item.below,aC,ak]) ?_
          (repeat' with_reducible first|intro _|refine ry ?_|refine ra ?_ ?_|omega|simp only [go_sem,S.je,aW,bV,dF,Item.ren,aC,List.getElem?_cons_zero,List.getElem?_cons_succ,List.getElem?_nil,List.filter,ne1])
          refine dN.auto 1 (Nat.le_refl 1) ?_ rfl ?_<;>simp only [go_sem,Int.natCast_succ,aI,aC])
       ·first
        |(exfalso;omega)
        |(
          have hw:=h23 c2
          subst hw
          (repeat' with_reducible first|intro _|refine ry ?_|refine ra ?_ ?_|omega|simp only [go_sem,S.je,aW,bV,dF,Item.ren,aC,List.getElem?_cons_zero,List.getElem?_cons_succ,List.getElem?_nil,List.filter,ne1])
          refine dN.auto 1 (Nat.le_refl 1) ?_ rfl ?_<;>simp only [go_sem,Int.natCast_succ,aI,aC])))
 ·first
  |(exfalso;omega)
  |(
    have hw:=h01 c0
    subst hw
    rcases Classical.em (a<r∧r<md) with c1|c1
    ·first
     |(exfalso;omega)
     |(
       have kk:=k1 c1.1 c1.2
       (repeat' with_reducible first|intro _|refine ry ?_|refine ra ?_ ?_|omega|simp only [go_sem,hc1,ne1])
       refine aj.io [0] kk (by decide) (by simp [bZ,ren,bV]) rfl (by simp [bU,bV,lk,Item.ren,Item.below,aC,bg,ak]) bQ 1 (by decide) rfl (by simp [bn,Item.below,aC,ak]) ?_
       rcases Classical.em (r<m∧md+m - r<b) with c2|c2
       ·exact absurd (And.intro c2.1 c1.2) c0
       ·first
        |(exfalso;omega)
        |(
          have hw:=h23 c2
          subst hw
          (repeat' with_reducible first|intro _|refine ry ?_|refine ra ?_ ?_|omega|simp only [go_sem,S.je,aW,bV,dF,Item.ren,aC,List.getElem?_cons_zero,List.getElem?_cons_succ,List.getElem?_nil,List.filter,ne1])
          refine dN.auto 1 (Nat.le_refl 1) ?_ rfl ?_<;>simp only [go_sem,Int.natCast_succ,aI,aC]))
    ·first
     |(exfalso;omega)
     |(
       have hw:=h12 c1
       subst hw
       rcases Classical.em (r<m∧md+m - r<b) with c2|c2
       ·first
        |(exfalso;omega)
        |(
          have kk:=k2 c2.1 c2.2
          (repeat' with_reducible first|intro _|refine ry ?_|refine ra ?_ ?_|omega|simp only [go_sem,hc1,ne1])
          refine aj.io [0] kk (by decide) (by simp [bZ,ren,bV]) rfl (by simp [bU,bV,lk,Item.ren,Item.below,aC,bg,ak]) bQ 1 (by decide) rfl (by simp [bn,Item.below,aC,ak]) ?_
          (repeat' with_reducible first|intro _|refine ry ?_|refine ra ?_ ?_|omega|simp only [go_sem,S.je,aW,bV,dF,Item.ren,aC,List.getElem?_cons_zero,List.getElem?_cons_succ,List.getElem?_nil,List.filter,ne1])
          refine dN.auto 1 (Nat.le_refl 1) ?_ rfl ?_<;>simp only [go_sem,Int.natCast_succ,aI,aC])
       ·first
        |(exfalso;omega)
        |(
          have hw:=h23 c2
          subst hw
          (repeat' with_reducible first|intro _|refine ry ?_|refine ra ?_ ?_|omega|simp only [go_sem,hc1,ne1])
          refine dN.auto 1 (Nat.le_refl 1) ?_ rfl ?_<;>simp only [go_sem,Int.natCast_succ,aI,aC])))
end Go.Fv.L
/- The stable sort of rails: the walk of a merge in general. -/
namespace Go.Fv.L
open Go Go.Proofs
theorem lI (F:Nat) (hF:vk F):∀ n,EO F n
 | 0=>fun P U V Q a m b _ _ _ h1 h2 h3 _ _ _ _=>by omega
 | n+1=>fun P U V Q a m b ha hm hb h1 h2 h3 hU hV hS hN=>by
  by_cases e1:U.length=1
  ·obtain ⟨x,rfl⟩:=List.length_eq_one_iff.1 e1
   exact Gl F hF P V Q x a m b ha hm hb hV hS hN
  by_cases e2:V.length=1
  ·obtain ⟨y,rfl⟩:=List.length_eq_one_iff.1 e2
   exact Jv F hF P U Q y a m b ha hm hb (by omega) hU hS hN
  by_cases hmd:(a+b) / 2<m
  ·exact Jt F hF n (lI F hF n) P U V Q a m b ha hm hb (by omega) (by omega) h3 hU hV hS hmd hN
  ·exact Ju F hF n (lI F hF n) P U V Q a m b ha hm hb (by omega) (by omega) h3 hU hV hS hmd hN
end Go.Fv.L
/- slices.SortStableFunc of rails. -/
namespace Go.Fv.L
open Go Go.Proofs
set_option maxHeartbeats 16000000 in
theorem CZ (F:Nat) (hF:vk F) (l:List Pl) (n:Nat) (hn:l.length=n) (hN:n≤100000) (hS:eF l) :
  dD Tryd.prog 53 [.own 0,.int .i64 n,.fn F []] [(0,.row 72 (aC l))] 1 (.tup []) [(0,.row 72 (aC (aO l)))]:=by
 refine dD.aY Tryd.func53 rfl (by decide) (by simp [Tryd.f53]) bQ [] rfl fun w0 T0 _=>?_
 simp only [Tryd.f53,aK]
 have hsub:∀ a,eF (l.drop a):=fun a=>hS.sub (List.drop_sublist _ _)
 have hsub2:∀ a k,eF ((l.drop a).take k):=fun a k=>(hsub a).sub (List.take_sublist _ _)
 (repeat' with_reducible first|intro _|exact dn|refine rn ?_|refine ra ?_ ?_)
 refine aJ.intro (fun a:Nat=>⟨63,[(0,.own 0),(1,.int .i64 n),(2,.fn F []),(6,.int .i64 20),(7,.int .i64 a),(8,.int .i64 ((a:Int)+20))],[(0,.row 72 (aC (cs 20 (l.take a)++l.drop a)))],1⟩) (fun a=>a≤n∧∃ k,a=k*20) (fun a=>n - a) 0 ?_ ⟨Nat.zero_le _,0,rfl⟩ fun a hk=>?_
 ·refine aS.bG 1 rfl (Nat.le_refl 1) ?_ ?_<;>simp only [go_sem,Int.natCast_succ,aI,aC,qJ]
 obtain ⟨han,k,ha⟩:=hk
 have hl1:(cs 20 (l.take a)).length=a:=by rw [xA,List.length_take];omega
 have ej:((a+20:Nat):Int)=(a:Int)+20:=by omega
 by_cases hlt:a+20≤n
 ·have f1:((a:Int)+20≤(n:Int))=True:=eq_true (by omega)
  have hl2:((l.drop a).take 20).length=20:=by rw [List.length_take,List.length_drop];omega
  have k1:=tK F hF (cs 20 (l.take a)) ((l.drop a).take 20) ((l.drop a).drop 20) a (a+20) hl1.symm (by omega) (hsub2 _ _) (by rw [hl1,hl2,List.length_drop,List.length_drop];omega)
  rw [List.take_append_drop] at k1
  have hm:=zl (n:=20) (by decide) (l:=l) (a:=a) (m:=k) ha (by omega)
  have hd:(l.drop a).drop 20=l.drop (a+20):=by rw [List.drop_drop]
  rw [←List.append_assoc,←hm,hd,ej] at k1
  (repeat' with_reducible first|intro _|refine rz ?_|refine ra ?_ ?_|omega|simp only [go_sem,f1])
  refine aj.io [0] k1 (by decide) (by simp [bZ,ren,bV]) rfl (by simp [bU,bV,lk,Item.ren,Item.below,aC,bg,ak]) bQ 1 (by decide) rfl (by simp [bn,Item.below,aC,ak]) ?_
  (repeat' with_reducible first|intro _|refine rz ?_|refine ra ?_ ?_|omega|simp only [go_sem,S.je,aW,bV,dF,Item.ren,aC,List.getElem?_cons_zero,List.getElem?_cons_succ,List.getElem?_nil,List.filter])
  refine ⟨a+20,aS.bG 1 rfl (Nat.le_refl 1) ?_ ?_,⟨hlt,k+1,by omega⟩,by omega⟩<;>simp only [go_sem,Int.natCast_succ,aI,aC,ej]
 have f1:((a:Int)+20≤(n:Int))=False:=eq_false (by omega)
 have k1:=tK F hF (cs 20 (l.take a)) (l.drop a) [] a n hl1.symm (by rw [hl1,List.length_drop];omega) (hsub _) (by rw [hl1,List.length_drop];simp;omega)
 rw [←fH (n:=20) (l:=l.drop a) (by rw [List.length_drop];omega)] at k1
 rw [List.append_nil,List.append_nil,zn (by decide) ha (by omega)] at k1
 (repeat' with_reducible first|intro _|refine rz ?_|refine ra ?_ ?_|omega|simp only [go_sem,f1])
 refine aj.io [0] k1 (by decide) (by simp [bZ,ren,bV]) rfl (by simp [bU,bV,lk,Item.ren,Item.below,aC,bg,ak]) bQ 1 (by decide) rfl (by simp [bn,Item.below,aC,ak]) ?_
 (repeat' with_reducible first|intro _|refine rz ?_|refine ra ?_ ?_|omega|simp only [go_sem,S.je,aW,bV,dF,Item.ren,aC,List.getElem?_cons_zero,List.getElem?_cons_succ,List.getElem?_nil,List.filter])
 refine aJ.intro (fun q:Nat=>⟨63,[(0,.own 0),(1,.int .i64 n),(2,.fn F []),(6,.int .i64 q)],[(0,.row 72 (aC (cs q l)))],1⟩) (fun q=>20≤q∧q≤200000) (fun q=>n - q) 20 ?_ ⟨Nat.le_refl _,by decide⟩ fun q hq=>?_
 ·refine aS.bG 1 rfl (Nat.le_refl 1) ?_ ?_<;>simp only [go_sem,Int.natCast_succ,aI,aC]
 clear k1 hl1 f1 hlt ej ha han
 obtain ⟨hq1,hq2⟩:=hq
 by_cases hqn:q<n
 case neg=>
  have f1:((q:Int)<(n:Int))=False:=eq_false (by omega)
  rw [fH (by omega)]
  (repeat' with_reducible first|intro _|refine rz ?_|refine ra ?_ ?_|omega|simp only [go_sem,f1])
  refine dN.auto 1 (Nat.le_refl 1) ?_ rfl ?_<;>simp only [go_sem,Int.natCast_succ,aI,aC]
 have f1:((q:Int)<(n:Int))=True:=eq_true (by omega)
 (repeat' with_reducible first|intro _|refine rz ?_|refine ra ?_ ?_|omega|simp only [go_sem,f1])
 refine aJ.intro (fun a:Nat=>⟨63,[(0,.own 0),(1,.int .i64 n),(2,.fn F []),(6,.int .i64 q),(7,.int .i64 a),(8,.int .i64 ((a:Int)+2*(q:Int)))],[(0,.row 72 (aC (cs (2*q) (l.take a)++cs q (l.drop a))))],1⟩) (fun a=>a≤n∧∃ k,a=k*(2*q)) (fun a=>n - a) 0 ?_ ⟨Nat.zero_le _,0,by rw [Nat.zero_mul]⟩ fun a hk=>?_
 ·refine aS.bG 1 rfl (Nat.le_refl 1) ?_ ?_<;>simp only [go_sem,Int.natCast_succ,aI,aC,qJ]
  all_goals omega
 obtain ⟨han,m,ha⟩:=hk
 have hP:(cs (2*q) (l.take a)).length=a:=by rw [xA,List.length_take];omega
 have e2:((a+q:Nat):Int)=(a:Int)+(q:Int):=by omega
 have e3:((a+2*q:Nat):Int)=(a:Int)+2*(q:Int):=by omega
 have hDl:(l.drop a).length=n - a:=by rw [List.length_drop];omega
 by_cases hlt:a+2*q≤n
 ·have f2:((a:Int)+2*(q:Int)≤(n:Int))=True:=eq_true (by omega)
  have hc:=yC (n:=q) (by omega) (l:=l.drop a) (by omega)
  have hm:=zl (n:=2*q) (by omega) (l:=l) (a:=a) (m:=m) ha (by omega)
  have hd:(l.drop a).drop (2*q)=l.drop (a+2*q):=by rw [List.drop_drop]
  have hAB:(l.drop a).take (2*q)=(l.drop a).take q++((l.drop a).drop q).take q:=by rw [show 2*q=q+q by omega,List.take_add]
  have hSt:eF ((l.drop a).take q++((l.drop a).drop q).take q):=by rw [←hAB];exact hsub2 _ _
  have lA:(aO ((l.drop a).take q)).length=q:=by rw [dB,List.length_take];omega
  have lB:(aO (((l.drop a).drop q).take q)).length=q:=by rw [dB,List.length_take,List.length_drop];omega
  have k1:=lI F hF (2*q) (cs (2*q) (l.take a)) (aO ((l.drop a).take q)) (aO (((l.drop a).drop q).take q)) (cs q (l.drop (a+2*q))) a (a+q) (a+2*q) hP.symm (by omega) (by omega) (by omega) (by omega) (by omega) (jc _) (jc _) (pU hSt) (by rw [hP,lA,lB,xA,List.length_drop];omega)
  rw [nK,←hAB,←List.append_assoc (cs (2*q) (l.take a)) (aO ((l.drop a).take (2*q))),←hm,←List.append_assoc (aO ((l.drop a).take q)),←hd,←hc,hd,e2,e3] at k1
  (repeat' with_reducible first|intro _|refine rz ?_|refine ra ?_ ?_|omega|simp only [go_sem,f1,f2])
  refine aj.io [0] k1 (by decide) (by simp [bZ,ren,bV]) rfl (by simp [bU,bV,lk,Item.ren,Item.below,aC,bg,ak]) bQ 1 (by decide) rfl (by simp [bn,Item.below,aC,ak]) ?_
  (repeat' with_reducible first|intro _|refine rz ?_|refine ra ?_ ?_|omega|simp only [go_sem,S.je,aW,bV,dF,Item.ren,aC,List.getElem?_cons_zero,List.getElem?_cons_succ,List.getElem?_nil,List.filter])
  refine ⟨a+2*q,aS.bG 1 rfl (Nat.le_refl 1) ?_ ?_,⟨hlt,m+1,by rw [Nat.add_mul,Nat.one_mul,←ha]⟩,by omega⟩<;>simp only [go_sem,Int.natCast_succ,aI,aC,e3]
  all_goals trace_state
 ·have f2:((a:Int)+2*(q:Int)≤(n:Int))=False:=eq_false (by omega)
  have hend:=zn (n:=2*q) (by omega) (l:=l) (a:=a) (m:=m) ha (by omega)
  rw [fH (n:=2*q) (l:=l.drop a) (by omega)] at hend
  by_cases hmn:a+q<n
  ·have f3:((a:Int)+(q:Int)<(n:Int))=True:=eq_true (by omega)
   have hc:=Qj (n:=q) (by omega) (l:=l.drop a) (by omega) (by omega)
   have hAB:(l.drop a).take q++(l.drop a).drop q=l.drop a:=List.take_append_drop _ _
   have hSt:eF ((l.drop a).take q++(l.drop a).drop q):=by rw [hAB];exact hsub _
   have lA:(aO ((l.drop a).take q)).length=q:=by rw [dB,List.length_take];omega
   have lB:(aO ((l.drop a).drop q)).length=n - a - q:=by rw [dB,List.length_drop];omega
   have k1:=lI F hF (2*q) (cs (2*q) (l.take a)) (aO ((l.drop a).take q)) (aO ((l.drop a).drop q)) [] a (a+q) n hP.symm (by omega) (by omega) (by omega) (by omega) (by omega) (jc _) (jc _) (pU hSt) (by rw [hP,lA,lB];simp;omega)
   rw [nK,hAB,List.append_nil,List.append_nil,hend,←hc,e2] at k1
   (repeat' with_reducible first|intro _|refine rz ?_|refine ra ?_ ?_|omega|simp only [go_sem,f1,f2,f3])
   refine aj.io [0] k1 (by decide) (by simp [bZ,ren,bV]) rfl (by simp [bU,bV,lk,Item.ren,Item.below,aC,bg,ak]) bQ 1 (by decide) rfl (by simp [bn,Item.below,aC,ak]) ?_
   (repeat' with_reducible first|intro _|refine rz ?_|refine ra ?_ ?_|omega|simp only [go_sem,S.je,aW,bV,dF,Item.ren,aC,List.getElem?_cons_zero,List.getElem?_cons_succ,List.getElem?_nil,List.filter])
   refine ⟨2*q,aS.bG 1 rfl (Nat.le_refl 1) ?_ ?_,⟨by omega,by omega⟩,by omega⟩<;>simp only [go_sem,Int.natCast_succ,aI,aC]
   all_goals omega
  ·have f3:((a:Int)+(q:Int)<(n:Int))=False:=eq_false (by omega)
   rw [fH (n:=q) (l:=l.drop a) (by omega),hend]
   (repeat' with_reducible first|intro _|refine rz ?_|refine ra ?_ ?_|omega|simp only [go_sem,f1,f2,f3])
   refine ⟨2*q,aS.bG 1 rfl (Nat.le_refl 1) ?_ ?_,⟨by omega,by omega⟩,by omega⟩<;>simp only [go_sem,Int.natCast_succ,aI,aC]
   all_goals omega
theorem Bz (F:Nat) (hF:vk F) (l:List Pl) (hN:l.length≤100000) (hS:eF l) :
  dD Tryd.prog 33 [.own 0,.fn F []] [(0,.row 72 (aC l))] 1 (.tup []) [(0,.row 72 (aC (aO l)))]:=by
 have k:=CZ F hF l _ rfl hN hS
 refine dD.aY Tryd.func33 rfl (by decide) (by simp [Tryd.f33]) bQ [] rfl fun w0 T0 _=>?_
 simp only [Tryd.f33,aK]
 (repeat' with_reducible first|intro _|refine rz ?_|refine ra ?_ ?_|omega|simp only [go_sem,aC,List.length_map])
 refine aj.io [0] k (by decide) (by simp [bZ,ren,bV]) rfl (by simp [bU,bV,lk,Item.ren,Item.below,aC,bg,ak]) bQ 1 (by decide) rfl (by simp [bn,Item.below,aC,ak]) ?_
 (repeat' with_reducible first|intro _|refine rz ?_|refine ra ?_ ?_|omega|simp only [go_sem,S.je,aW,bV,dF,Item.ren,aC,List.getElem?_cons_zero,List.getElem?_cons_succ,List.getElem?_nil,List.filter])
 refine dN.auto 1 (Nat.le_refl 1) ?_ rfl ?_<;>simp only [go_sem,Int.natCast_succ,aI,aC]
end Go.Fv.L
/- The comparisons of rails by their first pixels. -/
namespace Go.Fv.L
open Go Go.Proofs
theorem Io (a:Int):aU Tryd.prog 50 [.int .i64 a] (.bool false) []:=by
 refine aU.aY Tryd.func50 rfl (by decide) (by simp [Tryd.f50]) [.tmp 2] rfl fun w0 T0 _=>?_
 simp only [Tryd.f50,aK]
 (repeat' with_reducible first|intro _|exact dn|refine rn ?_|refine ra ?_ ?_)
 refine eP.auto 0 ?_ rfl ?_<;>simp only [go_sem,Int.natCast_succ,Post]
 all_goals simp
theorem vU (a b:Int):aU Tryd.prog 29 [.int .i64 a,.int .i64 b] (.int .i64 (vG a b)) []:=by
 unfold vG
 refine aU.aY Tryd.func29 rfl (by decide) (by simp [Tryd.f29]) [.tmp 4] rfl fun w0 T0 _=>?_
 simp only [Tryd.f29,aK]
 (repeat' with_reducible first|intro _|exact dn|refine rn ?_|refine ra ?_ ?_)
 refine aj.k (Io a) ?_
 (repeat' with_reducible first|intro _|exact dn|refine rn ?_|refine ra ?_ ?_)
 refine aj.k (Io b) ?_
 by_cases h1:a<b
 ·rw [if_pos h1]
  (repeat' with_reducible first|intro _|exact dn|refine rn ?_|refine ra ?_ ?_)
  refine eP.auto 0 ?_ rfl ?_<;>simp only [go_sem,Int.natCast_succ,Post]
 ·rw [if_neg h1]
  by_cases h2:b<a
  ·rw [if_pos h2]
   (repeat' with_reducible first|intro _|exact dn|refine rn ?_|refine ra ?_ ?_)
   refine eP.auto 0 ?_ rfl ?_<;>simp only [go_sem,Int.natCast_succ,Post]
  ·rw [if_neg h2]
   (repeat' with_reducible first|intro _|exact dn|refine rn ?_|refine ra ?_ ?_)
   refine eP.auto 0 ?_ rfl ?_<;>simp only [go_sem,Int.natCast_succ,Post]
def JK:List Int→Int
 | []=>0
 | x::l=>if x=0 then JK l else x
theorem Rk (l:List Int) {k:Nat} (h:k<l.length):JK (l.drop k)=if l.getD k 0=0 then JK (l.drop (k+1)) else l.getD k 0:=by
 rw [List.drop_eq_getElem_cons h,JK,getD_lt h]
theorem MV (l:List Int):aU Tryd.prog 28 [.ro (.ints .i64 l)] (.int .i64 (JK l)) []:=by
 refine aU.aY Tryd.func28 rfl (by decide) (by simp [Tryd.f28]) [.tmp 2] rfl fun w0 T0 _=>?_
 simp only [Tryd.f28,aK]
 (repeat' with_reducible first|intro _|exact dn|refine rn ?_|refine ra ?_ ?_)
 refine aJ.intro (fun i:Nat=>⟨18,[(8,.int .i64 i),(7,.int .i64 l.length),(6,.ro (.ints .i64 l)),(3,.int .i64 0)],[],0⟩) (fun i=>i≤l.length∧JK l=JK (l.drop i)) (fun i=>l.length - i) 0 ?_ ⟨Nat.zero_le _,rfl⟩ fun i hi=>?_
 ·refine aS.aB rfl ?_ ?_<;>simp only [go_sem,Int.natCast_succ]
 obtain ⟨hi,ho⟩:=hi
 by_cases hlt:i<l.length
 ·have hd:=Rk l hlt
  by_cases h0:l.getD i 0=0
  ·rw [if_pos h0] at hd
   (repeat' with_reducible first|intro _|refine rz ?_|refine ra ?_ ?_|omega|simp only [go_sem,h0])
   refine ⟨i+1,aS.aB rfl ?_ ?_,⟨by omega,ho.trans hd⟩,by omega⟩<;>simp only [go_sem,Int.natCast_succ]
  ·rw [if_neg h0] at hd
   (repeat' with_reducible first|intro _|exact dn|refine rn ?_|refine ra ?_ ?_)
   refine eP.auto 0 ?_ rfl ?_<;>simp only [go_sem,Int.natCast_succ,Post,ho.trans hd]
 ·have e:i=l.length:=by omega
  subst e
  have:JK l=0:=by rw [ho,List.drop_length];rfl
  (repeat' with_reducible first|intro _|exact dn|refine rn ?_|refine ra ?_ ?_)
  refine eP.auto 0 ?_ rfl ?_<;>simp only [go_sem,Int.natCast_succ,Post,this]
theorem VE (x y:Pl):JK [vG x.d y.d,vG x.c y.c]=He x y:=by
 unfold He JK JK JK
 by_cases h:vG x.d y.d=0
 ·rw [if_pos h,if_pos h]
  by_cases h2:vG x.c y.c=0
  ·rw [if_pos h2,h2]
  ·rw [if_neg h2]
 ·rw [if_neg h,if_neg h]
theorem Tz (x y:Pl):JK [x.d - y.d,x.c - y.c]=qo x y:=by
 unfold qo JK JK JK
 by_cases h:x.d - y.d=0
 ·rw [if_pos h,if_pos h]
  by_cases h2:x.c - y.c=0
  ·rw [if_pos h2,h2]
  ·rw [if_neg h2]
 ·rw [if_neg h,if_neg h]
set_option maxHeartbeats 2000000 in
theorem O9:EH 27:=fun x y=>by
 have k1:=vU x.d y.d
 have k2:=vU x.c y.c
 have k3:=MV [vG x.d y.d,vG x.c y.c]
 rw [VE] at k3
 generalize He x y=r at *
 generalize vG x.d y.d=c1 at *
 generalize vG x.c y.c=c2 at *
 refine aU.aY Tryd.func27 rfl (by decide) (by simp [Tryd.f27]) [.tmp 4] rfl fun w0 T0 _=>?_
 simp only [Tryd.f27,aK]
 (repeat' with_reducible first|intro _|exact dn|refine rn ?_|refine ra ?_ ?_)
 refine aP.lex [14] [] (by kernel_rfl) (by kernel_rfl) ?_
 (repeat' with_reducible first|intro _|exact dn|refine rn ?_|refine ra ?_ ?_)
 refine QV.intro (.int .i64 c1) ?_ ?_
 ·(repeat' with_reducible first|intro _|exact dn|refine rn ?_|refine ra ?_ ?_)
  refine aj.k k1 ?_
  (repeat' with_reducible first|intro _|exact dn|refine rn ?_|refine ra ?_ ?_)
 (repeat' with_reducible first|intro _|exact dn|refine rn ?_|refine ra ?_ ?_)
 refine QV.intro (.int .i64 c2) ?_ ?_
 ·(repeat' with_reducible first|intro _|exact dn|refine rn ?_|refine ra ?_ ?_)
  refine aj.k k2 ?_
  (repeat' with_reducible first|intro _|exact dn|refine rn ?_|refine ra ?_ ?_)
 (repeat' with_reducible first|intro _|exact dn|refine rn ?_|refine ra ?_ ?_)
 refine QV.intro (.int .i64 r) ?_ ?_
 ·(repeat' with_reducible first|intro _|exact dn|refine rn ?_|refine ra ?_ ?_)
  refine aj.k k3 ?_
  (repeat' with_reducible first|intro _|exact dn|refine rn ?_|refine ra ?_ ?_)
 (repeat' with_reducible first|intro _|exact dn|refine rn ?_|refine ra ?_ ?_)
 refine eP.auto 0 ?_ rfl ?_<;>simp only [go_sem,Int.natCast_succ,Post]
set_option maxHeartbeats 2000000 in
theorem Je:vk 34:=fun x y=>by
 have k3:=MV [x.d - y.d,x.c - y.c]
 rw [Tz] at k3
 obtain ⟨x1,x2,x3,x4⟩:=x.bd
 obtain ⟨y1,y2,y3,y4⟩:=y.bd
 generalize qo x y=r at *
 refine aU.aY Tryd.func34 rfl (by decide) (by simp [Tryd.f34]) [.tmp 4] rfl fun w0 T0 _=>?_
 simp only [Tryd.f34,aK]
 (repeat' with_reducible first|intro _|exact dn|refine rn ?_|refine ra ?_ ?_)
 refine aj.k k3 ?_
 (repeat' with_reducible first|intro _|exact dn|refine rn ?_|refine ra ?_ ?_)
 refine eP.auto 0 ?_ rfl ?_<;>simp only [go_sem,Int.natCast_succ,Post]
end Go.Fv.L
/- Rules. -/
namespace Go.Fv.L
open Go Go.Proofs
theorem lF {w h:Nat} {n:Nat} (hw1:1≤w) (hw:w≤1000) (hh1:1≤h) (hh:h≤1000) (hn:n=w*h):sH w h n=0:=by
 have hb:w*h≤1000000:=Nat.mul_le_mul hw hh
 have hc:((w*h:Nat):Int)=(w:Int)*(h:Int):=by simp
 have hs:jy (w:Int) (h:Int)=0:=by
  unfold jy
  rw [if_neg (by omega)]
  rw [if_neg (by omega)]
 unfold sH
 rw [hs,if_pos rfl,hn,if_pos hc]
theorem Pg (p:List Bool) (w h:Nat) (hw1:1≤w) (hw:w≤100) (hh1:1≤h) (hh:h≤100) (hp:p.length=w*h) (least:Int) (hl:least<2∨4000<least) :
  aU Tryd.prog 6 [.agg [.int .i64 w,.int .i64 h,.ro (.bools p)],.int .i64 least] (.tup [.own 0,.int .i64 3]) [(0,.row 35 (rls []))]:=by
 have k0:=lu w h p
 rw [lF hw1 (by omega) hh1 (by omega) hp] at k0
 refine aU.aY Tryd.func6 rfl (by decide) (by simp [Tryd.f6]) [.tmp 4,.tmp 5] rfl fun w0 T0 _=>?_
 simp only [Tryd.f6,aK]
 (repeat' with_reducible first|intro _|exact dn|refine rn ?_|refine ra ?_ ?_)
 refine aj.k k0 ?_
 (repeat' with_reducible first|intro _|exact dn|refine rn ?_|refine ra ?_ ?_)
 refine eP.auto 1 ?_ rfl ?_<;>simp only [go_sem,Int.natCast_succ,Post,List.map_nil]
set_option maxHeartbeats 8000000 in
theorem RP (p:List Bool) (w h:Nat) (hw1:1≤w) (hw:w≤100) (hh1:1≤h) (hh:h≤100) (hp:p.length=w*h) (least:Nat) (hl1:2≤least) (hl2:least≤4000)
  (c1 c2:Nat→Nat) (hc1:fG (nZ p w h least).length (fZ (nZ p w h least)) c1) (hc2:fG (nY p w h least).length (fZ (nY p w h least)) c2) :
  aU Tryd.prog 6 [.agg [.int .i64 w,.int .i64 h,.ro (.bools p)],.int .i64 least] (.tup [.own 0,.int .i64 0])
   [(0,.row 35 (rls (aO (jr (dG c1 (nZ p w h least) (nZ p w h least).length) (dG c2 (nY p w h least) (nY p w h least).length)))))]:=by
 have k0:=lu w h p
 rw [lF hw1 (by omega) hh1 (by omega) hp] at k0
 have kr1:=xX h w least 24 [.cell [.int .i64 w,.int .i64 h,.ro (.bools p)]] rfl (nV p w) (by omega) (by omega) fun y i hy hi=>dW.dP (Ug p w h y i (by omega) (by omega) (by omega) (by
  rw [hp]
  have h1:(y+1)*w≤h*w:=Nat.mul_le_mul_right w hy
  rw [Nat.succ_mul,Nat.mul_comm h w] at h1;omega)) rfl rfl
 have kr2:=xX w h least 25 [.cell [.int .i64 w,.int .i64 h,.ro (.bools p)]] rfl (isC p w) (by omega) (by omega) fun x y hx hy=>dW.dP (Uh p w h y x (by omega) (by omega) (by omega) (by
  rw [hp]
  have h1:(y+1)*w≤h*w:=Nat.mul_le_mul_right w hy
  rw [Nat.succ_mul,Nat.mul_comm h w] at h1;omega)) rfl rfl
 rw [show runs (nV p w) h w least=nZ p w h least from rfl] at kr1
 rw [show runs (isC p w) w h least=nY p w h least from rfl] at kr2
 have n1:(nZ p w h least).length≤h*w:=fM _ _ _ _
 have n2:(nY p w h least).length≤w*h:=fM _ _ _ _
 have hb1:h*w≤10000:=Nat.mul_le_mul hh hw
 have hb2:w*h≤10000:=Nat.mul_le_mul hw hh
 have u1:Up (nZ p w h least):=zJ (mM _ _ _ _)
 have u2:Up (nY p w h least):=zJ (mM _ _ _ _)
 have s1:∀ r,r∈nZ p w h least→zi r:=Vf (by omega) (by omega)
 have s2:∀ r,r∈nY p w h least→zi r:=Ve (by omega) (by omega)
 generalize nZ p w h least=l1 at *
 generalize nY p w h least=l2 at *
 have ka1:=Oc false l1 (by omega) u1 s1 c1 hc1
 have g1:=jq c1 l1 l1.length
 have g2:=jq c2 l2 l2.length
 have hpl:=jS false (dG c1 l1 l1.length) 0
 have ka2:=Vy (oL false 0 (dG c1 l1 l1.length)) (by omega) true l2 (by omega) u2 s2 c2 hc2
 have hall:=xR (dG c1 l1 l1.length) (dG c2 l2 l2.length)
 have hX:oL false 0 (dG c1 l1 l1.length)++oL true (oL false 0 (dG c1 l1 l1.length)).length (dG c2 l2 l2.length)=jr (dG c1 l1 l1.length) (dG c2 l2 l2.length):=by rw [hpl];rfl
 rw [hX] at ka2
 have ks:=CY _ O9 (jr (dG c1 l1 l1.length) (dG c2 l2 l2.length)) (by omega) (Bg _ _)
 have hsl:=dB (jr (dG c1 l1 l1.length) (dG c2 l2 l2.length))
 generalize aO (jr (dG c1 l1 l1.length) (dG c2 l2 l2.length))=Z at *
 generalize jr (dG c1 l1 l1.length) (dG c2 l2 l2.length)=Y at *
 generalize oL false 0 (dG c1 l1 l1.length)=X at *
 refine aU.aY Tryd.func6 rfl (by decide) (by simp [Tryd.f6]) [.tmp 4,.tmp 5] rfl fun w0 T0 _=>?_
 simp only [Tryd.f6,aK]
 have f1:(((least:Nat):Int)<2)=False:=eq_false (by omega)
 have f2:((4000:Int)<((least:Nat):Int))=False:=eq_false (by omega)
 (repeat' with_reducible first|intro _|refine rz ?_|refine ra ?_ ?_|omega|simp only [go_sem,f1,f2])
 refine aj.k k0 ?_
 (repeat' with_reducible first|intro _|refine rz ?_|refine ra ?_ ?_|omega|simp only [go_sem,f1,f2])
 refine aj.ro (.ro (uQ l1)) (dW.dP kr1 rfl (by simp [dR,dQ,gq,fK,iL,aG,Rn.av])) (by simp only [aG,aV,dI,bf,aH,List.drop_zero,lk,reduceIte,reduceCtorEq,Nat.reduceEqDiff,Option.some.injEq,Item.row.injEq,Item.box.injEq,AV.ro.injEq,exists_eq_left,exists_and_left,exists_eq_left',exists_eq_right,and_assoc,and_true,true_and,List.cons.injEq,exists_eq',exists_eq,aG]) (by simp [gX,aV,bf,dI,aH,lk,aG]) rfl ?_
 (repeat' with_reducible first|intro _|exact dn|refine rn ?_|refine ra ?_ ?_)
 refine aj.i [2] ka1 2 ?_ (hNr:=by simp [bn,Item.below,Fv.below,aQ,aC,ak])
 (repeat' with_reducible first|intro _|refine rz ?_|refine ra ?_ ?_|omega|simp only [go_sem,aC])
 refine aj.ro (.ro (uQ l2)) (dW.dP kr2 rfl (by simp [dR,dQ,gq,fK,iL,aG,Rn.av])) (by simp only [aG,aV,dI,bf,aH,List.drop_zero,lk,reduceIte,reduceCtorEq,Nat.reduceEqDiff,Option.some.injEq,Item.row.injEq,Item.box.injEq,AV.ro.injEq,exists_eq_left,exists_and_left,exists_eq_left',exists_eq_right,and_assoc,and_true,true_and,List.cons.injEq,exists_eq',exists_eq,aG]) (by simp [gX,aV,bf,dI,aH,lk,aG]) rfl ?_
 (repeat' with_reducible first|intro _|exact dn|refine rn ?_|refine ra ?_ ?_)
 unfold aC at ka2 ks
 refine aj.i [2,3] ka2 3 ?_
 (repeat' with_reducible first|intro _|exact dn|refine rn ?_|refine ra ?_ ?_)
 refine aj.i [4] ks 1 ?_
 (repeat' with_reducible first|intro _|refine rz ?_|refine ra ?_ ?_|omega|simp only [go_sem,List.length_map])
 refine aJ.intro (fun i:Nat=>⟨57,[(9,.own 4),(44,.own 3),(45,.int .i64 Z.length),(46,.int .i64 i)],[(3,.row 59 (aC Z)),(4,.row 35 (rls (Z.take i)))],5⟩) (fun i=>i≤Z.length) (fun i=>Z.length - i) 0 ?_ (Nat.zero_le _) fun i hi=>?_
 ·refine aS.aB rfl ?_ ?_<;>simp only [go_sem,Int.natCast_succ,List.map_nil,aC]
  all_goals trace_state
 by_cases hlt:i<Z.length
 case neg=>
  have e:i=Z.length:=by omega
  subst e
  have f3:((Z.length:Int)<(Z.length:Int))=False:=eq_false (by omega)
  rw [List.take_length]
  (repeat' with_reducible first|intro _|refine rz ?_|refine ra ?_ ?_|omega|simp only [go_sem,f3])
  refine eP.auto 1 ?_ rfl ?_<;>simp only [go_sem,Int.natCast_succ,Post]
  all_goals trace_state
 have f3:((i:Int)<(Z.length:Int))=True:=eq_true (by omega)
 have he:=Nv Z hlt
 have ht:=Jc Z hlt
 generalize Z.getD i Pl.zero=z at *
 (repeat' with_reducible first|intro _|refine rz ?_|refine ra ?_ ?_|omega|simp only [go_sem,f3,aC,aN,he,List.length_map,List.length_take])
 refine ⟨i+1,aS.aB rfl ?_ ?_,by omega,by omega⟩<;>simp only [go_sem,Int.natCast_succ,aC]
 exact ht.symm
end Go.Fv.L
