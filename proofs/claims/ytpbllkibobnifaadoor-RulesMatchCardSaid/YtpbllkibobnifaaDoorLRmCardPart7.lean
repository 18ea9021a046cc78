/-
  A part of the proof of the claim: walks over the program's functions and the plain laws that these need. No condition of its own.
-/
import Derived.Test.YtpbllkibobnifaaDoorLRmCardPart6
import Derived.Test.YtpbllkibobnifaaDoorLRmCardPart3
set_option linter.unusedSimpArgs false
set_option linter.unusedVariables false
set_option linter.unnecessarySimpa false
set_option maxRecDepth 8000
/- The stable sort of rails: the walk of a merge in general. -/
namespace Go.Fv.L
open Go Go.Proofs
set_option maxHeartbeats 32000000 in
theorem Ls (F:Nat) (hF:EH F) (n:Nat) (hI:LZ F n) (P U V Q:List Pl) (a m b:Nat) (ha:a=P.length) (hm:m=P.length+U.length) (hb:b=P.length+U.length+V.length) (h2U:2≤U.length) (h2V:2≤V.length) (hn:U.length+V.length≤n+1) (hU:o7 U) (hV:o7 V) (hS:eF (U++V)) (hmd00:¬(a+b) / 2<m) (hN:P.length+U.length+V.length+Q.length≤1000000) :
  dD Tryd.prog 63 [.own 0,.int .i64 a,.int .i64 m,.int .i64 b,.fn F []] [(0,.row 59 (aC (P++(U++(V++Q)))))] 1 (.tup []) [(0,.row 59 (aC (P++(aO (U++V)++Q))))]:=by
 refine dD.aY Tryd.func63 rfl (by decide) (by simp [Tryd.f63]) bQ [] rfl fun w0 T0 _=>?_
 simp only [Tryd.f63,aK]
 have i1:¬(m:Int) - (a:Int)=1:=by omega
 have i2:¬(b:Int) - (m:Int)=1:=by omega
 have hWl:(P++(U++(V++Q))).length=P.length+U.length+V.length+Q.length:=by simp;omega
 have eU:∀ g,a≤g→g<m→((P++(U++(V++Q))).map Pl.av).getD g []=[.int .i64 (gd U (g - a)).a1,.int .i64 (gd U (g - a)).a2,.int .i64 (gd U (g - a)).a3,.int .i64 (gd U (g - a)).a4,.bool (gd U (g - a)).dn,.int .i64 (gd U (g - a)).c,.int .i64 (gd U (g - a)).d]:=fun g hg hg2=>by
  rw [fA _ (by omega)]
  have:=lD (P:=P) (V++Q) (U:=U) (i:=g - a) (k:=g) (by omega) (by omega)
  unfold gd at this ⊢
  rw [this]
 have eV:∀ g,m≤g→g<b→((P++(U++(V++Q))).map Pl.av).getD g []=[.int .i64 (gd V (g - m)).a1,.int .i64 (gd V (g - m)).a2,.int .i64 (gd V (g - m)).a3,.int .i64 (gd V (g - m)).a4,.bool (gd V (g - m)).dn,.int .i64 (gd V (g - m)).c,.int .i64 (gd V (g - m)).d]:=fun g hg hg2=>by
  rw [fA _ (by omega)]
  have:=jY (P:=P) (U:=U) Q (V:=V) (i:=g - m) (k:=g) (by omega) (by omega)
  unfold gd at this ⊢
  rw [this]
 have hmd0:=oD a b
 have hmd1:a<(a+b) / 2:=by omega
 have hmd2:(a+b) / 2<b:=by omega
 have hmd3:2*((a+b) / 2)≤a+b∧a+b≤2*((a+b) / 2)+1:=by omega
 have hrest:=fun s h1 h2 h3 h4 hc=>Vd (P:=P) (U:=U) (V:=V) (Q:=Q) (a:=a) (m:=m) (b:=b) (md:=(a+b) / 2) (s:=s) hI ha hm hb hn hmd1 hmd2 h1 h2 h3 h4 hU hV hS hN hc
 generalize (a+b) / 2=md at *
 generalize P++(aO (U++V)++Q)=W3 at *
 generalize hW:P++(U++(V++Q))=W at *
 have hWm:(W.map Pl.av).length=P.length+U.length+V.length+Q.length:=by rw [List.length_map];exact hWl
 have nn:(md:Int)+(m:Int)=((md+m:Nat):Int):=by omega
 have np:((md+m:Nat):Int) - 1=((md+m - 1:Nat):Int):=by omega
 (repeat' with_reducible first|intro _|refine ry ?_|refine ra ?_ ?_|omega|simp only [go_sem,i1,i2])
 refine dh.Fb (gJ.2 (by omega)) ?_
 rw [hmd0]
 have hlh:a≤m:=by omega
 have b1:a≤a:=Nat.le_refl _
 have b2:m≤m:=Nat.le_refl _
 have b3:m≤md:=by omega
 have b4:md+m≤b+a:=by omega
 have hends:PL a m a m b md:=⟨.inl rfl,.inl rfl⟩
 have hg:¬(md:Int)<(m:Int):=by omega
 (repeat' with_reducible first|intro _|refine ry ?_|refine ra ?_ ?_|omega|simp only [go_sem,nn,np,hg])
 refine aJ.intro (fun z:Nat × Nat=>⟨220,[(0,.own 0),(1,.int .i64 a),(2,.int .i64 m),(3,.int .i64 b),(4,.fn F []),(18,.int .i64 md),(19,.int .i64 (md+m:Nat)),(20,.int .i64 z.1),(21,.int .i64 z.2),(22,.int .i64 (md+m - 1:Nat))],[(0,.row 59 (aC W))],1⟩) (fun z=>(a≤z.1∧z.1≤z.2∧z.2≤m)∧Hq U V a md a m z.1 z.2) (fun z=>z.2 - z.1) (a,m) ?_ ⟨⟨Nat.le_refl _,hlh,Nat.le_refl _⟩,fun h=>absurd h (Nat.lt_irrefl _),fun h=>absurd h (Nat.lt_irrefl _)⟩ fun z hz=>?_
 ·refine aS.bG 1 rfl (Nat.le_refl 1) ?_ ?_<;>simp only [go_sem,Int.natCast_succ,aI,aC,nn,np]
  all_goals omega
 obtain ⟨s,r⟩:=z
 obtain ⟨⟨z1,z2,z3⟩,za⟩:=hz
 dsimp only at z1 z2 z3 za ⊢
 by_cases hsr:s<r
 ·have hsh:=oD s r
  have hm1:s≤(s+r) / 2:=by omega
  have hm2:(s+r) / 2<r:=by omega
  generalize (s+r) / 2=c at *
  have n1:((md+m - 1:Nat):Int) - (c:Int)=((md+m - 1 - c:Nat):Int):=by omega
  have e1:=eU c (by omega) (by omega)
  have e2:=eV (md+m - 1 - c) (by omega) (by omega)
  have ei:md+m - 1 - c - m=md - 1 - c:=by omega
  rw [ei] at e2
  have kc:=hF (gd V (md - 1 - c)) (gd U (c - a))
  have hc1:(s:Int)<(r:Int):=by omega
  (repeat' with_reducible first|intro _|refine ry ?_|refine ra ?_ ?_|omega|simp only [go_sem,hc1])
  refine dh.Fb (gJ.2 (by omega)) ?_
  rw [hsh]
  (repeat' with_reducible first|intro _|refine ry ?_|refine ra ?_ ?_|omega|simp only [go_sem,Int.toNat_natCast])
  refine aP.lex [] [] (by kernel_rfl) (by kernel_rfl) ?_
  by_cases hlt0:dS (gd V (md - 1 - c)) (gd U (c - a))
  ·have hcn:=Ae hlt0
   have hinv:(a≤s∧s≤c∧c≤m)∧Hq U V a md a m s c:=⟨by omega,za.1,fun _=>hlt0⟩
   generalize He (gd V (md - 1 - c)) (gd U (c - a))=cv at *
   generalize gd V (md - 1 - c)=v at *
   generalize gd U (c - a)=u at *
   (repeat' with_reducible first|intro _|refine ry ?_|refine ra ?_ ?_|omega|simp only [go_sem,Int.toNat_natCast,aN,e1,e2,n1,aC])
   refine QV.intro (.int .i64 cv) ?_ ?_
   ·(repeat' with_reducible first|intro _|refine ry ?_|refine ra ?_ ?_|omega|simp only [go_sem,Int.toNat_natCast,aN,e1,e2,n1,aC])
    refine aj.k kc ?_
    (repeat' with_reducible first|intro _|refine ry ?_|refine ra ?_ ?_|omega|simp only [go_sem,aC])
   (repeat' with_reducible first|intro _|refine ry ?_|refine ra ?_ ?_|omega|simp only [go_sem,hcn,aC])
   refine ⟨(s,c),aS.bG 1 rfl (Nat.le_refl 1) ?_ ?_,hinv,by dsimp only;omega⟩<;>simp only [go_sem,Int.natCast_succ,aI,aC]
  ·have hcn:=Af hlt0
   have hinv:(a≤c+1∧c+1≤r∧r≤m)∧Hq U V a md a m (c+1) r:=⟨by omega,fun _=>by
    rw [show md - (c+1)=md - 1 - c by omega,show c+1 - 1 - a=c - a by omega];exact hlt0,za.2⟩
   generalize He (gd V (md - 1 - c)) (gd U (c - a))=cv at *
   generalize gd V (md - 1 - c)=v at *
   generalize gd U (c - a)=u at *
   (repeat' with_reducible first|intro _|refine ry ?_|refine ra ?_ ?_|omega|simp only [go_sem,Int.toNat_natCast,aN,e1,e2,n1,aC])
   refine QV.intro (.int .i64 cv) ?_ ?_
   ·(repeat' with_reducible first|intro _|refine ry ?_|refine ra ?_ ?_|omega|simp only [go_sem,Int.toNat_natCast,aN,e1,e2,n1,aC])
    refine aj.k kc ?_
    (repeat' with_reducible first|intro _|refine ry ?_|refine ra ?_ ?_|omega|simp only [go_sem,aC])
   (repeat' with_reducible first|intro _|refine ry ?_|refine ra ?_ ?_|omega|simp only [go_sem,hcn,aC])
   refine ⟨(c+1,r),aS.bG 1 rfl (Nat.le_refl 1) ?_ ?_,hinv,by dsimp only;omega⟩<;>simp only [go_sem,Int.natCast_succ,aI,aC]
 have e:r=s:=by omega
 subst e
 obtain ⟨W1,W2,kr,h01,k1,h12,k2,h23⟩:=(hrest r (by omega) (by omega) (by omega) (by omega) (za.cut hends z1 z3 b1 b2 b3 b4 (by omega) (by omega))).ex
 have ne1:((md+m:Nat):Int) - (r:Int)=((md+m - r:Nat):Int):=by omega
 have hc1:¬(r:Int)<(r:Int):=by omega
 clear za hsr hrest eU eV hends
 rcases Classical.em (r<m∧r<md) with c0|c0
 ·first
  |(exfalso;omega)
  |(
    have kk:=kr c0.1 c0.2
    (repeat' with_reducible first|intro _|refine ry ?_|refine ra ?_ ?_|omega|simp only [go_sem,hc1,ne1])
    refine aj.io [0] kk (by decide) (by simp [bZ,ren,bV]) rfl (by simp [bU,bV,lk,Item.ren,Item.below,aC,bg,ak]) bQ 1 (by decide) rfl (by simp [bn,Item.below,aC,ak]) ?_
    rcases Classical.em (a<r∧r<md) with c1|c1
    ·first
     |(exfalso;omega)
     |(
       have kk:=k1 c1.1 c1.2
       (repeat' with_reducible first|intro _|refine ry ?_|refine ra ?_ ?_|omega|simp only [go_sem,S.je,aW,bV,dF,Item.ren,aC,List.getElem?_cons_zero,List.getElem?_cons_succ,List.getElem?_nil,List.filter,ne1])
       refine aj.io [0] kk (by decide) (by simp [bZ,ren,bV]) rfl (by simp [bU,bV,lk,Item.ren,Item.below,aC,bg,ak]) bQ 1 (by decide) rfl (by simp [bn,Item.below,aC,ak]) ?_
       rcases Classical.em (r<m∧md+m - r<b) with c2|c2
       ·first
        |(exfalso;omega)
        |(
          have kk:=k2 c2.1 c2.2
          (repeat' with_reducible first|intro _|refine ry ?_|refine ra ?_ ?_|omega|simp only [go_sem,S.je,aW,bV,dF,Item.ren,aC,List.getElem?_cons_zero,List.getElem?_cons_succ,List.getElem?_nil,List.filter,ne1])
          refine aj.io [0] kk (by decide) (by simp [bZ,ren,bV]) rfl (by simp [bU,bV,lk,Item.ren,Item.below,aC,bg,ak]) bQ 1 (by decide) rfl (by simp [bn,Item.below,aC,ak]) ?_
          (repeat' with_reducible first|intro _|refine ry ?_|refine ra ?_ ?_|omega|simp only [go_sem,S.je,aW,bV,dF,Item.ren,aC,List.getElem?_cons_zero,List.getElem?_cons_succ,List.getElem?_nil,List.filter,ne1])
          refine dN.auto 1 (Nat.le_refl 1) ?_ rfl ?_<;>simp only [go_sem,Int.natCast_succ,aI,aC])
       ·first
        |(exfalso;omega)
        |(
          have hw:=h23 c2
          subst hw
          (repeat' with_reducible first|intro _|refine ry ?_|refine ra ?_ ?_|omega|simp only [go_sem,S.je,aW,bV,dF,Item.ren,aC,List.getElem?_cons_zero,List.getElem?_cons_succ,List.getElem?_nil,List.filter,ne1])
          refine dN.auto 1 (Nat.le_refl 1) ?_ rfl ?_<;>simp only [go_sem,Int.natCast_succ,aI,aC]))
    ·first
     |(exfalso;omega)
     |(
       have hw:=h12 c1
       subst hw
       rcases Classical.em (r<m∧md+m - r<b) with c2|c2
       ·first
        |(exfalso;omega)
        |(
          have kk:=k2 c2.1 c2.2
          (repeat' with_reducible first|intro _|refine ry ?_|refine ra ?_ ?_|omega|simp only [go_sem,S.je,aW,bV,dF,Item.ren,aC,List.getElem?_cons_zero,List.getElem?_cons_succ,List.getElem?_nil,List.filter,ne1])
          refine aj.io [0] kk (by decide) (by simp [bZ,ren,bV]) rfl (by simp [bU,bV,lk,Item.ren,Item.below,aC,bg,ak]) bQ 1 (by decide) rfl (by simp [bn,Item.below,aC,ak]) ?_
          (repeat' with_reducible first|intro _|refine ry ?_|refine ra ?_ ?_|omega|simp only [go_sem,S.je,aW,bV,dF,Item.ren,aC,List.getElem?_cons_zero,List.getElem?_cons_succ,List.getElem?_nil,List.filter,ne1])
          refine dN.auto 1 (Nat.le_refl 1) ?_ rfl ?_<;>simp only [go_sem,Int.natCast_succ,aI,aC])
       ·first
        |(exfalso;omega)
        |(
          have hw:=h23 c2
          subst hw
          (repeat' with_reducible first|intro _|refine ry ?_|refine ra ?_ ?_|omega|simp only [go_sem,S.je,aW,bV,dF,Item.ren,aC,List.getElem?_cons_zero,List.getElem?_cons_succ,List.getElem?_nil,List.filter,ne1])
          refine dN.auto 1 (Nat.le_refl 1) ?_ rfl ?_<;>simp only [go_sem,Int.natCast_succ,aI,aC])))
 ·first
  |(exfalso;omega)
  |(
    have hw:=h01 c0
    subst hw
    rcases Classical.em (a<r∧r<md) with c1|c1
    ·first
     |(exfalso;omega)
     |(
       have kk:=k1 c1.1 c1.2
       (repeat' with_reducible first|intro _|refine ry ?_|refine ra ?_ ?_|omega|simp only [go_sem,hc1,ne1])
       refine aj.io [0] kk (by decide) (by simp [bZ,ren,bV]) rfl (by simp [bU,bV,lk,Item.ren,Item.below,aC,bg,ak]) bQ 1 (by decide) rfl (by simp [bn,Item.below,aC,ak]) ?_
       rcases Classical.em (r<m∧md+m - r<b) with c2|c2
       ·exact absurd (And.intro c2.1 c1.2) c0
       ·first
        |(exfalso;omega)
        |(
          have hw:=h23 c2
          subst hw
          (repeat' with_reducible first|intro _|refine ry ?_|refine ra ?_ ?_|omega|simp only [go_sem,S.je,aW,bV,dF,Item.ren,aC,List.getElem?_cons_zero,List.getElem?_cons_succ,List.getElem?_nil,List.filter,ne1])
          refine dN.auto 1 (Nat.le_refl 1) ?_ rfl ?_<;>simp only [go_sem,Int.natCast_succ,aI,aC]))
    ·first
     |(exfalso;omega)
     |(
       have hw:=h12 c1
       subst hw
       rcases Classical.em (r<m∧md+m - r<b) with c2|c2
       ·first
        |(exfalso;omega)
        |(
          have kk:=k2 c2.1 c2.2
          (repeat' with_reducible first|intro _|refine ry ?_|refine ra ?_ ?_|omega|simp only [go_sem,hc1,ne1])
          refine aj.io [0] kk (by decide) (by simp [bZ,ren,bV]) rfl (by simp [bU,bV,lk,Item.ren,Item.below,aC,bg,ak]) bQ 1 (by decide) rfl (by simp [bn,Item.below,aC,ak]) ?_
          (repeat' with_reducible first|intro _|refine ry ?_|refine ra ?_ ?_|omega|simp only [go_sem,S.je,aW,bV,dF,Item.ren,aC,List.getElem?_cons_zero,List.getElem?_cons_succ,List.getElem?_nil,List.filter,ne1])
          refine dN.auto 1 (Nat.le_refl 1) ?_ rfl ?_<;>simp only [go_sem,Int.natCast_succ,aI,aC])
       ·first
        |(exfalso;omega)
        |(
          have hw:=h23 c2
          subst hw
          (repeat' with_reducible first|intro _|refine ry ?_|refine ra ?_ ?_|omega|simp only [go_sem,hc1,ne1])
          refine dN.auto 1 (Nat.le_refl 1) ?_ rfl ?_<;>simp only [go_sem,Int.natCast_succ,aI,aC])))
end Go.Fv.L
/- The stable sort of rails: the walk of a merge in general. -/
namespace Go.Fv.L
open Go Go.Proofs
theorem nM (F:Nat) (hF:EH F):∀ n,LZ F n
 | 0=>fun P U V Q a m b _ _ _ h1 h2 h3 _ _ _ _=>by omega
 | n+1=>fun P U V Q a m b ha hm hb h1 h2 h3 hU hV hS hN=>by
  by_cases e1:U.length=1
  ·obtain ⟨x,rfl⟩:=List.length_eq_one_iff.1 e1
   exact Js F hF P V Q x a m b ha hm hb hV hS hN
  by_cases e2:V.length=1
  ·obtain ⟨y,rfl⟩:=List.length_eq_one_iff.1 e2
   exact Lu F hF P U Q y a m b ha hm hb (by omega) hU hS hN
  by_cases hmd:(a+b) / 2<m
  ·exact Lr F hF n (nM F hF n) P U V Q a m b ha hm hb (by omega) (by omega) h3 hU hV hS hmd hN
  ·exact Ls F hF n (nM F hF n) P U V Q a m b ha hm hb (by omega) (by omega) h3 hU hV hS hmd hN
end Go.Fv.L
/- slices.SortStableFunc of rails. -/
namespace Go.Fv.L
open Go Go.Proofs
set_option maxHeartbeats 16000000 in
theorem Gg (F:Nat) (hF:EH F) (l:List Pl) (n:Nat) (hn:l.length=n) (hN:n≤100000) (hS:eF l) :
  dD Tryd.prog 49 [.own 0,.int .i64 n,.fn F []] [(0,.row 59 (aC l))] 1 (.tup []) [(0,.row 59 (aC (aO l)))]:=by
 refine dD.aY Tryd.func49 rfl (by decide) (by simp [Tryd.f49]) bQ [] rfl fun w0 T0 _=>?_
 simp only [Tryd.f49,aK]
 have hsub:∀ a,eF (l.drop a):=fun a=>hS.sub (List.drop_sublist _ _)
 have hsub2:∀ a k,eF ((l.drop a).take k):=fun a k=>(hsub a).sub (List.take_sublist _ _)
 (repeat' with_reducible first|intro _|exact dn|refine rn ?_|refine ra ?_ ?_)
 refine aJ.intro (fun a:Nat=>⟨63,[(0,.own 0),(1,.int .i64 n),(2,.fn F []),(6,.int .i64 20),(7,.int .i64 a),(8,.int .i64 ((a:Int)+20))],[(0,.row 59 (aC (cs 20 (l.take a)++l.drop a)))],1⟩) (fun a=>a≤n∧∃ k,a=k*20) (fun a=>n - a) 0 ?_ ⟨Nat.zero_le _,0,rfl⟩ fun a hk=>?_
 ·refine aS.bG 1 rfl (Nat.le_refl 1) ?_ ?_<;>simp only [go_sem,Int.natCast_succ,aI,aC,qJ]
 obtain ⟨han,k,ha⟩:=hk
 have hl1:(cs 20 (l.take a)).length=a:=by rw [xA,List.length_take];omega
 have ej:((a+20:Nat):Int)=(a:Int)+20:=by omega
 by_cases hlt:a+20≤n
 ·have f1:((a:Int)+20≤(n:Int))=True:=eq_true (by omega)
  have hl2:((l.drop a).take 20).length=20:=by rw [List.length_take,List.length_drop];omega
  have k1:=vX F hF (cs 20 (l.take a)) ((l.drop a).take 20) ((l.drop a).drop 20) a (a+20) hl1.symm (by omega) (hsub2 _ _) (by rw [hl1,hl2,List.length_drop,List.length_drop];omega)
  rw [List.take_append_drop] at k1
  have hm:=zl (n:=20) (by decide) (l:=l) (a:=a) (m:=k) ha (by omega)
  have hd:(l.drop a).drop 20=l.drop (a+20):=by rw [List.drop_drop]
  rw [←List.append_assoc,←hm,hd,ej] at k1
  (repeat' with_reducible first|intro _|refine rz ?_|refine ra ?_ ?_|omega|simp only [go_sem,f1])
  refine aj.io [0] k1 (by decide) (by simp [bZ,ren,bV]) rfl (by simp [bU,bV,lk,Item.ren,Item.below,aC,bg,ak]) bQ 1 (by decide) rfl (by simp [bn,Item.below,aC,ak]) ?_
  (repeat' with_reducible first|intro _|refine rz ?_|refine ra ?_ ?_|omega|simp only [go_sem,S.je,aW,bV,dF,Item.ren,aC,List.getElem?_cons_zero,List.getElem?_cons_succ,List.getElem?_nil,List.filter])
  refine ⟨a+20,aS.bG 1 rfl (Nat.le_refl 1) ?_ ?_,⟨hlt,k+1,by omega⟩,by omega⟩<;>simp only [go_sem,Int.natCast_succ,aI,aC,ej]
 have f1:((a:Int)+20≤(n:Int))=False:=eq_false (by omega)
 have k1:=vX F hF (cs 20 (l.take a)) (l.drop a) [] a n hl1.symm (by rw [hl1,List.length_drop];omega) (hsub _) (by rw [hl1,List.length_drop];simp;omega)
 rw [←fH (n:=20) (l:=l.drop a) (by rw [List.length_drop];omega)] at k1
 rw [List.append_nil,List.append_nil,zn (by decide) ha (by omega)] at k1
 (repeat' with_reducible first|intro _|refine rz ?_|refine ra ?_ ?_|omega|simp only [go_sem,f1])
 refine aj.io [0] k1 (by decide) (by simp [bZ,ren,bV]) rfl (by simp [bU,bV,lk,Item.ren,Item.below,aC,bg,ak]) bQ 1 (by decide) rfl (by simp [bn,Item.below,aC,ak]) ?_
 (repeat' with_reducible first|intro _|refine rz ?_|refine ra ?_ ?_|omega|simp only [go_sem,S.je,aW,bV,dF,Item.ren,aC,List.getElem?_cons_zero,List.getElem?_cons_succ,List.getElem?_nil,List.filter])
 refine aJ.intro (fun q:Nat=>⟨63,[(0,.own 0),(1,.int .i64 n),(2,.fn F []),(6,.int .i64 q)],[(0,.row 59 (aC (cs q l)))],1⟩) (fun q=>20≤q∧q≤200000) (fun q=>n - q) 20 ?_ ⟨Nat.le_refl _,by decide⟩ fun q hq=>?_
 ·refine aS.bG 1 rfl (Nat.le_refl 1) ?_ ?_<;>simp only [go_sem,Int.natCast_succ,aI,aC]
 clear k1 hl1 f1 hlt ej ha han
 obtain ⟨hq1,hq2⟩:=hq
 by_cases hqn:q<n
 case neg=>
  have f1:((q:Int)<(n:Int))=False:=eq_false (by omega)
  rw [fH (by omega)]
  (repeat' with_reducible first|intro _|refine rz ?_|refine ra ?_ ?_|omega|simp only [go_sem,f1])
  refine dN.auto 1 (Nat.le_refl 1) ?_ rfl ?_<;>simp only [go_sem,Int.natCast_succ,aI,aC]
 have f1:((q:Int)<(n:Int))=True:=eq_true (by omega)
 (repeat' with_reducible first|intro _|refine rz ?_|refine ra ?_ ?_|omega|simp only [go_sem,f1])
 refine aJ.intro (fun a:Nat=>⟨63,[(0,.own 0),(1,.int .i64 n),(2,.fn F []),(6,.int .i64 q),(7,.int .i64 a),(8,.int .i64 ((a:Int)+2*(q:Int)))],[(0,.row 59 (aC (cs (2*q) (l.take a)++cs q (l.drop a))))],1⟩) (fun a=>a≤n∧∃ k,a=k*(2*q)) (fun a=>n - a) 0 ?_ ⟨Nat.zero_le _,0,by rw [Nat.zero_mul]⟩ fun a hk=>?_
 ·refine aS.bG 1 rfl (Nat.le_refl 1) ?_ ?_<;>simp only [go_sem,Int.natCast_succ,aI,aC,qJ]
  all_goals omega
 obtain ⟨han,m,ha⟩:=hk
 have hP:(cs (2*q) (l.take a)).length=a:=by rw [xA,List.length_take];omega
 have e2:((a+q:Nat):Int)=(a:Int)+(q:Int):=by omega
 have e3:((a+2*q:Nat):Int)=(a:Int)+2*(q:Int):=by omega
 have hDl:(l.drop a).length=n - a:=by rw [List.length_drop];omega
 by_cases hlt:a+2*q≤n
 ·have f2:((a:Int)+2*(q:Int)≤(n:Int))=True:=eq_true (by omega)
  have hc:=yC (n:=q) (by omega) (l:=l.drop a) (by omega)
  have hm:=zl (n:=2*q) (by omega) (l:=l) (a:=a) (m:=m) ha (by omega)
  have hd:(l.drop a).drop (2*q)=l.drop (a+2*q):=by rw [List.drop_drop]
  have hAB:(l.drop a).take (2*q)=(l.drop a).take q++((l.drop a).drop q).take q:=by rw [show 2*q=q+q by omega,List.take_add]
  have hSt:eF ((l.drop a).take q++((l.drop a).drop q).take q):=by rw [←hAB];exact hsub2 _ _
  have lA:(aO ((l.drop a).take q)).length=q:=by rw [dB,List.length_take];omega
  have lB:(aO (((l.drop a).drop q).take q)).length=q:=by rw [dB,List.length_take,List.length_drop];omega
  have k1:=nM F hF (2*q) (cs (2*q) (l.take a)) (aO ((l.drop a).take q)) (aO (((l.drop a).drop q).take q)) (cs q (l.drop (a+2*q))) a (a+q) (a+2*q) hP.symm (by omega) (by omega) (by omega) (by omega) (by omega) (jc _) (jc _) (pU hSt) (by rw [hP,lA,lB,xA,List.length_drop];omega)
  rw [nK,←hAB,←List.append_assoc (cs (2*q) (l.take a)) (aO ((l.drop a).take (2*q))),←hm,←List.append_assoc (aO ((l.drop a).take q)),←hd,←hc,hd,e2,e3] at k1
  (repeat' with_reducible first|intro _|refine rz ?_|refine ra ?_ ?_|omega|simp only [go_sem,f1,f2])
  refine aj.io [0] k1 (by decide) (by simp [bZ,ren,bV]) rfl (by simp [bU,bV,lk,Item.ren,Item.below,aC,bg,ak]) bQ 1 (by decide) rfl (by simp [bn,Item.below,aC,ak]) ?_
  (repeat' with_reducible first|intro _|refine rz ?_|refine ra ?_ ?_|omega|simp only [go_sem,S.je,aW,bV,dF,Item.ren,aC,List.getElem?_cons_zero,List.getElem?_cons_succ,List.getElem?_nil,List.filter])
  refine ⟨a+2*q,aS.bG 1 rfl (Nat.le_refl 1) ?_ ?_,⟨hlt,m+1,by rw [Nat.add_mul,Nat.one_mul,←ha]⟩,by omega⟩<;>simp only [go_sem,Int.natCast_succ,aI,aC,e3]
  all_goals trace_state
 ·have f2:((a:Int)+2*(q:Int)≤(n:Int))=False:=eq_false (by omega)
  have hend:=zn (n:=2*q) (by omega) (l:=l) (a:=a) (m:=m) ha (by omega)
  rw [fH (n:=2*q) (l:=l.drop a) (by omega)] at hend
  by_cases hmn:a+q<n
  ·have f3:((a:Int)+(q:Int)<(n:Int))=True:=eq_true (by omega)
   have hc:=Qj (n:=q) (by omega) (l:=l.drop a) (by omega) (by omega)
   have hAB:(l.drop a).take q++(l.drop a).drop q=l.drop a:=List.take_append_drop _ _
   have hSt:eF ((l.drop a).take q++(l.drop a).drop q):=by rw [hAB];exact hsub _
   have lA:(aO ((l.drop a).take q)).length=q:=by rw [dB,List.length_take];omega
   have lB:(aO ((l.drop a).drop q)).length=n - a - q:=by rw [dB,List.length_drop];omega
   have k1:=nM F hF (2*q) (cs (2*q) (l.take a)) (aO ((l.drop a).take q)) (aO ((l.drop a).drop q)) [] a (a+q) n hP.symm (by omega) (by omega) (by omega) (by omega) (by omega) (jc _) (jc _) (pU hSt) (by rw [hP,lA,lB];simp;omega)
   rw [nK,hAB,List.append_nil,List.append_nil,hend,←hc,e2] at k1
   (repeat' with_reducible first|intro _|refine rz ?_|refine ra ?_ ?_|omega|simp only [go_sem,f1,f2,f3])
   refine aj.io [0] k1 (by decide) (by simp [bZ,ren,bV]) rfl (by simp [bU,bV,lk,Item.ren,Item.below,aC,bg,ak]) bQ 1 (by decide) rfl (by simp [bn,Item.below,aC,ak]) ?_
   (repeat' with_reducible first|intro _|refine rz ?_|refine ra ?_ ?_|omega|simp only [go_sem,S.je,aW,bV,dF,Item.ren,aC,List.getElem?_cons_zero,List.getElem?_cons_succ,List.getElem?_nil,List.filter])
   refine ⟨2*q,aS.bG 1 rfl (Nat.le_refl 1) ?_ ?_,⟨by omega,by omega⟩,by omega⟩<;>simp only [go_sem,Int.natCast_succ,aI,aC]
   all_goals omega
  ·have f3:((a:Int)+(q:Int)<(n:Int))=False:=eq_false (by omega)
   rw [fH (n:=q) (l:=l.drop a) (by omega),hend]
   (repeat' with_reducible first|intro _|refine rz ?_|refine ra ?_ ?_|omega|simp only [go_sem,f1,f2,f3])
   refine ⟨2*q,aS.bG 1 rfl (Nat.le_refl 1) ?_ ?_,⟨by omega,by omega⟩,by omega⟩<;>simp only [go_sem,Int.natCast_succ,aI,aC]
   all_goals omega
theorem CY (F:Nat) (hF:EH F) (l:List Pl) (hN:l.length≤100000) (hS:eF l) :
  dD Tryd.prog 26 [.own 0,.fn F []] [(0,.row 59 (aC l))] 1 (.tup []) [(0,.row 59 (aC (aO l)))]:=by
 have k:=Gg F hF l _ rfl hN hS
 refine dD.aY Tryd.func26 rfl (by decide) (by simp [Tryd.f26]) bQ [] rfl fun w0 T0 _=>?_
 simp only [Tryd.f26,aK]
 (repeat' with_reducible first|intro _|refine rz ?_|refine ra ?_ ?_|omega|simp only [go_sem,aC,List.length_map])
 refine aj.io [0] k (by decide) (by simp [bZ,ren,bV]) rfl (by simp [bU,bV,lk,Item.ren,Item.below,aC,bg,ak]) bQ 1 (by decide) rfl (by simp [bn,Item.below,aC,ak]) ?_
 (repeat' with_reducible first|intro _|refine rz ?_|refine ra ?_ ?_|omega|simp only [go_sem,S.je,aW,bV,dF,Item.ren,aC,List.getElem?_cons_zero,List.getElem?_cons_succ,List.getElem?_nil,List.filter])
 refine dN.auto 1 (Nat.le_refl 1) ?_ rfl ?_<;>simp only [go_sem,Int.natCast_succ,aI,aC]
end Go.Fv.L
/- The stable sort of rails: the walk of insertion. -/
namespace Go.Fv.L
open Go Go.Proofs
def qo (x y:Pl):Int:=if x.d - y.d=0 then x.c - y.c else x.d - y.d
theorem Md (x y:Pl):qo x y<0↔dS x y:=by
 unfold qo dS;split<;>omega
def vk (F:Nat):Prop:=∀ x y:Pl,aU Tryd.prog F [.agg [.int .i64 x.a1,.int .i64 x.a2,.int .i64 x.a3,.int .i64 x.a4,.bool x.dn,.int .i64 x.c,.int .i64 x.d],.agg [.int .i64 y.a1,.int .i64 y.a2,.int .i64 y.a3,.int .i64 y.a4,.bool y.dn,.int .i64 y.c,.int .i64 y.d]] (.int .i64 (qo x y)) []
theorem Oi (l:List Pl) (n i:Nat):aQ n (List.take 7 ((l.map Pl.av).getD i []))=true:=by
 rw [List.getD_eq_getElem?_getD,List.getElem?_map]
 cases l[i]?<;>rfl
theorem vC {x y:Pl} (h:dS x y):qo x y<0:=(Md x y).2 h
theorem vF {x y:Pl} (h:¬dS x y):¬qo x y<0:=fun h2=>h ((Md x y).1 h2)
set_option maxHeartbeats 8000000 in
theorem tK (F:Nat) (hF:vk F) (P X Q:List Pl) (a b:Nat) (ha:a=P.length) (hb:b=P.length+X.length) (hS:eF X) (hN:P.length+X.length+Q.length≤1000000) :
  dD Tryd.prog 64 [.own 0,.int .i64 a,.int .i64 b,.fn F []] [(0,.row 72 (aC (P++(X++Q))))] 1 (.tup []) [(0,.row 72 (aC (P++(aO X++Q))))]:=by
 refine dD.aY Tryd.func64 rfl (by decide) (by simp [Tryd.f64]) bQ [] rfl fun w0 T0 _=>?_
 simp only [Tryd.f64,aK]
 generalize hR:aO X=R
 have i1:(a:Int)+1=((P.length+1:Nat):Int):=by omega
 (repeat' with_reducible first|intro _|refine rz ?_|refine ra ?_ ?_|omega|simp only [go_sem,i1])
 refine aJ.intro (fun x:Nat × List Pl=>⟨53,[(0,.own 0),(1,.int .i64 a),(2,.int .i64 b),(3,.fn F []),(8,.int .i64 (P.length+x.1:Nat))],[(0,.row 72 (aC (P++(x.2++Q))))],1⟩) (fun x=>1≤x.1∧(x.1≤X.length∨x.1=1)∧x.2.Perm X∧qc x.2∧∀ p q,p<q→q<x.1→¬dS (gd x.2 q) (gd x.2 p)) (fun x=>X.length+1 - x.1) (1,X) ?_ ⟨Nat.le_refl 1,.inr rfl,List.Perm.refl _,Jl hS,fun p q h1 h2=>by omega⟩ fun x hx=>?_
 ·refine aS.bG 1 rfl (Nat.le_refl 1) ?_ ?_<;>simp only [go_sem,Int.natCast_succ,aI,aC]
 obtain ⟨k,Y⟩:=x
 obtain ⟨hk1,hk2,hp,hs,ho⟩:=hx
 dsimp only at hk1 hk2 hp hs ho ⊢
 have hYl:=hp.length_eq
 by_cases hlt:k<X.length
 ·have hc:((P.length+k:Nat):Int)<(b:Int):=by omega
  (repeat' with_reducible first|intro _|refine rz ?_|refine ra ?_ ?_|omega|simp only [go_sem,hc])
  refine aJ.intro (fun x:Nat × List Pl=>⟨53,[(0,.own 0),(1,.int .i64 a),(2,.int .i64 b),(3,.fn F []),(8,.int .i64 (P.length+k:Nat)),(9,.int .i64 (P.length+x.1:Nat))],[(0,.row 72 (aC (P++(x.2++Q))))],1⟩) (fun x=>x.1≤k∧x.2.Perm X∧qc x.2∧JW x.2 k x.1) (fun x=>x.1) (k,Y) ?_ ⟨Nat.le_refl _,hp,hs,fun p q h1 h2 h3=>ho p q h1 (by omega)⟩ fun x hx=>?_
  ·refine aS.bG 1 rfl (Nat.le_refl 1) ?_ ?_<;>simp only [go_sem,Int.natCast_succ,aI,aC]
  clear hp hs ho hYl
  obtain ⟨j,Y⟩:=x
  obtain ⟨hj,hp,hs,ho⟩:=hx
  dsimp only at hj hp hs ho ⊢
  have hYl:=hp.length_eq
  have hlen:((P++(Y++Q)).map Pl.av).length=P.length+X.length+Q.length:=by simp;omega
  have hlen2:(P++(Y++Q)).length=P.length+X.length+Q.length:=by simp;omega
  have hend:(0<j→¬dS (gd Y j) (gd Y (j - 1)))→(1≤k+1∧(k+1≤X.length∨k+1=1)∧Y.Perm X∧qc Y∧∀ p q,p<q→q<k+1→¬dS (gd Y q) (gd Y p)):=fun he=>
   ⟨by omega,by omega,hp,hs,fun p q h1 h2=>Iu hj ho he p q h1 (by omega)⟩
  have n1:((P.length+k:Nat):Int)+1=((P.length+(k+1):Nat):Int):=by omega
  cases j with
  | zero=>
   have hg:¬(a:Int)<(P.length:Int):=by omega
   (repeat' with_reducible first|intro _|refine rz ?_|refine ra ?_ ?_|omega|simp only [go_sem,hg])
   refine aP.lex [] [] (by kernel_rfl) (by kernel_rfl) ?_
   (repeat' with_reducible first|intro _|refine rz ?_|refine ra ?_ ?_|omega|simp only [go_sem,hg,aC,Oi])
   refine QV.intro (.int .i64 0) ?_ ?_
   ·(repeat' with_reducible first|intro _|refine rz ?_|refine ra ?_ ?_|omega|simp only [go_sem,hg,aC])
   (repeat' with_reducible first|intro _|refine rz ?_|refine ra ?_ ?_|omega|simp only [go_sem,hg,aC])
   refine ⟨(k+1,Y),aS.bG 1 rfl (Nat.le_refl 1) ?_ ?_,hend (fun h=>absurd h (Nat.lt_irrefl 0)),by dsimp only;omega⟩<;>simp only [go_sem,Int.natCast_succ,aI,aC,n1]
  | succ j=>
   have hjb:j+1<Y.length:=by omega
   have hg:(a:Int)<((P.length+(j+1):Nat):Int):=by omega
   have m1:((P.length+(j+1):Nat):Int) - 1=((P.length+j:Nat):Int):=by omega
   have hsw:=Ew (P:=P) (Q:=Q) hjb
   have kc:=hF (gd Y (j+1)) (gd Y j)
   have hsl:(swp Y j).length=Y.length:=Gj hjb
   obtain ⟨hl,hl',e1,e2,s1,s2,t1,t2⟩:=hsw
   by_cases hlt0:dS (gd Y (j+1)) (gd Y j)
   ·have hcn:=vC hlt0
    have hinv:j≤k∧(swp Y j).Perm X∧qc (swp Y j)∧JW (swp Y j) k j:=⟨by omega,(BH hjb).trans hp,Jr hjb hlt0 hs,DX (by omega) hj ho hlt0⟩
    generalize qo (gd Y (j+1)) (gd Y j)=cv at *
    generalize gd Y (j+1)=v at *
    generalize gd Y j=u at *
    (repeat' with_reducible first|intro _|refine rz ?_|refine ra ?_ ?_|omega|simp only [go_sem,hg,m1])
    refine aP.lex [] [] (by kernel_rfl) (by kernel_rfl) ?_
    (repeat' with_reducible first|intro _|refine rz ?_|refine ra ?_ ?_|omega|simp only [go_sem,hg,m1,aC,Int.toNat_natCast,aN,e1,e2])
    refine QV.intro (.int .i64 cv) ?_ ?_
    ·(repeat' with_reducible first|intro _|refine rz ?_|refine ra ?_ ?_|omega|simp only [go_sem,hg,m1,aC,Int.toNat_natCast,aN,e1,e2])
     refine aj.k kc ?_
     (repeat' with_reducible first|intro _|refine rz ?_|refine ra ?_ ?_|omega|simp only [go_sem,aC])
    (repeat' with_reducible first|intro _|refine rz ?_|refine ra ?_ ?_|omega|simp only [go_sem,hg,m1,hcn,aC])
    refine aP.lex [15,17] [(2,[1]),(3,[1]),(4,[1])] (by kernel_rfl) (by kernel_rfl) ?_
    (repeat' with_reducible first|intro _|refine rz ?_|refine ra ?_ ?_|omega|simp only [go_sem,hg,m1,aC,Int.toNat_natCast,aN,e1,e2,s1,s2,t1,t2])
    refine ⟨(j,swp Y j),aS.bG 1 rfl (Nat.le_refl 1) ?_ ?_,hinv,by dsimp only;omega⟩<;>simp only [go_sem,Int.natCast_succ,aI,aC,m1]
   ·have hcn:=vF hlt0
    have hfin:=hend (fun _=>hlt0)
    clear hend
    generalize qo (gd Y (j+1)) (gd Y j)=cv at *
    generalize gd Y (j+1)=v at *
    generalize gd Y j=u at *
    (repeat' with_reducible first|intro _|refine rz ?_|refine ra ?_ ?_|omega|simp only [go_sem,hg,m1])
    refine aP.lex [] [] (by kernel_rfl) (by kernel_rfl) ?_
    (repeat' with_reducible first|intro _|refine rz ?_|refine ra ?_ ?_|omega|simp only [go_sem,hg,m1,aC,Int.toNat_natCast,aN,e1,e2])
    refine QV.intro (.int .i64 cv) ?_ ?_
    ·(repeat' with_reducible first|intro _|refine rz ?_|refine ra ?_ ?_|omega|simp only [go_sem,hg,m1,aC,Int.toNat_natCast,aN,e1,e2])
     refine aj.k kc ?_
     (repeat' with_reducible first|intro _|refine rz ?_|refine ra ?_ ?_|omega|simp only [go_sem,aC])
    (repeat' with_reducible first|intro _|refine rz ?_|refine ra ?_ ?_|omega|simp only [go_sem,hg,m1,hcn,aC])
    refine ⟨(k+1,Y),aS.bG 1 rfl (Nat.le_refl 1) ?_ ?_,hfin,by dsimp only;omega⟩<;>simp only [go_sem,Int.natCast_succ,aI,aC,n1]
 ·have e:R=Y:=by
   rw [←hR]
   refine (Lm hp (NJ fun p q h1 h2=>ho p q h1 (by omega)) (Jm hs)).symm
  subst e
  have hc:¬((P.length+k:Nat):Int)<(b:Int):=by omega
  (repeat' with_reducible first|intro _|refine rz ?_|refine ra ?_ ?_|omega|simp only [go_sem,hc])
  refine dN.auto 1 (Nat.le_refl 1) ?_ rfl ?_<;>simp only [go_sem,Int.natCast_succ,aI,aC]
end Go.Fv.L
/- The stable sort of rails: swaps of ranges. -/
namespace Go.Fv.L
open Go Go.Proofs
set_option maxHeartbeats 4000000 in
theorem nS (P U M V Q:List Pl) (n a b:Nat) (F:Nat) (hU:U.length=n) (hV:V.length=n) (ha:a=P.length) (hb:b=P.length+n+M.length) (hq:P.length+n+M.length+n+Q.length≤1000000) :
  dD Tryd.prog 76 [.own 0,.int .i64 a,.int .i64 b,.int .i64 n,.fn F []] [(0,.row 72 (aC (P++(U++(M++(V++Q))))))] 1 (.tup []) [(0,.row 72 (aC (P++(V++(M++(U++Q))))))]:=by
 refine dD.aY Tryd.func76 rfl (by decide) (by simp [Tryd.f76]) bQ [] rfl fun w0 T0 _=>?_
 simp only [Tryd.f76,aK]
 (repeat' with_reducible first|intro _|exact dn|refine rn ?_|refine ra ?_ ?_)
 refine aJ.intro (fun i:Nat=>⟨38,[(0,.own 0),(1,.int .i64 a),(2,.int .i64 b),(3,.int .i64 n),(10,.int .i64 i)],[(0,.row 72 (aC (PI P U M V Q i)))],1⟩) (fun i=>i≤n) (fun i=>n - i) 0 ?_ (Nat.zero_le _) fun i hi=>?_
 ·refine aS.bG 1 rfl (Nat.le_refl 1) ?_ ?_<;>simp only [go_sem,Int.natCast_succ,Jp,aI,aC]
  all_goals rfl
 by_cases hlt:i<n
 ·have hs:=Jo (P:=P) (M:=M) (Q:=Q) hU hV hlt
  have hsl:=NS P U M V Q hU hV hi
  have i1:(a:Int)+(i:Int)=((P.length+i:Nat):Int):=by omega
  have i2:(b:Int)+(i:Int)=((P.length+n+M.length+i:Nat):Int):=by omega
  have hsl2:=hsl
  rw [←List.length_map (f:=Pl.av)] at hsl
  obtain ⟨hl,hl',e1,e2,s1,s2,t1,t2⟩:=hs
  generalize U.getD i Pl.zero=u at *
  generalize V.getD i Pl.zero=v at *
  (repeat' with_reducible first|intro _|refine rz ?_|refine ra ?_ ?_|omega|simp only [go_sem,i1,i2,Int.toNat_natCast,aC])
  refine aP.lex [21,23] [(4,[1]),(5,[1]),(6,[1]),(7,[1])] (by kernel_rfl) (by kernel_rfl) ?_
  (repeat' with_reducible first|intro _|refine rz ?_|refine ra ?_ ?_|omega|simp only [go_sem,i1,i2,Int.toNat_natCast,aC,aN,e1,e2,s1,s2,t1,t2])
  refine ⟨i+1,aS.bG 1 rfl (Nat.le_refl 1) ?_ ?_,by omega,by omega⟩<;>simp only [go_sem,Int.natCast_succ,aI,aC]
 ·have e:i=n:=by omega
  subst e
  rw [NR P U M V Q hU hV]
  (repeat' with_reducible first|intro _|exact dn|refine rn ?_|refine ra ?_ ?_)
  refine dN.auto 1 (Nat.le_refl 1) ?_ rfl ?_<;>simp only [go_sem,Int.natCast_succ,aI,aC]
end Go.Fv.L
/- The stable sort of rails: two parts change their places. -/
namespace Go.Fv.L
open Go Go.Proofs
structure Xq where
 P:List Pl
 U:List Pl
 V:List Pl
 Q:List Pl
set_option maxHeartbeats 8000000 in
theorem Ld (P U V Q:List Pl) (a m b:Nat) (F:Nat) (ha:a=P.length) (hm:m=P.length+U.length) (hb:b=P.length+U.length+V.length) (hU:0<U.length) (hV:0<V.length) (hN:P.length+U.length+V.length+Q.length≤1000000) :
  dD Tryd.prog 71 [.own 0,.int .i64 a,.int .i64 m,.int .i64 b,.fn F []] [(0,.row 72 (aC (P++(U++(V++Q)))))] 1 (.tup []) [(0,.row 72 (aC (P++(V++(U++Q)))))]:=by
 refine dD.aY Tryd.func71 rfl (by decide) (by simp [Tryd.f71]) bQ [] rfl fun w0 T0 _=>?_
 simp only [Tryd.f71,aK]
 have i1:(m:Int) - (a:Int)=(U.length:Int):=by omega
 have i2:(b:Int) - (m:Int)=(V.length:Int):=by omega
 generalize hR:P++(V++(U++Q))=R
 generalize hT:P.length+U.length+V.length+Q.length=N at *
 (repeat' with_reducible first|intro _|refine rz ?_|refine ra ?_ ?_|omega|simp only [go_sem,i1,i2])
 refine aJ.intro (fun x:Xq=>⟨58,[(0,.own 0),(2,.int .i64 m),(4,.fn F []),(10,.int .i64 x.U.length),(11,.int .i64 x.V.length)],[(0,.row 72 (aC (x.P++(x.U++(x.V++x.Q)))))],1⟩) (fun x=>x.P.length+x.U.length=m∧0<x.U.length∧0<x.V.length∧x.P.length+x.U.length+x.V.length+x.Q.length=N∧x.P++(x.V++(x.U++x.Q))=R) (fun x=>x.U.length+x.V.length) ⟨P,U,V,Q⟩ ?_ ⟨hm.symm,hU,hV,hT,hR⟩ fun x hx=>?_
 ·refine aS.bG 1 rfl (Nat.le_refl 1) ?_ ?_<;>simp only [go_sem,Int.natCast_succ,aI,aC]
 clear hR hT hU hV i1 i2 ha hm hb
 obtain ⟨P,U,V,Q⟩:=x
 obtain ⟨hm,hU,hV,hT,hR⟩:=hx
 dsimp only at hm hU hV hT hR ⊢
 have j1:(m:Int) - (U.length:Int)=(P.length:Int):=by omega
 rcases Nat.lt_trichotomy V.length U.length with hlt|heq|hgt
 ·have hr:P++(U++(V++Q))=P++(U.take V.length++(U.drop V.length++(V++Q))):=by
   rw [←List.append_assoc (U.take V.length),List.take_append_drop]
  have k:=nS P (U.take V.length) (U.drop V.length) V Q V.length P.length m F (by simp;omega) rfl rfl (by simp;omega) (by simp;omega)
  rw [hr]
  have j2:(U.length:Int) - (V.length:Int)=((U.drop V.length).length:Int):=by rw [List.length_drop];omega
  have j3:(V.length:Int)=((U.take V.length).length:Int):=by rw [List.length_take];omega
  have hR':(P++V)++(U.take V.length++(U.drop V.length++Q))=R:=by
   rw [←hR]
   rw [List.append_assoc,←List.append_assoc (U.take V.length),List.take_append_drop]
  have hl1:(U.take V.length).length=V.length:=by simp;omega
  have hl2:(U.drop V.length).length=U.length - V.length:=by simp
  have hne:¬(U.length:Int)=(V.length:Int):=by omega
  have hgt:(U.length:Int) > (V.length:Int):=by omega
  have hgt:(V.length:Int)<(U.length:Int):=by omega
  generalize U.take V.length=U1 at *
  generalize U.drop V.length=U2 at *
  have ha:(P++V)++(U2++(U1++Q))=P++(V++(U2++(U1++Q))):=by simp
  (repeat' with_reducible first|intro _|refine rz ?_|refine ra ?_ ?_|omega|simp only [go_sem,j1,hne])
  refine aj.io [0] k (by decide) (by simp [bZ,ren,bV]) rfl (by simp [bU,bV,lk,Item.ren,Item.below,aC,bg,ak]) bQ 1 (by decide) rfl (by simp [bn,Item.below,aC,ak]) ?_
  (repeat' with_reducible first|intro _|refine rz ?_|refine ra ?_ ?_|omega|simp only [go_sem,S.je,aW,bV,dF,Item.ren,aC,List.getElem?_cons_zero,List.getElem?_cons_succ,List.getElem?_nil,List.filter,j1,j2])
  refine ⟨⟨P++V,U2,U1,Q⟩,aS.bG 1 rfl (Nat.le_refl 1) ?_ ?_,⟨by simp;omega,by dsimp only;omega,by dsimp only;omega,by simp;omega,hR'⟩,by dsimp only;omega⟩
  ·simp only [go_sem,Int.natCast_succ,aI,aC,ha,hl1]
  ·simp only [go_sem,Int.natCast_succ,aI,aC,ha,hl1]
 ·have k:dD Tryd.prog 76 [.own 0,.int .i64 P.length,.int .i64 m,.int .i64 U.length,.fn F []] [(0,.row 72 (aC (P++(U++(V++Q)))))] 1 (.tup []) [(0,.row 72 (aC (P++(V++(U++Q)))))]:=nS P U [] V Q U.length P.length m F rfl heq rfl (by simp;omega) (by simp;omega)
  have he:(U.length:Int)=(V.length:Int):=by omega
  have hv:(V.length:Int)=(U.length:Int):=by omega
  rw [hR] at k
  (repeat' with_reducible first|intro _|refine rz ?_|refine ra ?_ ?_|omega|simp only [go_sem,j1,hv])
  refine aj.io [0] k (by decide) (by simp [bZ,ren,bV]) rfl (by simp [bU,bV,lk,Item.ren,Item.below,aC,bg,ak]) bQ 1 (by decide) rfl (by simp [bn,Item.below,aC,ak]) ?_
  (repeat' with_reducible first|intro _|refine rz ?_|refine ra ?_ ?_|omega|simp only [go_sem,S.je,aW,bV,dF,Item.ren,aC,List.getElem?_cons_zero,List.getElem?_cons_succ,List.getElem?_nil,List.filter])
  refine dN.auto 1 (Nat.le_refl 1) ?_ rfl ?_<;>simp only [go_sem,Int.natCast_succ,aI,aC]
 ·have j2:(V.length:Int) - (U.length:Int)=((V.take (V.length - U.length)).length:Int):=by rw [List.length_take];omega
  have j3:(m:Int)+(V.length:Int) - (U.length:Int)=((m+(V.take (V.length - U.length)).length:Nat):Int):=by rw [List.length_take];omega
  have hr:P++(U++(V++Q))=P++(U++(V.take (V.length - U.length)++(V.drop (V.length - U.length)++Q))):=by
   rw [←List.append_assoc (V.take _),List.take_append_drop]
  have k:=nS P U (V.take (V.length - U.length)) (V.drop (V.length - U.length)) Q U.length P.length (m+(V.take (V.length - U.length)).length) F rfl (by simp;omega) rfl (by omega) (by simp;omega)
  rw [hr]
  have hR':P++(V.take (V.length - U.length)++(V.drop (V.length - U.length)++(U++Q)))=R:=by
   rw [←hR,←List.append_assoc (V.take _),List.take_append_drop]
  have hl1:(V.take (V.length - U.length)).length=V.length - U.length:=by rw [List.length_take];omega
  have hl2:(V.drop (V.length - U.length)).length=U.length:=by simp;omega
  have hne:¬(U.length:Int)=(V.length:Int):=by omega
  generalize V.take (V.length - U.length)=V1 at *
  generalize V.drop (V.length - U.length)=V2 at *
  (repeat' with_reducible first|intro _|refine rz ?_|refine ra ?_ ?_|omega|simp only [go_sem,j1,j3,hne])
  refine aj.io [0] k (by decide) (by simp [bZ,ren,bV]) rfl (by simp [bU,bV,lk,Item.ren,Item.below,aC,bg,ak]) bQ 1 (by decide) rfl (by simp [bn,Item.below,aC,ak]) ?_
  (repeat' with_reducible first|intro _|refine rz ?_|refine ra ?_ ?_|omega|simp only [go_sem,S.je,aW,bV,dF,Item.ren,aC,List.getElem?_cons_zero,List.getElem?_cons_succ,List.getElem?_nil,List.filter,j2])
  refine ⟨⟨P,V2,V1,U++Q⟩,aS.bG 1 rfl (Nat.le_refl 1) ?_ ?_,⟨by dsimp only;omega,by dsimp only;omega,by dsimp only;omega,by simp;omega,hR'⟩,by dsimp only;omega⟩
  ·simp only [go_sem,Int.natCast_succ,aI,aC,hl2]
  ·simp only [go_sem,Int.natCast_succ,aI,aC,hl2]
end Go.Fv.L
/- The stable sort of rails: the walk of a merge, where one side has one element. -/
namespace Go.Fv.L
open Go Go.Proofs
theorem lJ (x y:Nat):Ll .u64 ((x:Int)+(y:Int)) 1=(((x+y) / 2:Nat):Int):=by
 show Int.fdiv _ 2=_
 rw [Int.fdiv_eq_ediv_of_nonneg _ (by decide)];omega
set_option maxHeartbeats 16000000 in
theorem Gl (F:Nat) (hF:vk F) (P V Q:List Pl) (x:Pl) (a m b:Nat) (ha:a=P.length) (hm:m=P.length+1) (hb:b=P.length+1+V.length) (hV:o7 V) (hS:eF (x::V)) (hN:P.length+1+V.length+Q.length≤1000000) :
  dD Tryd.prog 65 [.own 0,.int .i64 a,.int .i64 m,.int .i64 b,.fn F []] [(0,.row 72 (aC (P++([x]++(V++Q)))))] 1 (.tup []) [(0,.row 72 (aC (P++(aO (x::V)++Q))))]:=by
 refine dD.aY Tryd.func65 rfl (by decide) (by simp [Tryd.f65]) bQ [] rfl fun w0 T0 _=>?_
 simp only [Tryd.f65,aK]
 generalize hR:aO (x::V)=R
 have i1:(m:Int) - (a:Int)=1:=by omega
 have hWl:(P++([x]++(V++Q))).length=P.length+1+V.length+Q.length:=by simp;omega
 have eV:∀ g,g<V.length→((P++([x]++(V++Q))).map Pl.av).getD (m+g) []=[.int .i64 (gd V g).a1,.int .i64 (gd V g).a2,.int .i64 (gd V g).a3,.int .i64 (gd V g).a4,.bool (gd V g).dn,.int .i64 (gd V g).c,.int .i64 (gd V g).d]:=fun g hg=>by
  rw [fA _ (by omega)]
  have:=jY (P:=P) (U:=[x]) Q (V:=V) (i:=g) (k:=m+g) (by simp;omega) hg
  unfold gd at this ⊢
  rw [this]
 have ex:((P++([x]++(V++Q))).map Pl.av).getD a []=[.int .i64 x.a1,.int .i64 x.a2,.int .i64 x.a3,.int .i64 x.a4,.bool x.dn,.int .i64 x.c,.int .i64 x.d]:=by
  rw [fA _ (by omega)]
  have:=lD (P:=P) (V++Q) (U:=[x]) (i:=0) (k:=a) (by omega) (by simp)
  unfold gd at this
  rw [this];rfl
 have hW0:P++([x]++(V++Q))=P++((V.take 0++x::V.drop 0)++Q):=by simp
 generalize hW:P++([x]++(V++Q))=W at *
 have hWm:(W.map Pl.av).length=P.length+1+V.length+Q.length:=by rw [List.length_map];exact hWl
 (repeat' with_reducible first|intro _|refine ry ?_|refine ra ?_ ?_|omega|simp only [go_sem,i1])
 refine aJ.intro (fun y:Nat × Nat=>⟨220,[(0,.own 0),(1,.int .i64 a),(2,.int .i64 m),(3,.int .i64 b),(4,.fn F []),(10,.int .i64 (m+y.1:Nat)),(11,.int .i64 (m+y.2:Nat))],[(0,.row 72 (aC W))],1⟩) (fun y=>y.1≤y.2∧y.2≤V.length∧(∀ i,i<y.1→i<V.length→dS (gd V i) x)∧(∀ i,y.2≤i→i<V.length→¬dS (gd V i) x)) (fun y=>y.2 - y.1) (0,V.length) ?_ ⟨Nat.zero_le _,Nat.le_refl _,fun i h=>by omega,fun i h1 h2=>by omega⟩ fun y hy=>?_
 ·refine aS.bG 1 rfl (Nat.le_refl 1) ?_ ?_<;>simp only [go_sem,Int.natCast_succ,aI,aC]
  all_goals omega
 obtain ⟨al,be⟩:=y
 obtain ⟨h1,h2,h3,h4⟩:=hy
 dsimp only at h1 h2 h3 h4 ⊢
 by_cases hij:al<be
 ·have hsh:=lJ (m+al) (m+be)
  have hmid:(m+al+(m+be)) / 2=m+(al+be) / 2:=by omega
  rw [hmid] at hsh
  have hm1:al≤(al+be) / 2:=by omega
  have hm2:(al+be) / 2<be:=by omega
  have eg:=eV ((al+be) / 2) (by omega)
  have kc:=hF (gd V ((al+be) / 2)) x
  generalize hgm:(al+be) / 2=g at *
  have hc1:((m+al:Nat):Int)<((m+be:Nat):Int):=by omega
  (repeat' with_reducible first|intro _|refine ry ?_|refine ra ?_ ?_|omega|simp only [go_sem,hc1])
  refine dh.Fb (gJ.2 (by omega)) ?_
  rw [hsh]
  (repeat' with_reducible first|intro _|refine ry ?_|refine ra ?_ ?_|omega|simp only [go_sem,Int.toNat_natCast])
  refine aP.lex [] [] (by kernel_rfl) (by kernel_rfl) ?_
  by_cases hlt0:dS (gd V g) x
  ·have hcn:=vC hlt0
   have hinv:g+1≤be∧be≤V.length∧(∀ i,i<g+1→i<V.length→dS (gd V i) x)∧(∀ i,be≤i→i<V.length→¬dS (gd V i) x):=⟨by omega,h2,fun i hi hl=>by
    have:=eX hV (i:=i) (j:=g) (by omega) (by omega)
    unfold dS at *;omega,h4⟩
   generalize qo (gd V g) x=cv at *
   generalize gd V g=v at *
   (repeat' with_reducible first|intro _|refine ry ?_|refine ra ?_ ?_|omega|simp only [go_sem,Int.toNat_natCast,aN,eg,ex,aC])
   refine QV.intro (.int .i64 cv) ?_ ?_
   ·(repeat' with_reducible first|intro _|refine ry ?_|refine ra ?_ ?_|omega|simp only [go_sem,Int.toNat_natCast,aN,eg,ex,aC])
    refine aj.k kc ?_
    (repeat' with_reducible first|intro _|refine ry ?_|refine ra ?_ ?_|omega|simp only [go_sem,aC])
   (repeat' with_reducible first|intro _|refine ry ?_|refine ra ?_ ?_|omega|simp only [go_sem,hcn,aC])
   refine ⟨(g+1,be),aS.bG 1 rfl (Nat.le_refl 1) ?_ ?_,hinv,by dsimp only;omega⟩<;>simp only [go_sem,Int.natCast_succ,aI,aC]
   all_goals omega
  ·have hcn:=vF hlt0
   have hinv:al≤g∧g≤V.length∧(∀ i,i<al→i<V.length→dS (gd V i) x)∧(∀ i,g≤i→i<V.length→¬dS (gd V i) x):=⟨hm1,by omega,h3,fun i hi hl=>by
    have:=eX hV (i:=g) (j:=i) hi hl
    exact gB hlt0 this⟩
   generalize qo (gd V g) x=cv at *
   generalize gd V g=v at *
   (repeat' with_reducible first|intro _|refine ry ?_|refine ra ?_ ?_|omega|simp only [go_sem,Int.toNat_natCast,aN,eg,ex,aC])
   refine QV.intro (.int .i64 cv) ?_ ?_
   ·(repeat' with_reducible first|intro _|refine ry ?_|refine ra ?_ ?_|omega|simp only [go_sem,Int.toNat_natCast,aN,eg,ex,aC])
    refine aj.k kc ?_
    (repeat' with_reducible first|intro _|refine ry ?_|refine ra ?_ ?_|omega|simp only [go_sem,aC])
   (repeat' with_reducible first|intro _|refine ry ?_|refine ra ?_ ?_|omega|simp only [go_sem,hcn,aC])
   refine ⟨(al,g),aS.bG 1 rfl (Nat.le_refl 1) ?_ ?_,hinv,by dsimp only;omega⟩<;>simp only [go_sem,Int.natCast_succ,aI,aC]
 have e:be=al:=by omega
 subst e
 have hend:V.take be++x::V.drop be=R:=by rw [←hR];exact yP hV hS h3 h4
 have hc1:¬((m+be:Nat):Int)<((m+be:Nat):Int):=by omega
 have m1:((m+be:Nat):Int) - 1=((a+be:Nat):Int):=by omega
 clear h3 h4 hij
 (repeat' with_reducible first|intro _|refine ry ?_|refine ra ?_ ?_|omega|simp only [go_sem,hc1])
 refine aJ.intro (fun k:Nat=>⟨220,[(0,.own 0),(1,.int .i64 a),(2,.int .i64 m),(3,.int .i64 b),(4,.fn F []),(10,.int .i64 (m+be:Nat)),(13,.int .i64 (a+k:Nat))],[(0,.row 72 (aC (P++((V.take k++x::V.drop k)++Q))))],1⟩) (fun k=>k≤be) (fun k=>be - k) 0 ?_ (Nat.zero_le _) fun k hk=>?_
 ·refine aS.bG 1 rfl (Nat.le_refl 1) ?_ ?_<;>simp only [go_sem,Int.natCast_succ,aI,aC,hW0]
 have hlk:(P++((V.take k++x::V.drop k)++Q)).length=P.length+1+V.length+Q.length:=by simp;omega
 by_cases hkb:k<be
 ·have hkl:k<V.length:=by omega
  have hsw:zU ((P++((V.take k++x::V.drop k)++Q)).map Pl.av) ((P++((V.take (k+1)++x::V.drop (k+1))++Q)).map Pl.av) (a+k) (a+(k+1)) x (gd V k):=by
   refine Eu (A:=P++V.take k) (B:=[]) (C:=V.drop (k+1)++Q) ?_ ?_ ?_ ?_
   ·rw [List.drop_eq_getElem_cons hkl,←fJ hkl];simp
   ·rw [List.take_succ_eq_append_getElem hkl,←fJ hkl];simp
   ·simp;omega
   ·simp;omega
  obtain ⟨hl,hl',e1,e2,s1,s2,t1,t2⟩:=hsw
  generalize gd V k=v at *
  have hc2:((a+k:Nat):Int)<((a+be:Nat):Int):=by omega
  have n1:((a+k:Nat):Int)+1=((a+(k+1):Nat):Int):=by omega
  generalize P++((V.take k++x::V.drop k)++Q)=W1 at *
  generalize hW2:P++((V.take (k+1)++x::V.drop (k+1))++Q)=W2 at *
  (repeat' with_reducible first|intro _|refine ry ?_|refine ra ?_ ?_|omega|simp only [go_sem,m1,hc2,n1,aC])
  refine aP.lex [15,17] [(2,[1]),(3,[1]),(4,[1])] (by kernel_rfl) (by kernel_rfl) ?_
  (repeat' with_reducible first|intro _|refine ry ?_|refine ra ?_ ?_|omega|simp only [go_sem,m1,hc2,n1,aC,Int.toNat_natCast,aN,e1,e2,s1,s2,t1,t2])
  refine ⟨k+1,aS.bG 1 rfl (Nat.le_refl 1) ?_ ?_,by omega,by omega⟩<;>simp only [go_sem,Int.natCast_succ,aI,aC,n1,hW2]
 ·have e:k=be:=by omega
  subst e
  rw [hend]
  have hc2:¬((a+k:Nat):Int)<((a+k:Nat):Int):=by omega
  (repeat' with_reducible first|intro _|refine ry ?_|refine ra ?_ ?_|omega|simp only [go_sem,m1,hc2])
  refine dN.auto 1 (Nat.le_refl 1) ?_ rfl ?_<;>simp only [go_sem,Int.natCast_succ,aI,aC]
end Go.Fv.L
/- The stable sort of rails: the walk of a merge, where the second side has one element. -/
namespace Go.Fv.L
open Go Go.Proofs
set_option maxHeartbeats 16000000 in
theorem Jv (F:Nat) (hF:vk F) (P U Q:List Pl) (y:Pl) (a m b:Nat) (ha:a=P.length) (hm:m=P.length+U.length) (hb:b=P.length+U.length+1) (h2U:2≤U.length) (hU:o7 U) (hS:eF (U++[y])) (hN:P.length+U.length+1+Q.length≤1000000) :
  dD Tryd.prog 65 [.own 0,.int .i64 a,.int .i64 m,.int .i64 b,.fn F []] [(0,.row 72 (aC (P++(U++([y]++Q)))))] 1 (.tup []) [(0,.row 72 (aC (P++(aO (U++[y])++Q))))]:=by
 refine dD.aY Tryd.func65 rfl (by decide) (by simp [Tryd.f65]) bQ [] rfl fun w0 T0 _=>?_
 simp only [Tryd.f65,aK]
 generalize hR:aO (U++[y])=R
 have i1:¬(m:Int) - (a:Int)=1:=by omega
 have i2:(b:Int) - (m:Int)=1:=by omega
 have hWl:(P++(U++([y]++Q))).length=P.length+U.length+1+Q.length:=by simp;omega
 have eU:∀ g,g<U.length→((P++(U++([y]++Q))).map Pl.av).getD (a+g) []=[.int .i64 (gd U g).a1,.int .i64 (gd U g).a2,.int .i64 (gd U g).a3,.int .i64 (gd U g).a4,.bool (gd U g).dn,.int .i64 (gd U g).c,.int .i64 (gd U g).d]:=fun g hg=>by
  rw [fA _ (by omega)]
  have:=lD (P:=P) ([y]++Q) (U:=U) (i:=g) (k:=a+g) (by omega) hg
  unfold gd at this ⊢
  rw [this]
 have ey:((P++(U++([y]++Q))).map Pl.av).getD m []=[.int .i64 y.a1,.int .i64 y.a2,.int .i64 y.a3,.int .i64 y.a4,.bool y.dn,.int .i64 y.c,.int .i64 y.d]:=by
  rw [fA _ (by omega)]
  have:=jY (P:=P) (U:=U) Q (V:=[y]) (i:=0) (k:=m) (by omega) (by simp)
  unfold gd at this
  rw [this];rfl
 have hW0:P++(U++([y]++Q))=P++((U.take U.length++y::U.drop U.length)++Q):=by simp
 generalize hW:P++(U++([y]++Q))=W at *
 have hWm:(W.map Pl.av).length=P.length+U.length+1+Q.length:=by rw [List.length_map];exact hWl
 (repeat' with_reducible first|intro _|refine ry ?_|refine ra ?_ ?_|omega|simp only [go_sem,i1,i2])
 refine aJ.intro (fun z:Nat × Nat=>⟨220,[(0,.own 0),(1,.int .i64 a),(2,.int .i64 m),(3,.int .i64 b),(4,.fn F []),(14,.int .i64 (a+z.1:Nat)),(15,.int .i64 (a+z.2:Nat))],[(0,.row 72 (aC W))],1⟩) (fun z=>z.1≤z.2∧z.2≤U.length∧(∀ i,i<z.1→i<U.length→¬dS y (gd U i))∧(∀ i,z.2≤i→i<U.length→dS y (gd U i))) (fun z=>z.2 - z.1) (0,U.length) ?_ ⟨Nat.zero_le _,Nat.le_refl _,fun i h=>by omega,fun i h1 h2=>by omega⟩ fun z hz=>?_
 ·refine aS.bG 1 rfl (Nat.le_refl 1) ?_ ?_<;>simp only [go_sem,Int.natCast_succ,aI,aC]
  all_goals omega
 obtain ⟨al,be⟩:=z
 obtain ⟨h1,h2,h3,h4⟩:=hz
 dsimp only at h1 h2 h3 h4 ⊢
 by_cases hij:al<be
 ·have hsh:=lJ (a+al) (a+be)
  have hmid:(a+al+(a+be)) / 2=a+(al+be) / 2:=by omega
  rw [hmid] at hsh
  have hm1:al≤(al+be) / 2:=by omega
  have hm2:(al+be) / 2<be:=by omega
  have eg:=eU ((al+be) / 2) (by omega)
  have kc:=hF y (gd U ((al+be) / 2))
  generalize hgm:(al+be) / 2=g at *
  have hc1:((a+al:Nat):Int)<((a+be:Nat):Int):=by omega
  (repeat' with_reducible first|intro _|refine ry ?_|refine ra ?_ ?_|omega|simp only [go_sem,hc1])
  refine dh.Fb (gJ.2 (by omega)) ?_
  rw [hsh]
  (repeat' with_reducible first|intro _|refine ry ?_|refine ra ?_ ?_|omega|simp only [go_sem,Int.toNat_natCast])
  refine aP.lex [] [] (by kernel_rfl) (by kernel_rfl) ?_
  by_cases hlt0:dS y (gd U g)
  ·have hcn:=vC hlt0
   have hinv:al≤g∧g≤U.length∧(∀ i,i<al→i<U.length→¬dS y (gd U i))∧(∀ i,g≤i→i<U.length→dS y (gd U i)):=⟨hm1,by omega,h3,fun i hi hl=>by
    have:=eX hU (i:=g) (j:=i) hi hl
    unfold dS at *;omega⟩
   generalize qo y (gd U g)=cv at *
   generalize gd U g=v at *
   (repeat' with_reducible first|intro _|refine ry ?_|refine ra ?_ ?_|omega|simp only [go_sem,Int.toNat_natCast,aN,eg,ey,aC])
   refine QV.intro (.int .i64 cv) ?_ ?_
   ·(repeat' with_reducible first|intro _|refine ry ?_|refine ra ?_ ?_|omega|simp only [go_sem,Int.toNat_natCast,aN,eg,ey,aC])
    refine aj.k kc ?_
    (repeat' with_reducible first|intro _|refine ry ?_|refine ra ?_ ?_|omega|simp only [go_sem,aC])
   (repeat' with_reducible first|intro _|refine ry ?_|refine ra ?_ ?_|omega|simp only [go_sem,hcn,aC])
   refine ⟨(al,g),aS.bG 1 rfl (Nat.le_refl 1) ?_ ?_,hinv,by dsimp only;omega⟩<;>simp only [go_sem,Int.natCast_succ,aI,aC]
  ·have hcn:=vF hlt0
   have hinv:g+1≤be∧be≤U.length∧(∀ i,i<g+1→i<U.length→¬dS y (gd U i))∧(∀ i,be≤i→i<U.length→dS y (gd U i)):=⟨by omega,h2,fun i hi hl=>by
    have:=eX hU (i:=i) (j:=g) (by omega) (by omega)
    exact gB this hlt0,h4⟩
   generalize qo y (gd U g)=cv at *
   generalize gd U g=v at *
   (repeat' with_reducible first|intro _|refine ry ?_|refine ra ?_ ?_|omega|simp only [go_sem,Int.toNat_natCast,aN,eg,ey,aC])
   refine QV.intro (.int .i64 cv) ?_ ?_
   ·(repeat' with_reducible first|intro _|refine ry ?_|refine ra ?_ ?_|omega|simp only [go_sem,Int.toNat_natCast,aN,eg,ey,aC])
    refine aj.k kc ?_
    (repeat' with_reducible first|intro _|refine ry ?_|refine ra ?_ ?_|omega|simp only [go_sem,aC])
   (repeat' with_reducible first|intro _|refine ry ?_|refine ra ?_ ?_|omega|simp only [go_sem,hcn,aC])
   refine ⟨(g+1,be),aS.bG 1 rfl (Nat.le_refl 1) ?_ ?_,hinv,by dsimp only;omega⟩<;>simp only [go_sem,Int.natCast_succ,aI,aC]
   all_goals omega
 have e:be=al:=by omega
 subst e
 have hend:U.take be++y::U.drop be=R:=by rw [←hR];exact Bc hU hS h3 h4
 have hc1:¬((a+be:Nat):Int)<((a+be:Nat):Int):=by omega
 have hma:(m:Int)=((a+U.length:Nat):Int):=by omega
 clear h3 h4 hij
 (repeat' with_reducible first|intro _|refine ry ?_|refine ra ?_ ?_|omega|simp only [go_sem,hc1])
 refine aJ.intro (fun k:Nat=>⟨220,[(0,.own 0),(1,.int .i64 a),(2,.int .i64 m),(3,.int .i64 b),(4,.fn F []),(14,.int .i64 (a+be:Nat)),(17,.int .i64 (a+k:Nat))],[(0,.row 72 (aC (P++((U.take k++y::U.drop k)++Q))))],1⟩) (fun k=>be≤k∧k≤U.length) (fun k=>k) U.length ?_ ⟨h2,Nat.le_refl _⟩ fun k hk=>?_
 ·refine aS.bG 1 rfl (Nat.le_refl 1) ?_ ?_<;>simp only [go_sem,Int.natCast_succ,aI,aC,hW0,hma]
 obtain ⟨hk1,hk2⟩:=hk
 by_cases hkb:be<k
 ·obtain ⟨k,rfl⟩:∃ k',k=k'+1:=⟨k - 1,by omega⟩
  have hkl:k<U.length:=by omega
  have hlk:(P++((U.take (k+1)++y::U.drop (k+1))++Q)).length=P.length+U.length+1+Q.length:=by simp;omega
  have hsw:zU ((P++((U.take (k+1)++y::U.drop (k+1))++Q)).map Pl.av) ((P++((U.take k++y::U.drop k)++Q)).map Pl.av) (a+k) (a+(k+1)) (gd U k) y:=by
   refine Eu (A:=P++U.take k) (B:=[]) (C:=U.drop (k+1)++Q) ?_ ?_ ?_ ?_
   ·rw [List.take_succ_eq_append_getElem hkl,←fJ hkl];simp
   ·rw [List.drop_eq_getElem_cons hkl,←fJ hkl];simp
   ·simp;omega
   ·simp;omega
  obtain ⟨hl,hl',e1,e2,s1,s2,t1,t2⟩:=hsw
  generalize gd U k=v at *
  have hc2:((a+be:Nat):Int)<((a+(k+1):Nat):Int):=by omega
  have n1:((a+(k+1):Nat):Int) - 1=((a+k:Nat):Int):=by omega
  generalize hW2:P++((U.take k++y::U.drop k)++Q)=W2 at *
  generalize P++((U.take (k+1)++y::U.drop (k+1))++Q)=W1 at *
  (repeat' with_reducible first|intro _|refine ry ?_|refine ra ?_ ?_|omega|simp only [go_sem,hc2,n1,aC])
  refine aP.lex [15,17] [(2,[1]),(3,[1]),(4,[1])] (by kernel_rfl) (by kernel_rfl) ?_
  (repeat' with_reducible first|intro _|refine ry ?_|refine ra ?_ ?_|omega|simp only [go_sem,hc2,n1,aC,Int.toNat_natCast,aN,e1,e2,s1,s2,t1,t2])
  refine ⟨k,aS.bG 1 rfl (Nat.le_refl 1) ?_ ?_,⟨by omega,by omega⟩,by omega⟩<;>simp only [go_sem,Int.natCast_succ,aI,aC,n1,hW2]
 ·have e:k=be:=by omega
  subst e
  rw [hend]
  have hc2:¬((a+k:Nat):Int)<((a+k:Nat):Int):=by omega
  (repeat' with_reducible first|intro _|refine ry ?_|refine ra ?_ ?_|omega|simp only [go_sem,hc2])
  refine dN.auto 1 (Nat.le_refl 1) ?_ rfl ?_<;>simp only [go_sem,Int.natCast_succ,aI,aC]
end Go.Fv.L
