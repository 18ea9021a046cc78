/-
  A part of the proof of the claim: walks over the program's functions and the plain laws that these need. No condition of its own.
-/
import Derived.Test.YtodlgmmbfbiilaaGreatDoorHTopPkCardPart9
import Derived.Test.YtodlgmmbfbiilaaGreatDoorHTopPkCardPart3
import Derived.Test.YtodlgmmbfbiilaaGreatDoorFvPart10
import Derived.Test.YtodlgmmbfbiilaaGreatDoorHTopPkCardPart1
import Derived.Test.YtodlgmmbfbiilaaGreatDoorHTopPkCardPart6
import Derived.Test.YtodlgmmbfbiilaaGreatDoorHTopPkCardPart8
set_option linter.unusedSimpArgs false
set_option linter.unusedVariables false
set_option linter.unnecessarySimpa false
set_option maxRecDepth 8000
/- Regions: the walk. -/
namespace Go.Fv.H
open Go Go.Proofs
theorem Yq {a b k:Bool} (h:(a || decide ¬b=k)=true):a=true∨(b == k)=false:=by revert h;cases a<;>cases b<;>cases k<;>simp
theorem Yp {a b k:Bool} (h:(a || decide ¬b=k)=false):¬(a=true∨(b == k)=false):=by revert h;cases a<;>cases b<;>cases k<;>simp
theorem Z9 {a b k cor:Bool} {P Q:Prop} [Decidable P] [Decidable Q] (h:(a || decide ¬b=k || !cor && decide ¬P && decide ¬Q)=true):(cor=false∧¬P∧¬Q)∨(a=true∨(b == k)=false):=by
 revert h
 by_cases hp:P<;>by_cases hq:Q<;>cases a<;>cases b<;>cases k<;>cases cor<;>simp [hp,hq]
theorem Z8 {a b k cor:Bool} {P Q:Prop} [Decidable P] [Decidable Q] (h:(a || decide ¬b=k || !cor && decide ¬P && decide ¬Q)=false):¬(cor=false∧¬P∧¬Q)∧¬(a=true∨(b == k)=false):=by
 revert h
 by_cases hp:P<;>by_cases hq:Q<;>cases a<;>cases b<;>cases k<;>cases cor<;>simp [hp,hq]
set_option maxHeartbeats 8000000 in
theorem MS (w h:Nat) (hw1:1≤w) (hw:w≤1000) (hh1:1≤h) (hh:h≤1000) (p:List Bool) (hp:p.length=w*h) (ink cor:Bool) :
  aC Tryz.prog 126 [.agg [.int .i64 w,.int .i64 h,.ro (.bools p)],.bool ink,.bool cor] (.own 0) [(0,.row 36 (.objs 1 ((pieces ⟨p,w,h,ink,cor⟩).map Rf)))]:=by
 have hn:w*h≤1000*1000:=Nat.mul_le_mul hw hh
 have hst:qC (FN.ok ⟨p,w,h,ink,cor⟩) (w*h) (Xr ⟨p,w,h,ink,cor⟩):=JK ⟨p,w,h,ink,cor⟩
 have hRl:(pieces ⟨p,w,h,ink,cor⟩).length≤w*h:=pieces_len ⟨p,w,h,ink,cor⟩
 have hpt:∀ c0 s x y v u,RInv (FN.ok ⟨p,w,h,ink,cor⟩) (w*h) c0 s→(0≤u∧u<(w:Int))→(0≤v∧v<(h:Int))→RInv (FN.ok ⟨p,w,h,ink,cor⟩) (w*h) c0 (RS.pt ⟨p,w,h,ink,cor⟩ x y v s u)∧Dt s (RS.pt ⟨p,w,h,ink,cor⟩ x y v s u):=
  fun c0 s x y v u hs hu hv=>Uo (g:=⟨p,w,h,ink,cor⟩) hs hu hv
 generalize hg:(⟨p,w,h,ink,cor⟩:FN)=g at *
 generalize hR:pieces g=R at *
 refine aC.aJ Tryz.func126 rfl (by decide) (by simp [Tryz.f126]) [.tmp 6] rfl fun w0 T0 _=>?_
 simp only [Tryz.f126,aB]
 (repeat' with_reducible first|intro _|refine rz ?_|refine ra ?_ ?_|omega|simp only [go_sem,hp])
 refine aI.intro (fun x:Nat × List Bool × List (List Int)=>⟨137,[(24,.int .i64 (x.1:Nat)),(23,.int .i64 (w*h:Nat)),(8,.own 2),(7,.own 1),(3,.ptr 0 0),(1,.bool ink),(2,.bool cor)],[(0,.box 24 [.int .i64 w,.int .i64 h,.ro (.bools p)]),(1,.row 4 (.bools x.2.1)),(2,.row 36 (.objs 1 (x.2.2.map Rf)))],3⟩) (fun x=>x.1≤w*h∧tK g.ok (w*h) x.1 x.2.1∧x.2.2++regs g.ok (Xr g) (w*h) (w*h - x.1) x.1 x.2.1=R) (fun x=>w*h - x.1) (0,List.replicate (w*h) false,[]) ?_ ⟨Nat.zero_le _,tK.zero _ _,?_⟩ fun x hx=>?_
 ·refine aO.ak rfl ?_ ?_<;>simp only [go_sem,Int.natCast_succ,List.map_nil,Int.toNat_natCast]
 ·subst hg
  dsimp only
  rw [Nat.sub_zero,List.nil_append]
  exact hR
 obtain ⟨i,seen,D⟩:=x
 obtain ⟨hi,hS,hD⟩:=hx
 dsimp only at hi hS hD ⊢
 have hsl:=hS.len
 by_cases hlt:i<w*h
 ·obtain ⟨m,hm⟩:∃ m,w*h - i=m+1:=⟨w*h - i - 1,by omega⟩
  have hm':w*h - (i+1)=m:=by omega
  have hok:g.ok i=(p.getD i false == ink):=by subst hg;rfl
  rw [hm] at hD
  simp only [regs] at hD
  (repeat' with_reducible first|intro _|refine rz ?_|refine ra ?_ ?_|omega|simp only [go_sem,Int.toNat_natCast,hsl,hp])
  refine aW.g ?_ (fun h=>⟨h,by omega⟩)
  refine Ite.bool (fun hc=>?_) (fun hc=>?_)
  ·have hs:seen.getD i false=true∨g.ok i=false:=by rw [hok];exact Yq hc
   rw [if_pos hs] at hD
   (repeat' with_reducible first|intro _|exact dn|refine rn ?_|refine ra ?_ ?_)
   refine ⟨(i+1,seen,D),aO.ak rfl ?_ ?_,⟨by omega,hS.skip hs,by dsimp only;rw [hm'];exact hD⟩,by dsimp only;omega⟩<;>simp only [go_sem,Int.natCast_succ]
  ·have hs:¬(seen.getD i false=true∨g.ok i=false):=by rw [hok];exact Yp hc
   rw [if_neg hs] at hD
   have hI:=hS.start hlt hs
   obtain ⟨hS2,hO2,_⟩:=hS.region hst hlt hs (w*h)
   generalize hF:Ig (Xr g) (w*h) 0 ⟨seen.set i true,[(i:Int)]⟩=F at *
   generalize seen.count true=c0 at *
   (repeat' with_reducible first|intro _|refine rz ?_|refine ra ?_ ?_|omega|simp only [go_sem,Int.toNat_natCast,hsl,hp])
   refine aI.intro (fun x:Nat × RS=>⟨137,[(11,.int .i64 (x.1:Nat)),(10,.own 3),(24,.int .i64 (i:Nat)),(23,.int .i64 (w*h:Nat)),(8,.own 2),(7,.own 1),(3,.ptr 0 0),(1,.bool ink),(2,.bool cor)],[(0,.box 24 [.int .i64 w,.int .i64 h,.ro (.bools p)]),(1,.row 4 (.bools x.2.seen)),(2,.row 36 (.objs 1 (D.map Rf))),(3,.row 3 (.ints .i64 x.2.l))],4⟩) (fun x=>x.1≤x.2.l.length∧RInv g.ok (w*h) c0 x.2∧Ig (Xr g) (w*h - x.1) x.1 x.2=F) (fun x=>w*h - x.1) (0,⟨seen.set i true,[(i:Int)]⟩) ?_ ⟨Nat.zero_le _,hI,hF⟩ fun x hx=>?_
   ·refine aO.ak rfl ?_ ?_<;>simp only [go_sem,Int.natCast_succ]
   obtain ⟨k,s⟩:=x
   obtain ⟨hk,hI,hF⟩:=hx
   dsimp only at hk hI hF ⊢
   have hll:=hI.le
   have hDl:D.length≤w*h:=by
    rw [←hD,List.length_append] at hRl
    omega
   by_cases hlk:k<s.l.length
   ·obtain ⟨hb1,hb2⟩:=hI.bd _ (getD_mem hlk)
    obtain ⟨m2,hm2⟩:∃ m2,w*h - k=m2+1:=⟨w*h - k - 1,by omega⟩
    have hm2':w*h - (k+1)=m2:=by omega
    rw [hm2,RD _ hlk] at hF
    obtain ⟨c,hc⟩:∃ c:Nat,s.l.getD k 0=c:=⟨(s.l.getD k 0).toNat,by omega⟩
    rw [hc] at hF hb2
    obtain ⟨⟨_,hx2⟩,_,hy2⟩:=Zl (g:=g) (c:=c) (by omega) (by subst hg;exact hb2)
    have hgw:g.w=w:=by subst hg;rfl
    have hgh:g.h=h:=by subst hg;rfl
    rw [hgw] at hx2 hy2
    rw [hgh] at hy2
    have ex:(c:Int)%(w:Int)=((c%w:Nat):Int):=rfl
    have ey:(c:Int) / (w:Int)=((c / w:Nat):Int):=rfl
    rw [ex] at hx2
    rw [ey] at hy2
    generalize hQ:Xr g s (c:Int)=Q at *
    unfold Xr at hQ
    rw [hgw,hgh,ex,ey] at hQ
    generalize hx0:c%w=x at *
    generalize hy0:c / w=y at *
    (repeat' with_reducible first|intro _|refine rz ?_|refine ra ?_ ?_|omega|simp only [go_sem,Int.toNat_natCast])
    refine bC.lex [] [] (by kernel_rfl) (by kernel_rfl) ?_
    (repeat' with_reducible first|intro _|refine rz ?_|refine ra ?_ ?_|omega|simp only [go_sem,Int.toNat_natCast,hc,up_tmod,up_tdiv,nT,hx0,hy0])
    have ha1:lo3 (y:Int)=max ((y:Int) - 1) 0:=rfl
    have ha2:hi3 (y:Int) h=min ((y:Int)+1) ((h:Int) - 1):=rfl
    have ha3:lo3 (x:Int)=max ((x:Int) - 1) 0:=rfl
    have ha4:hi3 (x:Int) w=min ((x:Int)+1) ((w:Int) - 1):=rfl
    refine aI.intro (fun z:Int × RS=>⟨137,[(14,.int .i64 z.1),(13,.int .i64 (y:Nat)),(12,.int .i64 (x:Nat)),(11,.int .i64 (k:Nat)),(10,.own 3),(24,.int .i64 (i:Nat)),(23,.int .i64 (w*h:Nat)),(8,.own 2),(7,.own 1),(3,.ptr 0 0),(1,.bool ink),(2,.bool cor)],[(0,.box 24 [.int .i64 w,.int .i64 h,.ro (.bools p)]),(1,.row 4 (.bools z.2.seen)),(2,.row 36 (.objs 1 (D.map Rf))),(3,.row 3 (.ints .i64 z.2.l))],4⟩) (fun z=>lo3 y≤z.1∧z.1≤hi3 y h+1∧RInv g.ok (w*h) c0 z.2∧k<z.2.l.length∧(rng z.1 (hi3 y h+1 - z.1).toNat).foldl (RS.row g x y (QH x w)) z.2=Q) (fun z=>(hi3 y h+1 - z.1).toNat) (lo3 y,s) ?_ ⟨by dsimp only;omega,by dsimp only;omega,hI,hlk,hQ⟩ fun z hz=>?_
    ·refine aO.ak rfl ?_ ?_<;>simp only [go_sem,Int.natCast_succ,ha1]
    obtain ⟨v,t⟩:=z
    obtain ⟨hv1,hv2,hIt,hkt,hrest⟩:=hz
    dsimp only at hv1 hv2 hIt hkt hrest ⊢
    have hlt2:=hIt.le
    by_cases hv:v≤hi3 y h
    ·obtain ⟨m3,hm3⟩:∃ m3,(hi3 y h+1 - v).toNat=m3+1:=⟨(hi3 y h+1 - v).toNat - 1,by omega⟩
     have hm3':(hi3 y h+1 - (v+1)).toNat=m3:=by omega
     rw [hm3] at hrest
     simp only [rng,List.foldl_cons] at hrest
     have hv0:0≤v∧v<(h:Int):=by omega
     have hvw0:0≤v*(w:Int):=Int.mul_nonneg hv0.1 (by omega)
     have hvw1:v*(w:Int)≤1000*1000:=Int.mul_le_mul (by omega) (by omega) (by omega) (by omega)
     obtain ⟨hI3,hL3⟩:=O4 (g:=g) (s:=t) (c0:=c0) (x:=x) (y:=y) (v:=v) (us:=QH x w) (by rw [hgw,hgh];exact hIt) (fun u hu=>by rw [hgw];exact Ce hu) (by rw [hgh];exact hv0)
     rw [hgw,hgh] at hI3
     have hl3:=hL3.len
     generalize hQ2:RS.row g x y (QH x w) t v=Q2 at *
     unfold RS.row at hQ2
     (repeat' with_reducible first|intro _|refine rz ?_|refine ra ?_ ?_|omega|simp only [go_sem,Int.toNat_natCast,nT])
     refine aI.intro (fun z:Int × RS=>⟨137,[(15,.int .i64 z.1),(14,.int .i64 v),(13,.int .i64 (y:Nat)),(12,.int .i64 (x:Nat)),(11,.int .i64 (k:Nat)),(10,.own 3),(24,.int .i64 (i:Nat)),(23,.int .i64 (w*h:Nat)),(8,.own 2),(7,.own 1),(3,.ptr 0 0),(1,.bool ink),(2,.bool cor)],[(0,.box 24 [.int .i64 w,.int .i64 h,.ro (.bools p)]),(1,.row 4 (.bools z.2.seen)),(2,.row 36 (.objs 1 (D.map Rf))),(3,.row 3 (.ints .i64 z.2.l))],4⟩) (fun z=>lo3 x≤z.1∧z.1≤hi3 x w+1∧RInv g.ok (w*h) c0 z.2∧(rng z.1 (hi3 x w+1 - z.1).toNat).foldl (RS.pt g x y v) z.2=Q2) (fun z=>(hi3 x w+1 - z.1).toNat) (lo3 x,t) ?_ ⟨by dsimp only;omega,by dsimp only;omega,hIt,hQ2⟩ fun z hz=>?_
     ·refine aO.ak rfl ?_ ?_<;>simp only [go_sem,Int.natCast_succ,ha3]
     clear hlt2
     obtain ⟨u,t⟩:=z
     obtain ⟨hu1,hu2,hIu,hrest2⟩:=hz
     dsimp only at hu1 hu2 hIu hrest2 ⊢
     have hlu:=hIu.le
     have hsu:=hIu.len
     by_cases hu:u≤hi3 x w
     ·obtain ⟨m4,hm4⟩:∃ m4,(hi3 x w+1 - u).toNat=m4+1:=⟨(hi3 x w+1 - u).toNat - 1,by omega⟩
      have hm4':(hi3 x w+1 - (u+1)).toNat=m4:=by omega
      rw [hm4] at hrest2
      simp only [rng,List.foldl_cons] at hrest2
      have hu0:0≤u∧u<(w:Int):=by omega
      obtain ⟨hc1,hc2,hc3⟩:=cell_lt hu0 hv0
      have hI4:=(hpt c0 t x y v u hIu hu0 hv0).1
      obtain ⟨q,hq⟩:∃ q:Nat,v*(w:Int)+u=q:=⟨(v*(w:Int)+u).toNat,by omega⟩
      have hqn:q<w*h:=by omega
      have hRS:RS.pt g x y v t u=if cor=false∧u≠x∧v≠y then t else t.vis g.ok q:=by
       unfold RS.pt
       rw [hgw,hq,Int.toNat_natCast]
       subst hg
       rfl
      have hokq:g.ok q=(p.getD q false == ink):=by subst hg;rfl
      rw [hRS] at hI4 hrest2
      unfold RS.vis at hI4 hrest2
      rw [hokq] at hI4 hrest2
      (repeat' with_reducible first|intro _|refine rz ?_|refine ra ?_ ?_|omega|simp only [go_sem,Int.toNat_natCast,nT,hq,hp])
      refine aW.g (aW.g (aW.g (Ite.bool (fun hc=>?_) (fun hc=>?_)) (fun h=>⟨h,fun h2=>⟨h,h2⟩⟩)) (fun h=>⟨h,fun h2=>⟨h,h2⟩⟩)) (fun h=>⟨h,by omega⟩)
      ·have e:(if cor=false∧u≠x∧v≠y then t else if t.seen.getD q false=true∨(p.getD q false == ink)=false then t else ⟨t.seen.set q true,t.l++[(q:Int)]⟩)=t:=by
        rcases Z9 hc with h1|h1
        ·exact if_pos h1
        ·rw [if_pos h1,ite_self]
       rw [e] at hI4 hrest2
       (repeat' with_reducible first|intro _|refine rz ?_|refine ra ?_ ?_|omega|simp only [go_sem,Int.toNat_natCast,nT,hq,hp])
       refine ⟨(u+1,t),aO.ak rfl ?_ ?_,⟨by dsimp only;omega,by dsimp only;omega,hI4,by dsimp only;rw [hm4'];exact hrest2⟩,by dsimp only;omega⟩<;>simp only [go_sem,Int.natCast_succ]
      ·obtain ⟨h1,h2⟩:=Z8 hc
       rw [if_neg h1,if_neg h2] at hI4 hrest2
       (repeat' with_reducible first|intro _|refine rz ?_|refine ra ?_ ?_|omega|simp only [go_sem,Int.toNat_natCast,nT,hq,hp,hsu])
       refine ⟨(u+1,⟨t.seen.set q true,t.l++[(q:Int)]⟩),aO.ak rfl ?_ ?_,⟨by dsimp only;omega,by dsimp only;omega,hI4,by dsimp only;rw [hm4'];exact hrest2⟩,by dsimp only;omega⟩<;>simp only [go_sem,Int.natCast_succ]
     ·have eu:u=hi3 x w+1:=by omega
      subst eu
      rw [show (hi3 (x:Int) (w:Int)+1 - (hi3 (x:Int) (w:Int)+1)).toNat=0 by omega] at hrest2
      have e:t=Q2:=hrest2
      subst e
      (repeat' with_reducible first|intro _|refine rz ?_|refine ra ?_ ?_|omega|simp only [go_sem,Int.toNat_natCast,nT])
      refine ⟨(v+1,t),aO.ak rfl ?_ ?_,⟨by dsimp only;omega,by dsimp only;omega,hI3,by dsimp only;omega,by dsimp only;rw [hm3'];exact hrest⟩,by dsimp only;omega⟩<;>simp only [go_sem,Int.natCast_succ]
    ·have ev:v=hi3 y h+1:=by omega
     subst ev
     rw [show (hi3 (y:Int) (h:Int)+1 - (hi3 (y:Int) (h:Int)+1)).toNat=0 by omega] at hrest
     have e:t=Q:=hrest
     subst e
     (repeat' with_reducible first|intro _|refine rz ?_|refine ra ?_ ?_|omega|simp only [go_sem,Int.toNat_natCast,nT])
     refine ⟨(k+1,t),aO.ak rfl ?_ ?_,⟨by dsimp only;omega,hIt,by dsimp only;rw [hm2'];exact hF⟩,by dsimp only;omega⟩<;>simp only [go_sem,Int.natCast_succ]
   ·have e:F=s:=by rw [←hF,Vt _ _ _ _ hlk]
    subst e
    (repeat' with_reducible first|intro _|exact dn|refine rn ?_|refine ra ?_ ?_)
    refine ⟨(i+1,F.seen,D++[F.l]),aO.ak rfl ?_ ?_,⟨by omega,hS2,by dsimp only;rw [hm',List.append_assoc];exact hD⟩,by dsimp only;omega⟩<;>simp only [go_sem,Int.natCast_succ,List.map_append,Rf]
 ·have e:i=w*h:=by omega
  subst e
  rw [Nat.sub_self] at hD
  simp only [regs,List.append_nil] at hD
  subst hD
  (repeat' with_reducible first|intro _|exact dn|refine rn ?_|refine ra ?_ ?_)
  refine bf.auto 1 ?_ rfl ?_<;>simp only [go_sem,Int.natCast_succ,Post]
end Go.Fv.H
/- Pixels of regions that are chosen change their colour, in plain words. -/
namespace Go.Fv.H
open Go
def IL (v:Bool) (p:List Bool) (l:List Int):List Bool:=l.foldl (fun p i=>p.set i.toNat v) p
theorem RZ (v:Bool) (p:List Bool) (l:List Int) (i:Int):IL v p (l++[i])=(IL v p l).set i.toNat v:=by simp [IL]
theorem FW (v:Bool):∀ (l:List Int) (p:List Bool),(IL v p l).length=p.length
 | [],p=>rfl
 | i::l,p=>by
  show (IL v (p.set i.toNat v) l).length=_
  rw [FW v l,List.length_set]
structure CS where
 p:List Bool
 n:Nat
def CS.step (v:Bool) (sel:List Int→Bool) (s:CS) (l:List Int):CS:=if sel l=true then ⟨IL v s.p l,s.n+1⟩ else s
def gQ (v:Bool) (sel:List Int→Bool) (p:List Bool) (R:List (List Int)):CS:=R.foldl (CS.step v sel) ⟨p,0⟩
theorem IK (v:Bool) (sel:List Int→Bool) (p:List Bool) (R:List (List Int)) (l:List Int):gQ v sel p (R++[l])=CS.step v sel (gQ v sel p R) l:=by simp [gQ]
theorem Ak (v:Bool) (sel:List Int→Bool) (p:List Bool) (R:List (List Int)):(gQ v sel p R).p.length=p.length∧(gQ v sel p R).n≤R.length:=by
 unfold gQ
 have key:∀ (R:List (List Int)) (s:CS),(R.foldl (CS.step v sel) s).p.length=s.p.length∧(R.foldl (CS.step v sel) s).n≤s.n+R.length:=by
  intro R
  induction R with
  | nil=>intro s;exact ⟨rfl,Nat.le_refl _⟩
  | cons l R ih=>
   intro s
   obtain ⟨h1,h2⟩:=ih (CS.step v sel s l)
   have h3:(CS.step v sel s l).p.length=s.p.length∧(CS.step v sel s l).n≤s.n+1:=by
    unfold CS.step
    split
    ·exact ⟨FW _ _ _,Nat.le_refl _⟩
    ·exact ⟨rfl,Nat.le_succ _⟩
   refine ⟨h1.trans h3.1,?_⟩
   rw [List.foldl_cons,List.length_cons]
   omega
 have:=key R ⟨p,0⟩
 exact ⟨this.1,by have:=this.2;simpa using this⟩
def rG (most:Int) (l:List Int):Bool:=decide ((l.length:Int)≤most)
theorem QN {α:Type} {n i:Nat} (q:Nat→α) (d:α) (h:i<n):((List.range i).map q++List.replicate (n - i) d).set i (q i)=(List.range (i+1)).map q++List.replicate (n - (i+1)) d:=by
 have e:n - i=(n - (i+1))+1:=by omega
 rw [e,List.replicate_succ,List.set_append_right _ _ (by simp),List.range_succ,List.map_append]
 simp
def sumTo (f:Nat→Int):Nat→Int
 | 0=>0
 | n+1=>sumTo f n+f n
def tab (v:Nat→Int) (w x y:Nat):Int:=sumTo (fun j=>sumTo (fun i=>v (j*w+i)) x) y
open Go Go.Proofs
theorem AX {w h:Nat} (hw1:1≤w) (hw:w≤1000) (hh1:1≤h) (hh:h≤1000) {n:Nat} (hn:n=w*h):jq w h n=0:=by
 have hm:w*h≤1000*1000:=Nat.mul_le_mul hw hh
 unfold jq
 rw [qc (by omega) (by omega) (by omega) (by omega) (by rw [up_mul];omega),hn,up_mul]
 simp
set_option maxHeartbeats 1000000 in
theorem Vu (w h:Nat) (hw:w≤4000) (hh:h≤4000) (f:Nat) (caps:List AV) [qA caps] (q:Nat→Bool) (hq:∀ i:Nat,i<w*h→dG Tryz.prog f ([.int .i64 i]++caps) (.bool (q i)) []) :
  aC Tryz.prog 124 [.int .i64 w,.int .i64 h,.fn f caps] (.agg [.int .i64 w,.int .i64 h,.own 0]) [(0,.row 4 (.bools ((List.range (w*h)).map q)))]:=by
 have hwh:w*h≤4000*4000:=Nat.mul_le_mul hw hh
 have hc:((w:Int)*h)=((w*h:Nat):Int):=(Int.natCast_mul w h).symm
 generalize hn:w*h=n at hwh hc hq ⊢
 refine aC.aJ Tryz.func124 rfl (by decide) (by simp [Tryz.f124]) [.cell 6 24] rfl fun w0 T0 _=>?_
 simp only [Tryz.f124,aB]
 simp only [go_sem,hc]
 (repeat' first|(with_reducible refine yH.intro fun _=>?_)|((with_reducible refine aW.intro ?_ ?_);(· first|omega|(with_reducible refine aW.intro ?_ ?_<;>omega)|(simp;done)|(simp;omega)))|((with_reducible refine bZ.i64 ?_ ?_ ?_);(· omega);(· omega))|((with_reducible refine Ite.decide (fun _=>?_) (fun _=>?_))<;>first|(exfalso;omega)|simp only [go_sem])|((with_reducible refine Ite.bool (fun _=>?_) (fun _=>?_))<;>simp only [go_sem])|(with_reducible refine And.intro ?_ ?_))
 refine aI.intro (fun i:Nat=>⟨31,[(19,.int .i64 i),(18,.int .i64 n),(7,.ptr 2 0),(6,.ptr 0 0),(2,.fn f caps)],[(2,.box 24 [.int .i64 w,.int .i64 h,.own 1]),(0,.box 24 [.int .i64 0,.int .i64 0,.nilS]),(1,.row 4 (.bools ((List.range i).map q++List.replicate (n - i) false)))],3⟩) (fun i=>i≤n) (fun i=>n - i) 0 ?_ (Nat.zero_le _) fun i hi=>?_
 ·refine aO.ak rfl ?_ ?_<;>simp only [go_sem,Int.natCast_succ,List.range_zero,List.map_nil,Nat.sub_zero,Int.toNat_natCast]
 simp only [go_sem]
 (repeat' first|(with_reducible refine yH.intro fun _=>?_)|((with_reducible refine aW.intro ?_ ?_);(· first|omega|(with_reducible refine aW.intro ?_ ?_<;>omega)|(simp;done)|(simp;omega)))|((with_reducible refine bZ.i64 ?_ ?_ ?_);(· omega);(· omega))|((with_reducible refine Ite.decide (fun _=>?_) (fun _=>?_))<;>first|(exfalso;omega)|simp only [go_sem])|((with_reducible refine Ite.bool (fun _=>?_) (fun _=>?_))<;>simp only [go_sem])|(with_reducible refine And.intro ?_ ?_))
 ·refine bC.lex [7] [] (by kernel_rfl) (by kernel_rfl) ?_
  simp only [go_sem]
  (repeat' first|(with_reducible refine yH.intro fun _=>?_)|((with_reducible refine aW.intro ?_ ?_);(· first|omega|(with_reducible refine aW.intro ?_ ?_<;>omega)|(simp;done)|(simp;omega)))|((with_reducible refine bZ.i64 ?_ ?_ ?_);(· omega);(· omega))|((with_reducible refine Ite.decide (fun _=>?_) (fun _=>?_))<;>first|(exfalso;omega)|simp only [go_sem])|((with_reducible refine Ite.bool (fun _=>?_) (fun _=>?_))<;>simp only [go_sem])|(with_reducible refine And.intro ?_ ?_))
  refine QV.intro (.bool (q i)) ?_ ?_
  ·simp only [go_sem]
   refine ah.fr (args':=[.int .i64 i]++caps) (hq i (by omega)) (by simp [aU,bD,aH,Ah]) 0 rfl (by simp [iq]) ?_
   simp only [go_sem]
  ·have hs:=QN (n:=n) q false (show i<n by omega)
   simp only [go_sem,List.length_map,List.length_range,hs]
   (repeat' first|(with_reducible refine yH.intro fun _=>?_)|((with_reducible refine aW.intro ?_ ?_);(· first|omega|(with_reducible refine aW.intro ?_ ?_<;>omega)|(simp;done)|(simp;omega)))|((with_reducible refine bZ.i64 ?_ ?_ ?_);(· omega);(· omega))|((with_reducible refine Ite.decide (fun _=>?_) (fun _=>?_))<;>first|(exfalso;omega)|simp only [go_sem])|((with_reducible refine Ite.bool (fun _=>?_) (fun _=>?_))<;>simp only [go_sem])|(with_reducible refine And.intro ?_ ?_))
   refine ⟨i+1,aO.ak rfl ?_ ?_,by omega,by omega⟩<;>simp only [go_sem,Int.natCast_succ]
   all_goals first|rfl|rw [List.range_succ]
 ·have e:i=n:=by omega
  subst e
  refine bf.auto 1 ?_ rfl ?_<;>simp only [go_sem,Int.natCast_succ,Post]
  all_goals simp only [go_sem]
end Go.Fv.H
/- Boxes of pixels; regions that are chosen change: the walk. -/
namespace Go.Fv.H
open Go Go.Proofs
theorem CG {l:List Int} {k:Nat} (h:k<l.length):l.take (k+1)=l.take k++[l.getD k 0]:=by
 rw [List.take_succ_eq_append_getElem h,getD_lt h]
theorem KR.take {w h:Nat} {l:List Int} (hb:KR w h l) (k:Nat):KR w h (l.take k):=fun i hi=>hb i (List.mem_of_mem_take hi)
theorem RQ {w h:Nat} {l:List Int} (hb:KR w h l):(0≤yV w l∧yV w l≤w)∧(0≤Kv w h l∧Kv w h l≤h)∧(-1≤uK w l∧uK w l≤w)∧(-1≤Lc w l∧Lc w l≤h):=by
 have hbd:=fun i hi=>U4 (hb i hi).1 (hb i hi).2
 have a1:=LY (fun i=>i%(w:Int)) l w
 have a2:=LY (fun i=>i / (w:Int)) l h
 have a3:=Md (fun i=>i%(w:Int)) l (-1)
 have a4:=Md (fun i=>i / (w:Int)) l (-1)
 change (∀ m,m≤yV w l↔_) at a1
 change (∀ m,m≤Kv w h l↔_) at a2
 change (∀ m,uK w l≤m↔_) at a3
 change (∀ m,Lc w l≤m↔_) at a4
 refine ⟨⟨(a1 0).2 ⟨by omega,fun i hi=>(hbd i hi).1.1⟩,((a1 _).1 (Int.le_refl _)).1⟩,⟨(a2 0).2 ⟨by omega,fun i hi=>(hbd i hi).2.1⟩,((a2 _).1 (Int.le_refl _)).1⟩,⟨((a3 _).1 (Int.le_refl _)).1,(a3 _).2 ⟨by omega,fun i hi=>by have:=(hbd i hi).1.2;(try dsimp only);omega⟩⟩,⟨((a4 _).1 (Int.le_refl _)).1,(a4 _).2 ⟨by omega,fun i hi=>by have:=(hbd i hi).2.2;(try dsimp only);omega⟩⟩⟩
set_option maxHeartbeats 4000000 in
theorem RJ (w h:Nat) (hw:w≤4000) (hh:h≤4000) (hw1:1≤w) (p:List Bool) (l:List Int) (hb:KR w h l) :
  aC Tryz.prog 127 [.agg [.int .i64 w,.int .i64 h,.ro (.bools p)],.ro (.ints .i64 l)] (.agg (IB w h l).av) []:=by
 obtain ⟨⟨g1,g2⟩,⟨g3,g4⟩,⟨g5,g6⟩,⟨g7,g8⟩⟩:=RQ hb
 refine aC.aJ Tryz.func127 rfl (by decide) (by simp [Tryz.f127]) [.cell 4 58] rfl fun w0 T0 _=>?_
 simp only [Tryz.f127,aB]
 (repeat' with_reducible first|intro _|exact dn|refine rn ?_|refine ra ?_ ?_)
 refine bC.lex [] [] (by kernel_rfl) (by kernel_rfl) ?_
 (repeat' with_reducible first|intro _|exact dn|refine rn ?_|refine ra ?_ ?_)
 refine aI.intro (fun k:Nat=>⟨55,[(19,.int .i64 k),(18,.int .i64 l.length),(17,.ro (.ints .i64 l)),(5,.int .i64 (yV w (l.take k))),(6,.int .i64 (Kv w h (l.take k))),(7,.int .i64 (uK w (l.take k))),(8,.int .i64 (Lc w (l.take k))),(2,.ptr 0 0),(4,.ptr 1 0)],[(0,.box 24 [.int .i64 w,.int .i64 h,.ro (.bools p)]),(1,.box 58 [.int .i64 0,.int .i64 0,.int .i64 0,.int .i64 0])],2⟩) (fun k=>k≤l.length) (fun k=>l.length - k) 0 ?_ (Nat.zero_le _) fun k hk=>?_
 ·refine aO.ak rfl ?_ ?_<;>simp only [go_sem,Int.natCast_succ,yV,Kv,uK,Lc,Wu,Wx,List.foldl_nil]
 by_cases hlt:k<l.length
 ·obtain ⟨b1,b2⟩:=hb _ (getD_mem hlt)
  have hts:=CG hlt
  have hx:(l.getD k 0).tmod w=l.getD k 0%w:=Int.tmod_eq_emod_of_nonneg b1
  have hy:(l.getD k 0).tdiv w=l.getD k 0 / w:=Int.tdiv_eq_ediv_of_nonneg b1
  have hxy:=U4 b1 b2
  (repeat' with_reducible first|intro _|refine rz ?_|refine ra ?_ ?_|omega|simp only [go_sem,Int.toNat_natCast])
  refine bC.lex [] [] (by kernel_rfl) (by kernel_rfl) ?_
  (repeat' with_reducible first|intro _|refine rz ?_|refine ra ?_ ?_|omega|simp only [go_sem,Int.toNat_natCast,hx,hy,nT])
  refine ⟨k+1,aO.ak rfl ?_ ?_,by omega,by omega⟩<;>simp only [go_sem,Int.natCast_succ,hts,yV,Kv,uK,Lc,TS,TT]
 ·have e:k=l.length:=by omega
  subst e
  rw [List.take_length]
  (repeat' with_reducible first|intro _|exact dn|refine rn ?_|refine ra ?_ ?_)
  refine bf.auto 0 ?_ rfl ?_<;>simp only [go_sem,Int.natCast_succ,Post,Bx.av,IB]
theorem Nk (l:List Int) (b:Bx) (most:Int) :
  aC Tryz.prog 94 [.ro (.ints .i64 l),.agg b.av,.cell [.int .i64 most]] (.bool (rG most l)) []:=by
 unfold Bx.av rG
 refine aC.aJ Tryz.func94 rfl (by decide) (by simp [Tryz.f94]) [.tmp 5] rfl fun w0 T0 _=>?_
 simp only [Tryz.f94,aB]
 (repeat' with_reducible first|intro _|exact dn|refine rn ?_|refine ra ?_ ?_)
 refine bf.auto 0 ?_ rfl ?_<;>simp only [go_sem,Int.natCast_succ,Post]
theorem II (W H:Int) (p:List Bool) (i:Nat) (hi:i<p.length) :
  aC Tryz.prog 125 [.int .i64 i,.cell [.int .i64 W,.int .i64 H,.ro (.bools p)]] (.bool (p.getD i false)) []:=by
 refine aC.aJ Tryz.func125 rfl (by decide) (by simp [Tryz.f125]) [.tmp 3] rfl fun w0 T0 _=>?_
 simp only [Tryz.f125,aB]
 (repeat' with_reducible first|intro _|exact dn|refine rn ?_|refine ra ?_ ?_)
 refine bf.auto 0 ?_ rfl ?_<;>simp only [go_sem,Int.natCast_succ,Post,Int.toNat_natCast]
theorem YV (p:List Bool) {n:Nat} (h:p.length=n):(List.range n).map (fun i=>p.getD i false)=p:=by
 subst h
 refine List.ext_getElem (by simp) fun k h1 h2=>?_
 simp [h2]
set_option maxHeartbeats 8000000 in
theorem IJ (w h:Nat) (hw1:1≤w) (hw:w≤1000) (hh1:1≤h) (hh:h≤1000) (p:List Bool) (hp:p.length=w*h) (ink cor:Bool) (f:Nat) (caps:List AV) [qA caps] (most:Int) (hm:most<0∨1048576<most) :
  aC Tryz.prog 93 [.agg [.int .i64 w,.int .i64 h,.ro (.bools p)],.int .i64 most,.bool ink,.bool cor,.fn f caps] (.tup [.agg [.int .i64 0,.int .i64 0,.nilS],.int .i64 0,.int .i64 3]) []:=by
 refine aC.aJ Tryz.func93 rfl (by decide) (by simp [Tryz.f93]) [.cell 10 24,.tmp 11,.tmp 12] rfl fun w0 T0 _=>?_
 simp only [Tryz.f93,aB]
 (repeat' with_reducible first|intro _|exact dn|refine rn ?_|refine ra ?_ ?_)
 refine ah.k (jk w h p) ?_
 rw [AX hw1 hw hh1 hh hp]
 (repeat' with_reducible first|intro _|exact dn|refine rn ?_|refine ra ?_ ?_)
 refine bf.auto 0 ?_ ?_ ?_<;>simp only [go_sem,Int.natCast_succ,Post]
set_option maxHeartbeats 8000000 in
theorem Lh (w h:Nat) (hw1:1≤w) (hw:w≤1000) (hh1:1≤h) (hh:h≤1000) (p:List Bool) (hp:p.length=w*h) (ink cor:Bool) (f:Nat) (caps:List AV) [qA caps] (sel:List Int→Bool) (most:Int) (hm:0≤most∧most≤1048576)
  (hsel:∀ l,KR w h l→dG Tryz.prog f ([.ro (.ints .i64 l),.agg (IB w h l).av]++caps) (.bool (sel l)) []) :
  aC Tryz.prog 93 [.agg [.int .i64 w,.int .i64 h,.ro (.bools p)],.int .i64 most,.bool ink,.bool cor,.fn f caps]
   (.tup [.agg [.int .i64 w,.int .i64 h,.own 0],.int .i64 (gQ (!ink) sel p (pieces ⟨p,w,h,ink,cor⟩)).n,.int .i64 0]) [(0,.row 4 (.bools (gQ (!ink) sel p (pieces ⟨p,w,h,ink,cor⟩)).p))]:=by
 haveI c1:qA [.cell [.int .i64 w,.int .i64 h,.ro (.bools p)]]:=⟨rfl⟩
 have k1:=Vu w h (by omega) (by omega) 125 [.cell [.int .i64 w,.int .i64 h,.ro (.bools p)]] (fun i=>p.getD i false) (fun i hi=>dG.gJ (II w h p i (by omega)) rfl rfl)
 rw [YV p hp] at k1
 have k2:=MS w h hw1 hw hh1 hh p hp ink cor
 have hn:w*h≤1000*1000:=Nat.mul_le_mul hw hh
 have hin:∀ l,l∈pieces ⟨p,w,h,ink,cor⟩→KR w h l∧l.length≤w*h:=fun l hl=>by
  obtain ⟨j,hj,ho⟩:=Qs _ l hl
  exact ⟨fun i hi=>by have:=ho.bd i hi;dsimp only at this;omega,ho.le⟩
 have hRl:(pieces ⟨p,w,h,ink,cor⟩).length≤w*h:=pieces_len _
 generalize pieces ⟨p,w,h,ink,cor⟩=R at *
 refine aC.aJ Tryz.func93 rfl (by decide) (by simp [Tryz.f93]) [.cell 10 24,.tmp 11,.tmp 12] rfl fun w0 T0 _=>?_
 simp only [Tryz.f93,aB]
 (repeat' with_reducible first|intro _|exact dn|refine rn ?_|refine ra ?_ ?_)
 refine ah.k (jk w h p) ?_
 rw [AX hw1 hw hh1 hh hp]
 (repeat' with_reducible first|intro _|exact dn|refine rn ?_|refine ra ?_ ?_)
 refine ah.o k1 1 ?_
 (repeat' with_reducible first|intro _|exact dn|refine rn ?_|refine ra ?_ ?_)
 refine ah.YO (.ro (.objs 1 (R.map Rf))) k2 (by simp only [aT,aU,dO,bD,aH,List.drop_zero,lk,reduceIte,reduceCtorEq,Nat.reduceEqDiff,Option.some.injEq,Item.row.injEq,Item.box.injEq,AV.ro.injEq,exists_eq_left,exists_and_left,exists_eq_left',exists_eq_right,and_assoc,and_true,true_and,List.cons.injEq,exists_eq',exists_eq]) (by simp [fK,dO,aH,lk,aT]) rfl ?_
 (repeat' with_reducible first|intro _|exact dn|refine rn ?_|refine ra ?_ ?_)
 refine aI.intro (fun k:Nat=>⟨72,[(44,.int .i64 k),(43,.int .i64 R.length),(42,.ro (.objs 1 (R.map Rf))),(15,.int .i64 (gQ (!ink) sel p (R.take k)).n),(14,.ptr 2 0),(10,.ptr 1 0),(5,.ptr 0 0),(4,.fn f caps),(2,.bool ink)],[(0,.box 24 [.int .i64 w,.int .i64 h,.ro (.bools p)]),(1,.box 24 [.int .i64 0,.int .i64 0,.nilS]),(2,.box 24 [.int .i64 w,.int .i64 h,.own 3]),(3,.row 4 (.bools (gQ (!ink) sel p (R.take k)).p))],4⟩) (fun k=>k≤R.length) (fun k=>R.length - k) 0 ?_ (Nat.zero_le _) fun k hk=>?_
 ·refine aO.ak rfl ?_ ?_<;>simp only [go_sem,Int.natCast_succ,gQ,List.foldl_nil]
 by_cases hlt:k<R.length
 ·have hel:=X6 R hlt
  have hts:R.take (k+1)=R.take k++[R.getD k []]:=by rw [List.take_succ_eq_append_getElem hlt,getD_lt hlt]
  obtain ⟨hb,hll⟩:=hin (R.getD k []) (by rw [getD_lt hlt];exact List.getElem_mem hlt)
  have hcl:=Ak (!ink) sel p (R.take k)
  have hcs:=IK (!ink) sel p (R.take k) (R.getD k [])
  rw [←hts] at hcs
  rw [List.length_take] at hcl
  generalize gQ (!ink) sel p (R.take k)=C at *
  generalize R.getD k []=l at *
  have ks:=hsel l hb
  have kb:=RJ w h (by omega) (by omega) hw1 p l hb
  generalize IB w h l=b at *
  unfold CS.step at hcs
  obtain ⟨P,n⟩:=C
  dsimp only at hcl hcs
  (repeat' with_reducible first|intro _|refine rz ?_|refine ra ?_ ?_|omega|simp only [go_sem,dY,hel])
  refine ah.k kb ?_
  unfold Bx.av at *
  (repeat' with_reducible first|intro _|refine rz ?_|refine ra ?_ ?_|omega|simp only [go_sem,dY,hel])
  refine ah.fr (args':=[.ro (.ints .i64 l),.agg [.int .i64 b.x,.int .i64 b.y,.int .i64 b.w,.int .i64 b.h]]++caps) ks (by simp [aU,bD,aH,Ah]) 0 rfl (by simp [iq]) ?_
  generalize sel l=sl at *
  cases sl
  ·rw [if_neg (by decide)] at hcs
   (repeat' with_reducible first|intro _|exact dn|refine rn ?_|refine ra ?_ ?_)
   refine ⟨k+1,aO.ak rfl ?_ ?_,by omega,by omega⟩<;>simp only [go_sem,Int.natCast_succ,hcs]
  ·rw [if_pos rfl] at hcs
   (repeat' with_reducible first|intro _|exact dn|refine rn ?_|refine ra ?_ ?_)
   refine aI.intro (fun m:Nat=>⟨72,[(58,.int .i64 m),(57,.int .i64 l.length),(56,.ro (.ints .i64 l)),(44,.int .i64 k),(43,.int .i64 R.length),(42,.ro (.objs 1 (R.map Rf))),(15,.int .i64 (n+1:Nat)),(14,.ptr 2 0),(10,.ptr 1 0),(5,.ptr 0 0),(4,.fn f caps),(2,.bool ink)],[(0,.box 24 [.int .i64 w,.int .i64 h,.ro (.bools p)]),(1,.box 24 [.int .i64 0,.int .i64 0,.nilS]),(2,.box 24 [.int .i64 w,.int .i64 h,.own 3]),(3,.row 4 (.bools (IL (!ink) P (l.take m))))],4⟩) (fun m=>m≤l.length) (fun m=>l.length - m) 0 ?_ (Nat.zero_le _) fun m hm=>?_
   ·refine aO.ak rfl ?_ ?_<;>simp only [go_sem,Int.natCast_succ,IL,List.foldl_nil]
   by_cases hml:m<l.length
   ·obtain ⟨b1,b2⟩:=hb _ (getD_mem hml)
    have hms:=CG hml
    have hpl:=FW (!ink) (l.take m) P
    have hsn:=RZ (!ink) P (l.take m) (l.getD m 0)
    rw [←hms] at hsn
    (repeat' with_reducible first|intro _|refine rz ?_|refine ra ?_ ?_|omega|simp only [go_sem,Int.toNat_natCast])
    refine ⟨m+1,aO.ak rfl ?_ ?_,by omega,by omega⟩<;>simp only [go_sem,Int.natCast_succ,hsn]
   ·have e:m=l.length:=by omega
    subst e
    rw [List.take_length]
    (repeat' with_reducible first|intro _|exact dn|refine rn ?_|refine ra ?_ ?_)
    refine ⟨k+1,aO.ak rfl ?_ ?_,by omega,by omega⟩<;>simp only [go_sem,Int.natCast_succ,hcs]
 ·have e:k=R.length:=by omega
  subst e
  rw [List.take_length]
  (repeat' with_reducible first|intro _|exact dn|refine rn ?_|refine ra ?_ ?_)
  refine bf.auto 1 ?_ rfl ?_<;>simp only [go_sem,Int.natCast_succ,Post]
end Go.Fv.H
/- slices.IndexFunc and ContainsFunc of integers. -/
namespace Go.Fv.H
open Go Go.Proofs
end Go.Fv.H
/- The reference's Specks, Holes and Border: the walk. -/
namespace Go.Fv.H
open Go Go.Proofs
end Go.Fv.H
/- The law PiecesGo. -/
namespace Go.Fv.H
open Go Go.Proofs
set_option maxHeartbeats 4000000 in
theorem Nl (w h:Nat) (hw1:1≤w) (hw:w≤1000) (hh1:1≤h) (hh:h≤1000) (p:List Bool) (hp:p.length=w*h) (most:Int) (hm:most<0∨1048576<most) :
  aC Tryz.prog 48 [.agg [.int .i64 w,.int .i64 h,.ro (.bools p)],.int .i64 most] (.tup [.agg [.int .i64 0,.int .i64 0,.nilS],.int .i64 0,.int .i64 3]) []:=by
 haveI c1:qA [.cell [.int .i64 most]]:=⟨rfl⟩
 have k:=IJ w h hw1 hw hh1 hh p hp true true 94 [.cell [.int .i64 most]] most hm
 refine aC.aJ Tryz.func48 rfl (by decide) (by simp [Tryz.f48]) [.cell 4 24,.tmp 5,.tmp 6] rfl fun w0 T0 _=>?_
 simp only [Tryz.f48,aB]
 (repeat' with_reducible first|intro _|exact dn|refine rn ?_|refine ra ?_ ?_)
 refine ah.k k ?_
 (repeat' with_reducible first|intro _|exact dn|refine rn ?_|refine ra ?_ ?_)
 refine bf.auto 0 ?_ ?_ ?_<;>simp only [go_sem,Int.natCast_succ,Post]
set_option maxHeartbeats 4000000 in
theorem QW (w h:Nat) (hw1:1≤w) (hw:w≤1000) (hh1:1≤h) (hh:h≤1000) (p:List Bool) (hp:p.length=w*h) (most:Int) (hm:0≤most∧most≤1048576) :
  aC Tryz.prog 48 [.agg [.int .i64 w,.int .i64 h,.ro (.bools p)],.int .i64 most] (.tup [.agg [.int .i64 w,.int .i64 h,.own 0],.int .i64 (gQ (!true) (rG most) p (pieces ⟨p,w,h,true,true⟩)).n,.int .i64 0]) [(0,.row 4 (.bools (gQ (!true) (rG most) p (pieces ⟨p,w,h,true,true⟩)).p))]:=by
 haveI c1:qA [.cell [.int .i64 most]]:=⟨rfl⟩
 have k:=Lh w h hw1 hw hh1 hh p hp true true 94 [.cell [.int .i64 most]] (rG most) most hm (fun l hb=>dG.gJ (Nk l (IB w h l) most) rfl rfl)
 generalize gQ (!true) (rG most) p (pieces ⟨p,w,h,true,true⟩)=C at *
 refine aC.aJ Tryz.func48 rfl (by decide) (by simp [Tryz.f48]) [.cell 4 24,.tmp 5,.tmp 6] rfl fun w0 T0 _=>?_
 simp only [Tryz.f48,aB]
 (repeat' with_reducible first|intro _|exact dn|refine rn ?_|refine ra ?_ ?_)
 refine ah.o k 1 ?_
 (repeat' with_reducible first|intro _|exact dn|refine rn ?_|refine ra ?_ ?_)
 refine bf.auto 1 ?_ ?_ ?_<;>simp only [go_sem,Int.natCast_succ,Post]
end Go.Fv.H
/- Strips put together, in plain words. -/
namespace Go.Fv.H
open Go Go.Proofs
def xP (W H:Nat) (P:List Bool):Nat→List Bytes→DQ
 | _,[]=>⟨W,H,P,0⟩
 | i,s::l=>
  if (fO s).e≠0 then sD (fO s).e
  else if 0<i∧(fO s).w≠W then sD 11
  else xP (fO s).w (H+(fO s).h) (P++(fO s).p) (i+1) l
def Xm (l:List Bytes):DQ:=
 if l=[] then sD 9
 else if (xP 0 0 [] 0 l).e≠0 then xP 0 0 [] 0 l
 else if bG (xP 0 0 [] 0 l).w (xP 0 0 [] 0 l).h≠0 then sD (bG (xP 0 0 [] 0 l).w (xP 0 0 [] 0 l).h)
 else xP 0 0 [] 0 l
end Go.Fv.H
/- FromStrips, of both: the walk. -/
namespace Go.Fv.H
open Go Go.Proofs
structure FX where
 (i W H:Nat) (P:List Bool)
theorem Ey {W H:Nat} {P:List Bool} {i:Nat} {l:List Bytes} (h:i<l.length):xP W H P i (l.drop i)=if (fO (l.getD i [])).e≠0 then sD (fO (l.getD i [])).e else if 0<i∧(fO (l.getD i [])).w≠W then sD 11 else xP (fO (l.getD i [])).w (H+(fO (l.getD i [])).h) (P++(fO (l.getD i [])).p) (i+1) (l.drop (i+1)):=by
 rw [List.drop_eq_getElem_cons h,getD_lt h]
 rfl
theorem VJ (s:Bytes):(fO s).w≤4000∧(fO s).h≤4000∧(fO s).p.length≤1048576:=by
 by_cases h:(fO s).e=0
 ·have g:=(VK h).1
  exact ⟨g.w1,g.h1,by rw [g.p];exact g.wh⟩
 ·obtain ⟨h1,h2,h3⟩:=SG s h
  rw [h1,h2,h3];simp
set_option maxHeartbeats 8000000 in
theorem Dx (l:List Bytes) (hl:l.length≤100000) (hs:∀ s,s∈l→s.length≤200000000000000) :
  aC Tryz.prog 18 [.ro (.strs l)] (.tup [.agg [.int .i64 (Xm l).w,.int .i64 (Xm l).h,.own 0],.int .i64 (Xm l).e]) [(0,.row 4 (.bools (Xm l).p))]:=by
 obtain ⟨R,hR⟩:∃ R,Xm l=R:=⟨_,rfl⟩
 rw [hR]
 refine aC.aJ Tryz.func18 rfl (by decide) (by simp [Tryz.f18]) [.cell 2 24,.tmp 3] rfl fun w0 T0 _=>?_
 simp only [Tryz.f18,aB]
 by_cases h0:l=[]
 ·have hR0:R=sD 9:=by rw [←hR,h0];rfl
  subst h0
  rw [hR0]
  (repeat' with_reducible first|intro _|refine rz ?_|refine ra ?_ ?_|omega|simp only [go_sem,sD])
  refine bf.ent (aO.jS (P:=Tryz.prog) 0 2 4 e4 rfl rfl) ?_
  simp only [go_sem,Int.natCast_succ,put]
  refine bf.of [(0,1)] 1 ?_ (by rfl) ?_<;>simp only [go_sem,Int.natCast_succ,Post]
 have f0:((l.length:Int)=0)=False:=eq_false (by have:=List.length_pos_iff.2 h0;omega)
 obtain ⟨G,hG⟩:∃ G,xP 0 0 [] 0 l=G:=⟨_,rfl⟩
 have hRG:R=if G.e≠0 then G else if bG G.w G.h≠0 then sD (bG G.w G.h) else G:=by rw [←hR];unfold Xm;rw [if_neg h0,hG]
 (repeat' with_reducible first|intro _|refine rz ?_|refine ra ?_ ?_|omega|simp only [go_sem,f0])
 refine aI.intro (fun x:FX=>⟨66,[(16,.int .i64 x.i),(15,.int .i64 l.length),(14,.ro (.strs l)),(4,.ptr 1 0),(2,.ptr 0 0)],[(0,.box 24 [.int .i64 0,.int .i64 0,.nilS]),(1,.box 24 [.int .i64 x.W,.int .i64 x.H,.own 2]),(2,.row 4 (.bools x.P))],3⟩) (fun x=>x.i≤l.length∧x.W≤4000∧x.H≤4000*x.i∧x.P.length≤1048576*x.i∧xP x.W x.H x.P x.i (l.drop x.i)=G) (fun x=>l.length - x.i) ⟨0,0,0,[]⟩ ?_ ⟨Nat.zero_le _,Nat.zero_le _,Nat.zero_le _,Nat.zero_le _,by rw [List.drop_zero];exact hG⟩ fun x hx=>?_
 ·refine aO.trans (aO.jS (P:=Tryz.prog) 1 2 4 e4 rfl rfl) (aO.ak rfl ?_ ?_)<;>simp only [go_sem,Int.natCast_succ,put]
  all_goals first|rfl|exact ⟨rfl,rfl⟩|trace_state
 obtain ⟨i,W,H,P⟩:=x
 obtain ⟨hi,hW,hH,hP,hgo⟩:=hx
 dsimp only at hi hW hH hP hgo ⊢
 by_cases hlt:i<l.length
 rotate_left
 ·have f1:((i:Int)<(l.length:Int))=False:=eq_false (by omega)
  rw [List.drop_of_length_le (by omega)] at hgo
  have hG2:G=⟨W,H,P,0⟩:=hgo.symm
  have hRG2:R=if bG W H≠0 then sD (bG W H) else ⟨W,H,P,0⟩:=by rw [hRG,hG2,if_neg (fun h=>h rfl)]
  have kz:=iE (W:Int) (H:Int)
  by_cases hz:bG W H=0
  ·rw [if_neg (fun h=>h hz)] at hRG2
   rw [hz] at kz
   rw [hRG2]
   (repeat' with_reducible first|intro _|refine rz ?_|refine ra ?_ ?_|omega|simp only [go_sem,f1])
   refine ah.k kz ?_
   (repeat' with_reducible first|intro _|exact dn|refine rn ?_|refine ra ?_ ?_)
   refine bf.of [(0,2)] 1 ?_ (by rfl) ?_<;>simp only [go_sem,Int.natCast_succ,Post]
  ·rw [if_pos hz] at hRG2
   have f2:(bG (W:Int) (H:Int)=0)=False:=eq_false hz
   rw [hRG2]
   generalize bG (W:Int) (H:Int)=z at *
   (repeat' with_reducible first|intro _|refine rz ?_|refine ra ?_ ?_|omega|simp only [go_sem,f1])
   refine ah.k kz ?_
   (repeat' with_reducible first|intro _|refine rz ?_|refine ra ?_ ?_|omega|simp only [go_sem,f2,sD])
   refine bf.ent (aO.jS (P:=Tryz.prog) 0 2 4 e4 rfl rfl) ?_
   simp only [go_sem,Int.natCast_succ,put]
   refine bf.of [(0,3)] 1 ?_ (by rfl) ?_<;>simp only [go_sem,Int.natCast_succ,Post]
 have f1:((i:Int)<(l.length:Int))=True:=eq_true (by omega)
 have hm:l.getD i []∈l:=by rw [getD_lt hlt];exact List.getElem_mem hlt
 have hsl:=hs _ hm
 have kd:=PS (l.getD i []) hsl
 unfold Xl at kd
 rw [Ey hlt] at hgo
 obtain ⟨b1,b2,b3⟩:=VJ (l.getD i [])
 generalize fO (l.getD i [])=q at *
 (repeat' with_reducible first|intro _|refine rz ?_|refine ra ?_ ?_|omega|simp only [go_sem,f1])
 refine ah.f kd 0 ?_
 by_cases he:q.e=0
 rotate_left
 ·have f2:(q.e=0)=False:=eq_false he
  rw [if_pos he] at hgo
  have hR2:R=sD q.e:=by rw [hRG,←hgo,if_pos (show (sD q.e).e≠0 from he)]
  rw [hR2]
  (repeat' with_reducible first|intro _|refine rz ?_|refine ra ?_ ?_|omega|simp only [go_sem,f2,sD])
  refine bf.ent (aO.jS (P:=Tryz.prog) 0 2 4 e4 rfl rfl) ?_
  simp only [go_sem,Int.natCast_succ,put]
  refine bf.of [(0,4)] 1 ?_ (by rfl) ?_<;>simp only [go_sem,Int.natCast_succ,Post]
 have f2:(q.e=0)=True:=eq_true he
 rw [if_neg (fun h=>h he)] at hgo
 by_cases hc:0<i∧q.w≠W
 ·have f3:((0:Int)<(i:Int))=True:=eq_true (by omega)
  have f4:((q.w:Int)=(W:Int))=False:=eq_false (by omega)
  rw [if_pos hc] at hgo
  have hR2:R=sD 11:=by rw [hRG,←hgo,if_pos (show (sD 11).e≠0 by decide)]
  rw [hR2]
  (repeat' with_reducible first|intro _|refine rz ?_|refine ra ?_ ?_|omega|simp only [go_sem,f2,f3,f4,sD])
  refine bf.ent (aO.jS (P:=Tryz.prog) 0 2 4 e4 rfl rfl) ?_
  simp only [go_sem,Int.natCast_succ,put]
  refine bf.of [(0,4)] 1 ?_ (by rfl) ?_<;>simp only [go_sem,Int.natCast_succ,Post]
 rw [if_neg hc] at hgo
 by_cases h00:0<i
 ·have f3:((0:Int)<(i:Int))=True:=eq_true (by omega)
  have f4:((q.w:Int)=(W:Int))=True:=eq_true (by omega)
  (repeat' with_reducible first|intro _|refine rz ?_|refine ra ?_ ?_|omega|simp only [go_sem,f2,f3,f4])
  refine ⟨⟨i+1,q.w,H+q.h,P++q.p⟩,aO.ak rfl ?_ ?_,⟨by dsimp only;omega,b1,by dsimp only;omega,by dsimp only;rw [List.length_append];omega,hgo⟩,by dsimp only;omega⟩<;>simp only [go_sem,Int.natCast_succ]
  all_goals first|rfl|omega|exact ⟨rfl,rfl⟩|trace_state
 ·have f3:((0:Int)<(i:Int))=False:=eq_false (by omega)
  (repeat' with_reducible first|intro _|refine rz ?_|refine ra ?_ ?_|omega|simp only [go_sem,f2,f3])
  refine ⟨⟨i+1,q.w,H+q.h,P++q.p⟩,aO.ak rfl ?_ ?_,⟨by dsimp only;omega,b1,by dsimp only;omega,by dsimp only;rw [List.length_append];omega,hgo⟩,by dsimp only;omega⟩<;>simp only [go_sem,Int.natCast_succ]
  all_goals first|rfl|omega|exact ⟨rfl,rfl⟩|trace_state
end Go.Fv.H
/- A page in strips, in plain words. -/
namespace Go.Fv.H
open Go Go.Proofs
def xG (w:Nat) (p:List Bool) (y k:Nat):List Bool:=(p.drop (y*w)).take (k*w)
theorem SA {w h:Nat} {p:List Bool} (hp:p.length=w*h) {y k:Nat} (h1:y+k≤h):(xG w p y k).length=w*k:=by
 unfold xG
 have:y*w+k*w≤h*w:=by rw [←Nat.add_mul];exact Nat.mul_le_mul_right _ h1
 rw [List.length_take,List.length_drop,hp,Nat.mul_comm w h,Nat.mul_comm w k];omega
theorem VI {w h:Nat} {p:List Bool} (g:lC w h p) {y k:Nat} (h0:0<k) (h1:y+k≤h):lC w k (xG w p y k):=by
 have h2:=g.h1
 have h3:=g.wh
 have h4:w*k≤w*h:=Nat.mul_le_mul_left _ (by omega)
 exact ⟨g.w0,g.w1,h0,by omega,by omega,SA g.p h1⟩
def wJ (h rows i:Nat):Nat:=min rows (h - i*rows)
def Yt (w h:Nat) (p:List Bool) (rows:Nat) (kind:Int) (i:Nat):Bytes:=dN w (wJ h rows i) (xG w p (i*rows) (wJ h rows i)) kind
def Kr (w h:Nat) (p:List Bool) (rows:Nat) (kind:Int) (n:Nat):List Bytes:=(List.range n).map (Yt w h p rows kind)
theorem UQ (w h:Nat) (p:List Bool) (rows:Nat) (kind:Int) (n:Nat):Kr w h p rows kind (n+1)=Kr w h p rows kind n++[Yt w h p rows kind n]:=by
 unfold Kr;rw [List.range_succ,List.map_append];rfl
theorem wK (w h:Nat) (p:List Bool) (rows:Nat) (kind:Int) (n:Nat):(Kr w h p rows kind n).length=n:=by unfold Kr;simp
theorem WV (w h:Nat) (p:List Bool) (rows:Nat) (kind:Int) {n i:Nat} (hi:i<n):(Kr w h p rows kind n).getD i []=Yt w h p rows kind i:=by
 unfold Kr
 rw [List.getD_eq_getElem?_getD,List.getElem?_map,List.getElem?_range hi];rfl
def zV (h rows:Nat):Nat:=(h+rows - 1) / rows
theorem qg {h rows i:Nat} (hr:0<rows):i<zV h rows↔i*rows<h:=by
 unfold zV
 rw [Nat.lt_div_iff_mul_lt hr]
 have:rows*i=i*rows:=Nat.mul_comm _ _
 omega
theorem O7 {h rows:Nat} (hr:0<rows):h≤zV h rows*rows:=by
 have:=(qg (h:=h) (i:=zV h rows) hr)
 omega
theorem zU {h rows i:Nat} (hr:0<rows) (hi:i*rows<h):0<wJ h rows i∧i*rows+wJ h rows i≤h:=by unfold wJ;omega
theorem Np {w h:Nat} {p:List Bool} (g:lC w h p) {rows:Nat} (hr:0<rows) {i:Nat} (hi:i*rows<h):lC w (wJ h rows i) (xG w p (i*rows) (wJ h rows i)):=
 VI g (zU hr hi).1 (zU hr hi).2
theorem VL {w h:Nat} {p:List Bool} (g:lC w h p) {rows:Nat} (hr:0<rows) {kind:Int} (hk:1≤kind∧kind≤4) {i:Nat} (hi:i*rows<h):fO (Yt w h p rows kind i)=⟨w,wJ h rows i,xG w p (i*rows) (wJ h rows i),0⟩:=by
 have g2:=Np g hr hi
 have:=lZ g2 kind
 exact IY g2 hk (by omega)
theorem Ou {w h:Nat} {p:List Bool} (g:lC w h p) {rows:Nat} (hr:0<rows) {kind:Int} (hk:1≤kind∧kind≤4):∀ (k i:Nat),i+k=zV h rows →
  xP (if i=0 then 0 else w) (min (i*rows) h) (p.take (i*rows*w)) i ((Kr w h p rows kind (zV h rows)).drop i)=⟨w,h,p,0⟩
 | 0,i,e=>by
  have hn:=O7 (h:=h) hr
  have h0:=g.h0
  have e2:i=zV h rows:=by omega
  have hi0:i≠0:=by
   intro hz
   have:(0:Nat)<zV h rows:=(qg hr).2 (by omega)
   omega
  rw [List.drop_of_length_le (by rw [wK];omega),if_neg hi0,e2,Nat.min_eq_right hn]
  have:p.take (zV h rows*rows*w)=p:=List.take_of_length_le (by rw [g.p,Nat.mul_comm w h];exact Nat.mul_le_mul_right _ hn)
  rw [this];rfl
 | k+1,i,e=>by
  have hi:i*rows<h:=(qg hr).1 (by omega)
  obtain ⟨s1,s2⟩:=zU hr hi
  rw [Ey (by rw [wK];omega),WV _ _ _ _ _ (by omega),VL g hr hk hi]
  dsimp only
  rw [if_neg (fun h=>h rfl),if_neg (by
   intro hq
   rw [if_neg (show i≠0 by omega)] at hq
   exact hq.2 rfl)]
  have ih:=Ou g hr hk k (i+1) (by omega)
  rw [if_neg (show i+1≠0 by omega)] at ih
  have e1:min (i*rows) h+wJ h rows i=min ((i+1)*rows) h:=by
   rw [Nat.succ_mul];unfold wJ;omega
  have e3:p.take (i*rows*w)++xG w p (i*rows) (wJ h rows i)=p.take ((i+1)*rows*w):=by
   unfold xG
   rw [←List.take_add,←Nat.add_mul]
   by_cases hc:h≤(i+1)*rows
   ·have e4:i*rows+wJ h rows i=h:=by rw [Nat.succ_mul] at hc;unfold wJ;omega
    rw [e4,List.take_of_length_le (by rw [g.p,Nat.mul_comm];exact Nat.le_refl _),List.take_of_length_le (by rw [g.p,Nat.mul_comm w h];exact Nat.mul_le_mul_right _ hc)]
   ·have e4:i*rows+wJ h rows i=(i+1)*rows:=by rw [Nat.succ_mul] at hc ⊢;unfold wJ;omega
    rw [e4]
  rw [e1,e3]
  exact ih
theorem X4 {w h:Nat} {p:List Bool} (g:lC w h p) {rows:Nat} (hr:0<rows) {kind:Int} (hk:1≤kind∧kind≤4):Xm (Kr w h p rows kind (zV h rows))=⟨w,h,p,0⟩:=by
 have k:=Ou g hr hk (zV h rows) 0 (by omega)
 rw [if_pos rfl,Nat.zero_mul,Nat.zero_mul,List.take_zero,List.drop_zero,Nat.min_eq_left (Nat.zero_le _)] at k
 have hne:Kr w h p rows kind (zV h rows)≠[]:=by
  intro h0
  have:=congrArg List.length h0
  rw [wK,List.length_nil] at this
  have h1:=g.h0
  have:=(qg (h:=h) (i:=0) hr).2 (by omega)
  omega
 have hz:bG (w:Int) (h:Int)=0:=by
  have e:((w:Int)*(h:Int))=((w*h:Nat):Int):=(Int.natCast_mul w h).symm
  have g1:=g.w0
  have g2:=g.w1
  have g3:=g.h0
  have g4:=g.h1
  have g5:=g.wh
  exact qc (by omega) (by omega) (by omega) (by omega) (by rw [e];omega)
 unfold Xm
 rw [if_neg hne,k]
 dsimp only
 rw [if_neg (fun h=>h rfl),if_neg (fun h=>h hz)]
end Go.Fv.H
/- Strips, of both: the walk. -/
namespace Go.Fv.H
open Go Go.Proofs
set_option maxHeartbeats 8000000 in
theorem QX (w h:Nat) (p:List Bool) (g:lC w h p) (rows:Nat) (hr0:0<rows) (hr:rows≤4000) (kind:Int) (hk:1≤kind∧kind≤4) :
  aC Tryz.prog 27 [.agg [.int .i64 w,.int .i64 h,.ro (.bools p)],.int .i64 rows,.int .i64 kind] (.tup [.own 0,.int .i64 0]) [(0,.row 9 (.strs (Kr w h p rows kind (zV h rows))))]:=by
 have kc:=jk (w:Int) (h:Int) p
 rw [g.err] at kc
 have ki:=jP kind
 rw [decide_eq_true hk] at ki
 have f1:((rows:Int)<1)=False:=eq_false (by omega)
 have f2:(4000<(rows:Int))=False:=eq_false (by omega)
 have hh:=g.h1
 have hw:=g.w1
 refine aC.aJ Tryz.func27 rfl (by decide) (by simp [Tryz.f27]) [.tmp 6,.tmp 7] rfl fun w0 T0 _=>?_
 simp only [Tryz.f27,aB]
 (repeat' with_reducible first|intro _|exact dn|refine rn ?_|refine ra ?_ ?_)
 refine ah.k kc ?_
 (repeat' with_reducible first|intro _|refine rz ?_|refine ra ?_ ?_|omega|simp only [go_sem,f1,f2])
 refine ah.k ki ?_
 (repeat' with_reducible first|intro _|exact dn|refine rn ?_|refine ra ?_ ?_)
 refine aI.intro (fun i:Nat=>⟨62,[(10,.int .i64 (i*rows:Nat)),(9,.own 1),(3,.ptr 0 0),(1,.int .i64 rows),(2,.int .i64 kind)],[(0,.box 24 [.int .i64 w,.int .i64 h,.ro (.bools p)]),(1,.row 9 (.strs (Kr w h p rows kind i)))],2⟩) (fun i=>i≤zV h rows) (fun i=>zV h rows - i) 0 ?_ (Nat.zero_le _) fun i hi=>?_
 ·refine aO.ak rfl ?_ ?_<;>simp only [go_sem,Int.natCast_succ,Kr,List.range_zero,List.map_nil,Nat.zero_mul]
  all_goals first|rfl|exact ⟨rfl,rfl⟩|trace_state
 have hnl:=wK w h p rows kind i
 by_cases hlt:i<zV h rows
 ·have hy:=(qg hr0).1 hlt
  obtain ⟨s1,s2⟩:=zU hr0 hy
  have g2:=Np g hr0 hy
  have f3:(((i*rows:Nat):Int)<(h:Int))=True:=eq_true (by omega)
  have hst:=UQ w h p rows kind i
  have hmin:min (rows:Int) ((h:Int) - ((i*rows:Nat):Int))=((wJ h rows i:Nat):Int):=by unfold wJ;omega
  have ke:=oC w (wJ h rows i) g2.w0 g2.w1 g2.h1 g2.wh (xG w p (i*rows) (wJ h rows i)) g2.p kind hk
  have he:dN w (wJ h rows i) (xG w p (i*rows) (wJ h rows i)) kind=Yt w h p rows kind i:=rfl
  rw [he] at ke
  generalize Yt w h p rows kind i=E at *
  obtain ⟨z,hz⟩:∃ z,(i+1)*rows=z:=⟨_,rfl⟩
  have hz2:z=i*rows+rows:=by rw [←hz,Nat.succ_mul]
  have hnext:((i*rows:Nat):Int)+(rows:Int)=(z:Int):=by omega
  have hib:i≤4000:=by have:i*1≤i*rows:=Nat.mul_le_mul_left _ hr0;omega
  have e1:((i*rows:Nat):Int)*(w:Int)=((i*rows*w:Nat):Int):=(Int.natCast_mul _ _).symm
  have e2:(((i*rows:Nat):Int)+((wJ h rows i:Nat):Int))*(w:Int)=(((i*rows+wJ h rows i)*w:Nat):Int):=by rw [←Int.natCast_add];exact (Int.natCast_mul _ _).symm
  have hb1:i*rows*w≤(i*rows+wJ h rows i)*w:=Nat.mul_le_mul_right _ (by omega)
  have hb2:(i*rows+wJ h rows i)*w≤p.length:=by rw [g.p,Nat.mul_comm w h];exact Nat.mul_le_mul_right _ s2
  have hcut:(p.drop (i*rows*w)).take ((i*rows+wJ h rows i)*w - i*rows*w)=xG w p (i*rows) (wJ h rows i):=by
   unfold xG
   rw [←Nat.sub_mul,Nat.add_sub_cancel_left]
  have hpl:p.length≤1048576:=by rw [g.p];exact g.wh
  generalize wJ h rows i=k at *
  generalize xG w p (i*rows) k=C at *
  generalize (i*rows+k)*w=b at *
  generalize i*rows*w=a at *
  have hk1:k≤4000:=by omega
  have hy2:i*rows≤4000:=by omega
  generalize i*rows=y at *
  (repeat' with_reducible first|intro _|refine rz ?_|refine ra ?_ ?_|omega|simp only [go_sem,f3,hmin])
  refine bC.lex [20,21] [(0,[1])] (by kernel_rfl) (by kernel_rfl) ?_
  (repeat' with_reducible first|intro _|refine rz ?_|refine ra ?_ ?_|omega|simp only [go_sem,e1,e2,hcut])
  (refine QV.intro (.str E) ?_ ?_;focus ((repeat' with_reducible first|intro _|exact dn|refine rn ?_|refine ra ?_ ?_);refine ah.k (ke) ?_;(repeat' with_reducible first|intro _|exact dn|refine rn ?_|refine ra ?_ ?_)))
  (repeat' with_reducible first|intro _|refine rz ?_|refine ra ?_ ?_|omega|simp only [go_sem,hnl,hnext])
  refine ⟨i+1,aO.ak rfl ?_ ?_,by omega,by omega⟩<;>simp only [go_sem,Int.natCast_succ,hst,hz]
  all_goals first|rfl|trace_state
 ·have e:i=zV h rows:=by omega
  subst e
  have hn:=O7 (h:=h) hr0
  have f3:(((zV h rows*rows:Nat):Int)<(h:Int))=False:=eq_false (by omega)
  generalize zV h rows*rows=y at *
  (repeat' with_reducible first|intro _|refine rz ?_|refine ra ?_ ?_|omega|simp only [go_sem,f3])
  refine bf.of [(0,1)] 1 ?_ (by rfl) ?_<;>simp only [go_sem,Int.natCast_succ,Post]
end Go.Fv.H
