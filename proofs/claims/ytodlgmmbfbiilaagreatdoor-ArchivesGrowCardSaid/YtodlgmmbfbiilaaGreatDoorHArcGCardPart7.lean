/-
  A part of the proof of the claim: walks over the program's functions and the plain laws that these need. No condition of its own.
-/
import Derived.Test.YtodlgmmbfbiilaaGreatDoorHArcGCardPart6
import Derived.Test.YtodlgmmbfbiilaaGreatDoorHArcGCardPart4
import Derived.Test.YtodlgmmbfbiilaaGreatDoorHArcGCardPart3
import Derived.Test.YtodlgmmbfbiilaaGreatDoorHArcGCardPart2
import Derived.Test.YtodlgmmbfbiilaaGreatDoorFvPart10
import Derived.Test.YtodlgmmbfbiilaaGreatDoorHArcGCardPart1
import Derived.Test.YtodlgmmbfbiilaaGreatDoorHArcGCardPart5
import Derived.Test.YtodlgmmbfbiilaaGreatDoorFvPart11
set_option linter.unusedSimpArgs false
set_option linter.unusedVariables false
set_option linter.unnecessarySimpa false
set_option maxRecDepth 8000
/- shrink.Encode, Context, Best: the walk. -/
namespace Go.Fv.H
open Go Go.Proofs
structure yE (w h:Nat) (p:List Bool):Prop where
 w0:0<w
 w1:w≤4000
 h0:0<h
 h1:h≤4000
 wh:w*h≤1048576
 p:p.length=w*h
theorem yE.err {w h:Nat} {p:List Bool} (g:yE w h p):iL w h p.length=0:=by
 obtain ⟨g1,g2,g3,g4,g5,g6⟩:=g
 unfold iL
 have e:((w:Int)*(h:Int))=((w*h:Nat):Int):=(Int.natCast_mul w h).symm
 rw [Kz (by omega) (by omega) (by omega) (by omega) (by rw [e];omega),g6,e]
 simp
theorem NV (kind:Int):aC Tryz.prog 66 [.int .i64 kind] (.bool (decide (1≤kind∧kind≤4))) []:=by
 refine aC.aJ Tryz.func66 rfl (by decide) (by simp [Tryz.f66]) [.tmp 2] rfl fun w0 T0 _=>?_
 simp only [Tryz.f66,aB]
 (repeat' with_reducible first|intro _|exact dn|refine rn ?_|refine ra ?_ ?_)
 refine bg.auto 0 ?_ rfl ?_<;>simp only [go_sem,Int.natCast_succ,Post]
def dP (w h:Nat) (p:List Bool):Nat→Bytes × Int
 | 0=>([],0)
 | k+1=>if (dP w h p k).2=0∨(jW w h p ((k:Int)+1)).length<(dP w h p k).1.length then (jW w h p ((k:Int)+1),(k:Int)+1) else dP w h p k
set_option maxHeartbeats 4000000 in
theorem SK (w h:Nat) (p:List Bool) (g:yE w h p) :
  aC Tryz.prog 78 [.agg [.int .i64 w,.int .i64 h,.ro (.bools p)]] (.tup [.str (dP w h p 4).1,.int .i64 (dP w h p 4).2]) []:=by
 refine aC.aJ Tryz.func78 rfl (by decide) (by simp [Tryz.f78]) [.tmp 2,.tmp 3] rfl fun w0 T0 _=>?_
 simp only [Tryz.f78,aB]
 (repeat' with_reducible first|intro _|exact dn|refine rn ?_|refine ra ?_ ?_)
 refine aH.intro (fun i:Nat=>⟨26,[(4,.int .i64 ((i:Int)+1)),(3,.int .i64 (dP w h p i).2),(2,.str (dP w h p i).1),(1,.ptr 0 0)],[(0,.box 24 [.int .i64 w,.int .i64 h,.ro (.bools p)])],1⟩) (fun i=>i≤4) (fun i=>4 - i) 0 ?_ (Nat.zero_le _) fun i hi=>?_
 ·refine aK.ak rfl ?_ ?_<;>simp only [go_sem,Int.natCast_succ]
  all_goals first|rfl|exact ⟨rfl,rfl⟩|exact ⟨rfl,rfl,rfl⟩
 by_cases hlt:i<4
 ·have f1:((i:Int)+1≤4)=True:=eq_true (by omega)
  have ke:=Dh w h g.w0 g.w1 g.h1 g.wh p g.p ((i:Int)+1) (by omega)
  have hst:dP w h p (i+1)=if (dP w h p i).2=0∨(jW w h p ((i:Int)+1)).length<(dP w h p i).1.length then (jW w h p ((i:Int)+1),(i:Int)+1) else dP w h p i:=rfl
  generalize jW w h p ((i:Int)+1)=e at *
  generalize hb:dP w h p i=b at *
  obtain ⟨s,k⟩:=b
  dsimp only at *
  (repeat' with_reducible first|intro _|refine rz ?_|refine ra ?_ ?_|omega|simp only [go_sem,f1])
  refine ah.k ke ?_
  by_cases h0:k=0
  ·have f2:(k=0)=True:=eq_true h0
   rw [if_pos (.inl h0)] at hst
   (repeat' with_reducible first|intro _|refine rz ?_|refine ra ?_ ?_|omega|simp only [go_sem,f2])
   refine ⟨i+1,aK.ak rfl ?_ ?_,by omega,by omega⟩<;>simp only [go_sem,Int.natCast_succ,hst]
  have f2:(k=0)=False:=eq_false h0
  by_cases h3:e.length<s.length
  ·have f3:((e.length:Int)<(s.length:Int))=True:=eq_true (by omega)
   rw [if_pos (.inr h3)] at hst
   (repeat' with_reducible first|intro _|refine rz ?_|refine ra ?_ ?_|omega|simp only [go_sem,f2,f3])
   refine ⟨i+1,aK.ak rfl ?_ ?_,by omega,by omega⟩<;>simp only [go_sem,Int.natCast_succ,hst]
  ·have f3:((e.length:Int)<(s.length:Int))=False:=eq_false (by omega)
   rw [if_neg (fun q=>q.elim h0 h3)] at hst
   (repeat' with_reducible first|intro _|refine rz ?_|refine ra ?_ ?_|omega|simp only [go_sem,f2,f3])
   refine ⟨i+1,aK.ak rfl ?_ ?_,by omega,by omega⟩<;>simp only [go_sem,Int.natCast_succ,hst]
 ·have f1:((i:Int)+1≤4)=False:=eq_false (by omega)
  have e:i=4:=by omega
  subst e
  (repeat' with_reducible first|intro _|refine rz ?_|refine ra ?_ ?_|omega|simp only [go_sem,f1])
  refine bg.auto 0 ?_ rfl ?_<;>simp only [go_sem,Int.natCast_succ,Post]
end Go.Fv.H
/- The reading of a page, in plain words. -/
namespace Go.Fv.H
open Go
structure DQ where
 (w h:Nat) (p:List Bool) (e:Int)
def dK (s:Bytes):Nat:=bY (s.take 1)
def dW (s:Bytes):Nat:=bY ((s.drop 1).take 2)
def dH (s:Bytes):Nat:=bY ((s.drop 3).take 2)
def dD (s:Bytes):Bytes:=(s.drop 9).take (s.length - 17)
def X0 (s:Bytes):List Bool × Bool:=WQ (dK s) (dW s) (dH s) (dD s)
def XZ (e:Int):DQ:=⟨0,0,[],e⟩
def Wq (s:Bytes):Prop:=(X0 s).2=true∧jW (dW s) (dH s) (X0 s).1 (dK s)=s
instance (s:Bytes):Decidable (Wq s):=inferInstanceAs (Decidable (_∧_))
theorem NT (w h:Nat) (p:List Bool) (kind:Int):(headB w h p kind).length=9+(dh w h p kind).length:=by
 unfold headB
 simp only [List.length_append,aS]
theorem GR (w h:Nat) (p:List Bool) (kind:Int):(jW w h p kind).length=17+(dh w h p kind).length:=by
 unfold jW
 rw [List.length_append,NT,mJ];omega
def XD (kind:Int) (w h:Nat) (d:Bytes):List Bool × Bool:=if kind=4 then WZ w h d (w*h) else WQ kind w h d
def X6 (s:Bytes):List Bool × Bool:=XD (dK s) (dW s) (dH s) (dD s)
def WW (s:Bytes):Prop:=(X6 s).2=true∧jW (dW s) (dH s) (X6 s).1 (dK s)=s
instance (s:Bytes):Decidable (WW s):=inferInstanceAs (Decidable (_∧_))
end Go.Fv.H
/- What Take and Check answer, in plain words. -/
namespace Go.Fv.H
open Go Go.Proofs
def rowsOf {α:Type} (w:Nat) (p:Nat→Nat→α) (n:Nat):List α:=(List.range n).map fun k=>p (k%w) (k / w)
theorem Kv {α:Type} (w:Nat) (p:Nat→Nat→α) (n:Nat):(rowsOf w p n).length=n:=by simp [rowsOf]
theorem IG {α:Type} {w:Nat} (p:Nat→Nat→α) {x y:Nat} (hx:x<w):rowsOf w p (y*w+(x+1))=rowsOf w p (y*w+x)++[p x y]:=by
 unfold rowsOf
 rw [←Nat.add_assoc,List.range_succ,List.map_append]
 have e1:(y*w+x)%w=x:=by rw [Nat.mul_comm,Nat.mul_add_mod,Nat.mod_eq_of_lt hx]
 have e2:(y*w+x) / w=y:=by rw [Nat.mul_comm,Nat.mul_add_div (by omega),Nat.div_eq_of_lt hx,Nat.add_zero]
 simp [e1,e2]
set_option maxHeartbeats 1000000 in
theorem TM (w h:Nat) (hw:w≤4000) (hh:h≤4000) (f:Nat) (caps:List AV) [Ef caps] (p:Nat→Nat→Bool) (hp:∀ x y:Nat,x<w→y<h→fD Tryz.prog f ([.int .i64 x,.int .i64 y]++caps) (.bool (p x y)) []) :
  aC Tryz.prog 52 [.int .i64 w,.int .i64 h,.fn f caps] (.agg [.int .i64 w,.int .i64 h,.own 0]) [(0,.row 4 (.bools (rowsOf w p (h*w))))]:=by
 refine aC.aJ Tryz.func52 rfl (by decide) (by simp [Tryz.f52]) [.cell 6 24] rfl fun w0 T0 _=>?_
 simp only [Tryz.f52,aB]
 simp only [go_sem]
 (repeat' first|(with_reducible refine wu.intro fun _=>?_)|((with_reducible refine aX.intro ?_ ?_);(· first|omega|(with_reducible refine aX.intro ?_ ?_<;>omega)|(simp;done)|(simp;omega)))|((with_reducible refine bZ.i64 ?_ ?_ ?_);(· omega);(· omega))|((with_reducible refine Ite.decide (fun _=>?_) (fun _=>?_))<;>first|(exfalso;omega)|simp only [go_sem])|((with_reducible refine Ite.bool (fun _=>?_) (fun _=>?_))<;>simp only [go_sem])|(with_reducible refine And.intro ?_ ?_))
 refine aH.intro (fun y:Nat=>⟨33,[(14,.int .i64 y),(13,.int .i64 h),(7,.ptr 1 0),(6,.ptr 0 0),(0,.int .i64 w),(2,.fn f caps)],[(1,.box 24 [.int .i64 w,.int .i64 h,.own 2]),(0,.box 24 [.int .i64 0,.int .i64 0,.nilS]),(2,.row 4 (.bools (rowsOf w p (y*w))))],3⟩) (fun y=>y≤h) (fun y=>h - y) 0 ?_ (Nat.zero_le _) fun y hy=>?_
 ·refine aK.trans (aK.Vs (P:=Tryz.prog) 1 2 4 e4 rfl rfl) (aK.ak rfl ?_ ?_)<;>simp only [go_sem,Int.natCast_succ,rowsOf,put,Nat.zero_mul,List.range_zero,List.map_nil]
 simp only [go_sem]
 (repeat' first|(with_reducible refine wu.intro fun _=>?_)|((with_reducible refine aX.intro ?_ ?_);(· first|omega|(with_reducible refine aX.intro ?_ ?_<;>omega)|(simp;done)|(simp;omega)))|((with_reducible refine bZ.i64 ?_ ?_ ?_);(· omega);(· omega))|((with_reducible refine Ite.decide (fun _=>?_) (fun _=>?_))<;>first|(exfalso;omega)|simp only [go_sem])|((with_reducible refine Ite.bool (fun _=>?_) (fun _=>?_))<;>simp only [go_sem])|(with_reducible refine And.intro ?_ ?_))
 ·refine aH.intro (fun x:Nat=>⟨33,[(18,.int .i64 x),(17,.int .i64 w),(8,.int .i64 y),(14,.int .i64 y),(13,.int .i64 h),(7,.ptr 1 0),(6,.ptr 0 0),(0,.int .i64 w),(2,.fn f caps)],[(1,.box 24 [.int .i64 w,.int .i64 h,.own 2]),(0,.box 24 [.int .i64 0,.int .i64 0,.nilS]),(2,.row 4 (.bools (rowsOf w p (y*w+x))))],3⟩) (fun x=>x≤w) (fun x=>w - x) 0 ?_ (Nat.zero_le _) fun x hx=>?_
  ·refine aK.ak rfl ?_ ?_<;>simp only [go_sem,Int.natCast_succ]
  simp only [go_sem]
  (repeat' first|(with_reducible refine wu.intro fun _=>?_)|((with_reducible refine aX.intro ?_ ?_);(· first|omega|(with_reducible refine aX.intro ?_ ?_<;>omega)|(simp;done)|(simp;omega)))|((with_reducible refine bZ.i64 ?_ ?_ ?_);(· omega);(· omega))|((with_reducible refine Ite.decide (fun _=>?_) (fun _=>?_))<;>first|(exfalso;omega)|simp only [go_sem])|((with_reducible refine Ite.bool (fun _=>?_) (fun _=>?_))<;>simp only [go_sem])|(with_reducible refine And.intro ?_ ?_))
  ·refine bC.lex [6,7,9] [(0,[1]),(1,[1])] (by kernel_rfl) (by kernel_rfl) ?_
   simp only [go_sem]
   (repeat' first|(with_reducible refine wu.intro fun _=>?_)|((with_reducible refine aX.intro ?_ ?_);(· first|omega|(with_reducible refine aX.intro ?_ ?_<;>omega)|(simp;done)|(simp;omega)))|((with_reducible refine bZ.i64 ?_ ?_ ?_);(· omega);(· omega))|((with_reducible refine Ite.decide (fun _=>?_) (fun _=>?_))<;>first|(exfalso;omega)|simp only [go_sem])|((with_reducible refine Ite.bool (fun _=>?_) (fun _=>?_))<;>simp only [go_sem])|(with_reducible refine And.intro ?_ ?_))
   refine QV.intro (.bool (p x y)) ?_ ?_
   ·simp only [go_sem]
    refine ah.fr (args':=[.int .i64 x,.int .i64 y]++caps) (hp x y (by omega) (by omega)) (by simp [aO,aT,aF,Jj]) 0 rfl (by simp [gG]) ?_
    simp only [go_sem]
   ·simp only [go_sem]
    have hb:y*w+x≤4000*4000+4000:=Nat.add_le_add (Nat.mul_le_mul (by omega) hw) (by omega)
    have hr:=Kv w p (y*w+x)
    have hs:=IG p (x:=x) (y:=y) (w:=w) (by omega)
    (repeat' first|(with_reducible refine wu.intro fun _=>?_)|((with_reducible refine aX.intro ?_ ?_);(· first|omega|(with_reducible refine aX.intro ?_ ?_<;>omega)|(simp;done)|(simp;omega)))|((with_reducible refine bZ.i64 ?_ ?_ ?_);(· omega);(· omega))|((with_reducible refine Ite.decide (fun _=>?_) (fun _=>?_))<;>first|(exfalso;omega)|simp only [go_sem])|((with_reducible refine Ite.bool (fun _=>?_) (fun _=>?_))<;>simp only [go_sem])|(with_reducible refine And.intro ?_ ?_))
    refine ⟨x+1,aK.ak rfl ?_ ?_,by omega,by omega⟩<;>simp only [go_sem,Int.natCast_succ,hs]
    all_goals rfl
  ·refine ⟨y+1,aK.ak rfl ?_ ?_,by omega,by omega⟩<;>simp only [go_sem,Int.natCast_succ]
   have e:x=w:=by omega
   all_goals first|rfl|rw [e,Nat.succ_mul]
 ·have e:y=h:=by omega
  subst e
  refine bg.auto 1 ?_ rfl ?_<;>simp only [go_sem,Int.natCast_succ,Post]
  all_goals simp only [go_sem]
theorem U2 (a:Int) (m:Nat) (hm:m<2 ^ 63):0≤fV .and .i64 a m∧fV .and .i64 a m≤m:=by
 unfold fV
 dsimp only
 have h1:(BitVec.ofInt 64 a &&& BitVec.ofInt 64 (m:Int)).toNat≤m:=by
  rw [BitVec.toNat_and]
  refine Nat.le_trans Nat.and_le_right ?_
  rw [BitVec.ofInt_natCast,BitVec.toNat_ofNat]
  exact Nat.mod_le _ _
 rw [show IntKind.i64.bits=64 from rfl]
 rw [jQ (jl.2 ⟨by omega,by omega⟩)]
 omega
def nN (a:Int) (m:Nat):Nat:=(1+fV .and .i64 a m).toNat
theorem LK (a:Int) (m:Nat) (hm:m<2 ^ 63):1≤nN a m∧nN a m≤m+1∧1+fV .and .i64 a m=((nN a m:Nat):Int):=by
 have:=U2 a m hm
 unfold nN;omega
def NI (p:List Bool) (w x y:Nat):Bool:=decide (0<p.length) && p.getD ((y*w+x)%p.length) false
set_option maxHeartbeats 2000000 in
theorem Tm (W H:Int) (p:List Bool) (w x y:Nat) (hw:w≤32) (hx:x<w) (hy:y<32) :
  aC Tryz.prog 53 [.int .i64 x,.int .i64 y,.cell [.int .i64 W,.int .i64 H,.ro (.bools p)],.cell [.int .i64 w]] (.bool (NI p w x y)) []:=by
 have b1:y*w≤32*32:=Nat.mul_le_mul (by omega) hw
 have hm:=Nat.mod_lt (y*w+x) (y:=p.length)
 refine aC.aJ Tryz.func53 rfl (by decide) (by simp [Tryz.f53]) [.tmp 6] rfl fun w0 T0 _=>?_
 simp only [Tryz.f53,aB]
 (repeat' with_reducible first|intro _|exact dn|refine rn ?_|refine ra ?_ ?_)
 refine bC.lex [] [] (by kernel_rfl) (by kernel_rfl) ?_
 (repeat' with_reducible first|intro _|refine rz ?_|refine ra ?_ ?_|omega|simp only [go_sem,up_mul,up_add,up_tmod,Int.toNat_natCast])
 refine bg.auto 0 ?_ rfl ?_<;>simp only [go_sem,Int.natCast_succ,Post,NI]
 simp
set_option maxHeartbeats 2000000 in
theorem Vk (W H:Int) (p:List Bool) :
  aC Tryz.prog 12 [.agg [.int .i64 W,.int .i64 H,.ro (.bools p)]] (.agg [.int .i64 (nN W 31),.int .i64 (nN H 31),.own 0]) [(0,.row 4 (.bools (rowsOf (nN W 31) (NI p (nN W 31)) (nN H 31*nN W 31))))]:=by
 obtain ⟨w1,w2,w3⟩:=LK W 31 (by decide)
 obtain ⟨h1,h2,h3⟩:=LK H 31 (by decide)
 replace w3:1+fV .and .i64 W 31=((nN W 31:Nat):Int):=w3
 replace h3:1+fV .and .i64 H 31=((nN H 31:Nat):Int):=h3
 generalize nN W 31=w at *
 generalize nN H 31=h at *
 haveI c1:Ef [.cell [.int .i64 W,.int .i64 H,.ro (.bools p)],.cell [.int .i64 w]]:=⟨rfl⟩
 have k1:=TM w h (by omega) (by omega) 53 [.cell [.int .i64 W,.int .i64 H,.ro (.bools p)],.cell [.int .i64 w]] (NI p w)
  (fun x y hx hy=>fD.iF (Tm W H p w x y (by omega) hx (by omega)) rfl rfl)
 generalize rowsOf w (NI p w) (h*w)=out at *
 refine aC.aJ Tryz.func12 rfl (by decide) (by simp [Tryz.f12]) [.cell 2 24] rfl fun w0 T0 _=>?_
 simp only [Tryz.f12,aB]
 (repeat' with_reducible first|intro _|exact dn|refine rn ?_|refine ra ?_ ?_)
 refine bC.lex [8,9] [(0,[1]),(1,[1]),(2,[1]),(3,[1]),(4,[1,2]),(5,[1,2]),(6,[1,2]),(7,[1,2])] (by kernel_rfl) (by kernel_rfl) ?_
 (repeat' with_reducible first|intro _|refine rz ?_|refine ra ?_ ?_|omega|simp only [go_sem,w3,h3])
 refine ah.o k1 1 ?_
 (repeat' with_reducible first|intro _|exact dn|refine rn ?_|refine ra ?_ ?_)
 refine bg.auto 1 ?_ rfl ?_<;>simp only [go_sem,Int.natCast_succ,Post]
 all_goals simp only [go_sem]
end Go.Fv.H
/- Codes of pages are short. -/
namespace Go.Fv.H
open Go
theorem Lh:∀ (f n:Nat),n≤f→1≤n→(jF n).length≤n
 | 0,n,h,h1=>by omega
 | f+1,n,h,h1=>by
  by_cases h2:n<2
  ·have:n=1:=by omega
   subst this;rw [qP (by decide)];exact Nat.le_refl _
  ·have ih:=Lh f (n / 2) (by omega) (by omega)
   rw [uy h2,List.length_append]
   simp only [List.length_cons,List.length_nil]
   omega
theorem EH (k:Nat):(eH (k+1)).length≤2*k+1:=by
 have:=Lh (k+1) (k+1) (Nat.le_refl _) (by omega)
 rw [EG];omega
theorem Qr (k:Nat):(bH.getD k []).length≤7:=by
 rcases k with _|_|_|_|_|_|_|k
 all_goals first|decide|exact Nat.zero_le _
theorem RD {row above:List Bool} (hw:above.length=row.length) {p:Nat} (hp:p≤row.length) (ink:Bool):(aN row above p ink).c.length+7*p≤7*(aN row above p ink).p:=by
 have hs:=lM hw hp ink
 have h1:=jo hp
 have h2:=iy row p
 unfold aN at hs ⊢
 split
 ·rename_i hc
  rw [if_pos hc] at hs
  dsimp only at hs ⊢
  have:fP.length=4:=rfl
  omega
 ·rename_i hc
  rw [if_neg hc] at hs
  split
  ·rename_i hd
   rw [if_pos hd] at hs
   dsimp only at hs ⊢
   have:=Qr (dU row p+3 - fG above p (!ink))
   omega
  ·rename_i hd
   rw [if_neg hd] at hs
   dsimp only at hs ⊢
   have e:fU.length=3:=rfl
   have g1:=EH (dU row p - (p - 1))
   have g2:=EH (dU row (dU row p+1) - dU row p)
   rw [List.length_append,List.length_append,e]
   have h3:dU row p≤dU row (dU row p+1):=by
    by_cases h:dU row p<row.length
    ·have:=jo (r:=row) (i:=dU row p+1) (by omega);omega
    ·rw [iW (r:=row) (i:=dU row p+1) (by omega)];omega
   omega
theorem JM {row above:List Bool} (hw:above.length=row.length):(jv row above).length≤7*(row.length+1):=by
 have key:∀ (f p:Nat) (ink:Bool),row.length+1 - p≤f→p≤row.length+1→(yL row above p ink).length+7*p≤7*(row.length+1):=by
  intro f
  induction f with
  | zero=>intro p ink h hp;rw [lY (by omega)];simp;omega
  | succ f ih=>
   intro p ink h hp1
   by_cases hp:p≤row.length
   ·have hs:=lM hw hp ink
    have hsh:=RD hw hp ink
    rw [nT hw hp,List.length_append]
    have:=ih (aN row above p ink).p (aN row above p ink).k (by omega) (by omega)
    omega
   ·rw [lY hp];simp;omega
 unfold jv
 split
 ·simp
 ·have:=key (row.length+1) 0 false (by omega) (by omega)
  omega
theorem yg {w h:Nat} {p:List Bool} (hp:p.length=w*h):∀ y,y≤h→(dX w p y).length≤7*(w+1)*y
 | 0,_=>by simp [dX]
 | y+1,hy=>by
  have h1:=yg hp y (by omega)
  have hl:=iH hp (y:=y) (by omega)
  have h2:=JM (row:=rowP w p y) (above:=yC w p y) (by rw [zi hp (by omega),hl])
  rw [hl] at h2
  rw [mY,List.length_append,Nat.mul_succ];omega
def sumT (l:List Int):Nat:=(l.map Int.toNat).sum
theorem Oy {l:List Int} (hl:∀ x,x∈l→0≤x):(dZ l).length≤2*sumT l+l.length:=by
 induction l with
 | nil=>simp [dZ]
 | cons x l ih=>
  have h1:=ih fun y hy=>hl y (.tail _ hy)
  have h2:=hl x (.head _)
  have h3:=EH x.toNat
  have e0:(x+1).toNat=x.toNat+1:=by omega
  have e:dZ (x::l)=eH (x+1).toNat++dZ l:=by unfold dZ;simp
  have es:sumT (x::l)=x.toNat+sumT l:=rfl
  rw [e,List.length_append,List.length_cons,es,e0];omega
theorem VK {l:List Int} (hl:∀ x,x∈l→0≤x):(sumT l:Int)=Cc l:=by
 induction l with
 | nil=>rfl
 | cons x l ih=>
  have h1:=ih fun y hy=>hl y (.tail _ hy)
  have h2:=hl x (.head _)
  have es:sumT (x::l)=x.toNat+sumT l:=rfl
  have ei:Cc (x::l)=x+Cc l:=rfl
  rw [es,ei];omega
theorem Kw {r:List Bool} (h:0<r.length):Cc (jA r)=r.length:=by
 obtain ⟨l0,x,h1,h2⟩:=D8 r (r.length - 1) (by omega)
 have e:r.length - 1+1=r.length:=by omega
 rw [e] at h1 h2
 have hr:jA r=l0++[x]:=h1
 have:=h2.sum
 rw [hr,IQ];exact this
theorem AZ {w h:Nat} (hw0:0<w) {p:List Bool} (hp:p.length=w*h):∀ y,y≤h→(iQ w p y).length≤3*(w+1)*y
 | 0,_=>by simp [iQ]
 | y+1,hy=>by
  have h1:=AZ hw0 hp y (by omega)
  have hl:=iH hp (y:=y) (by omega)
  obtain ⟨h2,h3⟩:=rF (rowP w p y)
  have h4:=Oy (l:=jA (rowP w p y)) fun x hx=>(h3 x hx).1
  have h5:=VK (l:=jA (rowP w p y)) fun x hx=>(h3 x hx).1
  have h6:=Kw (r:=rowP w p y) (by omega)
  rw [oU,List.length_append,Nat.mul_succ]
  omega
theorem GI {w h:Nat} {p:List Bool} (g:yE w h p) (kind:Int):(dh w h p kind).length≤1048580:=by
 have hw0:=g.w0
 have hh:=g.h1
 have hwh:=g.wh
 have hp:=g.p
 have b0:(w+1)*h≤1052576:=by rw [Nat.add_mul,Nat.one_mul];omega
 have b1:3*(w+1)*h≤3157728:=by rw [Nat.mul_assoc];omega
 have b2:7*(w+1)*h≤7368032:=by rw [Nat.mul_assoc];omega
 have h1:=AZ hw0 hp h (Nat.le_refl _)
 have h2:=yg hp h (Nat.le_refl _)
 have h3:=KZ w h p
 unfold dh
 split
 ·rw [lN,jI];omega
 ·split
  ·omega
  ·split
   ·rw [lN];omega
   ·rw [lN];omega
end Go.Fv.H
/- shrink.fromAdaptive: the walk. -/
namespace Go.Fv.H
open Go Go.Proofs
end Go.Fv.H
/- Reading a number: the walk of ReadGamma. -/
namespace Go.Fv.H
open Go Go.Proofs
end Go.Fv.H
/- The closures of shrink.readLine. -/
namespace Go.Fv.H
open Go Go.Proofs
end Go.Fv.H
/- shrink.readLine: the walk. -/
namespace Go.Fv.H
open Go Go.Proofs
structure XV where
 p:Nat
 k:Bool
 n:Nat
 R:List Bool
structure UY (above:List Bool) (s:Bytes) (x:XV):Prop where
 hp:x.p≤above.length+1
 hn:x.n≤s.length
 hR:x.R.length=x.p - 1
 hz:above.length=0→x.n=0
 hq:tV true above s 0 false=match tV true above (s.drop x.n) x.p x.k with|none=>none|some (l,m)=>some (x.R++l,x.n+m)
theorem UY.first (above:List Bool) (s:Bytes):UY above s ⟨0,false,0,[]⟩:=by
 refine ⟨Nat.zero_le _,Nat.zero_le _,rfl,fun _=>rfl,?_⟩
 dsimp only
 rw [List.drop_zero]
 cases tV true above s 0 false with
 | none=>rfl
 | some x=>obtain ⟨l,m⟩:=x;dsimp only;rw [List.nil_append,Nat.zero_add]
theorem UY.step {above:List Bool} {s:Bytes} {p n:Nat} {k:Bool} {R:List Bool} (h:UY above s ⟨p,k,n,R⟩) (hp:p≤above.length) (h0:0<above.length) {y:UZ} (hy:rdStep true above (s.drop n) p k=some y) :
  UY above s ⟨y.p,y.k,n+y.n,R++y.px⟩∧p<y.p:=by
 obtain ⟨h1,h2,h3,_,h4⟩:=h
 obtain ⟨g1,g2,g3,g4⟩:=qB hp hy
 dsimp only at *
 rw [List.length_drop] at g4
 refine ⟨⟨g2,by dsimp only;omega,by dsimp only;rw [List.length_append,h3,g3];omega,fun h=>by omega,?_⟩,g1⟩
 dsimp only
 rw [h4,DW hp hy,List.drop_drop]
 cases tV true above (s.drop (n+y.n)) y.p y.k with
 | none=>rfl
 | some x=>obtain ⟨l,m⟩:=x;dsimp only;rw [List.append_assoc,Nat.add_assoc]
theorem UY.done {above:List Bool} {s:Bytes} {p n:Nat} {k:Bool} {R:List Bool} (h:UY above s ⟨p,k,n,R⟩) (hp:¬(p≤above.length∧0<above.length)):Iz true above s=some (R,n)∧R.length=above.length:=by
 have h1:p≤above.length+1:=h.hp
 have h2:R.length=p - 1:=h.hR
 have h3:above.length=0→n=0:=h.hz
 refine ⟨?_,by omega⟩
 unfold Iz
 by_cases h0:above.length=0
 ·have hR0:R.length=0:=by
   have h5:p≤1:=by rw [h0] at h1;exact h1
   rw [h2];exact Nat.sub_eq_zero_of_le h5
  rw [if_pos h0,h3 h0,List.eq_nil_of_length_eq_zero hR0]
 ·have h6:¬p≤above.length:=by omega
  rw [if_neg h0,h.hq,IB h6]
  dsimp only
  rw [List.append_nil,Nat.add_zero]
end Go.Fv.H
/- shrink.pageOf: the walk, kind by kind. -/
namespace Go.Fv.H
open Go Go.Proofs
end Go.Fv.H
/- shrink.pageOf at runs: the walk. -/
namespace Go.Fv.H
open Go Go.Proofs
end Go.Fv.H
/- shrink.pageOf at lines: the walk. -/
namespace Go.Fv.H
open Go Go.Proofs
end Go.Fv.H
/- A result that is owned becomes data; a nil slice in a result box becomes an owned row without elements. -/
namespace Go.Fv.H
open Go Go.Proofs
theorem fD.RN {P:Program} {f:Nat} {args:List AV} {out out':AV} {rows:List (Nat × Item)} (h:fD P f args out rows) (ho:fH rows out out'):fD P f args out' []:=
 ⟨h.1,fun w T vals hgl hv=>(h.2 w T vals hgl hv).mono fun e w' ⟨v,he,hb,hq⟩=>⟨v,he,hb,hq.ro ho⟩⟩
theorem bg.ent {P:Program} {w0:World} {T0:Bs} {res:List ResultVar} {out:AV} {rows:List (Nat × Item)} {s s':S} (he:aK w0 T0 0 s s') (h:bg P w0 T0 res out rows s'):bg P w0 T0 res out rows s:=
 fun a w hr=>h a w (he [] a w (fun _ hx=>by cases hx) hr)
end Go.Fv.H
/- shrink.Decode: the walk. -/
namespace Go.Fv.H
open Go Go.Proofs
def Xm (q:DQ):AV:=.tup [.agg [.int .i64 q.w,.int .i64 q.h,.ro (.bools q.p)],.int .i64 q.e]
def V9 (f:Nat) (s:Bytes) (q:DQ):Prop:=
 (q.e=0∧aC Tryz.prog f [.str s] (.tup [.agg [.int .i64 q.w,.int .i64 q.h,.own 0],.int .i64 q.e]) [(0,.row 4 (.bools q.p))]) ∨
 (q=XZ q.e∧q.e≠0∧aC Tryz.prog f [.str s] (.tup [.agg [.int .i64 0,.int .i64 0,.nilS],.int .i64 q.e]) [])
theorem V9.fr {f:Nat} {s:Bytes} {q:DQ} (h:V9 f s q):fD Tryz.prog f [.str s] (Xm q) []:=by
 rcases h with ⟨_,k⟩|⟨e,_,k⟩
 ·exact fD.RN (fD.iF k rfl rfl) (by simp [Xm,fH,aO,aT,bT,aF,lk,aI])
 ·rw [e]
  exact fD.RN (fD.iF k rfl rfl) (by simp [Xm,XZ,fH,aO,aT,bT,aF,lk,aI,nilRow])
end Go.Fv.H
/- shrink.Decode: the walk behind the first parts. -/
namespace Go.Fv.H
open Go Go.Proofs
end Go.Fv.H
/- strings.Builder.WriteByte. -/
namespace Go.Fv.H
open Go Go.Proofs
set_option maxHeartbeats 2000000 in
theorem uG (c:UInt8):gU Tryz.prog 54 [.ptr 0 0,.int .u8 c.toNat] [(0,.box 89 [.raw (.pointer none),.nilS])] 1 (.raw .nilIface) [(0,.box 89 [.ptr 0 0,.own 1]),(1,.row 5 (.ints .u8 (aj [c])))]:=by
 have k:=oD
 refine gU.aJ Tryz.func54 rfl (by decide) (by simp [Tryz.f54]) Gz [.tmp 4] rfl fun w0 T0 _=>?_
 simp only [Tryz.f54,aB]
 (repeat' with_reducible first|intro _|exact dn|refine rn ?_|refine ra ?_ ?_)
 refine ah.i [0] k 1 ?_
 (repeat' with_reducible first|intro _|refine rz ?_|refine ra ?_ ?_|omega|simp only [go_sem,S.PX,nD,nO,zL,Item.ren,ren,gK,List.getElem?_cons_zero,List.getElem?_cons_succ,List.getElem?_nil,List.filter])
 refine kU.of [(1,3)] 3 (by decide) (by decide) ?_ rfl ?_<;>simp only [go_sem,Int.natCast_succ,aj,List.map_cons,List.map_nil]
set_option maxHeartbeats 2000000 in
theorem xO (b:List UInt8) (c:UInt8) (hb:b.length≤100000000000):gU Tryz.prog 54 [.ptr 0 0,.int .u8 c.toNat] [(0,.box 89 [.ptr 0 0,.own 1]),(1,.row 5 (.ints .u8 (aj b)))] 2 (.raw .nilIface) [(0,.box 89 [.ptr 0 0,.own 2]),(2,.row 5 (.ints .u8 (aj (b++[c]))))]:=by
 have k:=xP 5 (aj b)
 have hbl:=kY b
 have he:aj (b++[c])=aj b++[(c.toNat:Int)]:=by unfold aj;rw [List.map_append];rfl
 generalize aj b=B at *
 generalize aj (b++[c])=C at *
 refine gU.aJ Tryz.func54 rfl (by decide) (by simp [Tryz.f54]) Po [.tmp 4] rfl fun w0 T0 _=>?_
 simp only [Tryz.f54,aB]
 (repeat' with_reducible first|intro _|exact dn|refine rn ?_|refine ra ?_ ?_)
 refine ah.i [0,1] k 2 ?_
 (repeat' with_reducible first|intro _|exact dn|refine rn ?_|refine ra ?_ ?_)
 refine kU.of [(2,3)] 3 (by decide) (by decide) ?_ rfl ?_<;>simp only [go_sem,Int.natCast_succ,he]
end Go.Fv.H
/- bedref1.plus: the walk. -/
namespace Go.Fv.H
open Go Go.Proofs
def Oh (k N m t:Nat):Bytes:=bP (k - t) (N / 256 ^ t)++bP t (N+m)
def BL (N m t:Nat):Nat:=(N%256 ^ t+m) / 256 ^ t
theorem QU (k N m:Nat):Oh k N m 0=bP k N:=by unfold Oh;rw [Nat.pow_zero,Nat.div_one,pR,List.append_nil];rfl
theorem QX (N m:Nat):BL N m 0=m:=by unfold BL;rw [Nat.pow_zero,Nat.mod_one,Nat.div_one,Nat.zero_add]
theorem VD (N m t:Nat):BL N m t≤m+1:=by
 unfold BL
 have hq:0<256 ^ t:=Nat.pow_pos (by decide)
 generalize 256 ^ t=q at *
 have h1:=Nat.mod_lt N hq
 have h2:(N%q+m) / q≤(q+m) / q:=Nat.div_le_div_right (by omega)
 rw [Nat.add_comm q,Nat.add_div_right _ hq] at h2
 have:=Nat.div_le_self m q
 omega
theorem QY (N m t:Nat):(N+m) / 256 ^ t=BL N m t+N / 256 ^ t:=by
 unfold BL
 have hq:0<256 ^ t:=Nat.pow_pos (by decide)
 generalize 256 ^ t=q at *
 have h:=Nat.div_add_mod N q
 have e:N+m=(N%q+m)+q*(N / q):=by omega
 rw [e,Nat.add_mul_div_left _ _ hq]
theorem QW (N m t:Nat):BL N m (t+1)=(BL N m t+N / 256 ^ t%256) / 256:=by
 unfold BL
 have hq:0<256 ^ t:=Nat.pow_pos (by decide)
 rw [Nat.pow_succ,Nat.mod_mul,←Nat.div_div_eq_div_mul]
 generalize 256 ^ t=q at *
 have e:N%q+q*(N / q%256)+m=(N%q+m)+q*(N / q%256):=by omega
 rw [e,Nat.add_mul_div_left _ _ hq]
theorem QO {k N m t:Nat} (ht:t≤k) (h:BL N m t=0∨t=k):Oh k N m t=bP k (N+m):=by
 rcases h with h|h
 ·have h2:=QY N m t
  rw [h,Nat.zero_add] at h2
  unfold Oh
  rw [←h2,←Ew,Nat.sub_add_cancel ht]
 ·subst h;unfold Oh;rw [Nat.sub_self,pR,List.nil_append]
theorem Ub {k N m t:Nat} (ht:t<k):Oh k N m t=bP (k - t - 1) (N / 256 ^ t / 256)++UInt8.ofNat (N / 256 ^ t)::bP t (N+m):=by
 unfold Oh
 have e:k - t=(k - t - 1)+1:=by omega
 rw [e,iq,List.append_assoc,List.singleton_append]
 rfl
theorem QT {k N m t:Nat} (ht:t<k):Oh k N m (t+1)=bP (k - t - 1) (N / 256 ^ t / 256)++UInt8.ofNat ((N+m) / 256 ^ t)::bP t (N+m):=by
 unfold Oh
 have e:k - (t+1)=k - t - 1:=by omega
 rw [e,Nat.pow_succ,←Nat.div_div_eq_div_mul,Nat.add_comm t 1,Ew 1 t]
 have e2:∀ n,bP 1 n=[UInt8.ofNat n]:=fun n=>by
  have:=iq 0 n
  rw [pR,List.nil_append] at this
  exact this
 rw [e2,List.singleton_append]
theorem Ua {k N m t:Nat} (ht:t≤k):(Oh k N m t).length=k:=by unfold Oh;rw [List.length_append,aS,aS];omega
set_option maxHeartbeats 4000000 in
theorem Uc (k N m:Nat) (hk:k≤2000000) (hm:m≤4294967296) :
  gU Tryz.prog 102 [.own 0,.int .i64 m] [(0,.row 5 (.ints .u8 (aj (bP k N))))] 1 (.tup []) [(0,.row 5 (.ints .u8 (aj (bP k (N+m)))))]:=by
 have hl0:(aj (bP k N)).length=k:=by rw [cZ,aS]
 refine gU.aJ Tryz.func102 rfl (by decide) (by simp [Tryz.f102]) Gz [] rfl fun w0 T0 _=>?_
 simp only [Tryz.f102,aB]
 (repeat' with_reducible first|intro _|refine rz ?_|refine ra ?_ ?_|omega|simp only [go_sem,hl0])
 refine aH.intro (fun t:Nat=>⟨30,[(4,.int .i64 ((k:Int) - 1 - (t:Int))),(1,.int .i64 (BL N m t)),(0,.own 0)],[(0,.row 5 (.ints .u8 (aj (Oh k N m t))))],1⟩) (fun t=>t≤k) (fun t=>k - t) 0 ?_ (Nat.zero_le _) fun t ht=>?_
 ·refine aK.UD 1 rfl (Nat.le_refl 1) ?_ ?_<;>simp only [go_sem,Int.natCast_succ,jY,QU,QX]
  all_goals omega
 have hx:=VD N m t
 by_cases hgo:0<BL N m t∧t<k
 ·have f1:(0<((BL N m t:Nat):Int))=True:=eq_true (by omega)
  have f2:(0≤(k:Int) - 1 - (t:Int))=True:=eq_true (by omega)
  have hnow:=Ub (N:=N) (m:=m) hgo.2
  have hnext:=QT (N:=N) (m:=m) hgo.2
  have hsum:=QY N m t
  have hxs:=QW N m t
  have hAl:=aS (k - t - 1) (N / 256 ^ t / 256)
  have hlen:(aj (Oh k N m t)).length=k:=by rw [cZ,Ua (by omega)]
  have hat:=qQ (bP (k - t - 1) (N / 256 ^ t / 256)) (UInt8.ofNat (N / 256 ^ t)) (bP t (N+m))
  have hset:=wF (bP (k - t - 1) (N / 256 ^ t / 256)) (UInt8.ofNat (N / 256 ^ t)) (UInt8.ofNat ((N+m) / 256 ^ t)) (bP t (N+m))
  rw [←hnow,hAl] at hat hset
  rw [←hnext] at hset
  have hbt:(UInt8.ofNat (N / 256 ^ t)).toNat=N / 256 ^ t%256:=by simp
  have hbv:(UInt8.ofNat ((N+m) / 256 ^ t)).toNat=(N+m) / 256 ^ t%256:=by simp
  rw [hbt] at hat
  rw [hbv] at hset
  have hix:((k:Int) - 1 - (t:Int)).toNat=k - t - 1:=by omega
  have hsh:∀ a:Nat,lF .i64 (a:Int) 8=((a / 256:Nat):Int):=fun a=>by
   unfold lF
   rw [show (2:Int) ^ (min (8:Int).toNat IntKind.i64.bits)=256 by rfl,Int.fdiv_eq_ediv_of_nonneg _ (by decide)]
   rfl
  have hv:((BL N m t:Nat):Int)+((N / 256 ^ t%256:Nat):Int)=((BL N m t+N / 256 ^ t%256:Nat):Int):=by omega
  have hw8:IntKind.u8.wrap ((BL N m t+N / 256 ^ t%256:Nat):Int)=(((N+m) / 256 ^ t%256:Nat):Int):=by rw [kS,hsum];omega
  have hq:=hsh (BL N m t+N / 256 ^ t%256)
  rw [←hxs] at hq
  have hb256:N / 256 ^ t%256<256:=Nat.mod_lt _ (by decide)
  generalize hx2:BL N m (t+1)=x2 at *
  generalize BL N m t=x at *
  generalize (N+m) / 256 ^ t%256=y at *
  generalize N / 256 ^ t%256=z at *
  (repeat' with_reducible first|intro _|refine rz ?_|refine ra ?_ ?_|omega|simp only [go_sem,f1,f2,hix,hlen,hat,hv])
  refine bZ.at _ hw8 ?_
  (repeat' with_reducible first|intro _|refine rz ?_|refine ra ?_ ?_|omega|simp only [go_sem,hix,hlen,hset,hq])
  refine ⟨t+1,aK.UD 1 rfl (Nat.le_refl 1) ?_ ?_,by omega,by omega⟩<;>simp only [go_sem,Int.natCast_succ,jY,hx2]
  all_goals omega
 ·have hd:=QO (N:=N) (m:=m) ht (by omega)
  by_cases f:0<BL N m t
  ·have f1:(0<((BL N m t:Nat):Int))=True:=eq_true (by omega)
   have f2:(0≤(k:Int) - 1 - (t:Int))=False:=eq_false (by omega)
   (repeat' with_reducible first|intro _|refine rz ?_|refine ra ?_ ?_|omega|simp only [go_sem,f1,f2])
   refine kU.auto 1 (Nat.le_refl 1) ?_ rfl ?_<;>simp only [go_sem,Int.natCast_succ,jY,hd]
  ·have f1:(0<((BL N m t:Nat):Int))=False:=eq_false (by omega)
   (repeat' with_reducible first|intro _|refine rz ?_|refine ra ?_ ?_|omega|simp only [go_sem,f1])
   refine kU.auto 1 (Nat.le_refl 1) ?_ rfl ?_<;>simp only [go_sem,Int.natCast_succ,jY,hd]
end Go.Fv.H
/- bedref1.adaptive: the walk. -/
namespace Go.Fv.H
open Go Go.Proofs
set_option maxHeartbeats 16000000 in
theorem AP (w h:Nat) (hw0:0<w) (hw:w≤4000) (hh:h≤4000) (hwh:w*h≤1048576) (p:List Bool) (hp:p.length=w*h) :
  aC Tryz.prog 63 [.agg [.int .i64 w,.int .i64 h,.ro (.bools p)]] (.str (OI w h p)) []:=by
 refine aC.aJ Tryz.func63 rfl (by decide) (by simp [Tryz.f63]) [.tmp 2] rfl fun w0 T0 _=>?_
 simp only [Tryz.f63,aB]
 (repeat' with_reducible first|intro _|exact dn|refine rn ?_|refine ra ?_ ?_)
 have hT:=IU
 have hg0:=@Nc
 have ht0:jH (fQ w h p 0).tab=jH yN:=rfl
 refine aH.intro (fun i:Nat=>⟨88,[(14,.int .i64 i),(13,.int .i64 1024),(3,.own 1),(1,.ptr 0 0)],[(0,.box 24 [.int .i64 w,.int .i64 h,.ro (.bools p)]),(1,.row 3 (.ints .i64 ((jH yN).take i++List.replicate (1024 - i) 0)))],2⟩) (fun i=>i≤1024) (fun i=>1024 - i) 0 ?_ (Nat.zero_le _) fun i hi=>?_
 ·refine aK.ak rfl ?_ ?_<;>simp only [go_sem,Int.natCast_succ]
  all_goals rfl
 have htl:((jH yN).take i).length=i:=by rw [List.length_take,hT];omega
 by_cases hlt:i<1024
 ·have f1:((i:Int)<1024)=True:=eq_true (by omega)
  have hg:(jH yN).getD i 0=2048:=hg0 hlt
  have hs:=nM (z:=0) (d:=0) hT hlt
  rw [hg] at hs
  (repeat' with_reducible first|intro _|refine rz ?_|refine ra ?_ ?_|omega|simp only [go_sem,f1,htl])
  rw [hs]
  refine ⟨i+1,aK.ak rfl ?_ ?_,by omega,by omega⟩<;>simp only [go_sem,Int.natCast_succ]
 have f1:((i:Int)<1024)=False:=eq_false (by omega)
 have e:i=1024:=by omega
 subst e
 have hfull:(jH yN).take 1024=jH yN:=List.take_of_length_le (by rw [hT];exact Nat.le_refl _)
 rw [hfull,Nat.sub_self,List.replicate_zero,List.append_nil]
 (repeat' with_reducible first|intro _|refine rz ?_|refine ra ?_ ?_|omega|simp only [go_sem,f1])
 refine aH.intro (fun y:Nat=>⟨88,[(24,.int .i64 y),(23,.int .i64 h),(6,.int .i64 (fQ w h p (y*w)).span),(5,.own 2),(3,.own 1),(1,.ptr 0 0)],[(0,.box 24 [.int .i64 w,.int .i64 h,.ro (.bools p)]),(1,.row 3 (.ints .i64 (jH (fQ w h p (y*w)).tab))),(2,.row 5 (.ints .u8 (aj (bP (4+(fQ w h p (y*w)).sh) (fQ w h p (y*w)).big))))],3⟩) (fun y=>y≤h) (fun y=>h - y) 0 ?_ (Nat.zero_le _) fun y hy=>?_
 ·rw [Nat.zero_mul,ht0]
  refine aK.ak rfl ?_ ?_<;>simp only [go_sem,Int.natCast_succ]
  all_goals first|rfl|(show [0,0,0,0]=aj (bP 4 0);rw [be4];rfl)
 by_cases hylt:y<h
 rotate_left
 ·have f1:((y:Int)<(h:Int))=False:=eq_false (by omega)
  have e:y=h:=by omega
  subst e
  have hbk:=iw (OI w y p)
  have hall:OI w y p=bP (4+(fQ w y p (y*w)).sh) (fQ w y p (y*w)).big:=by unfold OI;rw [hp,Nat.mul_comm]
  rw [←hall]
  (repeat' with_reducible first|intro _|refine rz ?_|refine ra ?_ ?_|omega|simp only [go_sem,f1])
  refine bg.auto 0 ?_ rfl ?_<;>simp only [go_sem,Int.natCast_succ,Post,hbk]
 have fy:((y:Int)<(h:Int))=True:=eq_true (by omega)
 (repeat' with_reducible first|intro _|refine rz ?_|refine ra ?_ ?_|omega|simp only [go_sem,fy])
 refine aH.intro (fun x:Nat=>⟨88,[(29,.int .i64 x),(28,.int .i64 w),(7,.int .i64 y),(24,.int .i64 y),(23,.int .i64 h),(6,.int .i64 (fQ w h p (y*w+x)).span),(5,.own 2),(3,.own 1),(1,.ptr 0 0)],[(0,.box 24 [.int .i64 w,.int .i64 h,.ro (.bools p)]),(1,.row 3 (.ints .i64 (jH (fQ w h p (y*w+x)).tab))),(2,.row 5 (.ints .u8 (aj (bP (4+(fQ w h p (y*w+x)).sh) (fQ w h p (y*w+x)).big))))],3⟩) (fun x=>x≤w) (fun x=>w - x) 0 ?_ (Nat.zero_le _) fun x hx=>?_
 ·rw [Nat.add_zero]
  refine aK.ak rfl ?_ ?_<;>simp only [go_sem,Int.natCast_succ]
 by_cases hxlt:x<w
 rotate_left
 ·have f1:((x:Int)<(w:Int))=False:=eq_false (by omega)
  have e:x=w:=by omega
  subst e
  rw [←Nat.succ_mul]
  (repeat' with_reducible first|intro _|refine rz ?_|refine ra ?_ ?_|omega|simp only [go_sem,f1])
  refine ⟨y+1,aK.ak rfl ?_ ?_,by omega,by omega⟩<;>simp only [go_sem,Int.natCast_succ]
 have fx:((x:Int)<(w:Int))=True:=eq_true (by omega)
 have hsh:=MZ w h p (y*w+x)
 have hlt:y*w+x<w*h:=by
  have h1:y*w+w≤h*w:=by rw [←Nat.succ_mul];exact Nat.mul_le_mul_right _ hylt
  rw [Nat.mul_comm w h];omega
 have hm1:(y*w+x)%w=x:=by rw [Nat.mul_add_mod',Nat.mod_eq_of_lt hxlt]
 have hm2:(y*w+x) / w=y:=by
  rw [Nat.mul_comm,Nat.mul_add_div hw0,Nat.div_eq_of_lt hxlt,Nat.add_zero]
 have hnext:fQ w h p (y*w+(x+1))=((fQ w h p (y*w+x)).mid (yH w h p (x:Int) (y:Int)) (p.getD (y*w+x) false)).norm:=by
  have e:fQ w h p (y*w+x+1)=((fQ w h p (y*w+x)).mid (yH w h p (((y*w+x)%w:Nat):Int) (((y*w+x) / w:Nat):Int)) (p.getD (y*w+x) false)).norm:=rfl
  rw [hm1,hm2] at e
  exact e
 have kc:=ED w h hw hh p hp (x:Int) (y:Int) (by omega) (by omega)
 have ka:=IC w h hw hh p hp (x:Int) (y:Int)
 rw [Jo p hxlt hylt] at ka
 have hc:=yV w h p (x:Int) (y:Int)
 have hok:=yS w h p (y*w+x)
 generalize yH w h p (x:Int) (y:Int)=c at *
 generalize p.getD (y*w+x) false=ink at *
 generalize fQ w h p (y*w+x)=s at *
 obtain ⟨ht1,ht2⟩:=AE.Fz hok hc
 obtain ⟨hm1,hm2⟩:=AE.Qg hok hc
 have hlo:=hok.lo
 have hhi:=hok.hi
 have hlen:=hok.len
 have hg:=MN (l:=s.tab) (i:=c) (by rw [hlen];exact hc)
 have hgl:=Ib s.tab
 have q1:((s.span:Nat):Int).tdiv 4096=((s.span / 4096:Nat):Int):=by rw [Int.tdiv_eq_ediv_of_nonneg (Int.natCast_nonneg _)];rfl
 have q2:((s.span / 4096:Nat):Int)*((s.tab.getD c 0:Nat):Int)=((s.m c:Nat):Int):=(Int.natCast_mul _ _).symm
 have hnlo:=(AE.step_ok hok hc ink).lo
 unfold AE.step at hnlo
 obtain ⟨M,hM⟩:∃ M,s.mid c ink=M:=⟨_,rfl⟩
 have hMt:M.tab=s.tab.set c (Hz (s.tab.getD c 0) ink):=by rw [←hM];rfl
 have hMh:M.sh=s.sh:=by rw [←hM];rfl
 have hMs0:M.span=if ink=true then s.span - s.m c else s.m c:=by rw [←hM];rfl
 have hMb0:M.big=if ink=true then s.big+s.m c else s.big:=by rw [←hM];rfl
 rw [hM] at hnext hnlo
 have hset:=Ic s.tab c (Hz (s.tab.getD c 0) ink)
 have hlrn:=ET ⟨ht1,ht2⟩ ink
 (repeat' with_reducible first|intro _|refine rz ?_|refine ra ?_ ?_|omega|simp only [go_sem,fx])
 refine ah.k kc ?_
 (repeat' with_reducible first|intro _|refine rz ?_|refine ra ?_ ?_|omega|simp only [go_sem,q1,q2,hg,hgl,hlen])
 refine ah.k ka ?_
 cases ink with
 | true=>
  rw [if_pos rfl] at hMs0 hMb0
  have hspI:(s.span:Int) - (s.m c:Int)=((s.span - s.m c:Nat):Int):=by omega
  have kp:=Uc (4+s.sh) s.big (s.m c) (by omega) (by omega)
  have d1:((s.tab.getD c 0:Nat):Int).tdiv 32=((s.tab.getD c 0 / 32:Nat):Int):=by rw [Int.tdiv_eq_ediv_of_nonneg (Int.natCast_nonneg _)];rfl
  have d2:((s.tab.getD c 0:Nat):Int) - ((s.tab.getD c 0 / 32:Nat):Int)=((Hz (s.tab.getD c 0) true:Nat):Int):=by
   have:Hz (s.tab.getD c 0) true=s.tab.getD c 0 - s.tab.getD c 0 / 32:=rfl
   omega
  (repeat' with_reducible first|intro _|exact dn|refine rn ?_|refine ra ?_ ?_)
  refine ah.i [2] kp 1 ?_
  (repeat' with_reducible first|intro _|refine rz ?_|refine ra ?_ ?_|omega|simp only [go_sem,hspI])
  refine bC.lex [11] [] (by kernel_rfl) (by kernel_rfl) ?_
  (repeat' with_reducible first|intro _|refine rz ?_|refine ra ?_ ?_|omega|simp only [go_sem,hg,hgl,hlen,d1,d2,hset])
  refine aH.intro (fun r:AE=>⟨88,[(29,.int .i64 x),(28,.int .i64 w),(7,.int .i64 y),(24,.int .i64 y),(23,.int .i64 h),(6,.int .i64 r.span),(5,.own 2),(3,.own 1),(1,.ptr 0 0)],[(0,.box 24 [.int .i64 w,.int .i64 h,.ro (.bools p)]),(1,.row 3 (.ints .i64 (jH r.tab))),(2,.row 5 (.ints .u8 (aj (bP (4+r.sh) r.big))))],3⟩) (fun r=>r=M∨r=M.norm) (fun r=>if r.span<16777216 then 1 else 0) M ?_ (.inl rfl) fun r hr=>?_
  ·refine aK.ak rfl ?_ ?_<;>simp only [go_sem,Int.natCast_succ,hMs0,hMt,hMh,hMb0]
  by_cases hs2:r.span<16777216
  ·have hrM:r=M:=hr.resolve_right fun e=>by rw [e] at hs2;omega
   subst hrM
   have hnm:r.norm=⟨r.big*256,r.span*256,r.sh+1,r.tab⟩:=by unfold AE.norm;rw [if_pos hs2]
   have f5:((r.span:Int)<16777216)=True:=eq_true (by omega)
   have hol:(aj (bP (4+r.sh) r.big)).length=4+r.sh:=by rw [cZ,aS]
   have hss:(r.span:Int)*256=((r.span*256:Nat):Int):=by omega
   have hout2:aj (bP (4+r.sh) r.big)++[0]=aj (bP (4+(r.sh+1)) (r.big*256)):=by
    rw [←Nat.add_assoc,iq,lH,Nat.mul_div_cancel _ (by decide)]
    congr 1
    have:UInt8.ofNat (r.big*256)=0:=UInt8.toNat_inj.1 (by simp)
    rw [this];rfl
   (repeat' with_reducible first|intro _|refine rz ?_|refine ra ?_ ?_|omega|simp only [go_sem,f5,hol,hss])
   refine ⟨r.norm,aK.ak rfl ?_ ?_,.inr rfl,?_⟩
   ·simp only [go_sem,Int.natCast_succ,hnm]
    all_goals first|rfl|omega
   ·simp only [go_sem,Int.natCast_succ,hnm,hout2]
   ·rw [if_pos hs2,if_neg (by omega)];omega
  ·have hrn:r=M.norm:=by
    rcases hr with e|e
    ·rw [e] at hs2 ⊢;unfold AE.norm;rw [if_neg hs2]
    ·exact e
   have f5:((r.span:Int)<16777216)=False:=eq_false (by omega)
   rw [←hrn] at hnext
   (repeat' with_reducible first|intro _|refine rz ?_|refine ra ?_ ?_|omega|simp only [go_sem,f5])
   refine ⟨x+1,aK.ak rfl ?_ ?_,by omega,by omega⟩<;>simp only [go_sem,Int.natCast_succ,hnext]
 | false=>
  rw [if_neg (by decide)] at hMs0 hMb0
  have d1:(4096 - ((s.tab.getD c 0:Nat):Int)).tdiv 32=(((4096 - s.tab.getD c 0) / 32:Nat):Int):=by rw [Int.tdiv_eq_ediv_of_nonneg (by omega)];omega
  have d2:((s.tab.getD c 0:Nat):Int)+(((4096 - s.tab.getD c 0) / 32:Nat):Int)=((Hz (s.tab.getD c 0) false:Nat):Int):=by
   have:Hz (s.tab.getD c 0) false=s.tab.getD c 0+(4096 - s.tab.getD c 0) / 32:=rfl
   omega
  (repeat' with_reducible first|intro _|exact dn|refine rn ?_|refine ra ?_ ?_)
  refine bC.lex [12] [] (by kernel_rfl) (by kernel_rfl) ?_
  (repeat' with_reducible first|intro _|refine rz ?_|refine ra ?_ ?_|omega|simp only [go_sem,hg,hgl,hlen,d1,d2,hset])
  refine aH.intro (fun r:AE=>⟨88,[(29,.int .i64 x),(28,.int .i64 w),(7,.int .i64 y),(24,.int .i64 y),(23,.int .i64 h),(6,.int .i64 r.span),(5,.own 2),(3,.own 1),(1,.ptr 0 0)],[(0,.box 24 [.int .i64 w,.int .i64 h,.ro (.bools p)]),(1,.row 3 (.ints .i64 (jH r.tab))),(2,.row 5 (.ints .u8 (aj (bP (4+r.sh) r.big))))],3⟩) (fun r=>r=M∨r=M.norm) (fun r=>if r.span<16777216 then 1 else 0) M ?_ (.inl rfl) fun r hr=>?_
  ·refine aK.ak rfl ?_ ?_<;>simp only [go_sem,Int.natCast_succ,hMs0,hMt,hMh,hMb0]
  by_cases hs2:r.span<16777216
  ·have hrM:r=M:=hr.resolve_right fun e=>by rw [e] at hs2;omega
   subst hrM
   have hnm:r.norm=⟨r.big*256,r.span*256,r.sh+1,r.tab⟩:=by unfold AE.norm;rw [if_pos hs2]
   have f5:((r.span:Int)<16777216)=True:=eq_true (by omega)
   have hol:(aj (bP (4+r.sh) r.big)).length=4+r.sh:=by rw [cZ,aS]
   have hss:(r.span:Int)*256=((r.span*256:Nat):Int):=by omega
   have hout2:aj (bP (4+r.sh) r.big)++[0]=aj (bP (4+(r.sh+1)) (r.big*256)):=by
    rw [←Nat.add_assoc,iq,lH,Nat.mul_div_cancel _ (by decide)]
    congr 1
    have:UInt8.ofNat (r.big*256)=0:=UInt8.toNat_inj.1 (by simp)
    rw [this];rfl
   (repeat' with_reducible first|intro _|refine rz ?_|refine ra ?_ ?_|omega|simp only [go_sem,f5,hol,hss])
   refine ⟨r.norm,aK.ak rfl ?_ ?_,.inr rfl,?_⟩
   ·simp only [go_sem,Int.natCast_succ,hnm]
    all_goals first|rfl|omega
   ·simp only [go_sem,Int.natCast_succ,hnm,hout2]
   ·rw [if_pos hs2,if_neg (by omega)];omega
  ·have hrn:r=M.norm:=by
    rcases hr with e|e
    ·rw [e] at hs2 ⊢;unfold AE.norm;rw [if_neg hs2]
    ·exact e
   have f5:((r.span:Int)<16777216)=False:=eq_false (by omega)
   rw [←hrn] at hnext
   (repeat' with_reducible first|intro _|refine rz ?_|refine ra ?_ ?_|omega|simp only [go_sem,f5])
   refine ⟨x+1,aK.ak rfl ?_ ?_,by omega,by omega⟩<;>simp only [go_sem,Int.natCast_succ,hnext]
end Go.Fv.H
