/-
  A part of the proof of the claim: walks over the program's functions and the plain laws that these need. No condition of its own.
-/
import Derived.Test.YtodlgmmbfbiilaaGreatDoorHTopPkCardPart5
import Derived.Test.YtodlgmmbfbiilaaGreatDoorHTopPkCardPart4
import Derived.Test.YtodlgmmbfbiilaaGreatDoorHTopPkCardPart3
import Derived.Test.YtodlgmmbfbiilaaGreatDoorHTopPkCardPart2
import Derived.Test.YtodlgmmbfbiilaaGreatDoorFvPart10
import Derived.Test.YtodlgmmbfbiilaaGreatDoorHTopPkCardPart1
set_option linter.unusedSimpArgs false
set_option linter.unusedVariables false
set_option linter.unnecessarySimpa false
set_option maxRecDepth 8000
/- shrink.Encode, Context, Best: the walk. -/
namespace Go.Fv.H
open Go Go.Proofs
structure lC (w h:Nat) (p:List Bool):Prop where
 w0:0<w
 w1:w≤4000
 h0:0<h
 h1:h≤4000
 wh:w*h≤1048576
 p:p.length=w*h
theorem lC.err {w h:Nat} {p:List Bool} (g:lC w h p):jq w h p.length=0:=by
 obtain ⟨g1,g2,g3,g4,g5,g6⟩:=g
 unfold jq
 have e:((w:Int)*(h:Int))=((w*h:Nat):Int):=(Int.natCast_mul w h).symm
 rw [qc (by omega) (by omega) (by omega) (by omega) (by rw [e];omega),g6,e]
 simp
theorem jP (kind:Int):aC Tryz.prog 66 [.int .i64 kind] (.bool (decide (1≤kind∧kind≤4))) []:=by
 refine aC.aJ Tryz.func66 rfl (by decide) (by simp [Tryz.f66]) [.tmp 2] rfl fun w0 T0 _=>?_
 simp only [Tryz.f66,aB]
 (repeat' with_reducible first|intro _|exact dn|refine rn ?_|refine ra ?_ ?_)
 refine bf.auto 0 ?_ rfl ?_<;>simp only [go_sem,Int.natCast_succ,Post]
def fU (w h:Nat) (p:List Bool):Nat→Bytes × Int
 | 0=>([],0)
 | k+1=>if (fU w h p k).2=0∨(dN w h p ((k:Int)+1)).length<(fU w h p k).1.length then (dN w h p ((k:Int)+1),(k:Int)+1) else fU w h p k
set_option maxHeartbeats 4000000 in
theorem Vs (w h:Nat) (p:List Bool) (g:lC w h p) :
  aC Tryz.prog 78 [.agg [.int .i64 w,.int .i64 h,.ro (.bools p)]] (.tup [.str (fU w h p 4).1,.int .i64 (fU w h p 4).2]) []:=by
 refine aC.aJ Tryz.func78 rfl (by decide) (by simp [Tryz.f78]) [.tmp 2,.tmp 3] rfl fun w0 T0 _=>?_
 simp only [Tryz.f78,aB]
 (repeat' with_reducible first|intro _|exact dn|refine rn ?_|refine ra ?_ ?_)
 refine aI.intro (fun i:Nat=>⟨26,[(4,.int .i64 ((i:Int)+1)),(3,.int .i64 (fU w h p i).2),(2,.str (fU w h p i).1),(1,.ptr 0 0)],[(0,.box 24 [.int .i64 w,.int .i64 h,.ro (.bools p)])],1⟩) (fun i=>i≤4) (fun i=>4 - i) 0 ?_ (Nat.zero_le _) fun i hi=>?_
 ·refine aO.ak rfl ?_ ?_<;>simp only [go_sem,Int.natCast_succ]
  all_goals first|rfl|exact ⟨rfl,rfl⟩|exact ⟨rfl,rfl,rfl⟩
 by_cases hlt:i<4
 ·have f1:((i:Int)+1≤4)=True:=eq_true (by omega)
  have ke:=oC w h g.w0 g.w1 g.h1 g.wh p g.p ((i:Int)+1) (by omega)
  have hst:fU w h p (i+1)=if (fU w h p i).2=0∨(dN w h p ((i:Int)+1)).length<(fU w h p i).1.length then (dN w h p ((i:Int)+1),(i:Int)+1) else fU w h p i:=rfl
  generalize dN w h p ((i:Int)+1)=e at *
  generalize hb:fU w h p i=b at *
  obtain ⟨s,k⟩:=b
  dsimp only at *
  (repeat' with_reducible first|intro _|refine rz ?_|refine ra ?_ ?_|omega|simp only [go_sem,f1])
  refine ah.k ke ?_
  by_cases h0:k=0
  ·have f2:(k=0)=True:=eq_true h0
   rw [if_pos (.inl h0)] at hst
   (repeat' with_reducible first|intro _|refine rz ?_|refine ra ?_ ?_|omega|simp only [go_sem,f2])
   refine ⟨i+1,aO.ak rfl ?_ ?_,by omega,by omega⟩<;>simp only [go_sem,Int.natCast_succ,hst]
  have f2:(k=0)=False:=eq_false h0
  by_cases h3:e.length<s.length
  ·have f3:((e.length:Int)<(s.length:Int))=True:=eq_true (by omega)
   rw [if_pos (.inr h3)] at hst
   (repeat' with_reducible first|intro _|refine rz ?_|refine ra ?_ ?_|omega|simp only [go_sem,f2,f3])
   refine ⟨i+1,aO.ak rfl ?_ ?_,by omega,by omega⟩<;>simp only [go_sem,Int.natCast_succ,hst]
  ·have f3:((e.length:Int)<(s.length:Int))=False:=eq_false (by omega)
   rw [if_neg (fun q=>q.elim h0 h3)] at hst
   (repeat' with_reducible first|intro _|refine rz ?_|refine ra ?_ ?_|omega|simp only [go_sem,f2,f3])
   refine ⟨i+1,aO.ak rfl ?_ ?_,by omega,by omega⟩<;>simp only [go_sem,Int.natCast_succ,hst]
 ·have f1:((i:Int)+1≤4)=False:=eq_false (by omega)
  have e:i=4:=by omega
  subst e
  (repeat' with_reducible first|intro _|refine rz ?_|refine ra ?_ ?_|omega|simp only [go_sem,f1])
  refine bf.auto 0 ?_ rfl ?_<;>simp only [go_sem,Int.natCast_succ,Post]
end Go.Fv.H
/- The reading of a page, in plain words. -/
namespace Go.Fv.H
open Go
structure DQ where
 (w h:Nat) (p:List Bool) (e:Int)
def dK (s:Bytes):Nat:=bV (s.take 1)
def dW (s:Bytes):Nat:=bV ((s.drop 1).take 2)
def dH (s:Bytes):Nat:=bV ((s.drop 3).take 2)
def dL (s:Bytes):Nat:=bV ((s.drop 5).take 4)
def dD (s:Bytes):Bytes:=(s.drop 9).take (s.length - 17)
def xI (s:Bytes):List Bool × Bool:=mJ (dK s) (dW s) (dH s) (dD s)
def sD (e:Int):DQ:=⟨0,0,[],e⟩
def SC (s:Bytes):Prop:=(xI s).2=true∧dN (dW s) (dH s) (xI s).1 (dK s)=s
instance (s:Bytes):Decidable (SC s):=inferInstanceAs (Decidable (_∧_))
def fO (s:Bytes):DQ:=
 if 2097152<s.length then sD 4
 else if s.length<17∨s.length≠17+dL s then sD 8
 else if dX (s.take (s.length - 8))≠s.drop (s.length - 8) then sD 14
 else if ¬(1≤dK s∧dK s≤4) then sD 1
 else if bG (dW s) (dH s)≠0 then sD (bG (dW s) (dH s))
 else if SC s then ⟨dW s,dH s,(xI s).1,0⟩ else sD 8
theorem MO {n:Nat} {s:Bytes} (h:(nU n s).2=true):(nU n s).1.length=n:=by
 unfold nU at h ⊢
 split at h
 ·cases h
 ·rename_i hs
  rw [if_neg hs]
  unfold rC
  rw [List.length_map,List.length_take];omega
theorem EW (w:Nat):∀ (f:Nat) (n:Nat) (ink:Bool) (s:Bytes),s.length≤f→n≤w→∀ t,(fB w n ink s).2=some t→(fB w n ink s).1.length=w - n
 | f,n,ink,s,hf,hn,t,h=>by
  by_cases hnw:n<w
  rotate_left
  ·rw [yh hnw]
   show (0:Nat)=_;omega
  cases hrd:oM s with
  | none=>rw [BZ hnw ink hrd] at h;cases h
  | some z=>
   obtain ⟨m,l⟩:=z
   by_cases hov:w - n<m - 1
   ·rw [Cb hnw ink hrd hov] at h;cases h
   rw [uM hnw ink hrd hov] at h ⊢
   have h1:=Gz hrd
   have h2:=nJ hrd
   cases f with
   | zero=>omega
   | succ f=>
    have ih:=EW w f (n+(m - 1)) (!ink) (s.drop l) (by rw [List.length_drop];omega) (by omega) t h
    show (List.replicate (m - 1) ink++_).length=_
    rw [List.length_append,List.length_replicate,ih];omega
theorem BX (w:Nat):∀ (h:Nat) (s:Bytes),(eG w h s).2=true→(eG w h s).1.length=w*h
 | 0,s,_=>rfl
 | h+1,s,hq=>by
  have e:eG w (h+1) s=pY (eG w h) (fB w 0 false s):=rfl
  rw [e] at hq ⊢
  have hl:=EW w s.length 0 false s (Nat.le_refl _) (Nat.zero_le _)
  generalize fB w 0 false s=q at *
  obtain ⟨q1,q2⟩:=q
  cases q2 with
  | none=>cases hq
  | some t=>
   have hq2:(eG w h t).2=true:=hq
   have ih:=BX w h t hq2
   have:=hl t rfl
   show (q1++(eG w h t).1).length=_
   rw [List.length_append,ih,Nat.mul_succ]
   dsimp only at this
   omega
theorem Bo (w:Nat):∀ (h:Nat) (ab:List Bool) (s:Bytes),ab.length=w→(dJ h ab s).2=true→(dJ h ab s).1.length=w*h
 | 0,_,_,_,_=>rfl
 | h+1,ab,s,ha,hq=>by
  cases hr:gB true ab s with
  | none=>
   have e:dJ (h+1) ab s=([],false):=by
    show (match gB true ab s with|none=>_|some (r,n)=>_)=_
    rw [hr]
   rw [e] at hq;cases hq
  | some z=>
   obtain ⟨r,n⟩:=z
   have e:dJ (h+1) ab s=(r++(dJ h r (s.drop n)).1,(dJ h r (s.drop n)).2):=by
    show (match gB true ab s with|none=>_|some (r,n)=>_)=_
    rw [hr]
   rw [e] at hq ⊢
   have hrl:=(J3 hr).1
   have ih:=Bo w h r (s.drop n) (by omega) hq
   show (r++(dJ h r (s.drop n)).1).length=_
   rw [List.length_append,ih,Nat.mul_succ];omega
theorem BJ {kind:Int} {w h:Nat} {d:Bytes} (hq:(mJ kind w h d).2=true):(mJ kind w h d).1.length=w*h:=by
 unfold mJ at hq ⊢
 split at hq
 ·rename_i h4;rw [if_pos h4];exact (FP w h d (w*h) (w*h)).P
 ·rename_i h4
  rw [if_neg h4]
  split at hq
  ·rename_i h1;rw [if_pos h1];exact MO hq
  ·rename_i h1
   rw [if_neg h1]
   split at hq
   ·rename_i h2;rw [if_pos h2];exact BX w h _ hq
   ·rename_i h2;rw [if_neg h2];exact Bo w h _ _ List.length_replicate hq
theorem EC (w h:Nat) (p:List Bool) (kind:Int):(headB w h p kind).length=9+(dw w h p kind).length:=by
 unfold headB
 simp only [List.length_append,aP]
theorem ou (w h:Nat) (p:List Bool) (kind:Int):(dN w h p kind).length=17+(dw w h p kind).length:=by
 unfold dN
 rw [List.length_append,EC,rH];omega
theorem oz (w h:Nat) (p:List Bool) (kind:Int):dN w h p kind=dV 1 kind.toNat++(dV 2 w++(dV 2 h++(dV 4 (dw w h p kind).length++(dw w h p kind++dX (headB w h p kind))))):=by
 unfold dN
 generalize dX (headB w h p kind)=S
 unfold headB
 simp only [List.append_assoc]
theorem take_len {a b:Bytes} {n:Nat} (h:a.length=n):(a++b).take n=a:=by rw [←h,List.take_left]
theorem qI {a b:Bytes} {n:Nat} (h:a.length=n):(a++b).drop n=b:=by rw [←h,List.drop_left]
theorem oh {a b:Bytes} {n m:Nat} (h:a.length=n):(a++b).drop (n+m)=b.drop m:=by rw [←List.drop_drop,qI h]
theorem XR (w h:Nat) (p:List Bool) {kind:Int} (hk:1≤kind∧kind≤4):(dK (dN w h p kind):Int)=kind:=by
 unfold dK
 rw [oz,take_len (aP _ _),nH,Nat.mod_eq_of_lt (by omega)];omega
theorem XU {w:Nat} (h:Nat) (p:List Bool) (kind:Int) (hw:w≤4000):dW (dN w h p kind)=w:=by
 unfold dW
 rw [oz,qI (aP _ _),take_len (aP _ _),nH,Nat.mod_eq_of_lt (by omega)]
theorem XQ (w:Nat) {h:Nat} (p:List Bool) (kind:Int) (hh:h≤4000):dH (dN w h p kind)=h:=by
 unfold dH
 rw [oz,show (3:Nat)=1+2 from rfl,oh (aP _ _),qI (aP _ _),take_len (aP _ _),nH,Nat.mod_eq_of_lt (by omega)]
theorem XT (w h:Nat) (p:List Bool) (kind:Int) (hd:(dw w h p kind).length≤100000000):dL (dN w h p kind)=(dw w h p kind).length:=by
 unfold dL
 rw [oz,show (5:Nat)=1+(2+2) from rfl,oh (aP _ _),oh (aP _ _),qI (aP _ _),take_len (aP _ _),nH,Nat.mod_eq_of_lt (by omega)]
theorem XP (w h:Nat) (p:List Bool) (kind:Int):dD (dN w h p kind)=dw w h p kind:=by
 unfold dD
 have hl:=ou w h p kind
 have e:(dN w h p kind).length - 17=(dw w h p kind).length:=by omega
 rw [e,oz,show (9:Nat)=1+(2+(2+4)) from rfl,oh (aP _ _),oh (aP _ _),oh (aP _ _),qI (aP _ _),take_len rfl]
theorem SE (w h:Nat) (p:List Bool) (kind:Int):dX ((dN w h p kind).take ((dN w h p kind).length - 8))=(dN w h p kind).drop ((dN w h p kind).length - 8):=by
 have hl:=ou w h p kind
 have hl2:=EC w h p kind
 have e:(dN w h p kind).length - 8=(headB w h p kind).length:=by omega
 rw [e]
 unfold dN
 rw [List.take_left,List.drop_left]
theorem IY {w h:Nat} {p:List Bool} (g:lC w h p) {kind:Int} (hk:1≤kind∧kind≤4) (hs:(dN w h p kind).length≤2097152):fO (dN w h p kind)=⟨w,h,p,0⟩:=by
 have hl:=ou w h p kind
 have k1:=XR w h p hk
 have k2:=XU h p kind g.w1
 have k3:=XQ w p kind g.h1
 have k4:=XT w h p kind (by omega)
 have k5:=XP w h p kind
 have k6:=SE w h p kind
 have hpg:xI (dN w h p kind)=(p,true):=by
  unfold xI
  rw [k1,k2,k3,k5]
  exact Qr g.w0 g.w1 g.p hk
 unfold fO
 rw [if_neg (by omega),if_neg (by omega),if_neg (fun h=>h k6),if_neg (by omega)]
 have hsz:bG (w:Int) (h:Int)=0:=by
  have e:((w:Int)*(h:Int))=((w*h:Nat):Int):=(Int.natCast_mul w h).symm
  have g1:=g.w0
  have g2:=g.w1
  have g3:=g.h0
  have g4:=g.h1
  have g5:=g.wh
  exact qc (by omega) (by omega) (by omega) (by omega) (by rw [e];omega)
 have hgood:SC (dN w h p kind):=⟨by rw [hpg],by rw [hpg,k1,k2,k3]⟩
 rw [k2,k3,if_neg (fun h=>h hsz),if_pos hgood,hpg]
theorem VK {s:Bytes} (h:(fO s).e=0):lC (fO s).w (fO s).h (fO s).p∧(1≤(dK s:Int)∧(dK s:Int)≤4)∧dN (fO s).w (fO s).h (fO s).p (dK s)=s∧s.length≤2097152:=by
 unfold fO at h ⊢
 split at h
 ·cases h
 ·rename_i h1
  rw [if_neg h1]
  split at h
  ·cases h
  ·rename_i h2
   rw [if_neg h2]
   split at h
   ·cases h
   ·rename_i h3
    rw [if_neg h3]
    split at h
    ·cases h
    ·rename_i h4
     rw [if_neg h4]
     split at h
     ·rename_i h5;exact absurd h h5
     ·rename_i h5
      rw [if_neg h5]
      split at h
      ·rename_i h6
       rw [if_pos h6]
       have hz:=iH (Classical.not_not.1 h5)
       have e:((dW s:Int)*(dH s:Int))=((dW s*dH s:Nat):Int):=(Int.natCast_mul _ _).symm
       rw [e] at hz
       refine ⟨⟨by dsimp only;omega,by dsimp only;omega,by dsimp only;omega,by dsimp only;omega,by dsimp only;omega,BJ h6.1⟩,by omega,h6.2,by omega⟩
      ·cases h
def aac (kind:Int) (w h:Nat) (d:Bytes):List Bool × Bool:=if kind=4 then Zi w h d (w*h) else mJ kind w h d
def rPg (s:Bytes):List Bool × Bool:=aac (dK s) (dW s) (dH s) (dD s)
def Zg (s:Bytes):Prop:=(rPg s).2=true∧dN (dW s) (dH s) (rPg s).1 (dK s)=s
instance (s:Bytes):Decidable (Zg s):=inferInstanceAs (Decidable (_∧_))
end Go.Fv.H
/- What Take and Check answer, in plain words. -/
namespace Go.Fv.H
open Go Go.Proofs
def wO (s name:Bytes):DQ:=
 if (eU s).2≠0 then sD (eU s).2
 else if fQ name=true then
  match (eU s).1.find? (fun x=>decide (x.n=name)) with
  | some x=>fO ((s.drop x.a).take x.k)
  | none=>sD 10
 else sD 5
theorem XF (a:Int) (m:Nat) (hm:m<2 ^ 63):0≤dh .and .i64 a m∧dh .and .i64 a m≤m:=by
 unfold dh
 dsimp only
 have h1:(BitVec.ofInt 64 a &&& BitVec.ofInt 64 (m:Int)).toNat≤m:=by
  rw [BitVec.toNat_and]
  refine Nat.le_trans Nat.and_le_right ?_
  rw [BitVec.ofInt_natCast,BitVec.toNat_ofNat]
  exact Nat.mod_le _ _
 rw [show IntKind.i64.bits=64 from rfl]
 rw [jY (jZ.2 ⟨by omega,by omega⟩)]
 omega
def bT (a:Int) (m:Nat):Nat:=(1+dh .and .i64 a m).toNat
theorem jo (a:Int) (m:Nat) (hm:m<2 ^ 63):1≤bT a m∧bT a m≤m+1∧1+dh .and .i64 a m=((bT a m:Nat):Int):=by
 have:=XF a m hm
 unfold bT;omega
end Go.Fv.H
/- Codes of pages are short. -/
namespace Go.Fv.H
open Go
theorem NZ:∀ (f n:Nat),n≤f→1≤n→(iK n).length≤n
 | 0,n,h,h1=>by omega
 | f+1,n,h,h1=>by
  by_cases h2:n<2
  ·have:n=1:=by omega
   subst this;rw [nC (by decide)];exact Nat.le_refl _
  ·have ih:=NZ f (n / 2) (by omega) (by omega)
   rw [o8 h2,List.length_append]
   simp only [List.length_cons,List.length_nil]
   omega
theorem F7 (k:Nat):(gq (k+1)).length≤2*k+1:=by
 have:=NZ (k+1) (k+1) (Nat.le_refl _) (by omega)
 rw [zJ];omega
theorem TU (k:Nat):(aQ.getD k []).length≤7:=by
 rcases k with _|_|_|_|_|_|_|k
 all_goals first|decide|exact Nat.zero_le _
theorem UR {row above:List Bool} (hw:above.length=row.length) {p:Nat} (hp:p≤row.length) (ink:Bool):(bK row above p ink).c.length+7*p≤7*(bK row above p ink).p:=by
 have hs:=jR hw hp ink
 have h1:=jl hp
 have h2:=gU row p
 unfold bK at hs ⊢
 split
 ·rename_i hc
  rw [if_pos hc] at hs
  dsimp only at hs ⊢
  have:gZ.length=4:=rfl
  omega
 ·rename_i hc
  rw [if_neg hc] at hs
  split
  ·rename_i hd
   rw [if_pos hd] at hs
   dsimp only at hs ⊢
   have:=TU (dQ row p+3 - gy above p (!ink))
   omega
  ·rename_i hd
   rw [if_neg hd] at hs
   dsimp only at hs ⊢
   have e:fP.length=3:=rfl
   have g1:=F7 (dQ row p - (p - 1))
   have g2:=F7 (dQ row (dQ row p+1) - dQ row p)
   rw [List.length_append,List.length_append,e]
   have h3:dQ row p≤dQ row (dQ row p+1):=by
    by_cases h:dQ row p<row.length
    ·have:=jl (r:=row) (i:=dQ row p+1) (by omega);omega
    ·rw [iP (r:=row) (i:=dQ row p+1) (by omega)];omega
   omega
theorem L8 {row above:List Bool} (hw:above.length=row.length):(dZ row above).length≤7*(row.length+1):=by
 have key:∀ (f p:Nat) (ink:Bool),row.length+1 - p≤f→p≤row.length+1→(kU row above p ink).length+7*p≤7*(row.length+1):=by
  intro f
  induction f with
  | zero=>intro p ink h hp;rw [jv (by omega)];simp;omega
  | succ f ih=>
   intro p ink h hp1
   by_cases hp:p≤row.length
   ·have hs:=jR hw hp ink
    have hsh:=UR hw hp ink
    rw [lS hw hp,List.length_append]
    have:=ih (bK row above p ink).p (bK row above p ink).k (by omega) (by omega)
    omega
   ·rw [jv hp];simp;omega
 unfold dZ
 split
 ·simp
 ·have:=key (row.length+1) 0 false (by omega) (by omega)
  omega
theorem yX {w h:Nat} {p:List Bool} (hp:p.length=w*h):∀ y,y≤h→(fE w p y).length≤7*(w+1)*y
 | 0,_=>by simp [fE]
 | y+1,hy=>by
  have h1:=yX hp y (by omega)
  have hl:=gu hp (y:=y) (by omega)
  have h2:=L8 (row:=rowP w p y) (above:=yC w p y) (by rw [G8 hp (by omega),hl])
  rw [hl] at h2
  rw [qW,List.length_append,Nat.mul_succ];omega
def sumT (l:List Int):Nat:=(l.map Int.toNat).sum
theorem QK {l:List Int} (hl:∀ x,x∈l→0≤x):(dB l).length≤2*sumT l+l.length:=by
 induction l with
 | nil=>simp [dB]
 | cons x l ih=>
  have h1:=ih fun y hy=>hl y (.tail _ hy)
  have h2:=hl x (.head _)
  have h3:=F7 x.toNat
  have e0:(x+1).toNat=x.toNat+1:=by omega
  have e:dB (x::l)=gq (x+1).toNat++dB l:=by unfold dB;simp
  have es:sumT (x::l)=x.toNat+sumT l:=rfl
  rw [e,List.length_append,List.length_cons,es,e0];omega
theorem Yu {l:List Int} (hl:∀ x,x∈l→0≤x):(sumT l:Int)=rJ l:=by
 induction l with
 | nil=>rfl
 | cons x l ih=>
  have h1:=ih fun y hy=>hl y (.tail _ hy)
  have h2:=hl x (.head _)
  have es:sumT (x::l)=x.toNat+sumT l:=rfl
  have ei:rJ (x::l)=x+rJ l:=rfl
  rw [es,ei];omega
theorem Na {r:List Bool} (h:0<r.length):rJ (iw r)=r.length:=by
 obtain ⟨l0,x,h1,h2⟩:=yx r (r.length - 1) (by omega)
 have e:r.length - 1+1=r.length:=by omega
 rw [e] at h1 h2
 have hr:iw r=l0++[x]:=h1
 have:=h2.sum
 rw [hr,wL];exact this
theorem Ci {w h:Nat} (hw0:0<w) {p:List Bool} (hp:p.length=w*h):∀ y,y≤h→(jD w p y).length≤3*(w+1)*y
 | 0,_=>by simp [jD]
 | y+1,hy=>by
  have h1:=Ci hw0 hp y (by omega)
  have hl:=gu hp (y:=y) (by omega)
  obtain ⟨h2,h3⟩:=yu (rowP w p y)
  have h4:=QK (l:=iw (rowP w p y)) fun x hx=>(h3 x hx).1
  have h5:=Yu (l:=iw (rowP w p y)) fun x hx=>(h3 x hx).1
  have h6:=Na (r:=rowP w p y) (by omega)
  rw [uO,List.length_append,Nat.mul_succ]
  omega
theorem IX {w h:Nat} {p:List Bool} (g:lC w h p) (kind:Int):(dw w h p kind).length≤1048580:=by
 have hw0:=g.w0
 have hh:=g.h1
 have hwh:=g.wh
 have hp:=g.p
 have b0:(w+1)*h≤1052576:=by rw [Nat.add_mul,Nat.one_mul];omega
 have b1:3*(w+1)*h≤3157728:=by rw [Nat.mul_assoc];omega
 have b2:7*(w+1)*h≤7368032:=by rw [Nat.mul_assoc];omega
 have h1:=Ci hw0 hp h (Nat.le_refl _)
 have h2:=yX hp h (Nat.le_refl _)
 have h3:=FQ w h p
 unfold dw
 split
 ·rw [iG,jL];omega
 ·split
  ·omega
  ·split
   ·rw [iG];omega
   ·rw [iG];omega
end Go.Fv.H
/- shrink.fromAdaptive: the walk. -/
namespace Go.Fv.H
open Go Go.Proofs
theorem Gs (d:Bytes) (hd:d.length≤300000000000000):iC Tryz.prog 140 [.ptr 0 0] [(0,.box 9 [.str d])] 1 (.int .u32 (fH d)) [(0,.box 9 [.str (d.drop 1)])]:=by
 refine iC.aJ Tryz.func140 rfl (by decide) (by simp [Tryz.f140]) Sr [.tmp 1] rfl fun w0 T0 _=>?_
 simp only [Tryz.f140,aB]
 cases d with
 | nil=>
  (repeat' with_reducible first|intro _|exact dn|refine rn ?_|refine ra ?_ ?_)
  refine kT.auto 1 (Nat.le_refl 1) ?_ rfl ?_<;>simp only [go_sem,Int.natCast_succ,gV,fH]
  all_goals first|rfl|exact ⟨rfl,rfl⟩
 | cons c d=>
  have h0:(c::d=[])=False:=eq_false (by simp)
  have hl:(c::d).length=d.length+1:=rfl
  have hg:(c::d).getD 0 0=c:=rfl
  have hdr:((c::d).drop 1).take ((c::d).length - 1)=d:=by rw [hl];simp
  have hdr1:(c::d).drop 1=d:=rfl
  have hn:fH (c::d)=c.toNat:=rfl
  rw [hdr1,hn]
  have hcl:c.toNat<256:=c.toNat_lt
  (repeat' with_reducible first|intro _|refine rz ?_|refine ra ?_ ?_|omega|simp only [go_sem,h0,hg,hdr,hl,List.take_length])
  refine kT.auto 1 (Nat.le_refl 1) ?_ rfl ?_<;>simp only [go_sem,Int.natCast_succ,gV]
theorem La (a b:Nat) (ha:a<4294967296) (hb:b<4294967296):(BitVec.ofInt 32 (a:Int)).toNat=a∧(BitVec.ofInt 32 (b:Int)).toNat=b:=by
 rw [BitVec.ofInt_natCast,BitVec.toNat_ofNat,BitVec.ofInt_natCast,BitVec.toNat_ofNat]
 exact ⟨Nat.mod_eq_of_lt (by omega),Nat.mod_eq_of_lt (by omega)⟩
theorem Yg {a c:Nat} (ha:a*256<4294967296) (hc:c<256):dh .or .u32 ((a*256:Nat):Int) (c:Int)=((a*256+c:Nat):Int):=by
 obtain ⟨e1,e2⟩:=La (a*256) c (by omega) (by omega)
 show IntKind.u32.wrap (((BitVec.ofInt 32 ((a*256:Nat):Int)) ||| (BitVec.ofInt 32 (c:Int))).toNat:Int)=_
 have h:=Nat.two_pow_add_eq_or_of_lt (i:=8) (b:=c) (by omega) a
 rw [BitVec.toNat_or,e1,e2,Nat.mul_comm a 256,←h]
 exact jY (FI.2 (by omega))
def Q9 (d:Bytes):Nat→Nat
 | 0=>0
 | i+1=>Q9 d i*256+fH (d.drop i)
theorem RV (d:Bytes):∀ i,Q9 d i<256 ^ i
 | 0=>Nat.one_pos
 | i+1=>by
  have h1:=RV d i
  have h2:=gW (d.drop i)
  show Q9 d i*256+fH (d.drop i)<_
  rw [Nat.pow_succ];omega
theorem VT (d:Bytes):four d=Q9 d 4:=by
 unfold four
 show _=(((0*256+fH (d.drop 0))*256+fH (d.drop 1))*256+fH (d.drop 2))*256+fH (d.drop 3)
 rw [List.drop_zero];omega
theorem Il (W H:Nat) (d:Bytes) (n:Nat):∀ i j,i≤j→(jf W H d n i).P.getD j false=false
 | 0,j,_=>by
  show (List.replicate n false).getD j false=false
  rw [List.getD_eq_getElem?_getD,List.getElem?_replicate];split<;>rfl
 | i+1,j,h=>by
  have ih:=Il W H d n i j (by omega)
  have hP:(jf W H d n (i+1)).P=(jf W H d n i).P.set i ((jf W H d n i).k ((jf W H d n i).c W H i)):=by
   show (((jf W H d n i).mid _ i).norm).P=_
   unfold AD.norm
   split<;>rfl
  rw [hP,List.getD_eq_getElem?_getD,List.getElem?_set_ne (by omega),←List.getD_eq_getElem?_getD]
  exact ih
theorem D9 (W H:Nat) (d:Bytes) (n:Nat):∀ i,(jf W H d n i).data.length≤d.length
 | 0=>by show (d.drop 4).length≤_;rw [List.length_drop];omega
 | i+1=>by
  have ih:=D9 W H d n i
  show (((jf W H d n i).mid _ i).norm).data.length≤_
  unfold AD.norm
  split
  ·show ((jf W H d n i).data.drop 1).length≤_;rw [List.length_drop];omega
  ·exact ih
theorem wrap32 (x:Int):IntKind.u32.wrap x=x%4294967296:=by simp [IntKind.wrap,IntKind.signed,IntKind.bits]
theorem UK {α:Type} {l:List α} {i:Nat} {d:α} (h:i<l.length):l.set i (l.getD i d)=l:=by
 apply List.ext_getElem?
 intro j
 rw [List.getElem?_set]
 split
 ·rename_i e
  subst e
  rw [getD_lt h,List.getElem?_eq_getElem h]
 ·rfl
set_option maxHeartbeats 16000000 in
theorem zo (w h:Nat) (hw0:0<w) (hw:w≤4000) (hh:h≤4000) (hwh:w*h≤1048576) (d:Bytes) (hd:d.length≤200000000000000) :
  aC Tryz.prog 103 [.str d,.int .i64 w,.int .i64 h] (.agg [.int .i64 w,.int .i64 h,.own 0]) [(0,.row 4 (.bools (jf w h d (w*h) (w*h)).P))]:=by
 refine aC.aJ Tryz.func103 rfl (by decide) (by simp [Tryz.f103]) [.cell 6 24] rfl fun w0 T0 _=>?_
 simp only [Tryz.f103,aB]
 have e1:(w:Int)*(h:Int)=((w*h:Nat):Int):=(Int.natCast_mul w h).symm
 obtain ⟨n,hn⟩:∃ n,w*h=n:=⟨_,rfl⟩
 rw [hn] at e1 ⊢
 (repeat' with_reducible first|intro _|refine rz ?_|refine ra ?_ ?_|omega|simp only [go_sem,e1])
 refine aI.intro (fun i:Nat=>⟨91,[(23,.int .i64 i),(9,.int .u32 (Q9 d i)),(8,.fn 140 [.ptr 0 0]),(7,.ptr 3 0),(6,.ptr 1 0),(3,.ptr 0 0),(1,.int .i64 w),(2,.int .i64 h)],[(0,.box 9 [.str (d.drop i)]),(1,.box 24 [.int .i64 0,.int .i64 0,.nilS]),(2,.row 4 (.bools (List.replicate n false))),(3,.box 24 [.int .i64 w,.int .i64 h,.own 2])],4⟩) (fun i=>i≤4) (fun i=>4 - i) 0 ?_ (Nat.zero_le _) fun i hi=>?_
 ·refine aO.ak rfl ?_ ?_<;>simp only [go_sem,Int.natCast_succ,Q9]
 by_cases hi4:i<4
 ·have f1:((i:Int)<4)=True:=eq_true (by omega)
  have hcd:Q9 d (i+1)=Q9 d i*256+fH (d.drop i):=rfl
  have hc0:=RV d i
  have hcp:256 ^ i≤256 ^ 3:=Nat.pow_le_pow_right (by decide) (by omega)
  rw [show (256:Nat) ^ 3=16777216 from rfl] at hcp
  have kn:=Gs (d.drop i) (by rw [List.length_drop];omega)
  rw [List.drop_drop] at kn
  have hnx:=gW (d.drop i)
  have ho:=Yg (a:=Q9 d i) (c:=fH (d.drop i)) (by omega) hnx
  have hss:jV .u32 ((Q9 d i:Nat):Int) 8=((Q9 d i*256:Nat):Int):=by
   unfold jV
   rw [show (2:Int) ^ (min (8:Int).toNat IntKind.u32.bits)=256 by rfl];omega
  generalize fH (d.drop i)=nx at *
  generalize Q9 d i=cd at *
  generalize d.drop i=dd at *
  (repeat' with_reducible first|intro _|refine rz ?_|refine ra ?_ ?_|omega|simp only [go_sem,f1,hss])
  refine ah.i [0] kn 1 ?_
  (repeat' with_reducible first|intro _|exact dn|refine rn ?_|refine ra ?_ ?_)
  (repeat' with_reducible first|intro _|refine rz ?_|refine ra ?_ ?_|omega|simp only [go_sem,ho])
  refine ⟨i+1,aO.ak rfl ?_ ?_,by omega,by omega⟩<;>simp only [go_sem,Int.natCast_succ,hcd]
 have f1:((i:Int)<4)=False:=eq_false (by omega)
 have e:i=4:=by omega
 subst e
 rw [←VT]
 (repeat' with_reducible first|intro _|refine rz ?_|refine ra ?_ ?_|omega|simp only [go_sem,f1])
 refine ah.o BG 1 ?_
 (repeat' with_reducible first|intro _|exact dn|refine rn ?_|refine ra ?_ ?_)
 refine aI.intro (fun i:Nat=>⟨91,[(35,.int .i64 i),(34,.int .i64 n),(11,.own 4),(10,.int .u32 (jf w h d n i).span),(9,.int .u32 (jf w h d n i).code),(8,.fn 140 [.ptr 0 0]),(7,.ptr 3 0),(6,.ptr 1 0),(3,.ptr 0 0),(1,.int .i64 w),(2,.int .i64 h)],[(0,.box 9 [.str (jf w h d n i).data]),(1,.box 24 [.int .i64 0,.int .i64 0,.nilS]),(2,.row 4 (.bools (jf w h d n i).P)),(3,.box 24 [.int .i64 w,.int .i64 h,.own 2]),(4,.row 172 (.ints .u32 (oJ (jf w h d n i).tab)))],5⟩) (fun i=>i≤n) (fun i=>n - i) 0 ?_ (Nat.zero_le _) fun i hi=>?_
 ·refine aO.ak rfl ?_ ?_<;>simp only [go_sem,Int.natCast_succ]
  all_goals first|rfl|exact ⟨rfl,rfl⟩|exact ⟨rfl,rfl,rfl⟩|(refine ⟨?_,?_⟩<;>rfl)|trace_state
 have hok:=FP w h d n i
 have hdl:=D9 w h d n i
 by_cases hlt:i<n
 rotate_left
 ·have f1:((i:Int)<(n:Int))=False:=eq_false (by omega)
  have e:i=n:=by omega
  subst e
  (repeat' with_reducible first|intro _|refine rz ?_|refine ra ?_ ?_|omega|simp only [go_sem,f1])
  refine bf.of [(0,2)] 1 ?_ (by rfl) ?_<;>simp only [go_sem,Int.natCast_succ,Post]
 have f1:((i:Int)<(n:Int))=True:=eq_true (by omega)
 have hw1:i%w<w:=Nat.mod_lt _ hw0
 have hw2:i / w<h:=Nat.div_lt_of_lt_mul (by omega)
 have d1:(i:Int).tmod (w:Int)=((i%w:Nat):Int):=by rw [Int.tmod_eq_emod_of_nonneg (Int.natCast_nonneg _)];rfl
 have d2:(i:Int).tdiv (w:Int)=((i / w:Nat):Int):=by rw [Int.tdiv_eq_ediv_of_nonneg (Int.natCast_nonneg _)];rfl
 have hnext:jf w h d n (i+1)=((jf w h d n i).mid (pF w h (jf w h d n i).P ((i%w:Nat):Int) ((i / w:Nat):Int)) i).norm:=rfl
 have hPi:=Il w h d n i i (Nat.le_refl _)
 have hPs:=UK (l:=(jf w h d n i).P) (i:=i) (d:=false) (by rw [hok.P];exact hlt)
 rw [hPi] at hPs
 obtain ⟨xx,hxx⟩:∃ xx,i%w=xx:=⟨_,rfl⟩
 obtain ⟨yy,hyy⟩:∃ yy,i / w=yy:=⟨_,rfl⟩
 rw [hxx] at hw1 d1 hnext
 rw [hyy] at hw2 d2 hnext
 have kc:=Ar w h hw hh (jf w h d n i).P (by rw [hok.P,hn]) (xx:Int) (yy:Int) (by omega) (by omega)
 have hc:=pG w h (jf w h d n i).P (xx:Int) (yy:Int)
 have hwne:¬(w:Int)=0:=by omega
 generalize pF w h (jf w h d n i).P (xx:Int) (yy:Int)=c at *
 generalize jf w h d n i=s at *
 obtain ⟨⟨ht1,ht2⟩,hm1,hm2⟩:=AD.TJ hok hc
 have hlo:=hok.lo
 have hhi:=hok.hi
 have hlen:=hok.len
 have hcode:=hok.code
 have hPl:=hok.P
 have hg:=OT (l:=s.tab) (i:=c) (by rw [hlen];exact hc)
 have hgl:=JB s.tab
 have q1:((s.span:Nat):Int).tdiv 4096=((s.span / 4096:Nat):Int):=by rw [Int.tdiv_eq_ediv_of_nonneg (Int.natCast_nonneg _)];rfl
 have q2:((s.span / 4096:Nat):Int)*((s.tab.getD c 0:Nat):Int)=((s.m c:Nat):Int):=(Int.natCast_mul _ _).symm
 (repeat' with_reducible first|intro _|refine rz ?_|refine ra ?_ ?_|omega|simp only [go_sem,f1])
 refine bC.lex [] [] (by kernel_rfl) (by kernel_rfl) ?_
 (repeat' with_reducible first|intro _|refine rz ?_|refine ra ?_ ?_|omega|simp only [go_sem,d1,d2,hwne])
 (refine QV.intro (.int .i64 c) ?_ ?_;focus ((repeat' with_reducible first|intro _|exact dn|refine rn ?_|refine ra ?_ ?_);refine ah.k (kc) ?_;(repeat' with_reducible first|intro _|exact dn|refine rn ?_|refine ra ?_ ?_)))
 have hmid:=AD.uG hok hc i
 have hmok:=AD.OV hmid
 have hmlo:=hmok.lo
 obtain ⟨M,hM⟩:∃ M,s.mid c i=M:=⟨_,rfl⟩
 have hMt:M.tab=s.tab.set c (Mc (s.tab.getD c 0) (s.k c)):=by rw [←hM];rfl
 have hMs0:M.span=if s.k c=true then s.span - s.m c else s.m c:=by rw [←hM];rfl
 have hMc0:M.code=if s.k c=true then s.code - s.m c else s.code:=by rw [←hM];rfl
 have hMd:M.data=s.data:=by rw [←hM];rfl
 have hMP0:M.P=s.P.set i (s.k c):=by rw [←hM];rfl
 rw [hM] at hnext hmlo hmid
 obtain ⟨hmid1,hmid2,hmid3,_,_,_⟩:=hmid
 have kl:=Bg (s.tab.getD c 0) (s.k c) ⟨ht1,ht2⟩
 have hset:=JC s.tab c (Mc (s.tab.getD c 0) (s.k c))
 have hlrn:=Gm ⟨ht1,ht2⟩ (s.k c)
 by_cases hk:s.m c≤s.code
 ·have hkt:s.k c=true:=decide_eq_true hk
  rw [hkt] at hMt hMs0 hMc0 hMP0 kl hset hlrn
  rw [if_pos rfl] at hMs0 hMc0
  have hMs:M.span=s.span - s.m c:=hMs0
  have hMc:M.code=s.code - s.m c:=hMc0
  have hMP:M.P=s.P.set i true:=hMP0
  have f2:((s.code:Int)<((s.m c:Nat):Int))=False:=eq_false (by omega)
  have hspI:(s.span:Int) - (s.m c:Int)=((s.span - s.m c:Nat):Int):=by omega
  have hcdI:(s.code:Int) - (s.m c:Int)=((s.code - s.m c:Nat):Int):=by omega
  have hPg:(s.P.set i true).getD i false=true:=by
   rw [List.getD_eq_getElem?_getD,List.getElem?_set_self (by rw [hPl];exact hlt)];rfl
  have hPl2:(s.P.set i true).length=n:=by rw [List.length_set,hPl]
  (repeat' with_reducible first|intro _|refine rz ?_|refine ra ?_ ?_|omega|simp only [go_sem,q1,q2,hg,hgl,hlen,f2,hspI,hcdI])
  refine bC.lex [13] [] (by kernel_rfl) (by kernel_rfl) ?_
  (repeat' with_reducible first|intro _|refine rz ?_|refine ra ?_ ?_|omega|simp only [go_sem,hgl,hlen,hPg,hPl2,hg,hPl])
  (refine QV.intro (.int .u32 (Mc (s.tab.getD c 0) true)) ?_ ?_;focus ((repeat' with_reducible first|intro _|exact dn|refine rn ?_|refine ra ?_ ?_);refine ah.k (kl) ?_;(repeat' with_reducible first|intro _|exact dn|refine rn ?_|refine ra ?_ ?_)))
  (repeat' with_reducible first|intro _|refine rz ?_|refine ra ?_ ?_|omega|simp only [go_sem,hgl,hlen,hset])
  refine aI.intro (fun r:AD=>⟨91,[(35,.int .i64 i),(34,.int .i64 n),(11,.own 4),(10,.int .u32 r.span),(9,.int .u32 r.code),(8,.fn 140 [.ptr 0 0]),(7,.ptr 3 0),(6,.ptr 1 0),(3,.ptr 0 0),(1,.int .i64 w),(2,.int .i64 h)],[(0,.box 9 [.str r.data]),(1,.box 24 [.int .i64 0,.int .i64 0,.nilS]),(2,.row 4 (.bools r.P)),(3,.box 24 [.int .i64 w,.int .i64 h,.own 2]),(4,.row 172 (.ints .u32 (oJ r.tab)))],5⟩) (fun r=>r=M∨r=M.norm) (fun r=>if r.span<16777216 then 1 else 0) M ?_ (.inl rfl) fun r hr=>?_
  ·refine aO.ak rfl ?_ ?_<;>simp only [go_sem,Int.natCast_succ,hMs,hMt,hMc,hMd,hMP]
   all_goals first|rfl|exact ⟨rfl,rfl⟩
  by_cases hs2:r.span<16777216
  ·have hrM:r=M:=hr.resolve_right fun e=>by rw [e] at hs2;omega
   subst hrM
   have hnm:r.norm=⟨r.code*256%4294967296+fH r.data,r.span*256,r.tab,r.data.drop 1,r.P⟩:=by unfold AD.norm;rw [if_pos hs2]
   have f5:((r.span:Int)<16777216)=True:=eq_true (by omega)
   have hss:jV .u32 (r.span:Int) 8=((r.span*256:Nat):Int):=by
    unfold jV
    rw [show (2:Int) ^ (min (8:Int).toNat IntKind.u32.bits)=256 by rfl];omega
   have hsc:jV .u32 (r.code:Int) 8=((r.code*256:Nat):Int):=by
    unfold jV
    rw [show (2:Int) ^ (min (8:Int).toNat IntKind.u32.bits)=256 by rfl];omega
   have hwr:IntKind.u32.wrap ((r.code*256:Nat):Int)=((r.code*256%4294967296:Nat):Int):=by rw [wrap32];omega
   have hmul:r.code*256%4294967296=r.code%16777216*256:=by omega
   have hnx:=gW r.data
   have ho:=Yg (a:=r.code%16777216) (c:=fH r.data) (by omega) hnx
   rw [←hmul] at ho
   have kn:=Gs r.data (by rw [hMd];omega)
   (repeat' with_reducible first|intro _|refine rz ?_|refine ra ?_ ?_|omega|simp only [go_sem,f5,hsc])
   refine bZ.at _ hwr ?_
   (repeat' with_reducible first|intro _|exact dn|refine rn ?_|refine ra ?_ ?_)
   refine ah.i [0] kn 1 ?_
   (repeat' with_reducible first|intro _|exact dn|refine rn ?_|refine ra ?_ ?_)
   (repeat' with_reducible first|intro _|refine rz ?_|refine ra ?_ ?_|omega|simp only [go_sem,ho,hss])
   refine ⟨r.norm,aO.ak rfl ?_ ?_,.inr rfl,?_⟩
   ·simp only [go_sem,Int.natCast_succ,hnm]
    all_goals first|rfl|omega|(refine ⟨?_,?_⟩<;>first|rfl|omega)
   ·simp only [go_sem,Int.natCast_succ,hnm]
   ·rw [if_pos hs2,if_neg (by omega)];omega
  ·have hrn:r=M.norm:=by
    rcases hr with e|e
    ·rw [e] at hs2 ⊢;unfold AD.norm;rw [if_neg hs2]
    ·exact e
   have f5:((r.span:Int)<16777216)=False:=eq_false (by omega)
   rw [←hrn] at hnext
   (repeat' with_reducible first|intro _|refine rz ?_|refine ra ?_ ?_|omega|simp only [go_sem,f5])
   refine ⟨i+1,aO.ak rfl ?_ ?_,by omega,by omega⟩<;>simp only [go_sem,Int.natCast_succ,hnext]
 ·have hkt:s.k c=false:=decide_eq_false hk
  rw [hkt] at hMt hMs0 hMc0 hMP0 kl hset hlrn
  rw [if_neg (by decide)] at hMs0 hMc0
  have hMs:M.span=s.m c:=hMs0
  have hMc:M.code=s.code:=hMc0
  have hMP:M.P=s.P:=by rw [hMP0,hPs]
  have f2:((s.code:Int)<((s.m c:Nat):Int))=True:=eq_true (by omega)
  (repeat' with_reducible first|intro _|refine rz ?_|refine ra ?_ ?_|omega|simp only [go_sem,q1,q2,hg,hgl,hlen,f2])
  refine bC.lex [13] [] (by kernel_rfl) (by kernel_rfl) ?_
  (repeat' with_reducible first|intro _|refine rz ?_|refine ra ?_ ?_|omega|simp only [go_sem,hgl,hlen,hg,hPl,hPi])
  (refine QV.intro (.int .u32 (Mc (s.tab.getD c 0) false)) ?_ ?_;focus ((repeat' with_reducible first|intro _|exact dn|refine rn ?_|refine ra ?_ ?_);refine ah.k (kl) ?_;(repeat' with_reducible first|intro _|exact dn|refine rn ?_|refine ra ?_ ?_)))
  (repeat' with_reducible first|intro _|refine rz ?_|refine ra ?_ ?_|omega|simp only [go_sem,hgl,hlen,hset])
  refine aI.intro (fun r:AD=>⟨91,[(35,.int .i64 i),(34,.int .i64 n),(11,.own 4),(10,.int .u32 r.span),(9,.int .u32 r.code),(8,.fn 140 [.ptr 0 0]),(7,.ptr 3 0),(6,.ptr 1 0),(3,.ptr 0 0),(1,.int .i64 w),(2,.int .i64 h)],[(0,.box 9 [.str r.data]),(1,.box 24 [.int .i64 0,.int .i64 0,.nilS]),(2,.row 4 (.bools r.P)),(3,.box 24 [.int .i64 w,.int .i64 h,.own 2]),(4,.row 172 (.ints .u32 (oJ r.tab)))],5⟩) (fun r=>r=M∨r=M.norm) (fun r=>if r.span<16777216 then 1 else 0) M ?_ (.inl rfl) fun r hr=>?_
  ·refine aO.ak rfl ?_ ?_<;>simp only [go_sem,Int.natCast_succ,hMs,hMt,hMc,hMd,hMP]
   all_goals first|rfl|exact ⟨rfl,rfl⟩
  by_cases hs2:r.span<16777216
  ·have hrM:r=M:=hr.resolve_right fun e=>by rw [e] at hs2;omega
   subst hrM
   have hnm:r.norm=⟨r.code*256%4294967296+fH r.data,r.span*256,r.tab,r.data.drop 1,r.P⟩:=by unfold AD.norm;rw [if_pos hs2]
   have f5:((r.span:Int)<16777216)=True:=eq_true (by omega)
   have hss:jV .u32 (r.span:Int) 8=((r.span*256:Nat):Int):=by
    unfold jV
    rw [show (2:Int) ^ (min (8:Int).toNat IntKind.u32.bits)=256 by rfl];omega
   have hsc:jV .u32 (r.code:Int) 8=((r.code*256:Nat):Int):=by
    unfold jV
    rw [show (2:Int) ^ (min (8:Int).toNat IntKind.u32.bits)=256 by rfl];omega
   have hwr:IntKind.u32.wrap ((r.code*256:Nat):Int)=((r.code*256%4294967296:Nat):Int):=by rw [wrap32];omega
   have hmul:r.code*256%4294967296=r.code%16777216*256:=by omega
   have hnx:=gW r.data
   have ho:=Yg (a:=r.code%16777216) (c:=fH r.data) (by omega) hnx
   rw [←hmul,show r.code*256%4294967296=r.code*256 by omega] at ho
   rw [show r.code*256%4294967296=r.code*256 by omega] at hnm
   have kn:=Gs r.data (by rw [hMd];omega)
   (repeat' with_reducible first|intro _|refine rz ?_|refine ra ?_ ?_|omega|simp only [go_sem,f5,hsc])
   refine ah.i [0] kn 1 ?_
   (repeat' with_reducible first|intro _|exact dn|refine rn ?_|refine ra ?_ ?_)
   (repeat' with_reducible first|intro _|refine rz ?_|refine ra ?_ ?_|omega|simp only [go_sem,ho,hss])
   refine ⟨r.norm,aO.ak rfl ?_ ?_,.inr rfl,?_⟩
   ·simp only [go_sem,Int.natCast_succ,hnm]
    all_goals first|rfl|omega|(refine ⟨?_,?_⟩<;>first|rfl|omega)
   ·simp only [go_sem,Int.natCast_succ,hnm]
   ·rw [if_pos hs2,if_neg (by omega)];omega
  ·have hrn:r=M.norm:=by
    rcases hr with e|e
    ·rw [e] at hs2 ⊢;unfold AD.norm;rw [if_neg hs2]
    ·exact e
   have f5:((r.span:Int)<16777216)=False:=eq_false (by omega)
   rw [←hrn] at hnext
   (repeat' with_reducible first|intro _|refine rz ?_|refine ra ?_ ?_|omega|simp only [go_sem,f5])
   refine ⟨i+1,aO.ak rfl ?_ ?_,by omega,by omega⟩<;>simp only [go_sem,Int.natCast_succ,hnext]
end Go.Fv.H
/- Reading a number: the walk of ReadGamma. -/
namespace Go.Fv.H
open Go Go.Proofs
theorem V6:nD [48,49]=iL:=funext fun c=>by
 unfold nD iL
 simp
theorem Yv (l:Bytes):((fD (nD [48,49]) l).dropWhile (nD [48,49])=[])↔l.all iL=true:=by rw [V6];exact Ky iL l
set_option maxHeartbeats 4000000 in
theorem J4 (s:Bytes) (hs:s.length≤300000000000000):aC Tryz.prog 105 [.str s] (.tup [.int .i64 (ER s),.int .i64 (EP s),.int .i64 (JV 8 s)]) []:=by
 have hle:=OC s
 have hat:=OB s
 have hst:=ED s
 refine aC.aJ Tryz.func105 rfl (by decide) (by simp [Tryz.f105]) [.tmp 2,.tmp 3,.tmp 4] rfl fun w0 T0 _=>?_
 simp only [Tryz.f105,aB]
 (repeat' with_reducible first|intro _|exact dn|refine rn ?_|refine ra ?_ ?_)
 refine aI.intro (fun z:Nat=>⟨62,[(5,.int .i64 z),(0,.str s)],[],0⟩) (fun z=>z≤aG s) (fun z=>s.length - z) 0 ?_ (Nat.zero_le _) fun z hz=>?_
 ·refine aO.ak rfl ?_ ?_<;>simp only [go_sem,Int.natCast_succ]
 by_cases hlt:z<aG s
 ·have e:=hat z hlt
  have f1:((z:Int)<(s.length:Int))=True:=eq_true (by omega)
  have f2:(((s.getD z 0).toNat:Int)=48)=True:=eq_true (by rw [e];rfl)
  (repeat' with_reducible first|intro _|refine rz ?_|refine ra ?_ ?_|omega|simp only [go_sem,f1,f2])
  refine ⟨z+1,aO.ak rfl ?_ ?_,by omega,by omega⟩<;>simp only [go_sem,Int.natCast_succ]
 have hz:z=aG s:=by omega
 subst hz
 have hno:∀ h:oM s=none,ER s=0∧EP s=0∧JV 8 s=8:=fun h=>by unfold ER EP JV;rw [h];exact ⟨rfl,rfl,rfl⟩
 have fin:aG s<s.length→(((s.getD (aG s) 0).toNat:Int)=48)=False:=fun c0=>eq_false fun h=>hst c0 (UInt8.toNat_inj.1 (by show _=48;omega))
 by_cases c1:20<aG s
 ·obtain ⟨r1,r2,r3⟩:=hno (wG fun h=>by omega)
  have f3:(20<(aG s:Int))=True:=eq_true (by omega)
  by_cases c0:aG s<s.length
  ·have f1:((aG s:Int)<(s.length:Int))=True:=eq_true (by omega)
   have f2:=fin c0
   (repeat' with_reducible first|intro _|refine rz ?_|refine ra ?_ ?_|omega|simp only [go_sem,f1,f2,f3])
   refine bf.auto 0 ?_ rfl ?_<;>simp only [go_sem,Int.natCast_succ,Post,r1,r2,r3]
  ·have f1:((aG s:Int)<(s.length:Int))=False:=eq_false (by omega)
   (repeat' with_reducible first|intro _|refine rz ?_|refine ra ?_ ?_|omega|simp only [go_sem,f1,f3])
   refine bf.auto 0 ?_ rfl ?_<;>simp only [go_sem,Int.natCast_succ,Post,r1,r2,r3]
 have f3:(20<(aG s:Int))=False:=eq_false (by omega)
 by_cases c2:s.length<2*aG s+1
 ·obtain ⟨r1,r2,r3⟩:=hno (wG fun h=>by omega)
  have f4:((s.length:Int)<2*(aG s:Int)+1)=True:=eq_true (by omega)
  by_cases c0:aG s<s.length
  ·have f1:((aG s:Int)<(s.length:Int))=True:=eq_true (by omega)
   have f2:=fin c0
   (repeat' with_reducible first|intro _|refine rz ?_|refine ra ?_ ?_|omega|simp only [go_sem,f1,f2,f3,f4])
   refine bf.auto 0 ?_ rfl ?_<;>simp only [go_sem,Int.natCast_succ,Post,r1,r2,r3]
  ·have f1:((aG s:Int)<(s.length:Int))=False:=eq_false (by omega)
   (repeat' with_reducible first|intro _|refine rz ?_|refine ra ?_ ?_|omega|simp only [go_sem,f1,f3,f4])
   refine bf.auto 0 ?_ rfl ?_<;>simp only [go_sem,Int.natCast_succ,Post,r1,r2,r3]
 have f4:((s.length:Int)<2*(aG s:Int)+1)=False:=eq_false (by omega)
 have c0:aG s<s.length:=by omega
 have f1:((aG s:Int)<(s.length:Int))=True:=eq_true (by omega)
 have f2:=fin c0
 obtain ⟨m1,m2⟩:=Tj (s:=s) (by omega)
 have hcut:(2*(aG s:Int)+1).toNat - aG s=aG s+1:=by omega
 by_cases c3:s.getD (aG s) 0=49
 rotate_left
 ·obtain ⟨r1,r2,r3⟩:=hno (wG fun h=>by
   have:=KU (l:=(s.drop (aG s)).take (aG s+1)) (p:=0) (by omega) h.2.2.1
   rw [m2] at this
   exact this.elim (hst c0) c3)
  have f5:(((s.getD (aG s) 0).toNat:Int)=49)=False:=eq_false fun h=>c3 (UInt8.toNat_inj.1 (by show _=49;omega))
  (repeat' with_reducible first|intro _|refine rz ?_|refine ra ?_ ?_|omega|simp only [go_sem,f1,f2,f3,f4,f5,Bool.false_or,Bool.or_false])
  ·rename_i h;simp at h
  ·refine bf.auto 0 ?_ rfl ?_<;>simp only [go_sem,Int.natCast_succ,Post,r1,r2,r3]
 have f5:(((s.getD (aG s) 0).toNat:Int)=49)=True:=eq_true (by rw [c3];rfl)
 have kt:=Kw ((s.drop (aG s)).take (aG s+1)) [48,49] (by intro i hi;have:i=0∨i=1:=(by simp at hi;omega);rcases this with rfl|rfl<;>decide) (by decide)
 have ht:=Yv ((s.drop (aG s)).take (aG s+1))
 have hsome:=@Uu s
 have hnone:=@wG s
 generalize (fD (nD [48,49]) ((s.drop (aG s)).take (aG s+1))).dropWhile (nD [48,49])=tr at *
 by_cases c4:((s.drop (aG s)).take (aG s+1)).all iL=true
 rotate_left
 ·obtain ⟨r1,r2,r3⟩:=hno (hnone fun h=>c4 h.2.2.1)
  have f6:(tr=[])=False:=eq_false fun h=>c4 (ht.1 h)
  (repeat' with_reducible first|intro _|refine rz ?_|refine ra ?_ ?_|omega|simp only [go_sem,f1,f2,f3,f4,f5,hcut,Bool.false_or,Bool.or_false])
  refine ah.k kt ?_
  (repeat' with_reducible first|intro _|refine rz ?_|refine ra ?_ ?_|omega|simp only [go_sem,f6])
  refine bf.auto 0 ?_ rfl ?_<;>simp only [go_sem,Int.natCast_succ,Post,r1,r2,r3]
 have f6:(tr=[])=True:=eq_true (ht.2 c4)
 have kp:=Qp ((s.drop (aG s)).take (aG s+1)) c4 (fun e=>by rw [e] at m1;simp at m1) (by omega)
 by_cases c5:kX ((s.drop (aG s)).take (aG s+1))≤1048576
 ·have hr:=hsome ⟨by omega,by omega,c4,c5⟩
  have r1:ER s=(kX ((s.drop (aG s)).take (aG s+1)):Int):=by unfold ER;rw [hr]
  have r2:EP s=2*(aG s:Int)+1:=by unfold EP;rw [hr];rfl
  have r3:JV 8 s=0:=by unfold JV;rw [hr]
  generalize kX ((s.drop (aG s)).take (aG s+1))=v at *
  have f7:(1048576<(v:Int))=False:=eq_false (by omega)
  (repeat' with_reducible first|intro _|refine rz ?_|refine ra ?_ ?_|omega|simp only [go_sem,f1,f2,f3,f4,f5,hcut,Bool.false_or,Bool.or_false])
  refine ah.k kt ?_
  (repeat' with_reducible first|intro _|refine rz ?_|refine ra ?_ ?_|omega|simp only [go_sem,f6,hcut])
  refine ah.k kp ?_
  (repeat' with_reducible first|intro _|refine rz ?_|refine ra ?_ ?_|omega|simp only [go_sem,f7])
  refine bf.auto 0 ?_ rfl ?_<;>simp only [go_sem,Int.natCast_succ,Post,r1,r2,r3]
 ·obtain ⟨r1,r2,r3⟩:=hno (hnone fun h=>c5 h.2.2.2)
  generalize kX ((s.drop (aG s)).take (aG s+1))=v at *
  have f7:(1048576<(v:Int))=True:=eq_true (by omega)
  (repeat' with_reducible first|intro _|refine rz ?_|refine ra ?_ ?_|omega|simp only [go_sem,f1,f2,f3,f4,f5,hcut,Bool.false_or,Bool.or_false])
  refine ah.k kt ?_
  (repeat' with_reducible first|intro _|refine rz ?_|refine ra ?_ ?_|omega|simp only [go_sem,f6,hcut])
  refine ah.k kp ?_
  (repeat' with_reducible first|intro _|refine rz ?_|refine ra ?_ ?_|omega|simp only [go_sem,f7])
  refine bf.auto 0 ?_ rfl ?_<;>simp only [go_sem,Int.natCast_succ,Post,r1,r2,r3]
end Go.Fv.H
/- The closures of shrink.readLine. -/
namespace Go.Fv.H
open Go Go.Proofs
theorem CB (s:Bytes) (n:Nat) (code:Bytes) (hs:s.length≤300000000000000) (hn:n≤s.length) (hc:code.length≤100) (hp:code.isPrefixOf (s.drop n)=true) :
  iC Tryz.prog 145 [.str code,.ptr 0 0,.ptr 1 0] [(0,.box 9 [.str s]),(1,.box 3 [.int .i64 n])] 2 (.bool true) [(0,.box 9 [.str s]),(1,.box 3 [.int .i64 (n+code.length:Nat)])]:=by
 have k:=jr (s.drop n) code
 rw [hp] at k
 refine iC.aJ Tryz.func145 rfl (by decide) (by simp [Tryz.f145]) Au [.tmp 4] rfl fun w0 T0 _=>?_
 simp only [Tryz.f145,aB]
 have htk:(s.drop n).take (s.length - n)=s.drop n:=List.take_of_length_le (by rw [List.length_drop];exact Nat.le_refl _)
 (repeat' with_reducible first|intro _|refine rz ?_|refine ra ?_ ?_|omega|simp only [go_sem,htk])
 refine ah.k k ?_
 (repeat' with_reducible first|intro _|exact dn|refine rn ?_|refine ra ?_ ?_)
 refine kT.auto 2 (Nat.le_refl 2) ?_ rfl ?_<;>simp only [go_sem,Int.natCast_succ,gV]
 omega
theorem wM (s:Bytes) (n:Nat) (code:Bytes) (hs:s.length≤300000000000000) (hn:n≤s.length) (hp:code.isPrefixOf (s.drop n)=false) :
  iC Tryz.prog 145 [.str code,.ptr 0 0,.ptr 1 0] [(0,.box 9 [.str s]),(1,.box 3 [.int .i64 n])] 2 (.bool false) [(0,.box 9 [.str s]),(1,.box 3 [.int .i64 n])]:=by
 have k:=jr (s.drop n) code
 rw [hp] at k
 refine iC.aJ Tryz.func145 rfl (by decide) (by simp [Tryz.f145]) Au [.tmp 4] rfl fun w0 T0 _=>?_
 simp only [Tryz.f145,aB]
 have htk:(s.drop n).take (s.length - n)=s.drop n:=List.take_of_length_le (by rw [List.length_drop];exact Nat.le_refl _)
 (repeat' with_reducible first|intro _|refine rz ?_|refine ra ?_ ?_|omega|simp only [go_sem,htk])
 refine ah.k k ?_
 (repeat' with_reducible first|intro _|exact dn|refine rn ?_|refine ra ?_ ?_)
 refine kT.auto 2 (Nat.le_refl 2) ?_ rfl ?_<;>simp only [go_sem,Int.natCast_succ,gV]
theorem YX (s:Bytes) (n:Nat) (hn:n≤s.length):(s.drop n).take (min s.length (n+64) - n)=(s.drop n).take 64:=by
 rw [List.take_eq_take_iff,List.length_drop];omega
theorem EL (s:Bytes) (n:Nat) (hs:s.length≤300000000000000) (hn:n≤s.length) :
  iC Tryz.prog 146 [.ptr 0 0,.ptr 1 0] [(0,.box 9 [.str s]),(1,.box 3 [.int .i64 n])] 2 (.tup [.int .i64 (ER (s.drop n) - 1),.bool (decide (JV 8 (s.drop n)=0))]) [(0,.box 9 [.str s]),(1,.box 3 [.int .i64 (n+EP (s.drop n))])]:=by
 have hg:oM ((s.drop n).take 64)=oM (s.drop n):=JX _ 64 (Nat.le_refl _)
 have e1:ER ((s.drop n).take 64)=ER (s.drop n):=by unfold ER;rw [hg]
 have e2:EP ((s.drop n).take 64)=EP (s.drop n):=by unfold EP;rw [hg]
 have e3:JV 8 ((s.drop n).take 64)=JV 8 (s.drop n):=by unfold JV;rw [hg]
 have k:=J4 ((s.drop n).take 64) (by rw [List.length_take];omega)
 rw [e1,e2,e3] at k
 have hb:0≤ER (s.drop n)∧ER (s.drop n)≤1048576∧0≤EP (s.drop n)∧EP (s.drop n)≤41:=by
  unfold ER EP
  cases hr:oM (s.drop n) with
  | none=>dsimp only;omega
  | some x=>
   obtain ⟨m,l⟩:=x
   have h:=nJ hr
   have h2:m≤1048576:=by
    unfold oM at hr
    split at hr
    ·rename_i hc;cases hr;exact hc.2.2.2
    ·cases hr
   dsimp only;omega
 generalize ER (s.drop n)=a at *
 generalize EP (s.drop n)=b at *
 generalize JV 8 (s.drop n)=c at *
 have hm:min (s.length:Int) ((n:Int)+64)=((min s.length (n+64):Nat):Int):=by omega
 have hc:=YX s n hn
 have hm1:n≤min s.length (n+64):=by omega
 have hm2:min s.length (n+64)≤s.length:=by omega
 generalize min s.length (n+64)=mm at *
 refine iC.aJ Tryz.func146 rfl (by decide) (by simp [Tryz.f146]) Au [.tmp 2,.tmp 3] rfl fun w0 T0 _=>?_
 simp only [Tryz.f146,aB]
 (repeat' with_reducible first|intro _|refine rz ?_|refine ra ?_ ?_|omega|simp only [go_sem,hm,hc])
 refine ah.k k ?_
 (repeat' with_reducible first|intro _|exact dn|refine rn ?_|refine ra ?_ ?_)
 refine kT.auto 2 (Nat.le_refl 2) ?_ rfl ?_<;>simp only [go_sem,Int.natCast_succ,gV]
def NM (s:Bytes) (n:Nat) (j:Int) (m:Nat):Prop:=
 iC Tryz.prog 149 [.ro (.strs aQ),.fn 145 [.ptr 0 0,.ptr 1 0]] [(0,.box 9 [.str s]),(1,.box 3 [.int .i64 n])] 2 (.int .i64 j) [(0,.box 9 [.str s]),(1,.box 3 [.int .i64 m])]
set_option maxHeartbeats 2000000 in
theorem Tc (s:Bytes) (n:Nat) (hs:s.length≤300000000000000) (hn:n≤s.length) (j:Nat) (hj:j≤7) (hno:∀ i,i<j→(aQ.getD i []).isPrefixOf (s.drop n)=false) (hy:j<7→(aQ.getD j []).isPrefixOf (s.drop n)=true) :
  NM s n (if j<7 then j else -1) (n+if j<7 then (aQ.getD j []).length else 0):=by
 unfold NM
 have hnl:aQ.length=7:=rfl
 refine iC.aJ Tryz.func149 rfl (by decide) (by simp [Tryz.f149]) Au [.tmp 4] rfl fun w0 T0 _=>?_
 simp only [Tryz.f149,aB]
 (repeat' with_reducible first|intro _|refine rz ?_|refine ra ?_ ?_|omega|simp only [go_sem,hnl])
 refine aI.intro (fun i:Nat=>⟨19,[(8,.int .i64 i),(7,.int .i64 7),(1,.fn 145 [.ptr 0 0,.ptr 1 0]),(0,.ro (.strs aQ))],[(0,.box 9 [.str s]),(1,.box 3 [.int .i64 n])],2⟩) (fun i=>i≤j) (fun i=>8 - i) 0 ?_ (Nat.zero_le _) fun i hi=>?_
 ·refine aO.NV 2 rfl (Nat.le_refl 2) ?_ ?_<;>simp only [go_sem,Int.natCast_succ,gV]
 by_cases hlt:i<j
 ·have kt:=wM s n (aQ.getD i []) hs hn (hno i hlt)
  have f1:((i:Int)<7)=True:=eq_true (by omega)
  (repeat' with_reducible first|intro _|refine rz ?_|refine ra ?_ ?_|omega|simp only [go_sem,f1,hnl])
  refine ah.i [0,1] kt 2 ?_
  (repeat' with_reducible first|intro _|exact dn|refine rn ?_|refine ra ?_ ?_)
  refine ⟨i+1,aO.NV 2 rfl (Nat.le_refl 2) ?_ ?_,by omega,by omega⟩<;>simp only [go_sem,Int.natCast_succ,gV]
 have e:i=j:=by omega
 subst e
 by_cases h7:i<7
 ·rw [if_pos h7,if_pos h7]
  have hlen:(aQ.getD i []).length≤7:=by
   have:i=0∨i=1∨i=2∨i=3∨i=4∨i=5∨i=6:=by omega
   rcases this with rfl|rfl|rfl|rfl|rfl|rfl|rfl<;>decide
  have kt:=CB s n (aQ.getD i []) hs hn (by omega) (hy h7)
  have f1:((i:Int)<7)=True:=eq_true (by omega)
  (repeat' with_reducible first|intro _|refine rz ?_|refine ra ?_ ?_|omega|simp only [go_sem,f1,hnl])
  refine ah.i [0,1] kt 2 ?_
  (repeat' with_reducible first|intro _|exact dn|refine rn ?_|refine ra ?_ ?_)
  refine kT.auto 2 (Nat.le_refl 2) ?_ rfl ?_<;>simp only [go_sem,Int.natCast_succ,gV]
 ·rw [if_neg h7,if_neg h7,Nat.add_zero]
  have f1:((i:Int)<7)=False:=eq_false (by omega)
  (repeat' with_reducible first|intro _|refine rz ?_|refine ra ?_ ?_|omega|simp only [go_sem,f1,hnl])
  refine kT.auto 2 (Nat.le_refl 2) ?_ rfl ?_<;>simp only [go_sem,Int.natCast_succ,gV]
def qJ (l:List Bool) (a t:Nat) (c:Bool):List Bool:=l.take a++(List.replicate (t - a) c++l.drop t)
theorem Eu {l:List Bool} {a t:Nat} {c:Bool} (h1:a≤t) (h2:t≤l.length):(qJ l a t c).length=l.length:=by
 unfold qJ
 rw [List.length_append,List.length_append,List.length_take,List.length_replicate,List.length_drop];omega
theorem PW {l:List Bool} {a t:Nat} {c:Bool} (h1:a≤t) (h2:t<l.length):(qJ l a t c).set t c=qJ l a (t+1) c:=by
 apply List.ext_getElem?
 intro i
 have hl:=Eu (l:=l) (c:=c) h1 (by omega)
 unfold qJ at *
 rw [List.getElem?_set]
 by_cases hi:t=i
 ·subst hi
  rw [if_pos rfl,if_pos (by rw [hl];exact h2),List.getElem?_append_right (by rw [List.length_take];omega),List.getElem?_append_left (by rw [List.length_take,List.length_replicate];omega),List.getElem?_replicate,if_pos (by rw [List.length_take];omega)]
 ·rw [if_neg hi]
  simp only [List.getElem?_append,List.length_take,List.length_replicate,List.getElem?_take,List.getElem?_drop,List.getElem?_replicate]
  by_cases ha:i<min a l.length
  ·rw [if_pos ha,if_pos ha]
  ·rw [if_neg ha,if_neg ha]
   by_cases hb:i - min a l.length<t - a
   ·rw [if_pos hb,if_pos hb,if_pos (by omega),if_pos (by omega)]
   ·rw [if_neg hb,if_neg (by omega)]
    congr 1;omega
set_option maxHeartbeats 2000000 in
theorem zH (l:List Bool) (a:Nat) (v:Int) (t:Nat) (c:Bool) (hv:max v 0=(a:Int)) (hvb:-1≤v∧v≤5000) (h1:a≤t) (h2:t≤l.length) (hl:l.length≤4000) :
  iC Tryz.prog 144 [.int .i64 v,.int .i64 t,.bool c,.ptr 0 0] [(0,.box 22 [.own 1]),(1,.row 4 (.bools l))] 2 (.tup []) [(0,.box 22 [.own 1]),(1,.row 4 (.bools (qJ l a t c)))]:=by
 refine iC.aJ Tryz.func144 rfl (by decide) (by simp [Tryz.f144]) Au [] rfl fun w0 T0 _=>?_
 simp only [Tryz.f144,aB]
 (repeat' with_reducible first|intro _|refine rz ?_|refine ra ?_ ?_|omega|simp only [go_sem,hv])
 refine aI.intro (fun i:Nat=>⟨19,[(7,.int .i64 i),(3,.ptr 0 0),(2,.bool c),(1,.int .i64 t)],[(0,.box 22 [.own 1]),(1,.row 4 (.bools (qJ l a i c)))],2⟩) (fun i=>a≤i∧i≤t) (fun i=>t - i) a ?_ ⟨Nat.le_refl _,h1⟩ fun i hi=>?_
 ·have e0:qJ l a a c=l:=by unfold qJ;rw [Nat.sub_self,List.replicate_zero,List.nil_append,List.take_append_drop]
  refine aO.NV 2 rfl (Nat.le_refl 2) ?_ ?_<;>simp only [go_sem,Int.natCast_succ,gV,e0]
  all_goals first|rfl|omega
 obtain ⟨hi1,hi2⟩:=hi
 have hfl:=Eu (l:=l) (c:=c) hi1 (by omega)
 by_cases hlt:i<t
 ·have f1:((i:Int)<(t:Int))=True:=eq_true (by omega)
  have hst:=PW (l:=l) (c:=c) hi1 (by omega)
  (repeat' with_reducible first|intro _|refine rz ?_|refine ra ?_ ?_|omega|simp only [go_sem,f1,hfl,hst])
  refine ⟨i+1,aO.NV 2 rfl (Nat.le_refl 2) ?_ ?_,⟨by omega,by omega⟩,by omega⟩<;>simp only [go_sem,Int.natCast_succ,gV,hst]
 ·have e:i=t:=by omega
  subst e
  have f1:((i:Int)<(i:Int))=False:=eq_false (by omega)
  (repeat' with_reducible first|intro _|refine rz ?_|refine ra ?_ ?_|omega|simp only [go_sem,f1])
  refine kT.auto 2 (Nat.le_refl 2) ?_ rfl ?_<;>simp only [go_sem,Int.natCast_succ,gV]
end Go.Fv.H
