/-
  A part of the proof of the claim: walks over the program's functions and the plain laws that these need. No condition of its own.
-/
import Derived.Test.YtodlgmmbfbiilaaGreatDoorFvPart10
import Derived.Test.YtodlgmmbfbiilaaGreatDoorFvPart11
import Derived.Test.YtodlgmmbfbiilaaGreatDoorProg
set_option linter.unusedSimpArgs false
set_option linter.unusedVariables false
set_option linter.unnecessarySimpa false
set_option maxRecDepth 8000
/- Tokens of a text: what Split and its reference compute, in plain words. -/
namespace Go.Fv.H
open Go
abbrev Bytes:=List UInt8
end Go.Fv.H
/- Pixels by adaptive bits, in plain words. -/
namespace Go.Fv.H
open Go
def tN (W H:Nat) (P:List Bool) (x y:Int):Bool:=decide (0≤x∧x<W∧0≤y∧y<H) && P.getD (y*W+x).toNat false
def Qm:List (Int × Int):=[(-1,-2),(0,-2),(1,-2),(-2,-1),(-1,-1),(0,-1),(1,-1),(2,-1),(-2,0),(-1,0)]
def qw (b:Bool):Nat:=if b=true then 1 else 0
def pF (W H:Nat) (P:List Bool) (x y:Int):Nat:=Qm.foldl (fun n d=>2*n+qw (tN W H P (x+d.1) (y+d.2))) 0
theorem N7 (b:Bool):qw b≤1:=by unfold qw;split<;>omega
theorem pG (W H:Nat) (P:List Bool) (x y:Int):pF W H P x y<1024:=by
 have key:∀ (l:List (Int × Int)) (n k:Nat),n<2 ^ k→l.foldl (fun n d=>2*n+qw (tN W H P (x+d.1) (y+d.2))) n<2 ^ (k+l.length):=by
  intro l
  induction l with
  | nil=>intro n k h;exact h
  | cons d l ih=>
   intro n k h
   have:=N7 (tN W H P (x+d.1) (y+d.2))
   have h2:=ih (2*n+qw (tN W H P (x+d.1) (y+d.2))) (k+1) (by rw [Nat.pow_succ];omega)
   rw [List.foldl_cons,List.length_cons,Nat.add_comm l.length 1,←Nat.add_assoc];exact h2
 exact key Qm 0 0 (by decide)
theorem nR {W H:Nat} {P Q:List Bool} {x y:Nat} (hx:x<W) (h:P.take (y*W+x)=Q.take (y*W+x)) {d e:Int} (hd:e<0∨(e=0∧d<0)):tN W H P (x+d) (y+e)=tN W H Q (x+d) (y+e):=by
 unfold tN
 by_cases hc:0≤(x:Int)+d∧(x:Int)+d<W∧0≤(y:Int)+e∧(y:Int)+e<H
 ·rw [decide_eq_true hc,Bool.true_and,Bool.true_and]
  have hlt:(((y:Int)+e)*W+((x:Int)+d)).toNat<y*W+x:=by
   rcases hd with hd|⟨rfl,hd⟩
   ·have h1:((y:Int)+e)*W≤((y:Int) - 1)*W:=Int.mul_le_mul_of_nonneg_right (by omega) (by omega)
    have h2:((y:Int) - 1)*W=(y:Int)*W - W:=by rw [Int.sub_mul,Int.one_mul]
    have h3:((y*W:Nat):Int)=(y:Int)*W:=by simp
    have h4:0≤((y:Int)+e)*W:=Int.mul_nonneg (by omega) (by omega)
    omega
   ·have h3:((y*W:Nat):Int)=(y:Int)*W:=by simp
    rw [Int.add_zero]
    omega
  generalize (((y:Int)+e)*W+((x:Int)+d)).toNat=j at hlt
  have hj:(P.take (y*W+x))[j]?=(Q.take (y*W+x))[j]?:=by rw [h]
  rw [List.getElem?_take,List.getElem?_take,if_pos hlt,if_pos hlt] at hj
  rw [List.getD_eq_getElem?_getD,List.getD_eq_getElem?_getD,hj]
 ·rw [decide_eq_false hc,Bool.false_and,Bool.false_and]
theorem VH {W H:Nat} {P Q:List Bool} {x y:Nat} (hx:x<W) (h:P.take (y*W+x)=Q.take (y*W+x)):pF W H P x y=pF W H Q x y:=by
 unfold pF Qm
 simp only [List.foldl_cons,List.foldl_nil]
 rw [nR hx h (by omega:(-2:Int)<0∨_),nR hx h (by omega:(-2:Int)<0∨_),nR hx h (by omega:(-2:Int)<0∨_),
  nR hx h (by omega:(-1:Int)<0∨_),nR hx h (by omega:(-1:Int)<0∨_),nR hx h (by omega:(-1:Int)<0∨_),nR hx h (by omega:(-1:Int)<0∨_),nR hx h (by omega:(-1:Int)<0∨_),
  nR hx h (by omega:(0:Int)<0∨_),nR hx h (by omega:(0:Int)<0∨_)]
def Mc (p:Nat) (k:Bool):Nat:=if k=true then p - p / 32 else p+(4096 - p) / 32
structure AE where
 big:Nat
 span:Nat
 sh:Nat
 tab:List Nat
def AE.init:AE:=⟨0,4294967295,0,List.replicate 1024 2048⟩
def AE.m (s:AE) (c:Nat):Nat:=s.span / 4096*s.tab.getD c 0
def AE.mid (s:AE) (c:Nat) (k:Bool):AE:=⟨if k=true then s.big+s.m c else s.big,if k=true then s.span - s.m c else s.m c,s.sh,s.tab.set c (Mc (s.tab.getD c 0) k)⟩
def AE.norm (s:AE):AE:=if s.span<16777216 then ⟨s.big*256,s.span*256,s.sh+1,s.tab⟩ else s
def AE.step (s:AE) (c:Nat) (k:Bool):AE:=(s.mid c k).norm
structure AE.Ok (s:AE):Prop where
 lo:16777216≤s.span
 hi:s.span≤4294967295
 len:s.tab.length=1024
 tab:∀ p,p∈s.tab→31≤p∧p≤4065
 top:s.big+s.span≤4294967296*256 ^ s.sh
theorem AE.Gf:AE.init.Ok:=⟨by decide,by decide,List.length_replicate,fun p hp=>by rw [List.eq_of_mem_replicate hp];omega,by decide⟩
theorem Gm {p:Nat} (h:31≤p∧p≤4065) (k:Bool):31≤Mc p k∧Mc p k≤4065:=by unfold Mc;split<;>omega
theorem AE.Nq {s:AE} (h:s.Ok) {c:Nat} (hc:c<1024):31≤s.tab.getD c 0∧s.tab.getD c 0≤4065:=by
 have hl:c<s.tab.length:=by rw [h.len];exact hc
 rw [getD_lt hl]
 exact h.tab _ (List.getElem_mem hl)
theorem AE.TJ {s:AE} (h:s.Ok) {c:Nat} (hc:c<1024):65536≤s.m c∧s.m c+65536≤s.span:=by
 obtain ⟨h1,h2⟩:=AE.Nq h hc
 have h3:=h.lo
 unfold AE.m
 have h4:4096≤s.span / 4096:=by omega
 have h5:s.span / 4096*31≤s.span / 4096*s.tab.getD c 0:=Nat.mul_le_mul_left _ h1
 have h6:s.span / 4096*s.tab.getD c 0≤s.span / 4096*4065:=Nat.mul_le_mul_left _ h2
 omega
theorem AE.uG {s:AE} (h:s.Ok) {c:Nat} (hc:c<1024) (k:Bool):(s.mid c k).tab.length=1024∧(∀ p,p∈(s.mid c k).tab→31≤p∧p≤4065)∧65536≤(s.mid c k).span∧(s.mid c k).span≤4294967295∧s.big≤(s.mid c k).big∧(s.mid c k).big+(s.mid c k).span≤s.big+s.span:=by
 obtain ⟨h1,h2⟩:=AE.TJ h hc
 have h3:=h.hi
 refine ⟨by show (s.tab.set _ _).length=_;rw [List.length_set,h.len],fun p hp=>?_,?_⟩
 ·rcases List.mem_or_eq_of_mem_set hp with hp|rfl
  ·exact h.tab p hp
  ·exact Gm (AE.Nq h hc) k
 ·unfold AE.mid
  dsimp only
  cases k
  ·simp only [Bool.false_eq_true,if_false];omega
  ·simp only [if_true];omega
theorem AE.step_ok {s:AE} (h:s.Ok) {c:Nat} (hc:c<1024) (k:Bool):(s.step c k).Ok:=by
 obtain ⟨h1,h2,h3,h4,h5,h6⟩:=AE.uG h hc k
 have h7:=h.top
 have h8:(s.mid c k).sh=s.sh:=rfl
 unfold AE.step AE.norm
 split
 ·refine ⟨by dsimp only;omega,by dsimp only;omega,h1,h2,?_⟩
  show (s.mid c k).big*256+(s.mid c k).span*256≤4294967296*256 ^ ((s.mid c k).sh+1)
  rw [h8,Nat.pow_succ,←Nat.add_mul,←Nat.mul_assoc]
  exact Nat.mul_le_mul_right _ (by omega)
 ·exact ⟨by omega,h4,h1,h2,by rw [h8];omega⟩
def bH (W H:Nat) (P:List Bool):Nat→AE
 | 0=>AE.init
 | i+1=>(bH W H P i).step (pF W H P ((i%W:Nat):Int) ((i / W:Nat):Int)) (P.getD i false)
theorem rV (W H:Nat) (P:List Bool):∀ i,(bH W H P i).Ok
 | 0=>AE.Gf
 | i+1=>AE.step_ok (rV W H P i) (pG _ _ _ _ _) _
theorem O8 {s:AE} (h:s.Ok) {c:Nat} (hc:c<1024) (k:Bool):∃ r,(s.step c k).sh=s.sh+r∧r≤1∧s.big*256 ^ r≤(s.step c k).big∧(s.step c k).big+(s.step c k).span≤(s.big+s.span)*256 ^ r:=by
 obtain ⟨h1,h2,h3,h4,h5,h6⟩:=AE.uG h hc k
 have h8:(s.mid c k).sh=s.sh:=rfl
 unfold AE.step AE.norm
 split
 ·refine ⟨1,by rw [h8],Nat.le_refl _,?_,?_⟩
  ·show s.big*256 ^ 1≤(s.mid c k).big*256
   omega
  ·show (s.mid c k).big*256+(s.mid c k).span*256≤(s.big+s.span)*256 ^ 1
   omega
 ·exact ⟨0,by rw [h8,Nat.add_zero],by omega,by omega,by omega⟩
theorem Xk (W H:Nat) (P:List Bool) (i:Nat):∀ d,∃ r,(bH W H P (i+d)).sh=(bH W H P i).sh+r∧(bH W H P i).big*256 ^ r≤(bH W H P (i+d)).big∧(bH W H P (i+d)).big+(bH W H P (i+d)).span≤((bH W H P i).big+(bH W H P i).span)*256 ^ r
 | 0=>⟨0,rfl,by simp,by simp⟩
 | d+1=>by
  obtain ⟨r,h1,h2,h3⟩:=Xk W H P i d
  obtain ⟨q,g1,_,g2,g3⟩:=O8 (rV W H P (i+d)) (pG W H P (((i+d)%W:Nat):Int) (((i+d) / W:Nat):Int)) (P.getD (i+d) false)
  have e:bH W H P (i+(d+1))=(bH W H P (i+d)).step (pF W H P (((i+d)%W:Nat):Int) (((i+d) / W:Nat):Int)) (P.getD (i+d) false):=rfl
  rw [e]
  refine ⟨r+q,?_,?_,?_⟩
  ·rw [g1,h1,Nat.add_assoc]
  ·refine Nat.le_trans ?_ g2
   rw [Nat.pow_add,←Nat.mul_assoc]
   exact Nat.mul_le_mul_right _ h2
  ·refine Nat.le_trans g3 ?_
   rw [Nat.pow_add,←Nat.mul_assoc]
   exact Nat.mul_le_mul_right _ h3
def seen (W H:Nat) (P:List Bool) (n i:Nat):Nat:=(bH W H P n).big / 256 ^ ((bH W H P n).sh - (bH W H P i).sh)
theorem zQ (W H:Nat) (P:List Bool) {n i:Nat} (h:i≤n):(bH W H P i).sh≤(bH W H P n).sh∧(bH W H P i).big≤seen W H P n i∧seen W H P n i<(bH W H P i).big+(bH W H P i).span:=by
 obtain ⟨r,h1,h2,h3⟩:=Xk W H P i (n - i)
 rw [Nat.add_sub_cancel' h] at h1 h2 h3
 have h4:=(rV W H P n).lo
 unfold seen
 rw [h1,Nat.add_sub_cancel_left]
 have hp:0<256 ^ r:=Nat.pow_pos (by decide)
 exact ⟨by omega,(Nat.le_div_iff_mul_le hp).2 h2,(Nat.div_lt_iff_lt_mul hp).2 (by omega)⟩
end Go.Fv.H
/- Pixels by adaptive bits: what is coded is read. -/
namespace Go.Fv.H
open Go
def dV (k n:Nat):Bytes:=(List.range k).map fun i=>UInt8.ofNat (n / 256 ^ (k - 1 - i))
theorem aP (k n:Nat):(dV k n).length=k:=by simp [dV]
theorem KX {k n j:Nat} (h:j<k):((dV k n).getD j 0).toNat=n / 256 ^ (k - 1 - j)%256:=by
 unfold dV
 rw [List.getD_eq_getElem?_getD,List.getElem?_map,List.getElem?_range h]
 simp
theorem Ei {l:Bytes} (j:Nat):(l.drop j).headD 0=l.getD j 0:=by
 rw [List.headD_eq_head?_getD,List.head?_drop,List.getD_eq_getElem?_getD]
def fH (d:Bytes):Nat:=(d.headD 0).toNat
theorem gW (d:Bytes):fH d<256:=(d.headD 0).toNat_lt
structure AD where
 code:Nat
 span:Nat
 tab:List Nat
 data:Bytes
 P:List Bool
def four (d:Bytes):Nat:=((fH d*256+fH (d.drop 1))*256+fH (d.drop 2))*256+fH (d.drop 3)
def AD.init (d:Bytes) (n:Nat):AD:=⟨four d,4294967295,List.replicate 1024 2048,d.drop 4,List.replicate n false⟩
def AD.c (W H:Nat) (s:AD) (i:Nat):Nat:=pF W H s.P ((i%W:Nat):Int) ((i / W:Nat):Int)
def AD.m (s:AD) (c:Nat):Nat:=s.span / 4096*s.tab.getD c 0
def AD.k (s:AD) (c:Nat):Bool:=decide (s.m c≤s.code)
def AD.mid (s:AD) (c i:Nat):AD:=⟨if s.k c=true then s.code - s.m c else s.code,if s.k c=true then s.span - s.m c else s.m c,s.tab.set c (Mc (s.tab.getD c 0) (s.k c)),s.data,s.P.set i (s.k c)⟩
def AD.norm (s:AD):AD:=if s.span<16777216 then ⟨s.code*256%4294967296+fH s.data,s.span*256,s.tab,s.data.drop 1,s.P⟩ else s
def AD.step (W H:Nat) (s:AD) (i:Nat):AD:=(s.mid (s.c W H i) i).norm
def jf (W H:Nat) (d:Bytes) (n:Nat):Nat→AD
 | 0=>AD.init d n
 | i+1=>(jf W H d n i).step W H i
structure AD.Ok (s:AD) (n:Nat):Prop where
 lo:16777216≤s.span
 hi:s.span≤4294967295
 len:s.tab.length=1024
 tab:∀ p,p∈s.tab→31≤p∧p≤4065
 code:s.code≤4294967295
 P:s.P.length=n
theorem VU (d:Bytes):four d≤4294967295:=by
 have h0:=gW d
 have h1:=gW (d.drop 1)
 have h2:=gW (d.drop 2)
 have h3:=gW (d.drop 3)
 unfold four;omega
theorem AD.Gf (d:Bytes) (n:Nat):(AD.init d n).Ok n:=⟨by show _≤4294967295;omega,Nat.le_refl _,List.length_replicate,fun p hp=>by rw [List.eq_of_mem_replicate hp];omega,VU d,List.length_replicate⟩
theorem AD.TJ {s:AD} {n:Nat} (h:s.Ok n) {c:Nat} (hc:c<1024):(31≤s.tab.getD c 0∧s.tab.getD c 0≤4065)∧65536≤s.m c∧s.m c+65536≤s.span:=by
 have hl:c<s.tab.length:=by rw [h.len];exact hc
 have h0:=h.tab _ (List.getElem_mem hl)
 rw [←getD_lt (d:=0) hl] at h0
 obtain ⟨h1,h2⟩:=h0
 have h3:=h.lo
 unfold AD.m
 have h4:4096≤s.span / 4096:=by omega
 have h5:s.span / 4096*31≤s.span / 4096*s.tab.getD c 0:=Nat.mul_le_mul_left _ h1
 have h6:s.span / 4096*s.tab.getD c 0≤s.span / 4096*4065:=Nat.mul_le_mul_left _ h2
 omega
theorem AD.uG {s:AD} {n:Nat} (h:s.Ok n) {c:Nat} (hc:c<1024) (i:Nat):65536≤(s.mid c i).span∧(s.mid c i).span≤4294967295∧(s.mid c i).code≤4294967295∧(s.mid c i).tab.length=1024∧(∀ p,p∈(s.mid c i).tab→31≤p∧p≤4065)∧(s.mid c i).P.length=n:=by
 obtain ⟨h0,h1,h2⟩:=AD.TJ h hc
 have h3:=h.hi
 have h4:=h.code
 refine ⟨?_,?_,?_,by show (s.tab.set _ _).length=_;rw [List.length_set,h.len],fun p hp=>?_,by show (s.P.set _ _).length=_;rw [List.length_set,h.P]⟩
 ·unfold AD.mid;dsimp only;split<;>omega
 ·unfold AD.mid;dsimp only;split<;>omega
 ·unfold AD.mid;dsimp only;split<;>omega
 ·rcases List.mem_or_eq_of_mem_set hp with hp|rfl
  ·exact h.tab p hp
  ·exact Gm h0 _
theorem AD.OV {s:AD} {n:Nat} (h:65536≤s.span∧s.span≤4294967295∧s.code≤4294967295∧s.tab.length=1024∧(∀ p,p∈s.tab→31≤p∧p≤4065)∧s.P.length=n):s.norm.Ok n:=by
 obtain ⟨h1,h2,h3,h4,h5,h6⟩:=h
 have:=gW s.data
 unfold AD.norm
 split
 ·exact ⟨by dsimp only;omega,by dsimp only;omega,h4,h5,by dsimp only;omega,h6⟩
 ·exact ⟨by omega,h2,h4,h5,h3,h6⟩
theorem FP (W H:Nat) (d:Bytes) (n:Nat):∀ i,(jf W H d n i).Ok n
 | 0=>AD.Gf d n
 | i+1=>AD.OV (AD.uG (FP W H d n i) (pG _ _ _ _ _) i)
def Ie (W H:Nat) (P:List Bool):Bytes:=dV (4+(bH W H P P.length).sh) (bH W H P P.length).big
theorem QL (W H:Nat) (P:List Bool):four (Ie W H P)=seen W H P P.length 0:=by
 obtain ⟨h1,h2,h3⟩:=zQ W H P (Nat.zero_le P.length)
 unfold Ie seen at *
 have e0:(bH W H P 0).sh=0:=rfl
 have e1:(bH W H P 0).big=0:=rfl
 have e2:(bH W H P 0).span=4294967295:=rfl
 simp only [e0,e1,e2,Nat.sub_zero,Nat.zero_add] at h2 h3 ⊢
 clear e0 e1 e2 h1
 generalize (bH W H P P.length).sh=k at *
 generalize (bH W H P P.length).big=N at *
 have key:∀ j,j<4→fH ((dV (4+k) N).drop j)=N / 256 ^ k / 256 ^ (3 - j)%256:=fun j hj=>by
  unfold fH
  rw [Ei,KX (by omega),Nat.div_div_eq_div_mul,←Nat.pow_add]
  congr 3
  omega
 have k0:=key 0 (by omega)
 have k1:=key 1 (by omega)
 have k2:=key 2 (by omega)
 have k3:=key 3 (by omega)
 rw [List.drop_zero] at k0
 unfold four
 rw [k0,k1,k2,k3]
 generalize N / 256 ^ k=q at *
 clear key k0 k1 k2 k3
 simp only [Nat.sub_zero,Nat.reduceSub,Nat.reducePow,Nat.pow_zero,Nat.div_one]
 omega
theorem E5 (W H:Nat) (P:List Bool) {i:Nat} (hi:i<P.length) (hsh:(bH W H P (i+1)).sh=(bH W H P i).sh+1) :
  seen W H P P.length (i+1)=seen W H P P.length i*256+fH ((Ie W H P).drop (4+(bH W H P i).sh)):=by
 have h1:=(zQ W H P (show i+1≤P.length from hi)).1
 rw [hsh] at h1
 unfold Ie seen fH
 rw [Ei,KX (by omega),hsh]
 generalize (bH W H P P.length).sh=k at *
 generalize (bH W H P P.length).big=N at *
 generalize (bH W H P i).sh=j at *
 have e1:4+k - 1 - (4+j)=k - (j+1):=by omega
 have e2:k - j=(k - (j+1))+1:=by omega
 rw [e1,e2,Nat.pow_succ,←Nat.div_div_eq_div_mul]
 generalize N / 256 ^ (k - (j+1))=q
 omega
theorem E8 (W H:Nat) (P:List Bool) {i:Nat} (hsh:(bH W H P (i+1)).sh=(bH W H P i).sh):seen W H P P.length (i+1)=seen W H P P.length i:=by
 unfold seen;rw [hsh]
theorem UH (W H:Nat) (P:List Bool) {i:Nat} (hi:i<P.length) (c:Nat) (hc:c=pF W H P ((i%W:Nat):Int) ((i / W:Nat):Int)) :
  ((bH W H P i).mid c (P.getD i false)).big≤seen W H P P.length i∧seen W H P P.length i<((bH W H P i).mid c (P.getD i false)).big+((bH W H P i).mid c (P.getD i false)).span:=by
 obtain ⟨_,h2,h3⟩:=zQ W H P (show i+1≤P.length from hi)
 have e:bH W H P (i+1)=((bH W H P i).mid c (P.getD i false)).norm:=by rw [hc];rfl
 have e8:((bH W H P i).mid c (P.getD i false)).sh=(bH W H P i).sh:=rfl
 by_cases hs:((bH W H P i).mid c (P.getD i false)).span<16777216
 ·have e2:bH W H P (i+1)=⟨((bH W H P i).mid c (P.getD i false)).big*256,((bH W H P i).mid c (P.getD i false)).span*256,(bH W H P i).sh+1,((bH W H P i).mid c (P.getD i false)).tab⟩:=by
   rw [e];unfold AE.norm;rw [if_pos hs,e8]
  have hn:=E5 W H P hi (by rw [e2])
  have hb:=gW ((Ie W H P).drop (4+(bH W H P i).sh))
  rw [hn] at h2 h3
  rw [e2] at h2 h3
  dsimp only at h2 h3
  omega
 ·have e2:bH W H P (i+1)=(bH W H P i).mid c (P.getD i false):=by rw [e];unfold AE.norm;rw [if_neg hs]
  have hn:=E8 W H P (i:=i) (by rw [e2];rfl)
  rw [hn,e2] at h2 h3
  exact ⟨h2,h3⟩
theorem Uc {P:List Bool} {i n:Nat} (hi:i<P.length) (hn:P.length=n):(P.take i++List.replicate (n - i) false).set i (P.getD i false)=P.take (i+1)++List.replicate (n - (i+1)) false:=by
 have hl:(P.take i).length=i:=by rw [List.length_take];omega
 have e:n - i=(n - (i+1))+1:=by omega
 rw [List.set_append_right _ _ (by omega),hl,Nat.sub_self,e,List.replicate_succ,List.set_cons_zero,List.take_succ_eq_append_getElem hi,getD_lt hi,List.append_assoc]
 rfl
theorem D8 (W H:Nat) (P:List Bool) (hW:0<W):∀ i,i≤P.length →
  jf W H (Ie W H P) P.length i=⟨seen W H P P.length i - (bH W H P i).big,(bH W H P i).span,(bH W H P i).tab,(Ie W H P).drop (4+(bH W H P i).sh),P.take i++List.replicate (P.length - i) false⟩
 | 0,_=>by
  show AD.init _ _=_
  unfold AD.init
  rw [QL]
  rfl
 | i+1,hi=>by
  have ih:=D8 W H P hW i (by omega)
  obtain ⟨s1,s2,s3⟩:=zQ W H P (show i≤P.length by omega)
  have hok:=rV W H P i
  have hc:pF W H (P.take i++List.replicate (P.length - i) false) ((i%W:Nat):Int) ((i / W:Nat):Int)=pF W H P ((i%W:Nat):Int) ((i / W:Nat):Int):=by
   refine VH (Nat.mod_lt _ hW) ?_
   have e:i / W*W+i%W=i:=by rw [Nat.mul_comm];exact Nat.div_add_mod i W
   rw [e,List.take_left' (by rw [List.length_take];omega)]
  have hcl:=pG W H P ((i%W:Nat):Int) ((i / W:Nat):Int)
  obtain ⟨m1,m2⟩:=UH W H P (show i<P.length from hi) _ rfl
  have hmid:=AE.uG hok hcl (P.getD i false)
  have e:bH W H P (i+1)=((bH W H P i).mid (pF W H P ((i%W:Nat):Int) ((i / W:Nat):Int)) (P.getD i false)).norm:=rfl
  have hset:=Uc (show i<P.length from hi) rfl
  have hsn:=fun h=>E5 W H P (show i<P.length from hi) h
  have hss:=fun h=>E8 W H P (i:=i) h
  show ((jf W H (Ie W H P) P.length i).mid _ i).norm=_
  unfold AD.c
  rw [ih]
  dsimp only
  rw [hc]
  generalize pF W H P ((i%W:Nat):Int) ((i / W:Nat):Int)=c at *
  generalize bH W H P (i+1)=t at *
  generalize bH W H P i=s at *
  generalize seen W H P P.length i=q at *
  generalize seen W H P P.length (i+1)=q' at *
  generalize Ie W H P=d at *
  generalize P.getD i false=k at *
  have em:(⟨q - s.big,s.span,s.tab,d.drop (4+s.sh),P.take i++List.replicate (P.length - i) false⟩:AD).m c=s.m c:=rfl
  have ek:(⟨q - s.big,s.span,s.tab,d.drop (4+s.sh),P.take i++List.replicate (P.length - i) false⟩:AD).k c=k:=by
   unfold AD.k
   rw [em]
   dsimp only
   unfold AE.mid at m1 m2
   dsimp only at m1 m2
   cases k
   ·simp only [Bool.false_eq_true,if_false] at m1 m2
    rw [decide_eq_false (by omega)]
   ·simp only [if_true] at m1 m2
    have:=hok.lo
    rw [decide_eq_true (by omega)]
  have e1:(⟨q - s.big,s.span,s.tab,d.drop (4+s.sh),P.take i++List.replicate (P.length - i) false⟩:AD).mid c i=⟨q - (s.mid c k).big,(s.mid c k).span,(s.mid c k).tab,d.drop (4+s.sh),P.take (i+1)++List.replicate (P.length - (i+1)) false⟩:=by
   unfold AD.mid
   rw [ek,em]
   dsimp only
   rw [hset]
   unfold AE.mid at m1 m2 ⊢
   dsimp only at m1 m2 ⊢
   cases k
   ·simp only [Bool.false_eq_true,if_false]
   ·simp only [if_true] at m1 ⊢
    congr 1
    omega
  rw [e1]
  have e8:(s.mid c k).sh=s.sh:=rfl
  unfold AE.norm at e
  unfold AD.norm
  dsimp only
  by_cases hs:(s.mid c k).span<16777216
  ·rw [if_pos hs] at e ⊢
   have:=hsn (by rw [e];rfl)
   rw [e]
   dsimp only
   rw [List.drop_drop,e8]
   have hb:=gW (d.drop (4+s.sh))
   congr 1
   rw [this,Nat.mod_eq_of_lt (by omega)]
   omega
  ·rw [if_neg hs] at e ⊢
   have:=hss (by rw [e];rfl)
   rw [e,this,e8]
theorem Rq (W H:Nat) (P:List Bool) (hW:0<W):(jf W H (Ie W H P) P.length P.length).P=P:=by
 rw [D8 W H P hW P.length (Nat.le_refl _)]
 simp
end Go.Fv.H
/- Bytes of numbers, sums of bytes, in plain words. -/
namespace Go.Fv.H
open Go
theorem lY (k n:Nat):dV (k+1) n=dV k (n / 256)++[UInt8.ofNat n]:=by
 unfold dV
 rw [List.range_succ,List.map_append]
 congr 1
 ·apply List.map_congr_left
  intro i hi
  rw [List.mem_range] at hi
  rw [Nat.div_div_eq_div_mul]
  have e:k+1 - 1 - i=(k - 1 - i)+1:=by omega
  rw [e,Nat.pow_succ,Nat.mul_comm]
 ·simp
theorem Ip (n:Nat):dV 0 n=[]:=rfl
theorem Vr (a b n:Nat):dV (a+b) n=dV a (n / 256 ^ b)++dV b n:=by
 induction b generalizing n with
 | zero=>simp [Ip]
 | succ b ih=>
  rw [←Nat.add_assoc,lY,ih,lY b,Nat.div_div_eq_div_mul,List.append_assoc,Nat.pow_succ,Nat.mul_comm 256]
def LU:Bytes→Bytes
 | []=>[]
 | c::l=>if c=255 then 0::LU l else (c+1)::l
theorem NW (k n:Nat):(dV (k+1) n).reverse=UInt8.ofNat n::(dV k (n / 256)).reverse:=by rw [lY,List.reverse_append];rfl
theorem V8 (k n:Nat):LU (dV k n).reverse=(dV k (n+1)).reverse:=by
 induction k generalizing n with
 | zero=>rfl
 | succ k ih=>
  rw [NW,NW]
  unfold LU
  have hlt:=(UInt8.ofNat n).toNat_lt
  have hn:(UInt8.ofNat n).toNat=n%256:=by simp
  by_cases h:n%256=255
  ·have e:UInt8.ofNat n=255:=UInt8.toNat_inj.1 (by rw [hn,h];rfl)
   have e2:UInt8.ofNat (n+1)=0:=UInt8.toNat_inj.1 (by simp;omega)
   have e3:(n+1) / 256=n / 256+1:=by omega
   rw [if_pos e,ih,e2,e3]
  ·have e:¬UInt8.ofNat n=255:=fun e=>h (by rw [←hn,e];rfl)
   have e2:UInt8.ofNat n+1=UInt8.ofNat (n+1):=UInt8.toNat_inj.1 (by simp)
   have e3:(n+1) / 256=n / 256:=by omega
   rw [if_neg e,e2,e3]
def bV (s:Bytes):Nat:=s.foldl (fun n c=>n*256+c.toNat) 0
theorem xX (s:Bytes) (c:UInt8):bV (s++[c])=bV s*256+c.toNat:=by unfold bV;rw [List.foldl_append];rfl
theorem nH (k n:Nat):bV (dV k n)=n%256 ^ k:=by
 induction k generalizing n with
 | zero=>rw [Ip,Nat.pow_zero,Nat.mod_one];rfl
 | succ k ih=>
  have h1:n%(256*256 ^ k)=n%256+256*(n / 256%256 ^ k):=Nat.mod_mul
  have h2:(UInt8.ofNat n).toNat=n%256:=by simp
  rw [lY,xX,ih,Nat.pow_succ,Nat.mul_comm (256 ^ k) 256,h1,h2]
  omega
theorem nI:∀ s:Bytes,bV s<256 ^ s.length:=by
 intro s
 have key:∀ (l:Bytes) (n k:Nat),n<256 ^ k→l.foldl (fun n c=>n*256+c.toNat) n<256 ^ (k+l.length):=by
  intro l
  induction l with
  | nil=>intro n k h;exact h
  | cons c l ih=>
   intro n k h
   have hc:=c.toNat_lt
   have:=ih (n*256+c.toNat) (k+1) (by rw [Nat.pow_succ];omega)
   rw [List.foldl_cons,List.length_cons,Nat.add_comm l.length 1,←Nat.add_assoc];exact this
 have:=key s 0 0 (by decide)
 rwa [Nat.zero_add] at this
def I9 (h:Nat) (c:UInt8):Nat:=((h ^^^ c.toNat)*1099511628211)%18446744073709551616
def AP (s:Bytes):Nat:=s.foldl I9 14695981039346656037
def dX (s:Bytes):Bytes:=dV 8 (AP s)
theorem VR (h:Nat) (c:UInt8):I9 h c<18446744073709551616:=Nat.mod_lt _ (by decide)
theorem Oo:∀ (s:Bytes) (h:Nat),h<18446744073709551616→s.foldl I9 h<18446744073709551616
 | [],_,h=>h
 | c::s,h,_=>Oo s (I9 h c) (VR h c)
theorem VQ (s:Bytes):AP s<18446744073709551616:=Oo s _ (by decide)
theorem rH (s:Bytes):(dX s).length=8:=aP _ _
end Go.Fv.H
/- Facts about the program's types: each shown by reckoning it out. -/
namespace Go.Fv.H
open Go Go.Proofs
theorem e1:aX Tryz.prog 1 (.nilFunc):=.of (by kernel_rfl) (by kernel_rfl)
theorem z1:zeroOf Tryz.prog 1=some (.nilFunc):=e1.zero
theorem c1:Tryz.prog.cellsOf 1=1:=e1.cellsOf
theorem e2:aX Tryz.prog 2 (.int .i64 0):=.of (by kernel_rfl) (by kernel_rfl)
theorem z2:zeroOf Tryz.prog 2=some (.int .i64 0):=e2.zero
theorem c2:Tryz.prog.cellsOf 2=1:=e2.cellsOf
theorem e3:aX Tryz.prog 3 (.int .i64 0):=.of (by kernel_rfl) (by kernel_rfl)
theorem z3:zeroOf Tryz.prog 3=some (.int .i64 0):=e3.zero
theorem c3:Tryz.prog.cellsOf 3=1:=e3.cellsOf
theorem e4:aX Tryz.prog 4 (.bool false):=.of (by kernel_rfl) (by kernel_rfl)
theorem z4:zeroOf Tryz.prog 4=some (.bool false):=e4.zero
theorem c4:Tryz.prog.cellsOf 4=1:=e4.cellsOf
theorem e5:aX Tryz.prog 5 (.int .u8 0):=.of (by kernel_rfl) (by kernel_rfl)
theorem z5:zeroOf Tryz.prog 5=some (.int .u8 0):=e5.zero
theorem c5:Tryz.prog.cellsOf 5=1:=e5.cellsOf
theorem e6:aX Tryz.prog 6 (.int .u8 0):=.of (by kernel_rfl) (by kernel_rfl)
theorem z6:zeroOf Tryz.prog 6=some (.int .u8 0):=e6.zero
theorem e7:aX Tryz.prog 7 (.agg #[.int .i64 0,.int .i64 0,.bool false,.int .u8 0]):=.of (by kernel_rfl) (by kernel_rfl)
theorem z7:zeroOf Tryz.prog 7=some (.agg #[.int .i64 0,.int .i64 0,.bool false,.int .u8 0]):=e7.zero
theorem e8:aX Tryz.prog 8 (.agg #[.int .i64 0,.int .i64 0,.bool false,.int .u8 0]):=.of (by kernel_rfl) (by kernel_rfl)
theorem e9:aX Tryz.prog 9 (.string ⟨#[]⟩):=.of (by kernel_rfl) (by kernel_rfl)
theorem z9:zeroOf Tryz.prog 9=some (.string ⟨#[]⟩):=e9.zero
theorem c9:Tryz.prog.cellsOf 9=1:=e9.cellsOf
theorem e17:aX Tryz.prog 17 (.pointer none):=.of (by kernel_rfl) (by kernel_rfl)
theorem e22:aX Tryz.prog 22 (.slice none 0 0):=.of (by kernel_rfl) (by kernel_rfl)
theorem z22:zeroOf Tryz.prog 22=some (.slice none 0 0):=e22.zero
theorem c22:Tryz.prog.cellsOf 22=1:=e22.cellsOf
theorem e24:aX Tryz.prog 24 (.agg #[.int .i64 0,.int .i64 0,.slice none 0 0]):=.of (by kernel_rfl) (by kernel_rfl)
theorem z24:zeroOf Tryz.prog 24=some (.agg #[.int .i64 0,.int .i64 0,.slice none 0 0]):=e24.zero
theorem c24:Tryz.prog.cellsOf 24=3:=e24.cellsOf
theorem e25:aX Tryz.prog 25 (.nilFunc):=.of (by kernel_rfl) (by kernel_rfl)
theorem z25:zeroOf Tryz.prog 25=some (.nilFunc):=e25.zero
theorem e27:aX Tryz.prog 27 (.slice none 0 0):=.of (by kernel_rfl) (by kernel_rfl)
theorem z27:zeroOf Tryz.prog 27=some (.slice none 0 0):=e27.zero
theorem c27:Tryz.prog.cellsOf 27=1:=e27.cellsOf
theorem e36:aX Tryz.prog 36 (.slice none 0 0):=.of (by kernel_rfl) (by kernel_rfl)
theorem z36:zeroOf Tryz.prog 36=some (.slice none 0 0):=e36.zero
theorem c36:Tryz.prog.cellsOf 36=1:=e36.cellsOf
theorem e53:aX Tryz.prog 53 (.nilFunc):=.of (by kernel_rfl) (by kernel_rfl)
theorem z53:zeroOf Tryz.prog 53=some (.nilFunc):=e53.zero
theorem e54:aX Tryz.prog 54 (.nilFunc):=.of (by kernel_rfl) (by kernel_rfl)
theorem z54:zeroOf Tryz.prog 54=some (.nilFunc):=e54.zero
theorem e58:aX Tryz.prog 58 (.agg #[.int .i64 0,.int .i64 0,.int .i64 0,.int .i64 0]):=.of (by kernel_rfl) (by kernel_rfl)
theorem z58:zeroOf Tryz.prog 58=some (.agg #[.int .i64 0,.int .i64 0,.int .i64 0,.int .i64 0]):=e58.zero
theorem c58:Tryz.prog.cellsOf 58=4:=e58.cellsOf
theorem e63:aX Tryz.prog 63 (.agg #[.string ⟨#[]⟩,.int .i64 0,.int .i64 0,.slice none 0 0]):=.of (by kernel_rfl) (by kernel_rfl)
theorem z63:zeroOf Tryz.prog 63=some (.agg #[.string ⟨#[]⟩,.int .i64 0,.int .i64 0,.slice none 0 0]):=e63.zero
theorem c63:Tryz.prog.cellsOf 63=4:=e63.cellsOf
theorem e72:aX Tryz.prog 72 (.nilFunc):=.of (by kernel_rfl) (by kernel_rfl)
theorem z72:zeroOf Tryz.prog 72=some (.nilFunc):=e72.zero
theorem ZK:aX Tryz.prog 75 (.agg #[.string ⟨#[]⟩,.int .i64 0,.int .i64 0]):=.of (by kernel_rfl) (by kernel_rfl)
theorem z75:zeroOf Tryz.prog 75=some (.agg #[.string ⟨#[]⟩,.int .i64 0,.int .i64 0]):=ZK.zero
theorem c75:Tryz.prog.cellsOf 75=3:=ZK.cellsOf
theorem e87:aX Tryz.prog 87 (.pointer none):=.of (by kernel_rfl) (by kernel_rfl)
theorem e89:aX Tryz.prog 89 (.agg #[.pointer none,.slice none 0 0]):=.of (by kernel_rfl) (by kernel_rfl)
theorem z89:zeroOf Tryz.prog 89=some (.agg #[.pointer none,.slice none 0 0]):=e89.zero
theorem e91:aX Tryz.prog 91 (.nilIface):=.of (by kernel_rfl) (by kernel_rfl)
theorem XW:aX Tryz.prog 111 (.agg #[.int .i64 0,.int .i64 0]):=.of (by kernel_rfl) (by kernel_rfl)
theorem aag:zeroOf Tryz.prog 111=some (.agg #[.int .i64 0,.int .i64 0]):=XW.zero
theorem ZC:Tryz.prog.cellsOf 111=2:=XW.cellsOf
theorem ZH:aX Tryz.prog 112 (.agg #[.int .i64 0,.int .i64 0,.int .i64 0,.int .i64 0,.int .i64 0,.int .i64 0,.int .i64 0,.int .i64 0,.int .i64 0,.int .i64 0,.int .i64 0,.int .i64 0,.int .i64 0,.int .i64 0,.int .i64 0,.int .i64 0,.int .i64 0,.int .i64 0,.int .i64 0,.int .i64 0]):=.of (by kernel_rfl) (by kernel_rfl)
theorem aah:zeroOf Tryz.prog 112=some (.agg #[.int .i64 0,.int .i64 0,.int .i64 0,.int .i64 0,.int .i64 0,.int .i64 0,.int .i64 0,.int .i64 0,.int .i64 0,.int .i64 0,.int .i64 0,.int .i64 0,.int .i64 0,.int .i64 0,.int .i64 0,.int .i64 0,.int .i64 0,.int .i64 0,.int .i64 0,.int .i64 0]):=ZH.zero
theorem XY:aX Tryz.prog 124 (.agg #[.string ⟨#[]⟩,.string ⟨#[]⟩]):=.of (by kernel_rfl) (by kernel_rfl)
theorem z124:zeroOf Tryz.prog 124=some (.agg #[.string ⟨#[]⟩,.string ⟨#[]⟩]):=XY.zero
theorem c124:Tryz.prog.cellsOf 124=2:=XY.cellsOf
theorem ZI:aX Tryz.prog 146 (.nilFunc):=.of (by kernel_rfl) (by kernel_rfl)
theorem z146:zeroOf Tryz.prog 146=some (.nilFunc):=ZI.zero
theorem ZJ:aX Tryz.prog 148 (.nilFunc):=.of (by kernel_rfl) (by kernel_rfl)
theorem z148:zeroOf Tryz.prog 148=some (.nilFunc):=ZJ.zero
theorem XZ:aX Tryz.prog 172 (.int .u32 0):=.of (by kernel_rfl) (by kernel_rfl)
theorem aaj:zeroOf Tryz.prog 172=some (.int .u32 0):=XZ.zero
theorem ZF:Tryz.prog.cellsOf 172=1:=XZ.cellsOf
theorem f7:bF Tryz.prog 7:=by
 intro d hd;rw [Tryz.underlying7] at hd;cases hd
 intro f hf;simp only [List.mem_cons,List.not_mem_nil,or_false] at hf
 rcases hf with rfl|rfl|rfl|rfl
 ·obtain ⟨i,h,_⟩:=e2.ex;exact ⟨i,h⟩
 ·obtain ⟨i,h,_⟩:=e3.ex;exact ⟨i,h⟩
 ·obtain ⟨i,h,_⟩:=e4.ex;exact ⟨i,h⟩
 ·obtain ⟨i,h,_⟩:=e6.ex;exact ⟨i,h⟩
theorem f8:bF Tryz.prog 8:=by
 intro d hd;rw [Tryz.underlying8] at hd;cases hd
 intro f hf;simp only [List.mem_cons,List.not_mem_nil,or_false] at hf
 rcases hf with rfl|rfl|rfl|rfl
 ·obtain ⟨i,h,_⟩:=e2.ex;exact ⟨i,h⟩
 ·obtain ⟨i,h,_⟩:=e3.ex;exact ⟨i,h⟩
 ·obtain ⟨i,h,_⟩:=e4.ex;exact ⟨i,h⟩
 ·obtain ⟨i,h,_⟩:=e6.ex;exact ⟨i,h⟩
theorem f18:bF Tryz.prog 18:=by
 intro d hd;rw [Tryz.underlying18] at hd;cases hd
 intro f hf;simp only [List.mem_cons,List.not_mem_nil,or_false] at hf
 rcases hf with rfl
 ·obtain ⟨i,h,_⟩:=e17.ex;exact ⟨i,h⟩
theorem f24:bF Tryz.prog 24:=by
 intro d hd;rw [Tryz.underlying24] at hd;cases hd
 intro f hf;simp only [List.mem_cons,List.not_mem_nil,or_false] at hf
 rcases hf with rfl|rfl|rfl
 ·obtain ⟨i,h,_⟩:=e3.ex;exact ⟨i,h⟩
 ·obtain ⟨i,h,_⟩:=e3.ex;exact ⟨i,h⟩
 ·obtain ⟨i,h,_⟩:=e22.ex;exact ⟨i,h⟩
theorem f57:bF Tryz.prog 57:=by
 intro d hd;rw [Tryz.underlying57] at hd;cases hd
 intro f hf;simp only [List.mem_cons,List.not_mem_nil,or_false] at hf
 rcases hf with rfl|rfl|rfl|rfl
 ·obtain ⟨i,h,_⟩:=e3.ex;exact ⟨i,h⟩
 ·obtain ⟨i,h,_⟩:=e3.ex;exact ⟨i,h⟩
 ·obtain ⟨i,h,_⟩:=e3.ex;exact ⟨i,h⟩
 ·obtain ⟨i,h,_⟩:=e3.ex;exact ⟨i,h⟩
theorem f58:bF Tryz.prog 58:=by
 intro d hd;rw [Tryz.underlying58] at hd;cases hd
 intro f hf;simp only [List.mem_cons,List.not_mem_nil,or_false] at hf
 rcases hf with rfl|rfl|rfl|rfl
 ·obtain ⟨i,h,_⟩:=e3.ex;exact ⟨i,h⟩
 ·obtain ⟨i,h,_⟩:=e3.ex;exact ⟨i,h⟩
 ·obtain ⟨i,h,_⟩:=e3.ex;exact ⟨i,h⟩
 ·obtain ⟨i,h,_⟩:=e3.ex;exact ⟨i,h⟩
theorem f63:bF Tryz.prog 63:=by
 intro d hd;rw [Tryz.underlying63] at hd;cases hd
 intro f hf;simp only [List.mem_cons,List.not_mem_nil,or_false] at hf
 rcases hf with rfl|rfl
 ·obtain ⟨i,h,_⟩:=e9.ex;exact ⟨i,h⟩
 ·obtain ⟨i,h,_⟩:=e24.ex;exact ⟨i,h⟩
theorem f74:bF Tryz.prog 74:=by
 intro d hd;rw [Tryz.underlying74] at hd;cases hd
 intro f hf;simp only [List.mem_cons,List.not_mem_nil,or_false] at hf
 rcases hf with rfl|rfl|rfl
 ·obtain ⟨i,h,_⟩:=e9.ex;exact ⟨i,h⟩
 ·obtain ⟨i,h,_⟩:=e3.ex;exact ⟨i,h⟩
 ·obtain ⟨i,h,_⟩:=e3.ex;exact ⟨i,h⟩
theorem f75:bF Tryz.prog 75:=by
 intro d hd;rw [Tryz.underlying75] at hd;cases hd
 intro f hf;simp only [List.mem_cons,List.not_mem_nil,or_false] at hf
 rcases hf with rfl|rfl|rfl
 ·obtain ⟨i,h,_⟩:=e9.ex;exact ⟨i,h⟩
 ·obtain ⟨i,h,_⟩:=e3.ex;exact ⟨i,h⟩
 ·obtain ⟨i,h,_⟩:=e3.ex;exact ⟨i,h⟩
theorem f88:bF Tryz.prog 88:=by
 intro d hd;rw [Tryz.underlying88] at hd;cases hd
 intro f hf;simp only [List.mem_cons,List.not_mem_nil,or_false] at hf
 rcases hf with rfl|rfl
 ·obtain ⟨i,h,_⟩:=e87.ex;exact ⟨i,h⟩
 ·obtain ⟨i,h,_⟩:=e27.ex;exact ⟨i,h⟩
theorem f89:bF Tryz.prog 89:=by
 intro d hd;rw [Tryz.underlying89] at hd;cases hd
 intro f hf;simp only [List.mem_cons,List.not_mem_nil,or_false] at hf
 rcases hf with rfl|rfl
 ·obtain ⟨i,h,_⟩:=e87.ex;exact ⟨i,h⟩
 ·obtain ⟨i,h,_⟩:=e27.ex;exact ⟨i,h⟩
theorem f111:bF Tryz.prog 111:=by
 intro d hd;rw [Tryz.underlying111] at hd;cases hd
 obtain ⟨i,h,_⟩:=e3.ex;exact ⟨i,h⟩
theorem f112:bF Tryz.prog 112:=by
 intro d hd;rw [Tryz.underlying112] at hd;cases hd
 obtain ⟨i,h,_⟩:=XW.ex;exact ⟨i,h⟩
theorem f124:bF Tryz.prog 124:=by
 intro d hd;rw [Tryz.underlying124] at hd;cases hd
 intro f hf;simp only [List.mem_cons,List.not_mem_nil,or_false] at hf
 rcases hf with rfl|rfl
 ·obtain ⟨i,h,_⟩:=e9.ex;exact ⟨i,h⟩
 ·obtain ⟨i,h,_⟩:=e9.ex;exact ⟨i,h⟩
theorem f212:bF Tryz.prog 212:=by
 intro d hd;rw [Tryz.underlying212] at hd;cases hd
 intro f hf;simp only [List.mem_cons,List.not_mem_nil,or_false] at hf
 rcases hf with rfl|rfl|rfl
 ·obtain ⟨i,h,_⟩:=e9.ex;exact ⟨i,h⟩
 ·obtain ⟨i,h,_⟩:=e9.ex;exact ⟨i,h⟩
 ·obtain ⟨i,h,_⟩:=e91.ex;exact ⟨i,h⟩
theorem k1 {K:Prop}:aW (aX Tryz.prog 1 (.nilFunc)) K=K:=xg e1
theorem k2 {K:Prop}:aW (aX Tryz.prog 2 (.int .i64 0)) K=K:=xg e2
theorem k3 {K:Prop}:aW (aX Tryz.prog 3 (.int .i64 0)) K=K:=xg e3
theorem ke3:(aX Tryz.prog 3 (.int .i64 0))=True:=eq_true e3
theorem k4 {K:Prop}:aW (aX Tryz.prog 4 (.bool false)) K=K:=xg e4
theorem ke4:(aX Tryz.prog 4 (.bool false))=True:=eq_true e4
theorem k5 {K:Prop}:aW (aX Tryz.prog 5 (.int .u8 0)) K=K:=xg e5
theorem ke5:(aX Tryz.prog 5 (.int .u8 0))=True:=eq_true e5
theorem k6 {K:Prop}:aW (aX Tryz.prog 6 (.int .u8 0)) K=K:=xg e6
theorem ke9:(aX Tryz.prog 9 (.string ⟨#[]⟩))=True:=eq_true e9
theorem ZP:(aX Tryz.prog 24 (.agg #[.int .i64 0,.int .i64 0,.slice none 0 0]))=True:=eq_true e24
theorem ZQ:(aX Tryz.prog 36 (.slice none 0 0))=True:=eq_true e36
theorem ZR:(aX Tryz.prog 63 (.agg #[.string ⟨#[]⟩,.int .i64 0,.int .i64 0,.slice none 0 0]))=True:=eq_true e63
theorem ZT:(aX Tryz.prog 75 (.agg #[.string ⟨#[]⟩,.int .i64 0,.int .i64 0]))=True:=eq_true ZK
theorem Y3:(aX Tryz.prog 124 (.agg #[.string ⟨#[]⟩,.string ⟨#[]⟩]))=True:=eq_true XY
theorem Y4:(aX Tryz.prog 172 (.int .u32 0))=True:=eq_true XZ
theorem ZV:(bF Tryz.prog 24)=True:=eq_true f24
theorem ZW:(bF Tryz.prog 58)=True:=eq_true f58
theorem ZX:(bF Tryz.prog 63)=True:=eq_true f63
theorem ZY:(bF Tryz.prog 75)=True:=eq_true f75
theorem Y5:(bF Tryz.prog 111)=True:=eq_true f111
theorem Y6:(bF Tryz.prog 112)=True:=eq_true f112
theorem Y7:(bF Tryz.prog 124)=True:=eq_true f124
theorem ky9:Maps.Keyed Tryz.prog 9=True:=eq_true (Maps.string_keyed Tryz.underlying9)
theorem Z4 (s:List UInt8):Ad Tryz.prog 9 (.str s)=True:=eq_true (.str Tryz.underlying9 s)
theorem ZU (l:List (List UInt8)):Ae Tryz.prog 9 (l.map .str)=True:=eq_true (Pj (fun n=>.str Tryz.underlying9 n) l)
attribute [go_sem] Tryz.underlying0 Tryz.underlying1 Tryz.underlying2 Tryz.underlying3 Tryz.underlying4 Tryz.underlying5
attribute [go_sem] Tryz.underlying6 Tryz.underlying7 Tryz.underlying8 Tryz.underlying9 Tryz.underlying10 Tryz.underlying11 Tryz.underlying12 Tryz.underlying13 Tryz.underlying14 Tryz.underlying15 Tryz.underlying16 Tryz.underlying17
attribute [go_sem] Tryz.underlying18 Tryz.underlying19 Tryz.underlying20 Tryz.underlying21 Tryz.underlying22 Tryz.underlying23 Tryz.underlying24 Tryz.underlying25 Tryz.underlying26 Tryz.underlying27 Tryz.underlying28 Tryz.underlying29
attribute [go_sem] Tryz.underlying30 Tryz.underlying31 Tryz.underlying32 Tryz.underlying33 Tryz.underlying34 Tryz.underlying35 Tryz.underlying36 Tryz.underlying37 Tryz.underlying38 Tryz.underlying39 Tryz.underlying40 Tryz.underlying41
attribute [go_sem] Tryz.underlying42 Tryz.underlying43 Tryz.underlying44 Tryz.underlying45 Tryz.underlying46 Tryz.underlying47 Tryz.underlying48 Tryz.underlying49 Tryz.underlying50 Tryz.underlying51 Tryz.underlying52 Tryz.underlying53
attribute [go_sem] Tryz.underlying54 Tryz.underlying55 Tryz.underlying56 Tryz.underlying57 Tryz.underlying58 Tryz.underlying59 Tryz.underlying60 Tryz.underlying61 Tryz.underlying62 Tryz.underlying63 Tryz.underlying64 Tryz.underlying65
attribute [go_sem] Tryz.underlying66 Tryz.underlying67 Tryz.underlying68 Tryz.underlying69 Tryz.underlying70 Tryz.underlying71 Tryz.underlying72 Tryz.underlying73 Tryz.underlying74 Tryz.underlying75 Tryz.underlying76 Tryz.underlying77
attribute [go_sem] Tryz.underlying78 Tryz.underlying79 Tryz.underlying80 Tryz.underlying81 Tryz.underlying82 Tryz.underlying83 Tryz.underlying84 Tryz.underlying85 Tryz.underlying86 Tryz.underlying87 Tryz.underlying88 Tryz.underlying89
attribute [go_sem] Tryz.underlying90 Tryz.underlying91 Tryz.underlying92 Tryz.underlying93 Tryz.underlying94 Tryz.underlying95 Tryz.underlying96 Tryz.underlying97 Tryz.underlying98 Tryz.underlying99 Tryz.underlying100 Tryz.underlying101
attribute [go_sem] Tryz.underlying102 Tryz.underlying103 Tryz.underlying104 Tryz.underlying105 Tryz.underlying106 Tryz.underlying107 Tryz.underlying108 Tryz.underlying109 Tryz.underlying110 Tryz.underlying111 Tryz.underlying112 Tryz.underlying113
attribute [go_sem] Tryz.underlying114 Tryz.underlying115 Tryz.underlying116 Tryz.underlying117 Tryz.underlying118 Tryz.underlying119 Tryz.underlying120 Tryz.underlying121 Tryz.underlying122 Tryz.underlying123 Tryz.underlying124 Tryz.underlying125
attribute [go_sem] Tryz.underlying126 Tryz.underlying127 Tryz.underlying128 Tryz.underlying129 Tryz.underlying130 Tryz.underlying131 Tryz.underlying132 Tryz.underlying133 Tryz.underlying134 Tryz.underlying135 Tryz.underlying136 Tryz.underlying137
attribute [go_sem] Tryz.underlying138 Tryz.underlying139 Tryz.underlying140 Tryz.underlying141 Tryz.underlying142 Tryz.underlying143 Tryz.underlying144 Tryz.underlying145 Tryz.underlying146 Tryz.underlying147 Tryz.underlying148 Tryz.underlying149
attribute [go_sem] Tryz.underlying150 Tryz.underlying151 Tryz.underlying152 Tryz.underlying153 Tryz.underlying154 Tryz.underlying155 Tryz.underlying156 Tryz.underlying157 Tryz.underlying158 Tryz.underlying159 Tryz.underlying160 Tryz.underlying161
attribute [go_sem] Tryz.underlying162 Tryz.underlying163 Tryz.underlying164 Tryz.underlying165 Tryz.underlying166 Tryz.underlying167 Tryz.underlying168 Tryz.underlying169 Tryz.underlying170 Tryz.underlying171 Tryz.underlying172 Tryz.underlying173
attribute [go_sem] Tryz.underlying174 Tryz.underlying175 Tryz.underlying176 Tryz.underlying177 Tryz.underlying178 Tryz.underlying179 Tryz.underlying180 Tryz.underlying181 Tryz.underlying182 Tryz.underlying183 Tryz.underlying184 Tryz.underlying185
attribute [go_sem] Tryz.underlying186 Tryz.underlying187 Tryz.underlying188 Tryz.underlying189 Tryz.underlying190 Tryz.underlying191 Tryz.underlying192 Tryz.underlying193 Tryz.underlying194 Tryz.underlying195 Tryz.underlying196 Tryz.underlying197
attribute [go_sem] Tryz.underlying198 Tryz.underlying199 Tryz.underlying200 Tryz.underlying201 Tryz.underlying202 Tryz.underlying203 Tryz.underlying204 Tryz.underlying205 Tryz.underlying206 Tryz.underlying207 Tryz.underlying208 Tryz.underlying209
attribute [go_sem] Tryz.underlying210 Tryz.underlying211 Tryz.underlying212 Tryz.underlying213 Tryz.underlying214 Tryz.underlying215 Tryz.underlying216 Tryz.underlying217 Tryz.underlying218 Tryz.underlying219 Tryz.underlying220 Tryz.underlying221
attribute [go_sem] Tryz.underlying222 Tryz.underlying223 Tryz.underlying224 Tryz.underlying225 Tryz.underlying226 Tryz.underlying227 Tryz.underlying228 Tryz.underlying229 Tryz.underlying230 Tryz.underlying231 Tryz.underlying232 Tryz.underlying233
attribute [go_sem] Tryz.underlying234 Tryz.underlying235 Tryz.underlying236 k1 z1 c1 k2 z2 c2 k3
attribute [go_sem] ke3 z3 c3 k4 ke4 z4 c4 k5 ke5 z5 c5 k6
attribute [go_sem] z6 z7
attribute [go_sem] ke9 z9 c9
attribute [go_sem] z22 c22
attribute [go_sem] ZP z24 c24 z25
attribute [go_sem] z27 c27
attribute [go_sem] ZQ z36 c36
attribute [go_sem] z53
attribute [go_sem] z54
attribute [go_sem] z58 c58
attribute [go_sem] ZR z63 c63
attribute [go_sem] z72
attribute [go_sem] ZT z75 c75
attribute [go_sem] z89
attribute [go_sem] aag ZC
attribute [go_sem] aah
attribute [go_sem] Y3 z124 c124
attribute [go_sem] z146
attribute [go_sem] z148
attribute [go_sem] Y4 aaj ZF
attribute [go_sem] ZV
attribute [go_sem] ZW ZX ZY
attribute [go_sem] Y5 Y6 Y7
attribute [go_sem] ky9 Z4 ZU
theorem Ls {tab:List Bool} {n:Nat} (h:n<tab.length):(tab.map AV.bool).drop n=.bool (tab.getD n false)::(tab.map AV.bool).drop (n+1):=by
 rw [List.drop_eq_getElem_cons (by simpa using h)]
 simp [List.getD,h]
set_option maxHeartbeats 1000000 in
theorem IV (tab:List Bool) (b:Int) (hl:tab.length=256) (h0:0≤b) (h1:b<256):aC Tryz.prog 170 [.cell (tab.map .bool),.int .u8 b] (.bool (tab.getD b.toNat false)) []:=by
 refine aC.aJ Tryz.func170 rfl (by decide) (by simp [Tryz.f170]) [.tmp 4] rfl fun w0 T0 _=>?_
 simp only [Tryz.f170,aB]
 have hd:=Ls (tab:=tab) (n:=b.toNat) (by omega)
 simp only [go_sem,Nat.mul_one,hd]
 (repeat' first|(with_reducible refine yH.intro fun _=>?_)|((with_reducible refine aW.intro ?_ ?_);(· first|omega|(with_reducible refine aW.intro ?_ ?_<;>omega)|(simp;done)|(simp;omega)))|((with_reducible refine bZ.i64 ?_ ?_ ?_);(· omega);(· omega))|((with_reducible refine Ite.decide (fun _=>?_) (fun _=>?_))<;>first|(exfalso;omega)|simp only [go_sem])|((with_reducible refine Ite.bool (fun _=>?_) (fun _=>?_))<;>simp only [go_sem])|(with_reducible refine And.intro ?_ ?_))
 refine bf.auto 0 ?_ rfl ?_<;>simp only [go_sem,Int.natCast_succ,Post]
theorem aai:zeroOf Tryz.prog 163=some (.agg (Array.replicate 256 (.bool false))):=by kernel_rfl
theorem ZE:Tryz.prog.cellsOf 163=256:=by kernel_rfl
attribute [go_sem] aai ZE
def eP (s:List UInt8):Nat→List Bool
 | 0=>List.replicate 256 false
 | i+1=>(eP s i).set (s.getD i 0).toNat true
theorem ny (s:List UInt8):∀ i,(eP s i).length=256
 | 0=>by simp [eP]
 | i+1=>by simp [eP,ny s i]
set_option maxHeartbeats 1000000 in
theorem Gn (s:List UInt8) (hs:∀ i,i<s.length→(s.getD i 0).toNat<128):aC Tryz.prog 130 [.str s] (.tup [.agg ((eP s s.length).map .bool),.bool true]) []:=by
 refine aC.aJ Tryz.func130 rfl (by decide) (by simp [Tryz.f130]) [.cell 2 163,.tmp 3] rfl fun w0 T0 _=>?_
 simp only [Tryz.f130,aB]
 simp only [go_sem]
 refine aI.intro (fun i:Nat=>⟨21,[(0,.str s),(2,.ptr 0 0),(4,.int .i64 i)],[(0,.box 163 ((eP s i).map .bool))],1⟩) (fun i=>i≤s.length) (fun i=>s.length - i) 0 ?_ (Nat.zero_le _) fun i hi=>?_
 ·refine aO.ak rfl ?_ ?_<;>simp only [go_sem,Int.natCast_succ,eP]
 have hlen:=ny s i
 simp only [go_sem]
 (repeat' first|(with_reducible refine yH.intro fun _=>?_)|((with_reducible refine aW.intro ?_ ?_);(· first|omega|(with_reducible refine aW.intro ?_ ?_<;>omega)|(simp;done)|(simp;omega)))|((with_reducible refine bZ.i64 ?_ ?_ ?_);(· omega);(· omega))|((with_reducible refine Ite.decide (fun _=>?_) (fun _=>?_))<;>first|(exfalso;omega)|simp only [go_sem])|((with_reducible refine Ite.bool (fun _=>?_) (fun _=>?_))<;>simp only [go_sem])|(with_reducible refine And.intro ?_ ?_))
 ·have:=hs i (by omega)
  omega
 ·refine ⟨i+1,aO.ak rfl ?_ ?_,by omega,by omega⟩
  ·simp only [go_sem,Int.natCast_succ]
  ·simp only [go_sem,Int.natCast_succ,eP]
 ·have e:i=s.length:=by omega
  subst e
  have e2:((eP s s.length).map AV.bool).take 256=(eP s s.length).map AV.bool:=List.take_of_length_le (by simp [hlen])
  have e3:spl ((eP s s.length).map AV.bool) 0 ((eP s s.length).map AV.bool)=(eP s s.length).map AV.bool:=O5 rfl
  refine bf.auto 0 ?_ ?_ ?_<;>simp only [go_sem,Int.natCast_succ,Post,e2,e3]
  simp only [go_sem,e2,hlen,List.length_map]
def cutset:List UInt8:=[97,98,99,100,101,102,103,104,105,106,107,108,109,110,111,112,113,114,115,116,117,118,119,120,121,122,48,49,50,51,52,53,54,55,56,57,45]
theorem cut_small:∀ i,i<cutset.length→(cutset.getD i 0).toNat<128:=by decide
end Go.Fv.H
/- strings.Trim at any set of small letters; IsName. -/
namespace Go.Fv.H
open Go Go.Proofs
def fD (p:UInt8→Bool) (s:List UInt8):List UInt8:=(s.reverse.dropWhile p).reverse
def nD (cut:List UInt8) (c:UInt8):Bool:=decide (c∈cut)
theorem yL (s:List UInt8) (c:UInt8):∀ i,i≤s.length→(eP s i).getD c.toNat false=decide (c∈s.take i)
 | 0,_=>by
  have h:c.toNat<256:=c.toNat_lt
  rw [List.take_zero]
  show (List.replicate 256 false).getD c.toNat false=_
  rw [List.getD_eq_getElem?_getD,List.getElem?_replicate,if_pos h]
  simp
 | i+1,h=>by
  have ih:=yL s c i (by omega)
  have hlen:=ny s i
  have hlt:i<s.length:=by omega
  have hc:=c.toNat_lt
  have htk:=List.take_succ_eq_append_getElem hlt
  rw [htk]
  simp only [eP,List.getD_eq_getElem?_getD] at ih ⊢
  rw [List.getElem?_set]
  have e:s[i]?.getD 0=s[i]:=by simp [hlt]
  rw [e]
  by_cases hq:s[i].toNat=c.toNat
  ·have hq2:s[i]=c:=UInt8.toNat_inj.1 hq
   rw [if_pos hq,if_pos (by rw [hlen];omega)]
   simp [hq2]
  ·rw [if_neg hq,ih]
   have hq2:¬c=s[i]:=fun h=>hq (by rw [h])
   rw [Bool.eq_iff_iff,decide_eq_true_eq,decide_eq_true_eq,List.mem_append,List.mem_singleton]
   exact ⟨.inl,fun h=>h.elim id fun h=>absurd h hq2⟩
theorem Bf {s:List UInt8} (h0:0<s.length):s=s.take (s.length - 1)++[s.getD (s.length - 1) 0]:=by
 rw [getD_lt (by omega),List.take_append_getElem (by omega),List.take_of_length_le (by omega)]
theorem yP (p:UInt8→Bool) (t:List UInt8) (c:UInt8):fD p (t++[c])=if p c=true then fD p t else t++[c]:=by
 unfold fD
 rw [List.reverse_append,List.reverse_singleton,List.singleton_append,List.dropWhile_cons]
 split<;>simp_all
theorem SK {p:UInt8→Bool} {s:List UInt8} (h0:0<s.length) (h:p (s.getD (s.length - 1) 0)=true):fD p (s.take (s.length - 1))=fD p s:=by
 conv=>rhs;rw [Bf h0,yP,if_pos h]
theorem I5 {p:UInt8→Bool} {s:List UInt8} (h:0<s.length→p (s.getD (s.length - 1) 0)=false):fD p s=s:=by
 by_cases h0:0<s.length
 ·conv=>lhs;rw [Bf h0,yP,if_neg (by rw [h h0];decide)]
  exact (Bf h0).symm
 ·have:s=[]:=List.eq_nil_of_length_eq_zero (by omega)
  subst this;rfl
theorem VN {p:UInt8→Bool} {s:List UInt8} (h0:0<s.length) (h:p (s.getD 0 0)=true):(s.drop 1).dropWhile p=s.dropWhile p:=by
 cases s with
 | nil=>simp at h0
 | cons c t=>
  have h':p c=true:=h
  rw [List.dropWhile_cons,if_pos h'];rfl
theorem Og {p:UInt8→Bool} {s:List UInt8} (h:0<s.length→p (s.getD 0 0)=false):s.dropWhile p=s:=by
 cases s with
 | nil=>rfl
 | cons c t=>rw [List.dropWhile_cons,if_neg (by have:=h (by simp);rw [show (c::t).getD 0 0=c from rfl] at this;rw [this];decide)]
theorem sF {p:UInt8→Bool}:∀ {s:List UInt8},s.dropWhile p=[]↔s.all p=true
 | []=>by simp
 | c::t=>by
  rw [List.dropWhile_cons,List.all_cons]
  cases h:p c with
  | true=>simpa using sF
  | false=>simp
theorem Ky (p:UInt8→Bool) (s:List UInt8):(fD p s).dropWhile p=[]↔s.all p=true:=by
 rw [sF]
 unfold fD
 rw [List.all_reverse,←sF]
 have hd:(s.reverse.dropWhile p).dropWhile p=s.reverse.dropWhile p:=by
  generalize s.reverse=t
  induction t with
  | nil=>rfl
  | cons c t ih=>
   rw [List.dropWhile_cons]
   cases h:p c with
   | true=>simpa using ih
   | false=>simp [List.dropWhile_cons,h]
 rw [hd,sF,List.all_reverse]
theorem vN (tab:List Bool) (hl:tab.length=256) (c:UInt8):aC Tryz.prog 170 [.cell (tab.map .bool),.int .u8 c.toNat] (.bool (tab.getD c.toNat false)) []:=by
 have h:=IV tab c.toNat hl (by omega) (by have:=c.toNat_lt;omega)
 rwa [Int.toNat_natCast] at h
set_option maxHeartbeats 1000000 in
theorem G6 (tab:List Bool) (hl:tab.length=256) (p:UInt8→Bool) (hp:∀ c:UInt8,tab.getD c.toNat false=p c) (s:List UInt8) :
  aC Tryz.prog 131 [.str s,.cell (tab.map .bool)] (.str (s.dropWhile p)) []:=by
 refine aC.aJ Tryz.func131 rfl (by decide) (by simp [Tryz.f131]) [.tmp 4] rfl fun w0 T0 _=>?_
 simp only [Tryz.f131,aB]
 (repeat' with_reducible first|intro _|exact dn|refine rn ?_|refine ra ?_ ?_)
 refine aI.intro (fun t:List UInt8=>⟨16,[(0,.str t),(1,.cell (tab.map .bool))],[],0⟩) (fun t=>t.dropWhile p=s.dropWhile p) (fun t=>t.length) s ?_ rfl fun t he=>?_
 ·refine aO.ak rfl ?_ ?_<;>simp only [go_sem,Int.natCast_succ]
 (repeat' with_reducible first|intro _|exact dn|refine rn ?_|refine ra ?_ ?_)
 ·have k:=vN tab hl (t.getD 0 0)
  rw [hp] at k
  refine ah.fr (args':=[.cell (tab.map .bool),.int .u8 (t.getD 0 0).toNat]) (dG.gJ k rfl rfl) (by simp [aU,bD,aH]) 0 rfl (by simp [iq]) ?_
  cases hq:p (t.getD 0 0) with
  | true=>
   (repeat' with_reducible first|intro _|exact dn|refine rn ?_|refine ra ?_ ?_)
   refine ⟨t.drop 1,aO.ak rfl ?_ ?_,?_,?_⟩
   ·simp only [go_sem,Int.natCast_succ]
    all_goals first|rfl|exact List.take_of_length_le (by simp)
   ·simp only [go_sem,Int.natCast_succ]
   ·rw [VN (by omega) hq];exact he
   ·simp;omega
  | false=>
   have e:t=s.dropWhile p:=by rw [←he,Og (fun _=>hq)]
   (repeat' with_reducible first|intro _|exact dn|refine rn ?_|refine ra ?_ ?_)
   refine bf.auto 0 ?_ rfl ?_<;>simp only [go_sem,Int.natCast_succ,Post,e]
 ·have e:t=s.dropWhile p:=by rw [←he,Og (fun h=>by omega)]
  refine bf.auto 0 ?_ rfl ?_<;>simp only [go_sem,Int.natCast_succ,Post,e]
set_option maxHeartbeats 1000000 in
theorem DI (tab:List Bool) (hl:tab.length=256) (p:UInt8→Bool) (hp:∀ c:UInt8,tab.getD c.toNat false=p c) (s:List UInt8) :
  aC Tryz.prog 132 [.str s,.cell (tab.map .bool)] (.str (fD p s)) []:=by
 refine aC.aJ Tryz.func132 rfl (by decide) (by simp [Tryz.f132]) [.tmp 4] rfl fun w0 T0 _=>?_
 simp only [Tryz.f132,aB]
 (repeat' with_reducible first|intro _|exact dn|refine rn ?_|refine ra ?_ ?_)
 refine aI.intro (fun t:List UInt8=>⟨22,[(0,.str t),(1,.cell (tab.map .bool))],[],0⟩) (fun t=>fD p t=fD p s) (fun t=>t.length) s ?_ rfl fun t he=>?_
 ·refine aO.ak rfl ?_ ?_<;>simp only [go_sem,Int.natCast_succ]
 have et:((t.length:Int) - 1).toNat=t.length - 1:=by omega
 (repeat' with_reducible first|intro _|refine rz ?_|refine ra ?_ ?_|omega|simp only [go_sem,et])
 ·have k:=vN tab hl (t.getD (t.length - 1) 0)
  rw [hp] at k
  refine ah.fr (args':=[.cell (tab.map .bool),.int .u8 (t.getD (t.length - 1) 0).toNat]) (dG.gJ k rfl rfl) (by simp [aU,bD,aH]) 0 rfl (by simp [iq]) ?_
  cases hq:p (t.getD (t.length - 1) 0) with
  | true=>
   (repeat' with_reducible first|intro _|refine rz ?_|refine ra ?_ ?_|omega|simp only [go_sem,et])
   refine ⟨t.take (t.length - 1),aO.ak rfl ?_ ?_,?_,?_⟩
   ·simp only [go_sem,Int.natCast_succ,et]
    all_goals rfl
   ·simp only [go_sem,Int.natCast_succ]
   ·rw [SK (by omega) hq];exact he
   ·simp;omega
  | false=>
   have e:t=fD p s:=by rw [←he,I5 (fun _=>hq)]
   (repeat' with_reducible first|intro _|exact dn|refine rn ?_|refine ra ?_ ?_)
   refine bf.auto 0 ?_ rfl ?_<;>simp only [go_sem,Int.natCast_succ,Post,e]
 ·have e:t=fD p s:=by rw [←he,I5 (fun h=>by omega)]
  refine bf.auto 0 ?_ rfl ?_<;>simp only [go_sem,Int.natCast_succ,Post,e]
set_option maxHeartbeats 1000000 in
theorem Kw (s cut:List UInt8) (hc:∀ i,i<cut.length→(cut.getD i 0).toNat<128) (h2:2≤cut.length) :
  aC Tryz.prog 95 [.str s,.str cut] (.str ((fD (nD cut) s).dropWhile (nD cut))) []:=by
 have hlen:=ny cut cut.length
 have km:=Gn cut hc
 have hg:∀ c:UInt8,(eP cut cut.length).getD c.toNat false=nD cut c:=fun c=>by
  rw [yL cut c _ (Nat.le_refl _),List.take_length];rfl
 have hne:¬cut=[]:=fun e=>by subst e;simp at h2
 refine aC.aJ Tryz.func95 rfl (by decide) (by simp [Tryz.f95]) [.tmp 4] rfl fun w0 T0 _=>?_
 simp only [Tryz.f95,aB]
 by_cases h0:s=[]
 ·have e:(fD (nD cut) []).dropWhile (nD cut)=[]:=rfl
  (repeat' with_reducible first|intro _|refine rz ?_|refine ra ?_ ?_|omega|simp only [go_sem,h0])
  refine bf.auto 0 ?_ rfl ?_<;>simp only [go_sem,Int.natCast_succ,Post,e]
 generalize nD cut=p at *
 (repeat' with_reducible first|intro _|refine rz ?_|refine ra ?_ ?_|omega|simp only [go_sem,h0,hne])
 refine ah.fr (args':=[.str cut]) (dG.gJ km (by simp [oK,jA,y9]) rfl) (by simp [aU,bD,aH]) 0 (by simp [Fv.below,aK,oZ]) (by simp [iq]) ?_
 generalize eP cut cut.length=tab at hlen hg ⊢
 simp only [go_sem]
 have e1:spl (List.replicate 256 (AV.bool false)) 0 (tab.map .bool)=tab.map .bool:=O5 (by simp [hlen])
 refine aW.intro (by simp [hlen]) ?_
 rw [e1]
 refine aW.intro (by omega) ?_
 refine ah.fr (args':=[.str s,.cell (tab.map .bool)]) (dG.gJ (DI tab hlen p hg s) rfl rfl) ?_ 0 rfl (by simp [iq]) ?_
 ·exact ⟨_,_,rfl,⟨_,_,⟨_,_,_,rfl,qE _ 4 _,rfl⟩,rfl,rfl⟩,rfl⟩
 simp only [go_sem]
 refine ah.fr (args':=[.str (fD p s),.cell (tab.map .bool)]) (dG.gJ (G6 tab hlen p hg (fD p s)) rfl rfl) ?_ 0 rfl (by simp [iq]) ?_
 ·exact ⟨_,_,rfl,⟨_,_,⟨_,_,_,rfl,qE _ 4 _,rfl⟩,rfl,rfl⟩,rfl⟩
 simp only [go_sem]
 refine bf.auto 0 ?_ rfl ?_<;>simp only [go_sem,Int.natCast_succ,Post]
def nameB (c:UInt8):Bool:=decide (97≤c.toNat) && decide (c.toNat≤122) || decide (48≤c.toNat) && decide (c.toNat≤57) || decide (c.toNat=45)
def fQ (s:List UInt8):Bool:=decide (s≠[]) && decide (s.length≤40) && (decide (97≤(s.getD 0 0).toNat) && decide ((s.getD 0 0).toNat≤122)) && s.all nameB
set_option maxRecDepth 20000 in
theorem SB:∀ n:Nat,n<256→nD cutset (UInt8.ofNat n)=nameB (UInt8.ofNat n):=by decide
theorem LQ:nD cutset=nameB:=funext fun c=>by
 have h:=SB c.toNat c.toNat_lt
 simpa using h
set_option maxHeartbeats 1000000 in
theorem sK (s:List UInt8):aC Tryz.prog 51 [.str s] (.bool (fQ s)) []:=by
 have k:=Kw s cutset cut_small (by decide)
 rw [LQ] at k
 have ht:=Ky nameB s
 have hcut:cutset=[97,98,99,100,101,102,103,104,105,106,107,108,109,110,111,112,113,114,115,116,117,118,119,120,121,122,48,49,50,51,52,53,54,55,56,57,45]:=rfl
 unfold fQ
 generalize fD nameB s=t at *
 generalize t.dropWhile nameB=t at *
 generalize s.all nameB=a at *
 refine aC.aJ Tryz.func51 rfl (by decide) (by simp [Tryz.f51]) [.tmp 2] rfl fun w0 T0 _=>?_
 simp only [Tryz.f51,aB]
 by_cases h0:s=[]
 ·(repeat' with_reducible first|intro _|refine rz ?_|refine ra ?_ ?_|omega|simp only [go_sem,h0])
  refine bf.auto 0 ?_ rfl ?_<;>simp only [go_sem,Int.natCast_succ,Post]
  all_goals simp
 ·have hlp:0<s.length:=List.length_pos_iff.2 h0
  (repeat' with_reducible first|intro _|refine rz ?_|refine ra ?_ ?_|omega|simp only [go_sem,h0])
  all_goals first
   |(refine ah.fr (args':=[.str s,.str cutset]) (dG.gJ k rfl rfl) (by simp [aU,bD,aH,cutset]) 0 rfl (by simp [iq]) ?_
     (repeat' with_reducible first|intro _|exact dn|refine rn ?_|refine ra ?_ ?_)
     refine bf.auto 0 ?_ rfl ?_<;>simp only [go_sem,Int.natCast_succ,Post])
   |(refine bf.auto 0 ?_ rfl ?_<;>simp only [go_sem,Int.natCast_succ,Post])
  all_goals
   rw [Bool.eq_iff_iff]
   simp only [Bool.and_eq_true,decide_eq_true_eq,ht,Bool.false_eq_true,false_iff]
   first
    | exact ⟨fun ha=>⟨⟨⟨h0,by omega⟩,by omega,by omega⟩,ha⟩,fun h=>h.2⟩
    |(intro h;omega)
end Go.Fv.H
