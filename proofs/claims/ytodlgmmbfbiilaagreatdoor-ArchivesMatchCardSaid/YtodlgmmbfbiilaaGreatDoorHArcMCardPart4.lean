/-
  A part of the proof of the claim: walks over the program's functions and the plain laws that these need. No condition of its own.
-/
import Derived.Test.YtodlgmmbfbiilaaGreatDoorHArcMCardPart3
import Derived.Test.YtodlgmmbfbiilaaGreatDoorHArcMCardPart1
import Derived.Test.YtodlgmmbfbiilaaGreatDoorFvPart10
set_option linter.unusedSimpArgs false
set_option linter.unusedVariables false
set_option linter.unnecessarySimpa false
set_option maxRecDepth 8000
/- Pages out of data, in plain words: what is written is read. -/
namespace Go.Fv.H
open Go
theorem CQ {s:Bytes} {n l:Nat} (h:o7 s=some (n,l)):1≤l∧n≤1048576:=by
 unfold o7 at h
 split at h
 ·rename_i hc;cases h;exact ⟨by omega,hc.2.2.2⟩
 ·cases h
def fM (w n:Nat) (ink:Bool) (s:Bytes):List Bool × Option Bytes:=
 if n<w then
  match h:o7 s with
  | none=>([],none)
  | some (m,l)=>if w - n<m - 1 then ([],none) else (List.replicate (m - 1) ink++(fM w (n+(m - 1)) (!ink) (s.drop l)).1,(fM w (n+(m - 1)) (!ink) (s.drop l)).2)
 else ([],some s)
termination_by s.length
decreasing_by
 all_goals
  have h2:=kR h
  have h3:=CQ h
  rw [List.length_drop];omega
def jJ (f:Bytes→List Bool × Bool) (q:List Bool × Option Bytes):List Bool × Bool:=
 match q.2 with
 | none=>(q.1,false)
 | some t=>(q.1++(f t).1,(f t).2)
def dP (w:Nat):Nat→Bytes→List Bool × Bool
 | 0,_=>([],true)
 | h+1,s=>jJ (dP w h) (fM w 0 false s)
def dA:Nat→List Bool→Bytes→List Bool × Bool
 | 0,_,_=>([],true)
 | h+1,ab,s=>
  match dU true ab s with
  | none=>([],false)
  | some (r,n)=>(r++(dA h r (s.drop n)).1,(dA h r (s.drop n)).2)
def oM (s:Bytes):List Bool:=s.map fun c=>decide (c=49)
def kQ (n:Nat) (s:Bytes):List Bool × Bool:=if s.length<n then ([],false) else (oM (s.take n),true)
def mW (kind:Int) (w h:Nat) (d:Bytes):List Bool × Bool:=
 if kind=4 then ((dJ w h d (w*h) (w*h)).P,true) else if kind=1 then kQ (w*h) (iD d) else if kind=2 then dP w h (iD d) else dA h (List.replicate w false) (iD d)
theorem Zr (s:Bytes) (j:Nat) {t:Nat} (ht:t<8):pk s j / 2 ^ (7 - t)%2=bt s (8*j+t):=by
 have h0:=bt_le s (8*j)
 have h1:=bt_le s (8*j+1)
 have h2:=bt_le s (8*j+2)
 have h3:=bt_le s (8*j+3)
 have h4:=bt_le s (8*j+4)
 have h5:=bt_le s (8*j+5)
 have h6:=bt_le s (8*j+6)
 have h7:=bt_le s (8*j+7)
 have hc:t=0∨t=1∨t=2∨t=3∨t=4∨t=5∨t=6∨t=7:=by omega
 unfold pk
 rcases hc with rfl|rfl|rfl|rfl|rfl|rfl|rfl|rfl
 all_goals simp only [Nat.add_zero,Nat.reduceSub,Nat.reducePow,Nat.sub_self,Nat.sub_zero]
 all_goals omega
theorem JO {s:Bytes} (h1:s.all gI=true):∃ z,iD (jF s)=s++List.replicate z 48:=by
 refine ⟨8*((s.length+7) / 8) - s.length,?_⟩
 have hpl:(jF s).length=(s.length+7) / 8:=yP _ _
 apply List.ext_getElem?
 intro i
 unfold iD
 rw [List.getElem?_map,hpl]
 by_cases hi:i<8*((s.length+7) / 8)
 ·rw [List.getElem?_range hi]
  have hj:i / 8<(s.length+7) / 8:=by omega
  have e1:((jF s).getD (i / 8) 0).toNat=pk s (i / 8):=V4 s hj
  rw [Option.map_some,e1,Zr s (i / 8) (Nat.mod_lt _ (by decide)),show 8*(i / 8)+i%8=i by omega]
  by_cases hs:i<s.length
  ·rw [List.getElem?_append_left hs]
   have ha:s.getD i 0=48∨s.getD i 0=49:=by
    have:=(List.all_eq_true.1 h1) (s.getD i 0) (by rw [getD_lt hs];exact List.getElem_mem hs)
    simpa [gI] using this
   have e:s[i]?=some (s.getD i 0):=by rw [getD_lt hs,List.getElem?_eq_getElem hs]
   rw [e]
   unfold bt
   rcases ha with ha|ha<;>rw [ha]<;>rfl
  ·rw [List.getElem?_append_right (by omega),List.getElem?_replicate,if_pos (by omega)]
   have e:s.getD i 0=0:=by rw [List.getD_eq_getElem?_getD,List.getElem?_eq_none (by omega)];rfl
   unfold bt
   rw [e];rfl
 ·rw [List.getElem?_eq_none (by simp;omega),List.getElem?_eq_none (by rw [List.length_append,List.length_replicate];omega)];rfl
theorem MR (p:List Bool) (t:Bytes):kQ p.length (fZ p++t)=(p,true):=by
 unfold kQ
 have hl:(fZ p).length=p.length:=jP p
 rw [if_neg (by rw [List.length_append];omega),←hl,List.take_left]
 congr 1
 unfold oM fZ
 rw [List.map_map]
 conv=>rhs;rw [←List.map_id p]
 apply List.map_congr_left
 intro b _
 cases b<;>rfl
theorem vG {w n:Nat} (h:¬n<w) (ink:Bool) (s:Bytes):fM w n ink s=([],some s):=by rw [fM,if_neg h]
theorem xA {w n:Nat} (h:n<w) (ink:Bool) {s:Bytes} (hs:o7 s=none):fM w n ink s=([],none):=by
 rw [fM,if_pos h]
 split
 ·rfl
 ·rename_i h2;rw [hs] at h2;cases h2
theorem xB {w n m l:Nat} (h:n<w) (ink:Bool) {s:Bytes} (hs:o7 s=some (m,l)) (hm:w - n<m - 1):fM w n ink s=([],none):=by
 rw [fM,if_pos h]
 split
 ·rfl
 ·rename_i h2;rw [hs] at h2;cases h2;rw [if_pos hm]
theorem rU {w n m l:Nat} (h:n<w) (ink:Bool) {s:Bytes} (hs:o7 s=some (m,l)) (hm:¬w - n<m - 1) :
  fM w n ink s=(List.replicate (m - 1) ink++(fM w (n+(m - 1)) (!ink) (s.drop l)).1,(fM w (n+(m - 1)) (!ink) (s.drop l)).2):=by
 conv=>lhs;rw [fM]
 rw [if_pos h]
 split
 ·rename_i h2;rw [hs] at h2;cases h2
 ·rename_i h2;rw [hs] at h2;cases h2;rw [if_neg hm]
def F7:Bool→List Int→List Bool
 | _,[]=>[]
 | ink,n::l=>List.replicate n.toNat ink++F7 (!ink) l
def uH (l:List Int):Int:=l.foldr (·+·) 0
theorem Yr {l:List Int} (h:∀ y,y∈l→1≤y):(l.length:Int)≤uH l:=by
 induction l with
 | nil=>exact Int.le_refl _
 | cons x l ih=>
  have h1:=ih fun y hy=>h y (.tail _ hy)
  have h2:=h x (.head _)
  show ((l.length+1:Nat):Int)≤x+uH l
  omega
theorem EW (w:Nat) (hw:w≤4000) (t:Bytes):∀ (l:List Int) (n:Nat) (ink:Bool),(∀ x,x∈l→0≤x)→(∀ y,y∈l.drop 1→1≤y)→(l≠[]→1≤uH l)→(n:Int)+uH l=w →
  fM w n ink (dI l++t)=(F7 ink l,some t)
 | [],n,ink,_,_,_,hs=>by
  have:n=w:=by have:(n:Int)+0=w:=hs;omega
  rw [vG (by omega)];rfl
 | x::l,n,ink,h0,h1,hp,hs=>by
  have hx:=h0 x (.head _)
  have hp2:1≤uH (x::l):=hp (by simp)
  have e:uH (x::l)=x+uH l:=rfl
  have hl1:∀ y,y∈l→1≤y:=fun y hy=>h1 y hy
  have hsl:=Yr hl1
  have hn:n<w:=by omega
  have hg:o7 (dI (x::l)++t)=some ((x+1).toNat,(dS (x+1).toNat).length):=by
   show o7 (dS (x+1).toNat++dI l++t)=_
   rw [List.append_assoc]
   exact Jr (by omega) (by omega) _
  have hd:(dI (x::l)++t).drop (dS (x+1).toNat).length=dI l++t:=by
   show (dS (x+1).toNat++dI l++t).drop _=_
   rw [List.append_assoc,List.drop_left]
  have e2:(x+1).toNat - 1=x.toNat:=by omega
  rw [rU hn ink hg (by omega),hd,e2]
  have ih:=EW w hw t l (n+x.toNat) (!ink) (fun y hy=>by have:=hl1 y hy;omega) (fun y hy=>hl1 y (List.mem_of_mem_drop hy)) (fun hne=>by
   have:0<l.length:=List.length_pos_iff.2 hne
   omega) (by omega)
  rw [ih];rfl
theorem yu:∀ (l:List Int) (ink:Bool) (x:Int),F7 ink (l++[x])=F7 ink l++List.replicate x.toNat (xor ink (decide (l.length%2=1)))
 | [],ink,x=>by cases ink<;>simp [F7]
 | y::l,ink,x=>by
  show List.replicate y.toNat ink++F7 (!ink) (l++[x])=List.replicate y.toNat ink++F7 (!ink) l++_
  rw [yu l (!ink) x,List.append_assoc]
  congr 3
  have e:(y::l).length=l.length+1:=rfl
  rw [e]
  by_cases h:l.length%2=1
  ·rw [decide_eq_true h,decide_eq_false (by omega)];cases ink<;>rfl
  ·rw [decide_eq_false h,decide_eq_true (by omega)];cases ink<;>rfl
theorem yU (l:List Int) (x:Int):uH (l++[x])=uH l+x:=by
 induction l with
 | nil=>show x+0=0+x;omega
 | cons y l ih=>show y+uH (l++[x])=y+uH l+x;rw [ih];omega
structure YA (row:List Bool) (i:Nat) (l0:List Int) (x:Int) (ink:Bool):Prop where
 ink:ink=decide (l0.length%2=1)
 ex:F7 false (l0++[x])=row.take i
 x1:1≤x
 nn:∀ y,y∈l0→0≤y
 pos:∀ y,y∈l0.drop 1→1≤y
 sum:uH l0+x=i
theorem take_snoc {row:List Bool} {i:Nat} (h:i<row.length):row.take (i+1)=row.take i++[row.getD i false]:=by
 rw [List.take_succ_eq_append_getElem h,getD_lt h]
theorem ND (l0:List Int) (x y:Int):(l0++[x]).set ((l0++[x]).length - 1) y=l0++[y]:=by
 have e:(l0++[x]).length - 1=l0.length:=by simp
 rw [e,List.set_append_right _ _ (Nat.le_refl _),Nat.sub_self];rfl
theorem Ho (l0:List Int) (x:Int):(l0++[x]).getD ((l0++[x]).length - 1) 0=x:=by
 have e:(l0++[x]).length - 1=l0.length:=by simp
 rw [e,List.getD_eq_getElem?_getD,List.getElem?_append_right (Nat.le_refl _),Nat.sub_self];rfl
theorem vM {row:List Bool} {i:Nat} (h:i<row.length) {l0:List Int} {x:Int} {p ink:Bool} (hp:row.getD i false=p) (hi:ink=decide (l0.length%2=1)) (hx:0≤x) (hpi:p=ink)
  (he:F7 false (l0++[x])=row.take i) (nn:∀ y,y∈l0→0≤y) (pos:∀ y,y∈l0.drop 1→1≤y) (hs:uH l0+x=i):YA row (i+1) l0 (x+1) p:=by
 refine ⟨by rw [hpi,hi],?_,by omega,nn,pos,by omega⟩
 rw [take_snoc h,←he,yu,yu,List.append_assoc,hp,hpi,hi]
 congr 1
 have e:(x+1).toNat=x.toNat+1:=by omega
 rw [e,List.replicate_succ',Bool.false_xor]
theorem Af (row:List Bool):∀ i,i<row.length→∃ l0 x,(bF row (i+1)).1=l0++[x]∧YA row (i+1) l0 x (bF row (i+1)).2
 | 0,h=>by
  have e:bF row 1=jq [] false 0 (row.getD 0 false):=rfl
  rw [e]
  cases hp:row.getD 0 false with
  | false=>
   refine ⟨[],1,rfl,?_⟩
   exact vM (ink:=false) h hp rfl (Int.le_refl 0) rfl (by rfl) (by simp) (by simp) (by rfl)
  | true=>
   refine ⟨[0],1,rfl,?_⟩
   exact vM (ink:=true) h hp rfl (Int.le_refl 0) rfl (by rfl) (by simp) (by simp) (by rfl)
 | i+1,h=>by
  obtain ⟨l0,x,h1,h2⟩:=Af row i (by omega)
  have e:bF row (i+1+1)=jq (bF row (i+1)).1 (bF row (i+1)).2 (i+1) (row.getD (i+1) false):=rfl
  rw [e,h1]
  generalize (bF row (i+1)).2=ink at h2 ⊢
  cases hp:row.getD (i+1) false with
  | _=>
   unfold jq
   simp only [if_neg (show ¬(i+1=0) by omega)]
   split
   ·rename_i hq
    refine ⟨l0,x+1,?_,?_⟩
    ·rw [Ho,ND]
    ·exact vM (ink:=ink) h hp h2.ink (by have:=h2.x1;omega) hq h2.ex h2.nn h2.pos h2.sum
   ·rename_i hq
    refine ⟨l0++[x],0+1,?_,?_⟩
    ·rw [Ho,ND]
    ·have hlen:(l0++[x]).length=l0.length+1:=by simp
     have hx:=h2.x1
     refine vM (ink:=!ink) h hp ?_ (Int.le_refl 0) ?_ ?_ (fun y hy=>?_) (fun y hy=>?_) ?_
     ·rw [hlen,h2.ink]
      by_cases hq:l0.length%2=1
      ·rw [decide_eq_true hq,decide_eq_false (by omega)];rfl
      ·rw [decide_eq_false hq,decide_eq_true (by omega)];rfl
     ·revert hq;cases ink<;>simp
     ·rw [yu,h2.ex];simp
     ·rcases List.mem_append.1 hy with hy|hy
      ·exact h2.nn y hy
      ·rw [List.mem_singleton.1 hy];omega
     ·rw [List.drop_append] at hy
      rcases List.mem_append.1 hy with hy|hy
      ·exact h2.pos y hy
      ·have:=List.mem_of_mem_drop hy
       rw [List.mem_singleton.1 this];omega
     ·rw [yU];have:=h2.sum;omega
theorem Uf {r:List Bool} (h0:0<r.length) (hw:r.length≤4000) (t:Bytes):fM r.length 0 false (dI (iW r)++t)=(r,some t):=by
 obtain ⟨l0,x,h1,h2⟩:=Af r (r.length - 1) (by omega)
 have e:r.length - 1+1=r.length:=by omega
 rw [e] at h1 h2
 have hr:iW r=l0++[x]:=h1
 have hx:=h2.x1
 have key:fM r.length 0 false (dI (l0++[x])++t)=(F7 false (l0++[x]),some t):=by
  refine EW r.length hw t (l0++[x]) 0 false (fun y hy=>?_) (fun y hy=>?_) (fun _=>?_) ?_
  ·rcases List.mem_append.1 hy with hy|hy
   ·exact h2.nn y hy
   ·rw [List.mem_singleton.1 hy];omega
  ·rw [List.drop_append] at hy
   rcases List.mem_append.1 hy with hy|hy
   ·exact h2.pos y hy
   ·have:=List.mem_of_mem_drop hy
    rw [List.mem_singleton.1 this];omega
  ·rw [yU];have:=h2.sum;omega
  ·rw [yU];have:=h2.sum;omega
 rw [hr,key,h2.ex,List.take_length]
theorem row_drop {w h:Nat} {p:List Bool} (hp:p.length=w*h) {j:Nat} (hj:j<h):rowP w p j++p.drop ((j+1)*w)=p.drop (j*w):=by
 unfold rowP
 rw [Nat.succ_mul,←List.drop_drop]
 exact List.take_append_drop w _
theorem Lj {w h:Nat} {p:List Bool} (hp:p.length=w*h):p.drop (h*w)=[]:=List.drop_of_length_le (by rw [hp,Nat.mul_comm];exact Nat.le_refl _)
theorem Bv {w h:Nat} (hw0:0<w) (hw:w≤4000) {p:List Bool} (hp:p.length=w*h) (t:Bytes):∀ (k j:Nat),j+k=h→dP w k ((List.range' j k).flatMap (fun j=>dI (iW (rowP w p j)))++t)=(p.drop (j*w),true)
 | 0,j,e=>by
  have:j=h:=by omega
  subst this
  rw [Lj hp];rfl
 | k+1,j,e=>by
  rw [List.range'_succ,List.flatMap_cons,List.append_assoc]
  have hl:=iC hp (y:=j) (by omega)
  have h1:=Uf (r:=rowP w p j) (by omega) (by omega) ((List.range' (j+1) k).flatMap (fun j=>dI (iW (rowP w p j)))++t)
  rw [hl] at h1
  show jJ (dP w k) (fM w 0 false _)=_
  rw [h1]
  show (rowP w p j++(dP w k _).1,(dP w k _).2)=_
  rw [Bv hw0 hw hp t k (j+1) (by omega),row_drop hp (by omega)]
theorem NV (w:Nat) (p:List Bool) (j:Nat):sN w p (j+1)=rowP w p j:=by unfold sN;rw [if_neg (by omega)];rfl
theorem Xa {w h:Nat} {p:List Bool} (hp:p.length=w*h) {y:Nat} (hy:y<h):(sN w p y).length=w:=by
 unfold sN
 split
 ·exact List.length_replicate
 ·exact iC hp (by omega)
theorem A8 {w h:Nat} (hw0:0<w) (hw:w≤4000) {p:List Bool} (hp:p.length=w*h) (t:Bytes):∀ (k j:Nat),j+k=h→dA k (sN w p j) ((List.range' j k).flatMap (fun j=>eY (rowP w p j) (sN w p j))++t)=(p.drop (j*w),true)
 | 0,j,e=>by
  have:j=h:=by omega
  subst this
  rw [Lj hp];rfl
 | k+1,j,e=>by
  rw [List.range'_succ,List.flatMap_cons,List.append_assoc]
  have hl:=iC hp (y:=j) (by omega)
  have hu:=Xa hp (y:=j) (by omega)
  have h1:=Bo true (row:=rowP w p j) (above:=sN w p j) (by omega) (by omega) ((List.range' (j+1) k).flatMap (fun j=>eY (rowP w p j) (sN w p j))++t)
  show (match dU true _ _ with|none=>_|some (r,n)=>_)=_
  rw [h1]
  show (rowP w p j++(dA k (rowP w p j) _).1,(dA k (rowP w p j) _).2)=_
  rw [List.drop_left,←NV w p j,A8 hw0 hw hp t k (j+1) (by omega),NV,row_drop hp (by omega)]
theorem Uj {w h:Nat} {p:List Bool}:iY w p h=(List.range' 0 h).flatMap (fun j=>dI (iW (rowP w p j))):=by unfold iY;rw [List.range_eq_range']
theorem O9 {w h:Nat} {p:List Bool}:eP w p h=(List.range' 0 h).flatMap (fun j=>eY (rowP w p j) (sN w p j)):=by unfold eP;rw [List.range_eq_range']
theorem TU {w h:Nat} (hw0:0<w) (hw:w≤4000) {p:List Bool} (hp:p.length=w*h) {kind:Int} (hk:1≤kind∧kind≤4):mW kind w h (bV w h p kind)=(p,true):=by
 have hc:kind=4∨kind=1∨kind=2∨kind=3:=by omega
 rcases hc with rfl|rfl|rfl|rfl
 ·have e:bV w h p 4=sS w h p:=rfl
  unfold mW
  rw [if_pos rfl,e,←hp,KD w h p hw0]
 ·have e:bV w h p 1=jF (fZ p):=rfl
  unfold mW
  rw [if_neg (by decide),if_pos rfl,e]
  obtain ⟨z,hz⟩:=JO (KN p)
  rw [hz,←hp]
  exact MR p _
 ·have e:bV w h p 2=jF (iY w p h):=rfl
  unfold mW
  rw [if_neg (by decide),if_neg (by decide),if_pos rfl,e]
  obtain ⟨z,hz⟩:=JO (Nz w p h)
  rw [hz,Uj,Bv hw0 hw hp _ h 0 (by omega),Nat.zero_mul,List.drop_zero]
 ·have e:bV w h p 3=jF (eP w p h):=rfl
  unfold mW
  rw [if_neg (by decide),if_neg (by decide),if_neg (by decide),e]
  obtain ⟨z,hz⟩:=JO (Ht w h p hp h (Nat.le_refl _))
  have hu:List.replicate w false=sN w p 0:=by unfold sN;rw [if_pos rfl]
  rw [hz,O9,hu,A8 hw0 hw hp _ h 0 (by omega),Nat.zero_mul,List.drop_zero]
end Go.Fv.H
/- The reference's reader of adaptive data, in plain words: what it reads is what the other one reads; what is written it reads. -/
namespace Go.Fv.H
open Go
def jE (W H:Nat):Nat→AD→Nat→List Bool × Bool
 | 0,s,_=>(s.P,decide (s.data=[]))
 | k+1,s,i=>
  if (s.mid (s.c W H i) i).span≤(s.mid (s.c W H i) i).code then ((s.mid (s.c W H i) i).P,false)
  else if (s.mid (s.c W H i) i).span<16777216 then
   (if (s.mid (s.c W H i) i).data=[] then ((s.mid (s.c W H i) i).P,false) else jE W H k (s.mid (s.c W H i) i).norm (i+1))
  else jE W H k (s.mid (s.c W H i) i) (i+1)
def kZ (W H:Nat) (d:Bytes) (n:Nat):List Bool × Bool:=if d.length<4 then (List.replicate n false,false) else jE W H n (AD.init d n) 0
theorem qH {s:AD} (h:¬s.span<16777216):s.norm=s:=by unfold AD.norm;rw [if_neg h]
theorem xG (W H n:Nat):∀ (k:Nat) (s:AD) (i:Nat),s.Ok n→(jE W H k s i).1.length=n
 | 0,s,i,h=>h.P
 | k+1,s,i,h=>by
  have hm:=AD.rO h (lJ W H s.P ((i%W:Nat):Int) ((i / W:Nat):Int)) i
  have hc:s.c W H i=kJ W H s.P ((i%W:Nat):Int) ((i / W:Nat):Int):=rfl
  rw [←hc] at hm
  have hn:=AD.CP hm
  unfold jE
  split
  ·exact hm.2.2.2.2.2
  ·split
   ·split
    ·exact hm.2.2.2.2.2
    ·exact xG W H n k _ _ hn
   ·rename_i hw
    rw [qH hw] at hn
    exact xG W H n k _ _ hn
theorem Ur (W H:Nat) (d:Bytes) (n:Nat):(kZ W H d n).1.length=n:=by
 unfold kZ
 split
 ·exact List.length_replicate
 ·exact xG W H n n _ 0 (AD.CB d n)
theorem Iw (W H:Nat) (d:Bytes) (n:Nat):∀ (k i:Nat),(jE W H k (dJ W H d n i) i).2=true→(jE W H k (dJ W H d n i) i).1=(dJ W H d n (i+k)).P
 | 0,i,_=>rfl
 | k+1,i,h=>by
  have e:dJ W H d n (i+1)=((dJ W H d n i).mid ((dJ W H d n i).c W H i) i).norm:=rfl
  have ih:=Iw W H d n k (i+1)
  rw [e] at ih
  have e2:i+(k+1)=i+1+k:=by omega
  rw [e2]
  unfold jE at h ⊢
  split at h
  ·cases h
  ·rename_i h1
   rw [if_neg h1]
   split at h
   ·rename_i h2
    rw [if_pos h2]
    split at h
    ·cases h
    ·rename_i h3
     rw [if_neg h3]
     exact ih h
   ·rename_i h2
    rw [if_neg h2]
    rw [qH h2] at ih
    exact ih h
theorem NT {W H:Nat} {d:Bytes} {n:Nat} (h:(kZ W H d n).2=true):(kZ W H d n).1=(dJ W H d n n).P:=by
 unfold kZ at h ⊢
 split at h
 ·cases h
 ·rename_i h1
  rw [if_neg h1]
  have:=Iw W H d n n 0 h
  rw [Nat.zero_add] at this
  exact this
theorem UF (W H:Nat) (P:List Bool) (hW:0<W) {i:Nat} (hi:i<P.length) :
  ∃ m:AE,m=(bg W H P i).mid (kJ W H P ((i%W:Nat):Int) ((i / W:Nat):Int)) (P.getD i false)∧m.big≤seen W H P P.length i∧seen W H P P.length i<m.big+m.span ∧
  (dJ W H (sS W H P) P.length i).mid ((dJ W H (sS W H P) P.length i).c W H i) i=⟨seen W H P P.length i - m.big,m.span,m.tab,(sS W H P).drop (4+(bg W H P i).sh),P.take (i+1)++List.replicate (P.length - (i+1)) false⟩:=by
 refine ⟨_,rfl,(yT W H P hi _ rfl).1,(yT W H P hi _ rfl).2,?_⟩
 have ih:=uO W H P hW i (by omega)
 obtain ⟨s1,s2,s3⟩:=vN W H P (show i≤P.length by omega)
 have hok:=pq W H P i
 have hc:kJ W H (P.take i++List.replicate (P.length - i) false) ((i%W:Nat):Int) ((i / W:Nat):Int)=kJ W H P ((i%W:Nat):Int) ((i / W:Nat):Int):=by
  refine QM (Nat.mod_lt _ hW) ?_
  have e:i / W*W+i%W=i:=by rw [Nat.mul_comm];exact Nat.div_add_mod i W
  rw [e,List.take_left' (by rw [List.length_take];omega)]
 obtain ⟨m1,m2⟩:=yT W H P hi _ rfl
 have hset:=MN hi rfl
 unfold AD.c
 rw [ih]
 dsimp only
 rw [hc]
 generalize kJ W H P ((i%W:Nat):Int) ((i / W:Nat):Int)=c at *
 generalize bg W H P i=s at *
 generalize seen W H P P.length i=q at *
 generalize sS W H P=d at *
 generalize P.getD i false=k at *
 have em:(⟨q - s.big,s.span,s.tab,d.drop (4+s.sh),P.take i++List.replicate (P.length - i) false⟩:AD).m c=s.m c:=rfl
 have ek:(⟨q - s.big,s.span,s.tab,d.drop (4+s.sh),P.take i++List.replicate (P.length - i) false⟩:AD).k c=k:=by
  unfold AD.k
  rw [em]
  dsimp only
  unfold AE.mid at m1 m2
  dsimp only at m1 m2
  cases k
  ·simp only [Bool.false_eq_true,if_false] at m1 m2
   rw [decide_eq_false (by omega)]
  ·simp only [if_true] at m1 m2
   have:=hok.lo
   rw [decide_eq_true (by omega)]
 unfold AD.mid
 rw [ek,em]
 dsimp only
 rw [hset]
 unfold AE.mid at m1 m2 ⊢
 dsimp only at m1 m2 ⊢
 cases k
 ·simp only [Bool.false_eq_true,if_false]
 ·simp only [if_true] at m1 ⊢
  congr 1
  omega
theorem Dk (W H:Nat) (P:List Bool):(sS W H P).length=4+(bg W H P P.length).sh:=by unfold sS;exact aS _ _
theorem BF (W H:Nat) (P:List Bool) (hW:0<W):∀ (k i:Nat),i+k=P.length→jE W H k (dJ W H (sS W H P) P.length i) i=(P,true)
 | 0,i,h=>by
  have e:i=P.length:=by omega
  subst e
  show ((dJ W H (sS W H P) P.length P.length).P,_)=_
  rw [KD W H P hW,uO W H P hW P.length (Nat.le_refl _)]
  dsimp only
  rw [List.drop_of_length_le (by rw [Dk];exact Nat.le_refl _)]
  rfl
 | k+1,i,h=>by
  have hi:i<P.length:=by omega
  obtain ⟨m,hm0,hm1,hm2,hm⟩:=UF W H P hW hi
  have e:dJ W H (sS W H P) P.length (i+1)=((dJ W H (sS W H P) P.length i).mid ((dJ W H (sS W H P) P.length i).c W H i) i).norm:=rfl
  have ih:=BF W H P hW k (i+1) (by omega)
  rw [e] at ih
  have ea:bg W H P (i+1)=m.norm:=by rw [hm0];rfl
  have hsh:=(vN W H P (show i+1≤P.length from hi)).1
  have e8:m.sh=(bg W H P i).sh:=by rw [hm0];rfl
  have hl:=Dk W H P
  unfold jE
  rw [hm] at ih ⊢
  dsimp only
  rw [if_neg (by omega)]
  split
  ·rename_i hs
   have hs2:(bg W H P (i+1)).sh=(bg W H P i).sh+1:=by rw [ea,←e8];unfold AE.norm;rw [if_pos hs]
   rw [if_neg (fun h0=>by
    have:=congrArg List.length h0
    rw [List.length_drop,List.length_nil] at this
    omega)]
   exact ih
  ·rename_i hs
   rw [qH (by dsimp only;exact hs)] at ih
   exact ih
theorem Qh (W H:Nat) (P:List Bool) (hW:0<W):kZ W H (sS W H P) P.length=(P,true):=by
 unfold kZ
 have hl:=Dk W H P
 rw [if_neg (by omega)]
 exact BF W H P hW P.length 0 (by omega)
open Go Go.Proofs
theorem nS (b:Bool) (e:Int):aA Tryz.prog 29 [.bool b,.int .i64 e] (.int .i64 (if b=true then e else 0)) []:=by
 refine aA.aG Tryz.func29 rfl (by decide) (by simp [Tryz.f29]) [.tmp 4] rfl fun w0 T0 _=>?_
 simp only [Tryz.f29,au]
 cases b<;>simp only [go_sem]<;>(refine aT.auto 0 ?_ rfl ?_<;>simp only [go_sem,Int.natCast_succ,Post])
def bn (w h:Int):Int:=if w<1∨4000<w∨h<1∨4000<h then 3 else if 1048576<w*h then 4 else 0
set_option maxHeartbeats 1000000 in
theorem kF (w h:Int):aA Tryz.prog 67 [.int .i64 w,.int .i64 h] (.int .i64 (bn w h)) []:=by
 refine aA.aG Tryz.func67 rfl (by decide) (by simp [Tryz.f67]) [.tmp 4] rfl fun w0 T0 _=>?_
 simp only [Tryz.f67,au]
 simp only [go_sem]
 (repeat' first|(with_reducible refine sQ.intro fun _=>?_)|((with_reducible refine bD.intro ?_ ?_);(· first|omega|(with_reducible refine bD.intro ?_ ?_<;>omega)|(simp;done)|(simp;omega)))|((with_reducible refine bY.i64 ?_ ?_ ?_);(· omega);(· omega))|((with_reducible refine Ite.decide (fun _=>?_) (fun _=>?_))<;>first|(exfalso;omega)|simp only [go_sem])|((with_reducible refine Ite.bool (fun _=>?_) (fun _=>?_))<;>simp only [go_sem])|(with_reducible refine And.intro ?_ ?_))
 ·rename_i h1
  refine aT.auto 0 ?_ rfl ?_<;>simp only [go_sem,Int.natCast_succ,Post,bn]
  rw [if_pos (by omega)]
 ·rename_i h1
  have hm1:0≤w*h:=Int.mul_nonneg (by omega) (by omega)
  have hm2:w*h≤4000*4000:=Int.mul_le_mul (by omega) (by omega) (by omega) (by omega)
  refine bY.i64 (by omega) (by omega) ?_
  (repeat' first|(with_reducible refine sQ.intro fun _=>?_)|((with_reducible refine bD.intro ?_ ?_);(· first|omega|(with_reducible refine bD.intro ?_ ?_<;>omega)|(simp;done)|(simp;omega)))|((with_reducible refine bY.i64 ?_ ?_ ?_);(· omega);(· omega))|((with_reducible refine Ite.decide (fun _=>?_) (fun _=>?_))<;>first|(exfalso;omega)|simp only [go_sem])|((with_reducible refine Ite.bool (fun _=>?_) (fun _=>?_))<;>simp only [go_sem])|(with_reducible refine And.intro ?_ ?_))
  ·refine aT.auto 0 ?_ rfl ?_<;>simp only [go_sem,Int.natCast_succ,Post,bn]
   rw [if_neg (by omega),if_pos (by omega)]
  ·refine aT.auto 0 ?_ rfl ?_<;>simp only [go_sem,Int.natCast_succ,Post,bn]
   rw [if_neg (by omega),if_neg (by omega)]
def jy (w h:Int) (n:Nat):Int:=if bn w h=0 then (if (n:Int)=w*h then 0 else 2) else bn w h
theorem fD {w h:Int} (e:bn w h=0):1≤w∧w≤4000∧1≤h∧h≤4000∧w*h≤1048576∧1≤w*h:=by
 unfold bn at e
 split at e
 ·omega
 ·split at e
  ·omega
  ·rename_i h1 h2
   have:1*1≤w*h:=Int.mul_le_mul (by omega) (by omega) (by omega) (by omega)
   omega
theorem Qa {w h:Int} (h1:1≤w) (h2:w≤4000) (h3:1≤h) (h4:h≤4000) (hm2:w*h≤1048576):bn w h=0:=by
 unfold bn
 rw [if_neg (by omega),if_neg (by omega)]
set_option maxHeartbeats 1000000 in
theorem IZ (w h:Int) (p:List Bool):aA Tryz.prog 74 [.agg [.int .i64 w,.int .i64 h,.ro (.bools p)]] (.int .i64 (jy w h p.length)) []:=by
 refine aA.aG Tryz.func74 rfl (by decide) (by simp [Tryz.f74]) [.tmp 2] rfl fun w0 T0 _=>?_
 simp only [Tryz.f74,au]
 simp only [go_sem]
 (repeat' first|(with_reducible refine sQ.intro fun _=>?_)|((with_reducible refine bD.intro ?_ ?_);(· first|omega|(with_reducible refine bD.intro ?_ ?_<;>omega)|(simp;done)|(simp;omega)))|((with_reducible refine bY.i64 ?_ ?_ ?_);(· omega);(· omega))|((with_reducible refine Ite.decide (fun _=>?_) (fun _=>?_))<;>first|(exfalso;omega)|simp only [go_sem])|((with_reducible refine Ite.bool (fun _=>?_) (fun _=>?_))<;>simp only [go_sem])|(with_reducible refine And.intro ?_ ?_))
 refine ah.fr (args':=[.int .i64 w,.int .i64 h]) (bZ.eH (kF w h) rfl rfl) (by simp [aQ,aU,aH]) 0 rfl (by simp [iQ]) ?_
 simp only [go_sem]
 (repeat' first|(with_reducible refine sQ.intro fun _=>?_)|((with_reducible refine bD.intro ?_ ?_);(· first|omega|(with_reducible refine bD.intro ?_ ?_<;>omega)|(simp;done)|(simp;omega)))|((with_reducible refine bY.i64 ?_ ?_ ?_);(· omega);(· omega))|((with_reducible refine Ite.decide (fun _=>?_) (fun _=>?_))<;>first|(exfalso;omega)|simp only [go_sem])|((with_reducible refine Ite.bool (fun _=>?_) (fun _=>?_))<;>simp only [go_sem])|(with_reducible refine And.intro ?_ ?_))
 ·rename_i h1
  refine aT.auto 0 ?_ rfl ?_<;>simp only [go_sem,Int.natCast_succ,Post,jy,h1,reduceIte]
 ·have h1:bn w h=0:=by omega
  have hs:=fD h1
  refine bY.i64 (by omega) (by omega) ?_
  (repeat' first|(with_reducible refine sQ.intro fun _=>?_)|((with_reducible refine bD.intro ?_ ?_);(· first|omega|(with_reducible refine bD.intro ?_ ?_<;>omega)|(simp;done)|(simp;omega)))|((with_reducible refine bY.i64 ?_ ?_ ?_);(· omega);(· omega))|((with_reducible refine Ite.decide (fun _=>?_) (fun _=>?_))<;>first|(exfalso;omega)|simp only [go_sem])|((with_reducible refine Ite.bool (fun _=>?_) (fun _=>?_))<;>simp only [go_sem])|(with_reducible refine And.intro ?_ ?_))
  ·rename_i h2
   refine aT.auto 0 ?_ rfl ?_<;>simp only [go_sem,Int.natCast_succ,Post,jy,h1,h2,reduceIte]
  ·rename_i h2
   refine aT.auto 0 ?_ rfl ?_<;>simp only [go_sem,Int.natCast_succ,Post,jy,h1,reduceIte]
   rw [if_pos (by omega)]
theorem iw (n lo hi:Int):aA Tryz.prog 109 [.int .i64 n,.int .i64 lo,.int .i64 hi] (.bool (decide (lo≤n∧n≤hi))) []:=by
 refine aA.aG Tryz.func109 rfl (by decide) (by simp [Tryz.f109]) [.tmp 6] rfl fun w0 T0 _=>?_
 simp only [Tryz.f109,au]
 (repeat' with_reducible first|intro _|exact dn|refine rn ?_|refine ra ?_ ?_)
 refine aT.auto 0 ?_ rfl ?_<;>simp only [go_sem,Int.natCast_succ,Post]
def ZP (p:List Bool) (w h:Nat) (i j:Int):Bool:=decide (0≤i∧i<w∧0≤j∧j<h) && p.getD (j*w+i).toNat false
theorem Ot (p:List Bool) {w h i j:Nat} (hi:i<w) (hj:j<h):ZP p w h i j=p.getD (j*w+i) false:=by
 unfold ZP
 rw [decide_eq_true (show 0≤(i:Int)∧(i:Int)<w∧0≤(j:Int)∧(j:Int)<h by omega),Bool.true_and,up_mul,up_add,Int.toNat_natCast]
theorem Qy (p:List Bool) {w h:Nat} {i j:Int} (h':¬(0≤i∧i<w∧0≤j∧j<h)):ZP p w h i j=false:=by
 unfold ZP;rw [decide_eq_false h',Bool.false_and]
set_option maxHeartbeats 2000000 in
theorem Nq (w h:Nat) (hw:w≤4000) (hh:h≤4000) (p:List Bool) (hp:p.length=w*h) (i j:Int):aA Tryz.prog 76 [.agg [.int .i64 w,.int .i64 h,.ro (.bools p)],.int .i64 i,.int .i64 j] (.bool (ZP p w h i j)) []:=by
 refine aA.aG Tryz.func76 rfl (by decide) (by simp [Tryz.f76]) [.tmp 6] rfl fun w0 T0 _=>?_
 simp only [Tryz.f76,au]
 by_cases hin:0≤i∧i<w∧0≤j∧j<h
 ·obtain ⟨i,rfl⟩:∃ k:Nat,i=k:=⟨i.toNat,by omega⟩
  obtain ⟨j,rfl⟩:∃ k:Nat,j=k:=⟨j.toNat,by omega⟩
  rw [Ot p (by omega) (by omega)]
  have b1:j*w+w≤h*w:=by rw [←Nat.succ_mul];exact Nat.mul_le_mul_right _ (by omega)
  have b2:h*w≤4000*4000:=Nat.mul_le_mul hh hw
  have b3:w*h=h*w:=Nat.mul_comm _ _
  (repeat' with_reducible first|intro _|exact dn|refine rn ?_|refine ra ?_ ?_)
  refine ah.k (iw i 0 (w - 1)) ?_
  rw [decide_eq_true (show 0≤(i:Int)∧(i:Int)≤w - 1 by omega)]
  (repeat' with_reducible first|intro _|exact dn|refine rn ?_|refine ra ?_ ?_)
  refine ah.k (iw j 0 (h - 1)) ?_
  rw [decide_eq_true (show 0≤(j:Int)∧(j:Int)≤h - 1 by omega)]
  (repeat' with_reducible first|intro _|refine rz ?_|refine ra ?_ ?_|omega|simp only [go_sem,up_mul,up_add,Int.toNat_natCast])
  refine aT.auto 0 ?_ rfl ?_<;>simp only [go_sem,Int.natCast_succ,Post]
 ·rw [Qy p hin]
  (repeat' with_reducible first|intro _|exact dn|refine rn ?_|refine ra ?_ ?_)
  refine ah.k (iw i 0 (w - 1)) ?_
  (repeat' with_reducible first|intro _|exact dn|refine rn ?_|refine ra ?_ ?_)
  ·refine ah.k (iw j 0 (h - 1)) ?_
   rw [decide_eq_false (show ¬(0≤(j:Int)∧(j:Int)≤h - 1) by omega)]
   (repeat' with_reducible first|intro _|exact dn|refine rn ?_|refine ra ?_ ?_)
   refine aT.auto 0 ?_ rfl ?_<;>simp only [go_sem,Int.natCast_succ,Post]
  ·refine aT.auto 0 ?_ rfl ?_<;>simp only [go_sem,Int.natCast_succ,Post]
end Go.Fv.H
/- shrink.at and shrink.context: the walk. -/
namespace Go.Fv.H
open Go Go.Proofs
theorem YD (w h:Nat) (p:List Bool) (x y:Int):lT w h p x y=ZP p w h x y:=rfl
set_option maxHeartbeats 2000000 in
theorem Yo (w h:Nat) (hw:w≤4000) (hh:h≤4000) (p:List Bool) (hp:p.length=w*h) (x y:Int):aA Tryz.prog 114 [.agg [.int .i64 w,.int .i64 h,.ro (.bools p)],.int .i64 x,.int .i64 y] (.bool (lT w h p x y)) []:=by
 rw [YD]
 refine aA.aG Tryz.func114 rfl (by decide) (by simp [Tryz.f114]) [.tmp 6] rfl fun w0 T0 _=>?_
 simp only [Tryz.f114,au]
 by_cases hin:0≤x∧x<w∧0≤y∧y<h
 ·obtain ⟨x,rfl⟩:∃ k:Nat,x=k:=⟨x.toNat,by omega⟩
  obtain ⟨y,rfl⟩:∃ k:Nat,y=k:=⟨y.toNat,by omega⟩
  rw [Ot p (by omega) (by omega)]
  have b1:y*w+w≤h*w:=by rw [←Nat.succ_mul];exact Nat.mul_le_mul_right _ (by omega)
  have b2:h*w≤4000*4000:=Nat.mul_le_mul hh hw
  have b3:w*h=h*w:=Nat.mul_comm _ _
  have hd:decide (((0≤(x:Int)∧(x:Int)<(w:Int))∧0≤(y:Int))∧(y:Int)<(h:Int))=true:=decide_eq_true ⟨⟨⟨hin.1,hin.2.1⟩,hin.2.2.1⟩,hin.2.2.2⟩
  (repeat' with_reducible first|intro _|refine rz ?_|refine ra ?_ ?_|omega|simp only [go_sem,up_mul,up_add,Int.toNat_natCast])
  refine aT.auto 0 ?_ rfl ?_<;>simp only [go_sem,Int.natCast_succ,Post]
  rw [hd,Bool.true_and]
 ·rw [Qy p hin]
  have hd:decide (((0≤x∧x<(w:Int))∧0≤y)∧y<(h:Int))=false:=decide_eq_false fun q=>hin ⟨q.1.1.1,q.1.1.2,q.1.2,q.2⟩
  (repeat' with_reducible first|intro _|exact dn|refine rn ?_|refine ra ?_ ?_)
  refine aT.auto 0 ?_ rfl ?_<;>simp only [go_sem,Int.natCast_succ,Post]
  rw [hd,Bool.false_and]
end Go.Fv.H
/- The context of a pixel: the walk. -/
namespace Go.Fv.H
open Go Go.Proofs
def aZ (w h:Nat) (p:List Bool) (x y:Int) (k:Nat):Nat:=(TN.take k).foldl (fun n d=>2*n+kV (lT w h p (x+d.1) (y+d.2))) 0
theorem QL (w h:Nat) (p:List Bool) (x y:Int):∀ k,k≤10→aZ w h p x y k<1024:=by
 intro k hk
 have key:∀ (l:List (Int × Int)) (n k:Nat),n<2 ^ k→l.foldl (fun n d=>2*n+kV (lT w h p (x+d.1) (y+d.2))) n<2 ^ (k+l.length):=by
  intro l
  induction l with
  | nil=>intro n k hn;exact hn
  | cons d l ih=>
   intro n k hn
   have:=QH (lT w h p (x+d.1) (y+d.2))
   have h2:=ih (2*n+kV (lT w h p (x+d.1) (y+d.2))) (k+1) (by rw [Nat.pow_succ];omega)
   rw [List.foldl_cons,List.length_cons,Nat.add_comm l.length 1,←Nat.add_assoc];exact h2
 have h1:=key (TN.take k) 0 0 (by decide)
 have h2:(2:Nat) ^ (0+(TN.take k).length)≤2 ^ 10:=Nat.pow_le_pow_right (by decide) (by rw [List.length_take];omega)
 unfold aZ
 rw [show (2:Nat) ^ 10=1024 from rfl] at h2
 omega
theorem Lc (w h:Nat) (p:List Bool) (x y:Int):aZ w h p x y 10=kJ w h p x y:=rfl
set_option maxHeartbeats 8000000 in
theorem DC (w h:Nat) (hw:w≤4000) (hh:h≤4000) (p:List Bool) (hp:p.length=w*h) (x y:Int) (hx:-1≤x∧x≤4000) (hy:-1≤y∧y≤4000) :
  aA Tryz.prog 75 [.agg [.int .i64 w,.int .i64 h,.ro (.bools p)],.int .i64 x,.int .i64 y] (.int .i64 (kJ w h p x y)) []:=by
 rw [←Lc]
 have hb:=QL w h p x y
 have ka:=Yo w h hw hh p hp
 refine aA.aG Tryz.func75 rfl (by decide) (by simp [Tryz.f75]) [.tmp 6] rfl fun w0 T0 _=>?_
 simp only [Tryz.f75,au]
 (repeat' with_reducible first|intro _|exact dn|refine rn ?_|refine ra ?_ ?_)
 refine aF.intro (fun i:Nat=>⟨40,[(21,.int .i64 i),(20,.agg [.int .i64 (-1),.int .i64 (-2),.int .i64 0,.int .i64 (-2),.int .i64 1,.int .i64 (-2),.int .i64 (-2),.int .i64 (-1),.int .i64 (-1),.int .i64 (-1),.int .i64 0,.int .i64 (-1),.int .i64 1,.int .i64 (-1),.int .i64 2,.int .i64 (-1),.int .i64 (-2),.int .i64 0,.int .i64 (-1),.int .i64 0]),(7,.int .i64 (aZ w h p x y i)),(3,.ptr 0 0),(2,.int .i64 y),(1,.int .i64 x)],[(0,.box 24 [.int .i64 w,.int .i64 h,.ro (.bools p)])],1⟩) (fun i=>i≤10) (fun i=>10 - i) 0 ?_ (Nat.zero_le _) fun i hi=>?_
 ·refine aK.ak rfl ?_ ?_<;>simp only [go_sem,Int.natCast_succ]
  all_goals rfl
 have hi:i=0∨i=1∨i=2∨i=3∨i=4∨i=5∨i=6∨i=7∨i=8∨i=9∨i=10:=by omega
 rcases hi with rfl|rfl|rfl|rfl|rfl|rfl|rfl|rfl|rfl|rfl|rfl
 ·have h0:=hb 0 (by decide)
  have hF:aZ w h p x y 1=2*aZ w h p x y 0+kV (lT w h p (x+(-1)) (y+(-2))):=rfl
  have k1:=ka (x+(-1)) (y+(-2))
  generalize aZ w h p x y 0=v at *
  generalize lT w h p (x+(-1)) (y+(-2))=b at *
  (repeat' with_reducible first|intro _|refine rz ?_|refine ra ?_ ?_|omega|simp only [go_sem,Int.cast_ofNat_Int])
  refine ah.k k1 ?_
  cases b with
  | true=>
   have hF:aZ w h p x y 1=2*v+1:=hF
   (repeat' with_reducible first|intro _|refine rz ?_|refine ra ?_ ?_|omega|simp only [go_sem,Int.cast_ofNat_Int])
   refine ⟨1,aK.ak rfl ?_ ?_,by omega,by omega⟩<;>simp only [go_sem,Int.natCast_succ,hF,Int.cast_ofNat_Int]
   all_goals omega
  | false=>
   have hF:aZ w h p x y 1=2*v:=hF
   (repeat' with_reducible first|intro _|refine rz ?_|refine ra ?_ ?_|omega|simp only [go_sem,Int.cast_ofNat_Int])
   refine ⟨1,aK.ak rfl ?_ ?_,by omega,by omega⟩<;>simp only [go_sem,Int.natCast_succ,hF,Int.cast_ofNat_Int]
   all_goals omega
 ·have h0:=hb 1 (by decide)
  have hF:aZ w h p x y 2=2*aZ w h p x y 1+kV (lT w h p (x+0) (y+(-2))):=rfl
  have k1:=ka (x+0) (y+(-2))
  generalize aZ w h p x y 1=v at *
  generalize lT w h p (x+0) (y+(-2))=b at *
  (repeat' with_reducible first|intro _|refine rz ?_|refine ra ?_ ?_|omega|simp only [go_sem,Int.cast_ofNat_Int])
  refine ah.k k1 ?_
  cases b with
  | true=>
   have hF:aZ w h p x y 2=2*v+1:=hF
   (repeat' with_reducible first|intro _|refine rz ?_|refine ra ?_ ?_|omega|simp only [go_sem,Int.cast_ofNat_Int])
   refine ⟨2,aK.ak rfl ?_ ?_,by omega,by omega⟩<;>simp only [go_sem,Int.natCast_succ,hF,Int.cast_ofNat_Int]
   all_goals omega
  | false=>
   have hF:aZ w h p x y 2=2*v:=hF
   (repeat' with_reducible first|intro _|refine rz ?_|refine ra ?_ ?_|omega|simp only [go_sem,Int.cast_ofNat_Int])
   refine ⟨2,aK.ak rfl ?_ ?_,by omega,by omega⟩<;>simp only [go_sem,Int.natCast_succ,hF,Int.cast_ofNat_Int]
   all_goals omega
 ·have h0:=hb 2 (by decide)
  have hF:aZ w h p x y 3=2*aZ w h p x y 2+kV (lT w h p (x+1) (y+(-2))):=rfl
  have k1:=ka (x+1) (y+(-2))
  generalize aZ w h p x y 2=v at *
  generalize lT w h p (x+1) (y+(-2))=b at *
  (repeat' with_reducible first|intro _|refine rz ?_|refine ra ?_ ?_|omega|simp only [go_sem,Int.cast_ofNat_Int])
  refine ah.k k1 ?_
  cases b with
  | true=>
   have hF:aZ w h p x y 3=2*v+1:=hF
   (repeat' with_reducible first|intro _|refine rz ?_|refine ra ?_ ?_|omega|simp only [go_sem,Int.cast_ofNat_Int])
   refine ⟨3,aK.ak rfl ?_ ?_,by omega,by omega⟩<;>simp only [go_sem,Int.natCast_succ,hF,Int.cast_ofNat_Int]
   all_goals omega
  | false=>
   have hF:aZ w h p x y 3=2*v:=hF
   (repeat' with_reducible first|intro _|refine rz ?_|refine ra ?_ ?_|omega|simp only [go_sem,Int.cast_ofNat_Int])
   refine ⟨3,aK.ak rfl ?_ ?_,by omega,by omega⟩<;>simp only [go_sem,Int.natCast_succ,hF,Int.cast_ofNat_Int]
   all_goals omega
 ·have h0:=hb 3 (by decide)
  have hF:aZ w h p x y 4=2*aZ w h p x y 3+kV (lT w h p (x+(-2)) (y+(-1))):=rfl
  have k1:=ka (x+(-2)) (y+(-1))
  generalize aZ w h p x y 3=v at *
  generalize lT w h p (x+(-2)) (y+(-1))=b at *
  (repeat' with_reducible first|intro _|refine rz ?_|refine ra ?_ ?_|omega|simp only [go_sem,Int.cast_ofNat_Int])
  refine ah.k k1 ?_
  cases b with
  | true=>
   have hF:aZ w h p x y 4=2*v+1:=hF
   (repeat' with_reducible first|intro _|refine rz ?_|refine ra ?_ ?_|omega|simp only [go_sem,Int.cast_ofNat_Int])
   refine ⟨4,aK.ak rfl ?_ ?_,by omega,by omega⟩<;>simp only [go_sem,Int.natCast_succ,hF,Int.cast_ofNat_Int]
   all_goals omega
  | false=>
   have hF:aZ w h p x y 4=2*v:=hF
   (repeat' with_reducible first|intro _|refine rz ?_|refine ra ?_ ?_|omega|simp only [go_sem,Int.cast_ofNat_Int])
   refine ⟨4,aK.ak rfl ?_ ?_,by omega,by omega⟩<;>simp only [go_sem,Int.natCast_succ,hF,Int.cast_ofNat_Int]
   all_goals omega
 ·have h0:=hb 4 (by decide)
  have hF:aZ w h p x y 5=2*aZ w h p x y 4+kV (lT w h p (x+(-1)) (y+(-1))):=rfl
  have k1:=ka (x+(-1)) (y+(-1))
  generalize aZ w h p x y 4=v at *
  generalize lT w h p (x+(-1)) (y+(-1))=b at *
  (repeat' with_reducible first|intro _|refine rz ?_|refine ra ?_ ?_|omega|simp only [go_sem,Int.cast_ofNat_Int])
  refine ah.k k1 ?_
  cases b with
  | true=>
   have hF:aZ w h p x y 5=2*v+1:=hF
   (repeat' with_reducible first|intro _|refine rz ?_|refine ra ?_ ?_|omega|simp only [go_sem,Int.cast_ofNat_Int])
   refine ⟨5,aK.ak rfl ?_ ?_,by omega,by omega⟩<;>simp only [go_sem,Int.natCast_succ,hF,Int.cast_ofNat_Int]
   all_goals omega
  | false=>
   have hF:aZ w h p x y 5=2*v:=hF
   (repeat' with_reducible first|intro _|refine rz ?_|refine ra ?_ ?_|omega|simp only [go_sem,Int.cast_ofNat_Int])
   refine ⟨5,aK.ak rfl ?_ ?_,by omega,by omega⟩<;>simp only [go_sem,Int.natCast_succ,hF,Int.cast_ofNat_Int]
   all_goals omega
 ·have h0:=hb 5 (by decide)
  have hF:aZ w h p x y 6=2*aZ w h p x y 5+kV (lT w h p (x+0) (y+(-1))):=rfl
  have k1:=ka (x+0) (y+(-1))
  generalize aZ w h p x y 5=v at *
  generalize lT w h p (x+0) (y+(-1))=b at *
  (repeat' with_reducible first|intro _|refine rz ?_|refine ra ?_ ?_|omega|simp only [go_sem,Int.cast_ofNat_Int])
  refine ah.k k1 ?_
  cases b with
  | true=>
   have hF:aZ w h p x y 6=2*v+1:=hF
   (repeat' with_reducible first|intro _|refine rz ?_|refine ra ?_ ?_|omega|simp only [go_sem,Int.cast_ofNat_Int])
   refine ⟨6,aK.ak rfl ?_ ?_,by omega,by omega⟩<;>simp only [go_sem,Int.natCast_succ,hF,Int.cast_ofNat_Int]
   all_goals omega
  | false=>
   have hF:aZ w h p x y 6=2*v:=hF
   (repeat' with_reducible first|intro _|refine rz ?_|refine ra ?_ ?_|omega|simp only [go_sem,Int.cast_ofNat_Int])
   refine ⟨6,aK.ak rfl ?_ ?_,by omega,by omega⟩<;>simp only [go_sem,Int.natCast_succ,hF,Int.cast_ofNat_Int]
   all_goals omega
 ·have h0:=hb 6 (by decide)
  have hF:aZ w h p x y 7=2*aZ w h p x y 6+kV (lT w h p (x+1) (y+(-1))):=rfl
  have k1:=ka (x+1) (y+(-1))
  generalize aZ w h p x y 6=v at *
  generalize lT w h p (x+1) (y+(-1))=b at *
  (repeat' with_reducible first|intro _|refine rz ?_|refine ra ?_ ?_|omega|simp only [go_sem,Int.cast_ofNat_Int])
  refine ah.k k1 ?_
  cases b with
  | true=>
   have hF:aZ w h p x y 7=2*v+1:=hF
   (repeat' with_reducible first|intro _|refine rz ?_|refine ra ?_ ?_|omega|simp only [go_sem,Int.cast_ofNat_Int])
   refine ⟨7,aK.ak rfl ?_ ?_,by omega,by omega⟩<;>simp only [go_sem,Int.natCast_succ,hF,Int.cast_ofNat_Int]
   all_goals omega
  | false=>
   have hF:aZ w h p x y 7=2*v:=hF
   (repeat' with_reducible first|intro _|refine rz ?_|refine ra ?_ ?_|omega|simp only [go_sem,Int.cast_ofNat_Int])
   refine ⟨7,aK.ak rfl ?_ ?_,by omega,by omega⟩<;>simp only [go_sem,Int.natCast_succ,hF,Int.cast_ofNat_Int]
   all_goals omega
 ·have h0:=hb 7 (by decide)
  have hF:aZ w h p x y 8=2*aZ w h p x y 7+kV (lT w h p (x+2) (y+(-1))):=rfl
  have k1:=ka (x+2) (y+(-1))
  generalize aZ w h p x y 7=v at *
  generalize lT w h p (x+2) (y+(-1))=b at *
  (repeat' with_reducible first|intro _|refine rz ?_|refine ra ?_ ?_|omega|simp only [go_sem,Int.cast_ofNat_Int])
  refine ah.k k1 ?_
  cases b with
  | true=>
   have hF:aZ w h p x y 8=2*v+1:=hF
   (repeat' with_reducible first|intro _|refine rz ?_|refine ra ?_ ?_|omega|simp only [go_sem,Int.cast_ofNat_Int])
   refine ⟨8,aK.ak rfl ?_ ?_,by omega,by omega⟩<;>simp only [go_sem,Int.natCast_succ,hF,Int.cast_ofNat_Int]
   all_goals omega
  | false=>
   have hF:aZ w h p x y 8=2*v:=hF
   (repeat' with_reducible first|intro _|refine rz ?_|refine ra ?_ ?_|omega|simp only [go_sem,Int.cast_ofNat_Int])
   refine ⟨8,aK.ak rfl ?_ ?_,by omega,by omega⟩<;>simp only [go_sem,Int.natCast_succ,hF,Int.cast_ofNat_Int]
   all_goals omega
 ·have h0:=hb 8 (by decide)
  have hF:aZ w h p x y 9=2*aZ w h p x y 8+kV (lT w h p (x+(-2)) (y+0)):=rfl
  have k1:=ka (x+(-2)) (y+0)
  generalize aZ w h p x y 8=v at *
  generalize lT w h p (x+(-2)) (y+0)=b at *
  (repeat' with_reducible first|intro _|refine rz ?_|refine ra ?_ ?_|omega|simp only [go_sem,Int.cast_ofNat_Int])
  refine ah.k k1 ?_
  cases b with
  | true=>
   have hF:aZ w h p x y 9=2*v+1:=hF
   (repeat' with_reducible first|intro _|refine rz ?_|refine ra ?_ ?_|omega|simp only [go_sem,Int.cast_ofNat_Int])
   refine ⟨9,aK.ak rfl ?_ ?_,by omega,by omega⟩<;>simp only [go_sem,Int.natCast_succ,hF,Int.cast_ofNat_Int]
   all_goals omega
  | false=>
   have hF:aZ w h p x y 9=2*v:=hF
   (repeat' with_reducible first|intro _|refine rz ?_|refine ra ?_ ?_|omega|simp only [go_sem,Int.cast_ofNat_Int])
   refine ⟨9,aK.ak rfl ?_ ?_,by omega,by omega⟩<;>simp only [go_sem,Int.natCast_succ,hF,Int.cast_ofNat_Int]
   all_goals omega
 ·have h0:=hb 9 (by decide)
  have hF:aZ w h p x y 10=2*aZ w h p x y 9+kV (lT w h p (x+(-1)) (y+0)):=rfl
  have k1:=ka (x+(-1)) (y+0)
  generalize aZ w h p x y 9=v at *
  generalize lT w h p (x+(-1)) (y+0)=b at *
  (repeat' with_reducible first|intro _|refine rz ?_|refine ra ?_ ?_|omega|simp only [go_sem,Int.cast_ofNat_Int])
  refine ah.k k1 ?_
  cases b with
  | true=>
   have hF:aZ w h p x y 10=2*v+1:=hF
   (repeat' with_reducible first|intro _|refine rz ?_|refine ra ?_ ?_|omega|simp only [go_sem,Int.cast_ofNat_Int])
   refine ⟨10,aK.ak rfl ?_ ?_,by omega,by omega⟩<;>simp only [go_sem,Int.natCast_succ,hF,Int.cast_ofNat_Int]
   all_goals omega
  | false=>
   have hF:aZ w h p x y 10=2*v:=hF
   (repeat' with_reducible first|intro _|refine rz ?_|refine ra ?_ ?_|omega|simp only [go_sem,Int.cast_ofNat_Int])
   refine ⟨10,aK.ak rfl ?_ ?_,by omega,by omega⟩<;>simp only [go_sem,Int.natCast_succ,hF,Int.cast_ofNat_Int]
   all_goals omega
 ·(repeat' with_reducible first|intro _|refine rz ?_|refine ra ?_ ?_|omega|simp only [go_sem,Int.cast_ofNat_Int])
  refine aT.auto 0 ?_ rfl ?_<;>simp only [go_sem,Int.natCast_succ,Post]
set_option maxHeartbeats 8000000 in
theorem yc (w h:Nat) (hw:w≤4000) (hh:h≤4000) (p:List Bool) (hp:p.length=w*h) (x y:Int) (hx:-1≤x∧x≤4000) (hy:-1≤y∧y≤4000) :
  aA Tryz.prog 21 [.agg [.int .i64 w,.int .i64 h,.ro (.bools p)],.int .i64 x,.int .i64 y] (.int .i64 (kJ w h p x y)) []:=by
 rw [←Lc]
 have hb:=QL w h p x y
 have ka:=Nq w h hw hh p hp
 simp only [←YD] at ka
 refine aA.aG Tryz.func21 rfl (by decide) (by simp [Tryz.f21]) [.tmp 6] rfl fun w0 T0 _=>?_
 simp only [Tryz.f21,au]
 (repeat' with_reducible first|intro _|exact dn|refine rn ?_|refine ra ?_ ?_)
 refine aF.intro (fun i:Nat=>⟨40,[(21,.int .i64 i),(20,.agg [.int .i64 (-1),.int .i64 (-2),.int .i64 0,.int .i64 (-2),.int .i64 1,.int .i64 (-2),.int .i64 (-2),.int .i64 (-1),.int .i64 (-1),.int .i64 (-1),.int .i64 0,.int .i64 (-1),.int .i64 1,.int .i64 (-1),.int .i64 2,.int .i64 (-1),.int .i64 (-2),.int .i64 0,.int .i64 (-1),.int .i64 0]),(7,.int .i64 (aZ w h p x y i)),(3,.ptr 0 0),(2,.int .i64 y),(1,.int .i64 x)],[(0,.box 24 [.int .i64 w,.int .i64 h,.ro (.bools p)])],1⟩) (fun i=>i≤10) (fun i=>10 - i) 0 ?_ (Nat.zero_le _) fun i hi=>?_
 ·refine aK.ak rfl ?_ ?_<;>simp only [go_sem,Int.natCast_succ]
  all_goals rfl
 have hi:i=0∨i=1∨i=2∨i=3∨i=4∨i=5∨i=6∨i=7∨i=8∨i=9∨i=10:=by omega
 rcases hi with rfl|rfl|rfl|rfl|rfl|rfl|rfl|rfl|rfl|rfl|rfl
 ·have h0:=hb 0 (by decide)
  have hF:aZ w h p x y 1=2*aZ w h p x y 0+kV (lT w h p (x+(-1)) (y+(-2))):=rfl
  have k1:=ka (x+(-1)) (y+(-2))
  generalize aZ w h p x y 0=v at *
  generalize lT w h p (x+(-1)) (y+(-2))=b at *
  (repeat' with_reducible first|intro _|refine rz ?_|refine ra ?_ ?_|omega|simp only [go_sem,Int.cast_ofNat_Int])
  refine ah.k k1 ?_
  cases b with
  | true=>
   have hF:aZ w h p x y 1=2*v+1:=hF
   (repeat' with_reducible first|intro _|refine rz ?_|refine ra ?_ ?_|omega|simp only [go_sem,Int.cast_ofNat_Int])
   refine ⟨1,aK.ak rfl ?_ ?_,by omega,by omega⟩<;>simp only [go_sem,Int.natCast_succ,hF,Int.cast_ofNat_Int]
   all_goals omega
  | false=>
   have hF:aZ w h p x y 1=2*v:=hF
   (repeat' with_reducible first|intro _|refine rz ?_|refine ra ?_ ?_|omega|simp only [go_sem,Int.cast_ofNat_Int])
   refine ⟨1,aK.ak rfl ?_ ?_,by omega,by omega⟩<;>simp only [go_sem,Int.natCast_succ,hF,Int.cast_ofNat_Int]
   all_goals omega
 ·have h0:=hb 1 (by decide)
  have hF:aZ w h p x y 2=2*aZ w h p x y 1+kV (lT w h p (x+0) (y+(-2))):=rfl
  have k1:=ka (x+0) (y+(-2))
  generalize aZ w h p x y 1=v at *
  generalize lT w h p (x+0) (y+(-2))=b at *
  (repeat' with_reducible first|intro _|refine rz ?_|refine ra ?_ ?_|omega|simp only [go_sem,Int.cast_ofNat_Int])
  refine ah.k k1 ?_
  cases b with
  | true=>
   have hF:aZ w h p x y 2=2*v+1:=hF
   (repeat' with_reducible first|intro _|refine rz ?_|refine ra ?_ ?_|omega|simp only [go_sem,Int.cast_ofNat_Int])
   refine ⟨2,aK.ak rfl ?_ ?_,by omega,by omega⟩<;>simp only [go_sem,Int.natCast_succ,hF,Int.cast_ofNat_Int]
   all_goals omega
  | false=>
   have hF:aZ w h p x y 2=2*v:=hF
   (repeat' with_reducible first|intro _|refine rz ?_|refine ra ?_ ?_|omega|simp only [go_sem,Int.cast_ofNat_Int])
   refine ⟨2,aK.ak rfl ?_ ?_,by omega,by omega⟩<;>simp only [go_sem,Int.natCast_succ,hF,Int.cast_ofNat_Int]
   all_goals omega
 ·have h0:=hb 2 (by decide)
  have hF:aZ w h p x y 3=2*aZ w h p x y 2+kV (lT w h p (x+1) (y+(-2))):=rfl
  have k1:=ka (x+1) (y+(-2))
  generalize aZ w h p x y 2=v at *
  generalize lT w h p (x+1) (y+(-2))=b at *
  (repeat' with_reducible first|intro _|refine rz ?_|refine ra ?_ ?_|omega|simp only [go_sem,Int.cast_ofNat_Int])
  refine ah.k k1 ?_
  cases b with
  | true=>
   have hF:aZ w h p x y 3=2*v+1:=hF
   (repeat' with_reducible first|intro _|refine rz ?_|refine ra ?_ ?_|omega|simp only [go_sem,Int.cast_ofNat_Int])
   refine ⟨3,aK.ak rfl ?_ ?_,by omega,by omega⟩<;>simp only [go_sem,Int.natCast_succ,hF,Int.cast_ofNat_Int]
   all_goals omega
  | false=>
   have hF:aZ w h p x y 3=2*v:=hF
   (repeat' with_reducible first|intro _|refine rz ?_|refine ra ?_ ?_|omega|simp only [go_sem,Int.cast_ofNat_Int])
   refine ⟨3,aK.ak rfl ?_ ?_,by omega,by omega⟩<;>simp only [go_sem,Int.natCast_succ,hF,Int.cast_ofNat_Int]
   all_goals omega
 ·have h0:=hb 3 (by decide)
  have hF:aZ w h p x y 4=2*aZ w h p x y 3+kV (lT w h p (x+(-2)) (y+(-1))):=rfl
  have k1:=ka (x+(-2)) (y+(-1))
  generalize aZ w h p x y 3=v at *
  generalize lT w h p (x+(-2)) (y+(-1))=b at *
  (repeat' with_reducible first|intro _|refine rz ?_|refine ra ?_ ?_|omega|simp only [go_sem,Int.cast_ofNat_Int])
  refine ah.k k1 ?_
  cases b with
  | true=>
   have hF:aZ w h p x y 4=2*v+1:=hF
   (repeat' with_reducible first|intro _|refine rz ?_|refine ra ?_ ?_|omega|simp only [go_sem,Int.cast_ofNat_Int])
   refine ⟨4,aK.ak rfl ?_ ?_,by omega,by omega⟩<;>simp only [go_sem,Int.natCast_succ,hF,Int.cast_ofNat_Int]
   all_goals omega
  | false=>
   have hF:aZ w h p x y 4=2*v:=hF
   (repeat' with_reducible first|intro _|refine rz ?_|refine ra ?_ ?_|omega|simp only [go_sem,Int.cast_ofNat_Int])
   refine ⟨4,aK.ak rfl ?_ ?_,by omega,by omega⟩<;>simp only [go_sem,Int.natCast_succ,hF,Int.cast_ofNat_Int]
   all_goals omega
 ·have h0:=hb 4 (by decide)
  have hF:aZ w h p x y 5=2*aZ w h p x y 4+kV (lT w h p (x+(-1)) (y+(-1))):=rfl
  have k1:=ka (x+(-1)) (y+(-1))
  generalize aZ w h p x y 4=v at *
  generalize lT w h p (x+(-1)) (y+(-1))=b at *
  (repeat' with_reducible first|intro _|refine rz ?_|refine ra ?_ ?_|omega|simp only [go_sem,Int.cast_ofNat_Int])
  refine ah.k k1 ?_
  cases b with
  | true=>
   have hF:aZ w h p x y 5=2*v+1:=hF
   (repeat' with_reducible first|intro _|refine rz ?_|refine ra ?_ ?_|omega|simp only [go_sem,Int.cast_ofNat_Int])
   refine ⟨5,aK.ak rfl ?_ ?_,by omega,by omega⟩<;>simp only [go_sem,Int.natCast_succ,hF,Int.cast_ofNat_Int]
   all_goals omega
  | false=>
   have hF:aZ w h p x y 5=2*v:=hF
   (repeat' with_reducible first|intro _|refine rz ?_|refine ra ?_ ?_|omega|simp only [go_sem,Int.cast_ofNat_Int])
   refine ⟨5,aK.ak rfl ?_ ?_,by omega,by omega⟩<;>simp only [go_sem,Int.natCast_succ,hF,Int.cast_ofNat_Int]
   all_goals omega
 ·have h0:=hb 5 (by decide)
  have hF:aZ w h p x y 6=2*aZ w h p x y 5+kV (lT w h p (x+0) (y+(-1))):=rfl
  have k1:=ka (x+0) (y+(-1))
  generalize aZ w h p x y 5=v at *
  generalize lT w h p (x+0) (y+(-1))=b at *
  (repeat' with_reducible first|intro _|refine rz ?_|refine ra ?_ ?_|omega|simp only [go_sem,Int.cast_ofNat_Int])
  refine ah.k k1 ?_
  cases b with
  | true=>
   have hF:aZ w h p x y 6=2*v+1:=hF
   (repeat' with_reducible first|intro _|refine rz ?_|refine ra ?_ ?_|omega|simp only [go_sem,Int.cast_ofNat_Int])
   refine ⟨6,aK.ak rfl ?_ ?_,by omega,by omega⟩<;>simp only [go_sem,Int.natCast_succ,hF,Int.cast_ofNat_Int]
   all_goals omega
  | false=>
   have hF:aZ w h p x y 6=2*v:=hF
   (repeat' with_reducible first|intro _|refine rz ?_|refine ra ?_ ?_|omega|simp only [go_sem,Int.cast_ofNat_Int])
   refine ⟨6,aK.ak rfl ?_ ?_,by omega,by omega⟩<;>simp only [go_sem,Int.natCast_succ,hF,Int.cast_ofNat_Int]
   all_goals omega
 ·have h0:=hb 6 (by decide)
  have hF:aZ w h p x y 7=2*aZ w h p x y 6+kV (lT w h p (x+1) (y+(-1))):=rfl
  have k1:=ka (x+1) (y+(-1))
  generalize aZ w h p x y 6=v at *
  generalize lT w h p (x+1) (y+(-1))=b at *
  (repeat' with_reducible first|intro _|refine rz ?_|refine ra ?_ ?_|omega|simp only [go_sem,Int.cast_ofNat_Int])
  refine ah.k k1 ?_
  cases b with
  | true=>
   have hF:aZ w h p x y 7=2*v+1:=hF
   (repeat' with_reducible first|intro _|refine rz ?_|refine ra ?_ ?_|omega|simp only [go_sem,Int.cast_ofNat_Int])
   refine ⟨7,aK.ak rfl ?_ ?_,by omega,by omega⟩<;>simp only [go_sem,Int.natCast_succ,hF,Int.cast_ofNat_Int]
   all_goals omega
  | false=>
   have hF:aZ w h p x y 7=2*v:=hF
   (repeat' with_reducible first|intro _|refine rz ?_|refine ra ?_ ?_|omega|simp only [go_sem,Int.cast_ofNat_Int])
   refine ⟨7,aK.ak rfl ?_ ?_,by omega,by omega⟩<;>simp only [go_sem,Int.natCast_succ,hF,Int.cast_ofNat_Int]
   all_goals omega
 ·have h0:=hb 7 (by decide)
  have hF:aZ w h p x y 8=2*aZ w h p x y 7+kV (lT w h p (x+2) (y+(-1))):=rfl
  have k1:=ka (x+2) (y+(-1))
  generalize aZ w h p x y 7=v at *
  generalize lT w h p (x+2) (y+(-1))=b at *
  (repeat' with_reducible first|intro _|refine rz ?_|refine ra ?_ ?_|omega|simp only [go_sem,Int.cast_ofNat_Int])
  refine ah.k k1 ?_
  cases b with
  | true=>
   have hF:aZ w h p x y 8=2*v+1:=hF
   (repeat' with_reducible first|intro _|refine rz ?_|refine ra ?_ ?_|omega|simp only [go_sem,Int.cast_ofNat_Int])
   refine ⟨8,aK.ak rfl ?_ ?_,by omega,by omega⟩<;>simp only [go_sem,Int.natCast_succ,hF,Int.cast_ofNat_Int]
   all_goals omega
  | false=>
   have hF:aZ w h p x y 8=2*v:=hF
   (repeat' with_reducible first|intro _|refine rz ?_|refine ra ?_ ?_|omega|simp only [go_sem,Int.cast_ofNat_Int])
   refine ⟨8,aK.ak rfl ?_ ?_,by omega,by omega⟩<;>simp only [go_sem,Int.natCast_succ,hF,Int.cast_ofNat_Int]
   all_goals omega
 ·have h0:=hb 8 (by decide)
  have hF:aZ w h p x y 9=2*aZ w h p x y 8+kV (lT w h p (x+(-2)) (y+0)):=rfl
  have k1:=ka (x+(-2)) (y+0)
  generalize aZ w h p x y 8=v at *
  generalize lT w h p (x+(-2)) (y+0)=b at *
  (repeat' with_reducible first|intro _|refine rz ?_|refine ra ?_ ?_|omega|simp only [go_sem,Int.cast_ofNat_Int])
  refine ah.k k1 ?_
  cases b with
  | true=>
   have hF:aZ w h p x y 9=2*v+1:=hF
   (repeat' with_reducible first|intro _|refine rz ?_|refine ra ?_ ?_|omega|simp only [go_sem,Int.cast_ofNat_Int])
   refine ⟨9,aK.ak rfl ?_ ?_,by omega,by omega⟩<;>simp only [go_sem,Int.natCast_succ,hF,Int.cast_ofNat_Int]
   all_goals omega
  | false=>
   have hF:aZ w h p x y 9=2*v:=hF
   (repeat' with_reducible first|intro _|refine rz ?_|refine ra ?_ ?_|omega|simp only [go_sem,Int.cast_ofNat_Int])
   refine ⟨9,aK.ak rfl ?_ ?_,by omega,by omega⟩<;>simp only [go_sem,Int.natCast_succ,hF,Int.cast_ofNat_Int]
   all_goals omega
 ·have h0:=hb 9 (by decide)
  have hF:aZ w h p x y 10=2*aZ w h p x y 9+kV (lT w h p (x+(-1)) (y+0)):=rfl
  have k1:=ka (x+(-1)) (y+0)
  generalize aZ w h p x y 9=v at *
  generalize lT w h p (x+(-1)) (y+0)=b at *
  (repeat' with_reducible first|intro _|refine rz ?_|refine ra ?_ ?_|omega|simp only [go_sem,Int.cast_ofNat_Int])
  refine ah.k k1 ?_
  cases b with
  | true=>
   have hF:aZ w h p x y 10=2*v+1:=hF
   (repeat' with_reducible first|intro _|refine rz ?_|refine ra ?_ ?_|omega|simp only [go_sem,Int.cast_ofNat_Int])
   refine ⟨10,aK.ak rfl ?_ ?_,by omega,by omega⟩<;>simp only [go_sem,Int.natCast_succ,hF,Int.cast_ofNat_Int]
   all_goals omega
  | false=>
   have hF:aZ w h p x y 10=2*v:=hF
   (repeat' with_reducible first|intro _|refine rz ?_|refine ra ?_ ?_|omega|simp only [go_sem,Int.cast_ofNat_Int])
   refine ⟨10,aK.ak rfl ?_ ?_,by omega,by omega⟩<;>simp only [go_sem,Int.natCast_succ,hF,Int.cast_ofNat_Int]
   all_goals omega
 ·(repeat' with_reducible first|intro _|refine rz ?_|refine ra ?_ ?_|omega|simp only [go_sem,Int.cast_ofNat_Int])
  refine aT.auto 0 ?_ rfl ?_<;>simp only [go_sem,Int.natCast_succ,Post]
end Go.Fv.H
