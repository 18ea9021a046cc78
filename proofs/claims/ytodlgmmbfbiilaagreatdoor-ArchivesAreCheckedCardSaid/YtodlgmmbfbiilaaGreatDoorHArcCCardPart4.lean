/-
  A part of the proof of the claim: walks over the program's functions and the plain laws that these need. No condition of its own.
-/
import Derived.Test.YtodlgmmbfbiilaaGreatDoorHArcCCardPart3
import Derived.Test.YtodlgmmbfbiilaaGreatDoorHArcCCardPart1
import Derived.Test.YtodlgmmbfbiilaaGreatDoorFvPart10
set_option linter.unusedSimpArgs false
set_option linter.unusedVariables false
set_option linter.unnecessarySimpa false
set_option maxRecDepth 8000
/- Pages out of data, in plain words: what is written is read. -/
namespace Go.Fv.H
open Go
theorem Dj {s:Bytes} {n l:Nat} (h:pG s=some (n,l)):1≤l∧n≤1048576:=by
 unfold pG at h
 split at h
 ·rename_i hc;cases h;exact ⟨by omega,hc.2.2.2⟩
 ·cases h
def fK (w n:Nat) (ink:Bool) (s:Bytes):List Bool × Option Bytes:=
 if n<w then
  match h:pG s with
  | none=>([],none)
  | some (m,l)=>if w - n<m - 1 then ([],none) else (List.replicate (m - 1) ink++(fK w (n+(m - 1)) (!ink) (s.drop l)).1,(fK w (n+(m - 1)) (!ink) (s.drop l)).2)
 else ([],some s)
termination_by s.length
decreasing_by
 all_goals
  have h2:=kU h
  have h3:=Dj h
  rw [List.length_drop];omega
def jO (f:Bytes→List Bool × Bool) (q:List Bool × Option Bytes):List Bool × Bool:=
 match q.2 with
 | none=>(q.1,false)
 | some t=>(q.1++(f t).1,(f t).2)
def dR (w:Nat):Nat→Bytes→List Bool × Bool
 | 0,_=>([],true)
 | h+1,s=>jO (dR w h) (fK w 0 false s)
def dw:Nat→List Bool→Bytes→List Bool × Bool
 | 0,_,_=>([],true)
 | h+1,ab,s=>
  match dX true ab s with
  | none=>([],false)
  | some (r,n)=>(r++(dw h r (s.drop n)).1,(dw h r (s.drop n)).2)
def oU (s:Bytes):List Bool:=s.map fun c=>decide (c=49)
def kT (n:Nat) (s:Bytes):List Bool × Bool:=if s.length<n then ([],false) else (oU (s.take n),true)
def ni (kind:Int) (w h:Nat) (d:Bytes):List Bool × Bool:=
 if kind=4 then ((dN w h d (w*h) (w*h)).P,true) else if kind=1 then kT (w*h) (iE d) else if kind=2 then dR w h (iE d) else dw h (List.replicate w false) (iE d)
theorem Z4 (s:Bytes) (j:Nat) {t:Nat} (ht:t<8):pk s j / 2 ^ (7 - t)%2=bt s (8*j+t):=by
 have h0:=bt_le s (8*j)
 have h1:=bt_le s (8*j+1)
 have h2:=bt_le s (8*j+2)
 have h3:=bt_le s (8*j+3)
 have h4:=bt_le s (8*j+4)
 have h5:=bt_le s (8*j+5)
 have h6:=bt_le s (8*j+6)
 have h7:=bt_le s (8*j+7)
 have hc:t=0∨t=1∨t=2∨t=3∨t=4∨t=5∨t=6∨t=7:=by omega
 unfold pk
 rcases hc with rfl|rfl|rfl|rfl|rfl|rfl|rfl|rfl
 all_goals simp only [Nat.add_zero,Nat.reduceSub,Nat.reducePow,Nat.sub_self,Nat.sub_zero]
 all_goals omega
theorem Kt {s:Bytes} (h1:s.all gI=true):∃ z,iE (jJ s)=s++List.replicate z 48:=by
 refine ⟨8*((s.length+7) / 8) - s.length,?_⟩
 have hpl:(jJ s).length=(s.length+7) / 8:=yZ _ _
 apply List.ext_getElem?
 intro i
 unfold iE
 rw [List.getElem?_map,hpl]
 by_cases hi:i<8*((s.length+7) / 8)
 ·rw [List.getElem?_range hi]
  have hj:i / 8<(s.length+7) / 8:=by omega
  have e1:((jJ s).getD (i / 8) 0).toNat=pk s (i / 8):=WJ s hj
  rw [Option.map_some,e1,Z4 s (i / 8) (Nat.mod_lt _ (by decide)),show 8*(i / 8)+i%8=i by omega]
  by_cases hs:i<s.length
  ·rw [List.getElem?_append_left hs]
   have ha:s.getD i 0=48∨s.getD i 0=49:=by
    have:=(List.all_eq_true.1 h1) (s.getD i 0) (by rw [getD_lt hs];exact List.getElem_mem hs)
    simpa [gI] using this
   have e:s[i]?=some (s.getD i 0):=by rw [getD_lt hs,List.getElem?_eq_getElem hs]
   rw [e]
   unfold bt
   rcases ha with ha|ha<;>rw [ha]<;>rfl
  ·rw [List.getElem?_append_right (by omega),List.getElem?_replicate,if_pos (by omega)]
   have e:s.getD i 0=0:=by rw [List.getD_eq_getElem?_getD,List.getElem?_eq_none (by omega)];rfl
   unfold bt
   rw [e];rfl
 ·rw [List.getElem?_eq_none (by simp;omega),List.getElem?_eq_none (by rw [List.length_append,List.length_replicate];omega)];rfl
theorem Ns (p:List Bool) (t:Bytes):kT p.length (fZ p++t)=(p,true):=by
 unfold kT
 have hl:(fZ p).length=p.length:=jT p
 rw [if_neg (by rw [List.length_append];omega),←hl,List.take_left]
 congr 1
 unfold oU fZ
 rw [List.map_map]
 conv=>rhs;rw [←List.map_id p]
 apply List.map_congr_left
 intro b _
 cases b<;>rfl
theorem vJ {w n:Nat} (h:¬n<w) (ink:Bool) (s:Bytes):fK w n ink s=([],some s):=by rw [fK,if_neg h]
theorem xA {w n:Nat} (h:n<w) (ink:Bool) {s:Bytes} (hs:pG s=none):fK w n ink s=([],none):=by
 rw [fK,if_pos h]
 split
 ·rfl
 ·rename_i h2;rw [hs] at h2;cases h2
theorem xB {w n m l:Nat} (h:n<w) (ink:Bool) {s:Bytes} (hs:pG s=some (m,l)) (hm:w - n<m - 1):fK w n ink s=([],none):=by
 rw [fK,if_pos h]
 split
 ·rfl
 ·rename_i h2;rw [hs] at h2;cases h2;rw [if_pos hm]
theorem rX {w n m l:Nat} (h:n<w) (ink:Bool) {s:Bytes} (hs:pG s=some (m,l)) (hm:¬w - n<m - 1) :
  fK w n ink s=(List.replicate (m - 1) ink++(fK w (n+(m - 1)) (!ink) (s.drop l)).1,(fK w (n+(m - 1)) (!ink) (s.drop l)).2):=by
 conv=>lhs;rw [fK]
 rw [if_pos h]
 split
 ·rename_i h2;rw [hs] at h2;cases h2
 ·rename_i h2;rw [hs] at h2;cases h2;rw [if_neg hm]
def Gv:Bool→List Int→List Bool
 | _,[]=>[]
 | ink,n::l=>List.replicate n.toNat ink++Gv (!ink) l
def uJ (l:List Int):Int:=l.foldr (·+·) 0
theorem YV {l:List Int} (h:∀ y,y∈l→1≤y):(l.length:Int)≤uJ l:=by
 induction l with
 | nil=>exact Int.le_refl _
 | cons x l ih=>
  have h1:=ih fun y hy=>h y (.tail _ hy)
  have h2:=h x (.head _)
  show ((l.length+1:Nat):Int)≤x+uJ l
  omega
theorem Fz (w:Nat) (hw:w≤4000) (t:Bytes):∀ (l:List Int) (n:Nat) (ink:Bool),(∀ x,x∈l→0≤x)→(∀ y,y∈l.drop 1→1≤y)→(l≠[]→1≤uJ l)→(n:Int)+uJ l=w →
  fK w n ink (dM l++t)=(Gv ink l,some t)
 | [],n,ink,_,_,_,hs=>by
  have:n=w:=by have:(n:Int)+0=w:=hs;omega
  rw [vJ (by omega)];rfl
 | x::l,n,ink,h0,h1,hp,hs=>by
  have hx:=h0 x (.head _)
  have hp2:1≤uJ (x::l):=hp (by simp)
  have e:uJ (x::l)=x+uJ l:=rfl
  have hl1:∀ y,y∈l→1≤y:=fun y hy=>h1 y hy
  have hsl:=YV hl1
  have hn:n<w:=by omega
  have hg:pG (dM (x::l)++t)=some ((x+1).toNat,(dV (x+1).toNat).length):=by
   show pG (dV (x+1).toNat++dM l++t)=_
   rw [List.append_assoc]
   exact JK (by omega) (by omega) _
  have hd:(dM (x::l)++t).drop (dV (x+1).toNat).length=dM l++t:=by
   show (dV (x+1).toNat++dM l++t).drop _=_
   rw [List.append_assoc,List.drop_left]
  have e2:(x+1).toNat - 1=x.toNat:=by omega
  rw [rX hn ink hg (by omega),hd,e2]
  have ih:=Fz w hw t l (n+x.toNat) (!ink) (fun y hy=>by have:=hl1 y hy;omega) (fun y hy=>hl1 y (List.mem_of_mem_drop hy)) (fun hne=>by
   have:0<l.length:=List.length_pos_iff.2 hne
   omega) (by omega)
  rw [ih];rfl
theorem yF:∀ (l:List Int) (ink:Bool) (x:Int),Gv ink (l++[x])=Gv ink l++List.replicate x.toNat (xor ink (decide (l.length%2=1)))
 | [],ink,x=>by cases ink<;>simp [Gv]
 | y::l,ink,x=>by
  show List.replicate y.toNat ink++Gv (!ink) (l++[x])=List.replicate y.toNat ink++Gv (!ink) l++_
  rw [yF l (!ink) x,List.append_assoc]
  congr 3
  have e:(y::l).length=l.length+1:=rfl
  rw [e]
  by_cases h:l.length%2=1
  ·rw [decide_eq_true h,decide_eq_false (by omega)];cases ink<;>rfl
  ·rw [decide_eq_false h,decide_eq_true (by omega)];cases ink<;>rfl
theorem zh (l:List Int) (x:Int):uJ (l++[x])=uJ l+x:=by
 induction l with
 | nil=>show x+0=0+x;omega
 | cons y l ih=>show y+uJ (l++[x])=y+uJ l+x;rw [ih];omega
structure Y4 (row:List Bool) (i:Nat) (l0:List Int) (x:Int) (ink:Bool):Prop where
 ink:ink=decide (l0.length%2=1)
 ex:Gv false (l0++[x])=row.take i
 x1:1≤x
 nn:∀ y,y∈l0→0≤y
 pos:∀ y,y∈l0.drop 1→1≤y
 sum:uJ l0+x=i
theorem take_snoc {row:List Bool} {i:Nat} (h:i<row.length):row.take (i+1)=row.take i++[row.getD i false]:=by
 rw [List.take_succ_eq_append_getElem h,getD_lt h]
theorem Oa (l0:List Int) (x y:Int):(l0++[x]).set ((l0++[x]).length - 1) y=l0++[y]:=by
 have e:(l0++[x]).length - 1=l0.length:=by simp
 rw [e,List.set_append_right _ _ (Nat.le_refl _),Nat.sub_self];rfl
theorem Ia (l0:List Int) (x:Int):(l0++[x]).getD ((l0++[x]).length - 1) 0=x:=by
 have e:(l0++[x]).length - 1=l0.length:=by simp
 rw [e,List.getD_eq_getElem?_getD,List.getElem?_append_right (Nat.le_refl _),Nat.sub_self];rfl
theorem vP {row:List Bool} {i:Nat} (h:i<row.length) {l0:List Int} {x:Int} {p ink:Bool} (hp:row.getD i false=p) (hi:ink=decide (l0.length%2=1)) (hx:0≤x) (hpi:p=ink)
  (he:Gv false (l0++[x])=row.take i) (nn:∀ y,y∈l0→0≤y) (pos:∀ y,y∈l0.drop 1→1≤y) (hs:uJ l0+x=i):Y4 row (i+1) l0 (x+1) p:=by
 refine ⟨by rw [hpi,hi],?_,by omega,nn,pos,by omega⟩
 rw [take_snoc h,←he,yF,yF,List.append_assoc,hp,hpi,hi]
 congr 1
 have e:(x+1).toNat=x.toNat+1:=by omega
 rw [e,List.replicate_succ',Bool.false_xor]
theorem Aw (row:List Bool):∀ i,i<row.length→∃ l0 x,(bD row (i+1)).1=l0++[x]∧Y4 row (i+1) l0 x (bD row (i+1)).2
 | 0,h=>by
  have e:bD row 1=jA [] false 0 (row.getD 0 false):=rfl
  rw [e]
  cases hp:row.getD 0 false with
  | false=>
   refine ⟨[],1,rfl,?_⟩
   exact vP (ink:=false) h hp rfl (Int.le_refl 0) rfl (by rfl) (by simp) (by simp) (by rfl)
  | true=>
   refine ⟨[0],1,rfl,?_⟩
   exact vP (ink:=true) h hp rfl (Int.le_refl 0) rfl (by rfl) (by simp) (by simp) (by rfl)
 | i+1,h=>by
  obtain ⟨l0,x,h1,h2⟩:=Aw row i (by omega)
  have e:bD row (i+1+1)=jA (bD row (i+1)).1 (bD row (i+1)).2 (i+1) (row.getD (i+1) false):=rfl
  rw [e,h1]
  generalize (bD row (i+1)).2=ink at h2 ⊢
  cases hp:row.getD (i+1) false with
  | _=>
   unfold jA
   simp only [if_neg (show ¬(i+1=0) by omega)]
   split
   ·rename_i hq
    refine ⟨l0,x+1,?_,?_⟩
    ·rw [Ia,Oa]
    ·exact vP (ink:=ink) h hp h2.ink (by have:=h2.x1;omega) hq h2.ex h2.nn h2.pos h2.sum
   ·rename_i hq
    refine ⟨l0++[x],0+1,?_,?_⟩
    ·rw [Ia,Oa]
    ·have hlen:(l0++[x]).length=l0.length+1:=by simp
     have hx:=h2.x1
     refine vP (ink:=!ink) h hp ?_ (Int.le_refl 0) ?_ ?_ (fun y hy=>?_) (fun y hy=>?_) ?_
     ·rw [hlen,h2.ink]
      by_cases hq:l0.length%2=1
      ·rw [decide_eq_true hq,decide_eq_false (by omega)];rfl
      ·rw [decide_eq_false hq,decide_eq_true (by omega)];rfl
     ·revert hq;cases ink<;>simp
     ·rw [yF,h2.ex];simp
     ·rcases List.mem_append.1 hy with hy|hy
      ·exact h2.nn y hy
      ·rw [List.mem_singleton.1 hy];omega
     ·rw [List.drop_append] at hy
      rcases List.mem_append.1 hy with hy|hy
      ·exact h2.pos y hy
      ·have:=List.mem_of_mem_drop hy
       rw [List.mem_singleton.1 this];omega
     ·rw [zh];have:=h2.sum;omega
theorem UD {r:List Bool} (h0:0<r.length) (hw:r.length≤4000) (t:Bytes):fK r.length 0 false (dM (iY r)++t)=(r,some t):=by
 obtain ⟨l0,x,h1,h2⟩:=Aw r (r.length - 1) (by omega)
 have e:r.length - 1+1=r.length:=by omega
 rw [e] at h1 h2
 have hr:iY r=l0++[x]:=h1
 have hx:=h2.x1
 have key:fK r.length 0 false (dM (l0++[x])++t)=(Gv false (l0++[x]),some t):=by
  refine Fz r.length hw t (l0++[x]) 0 false (fun y hy=>?_) (fun y hy=>?_) (fun _=>?_) ?_
  ·rcases List.mem_append.1 hy with hy|hy
   ·exact h2.nn y hy
   ·rw [List.mem_singleton.1 hy];omega
  ·rw [List.drop_append] at hy
   rcases List.mem_append.1 hy with hy|hy
   ·exact h2.pos y hy
   ·have:=List.mem_of_mem_drop hy
    rw [List.mem_singleton.1 this];omega
  ·rw [zh];have:=h2.sum;omega
  ·rw [zh];have:=h2.sum;omega
 rw [hr,key,h2.ex,List.take_length]
theorem row_drop {w h:Nat} {p:List Bool} (hp:p.length=w*h) {j:Nat} (hj:j<h):rowP w p j++p.drop ((j+1)*w)=p.drop (j*w):=by
 unfold rowP
 rw [Nat.succ_mul,←List.drop_drop]
 exact List.take_append_drop w _
theorem LU {w h:Nat} {p:List Bool} (hp:p.length=w*h):p.drop (h*w)=[]:=List.drop_of_length_le (by rw [hp,Nat.mul_comm];exact Nat.le_refl _)
theorem BJ {w h:Nat} (hw0:0<w) (hw:w≤4000) {p:List Bool} (hp:p.length=w*h) (t:Bytes):∀ (k j:Nat),j+k=h→dR w k ((List.range' j k).flatMap (fun j=>dM (iY (rowP w p j)))++t)=(p.drop (j*w),true)
 | 0,j,e=>by
  have:j=h:=by omega
  subst this
  rw [LU hp];rfl
 | k+1,j,e=>by
  rw [List.range'_succ,List.flatMap_cons,List.append_assoc]
  have hl:=iD hp (y:=j) (by omega)
  have h1:=UD (r:=rowP w p j) (by omega) (by omega) ((List.range' (j+1) k).flatMap (fun j=>dM (iY (rowP w p j)))++t)
  rw [hl] at h1
  show jO (dR w k) (fK w 0 false _)=_
  rw [h1]
  show (rowP w p j++(dR w k _).1,(dR w k _).2)=_
  rw [BJ hw0 hw hp t k (j+1) (by omega),row_drop hp (by omega)]
theorem Ou (w:Nat) (p:List Bool) (j:Nat):sS w p (j+1)=rowP w p j:=by unfold sS;rw [if_neg (by omega)];rfl
theorem XC {w h:Nat} {p:List Bool} (hp:p.length=w*h) {y:Nat} (hy:y<h):(sS w p y).length=w:=by
 unfold sS
 split
 ·exact List.length_replicate
 ·exact iD hp (by omega)
theorem Bo {w h:Nat} (hw0:0<w) (hw:w≤4000) {p:List Bool} (hp:p.length=w*h) (t:Bytes):∀ (k j:Nat),j+k=h→dw k (sS w p j) ((List.range' j k).flatMap (fun j=>eX (rowP w p j) (sS w p j))++t)=(p.drop (j*w),true)
 | 0,j,e=>by
  have:j=h:=by omega
  subst this
  rw [LU hp];rfl
 | k+1,j,e=>by
  rw [List.range'_succ,List.flatMap_cons,List.append_assoc]
  have hl:=iD hp (y:=j) (by omega)
  have hu:=XC hp (y:=j) (by omega)
  have h1:=BH true (row:=rowP w p j) (above:=sS w p j) (by omega) (by omega) ((List.range' (j+1) k).flatMap (fun j=>eX (rowP w p j) (sS w p j))++t)
  show (match dX true _ _ with|none=>_|some (r,n)=>_)=_
  rw [h1]
  show (rowP w p j++(dw k (rowP w p j) _).1,(dw k (rowP w p j) _).2)=_
  rw [List.drop_left,←Ou w p j,Bo hw0 hw hp t k (j+1) (by omega),Ou,row_drop hp (by omega)]
theorem UH {w h:Nat} {p:List Bool}:je w p h=(List.range' 0 h).flatMap (fun j=>dM (iY (rowP w p j))):=by unfold je;rw [List.range_eq_range']
theorem PU {w h:Nat} {p:List Bool}:eU w p h=(List.range' 0 h).flatMap (fun j=>eX (rowP w p j) (sS w p j)):=by unfold eU;rw [List.range_eq_range']
theorem Us {w h:Nat} (hw0:0<w) (hw:w≤4000) {p:List Bool} (hp:p.length=w*h) {kind:Int} (hk:1≤kind∧kind≤4):ni kind w h (bU w h p kind)=(p,true):=by
 have hc:kind=4∨kind=1∨kind=2∨kind=3:=by omega
 rcases hc with rfl|rfl|rfl|rfl
 ·have e:bU w h p 4=sV w h p:=rfl
  unfold ni
  rw [if_pos rfl,e,←hp,La w h p hw0]
 ·have e:bU w h p 1=jJ (fZ p):=rfl
  unfold ni
  rw [if_neg (by decide),if_pos rfl,e]
  obtain ⟨z,hz⟩:=Kt (Lm p)
  rw [hz,←hp]
  exact Ns p _
 ·have e:bU w h p 2=jJ (je w p h):=rfl
  unfold ni
  rw [if_neg (by decide),if_neg (by decide),if_pos rfl,e]
  obtain ⟨z,hz⟩:=Kt (N8 w p h)
  rw [hz,UH,BJ hw0 hw hp _ h 0 (by omega),Nat.zero_mul,List.drop_zero]
 ·have e:bU w h p 3=jJ (eU w p h):=rfl
  unfold ni
  rw [if_neg (by decide),if_neg (by decide),if_neg (by decide),e]
  obtain ⟨z,hz⟩:=Kt (Ie w h p hp h (Nat.le_refl _))
  have hu:List.replicate w false=sS w p 0:=by unfold sS;rw [if_pos rfl]
  rw [hz,PU,hu,Bo hw0 hw hp _ h 0 (by omega),Nat.zero_mul,List.drop_zero]
end Go.Fv.H
/- The reference's reader of adaptive data, in plain words: what it reads is what the other one reads; what is written it reads. -/
namespace Go.Fv.H
open Go
def jI (W H:Nat):Nat→AD→Nat→List Bool × Bool
 | 0,s,_=>(s.P,decide (s.data=[]))
 | k+1,s,i=>
  if (s.mid (s.c W H i) i).span≤(s.mid (s.c W H i) i).code then ((s.mid (s.c W H i) i).P,false)
  else if (s.mid (s.c W H i) i).span<16777216 then
   (if (s.mid (s.c W H i) i).data=[] then ((s.mid (s.c W H i) i).P,false) else jI W H k (s.mid (s.c W H i) i).norm (i+1))
  else jI W H k (s.mid (s.c W H i) i) (i+1)
def lq (W H:Nat) (d:Bytes) (n:Nat):List Bool × Bool:=if d.length<4 then (List.replicate n false,false) else jI W H n (AD.init d n) 0
theorem qL {s:AD} (h:¬s.span<16777216):s.norm=s:=by unfold AD.norm;rw [if_neg h]
theorem xG (W H n:Nat):∀ (k:Nat) (s:AD) (i:Nat),s.Ok n→(jI W H k s i).1.length=n
 | 0,s,i,h=>h.P
 | k+1,s,i,h=>by
  have hm:=AD.rV h (lN W H s.P ((i%W:Nat):Int) ((i / W:Nat):Int)) i
  have hc:s.c W H i=kL W H s.P ((i%W:Nat):Int) ((i / W:Nat):Int):=rfl
  rw [←hc] at hm
  have hn:=AD.Dh hm
  unfold jI
  split
  ·exact hm.2.2.2.2.2
  ·split
   ·split
    ·exact hm.2.2.2.2.2
    ·exact xG W H n k _ _ hn
   ·rename_i hw
    rw [qL hw] at hn
    exact xG W H n k _ _ hn
theorem UQ (W H:Nat) (d:Bytes) (n:Nat):(lq W H d n).1.length=n:=by
 unfold lq
 split
 ·exact List.length_replicate
 ·exact xG W H n n _ 0 (AD.CZ d n)
theorem IW (W H:Nat) (d:Bytes) (n:Nat):∀ (k i:Nat),(jI W H k (dN W H d n i) i).2=true→(jI W H k (dN W H d n i) i).1=(dN W H d n (i+k)).P
 | 0,i,_=>rfl
 | k+1,i,h=>by
  have e:dN W H d n (i+1)=((dN W H d n i).mid ((dN W H d n i).c W H i) i).norm:=rfl
  have ih:=IW W H d n k (i+1)
  rw [e] at ih
  have e2:i+(k+1)=i+1+k:=by omega
  rw [e2]
  unfold jI at h ⊢
  split at h
  ·cases h
  ·rename_i h1
   rw [if_neg h1]
   split at h
   ·rename_i h2
    rw [if_pos h2]
    split at h
    ·cases h
    ·rename_i h3
     rw [if_neg h3]
     exact ih h
   ·rename_i h2
    rw [if_neg h2]
    rw [qL h2] at ih
    exact ih h
theorem Oq {W H:Nat} {d:Bytes} {n:Nat} (h:(lq W H d n).2=true):(lq W H d n).1=(dN W H d n n).P:=by
 unfold lq at h ⊢
 split at h
 ·cases h
 ·rename_i h1
  rw [if_neg h1]
  have:=IW W H d n n 0 h
  rw [Nat.zero_add] at this
  exact this
theorem U6 (W H:Nat) (P:List Bool) (hW:0<W) {i:Nat} (hi:i<P.length) :
  ∃ m:AE,m=(bn W H P i).mid (kL W H P ((i%W:Nat):Int) ((i / W:Nat):Int)) (P.getD i false)∧m.big≤seen W H P P.length i∧seen W H P P.length i<m.big+m.span ∧
  (dN W H (sV W H P) P.length i).mid ((dN W H (sV W H P) P.length i).c W H i) i=⟨seen W H P P.length i - m.big,m.span,m.tab,(sV W H P).drop (4+(bn W H P i).sh),P.take (i+1)++List.replicate (P.length - (i+1)) false⟩:=by
 refine ⟨_,rfl,(zf W H P hi _ rfl).1,(zf W H P hi _ rfl).2,?_⟩
 have ih:=uQ W H P hW i (by omega)
 obtain ⟨s1,s2,s3⟩:=vS W H P (show i≤P.length by omega)
 have hok:=pK W H P i
 have hc:kL W H (P.take i++List.replicate (P.length - i) false) ((i%W:Nat):Int) ((i / W:Nat):Int)=kL W H P ((i%W:Nat):Int) ((i / W:Nat):Int):=by
  refine Ro (Nat.mod_lt _ hW) ?_
  have e:i / W*W+i%W=i:=by rw [Nat.mul_comm];exact Nat.div_add_mod i W
  rw [e,List.take_left' (by rw [List.length_take];omega)]
 obtain ⟨m1,m2⟩:=zf W H P hi _ rfl
 have hset:=Nl hi rfl
 unfold AD.c
 rw [ih]
 dsimp only
 rw [hc]
 generalize kL W H P ((i%W:Nat):Int) ((i / W:Nat):Int)=c at *
 generalize bn W H P i=s at *
 generalize seen W H P P.length i=q at *
 generalize sV W H P=d at *
 generalize P.getD i false=k at *
 have em:(⟨q - s.big,s.span,s.tab,d.drop (4+s.sh),P.take i++List.replicate (P.length - i) false⟩:AD).m c=s.m c:=rfl
 have ek:(⟨q - s.big,s.span,s.tab,d.drop (4+s.sh),P.take i++List.replicate (P.length - i) false⟩:AD).k c=k:=by
  unfold AD.k
  rw [em]
  dsimp only
  unfold AE.mid at m1 m2
  dsimp only at m1 m2
  cases k
  ·simp only [Bool.false_eq_true,if_false] at m1 m2
   rw [decide_eq_false (by omega)]
  ·simp only [if_true] at m1 m2
   have:=hok.lo
   rw [decide_eq_true (by omega)]
 unfold AD.mid
 rw [ek,em]
 dsimp only
 rw [hset]
 unfold AE.mid at m1 m2 ⊢
 dsimp only at m1 m2 ⊢
 cases k
 ·simp only [Bool.false_eq_true,if_false]
 ·simp only [if_true] at m1 ⊢
  congr 1
  omega
theorem DJ (W H:Nat) (P:List Bool):(sV W H P).length=4+(bn W H P P.length).sh:=by unfold sV;exact aQ _ _
theorem BN (W H:Nat) (P:List Bool) (hW:0<W):∀ (k i:Nat),i+k=P.length→jI W H k (dN W H (sV W H P) P.length i) i=(P,true)
 | 0,i,h=>by
  have e:i=P.length:=by omega
  subst e
  show ((dN W H (sV W H P) P.length P.length).P,_)=_
  rw [La W H P hW,uQ W H P hW P.length (Nat.le_refl _)]
  dsimp only
  rw [List.drop_of_length_le (by rw [DJ];exact Nat.le_refl _)]
  rfl
 | k+1,i,h=>by
  have hi:i<P.length:=by omega
  obtain ⟨m,hm0,hm1,hm2,hm⟩:=U6 W H P hW hi
  have e:dN W H (sV W H P) P.length (i+1)=((dN W H (sV W H P) P.length i).mid ((dN W H (sV W H P) P.length i).c W H i) i).norm:=rfl
  have ih:=BN W H P hW k (i+1) (by omega)
  rw [e] at ih
  have ea:bn W H P (i+1)=m.norm:=by rw [hm0];rfl
  have hsh:=(vS W H P (show i+1≤P.length from hi)).1
  have e8:m.sh=(bn W H P i).sh:=by rw [hm0];rfl
  have hl:=DJ W H P
  unfold jI
  rw [hm] at ih ⊢
  dsimp only
  rw [if_neg (by omega)]
  split
  ·rename_i hs
   have hs2:(bn W H P (i+1)).sh=(bn W H P i).sh+1:=by rw [ea,←e8];unfold AE.norm;rw [if_pos hs]
   rw [if_neg (fun h0=>by
    have:=congrArg List.length h0
    rw [List.length_drop,List.length_nil] at this
    omega)]
   exact ih
  ·rename_i hs
   rw [qL (by dsimp only;exact hs)] at ih
   exact ih
theorem QH (W H:Nat) (P:List Bool) (hW:0<W):lq W H (sV W H P) P.length=(P,true):=by
 unfold lq
 have hl:=DJ W H P
 rw [if_neg (by omega)]
 exact BN W H P hW P.length 0 (by omega)
open Go Go.Proofs
theorem nV (b:Bool) (e:Int):aA Tryz.prog 29 [.bool b,.int .i64 e] (.int .i64 (if b=true then e else 0)) []:=by
 refine aA.aG Tryz.func29 rfl (by decide) (by simp [Tryz.f29]) [.tmp 4] rfl fun w0 T0 _=>?_
 simp only [Tryz.f29,au]
 cases b<;>simp only [go_sem]<;>(refine aU.auto 0 ?_ rfl ?_<;>simp only [go_sem,Int.natCast_succ,Post])
def bF (w h:Int):Int:=if w<1∨4000<w∨h<1∨4000<h then 3 else if 1048576<w*h then 4 else 0
set_option maxHeartbeats 1000000 in
theorem nO (w h:Int):aA Tryz.prog 67 [.int .i64 w,.int .i64 h] (.int .i64 (bF w h)) []:=by
 refine aA.aG Tryz.func67 rfl (by decide) (by simp [Tryz.f67]) [.tmp 4] rfl fun w0 T0 _=>?_
 simp only [Tryz.f67,au]
 simp only [go_sem]
 (repeat' first|(with_reducible refine wo.intro fun _=>?_)|((with_reducible refine bJ.intro ?_ ?_);(· first|omega|(with_reducible refine bJ.intro ?_ ?_<;>omega)|(simp;done)|(simp;omega)))|((with_reducible refine dF.i64 ?_ ?_ ?_);(· omega);(· omega))|((with_reducible refine Ite.decide (fun _=>?_) (fun _=>?_))<;>first|(exfalso;omega)|simp only [go_sem])|((with_reducible refine Ite.bool (fun _=>?_) (fun _=>?_))<;>simp only [go_sem])|(with_reducible refine And.intro ?_ ?_))
 ·rename_i h1
  refine aU.auto 0 ?_ rfl ?_<;>simp only [go_sem,Int.natCast_succ,Post,bF]
  rw [if_pos (by omega)]
 ·rename_i h1
  have hm1:0≤w*h:=Int.mul_nonneg (by omega) (by omega)
  have hm2:w*h≤4000*4000:=Int.mul_le_mul (by omega) (by omega) (by omega) (by omega)
  refine dF.i64 (by omega) (by omega) ?_
  (repeat' first|(with_reducible refine wo.intro fun _=>?_)|((with_reducible refine bJ.intro ?_ ?_);(· first|omega|(with_reducible refine bJ.intro ?_ ?_<;>omega)|(simp;done)|(simp;omega)))|((with_reducible refine dF.i64 ?_ ?_ ?_);(· omega);(· omega))|((with_reducible refine Ite.decide (fun _=>?_) (fun _=>?_))<;>first|(exfalso;omega)|simp only [go_sem])|((with_reducible refine Ite.bool (fun _=>?_) (fun _=>?_))<;>simp only [go_sem])|(with_reducible refine And.intro ?_ ?_))
  ·refine aU.auto 0 ?_ rfl ?_<;>simp only [go_sem,Int.natCast_succ,Post,bF]
   rw [if_neg (by omega),if_pos (by omega)]
  ·refine aU.auto 0 ?_ rfl ?_<;>simp only [go_sem,Int.natCast_succ,Post,bF]
   rw [if_neg (by omega),if_neg (by omega)]
def vC (w h:Int) (n:Nat):Int:=if bF w h=0 then (if (n:Int)=w*h then 0 else 2) else bF w h
theorem fE {w h:Int} (e:bF w h=0):1≤w∧w≤4000∧1≤h∧h≤4000∧w*h≤1048576∧1≤w*h:=by
 unfold bF at e
 split at e
 ·omega
 ·split at e
  ·omega
  ·rename_i h1 h2
   have:1*1≤w*h:=Int.mul_le_mul (by omega) (by omega) (by omega) (by omega)
   omega
theorem Qz {w h:Int} (h1:1≤w) (h2:w≤4000) (h3:1≤h) (h4:h≤4000) (hm2:w*h≤1048576):bF w h=0:=by
 unfold bF
 rw [if_neg (by omega),if_neg (by omega)]
theorem iy (n lo hi:Int):aA Tryz.prog 109 [.int .i64 n,.int .i64 lo,.int .i64 hi] (.bool (decide (lo≤n∧n≤hi))) []:=by
 refine aA.aG Tryz.func109 rfl (by decide) (by simp [Tryz.f109]) [.tmp 6] rfl fun w0 T0 _=>?_
 simp only [Tryz.f109,au]
 (repeat' with_reducible first|intro _|exact dn|refine rn ?_|refine ra ?_ ?_)
 refine aU.auto 0 ?_ rfl ?_<;>simp only [go_sem,Int.natCast_succ,Post]
def atB (p:List Bool) (w h:Nat) (i j:Int):Bool:=decide (0≤i∧i<w∧0≤j∧j<h) && p.getD (j*w+i).toNat false
theorem OV (p:List Bool) {w h i j:Nat} (hi:i<w) (hj:j<h):atB p w h i j=p.getD (j*w+i) false:=by
 unfold atB
 rw [decide_eq_true (show 0≤(i:Int)∧(i:Int)<w∧0≤(j:Int)∧(j:Int)<h by omega),Bool.true_and,up_mul,up_add,Int.toNat_natCast]
theorem Q8 (p:List Bool) {w h:Nat} {i j:Int} (h':¬(0≤i∧i<w∧0≤j∧j<h)):atB p w h i j=false:=by
 unfold atB;rw [decide_eq_false h',Bool.false_and]
set_option maxHeartbeats 2000000 in
theorem NS (w h:Nat) (hw:w≤4000) (hh:h≤4000) (p:List Bool) (hp:p.length=w*h) (i j:Int):aA Tryz.prog 76 [.agg [.int .i64 w,.int .i64 h,.ro (.bools p)],.int .i64 i,.int .i64 j] (.bool (atB p w h i j)) []:=by
 refine aA.aG Tryz.func76 rfl (by decide) (by simp [Tryz.f76]) [.tmp 6] rfl fun w0 T0 _=>?_
 simp only [Tryz.f76,au]
 by_cases hin:0≤i∧i<w∧0≤j∧j<h
 ·obtain ⟨i,rfl⟩:∃ k:Nat,i=k:=⟨i.toNat,by omega⟩
  obtain ⟨j,rfl⟩:∃ k:Nat,j=k:=⟨j.toNat,by omega⟩
  rw [OV p (by omega) (by omega)]
  have b1:j*w+w≤h*w:=by rw [←Nat.succ_mul];exact Nat.mul_le_mul_right _ (by omega)
  have b2:h*w≤4000*4000:=Nat.mul_le_mul hh hw
  have b3:w*h=h*w:=Nat.mul_comm _ _
  (repeat' with_reducible first|intro _|exact dn|refine rn ?_|refine ra ?_ ?_)
  refine ah.k (iy i 0 (w - 1)) ?_
  rw [decide_eq_true (show 0≤(i:Int)∧(i:Int)≤w - 1 by omega)]
  (repeat' with_reducible first|intro _|exact dn|refine rn ?_|refine ra ?_ ?_)
  refine ah.k (iy j 0 (h - 1)) ?_
  rw [decide_eq_true (show 0≤(j:Int)∧(j:Int)≤h - 1 by omega)]
  (repeat' with_reducible first|intro _|refine rz ?_|refine ra ?_ ?_|omega|simp only [go_sem,up_mul,up_add,Int.toNat_natCast])
  refine aU.auto 0 ?_ rfl ?_<;>simp only [go_sem,Int.natCast_succ,Post]
 ·rw [Q8 p hin]
  (repeat' with_reducible first|intro _|exact dn|refine rn ?_|refine ra ?_ ?_)
  refine ah.k (iy i 0 (w - 1)) ?_
  (repeat' with_reducible first|intro _|exact dn|refine rn ?_|refine ra ?_ ?_)
  ·refine ah.k (iy j 0 (h - 1)) ?_
   rw [decide_eq_false (show ¬(0≤(j:Int)∧(j:Int)≤h - 1) by omega)]
   (repeat' with_reducible first|intro _|exact dn|refine rn ?_|refine ra ?_ ?_)
   refine aU.auto 0 ?_ rfl ?_<;>simp only [go_sem,Int.natCast_succ,Post]
  ·refine aU.auto 0 ?_ rfl ?_<;>simp only [go_sem,Int.natCast_succ,Post]
end Go.Fv.H
/- shrink.at and shrink.context: the walk. -/
namespace Go.Fv.H
open Go Go.Proofs
theorem Y7 (w h:Nat) (p:List Bool) (x y:Int):lW w h p x y=atB p w h x y:=rfl
set_option maxHeartbeats 2000000 in
theorem YS (w h:Nat) (hw:w≤4000) (hh:h≤4000) (p:List Bool) (hp:p.length=w*h) (x y:Int):aA Tryz.prog 114 [.agg [.int .i64 w,.int .i64 h,.ro (.bools p)],.int .i64 x,.int .i64 y] (.bool (lW w h p x y)) []:=by
 rw [Y7]
 refine aA.aG Tryz.func114 rfl (by decide) (by simp [Tryz.f114]) [.tmp 6] rfl fun w0 T0 _=>?_
 simp only [Tryz.f114,au]
 by_cases hin:0≤x∧x<w∧0≤y∧y<h
 ·obtain ⟨x,rfl⟩:∃ k:Nat,x=k:=⟨x.toNat,by omega⟩
  obtain ⟨y,rfl⟩:∃ k:Nat,y=k:=⟨y.toNat,by omega⟩
  rw [OV p (by omega) (by omega)]
  have b1:y*w+w≤h*w:=by rw [←Nat.succ_mul];exact Nat.mul_le_mul_right _ (by omega)
  have b2:h*w≤4000*4000:=Nat.mul_le_mul hh hw
  have b3:w*h=h*w:=Nat.mul_comm _ _
  have hd:decide (((0≤(x:Int)∧(x:Int)<(w:Int))∧0≤(y:Int))∧(y:Int)<(h:Int))=true:=decide_eq_true ⟨⟨⟨hin.1,hin.2.1⟩,hin.2.2.1⟩,hin.2.2.2⟩
  (repeat' with_reducible first|intro _|refine rz ?_|refine ra ?_ ?_|omega|simp only [go_sem,up_mul,up_add,Int.toNat_natCast])
  refine aU.auto 0 ?_ rfl ?_<;>simp only [go_sem,Int.natCast_succ,Post]
  rw [hd,Bool.true_and]
 ·rw [Q8 p hin]
  have hd:decide (((0≤x∧x<(w:Int))∧0≤y)∧y<(h:Int))=false:=decide_eq_false fun q=>hin ⟨q.1.1.1,q.1.1.2,q.1.2,q.2⟩
  (repeat' with_reducible first|intro _|exact dn|refine rn ?_|refine ra ?_ ?_)
  refine aU.auto 0 ?_ rfl ?_<;>simp only [go_sem,Int.natCast_succ,Post]
  rw [hd,Bool.false_and]
end Go.Fv.H
/- The context of a pixel: the walk. -/
namespace Go.Fv.H
open Go Go.Proofs
def bf (w h:Nat) (p:List Bool) (x y:Int) (k:Nat):Nat:=(Uk.take k).foldl (fun n d=>2*n+kY (lW w h p (x+d.1) (y+d.2))) 0
theorem Rn (w h:Nat) (p:List Bool) (x y:Int):∀ k,k≤10→bf w h p x y k<1024:=by
 intro k hk
 have key:∀ (l:List (Int × Int)) (n k:Nat),n<2 ^ k→l.foldl (fun n d=>2*n+kY (lW w h p (x+d.1) (y+d.2))) n<2 ^ (k+l.length):=by
  intro l
  induction l with
  | nil=>intro n k hn;exact hn
  | cons d l ih=>
   intro n k hn
   have:=Rk (lW w h p (x+d.1) (y+d.2))
   have h2:=ih (2*n+kY (lW w h p (x+d.1) (y+d.2))) (k+1) (by rw [Nat.pow_succ];omega)
   rw [List.foldl_cons,List.length_cons,Nat.add_comm l.length 1,←Nat.add_assoc];exact h2
 have h1:=key (Uk.take k) 0 0 (by decide)
 have h2:(2:Nat) ^ (0+(Uk.take k).length)≤2 ^ 10:=Nat.pow_le_pow_right (by decide) (by rw [List.length_take];omega)
 unfold bf
 rw [show (2:Nat) ^ 10=1024 from rfl] at h2
 omega
theorem LJ (w h:Nat) (p:List Bool) (x y:Int):bf w h p x y 10=kL w h p x y:=rfl
set_option maxHeartbeats 8000000 in
theorem D7 (w h:Nat) (hw:w≤4000) (hh:h≤4000) (p:List Bool) (hp:p.length=w*h) (x y:Int) (hx:-1≤x∧x≤4000) (hy:-1≤y∧y≤4000) :
  aA Tryz.prog 75 [.agg [.int .i64 w,.int .i64 h,.ro (.bools p)],.int .i64 x,.int .i64 y] (.int .i64 (kL w h p x y)) []:=by
 rw [←LJ]
 have hb:=Rn w h p x y
 have ka:=YS w h hw hh p hp
 refine aA.aG Tryz.func75 rfl (by decide) (by simp [Tryz.f75]) [.tmp 6] rfl fun w0 T0 _=>?_
 simp only [Tryz.f75,au]
 (repeat' with_reducible first|intro _|exact dn|refine rn ?_|refine ra ?_ ?_)
 refine aF.intro (fun i:Nat=>⟨40,[(21,.int .i64 i),(20,.agg [.int .i64 (-1),.int .i64 (-2),.int .i64 0,.int .i64 (-2),.int .i64 1,.int .i64 (-2),.int .i64 (-2),.int .i64 (-1),.int .i64 (-1),.int .i64 (-1),.int .i64 0,.int .i64 (-1),.int .i64 1,.int .i64 (-1),.int .i64 2,.int .i64 (-1),.int .i64 (-2),.int .i64 0,.int .i64 (-1),.int .i64 0]),(7,.int .i64 (bf w h p x y i)),(3,.ptr 0 0),(2,.int .i64 y),(1,.int .i64 x)],[(0,.box 24 [.int .i64 w,.int .i64 h,.ro (.bools p)])],1⟩) (fun i=>i≤10) (fun i=>10 - i) 0 ?_ (Nat.zero_le _) fun i hi=>?_
 ·refine aK.ak rfl ?_ ?_<;>simp only [go_sem,Int.natCast_succ]
  all_goals rfl
 have hi:i=0∨i=1∨i=2∨i=3∨i=4∨i=5∨i=6∨i=7∨i=8∨i=9∨i=10:=by omega
 rcases hi with rfl|rfl|rfl|rfl|rfl|rfl|rfl|rfl|rfl|rfl|rfl
 ·have h0:=hb 0 (by decide)
  have hF:bf w h p x y 1=2*bf w h p x y 0+kY (lW w h p (x+(-1)) (y+(-2))):=rfl
  have k1:=ka (x+(-1)) (y+(-2))
  generalize bf w h p x y 0=v at *
  generalize lW w h p (x+(-1)) (y+(-2))=b at *
  (repeat' with_reducible first|intro _|refine rz ?_|refine ra ?_ ?_|omega|simp only [go_sem,Int.cast_ofNat_Int])
  refine ah.k k1 ?_
  cases b with
  | true=>
   have hF:bf w h p x y 1=2*v+1:=hF
   (repeat' with_reducible first|intro _|refine rz ?_|refine ra ?_ ?_|omega|simp only [go_sem,Int.cast_ofNat_Int])
   refine ⟨1,aK.ak rfl ?_ ?_,by omega,by omega⟩<;>simp only [go_sem,Int.natCast_succ,hF,Int.cast_ofNat_Int]
   all_goals omega
  | false=>
   have hF:bf w h p x y 1=2*v:=hF
   (repeat' with_reducible first|intro _|refine rz ?_|refine ra ?_ ?_|omega|simp only [go_sem,Int.cast_ofNat_Int])
   refine ⟨1,aK.ak rfl ?_ ?_,by omega,by omega⟩<;>simp only [go_sem,Int.natCast_succ,hF,Int.cast_ofNat_Int]
   all_goals omega
 ·have h0:=hb 1 (by decide)
  have hF:bf w h p x y 2=2*bf w h p x y 1+kY (lW w h p (x+0) (y+(-2))):=rfl
  have k1:=ka (x+0) (y+(-2))
  generalize bf w h p x y 1=v at *
  generalize lW w h p (x+0) (y+(-2))=b at *
  (repeat' with_reducible first|intro _|refine rz ?_|refine ra ?_ ?_|omega|simp only [go_sem,Int.cast_ofNat_Int])
  refine ah.k k1 ?_
  cases b with
  | true=>
   have hF:bf w h p x y 2=2*v+1:=hF
   (repeat' with_reducible first|intro _|refine rz ?_|refine ra ?_ ?_|omega|simp only [go_sem,Int.cast_ofNat_Int])
   refine ⟨2,aK.ak rfl ?_ ?_,by omega,by omega⟩<;>simp only [go_sem,Int.natCast_succ,hF,Int.cast_ofNat_Int]
   all_goals omega
  | false=>
   have hF:bf w h p x y 2=2*v:=hF
   (repeat' with_reducible first|intro _|refine rz ?_|refine ra ?_ ?_|omega|simp only [go_sem,Int.cast_ofNat_Int])
   refine ⟨2,aK.ak rfl ?_ ?_,by omega,by omega⟩<;>simp only [go_sem,Int.natCast_succ,hF,Int.cast_ofNat_Int]
   all_goals omega
 ·have h0:=hb 2 (by decide)
  have hF:bf w h p x y 3=2*bf w h p x y 2+kY (lW w h p (x+1) (y+(-2))):=rfl
  have k1:=ka (x+1) (y+(-2))
  generalize bf w h p x y 2=v at *
  generalize lW w h p (x+1) (y+(-2))=b at *
  (repeat' with_reducible first|intro _|refine rz ?_|refine ra ?_ ?_|omega|simp only [go_sem,Int.cast_ofNat_Int])
  refine ah.k k1 ?_
  cases b with
  | true=>
   have hF:bf w h p x y 3=2*v+1:=hF
   (repeat' with_reducible first|intro _|refine rz ?_|refine ra ?_ ?_|omega|simp only [go_sem,Int.cast_ofNat_Int])
   refine ⟨3,aK.ak rfl ?_ ?_,by omega,by omega⟩<;>simp only [go_sem,Int.natCast_succ,hF,Int.cast_ofNat_Int]
   all_goals omega
  | false=>
   have hF:bf w h p x y 3=2*v:=hF
   (repeat' with_reducible first|intro _|refine rz ?_|refine ra ?_ ?_|omega|simp only [go_sem,Int.cast_ofNat_Int])
   refine ⟨3,aK.ak rfl ?_ ?_,by omega,by omega⟩<;>simp only [go_sem,Int.natCast_succ,hF,Int.cast_ofNat_Int]
   all_goals omega
 ·have h0:=hb 3 (by decide)
  have hF:bf w h p x y 4=2*bf w h p x y 3+kY (lW w h p (x+(-2)) (y+(-1))):=rfl
  have k1:=ka (x+(-2)) (y+(-1))
  generalize bf w h p x y 3=v at *
  generalize lW w h p (x+(-2)) (y+(-1))=b at *
  (repeat' with_reducible first|intro _|refine rz ?_|refine ra ?_ ?_|omega|simp only [go_sem,Int.cast_ofNat_Int])
  refine ah.k k1 ?_
  cases b with
  | true=>
   have hF:bf w h p x y 4=2*v+1:=hF
   (repeat' with_reducible first|intro _|refine rz ?_|refine ra ?_ ?_|omega|simp only [go_sem,Int.cast_ofNat_Int])
   refine ⟨4,aK.ak rfl ?_ ?_,by omega,by omega⟩<;>simp only [go_sem,Int.natCast_succ,hF,Int.cast_ofNat_Int]
   all_goals omega
  | false=>
   have hF:bf w h p x y 4=2*v:=hF
   (repeat' with_reducible first|intro _|refine rz ?_|refine ra ?_ ?_|omega|simp only [go_sem,Int.cast_ofNat_Int])
   refine ⟨4,aK.ak rfl ?_ ?_,by omega,by omega⟩<;>simp only [go_sem,Int.natCast_succ,hF,Int.cast_ofNat_Int]
   all_goals omega
 ·have h0:=hb 4 (by decide)
  have hF:bf w h p x y 5=2*bf w h p x y 4+kY (lW w h p (x+(-1)) (y+(-1))):=rfl
  have k1:=ka (x+(-1)) (y+(-1))
  generalize bf w h p x y 4=v at *
  generalize lW w h p (x+(-1)) (y+(-1))=b at *
  (repeat' with_reducible first|intro _|refine rz ?_|refine ra ?_ ?_|omega|simp only [go_sem,Int.cast_ofNat_Int])
  refine ah.k k1 ?_
  cases b with
  | true=>
   have hF:bf w h p x y 5=2*v+1:=hF
   (repeat' with_reducible first|intro _|refine rz ?_|refine ra ?_ ?_|omega|simp only [go_sem,Int.cast_ofNat_Int])
   refine ⟨5,aK.ak rfl ?_ ?_,by omega,by omega⟩<;>simp only [go_sem,Int.natCast_succ,hF,Int.cast_ofNat_Int]
   all_goals omega
  | false=>
   have hF:bf w h p x y 5=2*v:=hF
   (repeat' with_reducible first|intro _|refine rz ?_|refine ra ?_ ?_|omega|simp only [go_sem,Int.cast_ofNat_Int])
   refine ⟨5,aK.ak rfl ?_ ?_,by omega,by omega⟩<;>simp only [go_sem,Int.natCast_succ,hF,Int.cast_ofNat_Int]
   all_goals omega
 ·have h0:=hb 5 (by decide)
  have hF:bf w h p x y 6=2*bf w h p x y 5+kY (lW w h p (x+0) (y+(-1))):=rfl
  have k1:=ka (x+0) (y+(-1))
  generalize bf w h p x y 5=v at *
  generalize lW w h p (x+0) (y+(-1))=b at *
  (repeat' with_reducible first|intro _|refine rz ?_|refine ra ?_ ?_|omega|simp only [go_sem,Int.cast_ofNat_Int])
  refine ah.k k1 ?_
  cases b with
  | true=>
   have hF:bf w h p x y 6=2*v+1:=hF
   (repeat' with_reducible first|intro _|refine rz ?_|refine ra ?_ ?_|omega|simp only [go_sem,Int.cast_ofNat_Int])
   refine ⟨6,aK.ak rfl ?_ ?_,by omega,by omega⟩<;>simp only [go_sem,Int.natCast_succ,hF,Int.cast_ofNat_Int]
   all_goals omega
  | false=>
   have hF:bf w h p x y 6=2*v:=hF
   (repeat' with_reducible first|intro _|refine rz ?_|refine ra ?_ ?_|omega|simp only [go_sem,Int.cast_ofNat_Int])
   refine ⟨6,aK.ak rfl ?_ ?_,by omega,by omega⟩<;>simp only [go_sem,Int.natCast_succ,hF,Int.cast_ofNat_Int]
   all_goals omega
 ·have h0:=hb 6 (by decide)
  have hF:bf w h p x y 7=2*bf w h p x y 6+kY (lW w h p (x+1) (y+(-1))):=rfl
  have k1:=ka (x+1) (y+(-1))
  generalize bf w h p x y 6=v at *
  generalize lW w h p (x+1) (y+(-1))=b at *
  (repeat' with_reducible first|intro _|refine rz ?_|refine ra ?_ ?_|omega|simp only [go_sem,Int.cast_ofNat_Int])
  refine ah.k k1 ?_
  cases b with
  | true=>
   have hF:bf w h p x y 7=2*v+1:=hF
   (repeat' with_reducible first|intro _|refine rz ?_|refine ra ?_ ?_|omega|simp only [go_sem,Int.cast_ofNat_Int])
   refine ⟨7,aK.ak rfl ?_ ?_,by omega,by omega⟩<;>simp only [go_sem,Int.natCast_succ,hF,Int.cast_ofNat_Int]
   all_goals omega
  | false=>
   have hF:bf w h p x y 7=2*v:=hF
   (repeat' with_reducible first|intro _|refine rz ?_|refine ra ?_ ?_|omega|simp only [go_sem,Int.cast_ofNat_Int])
   refine ⟨7,aK.ak rfl ?_ ?_,by omega,by omega⟩<;>simp only [go_sem,Int.natCast_succ,hF,Int.cast_ofNat_Int]
   all_goals omega
 ·have h0:=hb 7 (by decide)
  have hF:bf w h p x y 8=2*bf w h p x y 7+kY (lW w h p (x+2) (y+(-1))):=rfl
  have k1:=ka (x+2) (y+(-1))
  generalize bf w h p x y 7=v at *
  generalize lW w h p (x+2) (y+(-1))=b at *
  (repeat' with_reducible first|intro _|refine rz ?_|refine ra ?_ ?_|omega|simp only [go_sem,Int.cast_ofNat_Int])
  refine ah.k k1 ?_
  cases b with
  | true=>
   have hF:bf w h p x y 8=2*v+1:=hF
   (repeat' with_reducible first|intro _|refine rz ?_|refine ra ?_ ?_|omega|simp only [go_sem,Int.cast_ofNat_Int])
   refine ⟨8,aK.ak rfl ?_ ?_,by omega,by omega⟩<;>simp only [go_sem,Int.natCast_succ,hF,Int.cast_ofNat_Int]
   all_goals omega
  | false=>
   have hF:bf w h p x y 8=2*v:=hF
   (repeat' with_reducible first|intro _|refine rz ?_|refine ra ?_ ?_|omega|simp only [go_sem,Int.cast_ofNat_Int])
   refine ⟨8,aK.ak rfl ?_ ?_,by omega,by omega⟩<;>simp only [go_sem,Int.natCast_succ,hF,Int.cast_ofNat_Int]
   all_goals omega
 ·have h0:=hb 8 (by decide)
  have hF:bf w h p x y 9=2*bf w h p x y 8+kY (lW w h p (x+(-2)) (y+0)):=rfl
  have k1:=ka (x+(-2)) (y+0)
  generalize bf w h p x y 8=v at *
  generalize lW w h p (x+(-2)) (y+0)=b at *
  (repeat' with_reducible first|intro _|refine rz ?_|refine ra ?_ ?_|omega|simp only [go_sem,Int.cast_ofNat_Int])
  refine ah.k k1 ?_
  cases b with
  | true=>
   have hF:bf w h p x y 9=2*v+1:=hF
   (repeat' with_reducible first|intro _|refine rz ?_|refine ra ?_ ?_|omega|simp only [go_sem,Int.cast_ofNat_Int])
   refine ⟨9,aK.ak rfl ?_ ?_,by omega,by omega⟩<;>simp only [go_sem,Int.natCast_succ,hF,Int.cast_ofNat_Int]
   all_goals omega
  | false=>
   have hF:bf w h p x y 9=2*v:=hF
   (repeat' with_reducible first|intro _|refine rz ?_|refine ra ?_ ?_|omega|simp only [go_sem,Int.cast_ofNat_Int])
   refine ⟨9,aK.ak rfl ?_ ?_,by omega,by omega⟩<;>simp only [go_sem,Int.natCast_succ,hF,Int.cast_ofNat_Int]
   all_goals omega
 ·have h0:=hb 9 (by decide)
  have hF:bf w h p x y 10=2*bf w h p x y 9+kY (lW w h p (x+(-1)) (y+0)):=rfl
  have k1:=ka (x+(-1)) (y+0)
  generalize bf w h p x y 9=v at *
  generalize lW w h p (x+(-1)) (y+0)=b at *
  (repeat' with_reducible first|intro _|refine rz ?_|refine ra ?_ ?_|omega|simp only [go_sem,Int.cast_ofNat_Int])
  refine ah.k k1 ?_
  cases b with
  | true=>
   have hF:bf w h p x y 10=2*v+1:=hF
   (repeat' with_reducible first|intro _|refine rz ?_|refine ra ?_ ?_|omega|simp only [go_sem,Int.cast_ofNat_Int])
   refine ⟨10,aK.ak rfl ?_ ?_,by omega,by omega⟩<;>simp only [go_sem,Int.natCast_succ,hF,Int.cast_ofNat_Int]
   all_goals omega
  | false=>
   have hF:bf w h p x y 10=2*v:=hF
   (repeat' with_reducible first|intro _|refine rz ?_|refine ra ?_ ?_|omega|simp only [go_sem,Int.cast_ofNat_Int])
   refine ⟨10,aK.ak rfl ?_ ?_,by omega,by omega⟩<;>simp only [go_sem,Int.natCast_succ,hF,Int.cast_ofNat_Int]
   all_goals omega
 ·(repeat' with_reducible first|intro _|refine rz ?_|refine ra ?_ ?_|omega|simp only [go_sem,Int.cast_ofNat_Int])
  refine aU.auto 0 ?_ rfl ?_<;>simp only [go_sem,Int.natCast_succ,Post]
set_option maxHeartbeats 8000000 in
theorem yA (w h:Nat) (hw:w≤4000) (hh:h≤4000) (p:List Bool) (hp:p.length=w*h) (x y:Int) (hx:-1≤x∧x≤4000) (hy:-1≤y∧y≤4000) :
  aA Tryz.prog 21 [.agg [.int .i64 w,.int .i64 h,.ro (.bools p)],.int .i64 x,.int .i64 y] (.int .i64 (kL w h p x y)) []:=by
 rw [←LJ]
 have hb:=Rn w h p x y
 have ka:=NS w h hw hh p hp
 simp only [←Y7] at ka
 refine aA.aG Tryz.func21 rfl (by decide) (by simp [Tryz.f21]) [.tmp 6] rfl fun w0 T0 _=>?_
 simp only [Tryz.f21,au]
 (repeat' with_reducible first|intro _|exact dn|refine rn ?_|refine ra ?_ ?_)
 refine aF.intro (fun i:Nat=>⟨40,[(21,.int .i64 i),(20,.agg [.int .i64 (-1),.int .i64 (-2),.int .i64 0,.int .i64 (-2),.int .i64 1,.int .i64 (-2),.int .i64 (-2),.int .i64 (-1),.int .i64 (-1),.int .i64 (-1),.int .i64 0,.int .i64 (-1),.int .i64 1,.int .i64 (-1),.int .i64 2,.int .i64 (-1),.int .i64 (-2),.int .i64 0,.int .i64 (-1),.int .i64 0]),(7,.int .i64 (bf w h p x y i)),(3,.ptr 0 0),(2,.int .i64 y),(1,.int .i64 x)],[(0,.box 24 [.int .i64 w,.int .i64 h,.ro (.bools p)])],1⟩) (fun i=>i≤10) (fun i=>10 - i) 0 ?_ (Nat.zero_le _) fun i hi=>?_
 ·refine aK.ak rfl ?_ ?_<;>simp only [go_sem,Int.natCast_succ]
  all_goals rfl
 have hi:i=0∨i=1∨i=2∨i=3∨i=4∨i=5∨i=6∨i=7∨i=8∨i=9∨i=10:=by omega
 rcases hi with rfl|rfl|rfl|rfl|rfl|rfl|rfl|rfl|rfl|rfl|rfl
 ·have h0:=hb 0 (by decide)
  have hF:bf w h p x y 1=2*bf w h p x y 0+kY (lW w h p (x+(-1)) (y+(-2))):=rfl
  have k1:=ka (x+(-1)) (y+(-2))
  generalize bf w h p x y 0=v at *
  generalize lW w h p (x+(-1)) (y+(-2))=b at *
  (repeat' with_reducible first|intro _|refine rz ?_|refine ra ?_ ?_|omega|simp only [go_sem,Int.cast_ofNat_Int])
  refine ah.k k1 ?_
  cases b with
  | true=>
   have hF:bf w h p x y 1=2*v+1:=hF
   (repeat' with_reducible first|intro _|refine rz ?_|refine ra ?_ ?_|omega|simp only [go_sem,Int.cast_ofNat_Int])
   refine ⟨1,aK.ak rfl ?_ ?_,by omega,by omega⟩<;>simp only [go_sem,Int.natCast_succ,hF,Int.cast_ofNat_Int]
   all_goals omega
  | false=>
   have hF:bf w h p x y 1=2*v:=hF
   (repeat' with_reducible first|intro _|refine rz ?_|refine ra ?_ ?_|omega|simp only [go_sem,Int.cast_ofNat_Int])
   refine ⟨1,aK.ak rfl ?_ ?_,by omega,by omega⟩<;>simp only [go_sem,Int.natCast_succ,hF,Int.cast_ofNat_Int]
   all_goals omega
 ·have h0:=hb 1 (by decide)
  have hF:bf w h p x y 2=2*bf w h p x y 1+kY (lW w h p (x+0) (y+(-2))):=rfl
  have k1:=ka (x+0) (y+(-2))
  generalize bf w h p x y 1=v at *
  generalize lW w h p (x+0) (y+(-2))=b at *
  (repeat' with_reducible first|intro _|refine rz ?_|refine ra ?_ ?_|omega|simp only [go_sem,Int.cast_ofNat_Int])
  refine ah.k k1 ?_
  cases b with
  | true=>
   have hF:bf w h p x y 2=2*v+1:=hF
   (repeat' with_reducible first|intro _|refine rz ?_|refine ra ?_ ?_|omega|simp only [go_sem,Int.cast_ofNat_Int])
   refine ⟨2,aK.ak rfl ?_ ?_,by omega,by omega⟩<;>simp only [go_sem,Int.natCast_succ,hF,Int.cast_ofNat_Int]
   all_goals omega
  | false=>
   have hF:bf w h p x y 2=2*v:=hF
   (repeat' with_reducible first|intro _|refine rz ?_|refine ra ?_ ?_|omega|simp only [go_sem,Int.cast_ofNat_Int])
   refine ⟨2,aK.ak rfl ?_ ?_,by omega,by omega⟩<;>simp only [go_sem,Int.natCast_succ,hF,Int.cast_ofNat_Int]
   all_goals omega
 ·have h0:=hb 2 (by decide)
  have hF:bf w h p x y 3=2*bf w h p x y 2+kY (lW w h p (x+1) (y+(-2))):=rfl
  have k1:=ka (x+1) (y+(-2))
  generalize bf w h p x y 2=v at *
  generalize lW w h p (x+1) (y+(-2))=b at *
  (repeat' with_reducible first|intro _|refine rz ?_|refine ra ?_ ?_|omega|simp only [go_sem,Int.cast_ofNat_Int])
  refine ah.k k1 ?_
  cases b with
  | true=>
   have hF:bf w h p x y 3=2*v+1:=hF
   (repeat' with_reducible first|intro _|refine rz ?_|refine ra ?_ ?_|omega|simp only [go_sem,Int.cast_ofNat_Int])
   refine ⟨3,aK.ak rfl ?_ ?_,by omega,by omega⟩<;>simp only [go_sem,Int.natCast_succ,hF,Int.cast_ofNat_Int]
   all_goals omega
  | false=>
   have hF:bf w h p x y 3=2*v:=hF
   (repeat' with_reducible first|intro _|refine rz ?_|refine ra ?_ ?_|omega|simp only [go_sem,Int.cast_ofNat_Int])
   refine ⟨3,aK.ak rfl ?_ ?_,by omega,by omega⟩<;>simp only [go_sem,Int.natCast_succ,hF,Int.cast_ofNat_Int]
   all_goals omega
 ·have h0:=hb 3 (by decide)
  have hF:bf w h p x y 4=2*bf w h p x y 3+kY (lW w h p (x+(-2)) (y+(-1))):=rfl
  have k1:=ka (x+(-2)) (y+(-1))
  generalize bf w h p x y 3=v at *
  generalize lW w h p (x+(-2)) (y+(-1))=b at *
  (repeat' with_reducible first|intro _|refine rz ?_|refine ra ?_ ?_|omega|simp only [go_sem,Int.cast_ofNat_Int])
  refine ah.k k1 ?_
  cases b with
  | true=>
   have hF:bf w h p x y 4=2*v+1:=hF
   (repeat' with_reducible first|intro _|refine rz ?_|refine ra ?_ ?_|omega|simp only [go_sem,Int.cast_ofNat_Int])
   refine ⟨4,aK.ak rfl ?_ ?_,by omega,by omega⟩<;>simp only [go_sem,Int.natCast_succ,hF,Int.cast_ofNat_Int]
   all_goals omega
  | false=>
   have hF:bf w h p x y 4=2*v:=hF
   (repeat' with_reducible first|intro _|refine rz ?_|refine ra ?_ ?_|omega|simp only [go_sem,Int.cast_ofNat_Int])
   refine ⟨4,aK.ak rfl ?_ ?_,by omega,by omega⟩<;>simp only [go_sem,Int.natCast_succ,hF,Int.cast_ofNat_Int]
   all_goals omega
 ·have h0:=hb 4 (by decide)
  have hF:bf w h p x y 5=2*bf w h p x y 4+kY (lW w h p (x+(-1)) (y+(-1))):=rfl
  have k1:=ka (x+(-1)) (y+(-1))
  generalize bf w h p x y 4=v at *
  generalize lW w h p (x+(-1)) (y+(-1))=b at *
  (repeat' with_reducible first|intro _|refine rz ?_|refine ra ?_ ?_|omega|simp only [go_sem,Int.cast_ofNat_Int])
  refine ah.k k1 ?_
  cases b with
  | true=>
   have hF:bf w h p x y 5=2*v+1:=hF
   (repeat' with_reducible first|intro _|refine rz ?_|refine ra ?_ ?_|omega|simp only [go_sem,Int.cast_ofNat_Int])
   refine ⟨5,aK.ak rfl ?_ ?_,by omega,by omega⟩<;>simp only [go_sem,Int.natCast_succ,hF,Int.cast_ofNat_Int]
   all_goals omega
  | false=>
   have hF:bf w h p x y 5=2*v:=hF
   (repeat' with_reducible first|intro _|refine rz ?_|refine ra ?_ ?_|omega|simp only [go_sem,Int.cast_ofNat_Int])
   refine ⟨5,aK.ak rfl ?_ ?_,by omega,by omega⟩<;>simp only [go_sem,Int.natCast_succ,hF,Int.cast_ofNat_Int]
   all_goals omega
 ·have h0:=hb 5 (by decide)
  have hF:bf w h p x y 6=2*bf w h p x y 5+kY (lW w h p (x+0) (y+(-1))):=rfl
  have k1:=ka (x+0) (y+(-1))
  generalize bf w h p x y 5=v at *
  generalize lW w h p (x+0) (y+(-1))=b at *
  (repeat' with_reducible first|intro _|refine rz ?_|refine ra ?_ ?_|omega|simp only [go_sem,Int.cast_ofNat_Int])
  refine ah.k k1 ?_
  cases b with
  | true=>
   have hF:bf w h p x y 6=2*v+1:=hF
   (repeat' with_reducible first|intro _|refine rz ?_|refine ra ?_ ?_|omega|simp only [go_sem,Int.cast_ofNat_Int])
   refine ⟨6,aK.ak rfl ?_ ?_,by omega,by omega⟩<;>simp only [go_sem,Int.natCast_succ,hF,Int.cast_ofNat_Int]
   all_goals omega
  | false=>
   have hF:bf w h p x y 6=2*v:=hF
   (repeat' with_reducible first|intro _|refine rz ?_|refine ra ?_ ?_|omega|simp only [go_sem,Int.cast_ofNat_Int])
   refine ⟨6,aK.ak rfl ?_ ?_,by omega,by omega⟩<;>simp only [go_sem,Int.natCast_succ,hF,Int.cast_ofNat_Int]
   all_goals omega
 ·have h0:=hb 6 (by decide)
  have hF:bf w h p x y 7=2*bf w h p x y 6+kY (lW w h p (x+1) (y+(-1))):=rfl
  have k1:=ka (x+1) (y+(-1))
  generalize bf w h p x y 6=v at *
  generalize lW w h p (x+1) (y+(-1))=b at *
  (repeat' with_reducible first|intro _|refine rz ?_|refine ra ?_ ?_|omega|simp only [go_sem,Int.cast_ofNat_Int])
  refine ah.k k1 ?_
  cases b with
  | true=>
   have hF:bf w h p x y 7=2*v+1:=hF
   (repeat' with_reducible first|intro _|refine rz ?_|refine ra ?_ ?_|omega|simp only [go_sem,Int.cast_ofNat_Int])
   refine ⟨7,aK.ak rfl ?_ ?_,by omega,by omega⟩<;>simp only [go_sem,Int.natCast_succ,hF,Int.cast_ofNat_Int]
   all_goals omega
  | false=>
   have hF:bf w h p x y 7=2*v:=hF
   (repeat' with_reducible first|intro _|refine rz ?_|refine ra ?_ ?_|omega|simp only [go_sem,Int.cast_ofNat_Int])
   refine ⟨7,aK.ak rfl ?_ ?_,by omega,by omega⟩<;>simp only [go_sem,Int.natCast_succ,hF,Int.cast_ofNat_Int]
   all_goals omega
 ·have h0:=hb 7 (by decide)
  have hF:bf w h p x y 8=2*bf w h p x y 7+kY (lW w h p (x+2) (y+(-1))):=rfl
  have k1:=ka (x+2) (y+(-1))
  generalize bf w h p x y 7=v at *
  generalize lW w h p (x+2) (y+(-1))=b at *
  (repeat' with_reducible first|intro _|refine rz ?_|refine ra ?_ ?_|omega|simp only [go_sem,Int.cast_ofNat_Int])
  refine ah.k k1 ?_
  cases b with
  | true=>
   have hF:bf w h p x y 8=2*v+1:=hF
   (repeat' with_reducible first|intro _|refine rz ?_|refine ra ?_ ?_|omega|simp only [go_sem,Int.cast_ofNat_Int])
   refine ⟨8,aK.ak rfl ?_ ?_,by omega,by omega⟩<;>simp only [go_sem,Int.natCast_succ,hF,Int.cast_ofNat_Int]
   all_goals omega
  | false=>
   have hF:bf w h p x y 8=2*v:=hF
   (repeat' with_reducible first|intro _|refine rz ?_|refine ra ?_ ?_|omega|simp only [go_sem,Int.cast_ofNat_Int])
   refine ⟨8,aK.ak rfl ?_ ?_,by omega,by omega⟩<;>simp only [go_sem,Int.natCast_succ,hF,Int.cast_ofNat_Int]
   all_goals omega
 ·have h0:=hb 8 (by decide)
  have hF:bf w h p x y 9=2*bf w h p x y 8+kY (lW w h p (x+(-2)) (y+0)):=rfl
  have k1:=ka (x+(-2)) (y+0)
  generalize bf w h p x y 8=v at *
  generalize lW w h p (x+(-2)) (y+0)=b at *
  (repeat' with_reducible first|intro _|refine rz ?_|refine ra ?_ ?_|omega|simp only [go_sem,Int.cast_ofNat_Int])
  refine ah.k k1 ?_
  cases b with
  | true=>
   have hF:bf w h p x y 9=2*v+1:=hF
   (repeat' with_reducible first|intro _|refine rz ?_|refine ra ?_ ?_|omega|simp only [go_sem,Int.cast_ofNat_Int])
   refine ⟨9,aK.ak rfl ?_ ?_,by omega,by omega⟩<;>simp only [go_sem,Int.natCast_succ,hF,Int.cast_ofNat_Int]
   all_goals omega
  | false=>
   have hF:bf w h p x y 9=2*v:=hF
   (repeat' with_reducible first|intro _|refine rz ?_|refine ra ?_ ?_|omega|simp only [go_sem,Int.cast_ofNat_Int])
   refine ⟨9,aK.ak rfl ?_ ?_,by omega,by omega⟩<;>simp only [go_sem,Int.natCast_succ,hF,Int.cast_ofNat_Int]
   all_goals omega
 ·have h0:=hb 9 (by decide)
  have hF:bf w h p x y 10=2*bf w h p x y 9+kY (lW w h p (x+(-1)) (y+0)):=rfl
  have k1:=ka (x+(-1)) (y+0)
  generalize bf w h p x y 9=v at *
  generalize lW w h p (x+(-1)) (y+0)=b at *
  (repeat' with_reducible first|intro _|refine rz ?_|refine ra ?_ ?_|omega|simp only [go_sem,Int.cast_ofNat_Int])
  refine ah.k k1 ?_
  cases b with
  | true=>
   have hF:bf w h p x y 10=2*v+1:=hF
   (repeat' with_reducible first|intro _|refine rz ?_|refine ra ?_ ?_|omega|simp only [go_sem,Int.cast_ofNat_Int])
   refine ⟨10,aK.ak rfl ?_ ?_,by omega,by omega⟩<;>simp only [go_sem,Int.natCast_succ,hF,Int.cast_ofNat_Int]
   all_goals omega
  | false=>
   have hF:bf w h p x y 10=2*v:=hF
   (repeat' with_reducible first|intro _|refine rz ?_|refine ra ?_ ?_|omega|simp only [go_sem,Int.cast_ofNat_Int])
   refine ⟨10,aK.ak rfl ?_ ?_,by omega,by omega⟩<;>simp only [go_sem,Int.natCast_succ,hF,Int.cast_ofNat_Int]
   all_goals omega
 ·(repeat' with_reducible first|intro _|refine rz ?_|refine ra ?_ ?_|omega|simp only [go_sem,Int.cast_ofNat_Int])
  refine aU.auto 0 ?_ rfl ?_<;>simp only [go_sem,Int.natCast_succ,Post]
end Go.Fv.H
