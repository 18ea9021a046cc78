/-
  A part of the proof of the claim: walks over the program's functions and the plain laws that these need. No condition of its own.
-/
import Derived.Test.YtodlgmmbfbiilaaGreatDoorHStripsCardPart6
import Derived.Test.YtodlgmmbfbiilaaGreatDoorHStripsCardPart4
import Derived.Test.YtodlgmmbfbiilaaGreatDoorHStripsCardPart1
import Derived.Test.YtodlgmmbfbiilaaGreatDoorHStripsCardPart3
import Derived.Test.YtodlgmmbfbiilaaGreatDoorHStripsCardPart5
import Derived.Test.YtodlgmmbfbiilaaGreatDoorFvPart10
set_option linter.unusedSimpArgs false
set_option linter.unusedVariables false
set_option linter.unnecessarySimpa false
set_option maxRecDepth 8000
/- Pages out of data, in plain words: what is written is read. -/
namespace Go.Fv.H
open Go
theorem AY {s:Bytes} {n l:Nat} (h:oq s=some (n,l)):1≤l∧n≤1048576:=by
 unfold oq at h
 split at h
 ·rename_i hc;cases h;exact ⟨by omega,hc.2.2.2⟩
 ·cases h
def eH (w n:Nat) (ink:Bool) (s:Bytes):List Bool × Option Bytes:=
 if n<w then
  match h:oq s with
  | none=>([],none)
  | some (m,l)=>if w - n<m - 1 then ([],none) else (List.replicate (m - 1) ink++(eH w (n+(m - 1)) (!ink) (s.drop l)).1,(eH w (n+(m - 1)) (!ink) (s.drop l)).2)
 else ([],some s)
termination_by s.length
decreasing_by
 all_goals
  have h2:=jT h
  have h3:=AY h
  rw [List.length_drop];omega
def jD (f:Bytes→List Bool × Bool) (q:List Bool × Option Bytes):List Bool × Bool:=
 match q.2 with
 | none=>(q.1,false)
 | some t=>(q.1++(f t).1,(f t).2)
def dB (w:Nat):Nat→Bytes→List Bool × Bool
 | 0,_=>([],true)
 | h+1,s=>jD (dB w h) (eH w 0 false s)
def bY:Nat→List Bool→Bytes→List Bool × Bool
 | 0,_,_=>([],true)
 | h+1,ab,s=>
  match dQ true ab s with
  | none=>([],false)
  | some (r,n)=>(r++(bY h r (s.drop n)).1,(bY h r (s.drop n)).2)
def nO (s:Bytes):List Bool:=s.map fun c=>decide (c=49)
def jU (n:Nat) (s:Bytes):List Bool × Bool:=if s.length<n then ([],false) else (nO (s.take n),true)
def lU (kind:Int) (w h:Nat) (d:Bytes):List Bool × Bool:=
 if kind=4 then ((dA w h d (w*h) (w*h)).P,true) else if kind=1 then jU (w*h) (gJ d) else if kind=2 then dB w h (gJ d) else bY h (List.replicate w false) (gJ d)
theorem VO (s:Bytes) (j:Nat) {t:Nat} (ht:t<8):pk s j / 2 ^ (7 - t)%2=bt s (8*j+t):=by
 have h0:=bt_le s (8*j)
 have h1:=bt_le s (8*j+1)
 have h2:=bt_le s (8*j+2)
 have h3:=bt_le s (8*j+3)
 have h4:=bt_le s (8*j+4)
 have h5:=bt_le s (8*j+5)
 have h6:=bt_le s (8*j+6)
 have h7:=bt_le s (8*j+7)
 have hc:t=0∨t=1∨t=2∨t=3∨t=4∨t=5∨t=6∨t=7:=by omega
 unfold pk
 rcases hc with rfl|rfl|rfl|rfl|rfl|rfl|rfl|rfl
 all_goals simp only [Nat.add_zero,Nat.reduceSub,Nat.reducePow,Nat.sub_self,Nat.sub_zero]
 all_goals omega
theorem I4 {s:Bytes} (h1:s.all fK=true):∃ z,gJ (jr s)=s++List.replicate z 48:=by
 refine ⟨8*((s.length+7) / 8) - s.length,?_⟩
 have hpl:(jr s).length=(s.length+7) / 8:=xu _ _
 apply List.ext_getElem?
 intro i
 unfold gJ
 rw [List.getElem?_map,hpl]
 by_cases hi:i<8*((s.length+7) / 8)
 ·rw [List.getElem?_range hi]
  have hj:i / 8<(s.length+7) / 8:=by omega
  have e1:((jr s).getD (i / 8) 0).toNat=pk s (i / 8):=Rl s hj
  rw [Option.map_some,e1,VO s (i / 8) (Nat.mod_lt _ (by decide)),show 8*(i / 8)+i%8=i by omega]
  by_cases hs:i<s.length
  ·rw [List.getElem?_append_left hs]
   have ha:s.getD i 0=48∨s.getD i 0=49:=by
    have:=(List.all_eq_true.1 h1) (s.getD i 0) (by rw [getD_lt hs];exact List.getElem_mem hs)
    simpa [fK] using this
   have e:s[i]?=some (s.getD i 0):=by rw [getD_lt hs,List.getElem?_eq_getElem hs]
   rw [e]
   unfold bt
   rcases ha with ha|ha<;>rw [ha]<;>rfl
  ·rw [List.getElem?_append_right (by omega),List.getElem?_replicate,if_pos (by omega)]
   have e:s.getD i 0=0:=by rw [List.getD_eq_getElem?_getD,List.getElem?_eq_none (by omega)];rfl
   unfold bt
   rw [e];rfl
 ·rw [List.getElem?_eq_none (by simp;omega),List.getElem?_eq_none (by rw [List.length_append,List.length_replicate];omega)];rfl
theorem Jj (p:List Bool) (t:Bytes):jU p.length (fF p++t)=(p,true):=by
 unfold jU
 have hl:(fF p).length=p.length:=jH p
 rw [if_neg (by rw [List.length_append];omega),←hl,List.take_left]
 congr 1
 unfold nO fF
 rw [List.map_map]
 conv=>rhs;rw [←List.map_id p]
 apply List.map_congr_left
 intro b _
 cases b<;>rfl
theorem uU {w n:Nat} (h:¬n<w) (ink:Bool) (s:Bytes):eH w n ink s=([],some s):=by rw [eH,if_neg h]
theorem vX {w n:Nat} (h:n<w) (ink:Bool) {s:Bytes} (hs:oq s=none):eH w n ink s=([],none):=by
 rw [eH,if_pos h]
 split
 ·rfl
 ·rename_i h2;rw [hs] at h2;cases h2
theorem wE {w n m l:Nat} (h:n<w) (ink:Bool) {s:Bytes} (hs:oq s=some (m,l)) (hm:w - n<m - 1):eH w n ink s=([],none):=by
 rw [eH,if_pos h]
 split
 ·rfl
 ·rename_i h2;rw [hs] at h2;cases h2;rw [if_pos hm]
theorem qw {w n m l:Nat} (h:n<w) (ink:Bool) {s:Bytes} (hs:oq s=some (m,l)) (hm:¬w - n<m - 1) :
  eH w n ink s=(List.replicate (m - 1) ink++(eH w (n+(m - 1)) (!ink) (s.drop l)).1,(eH w (n+(m - 1)) (!ink) (s.drop l)).2):=by
 conv=>lhs;rw [eH]
 rw [if_pos h]
 split
 ·rename_i h2;rw [hs] at h2;cases h2
 ·rename_i h2;rw [hs] at h2;cases h2;rw [if_neg hm]
def Eu:Bool→List Int→List Bool
 | _,[]=>[]
 | ink,n::l=>List.replicate n.toNat ink++Eu (!ink) l
def sN (l:List Int):Int:=l.foldr (·+·) 0
theorem Vh {l:List Int} (h:∀ y,y∈l→1≤y):(l.length:Int)≤sN l:=by
 induction l with
 | nil=>exact Int.le_refl _
 | cons x l ih=>
  have h1:=ih fun y hy=>h y (.tail _ hy)
  have h2:=h x (.head _)
  show ((l.length+1:Nat):Int)≤x+sN l
  omega
theorem CU (w:Nat) (hw:w≤4000) (t:Bytes):∀ (l:List Int) (n:Nat) (ink:Bool),(∀ x,x∈l→0≤x)→(∀ y,y∈l.drop 1→1≤y)→(l≠[]→1≤sN l)→(n:Int)+sN l=w →
  eH w n ink (dw l++t)=(Eu ink l,some t)
 | [],n,ink,_,_,_,hs=>by
  have:n=w:=by have:(n:Int)+0=w:=hs;omega
  rw [uU (by omega)];rfl
 | x::l,n,ink,h0,h1,hp,hs=>by
  have hx:=h0 x (.head _)
  have hp2:1≤sN (x::l):=hp (by simp)
  have e:sN (x::l)=x+sN l:=rfl
  have hl1:∀ y,y∈l→1≤y:=fun y hy=>h1 y hy
  have hsl:=Vh hl1
  have hn:n<w:=by omega
  have hg:oq (dw (x::l)++t)=some ((x+1).toNat,(dR (x+1).toNat).length):=by
   show oq (dR (x+1).toNat++dw l++t)=_
   rw [List.append_assoc]
   exact IU (by omega) (by omega) _
  have hd:(dw (x::l)++t).drop (dR (x+1).toNat).length=dw l++t:=by
   show (dR (x+1).toNat++dw l++t).drop _=_
   rw [List.append_assoc,List.drop_left]
  have e2:(x+1).toNat - 1=x.toNat:=by omega
  rw [qw hn ink hg (by omega),hd,e2]
  have ih:=CU w hw t l (n+x.toNat) (!ink) (fun y hy=>by have:=hl1 y hy;omega) (fun y hy=>hl1 y (List.mem_of_mem_drop hy)) (fun hne=>by
   have:0<l.length:=List.length_pos_iff.2 hne
   omega) (by omega)
  rw [ih];rfl
theorem yx:∀ (l:List Int) (ink:Bool) (x:Int),Eu ink (l++[x])=Eu ink l++List.replicate x.toNat (xor ink (decide (l.length%2=1)))
 | [],ink,x=>by cases ink<;>simp [Eu]
 | y::l,ink,x=>by
  show List.replicate y.toNat ink++Eu (!ink) (l++[x])=List.replicate y.toNat ink++Eu (!ink) l++_
  rw [yx l (!ink) x,List.append_assoc]
  congr 3
  have e:(y::l).length=l.length+1:=rfl
  rw [e]
  by_cases h:l.length%2=1
  ·rw [decide_eq_true h,decide_eq_false (by omega)];cases ink<;>rfl
  ·rw [decide_eq_false h,decide_eq_true (by omega)];cases ink<;>rfl
theorem wL (l:List Int) (x:Int):sN (l++[x])=sN l+x:=by
 induction l with
 | nil=>show x+0=0+x;omega
 | cons y l ih=>show y+sN (l++[x])=y+sN l+x;rw [ih];omega
structure Vw (row:List Bool) (i:Nat) (l0:List Int) (x:Int) (ink:Bool):Prop where
 ink:ink=decide (l0.length%2=1)
 ex:Eu false (l0++[x])=row.take i
 x1:1≤x
 nn:∀ y,y∈l0→0≤y
 pos:∀ y,y∈l0.drop 1→1≤y
 sum:sN l0+x=i
theorem take_snoc {row:List Bool} {i:Nat} (h:i<row.length):row.take (i+1)=row.take i++[row.getD i false]:=by
 rw [List.take_succ_eq_append_getElem h,getD_lt h]
theorem Ll (l0:List Int) (x y:Int):(l0++[x]).set ((l0++[x]).length - 1) y=l0++[y]:=by
 have e:(l0++[x]).length - 1=l0.length:=by simp
 rw [e,List.set_append_right _ _ (Nat.le_refl _),Nat.sub_self];rfl
theorem FP (l0:List Int) (x:Int):(l0++[x]).getD ((l0++[x]).length - 1) 0=x:=by
 have e:(l0++[x]).length - 1=l0.length:=by simp
 rw [e,List.getD_eq_getElem?_getD,List.getElem?_append_right (Nat.le_refl _),Nat.sub_self];rfl
theorem uo {row:List Bool} {i:Nat} (h:i<row.length) {l0:List Int} {x:Int} {p ink:Bool} (hp:row.getD i false=p) (hi:ink=decide (l0.length%2=1)) (hx:0≤x) (hpi:p=ink)
  (he:Eu false (l0++[x])=row.take i) (nn:∀ y,y∈l0→0≤y) (pos:∀ y,y∈l0.drop 1→1≤y) (hs:sN l0+x=i):Vw row (i+1) l0 (x+1) p:=by
 refine ⟨by rw [hpi,hi],?_,by omega,nn,pos,by omega⟩
 rw [take_snoc h,←he,yx,yx,List.append_assoc,hp,hpi,hi]
 congr 1
 have e:(x+1).toNat=x.toNat+1:=by omega
 rw [e,List.replicate_succ',Bool.false_xor]
theorem zo (row:List Bool):∀ i,i<row.length→∃ l0 x,(bC row (i+1)).1=l0++[x]∧Vw row (i+1) l0 x (bC row (i+1)).2
 | 0,h=>by
  have e:bC row 1=iZ [] false 0 (row.getD 0 false):=rfl
  rw [e]
  cases hp:row.getD 0 false with
  | false=>
   refine ⟨[],1,rfl,?_⟩
   exact uo (ink:=false) h hp rfl (Int.le_refl 0) rfl (by rfl) (by simp) (by simp) (by rfl)
  | true=>
   refine ⟨[0],1,rfl,?_⟩
   exact uo (ink:=true) h hp rfl (Int.le_refl 0) rfl (by rfl) (by simp) (by simp) (by rfl)
 | i+1,h=>by
  obtain ⟨l0,x,h1,h2⟩:=zo row i (by omega)
  have e:bC row (i+1+1)=iZ (bC row (i+1)).1 (bC row (i+1)).2 (i+1) (row.getD (i+1) false):=rfl
  rw [e,h1]
  generalize (bC row (i+1)).2=ink at h2 ⊢
  cases hp:row.getD (i+1) false with
  | _=>
   unfold iZ
   simp only [if_neg (show ¬(i+1=0) by omega)]
   split
   ·rename_i hq
    refine ⟨l0,x+1,?_,?_⟩
    ·rw [FP,Ll]
    ·exact uo (ink:=ink) h hp h2.ink (by have:=h2.x1;omega) hq h2.ex h2.nn h2.pos h2.sum
   ·rename_i hq
    refine ⟨l0++[x],0+1,?_,?_⟩
    ·rw [FP,Ll]
    ·have hlen:(l0++[x]).length=l0.length+1:=by simp
     have hx:=h2.x1
     refine uo (ink:=!ink) h hp ?_ (Int.le_refl 0) ?_ ?_ (fun y hy=>?_) (fun y hy=>?_) ?_
     ·rw [hlen,h2.ink]
      by_cases hq:l0.length%2=1
      ·rw [decide_eq_true hq,decide_eq_false (by omega)];rfl
      ·rw [decide_eq_false hq,decide_eq_true (by omega)];rfl
     ·revert hq;cases ink<;>simp
     ·rw [yx,h2.ex];simp
     ·rcases List.mem_append.1 hy with hy|hy
      ·exact h2.nn y hy
      ·rw [List.mem_singleton.1 hy];omega
     ·rw [List.drop_append] at hy
      rcases List.mem_append.1 hy with hy|hy
      ·exact h2.pos y hy
      ·have:=List.mem_of_mem_drop hy
       rw [List.mem_singleton.1 this];omega
     ·rw [wL];have:=h2.sum;omega
theorem Qd {r:List Bool} (h0:0<r.length) (hw:r.length≤4000) (t:Bytes):eH r.length 0 false (dw (iH r)++t)=(r,some t):=by
 obtain ⟨l0,x,h1,h2⟩:=zo r (r.length - 1) (by omega)
 have e:r.length - 1+1=r.length:=by omega
 rw [e] at h1 h2
 have hr:iH r=l0++[x]:=h1
 have hx:=h2.x1
 have key:eH r.length 0 false (dw (l0++[x])++t)=(Eu false (l0++[x]),some t):=by
  refine CU r.length hw t (l0++[x]) 0 false (fun y hy=>?_) (fun y hy=>?_) (fun _=>?_) ?_
  ·rcases List.mem_append.1 hy with hy|hy
   ·exact h2.nn y hy
   ·rw [List.mem_singleton.1 hy];omega
  ·rw [List.drop_append] at hy
   rcases List.mem_append.1 hy with hy|hy
   ·exact h2.pos y hy
   ·have:=List.mem_of_mem_drop hy
    rw [List.mem_singleton.1 this];omega
  ·rw [wL];have:=h2.sum;omega
  ·rw [wL];have:=h2.sum;omega
 rw [hr,key,h2.ex,List.take_length]
theorem row_drop {w h:Nat} {p:List Bool} (hp:p.length=w*h) {j:Nat} (hj:j<h):rowP w p j++p.drop ((j+1)*w)=p.drop (j*w):=by
 unfold rowP
 rw [Nat.succ_mul,←List.drop_drop]
 exact List.take_append_drop w _
theorem J5 {w h:Nat} {p:List Bool} (hp:p.length=w*h):p.drop (h*w)=[]:=List.drop_of_length_le (by rw [hp,Nat.mul_comm];exact Nat.le_refl _)
theorem zU {w h:Nat} (hw0:0<w) (hw:w≤4000) {p:List Bool} (hp:p.length=w*h) (t:Bytes):∀ (k j:Nat),j+k=h→dB w k ((List.range' j k).flatMap (fun j=>dw (iH (rowP w p j)))++t)=(p.drop (j*w),true)
 | 0,j,e=>by
  have:j=h:=by omega
  subst this
  rw [J5 hp];rfl
 | k+1,j,e=>by
  rw [List.range'_succ,List.flatMap_cons,List.append_assoc]
  have hl:=gq hp (y:=j) (by omega)
  have h1:=Qd (r:=rowP w p j) (by omega) (by omega) ((List.range' (j+1) k).flatMap (fun j=>dw (iH (rowP w p j)))++t)
  rw [hl] at h1
  show jD (dB w k) (eH w 0 false _)=_
  rw [h1]
  show (rowP w p j++(dB w k _).1,(dB w k _).2)=_
  rw [zU hw0 hw hp t k (j+1) (by omega),row_drop hp (by omega)]
theorem JR (w:Nat) (p:List Bool) (j:Nat):rC w p (j+1)=rowP w p j:=by unfold rC;rw [if_neg (by omega)];rfl
theorem RN {w h:Nat} {p:List Bool} (hp:p.length=w*h) {y:Nat} (hy:y<h):(rC w p y).length=w:=by
 unfold rC
 split
 ·exact List.length_replicate
 ·exact gq hp (by omega)
theorem zK {w h:Nat} (hw0:0<w) (hw:w≤4000) {p:List Bool} (hp:p.length=w*h) (t:Bytes):∀ (k j:Nat),j+k=h→bY k (rC w p j) ((List.range' j k).flatMap (fun j=>eu (rowP w p j) (rC w p j))++t)=(p.drop (j*w),true)
 | 0,j,e=>by
  have:j=h:=by omega
  subst this
  rw [J5 hp];rfl
 | k+1,j,e=>by
  rw [List.range'_succ,List.flatMap_cons,List.append_assoc]
  have hl:=gq hp (y:=j) (by omega)
  have hu:=RN hp (y:=j) (by omega)
  have h1:=zX true (row:=rowP w p j) (above:=rC w p j) (by omega) (by omega) ((List.range' (j+1) k).flatMap (fun j=>eu (rowP w p j) (rC w p j))++t)
  show (match dQ true _ _ with|none=>_|some (r,n)=>_)=_
  rw [h1]
  show (rowP w p j++(bY k (rowP w p j) _).1,(bY k (rowP w p j) _).2)=_
  rw [List.drop_left,←JR w p j,zK hw0 hw hp t k (j+1) (by omega),JR,row_drop hp (by omega)]
theorem PV {w h:Nat} {p:List Bool}:iI w p h=(List.range' 0 h).flatMap (fun j=>dw (iH (rowP w p j))):=by unfold iI;rw [List.range_eq_range']
theorem NI {w h:Nat} {p:List Bool}:dZ w p h=(List.range' 0 h).flatMap (fun j=>eu (rowP w p j) (rC w p j)):=by unfold dZ;rw [List.range_eq_range']
theorem Qi {w h:Nat} (hw0:0<w) (hw:w≤4000) {p:List Bool} (hp:p.length=w*h) {kind:Int} (hk:1≤kind∧kind≤4):lU kind w h (bQ w h p kind)=(p,true):=by
 have hc:kind=4∨kind=1∨kind=2∨kind=3:=by omega
 rcases hc with rfl|rfl|rfl|rfl
 ·have e:bQ w h p 4=rE w h p:=rfl
  unfold lU
  rw [if_pos rfl,e,←hp,Lj w h p hw0]
 ·have e:bQ w h p 1=jr (fF p):=rfl
  unfold lU
  rw [if_neg (by decide),if_pos rfl,e]
  obtain ⟨z,hz⟩:=I4 (KT p)
  rw [hz,←hp]
  exact Jj p _
 ·have e:bQ w h p 2=jr (iI w p h):=rfl
  unfold lU
  rw [if_neg (by decide),if_neg (by decide),if_pos rfl,e]
  obtain ⟨z,hz⟩:=I4 (JX w p h)
  rw [hz,PV,zU hw0 hw hp _ h 0 (by omega),Nat.zero_mul,List.drop_zero]
 ·have e:bQ w h p 3=jr (dZ w p h):=rfl
  unfold lU
  rw [if_neg (by decide),if_neg (by decide),if_neg (by decide),e]
  obtain ⟨z,hz⟩:=I4 (Gu w h p hp h (Nat.le_refl _))
  have hu:List.replicate w false=rC w p 0:=by unfold rC;rw [if_pos rfl]
  rw [hz,NI,hu,zK hw0 hw hp _ h 0 (by omega),Nat.zero_mul,List.drop_zero]
end Go.Fv.H
/- Codes of pages are short. -/
namespace Go.Fv.H
open Go
theorem Oy:∀ (f n:Nat),n≤f→1≤n→(iW n).length≤n
 | 0,n,h,h1=>by omega
 | f+1,n,h,h1=>by
  by_cases h2:n<2
  ·have:n=1:=by omega
   subst this;rw [oD (by decide)];exact Nat.le_refl _
  ·have ih:=Oy f (n / 2) (by omega) (by omega)
   rw [qy h2,List.length_append]
   simp only [List.length_cons,List.length_nil]
   omega
theorem II (k:Nat):(dR (k+1)).length≤2*k+1:=by
 have:=Oy (k+1) (k+1) (Nat.le_refl _) (by omega)
 rw [Bz];omega
theorem RH (k:Nat):(aK.getD k []).length≤7:=by
 rcases k with _|_|_|_|_|_|_|k
 all_goals first|decide|exact Nat.zero_le _
theorem TT {row above:List Bool} (hw:above.length=row.length) {p:Nat} (hp:p≤row.length) (ink:Bool):(aT row above p ink).c.length+7*p≤7*(aT row above p ink).p:=by
 have hs:=kM hw hp ink
 have h1:=iO hp
 have h2:=fV row p
 unfold aT at hs ⊢
 split
 ·rename_i hc
  rw [if_pos hc] at hs
  dsimp only at hs ⊢
  have:eX.length=4:=rfl
  omega
 ·rename_i hc
  rw [if_neg hc] at hs
  split
  ·rename_i hd
   rw [if_pos hd] at hs
   dsimp only at hs ⊢
   have:=RH (dG row p+3 - fB above p (!ink))
   omega
  ·rename_i hd
   rw [if_neg hd] at hs
   dsimp only at hs ⊢
   have e:dV.length=3:=rfl
   have g1:=II (dG row p - (p - 1))
   have g2:=II (dG row (dG row p+1) - dG row p)
   rw [List.length_append,List.length_append,e]
   have h3:dG row p≤dG row (dG row p+1):=by
    by_cases h:dG row p<row.length
    ·have:=iO (r:=row) (i:=dG row p+1) (by omega);omega
    ·rw [gY (r:=row) (i:=dG row p+1) (by omega)];omega
   omega
theorem Nh {row above:List Bool} (hw:above.length=row.length):(eu row above).length≤7*(row.length+1):=by
 have key:∀ (f p:Nat) (ink:Bool),row.length+1 - p≤f→p≤row.length+1→(lX row above p ink).length+7*p≤7*(row.length+1):=by
  intro f
  induction f with
  | zero=>intro p ink h hp;rw [jS (by omega)];simp;omega
  | succ f ih=>
   intro p ink h hp1
   by_cases hp:p≤row.length
   ·have hs:=kM hw hp ink
    have hsh:=TT hw hp ink
    rw [ni hw hp,List.length_append]
    have:=ih (aT row above p ink).p (aT row above p ink).k (by omega) (by omega)
    omega
   ·rw [jS hp];simp;omega
 unfold eu
 split
 ·simp
 ·have:=key (row.length+1) 0 false (by omega) (by omega)
  omega
theorem zS {w h:Nat} {p:List Bool} (hp:p.length=w*h):∀ y,y≤h→(dZ w p y).length≤7*(w+1)*y
 | 0,_=>by simp [dZ]
 | y+1,hy=>by
  have h1:=zS hp y (by omega)
  have hl:=gq hp (y:=y) (by omega)
  have h2:=Nh (row:=rowP w p y) (above:=rC w p y) (by rw [Bv hp (by omega),hl])
  rw [hl] at h2
  rw [oJ,List.length_append,Nat.mul_succ];omega
def sumT (l:List Int):Nat:=(l.map Int.toNat).sum
theorem P7 {l:List Int} (hl:∀ x,x∈l→0≤x):(dw l).length≤2*sumT l+l.length:=by
 induction l with
 | nil=>simp [dw]
 | cons x l ih=>
  have h1:=ih fun y hy=>hl y (.tail _ hy)
  have h2:=hl x (.head _)
  have h3:=II x.toNat
  have e0:(x+1).toNat=x.toNat+1:=by omega
  have e:dw (x::l)=dR (x+1).toNat++dw l:=by unfold dw;simp
  have es:sumT (x::l)=x.toNat+sumT l:=rfl
  rw [e,List.length_append,List.length_cons,es,e0];omega
theorem WS {l:List Int} (hl:∀ x,x∈l→0≤x):(sumT l:Int)=sN l:=by
 induction l with
 | nil=>rfl
 | cons x l ih=>
  have h1:=ih fun y hy=>hl y (.tail _ hy)
  have h2:=hl x (.head _)
  have es:sumT (x::l)=x.toNat+sumT l:=rfl
  have ei:sN (x::l)=x+sN l:=rfl
  rw [es,ei];omega
theorem Md {r:List Bool} (h:0<r.length):sN (iH r)=r.length:=by
 obtain ⟨l0,x,h1,h2⟩:=zo r (r.length - 1) (by omega)
 have e:r.length - 1+1=r.length:=by omega
 rw [e] at h1 h2
 have hr:iH r=l0++[x]:=h1
 have:=h2.sum
 rw [hr,wL];exact this
theorem CV {w h:Nat} (hw0:0<w) {p:List Bool} (hp:p.length=w*h):∀ y,y≤h→(iI w p y).length≤3*(w+1)*y
 | 0,_=>by simp [iI]
 | y+1,hy=>by
  have h1:=CV hw0 hp y (by omega)
  have hl:=gq hp (y:=y) (by omega)
  obtain ⟨h2,h3⟩:=uy (rowP w p y)
  have h4:=P7 (l:=iH (rowP w p y)) fun x hx=>(h3 x hx).1
  have h5:=WS (l:=iH (rowP w p y)) fun x hx=>(h3 x hx).1
  have h6:=Md (r:=rowP w p y) (by omega)
  rw [qj,List.length_append,Nat.mul_succ]
  omega
theorem KZ {w h:Nat} {p:List Bool} (g:oV w h p) (kind:Int):(bQ w h p kind).length≤1048580:=by
 have hw0:=g.w0
 have hh:=g.h1
 have hwh:=g.wh
 have hp:=g.p
 have b0:(w+1)*h≤1052576:=by rw [Nat.add_mul,Nat.one_mul];omega
 have b1:3*(w+1)*h≤3157728:=by rw [Nat.mul_assoc];omega
 have b2:7*(w+1)*h≤7368032:=by rw [Nat.mul_assoc];omega
 have h1:=CV hw0 hp h (Nat.le_refl _)
 have h2:=zS hp h (Nat.le_refl _)
 have h3:=Pq w h p
 unfold bQ
 split
 ·rw [mX,jH];omega
 ·split
  ·omega
  ·split
   ·rw [mX];omega
   ·rw [mX];omega
end Go.Fv.H
/- The reference's reader of adaptive data, in plain words: what it reads is what the other one reads; what is written it reads. -/
namespace Go.Fv.H
open Go
def jm (W H:Nat):Nat→AD→Nat→List Bool × Bool
 | 0,s,_=>(s.P,decide (s.data=[]))
 | k+1,s,i=>
  if (s.mid (s.c W H i) i).span≤(s.mid (s.c W H i) i).code then ((s.mid (s.c W H i) i).P,false)
  else if (s.mid (s.c W H i) i).span<16777216 then
   (if (s.mid (s.c W H i) i).data=[] then ((s.mid (s.c W H i) i).P,false) else jm W H k (s.mid (s.c W H i) i).norm (i+1))
  else jm W H k (s.mid (s.c W H i) i) (i+1)
def kJ (W H:Nat) (d:Bytes) (n:Nat):List Bool × Bool:=if d.length<4 then (List.replicate n false,false) else jm W H n (AD.init d n) 0
theorem pW {s:AD} (h:¬s.span<16777216):s.norm=s:=by unfold AD.norm;rw [if_neg h]
theorem vO (W H n:Nat):∀ (k:Nat) (s:AD) (i:Nat),s.Ok n→(jm W H k s i).1.length=n
 | 0,s,i,h=>h.P
 | k+1,s,i,h=>by
  have hm:=AD.qo h (lu W H s.P ((i%W:Nat):Int) ((i / W:Nat):Int)) i
  have hc:s.c W H i=jQ W H s.P ((i%W:Nat):Int) ((i / W:Nat):Int):=rfl
  rw [←hc] at hm
  have hn:=AD.Ba hm
  unfold jm
  split
  ·exact hm.2.2.2.2.2
  ·split
   ·split
    ·exact hm.2.2.2.2.2
    ·exact vO W H n k _ _ hn
   ·rename_i hw
    rw [pW hw] at hn
    exact vO W H n k _ _ hn
theorem P6 (W H:Nat) (d:Bytes) (n:Nat):(kJ W H d n).1.length=n:=by
 unfold kJ
 split
 ·exact List.length_replicate
 ·exact vO W H n n _ 0 (AD.Bl d n)
theorem Fj (W H:Nat) (d:Bytes) (n:Nat):∀ (k i:Nat),(jm W H k (dA W H d n i) i).2=true→(jm W H k (dA W H d n i) i).1=(dA W H d n (i+k)).P
 | 0,i,_=>rfl
 | k+1,i,h=>by
  have e:dA W H d n (i+1)=((dA W H d n i).mid ((dA W H d n i).c W H i) i).norm:=rfl
  have ih:=Fj W H d n k (i+1)
  rw [e] at ih
  have e2:i+(k+1)=i+1+k:=by omega
  rw [e2]
  unfold jm at h ⊢
  split at h
  ·cases h
  ·rename_i h1
   rw [if_neg h1]
   split at h
   ·rename_i h2
    rw [if_pos h2]
    split at h
    ·cases h
    ·rename_i h3
     rw [if_neg h3]
     exact ih h
   ·rename_i h2
    rw [if_neg h2]
    rw [pW h2] at ih
    exact ih h
theorem KQ {W H:Nat} {d:Bytes} {n:Nat} (h:(kJ W H d n).2=true):(kJ W H d n).1=(dA W H d n n).P:=by
 unfold kJ at h ⊢
 split at h
 ·cases h
 ·rename_i h1
  rw [if_neg h1]
  have:=Fj W H d n n 0 h
  rw [Nat.zero_add] at this
  exact this
theorem RD (W H:Nat) (P:List Bool) (hW:0<W) {i:Nat} (hi:i<P.length) :
  ∃ m:AE,m=(bg W H P i).mid (jQ W H P ((i%W:Nat):Int) ((i / W:Nat):Int)) (P.getD i false)∧m.big≤seen W H P P.length i∧seen W H P P.length i<m.big+m.span ∧
  (dA W H (rE W H P) P.length i).mid ((dA W H (rE W H P) P.length i).c W H i) i=⟨seen W H P P.length i - m.big,m.span,m.tab,(rE W H P).drop (4+(bg W H P i).sh),P.take (i+1)++List.replicate (P.length - (i+1)) false⟩:=by
 refine ⟨_,rfl,(wX W H P hi _ rfl).1,(wX W H P hi _ rfl).2,?_⟩
 have ih:=uV W H P hW i (by omega)
 obtain ⟨s1,s2,s3⟩:=uG W H P (show i≤P.length by omega)
 have hok:=oC W H P i
 have hc:jQ W H (P.take i++List.replicate (P.length - i) false) ((i%W:Nat):Int) ((i / W:Nat):Int)=jQ W H P ((i%W:Nat):Int) ((i / W:Nat):Int):=by
  refine OV (Nat.mod_lt _ hW) ?_
  have e:i / W*W+i%W=i:=by rw [Nat.mul_comm];exact Nat.div_add_mod i W
  rw [e,List.take_left' (by rw [List.length_take];omega)]
 obtain ⟨m1,m2⟩:=wX W H P hi _ rfl
 have hset:=KU hi rfl
 unfold AD.c
 rw [ih]
 dsimp only
 rw [hc]
 generalize jQ W H P ((i%W:Nat):Int) ((i / W:Nat):Int)=c at *
 generalize bg W H P i=s at *
 generalize seen W H P P.length i=q at *
 generalize rE W H P=d at *
 generalize P.getD i false=k at *
 have em:(⟨q - s.big,s.span,s.tab,d.drop (4+s.sh),P.take i++List.replicate (P.length - i) false⟩:AD).m c=s.m c:=rfl
 have ek:(⟨q - s.big,s.span,s.tab,d.drop (4+s.sh),P.take i++List.replicate (P.length - i) false⟩:AD).k c=k:=by
  unfold AD.k
  rw [em]
  dsimp only
  unfold AE.mid at m1 m2
  dsimp only at m1 m2
  cases k
  ·simp only [Bool.false_eq_true,if_false] at m1 m2
   rw [decide_eq_false (by omega)]
  ·simp only [if_true] at m1 m2
   have:=hok.lo
   rw [decide_eq_true (by omega)]
 unfold AD.mid
 rw [ek,em]
 dsimp only
 rw [hset]
 unfold AE.mid at m1 m2 ⊢
 dsimp only at m1 m2 ⊢
 cases k
 ·simp only [Bool.false_eq_true,if_false]
 ·simp only [if_true] at m1 ⊢
  congr 1
  omega
theorem BO (W H:Nat) (P:List Bool):(rE W H P).length=4+(bg W H P P.length).sh:=by unfold rE;exact aX _ _
theorem Ae (W H:Nat) (P:List Bool) (hW:0<W):∀ (k i:Nat),i+k=P.length→jm W H k (dA W H (rE W H P) P.length i) i=(P,true)
 | 0,i,h=>by
  have e:i=P.length:=by omega
  subst e
  show ((dA W H (rE W H P) P.length P.length).P,_)=_
  rw [Lj W H P hW,uV W H P hW P.length (Nat.le_refl _)]
  dsimp only
  rw [List.drop_of_length_le (by rw [BO];exact Nat.le_refl _)]
  rfl
 | k+1,i,h=>by
  have hi:i<P.length:=by omega
  obtain ⟨m,hm0,hm1,hm2,hm⟩:=RD W H P hW hi
  have e:dA W H (rE W H P) P.length (i+1)=((dA W H (rE W H P) P.length i).mid ((dA W H (rE W H P) P.length i).c W H i) i).norm:=rfl
  have ih:=Ae W H P hW k (i+1) (by omega)
  rw [e] at ih
  have ea:bg W H P (i+1)=m.norm:=by rw [hm0];rfl
  have hsh:=(uG W H P (show i+1≤P.length from hi)).1
  have e8:m.sh=(bg W H P i).sh:=by rw [hm0];rfl
  have hl:=BO W H P
  unfold jm
  rw [hm] at ih ⊢
  dsimp only
  rw [if_neg (by omega)]
  split
  ·rename_i hs
   have hs2:(bg W H P (i+1)).sh=(bg W H P i).sh+1:=by rw [ea,←e8];unfold AE.norm;rw [if_pos hs]
   rw [if_neg (fun h0=>by
    have:=congrArg List.length h0
    rw [List.length_drop,List.length_nil] at this
    omega)]
   exact ih
  ·rename_i hs
   rw [pW (by dsimp only;exact hs)] at ih
   exact ih
theorem MF (W H:Nat) (P:List Bool) (hW:0<W):kJ W H (rE W H P) P.length=(P,true):=by
 unfold kJ
 have hl:=BO W H P
 rw [if_neg (by omega)]
 exact Ae W H P hW P.length 0 (by omega)
end Go.Fv.H
/- The reading of a page, in plain words. -/
namespace Go.Fv.H
open Go
structure DQ where
 (w h:Nat) (p:List Bool) (e:Int)
def dK (s:Bytes):Nat:=bV (s.take 1)
def dW (s:Bytes):Nat:=bV ((s.drop 1).take 2)
def dH (s:Bytes):Nat:=bV ((s.drop 3).take 2)
def dL (s:Bytes):Nat:=bV ((s.drop 5).take 4)
def dD (s:Bytes):Bytes:=(s.drop 9).take (s.length - 17)
def xk (s:Bytes):List Bool × Bool:=lU (dK s) (dW s) (dH s) (dD s)
def qV (e:Int):DQ:=⟨0,0,[],e⟩
def Kq (s:Bytes):Prop:=(xk s).2=true∧fE (dW s) (dH s) (xk s).1 (dK s)=s
instance (s:Bytes):Decidable (Kq s):=inferInstanceAs (Decidable (_∧_))
def iJ (s:Bytes):DQ:=
 if 2097152<s.length then qV 4
 else if s.length<17∨s.length≠17+dL s then qV 8
 else if dU (s.take (s.length - 8))≠s.drop (s.length - 8) then qV 14
 else if ¬(1≤dK s∧dK s≤4) then qV 1
 else if aS (dW s) (dH s)≠0 then qV (aS (dW s) (dH s))
 else if Kq s then ⟨dW s,dH s,(xk s).1,0⟩ else qV 8
theorem Np {n:Nat} {s:Bytes} (h:(jU n s).2=true):(jU n s).1.length=n:=by
 unfold jU at h ⊢
 split at h
 ·cases h
 ·rename_i hs
  rw [if_neg hs]
  unfold nO
  rw [List.length_map,List.length_take];omega
theorem Gn (w:Nat):∀ (f:Nat) (n:Nat) (ink:Bool) (s:Bytes),s.length≤f→n≤w→∀ t,(eH w n ink s).2=some t→(eH w n ink s).1.length=w - n
 | f,n,ink,s,hf,hn,t,h=>by
  by_cases hnw:n<w
  rotate_left
  ·rw [uU hnw]
   show (0:Nat)=_;omega
  cases hrd:oq s with
  | none=>rw [vX hnw ink hrd] at h;cases h
  | some z=>
   obtain ⟨m,l⟩:=z
   by_cases hov:w - n<m - 1
   ·rw [wE hnw ink hrd hov] at h;cases h
   rw [qw hnw ink hrd hov] at h ⊢
   have h1:=AY hrd
   have h2:=jT hrd
   cases f with
   | zero=>omega
   | succ f=>
    have ih:=Gn w f (n+(m - 1)) (!ink) (s.drop l) (by rw [List.length_drop];omega) (by omega) t h
    show (List.replicate (m - 1) ink++_).length=_
    rw [List.length_append,List.length_replicate,ih];omega
theorem Cc (w:Nat):∀ (h:Nat) (s:Bytes),(dB w h s).2=true→(dB w h s).1.length=w*h
 | 0,s,_=>rfl
 | h+1,s,hq=>by
  have e:dB w (h+1) s=jD (dB w h) (eH w 0 false s):=rfl
  rw [e] at hq ⊢
  have hl:=Gn w s.length 0 false s (Nat.le_refl _) (Nat.zero_le _)
  generalize eH w 0 false s=q at *
  obtain ⟨q1,q2⟩:=q
  cases q2 with
  | none=>cases hq
  | some t=>
   have hq2:(dB w h t).2=true:=hq
   have ih:=Cc w h t hq2
   have:=hl t rfl
   show (q1++(dB w h t).1).length=_
   rw [List.length_append,ih,Nat.mul_succ]
   dsimp only at this
   omega
theorem DW (w:Nat):∀ (h:Nat) (ab:List Bool) (s:Bytes),ab.length=w→(bY h ab s).2=true→(bY h ab s).1.length=w*h
 | 0,_,_,_,_=>rfl
 | h+1,ab,s,ha,hq=>by
  cases hr:dQ true ab s with
  | none=>
   have e:bY (h+1) ab s=([],false):=by
    show (match dQ true ab s with|none=>_|some (r,n)=>_)=_
    rw [hr]
   rw [e] at hq;cases hq
  | some z=>
   obtain ⟨r,n⟩:=z
   have e:bY (h+1) ab s=(r++(bY h r (s.drop n)).1,(bY h r (s.drop n)).2):=by
    show (match dQ true ab s with|none=>_|some (r,n)=>_)=_
    rw [hr]
   rw [e] at hq ⊢
   have hrl:=(sH hr).1
   have ih:=DW w h r (s.drop n) (by omega) hq
   show (r++(bY h r (s.drop n)).1).length=_
   rw [List.length_append,ih,Nat.mul_succ];omega
theorem xZ {kind:Int} {w h:Nat} {d:Bytes} (hq:(lU kind w h d).2=true):(lU kind w h d).1.length=w*h:=by
 unfold lU at hq ⊢
 split at hq
 ·rename_i h4;rw [if_pos h4];exact (yt w h d (w*h) (w*h)).P
 ·rename_i h4
  rw [if_neg h4]
  split at hq
  ·rename_i h1;rw [if_pos h1];exact Np hq
  ·rename_i h1
   rw [if_neg h1]
   split at hq
   ·rename_i h2;rw [if_pos h2];exact Cc w h _ hq
   ·rename_i h2;rw [if_neg h2];exact DW w h _ _ List.length_replicate hq
theorem E5 (w h:Nat) (p:List Bool) (kind:Int):(headB w h p kind).length=9+(bQ w h p kind).length:=by
 unfold headB
 simp only [List.length_append,aX]
theorem sF (w h:Nat) (p:List Bool) (kind:Int):(fE w h p kind).length=17+(bQ w h p kind).length:=by
 unfold fE
 rw [List.length_append,E5,xK];omega
theorem oZ (w h:Nat) (p:List Bool) (kind:Int):fE w h p kind=dX 1 kind.toNat++(dX 2 w++(dX 2 h++(dX 4 (bQ w h p kind).length++(bQ w h p kind++dU (headB w h p kind))))):=by
 unfold fE
 generalize dU (headB w h p kind)=S
 unfold headB
 simp only [List.append_assoc]
theorem take_len {a b:Bytes} {n:Nat} (h:a.length=n):(a++b).take n=a:=by rw [←h,List.take_left]
theorem tH {a b:Bytes} {n:Nat} (h:a.length=n):(a++b).drop n=b:=by rw [←h,List.drop_left]
theorem pz {a b:Bytes} {n m:Nat} (h:a.length=n):(a++b).drop (n+m)=b.drop m:=by rw [←List.drop_drop,tH h]
theorem V8 (w h:Nat) (p:List Bool) {kind:Int} (hk:1≤kind∧kind≤4):(dK (fE w h p kind):Int)=kind:=by
 unfold dK
 rw [oZ,take_len (aX _ _),yA,Nat.mod_eq_of_lt (by omega)];omega
theorem V4 {w:Nat} (h:Nat) (p:List Bool) (kind:Int) (hw:w≤4000):dW (fE w h p kind)=w:=by
 unfold dW
 rw [oZ,tH (aX _ _),take_len (aX _ _),yA,Nat.mod_eq_of_lt (by omega)]
theorem Wq (w:Nat) {h:Nat} (p:List Bool) (kind:Int) (hh:h≤4000):dH (fE w h p kind)=h:=by
 unfold dH
 rw [oZ,show (3:Nat)=1+2 from rfl,pz (aX _ _),tH (aX _ _),take_len (aX _ _),yA,Nat.mod_eq_of_lt (by omega)]
theorem Ws (w h:Nat) (p:List Bool) (kind:Int) (hd:(bQ w h p kind).length≤100000000):dL (fE w h p kind)=(bQ w h p kind).length:=by
 unfold dL
 rw [oZ,show (5:Nat)=1+(2+2) from rfl,pz (aX _ _),pz (aX _ _),tH (aX _ _),take_len (aX _ _),yA,Nat.mod_eq_of_lt (by omega)]
theorem Rj (w h:Nat) (p:List Bool) (kind:Int):dD (fE w h p kind)=bQ w h p kind:=by
 unfold dD
 have hl:=sF w h p kind
 have e:(fE w h p kind).length - 17=(bQ w h p kind).length:=by omega
 rw [e,oZ,show (9:Nat)=1+(2+(2+4)) from rfl,pz (aX _ _),pz (aX _ _),pz (aX _ _),tH (aX _ _),take_len rfl]
theorem Tm (w h:Nat) (p:List Bool) (kind:Int):dU ((fE w h p kind).take ((fE w h p kind).length - 8))=(fE w h p kind).drop ((fE w h p kind).length - 8):=by
 have hl:=sF w h p kind
 have hl2:=E5 w h p kind
 have e:(fE w h p kind).length - 8=(headB w h p kind).length:=by omega
 rw [e]
 unfold fE
 rw [List.take_left,List.drop_left]
theorem Ku {w h:Nat} {p:List Bool} (g:oV w h p) {kind:Int} (hk:1≤kind∧kind≤4) (hs:(fE w h p kind).length≤2097152):iJ (fE w h p kind)=⟨w,h,p,0⟩:=by
 have hl:=sF w h p kind
 have k1:=V8 w h p hk
 have k2:=V4 h p kind g.w1
 have k3:=Wq w p kind g.h1
 have k4:=Ws w h p kind (by omega)
 have k5:=Rj w h p kind
 have k6:=Tm w h p kind
 have hpg:xk (fE w h p kind)=(p,true):=by
  unfold xk
  rw [k1,k2,k3,k5]
  exact Qi g.w0 g.w1 g.p hk
 unfold iJ
 rw [if_neg (by omega),if_neg (by omega),if_neg (fun h=>h k6),if_neg (by omega)]
 have hsz:aS (w:Int) (h:Int)=0:=by
  have e:((w:Int)*(h:Int))=((w*h:Nat):Int):=(Int.natCast_mul w h).symm
  have g1:=g.w0
  have g2:=g.w1
  have g3:=g.h0
  have g4:=g.h1
  have g5:=g.wh
  exact vW (by omega) (by omega) (by omega) (by omega) (by rw [e];omega)
 have hgood:Kq (fE w h p kind):=⟨by rw [hpg],by rw [hpg,k1,k2,k3]⟩
 rw [k2,k3,if_neg (fun h=>h hsz),if_pos hgood,hpg]
theorem Uu {s:Bytes} (h:(iJ s).e=0):oV (iJ s).w (iJ s).h (iJ s).p∧(1≤(dK s:Int)∧(dK s:Int)≤4)∧fE (iJ s).w (iJ s).h (iJ s).p (dK s)=s∧s.length≤2097152:=by
 unfold iJ at h ⊢
 split at h
 ·cases h
 ·rename_i h1
  rw [if_neg h1]
  split at h
  ·cases h
  ·rename_i h2
   rw [if_neg h2]
   split at h
   ·cases h
   ·rename_i h3
    rw [if_neg h3]
    split at h
    ·cases h
    ·rename_i h4
     rw [if_neg h4]
     split at h
     ·rename_i h5;exact absurd h h5
     ·rename_i h5
      rw [if_neg h5]
      split at h
      ·rename_i h6
       rw [if_pos h6]
       have hz:=fA (Classical.not_not.1 h5)
       have e:((dW s:Int)*(dH s:Int))=((dW s*dH s:Nat):Int):=(Int.natCast_mul _ _).symm
       rw [e] at hz
       refine ⟨⟨by dsimp only;omega,by dsimp only;omega,by dsimp only;omega,by dsimp only;omega,by dsimp only;omega,xZ h6.1⟩,by omega,h6.2,by omega⟩
      ·cases h
def pJ (kind:Int) (w h:Nat) (d:Bytes):List Bool × Bool:=if kind=4 then kJ w h d (w*h) else lU kind w h d
def Ad (s:Bytes):List Bool × Bool:=pJ (dK s) (dW s) (dH s) (dD s)
def JB (s:Bytes):Prop:=(Ad s).2=true∧fE (dW s) (dH s) (Ad s).1 (dK s)=s
instance (s:Bytes):Decidable (JB s):=inferInstanceAs (Decidable (_∧_))
theorem JV {kind:Int} {w h:Nat} {d:Bytes} (hq:(pJ kind w h d).2=true):(pJ kind w h d).1.length=w*h:=by
 unfold pJ at hq ⊢
 split at hq
 ·rename_i h4;rw [if_pos h4];exact P6 w h d (w*h)
 ·rename_i h4;rw [if_neg h4];exact xZ hq
theorem SH {s:Bytes} (hw:0<dW s):(JB s↔Kq s)∧(JB s→(Ad s).1=(xk s).1):=by
 unfold JB Kq Ad xk pJ
 by_cases h4:(dK s:Int)=4
 ·rw [if_pos h4,h4]
  have hp:lU 4 (dW s) (dH s) (dD s)=((dA (dW s) (dH s) (dD s) (dW s*dH s) (dW s*dH s)).P,true):=by unfold lU;rw [if_pos rfl]
  rw [hp]
  dsimp only
  have hn:=(yt (dW s) (dH s) (dD s) (dW s*dH s) (dW s*dH s)).P
  refine ⟨⟨fun ⟨h1,h2⟩=>⟨rfl,by rw [←KQ h1];exact h2⟩,fun ⟨_,h2⟩=>?_⟩,fun ⟨h1,h2⟩=>KQ h1⟩
  have hd:dD s=rE (dW s) (dH s) (dA (dW s) (dH s) (dD s) (dW s*dH s) (dW s*dH s)).P:=by
   have e:=congrArg dD h2
   rw [Rj] at e
   exact e.symm
  generalize (dA (dW s) (dH s) (dD s) (dW s*dH s) (dW s*dH s)).P=P at *
  rw [hd,←hn,MF (dW s) (dH s) P hw]
  exact ⟨rfl,h2⟩
 ·rw [if_neg h4]
  exact ⟨Iff.rfl,fun _=>rfl⟩
end Go.Fv.H
/- shrink.fromAdaptive: the walk. -/
namespace Go.Fv.H
open Go Go.Proofs
theorem H7 (d:Bytes) (hd:d.length≤300000000000000):gX Tryz.prog 140 [.ptr 0 0] [(0,.box 9 [.str d])] 1 (.int .u32 (fH d)) [(0,.box 9 [.str (d.drop 1)])]:=by
 refine gX.aG Tryz.func140 rfl (by decide) (by simp [Tryz.f140]) Lh [.tmp 1] rfl fun w0 T0 _=>?_
 simp only [Tryz.f140,au]
 cases d with
 | nil=>
  (repeat' with_reducible first|intro _|exact dn|refine rn ?_|refine ra ?_ ?_)
  refine kE.auto 1 (Nat.le_refl 1) ?_ rfl ?_<;>simp only [go_sem,Int.natCast_succ,gZ,fH]
  all_goals first|rfl|exact ⟨rfl,rfl⟩
 | cons c d=>
  have h0:(c::d=[])=False:=eq_false (by simp)
  have hl:(c::d).length=d.length+1:=rfl
  have hg:(c::d).getD 0 0=c:=rfl
  have hdr:((c::d).drop 1).take ((c::d).length - 1)=d:=by rw [hl];simp
  have hdr1:(c::d).drop 1=d:=rfl
  have hn:fH (c::d)=c.toNat:=rfl
  rw [hdr1,hn]
  have hcl:c.toNat<256:=c.toNat_lt
  (repeat' with_reducible first|intro _|refine rz ?_|refine ra ?_ ?_|omega|simp only [go_sem,h0,hg,hdr,hl,List.take_length])
  refine kE.auto 1 (Nat.le_refl 1) ?_ rfl ?_<;>simp only [go_sem,Int.natCast_succ,gZ]
theorem LP (a b:Nat) (ha:a<4294967296) (hb:b<4294967296):(BitVec.ofInt 32 (a:Int)).toNat=a∧(BitVec.ofInt 32 (b:Int)).toNat=b:=by
 rw [BitVec.ofInt_natCast,BitVec.toNat_ofNat,BitVec.ofInt_natCast,BitVec.toNat_ofNat]
 exact ⟨Nat.mod_eq_of_lt (by omega),Nat.mod_eq_of_lt (by omega)⟩
theorem WY {a c:Nat} (ha:a*256<4294967296) (hc:c<256):fU .or .u32 ((a*256:Nat):Int) (c:Int)=((a*256+c:Nat):Int):=by
 obtain ⟨e1,e2⟩:=LP (a*256) c (by omega) (by omega)
 show IntKind.u32.wrap (((BitVec.ofInt 32 ((a*256:Nat):Int)) ||| (BitVec.ofInt 32 (c:Int))).toNat:Int)=_
 have h:=Nat.two_pow_add_eq_or_of_lt (i:=8) (b:=c) (by omega) a
 rw [BitVec.toNat_or,e1,e2,Nat.mul_comm a 256,←h]
 exact kS (IQ.2 (by omega))
def Jc (d:Bytes):Nat→Nat
 | 0=>0
 | i+1=>Jc d i*256+fH (d.drop i)
theorem Nq (d:Bytes):∀ i,Jc d i<256 ^ i
 | 0=>Nat.one_pos
 | i+1=>by
  have h1:=Nq d i
  have h2:=iT (d.drop i)
  show Jc d i*256+fH (d.drop i)<_
  rw [Nat.pow_succ];omega
theorem Pm (d:Bytes):four d=Jc d 4:=by
 unfold four
 show _=(((0*256+fH (d.drop 0))*256+fH (d.drop 1))*256+fH (d.drop 2))*256+fH (d.drop 3)
 rw [List.drop_zero];omega
theorem C9 (W H:Nat) (d:Bytes) (n:Nat):∀ i j,i≤j→(dA W H d n i).P.getD j false=false
 | 0,j,_=>by
  show (List.replicate n false).getD j false=false
  rw [List.getD_eq_getElem?_getD,List.getElem?_replicate];split<;>rfl
 | i+1,j,h=>by
  have ih:=C9 W H d n i j (by omega)
  have hP:(dA W H d n (i+1)).P=(dA W H d n i).P.set i ((dA W H d n i).k ((dA W H d n i).c W H i)):=by
   show (((dA W H d n i).mid _ i).norm).P=_
   unfold AD.norm
   split<;>rfl
  rw [hP,List.getD_eq_getElem?_getD,List.getElem?_set_ne (by omega),←List.getD_eq_getElem?_getD]
  exact ih
theorem Gh (W H:Nat) (d:Bytes) (n:Nat):∀ i,(dA W H d n i).data.length≤d.length
 | 0=>by show (d.drop 4).length≤_;rw [List.length_drop];omega
 | i+1=>by
  have ih:=Gh W H d n i
  show (((dA W H d n i).mid _ i).norm).data.length≤_
  unfold AD.norm
  split
  ·show ((dA W H d n i).data.drop 1).length≤_;rw [List.length_drop];omega
  ·exact ih
theorem wrap32 (x:Int):IntKind.u32.wrap x=x%4294967296:=by simp [IntKind.wrap,IntKind.signed,IntKind.bits]
theorem Jr {α:Type} {l:List α} {i:Nat} {d:α} (h:i<l.length):l.set i (l.getD i d)=l:=by
 apply List.ext_getElem?
 intro j
 rw [List.getElem?_set]
 split
 ·rename_i e
  subst e
  rw [getD_lt h,List.getElem?_eq_getElem h]
 ·rfl
set_option maxHeartbeats 16000000 in
theorem AO (w h:Nat) (hw0:0<w) (hw:w≤4000) (hh:h≤4000) (hwh:w*h≤1048576) (d:Bytes) (hd:d.length≤200000000000000) :
  aA Tryz.prog 103 [.str d,.int .i64 w,.int .i64 h] (.agg [.int .i64 w,.int .i64 h,.own 0]) [(0,.row 4 (.bools (dA w h d (w*h) (w*h)).P))]:=by
 refine aA.aG Tryz.func103 rfl (by decide) (by simp [Tryz.f103]) [.cell 6 24] rfl fun w0 T0 _=>?_
 simp only [Tryz.f103,au]
 have e1:(w:Int)*(h:Int)=((w*h:Nat):Int):=(Int.natCast_mul w h).symm
 obtain ⟨n,hn⟩:∃ n,w*h=n:=⟨_,rfl⟩
 rw [hn] at e1 ⊢
 (repeat' with_reducible first|intro _|refine rz ?_|refine ra ?_ ?_|omega|simp only [go_sem,e1])
 refine aI.intro (fun i:Nat=>⟨91,[(23,.int .i64 i),(9,.int .u32 (Jc d i)),(8,.fn 140 [.ptr 0 0]),(7,.ptr 3 0),(6,.ptr 1 0),(3,.ptr 0 0),(1,.int .i64 w),(2,.int .i64 h)],[(0,.box 9 [.str (d.drop i)]),(1,.box 24 [.int .i64 0,.int .i64 0,.nilS]),(2,.row 4 (.bools (List.replicate n false))),(3,.box 24 [.int .i64 w,.int .i64 h,.own 2])],4⟩) (fun i=>i≤4) (fun i=>4 - i) 0 ?_ (Nat.zero_le _) fun i hi=>?_
 ·refine aO.ak rfl ?_ ?_<;>simp only [go_sem,Int.natCast_succ,Jc]
 by_cases hi4:i<4
 ·have f1:((i:Int)<4)=True:=eq_true (by omega)
  have hcd:Jc d (i+1)=Jc d i*256+fH (d.drop i):=rfl
  have hc0:=Nq d i
  have hcp:256 ^ i≤256 ^ 3:=Nat.pow_le_pow_right (by decide) (by omega)
  rw [show (256:Nat) ^ 3=16777216 from rfl] at hcp
  have kn:=H7 (d.drop i) (by rw [List.length_drop];omega)
  rw [List.drop_drop] at kn
  have hnx:=iT (d.drop i)
  have ho:=WY (a:=Jc d i) (c:=fH (d.drop i)) (by omega) hnx
  have hss:kN .u32 ((Jc d i:Nat):Int) 8=((Jc d i*256:Nat):Int):=by
   unfold kN
   rw [show (2:Int) ^ (min (8:Int).toNat IntKind.u32.bits)=256 by rfl];omega
  generalize fH (d.drop i)=nx at *
  generalize Jc d i=cd at *
  generalize d.drop i=dd at *
  (repeat' with_reducible first|intro _|refine rz ?_|refine ra ?_ ?_|omega|simp only [go_sem,f1,hss])
  refine ah.i [0] kn 1 ?_
  (repeat' with_reducible first|intro _|exact dn|refine rn ?_|refine ra ?_ ?_)
  (repeat' with_reducible first|intro _|refine rz ?_|refine ra ?_ ?_|omega|simp only [go_sem,ho])
  refine ⟨i+1,aO.ak rfl ?_ ?_,by omega,by omega⟩<;>simp only [go_sem,Int.natCast_succ,hcd]
 have f1:((i:Int)<4)=False:=eq_false (by omega)
 have e:i=4:=by omega
 subst e
 rw [←Pm]
 (repeat' with_reducible first|intro _|refine rz ?_|refine ra ?_ ?_|omega|simp only [go_sem,f1])
 refine ah.o DK 1 ?_
 (repeat' with_reducible first|intro _|exact dn|refine rn ?_|refine ra ?_ ?_)
 refine aI.intro (fun i:Nat=>⟨91,[(35,.int .i64 i),(34,.int .i64 n),(11,.own 4),(10,.int .u32 (dA w h d n i).span),(9,.int .u32 (dA w h d n i).code),(8,.fn 140 [.ptr 0 0]),(7,.ptr 3 0),(6,.ptr 1 0),(3,.ptr 0 0),(1,.int .i64 w),(2,.int .i64 h)],[(0,.box 9 [.str (dA w h d n i).data]),(1,.box 24 [.int .i64 0,.int .i64 0,.nilS]),(2,.row 4 (.bools (dA w h d n i).P)),(3,.box 24 [.int .i64 w,.int .i64 h,.own 2]),(4,.row 172 (.ints .u32 (iC (dA w h d n i).tab)))],5⟩) (fun i=>i≤n) (fun i=>n - i) 0 ?_ (Nat.zero_le _) fun i hi=>?_
 ·refine aO.ak rfl ?_ ?_<;>simp only [go_sem,Int.natCast_succ]
  all_goals first|rfl|exact ⟨rfl,rfl⟩|exact ⟨rfl,rfl,rfl⟩|(refine ⟨?_,?_⟩<;>rfl)|trace_state
 have hok:=yt w h d n i
 have hdl:=Gh w h d n i
 by_cases hlt:i<n
 rotate_left
 ·have f1:((i:Int)<(n:Int))=False:=eq_false (by omega)
  have e:i=n:=by omega
  subst e
  (repeat' with_reducible first|intro _|refine rz ?_|refine ra ?_ ?_|omega|simp only [go_sem,f1])
  refine aV.of [(0,2)] 1 ?_ (by rfl) ?_<;>simp only [go_sem,Int.natCast_succ,Post]
 have f1:((i:Int)<(n:Int))=True:=eq_true (by omega)
 have hw1:i%w<w:=Nat.mod_lt _ hw0
 have hw2:i / w<h:=Nat.div_lt_of_lt_mul (by omega)
 have d1:(i:Int).tmod (w:Int)=((i%w:Nat):Int):=by rw [Int.tmod_eq_emod_of_nonneg (Int.natCast_nonneg _)];rfl
 have d2:(i:Int).tdiv (w:Int)=((i / w:Nat):Int):=by rw [Int.tdiv_eq_ediv_of_nonneg (Int.natCast_nonneg _)];rfl
 have hnext:dA w h d n (i+1)=((dA w h d n i).mid (jQ w h (dA w h d n i).P ((i%w:Nat):Int) ((i / w:Nat):Int)) i).norm:=rfl
 have hPi:=C9 w h d n i i (Nat.le_refl _)
 have hPs:=Jr (l:=(dA w h d n i).P) (i:=i) (d:=false) (by rw [hok.P];exact hlt)
 rw [hPi] at hPs
 obtain ⟨xx,hxx⟩:∃ xx,i%w=xx:=⟨_,rfl⟩
 obtain ⟨yy,hyy⟩:∃ yy,i / w=yy:=⟨_,rfl⟩
 rw [hxx] at hw1 d1 hnext
 rw [hyy] at hw2 d2 hnext
 have kc:=D5 w h hw hh (dA w h d n i).P (by rw [hok.P,hn]) (xx:Int) (yy:Int) (by omega) (by omega)
 have hc:=lu w h (dA w h d n i).P (xx:Int) (yy:Int)
 have hwne:¬(w:Int)=0:=by omega
 generalize jQ w h (dA w h d n i).P (xx:Int) (yy:Int)=c at *
 generalize dA w h d n i=s at *
 obtain ⟨⟨ht1,ht2⟩,hm1,hm2⟩:=AD.MC hok hc
 have hlo:=hok.lo
 have hhi:=hok.hi
 have hlen:=hok.len
 have hcode:=hok.code
 have hPl:=hok.P
 have hg:=Bj (l:=s.tab) (i:=c) (by rw [hlen];exact hc)
 have hgl:=xI s.tab
 have q1:((s.span:Nat):Int).tdiv 4096=((s.span / 4096:Nat):Int):=by rw [Int.tdiv_eq_ediv_of_nonneg (Int.natCast_nonneg _)];rfl
 have q2:((s.span / 4096:Nat):Int)*((s.tab.getD c 0:Nat):Int)=((s.m c:Nat):Int):=(Int.natCast_mul _ _).symm
 (repeat' with_reducible first|intro _|refine rz ?_|refine ra ?_ ?_|omega|simp only [go_sem,f1])
 refine aQ.lex [] [] (by kernel_rfl) (by kernel_rfl) ?_
 (repeat' with_reducible first|intro _|refine rz ?_|refine ra ?_ ?_|omega|simp only [go_sem,d1,d2,hwne])
 (refine QV.intro (.int .i64 c) ?_ ?_;focus ((repeat' with_reducible first|intro _|exact dn|refine rn ?_|refine ra ?_ ?_);refine ah.k (kc) ?_;(repeat' with_reducible first|intro _|exact dn|refine rn ?_|refine ra ?_ ?_)))
 have hmid:=AD.qo hok hc i
 have hmok:=AD.Ba hmid
 have hmlo:=hmok.lo
 obtain ⟨M,hM⟩:∃ M,s.mid c i=M:=⟨_,rfl⟩
 have hMt:M.tab=s.tab.set c (y9 (s.tab.getD c 0) (s.k c)):=by rw [←hM];rfl
 have hMs0:M.span=if s.k c=true then s.span - s.m c else s.m c:=by rw [←hM];rfl
 have hMc0:M.code=if s.k c=true then s.code - s.m c else s.code:=by rw [←hM];rfl
 have hMd:M.data=s.data:=by rw [←hM];rfl
 have hMP0:M.P=s.P.set i (s.k c):=by rw [←hM];rfl
 rw [hM] at hnext hmlo hmid
 obtain ⟨hmid1,hmid2,hmid3,_,_,_⟩:=hmid
 have kl:=BH (s.tab.getD c 0) (s.k c) ⟨ht1,ht2⟩
 have hset:=wY s.tab c (y9 (s.tab.getD c 0) (s.k c))
 have hlrn:=yQ ⟨ht1,ht2⟩ (s.k c)
 by_cases hk:s.m c≤s.code
 ·have hkt:s.k c=true:=decide_eq_true hk
  rw [hkt] at hMt hMs0 hMc0 hMP0 kl hset hlrn
  rw [if_pos rfl] at hMs0 hMc0
  have hMs:M.span=s.span - s.m c:=hMs0
  have hMc:M.code=s.code - s.m c:=hMc0
  have hMP:M.P=s.P.set i true:=hMP0
  have f2:((s.code:Int)<((s.m c:Nat):Int))=False:=eq_false (by omega)
  have hspI:(s.span:Int) - (s.m c:Int)=((s.span - s.m c:Nat):Int):=by omega
  have hcdI:(s.code:Int) - (s.m c:Int)=((s.code - s.m c:Nat):Int):=by omega
  have hPg:(s.P.set i true).getD i false=true:=by
   rw [List.getD_eq_getElem?_getD,List.getElem?_set_self (by rw [hPl];exact hlt)];rfl
  have hPl2:(s.P.set i true).length=n:=by rw [List.length_set,hPl]
  (repeat' with_reducible first|intro _|refine rz ?_|refine ra ?_ ?_|omega|simp only [go_sem,q1,q2,hg,hgl,hlen,f2,hspI,hcdI])
  refine aQ.lex [13] [] (by kernel_rfl) (by kernel_rfl) ?_
  (repeat' with_reducible first|intro _|refine rz ?_|refine ra ?_ ?_|omega|simp only [go_sem,hgl,hlen,hPg,hPl2,hg,hPl])
  (refine QV.intro (.int .u32 (y9 (s.tab.getD c 0) true)) ?_ ?_;focus ((repeat' with_reducible first|intro _|exact dn|refine rn ?_|refine ra ?_ ?_);refine ah.k (kl) ?_;(repeat' with_reducible first|intro _|exact dn|refine rn ?_|refine ra ?_ ?_)))
  (repeat' with_reducible first|intro _|refine rz ?_|refine ra ?_ ?_|omega|simp only [go_sem,hgl,hlen,hset])
  refine aI.intro (fun r:AD=>⟨91,[(35,.int .i64 i),(34,.int .i64 n),(11,.own 4),(10,.int .u32 r.span),(9,.int .u32 r.code),(8,.fn 140 [.ptr 0 0]),(7,.ptr 3 0),(6,.ptr 1 0),(3,.ptr 0 0),(1,.int .i64 w),(2,.int .i64 h)],[(0,.box 9 [.str r.data]),(1,.box 24 [.int .i64 0,.int .i64 0,.nilS]),(2,.row 4 (.bools r.P)),(3,.box 24 [.int .i64 w,.int .i64 h,.own 2]),(4,.row 172 (.ints .u32 (iC r.tab)))],5⟩) (fun r=>r=M∨r=M.norm) (fun r=>if r.span<16777216 then 1 else 0) M ?_ (.inl rfl) fun r hr=>?_
  ·refine aO.ak rfl ?_ ?_<;>simp only [go_sem,Int.natCast_succ,hMs,hMt,hMc,hMd,hMP]
   all_goals first|rfl|exact ⟨rfl,rfl⟩
  by_cases hs2:r.span<16777216
  ·have hrM:r=M:=hr.resolve_right fun e=>by rw [e] at hs2;omega
   subst hrM
   have hnm:r.norm=⟨r.code*256%4294967296+fH r.data,r.span*256,r.tab,r.data.drop 1,r.P⟩:=by unfold AD.norm;rw [if_pos hs2]
   have f5:((r.span:Int)<16777216)=True:=eq_true (by omega)
   have hss:kN .u32 (r.span:Int) 8=((r.span*256:Nat):Int):=by
    unfold kN
    rw [show (2:Int) ^ (min (8:Int).toNat IntKind.u32.bits)=256 by rfl];omega
   have hsc:kN .u32 (r.code:Int) 8=((r.code*256:Nat):Int):=by
    unfold kN
    rw [show (2:Int) ^ (min (8:Int).toNat IntKind.u32.bits)=256 by rfl];omega
   have hwr:IntKind.u32.wrap ((r.code*256:Nat):Int)=((r.code*256%4294967296:Nat):Int):=by rw [wrap32];omega
   have hmul:r.code*256%4294967296=r.code%16777216*256:=by omega
   have hnx:=iT r.data
   have ho:=WY (a:=r.code%16777216) (c:=fH r.data) (by omega) hnx
   rw [←hmul] at ho
   have kn:=H7 r.data (by rw [hMd];omega)
   (repeat' with_reducible first|intro _|refine rz ?_|refine ra ?_ ?_|omega|simp only [go_sem,f5,hsc])
   refine bW.at _ hwr ?_
   (repeat' with_reducible first|intro _|exact dn|refine rn ?_|refine ra ?_ ?_)
   refine ah.i [0] kn 1 ?_
   (repeat' with_reducible first|intro _|exact dn|refine rn ?_|refine ra ?_ ?_)
   (repeat' with_reducible first|intro _|refine rz ?_|refine ra ?_ ?_|omega|simp only [go_sem,ho,hss])
   refine ⟨r.norm,aO.ak rfl ?_ ?_,.inr rfl,?_⟩
   ·simp only [go_sem,Int.natCast_succ,hnm]
    all_goals first|rfl|omega|(refine ⟨?_,?_⟩<;>first|rfl|omega)
   ·simp only [go_sem,Int.natCast_succ,hnm]
   ·rw [if_pos hs2,if_neg (by omega)];omega
  ·have hrn:r=M.norm:=by
    rcases hr with e|e
    ·rw [e] at hs2 ⊢;unfold AD.norm;rw [if_neg hs2]
    ·exact e
   have f5:((r.span:Int)<16777216)=False:=eq_false (by omega)
   rw [←hrn] at hnext
   (repeat' with_reducible first|intro _|refine rz ?_|refine ra ?_ ?_|omega|simp only [go_sem,f5])
   refine ⟨i+1,aO.ak rfl ?_ ?_,by omega,by omega⟩<;>simp only [go_sem,Int.natCast_succ,hnext]
 ·have hkt:s.k c=false:=decide_eq_false hk
  rw [hkt] at hMt hMs0 hMc0 hMP0 kl hset hlrn
  rw [if_neg (by decide)] at hMs0 hMc0
  have hMs:M.span=s.m c:=hMs0
  have hMc:M.code=s.code:=hMc0
  have hMP:M.P=s.P:=by rw [hMP0,hPs]
  have f2:((s.code:Int)<((s.m c:Nat):Int))=True:=eq_true (by omega)
  (repeat' with_reducible first|intro _|refine rz ?_|refine ra ?_ ?_|omega|simp only [go_sem,q1,q2,hg,hgl,hlen,f2])
  refine aQ.lex [13] [] (by kernel_rfl) (by kernel_rfl) ?_
  (repeat' with_reducible first|intro _|refine rz ?_|refine ra ?_ ?_|omega|simp only [go_sem,hgl,hlen,hg,hPl,hPi])
  (refine QV.intro (.int .u32 (y9 (s.tab.getD c 0) false)) ?_ ?_;focus ((repeat' with_reducible first|intro _|exact dn|refine rn ?_|refine ra ?_ ?_);refine ah.k (kl) ?_;(repeat' with_reducible first|intro _|exact dn|refine rn ?_|refine ra ?_ ?_)))
  (repeat' with_reducible first|intro _|refine rz ?_|refine ra ?_ ?_|omega|simp only [go_sem,hgl,hlen,hset])
  refine aI.intro (fun r:AD=>⟨91,[(35,.int .i64 i),(34,.int .i64 n),(11,.own 4),(10,.int .u32 r.span),(9,.int .u32 r.code),(8,.fn 140 [.ptr 0 0]),(7,.ptr 3 0),(6,.ptr 1 0),(3,.ptr 0 0),(1,.int .i64 w),(2,.int .i64 h)],[(0,.box 9 [.str r.data]),(1,.box 24 [.int .i64 0,.int .i64 0,.nilS]),(2,.row 4 (.bools r.P)),(3,.box 24 [.int .i64 w,.int .i64 h,.own 2]),(4,.row 172 (.ints .u32 (iC r.tab)))],5⟩) (fun r=>r=M∨r=M.norm) (fun r=>if r.span<16777216 then 1 else 0) M ?_ (.inl rfl) fun r hr=>?_
  ·refine aO.ak rfl ?_ ?_<;>simp only [go_sem,Int.natCast_succ,hMs,hMt,hMc,hMd,hMP]
   all_goals first|rfl|exact ⟨rfl,rfl⟩
  by_cases hs2:r.span<16777216
  ·have hrM:r=M:=hr.resolve_right fun e=>by rw [e] at hs2;omega
   subst hrM
   have hnm:r.norm=⟨r.code*256%4294967296+fH r.data,r.span*256,r.tab,r.data.drop 1,r.P⟩:=by unfold AD.norm;rw [if_pos hs2]
   have f5:((r.span:Int)<16777216)=True:=eq_true (by omega)
   have hss:kN .u32 (r.span:Int) 8=((r.span*256:Nat):Int):=by
    unfold kN
    rw [show (2:Int) ^ (min (8:Int).toNat IntKind.u32.bits)=256 by rfl];omega
   have hsc:kN .u32 (r.code:Int) 8=((r.code*256:Nat):Int):=by
    unfold kN
    rw [show (2:Int) ^ (min (8:Int).toNat IntKind.u32.bits)=256 by rfl];omega
   have hwr:IntKind.u32.wrap ((r.code*256:Nat):Int)=((r.code*256%4294967296:Nat):Int):=by rw [wrap32];omega
   have hmul:r.code*256%4294967296=r.code%16777216*256:=by omega
   have hnx:=iT r.data
   have ho:=WY (a:=r.code%16777216) (c:=fH r.data) (by omega) hnx
   rw [←hmul,show r.code*256%4294967296=r.code*256 by omega] at ho
   rw [show r.code*256%4294967296=r.code*256 by omega] at hnm
   have kn:=H7 r.data (by rw [hMd];omega)
   (repeat' with_reducible first|intro _|refine rz ?_|refine ra ?_ ?_|omega|simp only [go_sem,f5,hsc])
   refine ah.i [0] kn 1 ?_
   (repeat' with_reducible first|intro _|exact dn|refine rn ?_|refine ra ?_ ?_)
   (repeat' with_reducible first|intro _|refine rz ?_|refine ra ?_ ?_|omega|simp only [go_sem,ho,hss])
   refine ⟨r.norm,aO.ak rfl ?_ ?_,.inr rfl,?_⟩
   ·simp only [go_sem,Int.natCast_succ,hnm]
    all_goals first|rfl|omega|(refine ⟨?_,?_⟩<;>first|rfl|omega)
   ·simp only [go_sem,Int.natCast_succ,hnm]
   ·rw [if_pos hs2,if_neg (by omega)];omega
  ·have hrn:r=M.norm:=by
    rcases hr with e|e
    ·rw [e] at hs2 ⊢;unfold AD.norm;rw [if_neg hs2]
    ·exact e
   have f5:((r.span:Int)<16777216)=False:=eq_false (by omega)
   rw [←hrn] at hnext
   (repeat' with_reducible first|intro _|refine rz ?_|refine ra ?_ ?_|omega|simp only [go_sem,f5])
   refine ⟨i+1,aO.ak rfl ?_ ?_,by omega,by omega⟩<;>simp only [go_sem,Int.natCast_succ,hnext]
theorem NY {tab:List Bool} {n:Nat} (h:n<tab.length):(tab.map AV.bool).drop n=.bool (tab.getD n false)::(tab.map AV.bool).drop (n+1):=by
 rw [List.drop_eq_getElem_cons (by simpa using h)]
 simp [List.getD,h]
set_option maxHeartbeats 1000000 in
theorem Jz (tab:List Bool) (b:Int) (hl:tab.length=256) (h0:0≤b) (h1:b<256):aA Tryz.prog 170 [.cell (tab.map .bool),.int .u8 b] (.bool (tab.getD b.toNat false)) []:=by
 refine aA.aG Tryz.func170 rfl (by decide) (by simp [Tryz.f170]) [.tmp 4] rfl fun w0 T0 _=>?_
 simp only [Tryz.f170,au]
 have hd:=NY (tab:=tab) (n:=b.toNat) (by omega)
 simp only [go_sem,Nat.mul_one,hd]
 (repeat' first|(with_reducible refine qg.intro fun _=>?_)|((with_reducible refine bn.intro ?_ ?_);(· first|omega|(with_reducible refine bn.intro ?_ ?_<;>omega)|(simp;done)|(simp;omega)))|((with_reducible refine bW.i64 ?_ ?_ ?_);(· omega);(· omega))|((with_reducible refine Ite.decide (fun _=>?_) (fun _=>?_))<;>first|(exfalso;omega)|simp only [go_sem])|((with_reducible refine Ite.bool (fun _=>?_) (fun _=>?_))<;>simp only [go_sem])|(with_reducible refine And.intro ?_ ?_))
 refine aV.auto 0 ?_ rfl ?_<;>simp only [go_sem,Int.natCast_succ,Post]
theorem XU:zeroOf Tryz.prog 163=some (.agg (Array.replicate 256 (.bool false))):=by kernel_rfl
theorem XR:Tryz.prog.cellsOf 163=256:=by kernel_rfl
attribute [go_sem] XU XR
def gy (s:List UInt8):Nat→List Bool
 | 0=>List.replicate 256 false
 | i+1=>(gy s i).set (s.getD i 0).toNat true
theorem oz (s:List UInt8):∀ i,(gy s i).length=256
 | 0=>by simp [gy]
 | i+1=>by simp [gy,oz s i]
set_option maxHeartbeats 1000000 in
theorem IJ (s:List UInt8) (hs:∀ i,i<s.length→(s.getD i 0).toNat<128):aA Tryz.prog 130 [.str s] (.tup [.agg ((gy s s.length).map .bool),.bool true]) []:=by
 refine aA.aG Tryz.func130 rfl (by decide) (by simp [Tryz.f130]) [.cell 2 163,.tmp 3] rfl fun w0 T0 _=>?_
 simp only [Tryz.f130,au]
 simp only [go_sem]
 refine aI.intro (fun i:Nat=>⟨21,[(0,.str s),(2,.ptr 0 0),(4,.int .i64 i)],[(0,.box 163 ((gy s i).map .bool))],1⟩) (fun i=>i≤s.length) (fun i=>s.length - i) 0 ?_ (Nat.zero_le _) fun i hi=>?_
 ·refine aO.ak rfl ?_ ?_<;>simp only [go_sem,Int.natCast_succ,gy]
 have hlen:=oz s i
 simp only [go_sem]
 (repeat' first|(with_reducible refine qg.intro fun _=>?_)|((with_reducible refine bn.intro ?_ ?_);(· first|omega|(with_reducible refine bn.intro ?_ ?_<;>omega)|(simp;done)|(simp;omega)))|((with_reducible refine bW.i64 ?_ ?_ ?_);(· omega);(· omega))|((with_reducible refine Ite.decide (fun _=>?_) (fun _=>?_))<;>first|(exfalso;omega)|simp only [go_sem])|((with_reducible refine Ite.bool (fun _=>?_) (fun _=>?_))<;>simp only [go_sem])|(with_reducible refine And.intro ?_ ?_))
 ·have:=hs i (by omega)
  omega
 ·refine ⟨i+1,aO.ak rfl ?_ ?_,by omega,by omega⟩
  ·simp only [go_sem,Int.natCast_succ]
  ·simp only [go_sem,Int.natCast_succ,gy]
 ·have e:i=s.length:=by omega
  subst e
  have e2:((gy s s.length).map AV.bool).take 256=(gy s s.length).map AV.bool:=List.take_of_length_le (by simp [hlen])
  have e3:spl ((gy s s.length).map AV.bool) 0 ((gy s s.length).map AV.bool)=(gy s s.length).map AV.bool:=O8 rfl
  refine aV.auto 0 ?_ ?_ ?_<;>simp only [go_sem,Int.natCast_succ,Post,e2,e3]
  simp only [go_sem,e2,hlen,List.length_map]
def cutset:List UInt8:=[97,98,99,100,101,102,103,104,105,106,107,108,109,110,111,112,113,114,115,116,117,118,119,120,121,122,48,49,50,51,52,53,54,55,56,57,45]
theorem cut_small:∀ i,i<cutset.length→(cutset.getD i 0).toNat<128:=by decide
end Go.Fv.H
