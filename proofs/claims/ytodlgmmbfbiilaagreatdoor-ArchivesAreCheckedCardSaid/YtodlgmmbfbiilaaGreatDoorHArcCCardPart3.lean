/-
  A part of the proof of the claim: walks over the program's functions and the plain laws that these need. No condition of its own.
-/
import Derived.Test.YtodlgmmbfbiilaaGreatDoorHArcCCardPart1
import Derived.Test.YtodlgmmbfbiilaaGreatDoorFvPart10
import Derived.Test.YtodlgmmbfbiilaaGreatDoorHArcCCardPart2
set_option linter.unusedSimpArgs false
set_option linter.unusedVariables false
set_option linter.unnecessarySimpa false
set_option maxRecDepth 8000
/- Runs of a row: the walk. -/
namespace Go.Fv.H
open Go Go.Proofs
def jA (out:List Int) (ink:Bool) (i:Nat) (p:Bool):List Int × Bool:=
 let out:=if i=0 then out++[0] else out
 let out:=if p=ink then out else out++[0]
 (out.set (out.length - 1) (out.getD (out.length - 1) 0+1),p)
def bD (row:List Bool):Nat→List Int × Bool
 | 0=>([],false)
 | i+1=>jA (bD row i).1 (bD row i).2 i (row.getD i false)
theorem rY (row:List Bool):∀ i,(bD row i).1.length≤i+1∧(0<i→0<(bD row i).1.length)∧∀ x,x∈(bD row i).1→0≤x∧x≤i
 | 0=>by simp [bD]
 | i+1=>by
  obtain ⟨h1,h2,h3⟩:=rY row i
  simp only [bD,jA]
  generalize hl:(if row.getD i false=(bD row i).2 then (if i=0 then (bD row i).1++[0] else (bD row i).1) else (if i=0 then (bD row i).1++[0] else (bD row i).1)++[0])=l
  have a:l.length≤i+2∧0<l.length∧∀ x,x∈l→0≤x∧x≤i:=by
   subst hl
   by_cases e:i=0
   ·subst e
    have z:(bD row 0).1=[]:=rfl
    simp only [z,if_true]
    split
    ·simp
    ·simp
   ·have:=h2 (by omega)
    simp only [if_neg e]
    split
    ·exact ⟨by omega,by omega,h3⟩
    ·simp only [List.length_append,List.length_cons,List.length_nil,List.mem_append,List.mem_singleton]
     refine ⟨by omega,by omega,?_⟩
     rintro x (hx|hx)
     ·exact h3 x hx
     ·omega
  obtain ⟨a1,a2,a3⟩:=a
  have hb:=Jp a3 (Int.le_refl 0) (by omega) (l.length - 1)
  refine ⟨by simp;omega,by simp;omega,fun x hx=>?_⟩
  rcases List.mem_or_eq_of_mem_set hx with hx|hx
  ·have:=a3 x hx;omega
  ·omega
set_option maxHeartbeats 4000000 in
theorem YR (row:List Bool) (h:row.length≤4000):aA Tryz.prog 155 [.ro (.bools row)] (.own 0) [(0,.row 3 (.ints .i64 (bD row row.length).1))]:=by
 refine aA.aG Tryz.func155 rfl (by decide) (by simp [Tryz.f155]) [.tmp 2] rfl fun w0 T0 _=>?_
 simp only [Tryz.f155,au]
 (repeat' with_reducible first|intro _|exact dn|refine rn ?_|refine ra ?_ ?_)
 refine aF.intro (fun i:Nat=>⟨36,[(7,.ro (.bools row)),(8,.int .i64 row.length),(9,.int .i64 i),(3,.own 0),(4,.bool (bD row i).2)],[(0,.row 3 (.ints .i64 (bD row i).1))],1⟩) (fun i=>i≤row.length) (fun i=>row.length - i) 0 ?_ (Nat.zero_le _) fun i hi=>?_
 ·refine aK.ak rfl ?_ ?_<;>simp only [go_sem,Int.natCast_succ,bD]
 obtain ⟨k1,k2,k3⟩:=rY row i
 by_cases hlt:i<row.length
 rotate_left
 ·have f1:((i:Int)<(row.length:Int))=False:=eq_false (by omega)
  have e:i=row.length:=by omega
  subst e
  (repeat' with_reducible first|intro _|refine rz ?_|refine ra ?_ ?_|omega|simp only [go_sem,f1])
  refine aU.auto 1 ?_ rfl ?_<;>simp only [go_sem,Int.natCast_succ,Post]
 have f1:((i:Int)<(row.length:Int))=True:=eq_true (by omega)
 have hnx:bD row (i+1)=jA (bD row i).1 (bD row i).2 i (row.getD i false):=rfl
 by_cases h0:i=0
 ·subst h0
  have z:bD row 0=([],false):=rfl
  have g1:([0]:List Int).getD 0 0=0:=rfl
  have g2:([0,0]:List Int).getD 1 0=0:=rfl
  rw [z] at hnx ⊢
  cases hp:row.getD 0 false with
  | true=>
   rw [hp] at hnx
   have hnx:bD row 1=([0,1],true):=hnx
   (repeat' with_reducible first|intro _|refine rz ?_|refine ra ?_ ?_|omega|simp only [go_sem,f1,hp,g1,g2,Int.natCast_zero])
   refine ⟨1,aK.ak rfl ?_ ?_,by omega,by omega⟩<;>simp only [go_sem,Int.natCast_succ,hnx]
   all_goals first|rfl|omega
  | false=>
   rw [hp] at hnx
   have hnx:bD row 1=([1],false):=hnx
   (repeat' with_reducible first|intro _|refine rz ?_|refine ra ?_ ?_|omega|simp only [go_sem,f1,hp,g1,g2,Int.natCast_zero])
   refine ⟨1,aK.ak rfl ?_ ?_,by omega,by omega⟩<;>simp only [go_sem,Int.natCast_succ,hnx]
   all_goals first|rfl|omega
 have f0:((i:Int)=0)=False:=eq_false (by omega)
 have hl:=k2 (by omega)
 generalize hs:bD row i=st at *
 obtain ⟨l,ink⟩:=st
 dsimp only at *
 have hb:=Jp (l:=l) (B:=i) k3 (Int.le_refl 0) (by omega) (l.length - 1)
 have hix:((l.length:Int) - 1).toNat=l.length - 1:=by omega
 by_cases hp:row.getD i false=ink
 ·have hnx:bD row (i+1)=(l.set (l.length - 1) (l.getD (l.length - 1) 0+1),row.getD i false):=by rw [hnx];unfold jA;rw [if_neg h0];dsimp only;rw [if_pos hp]
  have hp2:(¬row.getD i false=ink)=False:=eq_false fun q=>q hp
  (repeat' with_reducible first|intro _|refine rz ?_|refine ra ?_ ?_|omega|simp only [go_sem,f1,f0,hp,hix])
  refine ⟨i+1,aK.ak rfl ?_ ?_,by omega,by omega⟩<;>simp only [go_sem,Int.natCast_succ,hnx,hp]
 ·have hnx:bD row (i+1)=((l++[0]).set l.length 1,row.getD i false):=by
   rw [hnx];unfold jA;rw [if_neg h0];dsimp only;rw [if_neg hp]
   have e1:(l++[(0:Int)]).length - 1=l.length:=by simp
   have e2:(l++[(0:Int)]).getD l.length 0=0:=by simp [List.getD]
   rw [e1,e2];rfl
  have hix2:((l.length+1:Nat):Int) - 1=(l.length:Int):=by omega
  have e2:(l++[(0:Int)]).getD l.length 0=0:=by simp [List.getD]
  (repeat' with_reducible first|intro _|refine rz ?_|refine ra ?_ ?_|omega|simp only [go_sem,f1,f0,hp,hix2,Int.toNat_natCast,e2])
  refine ⟨i+1,aK.ak rfl ?_ ?_,by omega,by omega⟩<;>simp only [go_sem,Int.natCast_succ,hnx]
set_option maxHeartbeats 4000000 in
theorem Qn (row:List Bool) (h:row.length≤4000):aA Tryz.prog 58 [.ro (.bools row)] (.own 0) [(0,.row 3 (.ints .i64 (bD row row.length).1))]:=by
 refine aA.aG Tryz.func58 rfl (by decide) (by simp [Tryz.f58]) [.tmp 2] rfl fun w0 T0 _=>?_
 simp only [Tryz.f58,au]
 (repeat' with_reducible first|intro _|exact dn|refine rn ?_|refine ra ?_ ?_)
 refine aF.intro (fun i:Nat=>⟨34,[(7,.ro (.bools row)),(8,.int .i64 row.length),(9,.int .i64 i),(3,.own 0),(4,.bool (bD row i).2)],[(0,.row 3 (.ints .i64 (bD row i).1))],1⟩) (fun i=>i≤row.length) (fun i=>row.length - i) 0 ?_ (Nat.zero_le _) fun i hi=>?_
 ·refine aK.ak rfl ?_ ?_<;>simp only [go_sem,Int.natCast_succ,bD]
 obtain ⟨k1,k2,k3⟩:=rY row i
 by_cases hlt:i<row.length
 rotate_left
 ·have f1:((i:Int)<(row.length:Int))=False:=eq_false (by omega)
  have e:i=row.length:=by omega
  subst e
  (repeat' with_reducible first|intro _|refine rz ?_|refine ra ?_ ?_|omega|simp only [go_sem,f1])
  refine aU.auto 1 ?_ rfl ?_<;>simp only [go_sem,Int.natCast_succ,Post]
 have f1:((i:Int)<(row.length:Int))=True:=eq_true (by omega)
 have hnx:bD row (i+1)=jA (bD row i).1 (bD row i).2 i (row.getD i false):=rfl
 by_cases h0:i=0
 ·subst h0
  have z:bD row 0=([],false):=rfl
  have g1:([0]:List Int).getD 0 0=0:=rfl
  have g2:([0,0]:List Int).getD 1 0=0:=rfl
  rw [z] at hnx ⊢
  cases hp:row.getD 0 false with
  | true=>
   rw [hp] at hnx
   have hnx:bD row 1=([0,1],true):=hnx
   (repeat' with_reducible first|intro _|refine rz ?_|refine ra ?_ ?_|omega|simp only [go_sem,f1,hp,g1,g2,Int.natCast_zero])
   refine ⟨1,aK.ak rfl ?_ ?_,by omega,by omega⟩<;>simp only [go_sem,Int.natCast_succ,hnx]
   all_goals first|rfl|omega
  | false=>
   rw [hp] at hnx
   have hnx:bD row 1=([1],false):=hnx
   (repeat' with_reducible first|intro _|refine rz ?_|refine ra ?_ ?_|omega|simp only [go_sem,f1,hp,g1,g2,Int.natCast_zero])
   refine ⟨1,aK.ak rfl ?_ ?_,by omega,by omega⟩<;>simp only [go_sem,Int.natCast_succ,hnx]
   all_goals first|rfl|omega
 have f0:((i:Int)=0)=False:=eq_false (by omega)
 have hl:=k2 (by omega)
 generalize hs:bD row i=st at *
 obtain ⟨l,ink⟩:=st
 dsimp only at *
 have hb:=Jp (l:=l) (B:=i) k3 (Int.le_refl 0) (by omega) (l.length - 1)
 have hix:((l.length:Int) - 1).toNat=l.length - 1:=by omega
 by_cases hp:row.getD i false=ink
 ·have hnx:bD row (i+1)=(l.set (l.length - 1) (l.getD (l.length - 1) 0+1),row.getD i false):=by rw [hnx];unfold jA;rw [if_neg h0];dsimp only;rw [if_pos hp]
  have hp2:(¬row.getD i false=ink)=False:=eq_false fun q=>q hp
  (repeat' with_reducible first|intro _|refine rz ?_|refine ra ?_ ?_|omega|simp only [go_sem,f1,f0,hp,hix])
  refine ⟨i+1,aK.ak rfl ?_ ?_,by omega,by omega⟩<;>simp only [go_sem,Int.natCast_succ,hnx,hp]
 ·have hnx:bD row (i+1)=((l++[0]).set l.length 1,row.getD i false):=by
   rw [hnx];unfold jA;rw [if_neg h0];dsimp only;rw [if_neg hp]
   have e1:(l++[(0:Int)]).length - 1=l.length:=by simp
   have e2:(l++[(0:Int)]).getD l.length 0=0:=by simp [List.getD]
   rw [e1,e2];rfl
  have hix2:((l.length+1:Nat):Int) - 1=(l.length:Int):=by omega
  have e2:(l++[(0:Int)]).getD l.length 0=0:=by simp [List.getD]
  (repeat' with_reducible first|intro _|refine rz ?_|refine ra ?_ ?_|omega|simp only [go_sem,f1,f0,hp,hix2,Int.toNat_natCast,e2])
  refine ⟨i+1,aK.ak rfl ?_ ?_,by omega,by omega⟩<;>simp only [go_sem,Int.natCast_succ,hnx]
end Go.Fv.H
/- Rows coded by the row above, in plain words. -/
namespace Go.Fv.H
open Go
def KW (r:List Bool) (i:Nat):Bool:=if i=0 then false else r.getD (i - 1) false
def dS (r:List Bool) (i:Nat):Nat:=if h:i<r.length then (if r.getD i false=KW r i then dS r (i+1) else i) else r.length
termination_by r.length - i
def fV (r:List Bool) (i:Nat) (c:Bool):Nat:=if dS r i<r.length∧r.getD (dS r i) false≠c then dS r (dS r i+1) else dS r i
theorem wQ {r:List Bool} {i:Nat} (h:i<r.length):dS r i=if r.getD i false=KW r i then dS r (i+1) else i:=by rw [dS,dif_pos h]
theorem iH {r:List Bool} {i:Nat} (h:¬i<r.length):dS r i=r.length:=by rw [dS,dif_neg h]
theorem jv (r:List Bool) (i:Nat):KW r (i+1)=r.getD i false:=by unfold KW;rw [if_neg (by omega)];rfl
theorem gW (r:List Bool) (i:Nat):dS r i≤r.length:=by
 by_cases h:i<r.length
 ·rw [wQ h]
  split
  ·exact gW r (i+1)
  ·omega
 ·rw [iH h];exact Nat.le_refl _
termination_by r.length - i
theorem jf {r:List Bool} {i:Nat} (hi:i≤r.length):i≤dS r i:=by
 by_cases h:i<r.length
 ·rw [wQ h]
  split
  ·have:=jf (r:=r) (i:=i+1) (by omega);omega
  ·omega
 ·rw [iH h];omega
termination_by r.length - i
theorem D5 {r:List Bool} {i j:Nat} (h1:i≤j) (h2:j<dS r i):r.getD j false=KW r i:=by
 by_cases h:i<r.length
 ·rw [wQ h] at h2
  split at h2
  ·rename_i he
   by_cases e:j=i
   ·subst e;exact he
   ·have:=D5 (r:=r) (i:=i+1) (j:=j) (by omega) h2
    rw [this,jv,he]
  ·omega
 ·rw [iH h] at h2;omega
termination_by r.length - i
theorem oI {r:List Bool} {i:Nat} (h2:dS r i<r.length):r.getD (dS r i) false=!KW r i:=by
 by_cases h:i<r.length
 ·rw [wQ h] at h2 ⊢
  split
  ·rename_i he
   rw [if_pos he] at h2
   rw [oI h2,jv,he]
  ·rename_i he
   generalize r.getD i false=a at he ⊢
   generalize KW r i=b at he ⊢
   cases a<;>cases b<;>simp_all
 ·rw [iH h] at h2;omega
termination_by r.length - i
theorem kG {r:List Bool} {i:Nat} (hi:i≤r.length) (c:Bool):i≤fV r i c∧fV r i c≤r.length:=by
 unfold fV
 have h1:=jf hi
 have h2:=gW r i
 split
 ·rename_i h
  have h3:=jf (r:=r) (i:=dS r i+1) (by omega)
  exact ⟨by omega,gW _ _⟩
 ·exact ⟨h1,h2⟩
def fH:Bytes:=[48,48,48,49]
def eH:Bytes:=[48,48,49]
def aO:List Bytes:=[[48,48,48,48,48,49,48],[48,48,48,48,49,48],[48,49,48],[49],[48,49,49],[48,48,48,48,49,49],[48,48,48,48,48,49,49]]
structure LSt where
 c:Bytes
 p:Nat
 k:Bool
def aW (row above:List Bool) (p:Nat) (ink:Bool):LSt:=
 if dS above (fV above p (!ink)+1)<dS row p then ⟨fH,dS above (fV above p (!ink)+1)+1,ink⟩
 else if dS row p≤fV above p (!ink)+3∧fV above p (!ink)≤dS row p+3 then ⟨aO.getD (dS row p+3 - fV above p (!ink)) [],dS row p+1,!ink⟩
 else ⟨eH++(dV (dS row p - (p - 1)+1)++dV (dS row (dS row p+1) - dS row p+1)),dS row (dS row p+1)+1,ink⟩
theorem lD {row above:List Bool} (hw:above.length=row.length) {p:Nat} (hp:p≤row.length) (ink:Bool):p<(aW row above p ink).p∧(aW row above p ink).p≤row.length+1:=by
 have h1:=jf hp
 have h2:=gW row p
 obtain ⟨b1,b2⟩:=kG (r:=above) (i:=p) (by omega) (!ink)
 have b3:=gW above (fV above p (!ink)+1)
 unfold aW
 split
 ·dsimp only
  by_cases h:fV above p (!ink)<above.length
  ·have:=jf (r:=above) (i:=fV above p (!ink)+1) (by omega);omega
  ·rw [iH (r:=above) (i:=fV above p (!ink)+1) (by omega)];omega
 ·split
  ·dsimp only;omega
  ·dsimp only
   have h3:=gW row (dS row p+1)
   by_cases h:dS row p<row.length
   ·have:=jf (r:=row) (i:=dS row p+1) (by omega);omega
   ·rw [iH (r:=row) (i:=dS row p+1) (by omega)];omega
def mX (row above:List Bool) (p:Nat) (ink:Bool):Bytes:=
 if h:p≤row.length then
  if h2:p<(aW row above p ink).p then (aW row above p ink).c++mX row above (aW row above p ink).p (aW row above p ink).k else []
 else []
termination_by row.length+1 - p
theorem oq {row above:List Bool} (hw:above.length=row.length) {p:Nat} (hp:p≤row.length) (ink:Bool):mX row above p ink=(aW row above p ink).c++mX row above (aW row above p ink).p (aW row above p ink).k:=by
 conv=>lhs;rw [mX]
 rw [dif_pos hp,dif_pos (lD hw hp ink).1]
theorem kP {row above:List Bool} {p:Nat} (hp:¬p≤row.length) (ink:Bool):mX row above p ink=[]:=by rw [mX,dif_neg hp]
def eX (row above:List Bool):Bytes:=if row.length=0 then [] else mX row above 0 false
def codeOf (s:Bytes):Nat:=
 if fH.isPrefixOf s=true then 0
 else if (aO.getD 0 []).isPrefixOf s=true then 1
 else if (aO.getD 1 []).isPrefixOf s=true then 2
 else if (aO.getD 2 []).isPrefixOf s=true then 3
 else if (aO.getD 3 []).isPrefixOf s=true then 4
 else if (aO.getD 4 []).isPrefixOf s=true then 5
 else if (aO.getD 5 []).isPrefixOf s=true then 6
 else if (aO.getD 6 []).isPrefixOf s=true then 7
 else if eH.isPrefixOf s=true then 8 else 9
theorem LG (r:Bytes):codeOf (fH++r)=0:=by rfl
theorem O8 (r:Bytes):codeOf (eH++r)=8:=by rfl
theorem LD (k:Nat) (h:k≤6) (r:Bytes):codeOf (aO.getD k []++r)=k+1:=by
 have:k=0∨k=1∨k=2∨k=3∨k=4∨k=5∨k=6:=by omega
 rcases this with rfl|rfl|rfl|rfl|rfl|rfl|rfl<;>rfl
structure Zn where
 p:Nat
 k:Bool
 px:List Bool
 n:Nat
def sJ (strict:Bool) (w:Nat) (s:Bytes) (p:Nat) (ink:Bool):Option Zn:=
 match pG (s.drop 3) with
 | none=>none
 | some (m1,l1)=>match pG (s.drop (3+l1)) with
  | none=>none
  | some (m2,l2)=>
   if (strict=true→p≤p - 1+(m1 - 1))∧p - 1+(m1 - 1)+(m2 - 1)≤w∧p≤p - 1+(m1 - 1)+(m2 - 1) then
    some ⟨p - 1+(m1 - 1)+(m2 - 1)+1,ink,List.replicate (m1 - 1) ink++List.replicate (m2 - 1) (!ink),3+l1+l2⟩
   else none
def rdStep (strict:Bool) (above:List Bool) (s:Bytes) (p:Nat) (ink:Bool):Option Zn:=
 if codeOf s=0 then some ⟨dS above (fV above p (!ink)+1)+1,ink,List.replicate (dS above (fV above p (!ink)+1) - (p - 1)) ink,4⟩
 else if codeOf s≤7 then
  (if p+4≤fV above p (!ink)+codeOf s∧fV above p (!ink)+codeOf s≤above.length+4 then
   some ⟨fV above p (!ink)+codeOf s - 4+1,!ink,List.replicate (fV above p (!ink)+codeOf s - 4 - (p - 1)) ink,(aO.getD (codeOf s - 1) []).length⟩ else none)
 else if codeOf s=8 then sJ strict above.length s p ink
 else none
end Go.Fv.H
/- The data of a page, in plain words. -/
namespace Go.Fv.H
open Go Go.Proofs
def rowP (w:Nat) (p:List Bool) (y:Nat):List Bool:=(p.drop (y*w)).take w
theorem iD {w h:Nat} {p:List Bool} (hp:p.length=w*h) {y:Nat} (hy:y<h):(rowP w p y).length=w:=by
 unfold rowP
 have h1:y*w+w≤h*w:=by rw [←Nat.succ_mul];exact Nat.mul_le_mul_right _ hy
 rw [List.length_take,List.length_drop,hp,Nat.mul_comm w h];omega
def sS (w:Nat) (p:List Bool) (y:Nat):List Bool:=if y=0 then List.replicate w false else rowP w p (y - 1)
def dM (l:List Int):Bytes:=l.flatMap fun n=>dV (n+1).toNat
def iY (r:List Bool):List Int:=(bD r r.length).1
def je (w:Nat) (p:List Bool) (y:Nat):Bytes:=(List.range y).flatMap fun j=>dM (iY (rowP w p j))
def eU (w:Nat) (p:List Bool) (y:Nat):Bytes:=(List.range y).flatMap fun j=>eX (rowP w p j) (sS w p j)
def bU (w h:Nat) (p:List Bool) (kind:Int):Bytes:=
 if kind=1 then jJ (fZ p) else if kind=4 then sV w h p else if kind=2 then jJ (je w p h) else jJ (eU w p h)
def headB (w h:Nat) (p:List Bool) (kind:Int):Bytes:=bV 1 kind.toNat++bV 2 w++bV 2 h++bV 4 (bU w h p kind).length++bU w h p kind
def dY (w h:Nat) (p:List Bool) (kind:Int):Bytes:=headB w h p kind++bY (headB w h p kind)
theorem Xn (w h:Nat) (hw:w≤4000) (hh:h≤4000) (p:List Bool) (hp:p.length=w*h) (y:Nat) (hy:y<h) :
  aA Tryz.prog 156 [.agg [.int .i64 w,.int .i64 h,.ro (.bools p)],.int .i64 y] (.ro (.bools (rowP w p y))) []:=by
 have h1:y*w+w≤h*w:=by rw [←Nat.succ_mul];exact Nat.mul_le_mul_right _ hy
 have h2:h*w≤4000*4000:=Nat.mul_le_mul hh hw
 have h3:w*h=h*w:=Nat.mul_comm _ _
 have e1:(y:Int)*(w:Int)=((y*w:Nat):Int):=(Int.natCast_mul y w).symm
 have e2:((y:Int)+1)*(w:Int)=((y*w+w:Nat):Int):=by rw [Int.add_mul,Int.one_mul,e1];omega
 have e3:y*w+w - y*w=w:=by omega
 generalize hyw:y*w=a at *
 refine aA.aG Tryz.func156 rfl (by decide) (by simp [Tryz.f156]) [.tmp 4] rfl fun w0 T0 _=>?_
 simp only [Tryz.f156,au]
 (repeat' with_reducible first|intro _|refine rz ?_|refine ra ?_ ?_|omega|simp only [go_sem,e1,e2])
 refine aU.auto 0 ?_ rfl ?_<;>simp only [go_sem,Int.natCast_succ,Post,rowP,hyw,e3]
end Go.Fv.H
/- Reading a number, step by step. -/
namespace Go.Fv.H
open Go
theorem zX (c:UInt8) (s:Bytes):aJ (c::s)=if c=48 then aJ s+1 else 0:=by
 unfold aJ
 rw [List.takeWhile_cons]
 by_cases h:c=48
 ·rw [if_pos h,if_pos (by simp [XH,h]),List.length_cons]
 ·rw [if_neg h,if_neg (by simp [XH,h])];rfl
theorem Ju:∀ s:Bytes,aJ s≤s.length
 | []=>Nat.le_refl _
 | c::s=>by
  have:=Ju s
  rw [zX,List.length_cons];split<;>omega
theorem Jt:∀ (s:Bytes) (i:Nat),i<aJ s→s.getD i 0=48
 | [],i,h=>by cases h
 | c::s,i,h=>by
  rw [zX] at h
  split at h
  ·rename_i hc
   cases i with
   | zero=>simpa using hc
   | succ i=>simpa using Jt s i (by omega)
  ·omega
theorem zY:∀ s:Bytes,aJ s<s.length→s.getD (aJ s) 0≠48
 | [],h=>by cases h
 | c::s,h=>by
  rw [zX] at h ⊢
  split
  ·rename_i hc
   rw [if_pos hc,List.length_cons] at h
   simpa using zY s (by omega)
  ·rename_i hc
   simpa using hc
theorem MH {s:Bytes} (h:2*aJ s+1≤s.length):((s.drop (aJ s)).take (aJ s+1)).length=aJ s+1∧((s.drop (aJ s)).take (aJ s+1)).getD 0 0=s.getD (aJ s) 0:=by
 refine ⟨by rw [List.length_take,List.length_drop];omega,?_⟩
 rw [List.getD_eq_getElem?_getD,List.getElem?_take,if_pos (by omega),List.getElem?_drop,List.getD_eq_getElem?_getD,Nat.add_zero]
theorem d01 {c:UInt8} (h:gI c=true):c.toNat - 48≤1:=by
 have h3:c=48∨c=49:=by simpa [gI] using h
 rcases h3 with rfl|rfl<;>decide
theorem Tc:∀ (l:Bytes) (a:Nat),l.all gI=true→l.foldl (fun a c=>2*a+(c.toNat - 48)) a+1≤(a+1)*2 ^ l.length
 | [],a,_=>by simp
 | c::l,a,h=>by
  rw [List.all_cons,Bool.and_eq_true] at h
  have h1:=d01 h.1
  have h2:=Tc l (2*a+(c.toNat - 48)) h.2
  rw [List.foldl_cons,List.length_cons,Nat.pow_succ]
  have h3:(2*a+(c.toNat - 48)+1)*2 ^ l.length≤(2*(a+1))*2 ^ l.length:=Nat.mul_le_mul_right _ (by omega)
  have h4:2*(a+1)*2 ^ l.length=(a+1)*(2 ^ l.length*2):=by rw [Nat.mul_comm 2,Nat.mul_assoc,Nat.mul_comm 2]
  omega
theorem vV (l:Bytes) (h:l.all gI=true):iL l<2 ^ l.length:=by
 have:=Tc l 0 h
 unfold iL
 omega
theorem AB {l:Bytes} {p:Nat} (h:p<l.length):iL (l.take (p+1))=2*iL (l.take p)+((l.getD p 0).toNat - 48):=by
 rw [List.take_succ_eq_append_getElem h,IZ]
 simp [List.getD,h]
theorem U8 {l:Bytes} {p:Nat} (h:p<l.length):(l.take (p+1)).all gI=((l.take p).all gI && gI (l.getD p 0)):=by
 rw [List.take_succ_eq_append_getElem h,List.all_append]
 simp [List.getD,h]
theorem zI {l:Bytes} {p:Nat} (h:p<l.length) (ha:l.all gI=true):l.getD p 0=48∨l.getD p 0=49:=by
 have:=List.all_eq_true.1 ha (l.getD p 0) (by simp [List.getD,h])
 simpa [gI] using this
theorem ZT (c:UInt8):gI c=decide (c.toNat=48∨c.toNat=49):=by
 unfold gI
 have e1:c=48↔c.toNat=48:=UInt8.toNat_inj.symm
 have e2:c=49↔c.toNat=49:=UInt8.toNat_inj.symm
 simp only [e1,e2]
theorem XE {c:UInt8} {l:Bytes} (h:(c::l).getD 0 0=49):1≤iL (c::l):=by
 have hc:c=49:=by simpa using h
 subst hc
 have hm:∀ (l:Bytes) (a:Nat),1≤a→1≤l.foldl (fun a c=>2*a+(c.toNat - 48)) a:=by
  intro l
  induction l with
  | nil=>intro a h;exact h
  | cons d l ih=>intro a h;rw [List.foldl_cons];exact ih _ (by omega)
 exact hm l _ (by decide)
theorem oV {s:Bytes} (h:¬(aJ s≤20∧2*aJ s+1≤s.length∧((s.drop (aJ s)).take (aJ s+1)).all gI=true∧iL ((s.drop (aJ s)).take (aJ s+1))≤1048576)):pG s=none:=by
 unfold pG;rw [if_neg h]
theorem NC {s:Bytes} (h:aJ s≤20∧2*aJ s+1≤s.length∧((s.drop (aJ s)).take (aJ s+1)).all gI=true∧iL ((s.drop (aJ s)).take (aJ s+1))≤1048576) :
  pG s=some (iL ((s.drop (aJ s)).take (aJ s+1)),2*aJ s+1):=by
 unfold pG;rw [if_pos h]
def Ce (s:Bytes):Int:=match pG s with|some (n,_)=>n|none=>0
def Cc (s:Bytes):Int:=match pG s with|some (_,m)=>m|none=>0
def Gp (e:Int) (s:Bytes):Int:=match pG s with|some _=>0|none=>e
end Go.Fv.H
/- strconv.ParseInt in base 2. -/
namespace Go.Fv.H
open Go Go.Proofs
theorem Rf (l:Bytes):(aj l).length=l.length:=by unfold aj;rw [List.length_map]
theorem Q9 {b:Bytes} {i:Nat} (h:i<b.length):(aj b).getD i 0=((b.getD i 0).toNat:Int):=by
 unfold aj
 simp [List.getD,h]
set_option maxHeartbeats 4000000 in
theorem Ur (l:Bytes) (h1:l.all gI=true) (h0:l≠[]) (hl:l.length≤21) :
  aA Tryz.prog 136 [.str l,.int .i64 2,.int .i64 64] (.tup [.int .u64 (iL l),.raw .nilIface]) []:=by
 have hv:=vV l h1
 refine aA.aG Tryz.func136 rfl (by decide) (by simp [Tryz.f136]) [.tmp 6,.tmp 7] rfl fun w0 T0 _=>?_
 simp only [Tryz.f136,au]
 (repeat' with_reducible first|intro _|refine rz ?_|refine ra ?_ ?_|omega|simp only [go_sem,h0])
 refine dF.at 0 (by decide) ?_
 refine dF.at 18446744073709551615 (by decide) ?_
 (repeat' with_reducible first|intro _|exact dn|refine rn ?_|refine ra ?_ ?_)
 have hbl:=Rf l
 refine aF.intro (fun i:Nat=>⟨172,[(101,.int .i64 i),(100,.int .i64 l.length),(99,.own 0),(13,.int .u64 (iL (l.take i))),(12,.bool false),(11,.int .u64 18446744073709551615),(10,.int .u64 9223372036854775808),(9,.str l),(8,.bool false),(0,.str l),(1,.int .i64 2),(2,.int .i64 64)],[(0,.row 5 (.ints .u8 (aj l)))],1⟩) (fun i=>i≤l.length) (fun i=>l.length - i) 0 ?_ (Nat.zero_le _) fun i hi=>?_
 ·refine aK.ak rfl ?_ ?_<;>simp only [go_sem,Int.natCast_succ,hbl]
  rfl
 have hcut:l.take l.length=l:=List.take_length
 by_cases hlt:i<l.length
 ·have hb:(aj l).getD i 0=((l.getD i 0).toNat:Int):=Q9 hlt
  have hs:=AB hlt
  have ha:=zI hlt h1
  have hv2:=vV (l.take (i+1)) (by rw [List.all_eq_true] at h1 ⊢;intro x hx;exact h1 x (List.mem_of_mem_take hx))
  have hp:(2:Nat) ^ (l.take (i+1)).length≤2 ^ 21:=Nat.pow_le_pow_right (by decide) (by rw [List.length_take];omega)
  rw [show (2:Nat) ^ 21=2097152 from rfl] at hp
  have hc:(l.getD i 0).toNat=48∨(l.getD i 0).toNat=49:=by rcases ha with e|e<;>rw [e]<;>decide
  generalize l.getD i 0=c at *
  generalize iL (l.take i)=v at *
  have hcc:((c.toNat:Nat):Int) - 48=((c.toNat - 48:Nat):Int):=by omega
  generalize c.toNat=cn at *
  have f1:((cn:Int)=95)=False:=eq_false (by omega)
  have f2:(48≤(cn:Int))=True:=eq_true (by omega)
  have f3:((cn:Int)≤57)=True:=eq_true (by omega)
  (repeat' with_reducible first|intro _|refine rz ?_|refine ra ?_ ?_|omega|simp only [go_sem,hb,hbl,f1,f2,f3])
  refine ⟨i+1,aK.ak rfl ?_ ?_,by omega,by omega⟩<;>simp only [go_sem,Int.natCast_succ,hs]
  all_goals omega
 ·have e:i=l.length:=by omega
  subst e
  rw [hcut]
  (repeat' with_reducible first|intro _|refine rz ?_|refine ra ?_ ?_|omega|simp only [go_sem,hbl])
  refine aU.auto 0 ?_ rfl ?_<;>simp only [go_sem,Int.natCast_succ,Post]
theorem Um (l:Bytes) (h1:l.all gI=true) (h0:l≠[]) (hl:l.length≤21) :
  aA Tryz.prog 183 [.str l,.int .i64 2,.int .i64 64] (.tup [.int .i64 (iL l),.raw .nilIface]) []:=by
 have k:=Ur l h1 h0 hl
 have hv:=vV l h1
 have hp:(2:Nat) ^ l.length≤2 ^ 21:=Nat.pow_le_pow_right (by decide) hl
 rw [show (2:Nat) ^ 21=2097152 from rfl] at hp
 have hlen:0<l.length:=List.length_pos_iff.2 h0
 have ha:=zI hlen h1
 have hc:(l.getD 0 0).toNat=48∨(l.getD 0 0).toNat=49:=by rcases ha with e|e<;>rw [e]<;>decide
 generalize iL l=v at *
 have f1:(((l.getD 0 0).toNat:Int)=43)=False:=eq_false (by omega)
 have f2:(((l.getD 0 0).toNat:Int)=45)=False:=eq_false (by omega)
 refine aA.aG Tryz.func183 rfl (by decide) (by simp [Tryz.f183]) [.tmp 6,.tmp 7] rfl fun w0 T0 _=>?_
 simp only [Tryz.f183,au]
 (repeat' with_reducible first|intro _|refine rz ?_|refine ra ?_ ?_|omega|simp only [go_sem,h0,f1,f2])
 refine ah.k k ?_
 (repeat' with_reducible first|intro _|exact dn|refine rn ?_|refine ra ?_ ?_)
 refine dF.at 9223372036854775808 (by decide) ?_
 (repeat' with_reducible first|intro _|exact dn|refine rn ?_|refine ra ?_ ?_)
 refine aU.auto 0 ?_ rfl ?_<;>simp only [go_sem,Int.natCast_succ,Post]
theorem Uo (l:Bytes) (h1:l.all gI=true) (h0:l≠[]) (hl:l.length≤21) :
  aA Tryz.prog 143 [.str l,.int .i64 2,.int .i64 64] (.tup [.int .i64 (iL l),.raw .nilIface]) []:=by
 have k:=Um l h1 h0 hl
 refine aA.aG Tryz.func143 rfl (by decide) (by simp [Tryz.f143]) [.tmp 6,.tmp 7] rfl fun w0 T0 _=>?_
 simp only [Tryz.f143,au]
 (repeat' with_reducible first|intro _|exact dn|refine rn ?_|refine ra ?_ ?_)
 refine ah.k k ?_
 (repeat' with_reducible first|intro _|exact dn|refine rn ?_|refine ra ?_ ?_)
 refine aU.auto 0 ?_ rfl ?_<;>simp only [go_sem,Int.natCast_succ,Post]
end Go.Fv.H
/- The reference's packBits: the walk. -/
namespace Go.Fv.H
open Go Go.Proofs
set_option maxHeartbeats 4000000 in
theorem Qg (l:Bytes) (h1:l.all gI=true) (hl:l.length=8) :
  aA Tryz.prog 136 [.str l,.int .i64 2,.int .i64 8] (.tup [.int .u64 (iL l),.raw .nilIface]) []:=by
 have h0:l≠[]:=fun e=>by rw [e] at hl;cases hl
 have hv:=vV l h1
 refine aA.aG Tryz.func136 rfl (by decide) (by simp [Tryz.f136]) [.tmp 6,.tmp 7] rfl fun w0 T0 _=>?_
 simp only [Tryz.f136,au]
 (repeat' with_reducible first|intro _|refine rz ?_|refine ra ?_ ?_|omega|simp only [go_sem,h0])
 refine dF.at 256 (by decide) ?_
 refine dF.at 255 (by decide) ?_
 (repeat' with_reducible first|intro _|exact dn|refine rn ?_|refine ra ?_ ?_)
 have hbl:=Rf l
 refine aF.intro (fun i:Nat=>⟨172,[(101,.int .i64 i),(100,.int .i64 l.length),(99,.own 0),(13,.int .u64 (iL (l.take i))),(12,.bool false),(11,.int .u64 255),(10,.int .u64 9223372036854775808),(9,.str l),(8,.bool false),(0,.str l),(1,.int .i64 2),(2,.int .i64 8)],[(0,.row 5 (.ints .u8 (aj l)))],1⟩) (fun i=>i≤l.length) (fun i=>l.length - i) 0 ?_ (Nat.zero_le _) fun i hi=>?_
 ·refine aK.ak rfl ?_ ?_<;>simp only [go_sem,Int.natCast_succ,hbl]
  rfl
 have hcut:l.take l.length=l:=List.take_length
 by_cases hlt:i<l.length
 ·have hb:(aj l).getD i 0=((l.getD i 0).toNat:Int):=Q9 hlt
  have hs:=AB hlt
  have ha:=zI hlt h1
  have hv2:=vV (l.take (i+1)) (by rw [List.all_eq_true] at h1 ⊢;intro x hx;exact h1 x (List.mem_of_mem_take hx))
  have hp:(2:Nat) ^ (l.take (i+1)).length≤2 ^ 8:=Nat.pow_le_pow_right (by decide) (by rw [List.length_take];omega)
  rw [show (2:Nat) ^ 8=256 from rfl] at hp
  have hc:(l.getD i 0).toNat=48∨(l.getD i 0).toNat=49:=by rcases ha with e|e<;>rw [e]<;>decide
  generalize l.getD i 0=c at *
  generalize iL (l.take i)=v at *
  have hcc:((c.toNat:Nat):Int) - 48=((c.toNat - 48:Nat):Int):=by omega
  generalize c.toNat=cn at *
  have f1:((cn:Int)=95)=False:=eq_false (by omega)
  have f2:(48≤(cn:Int))=True:=eq_true (by omega)
  have f3:((cn:Int)≤57)=True:=eq_true (by omega)
  (repeat' with_reducible first|intro _|refine rz ?_|refine ra ?_ ?_|omega|simp only [go_sem,hb,hbl,f1,f2,f3])
  refine ⟨i+1,aK.ak rfl ?_ ?_,by omega,by omega⟩<;>simp only [go_sem,Int.natCast_succ,hs]
  all_goals omega
 ·have e:i=l.length:=by omega
  subst e
  rw [hcut]
  (repeat' with_reducible first|intro _|refine rz ?_|refine ra ?_ ?_|omega|simp only [go_sem,hbl])
  refine aU.auto 0 ?_ rfl ?_<;>simp only [go_sem,Int.natCast_succ,Post]
theorem Un (l:Bytes) (h1:l.all gI=true) (hl:l.length=8) :
  aA Tryz.prog 97 [.str l,.int .i64 2,.int .i64 8] (.tup [.int .u64 (iL l),.raw .nilIface]) []:=by
 have k:=Qg l h1 hl
 refine aA.aG Tryz.func97 rfl (by decide) (by simp [Tryz.f97]) [.tmp 6,.tmp 7] rfl fun w0 T0 _=>?_
 simp only [Tryz.f97,au]
 (repeat' with_reducible first|intro _|exact dn|refine rn ?_|refine ra ?_ ?_)
 refine ah.k k ?_
 (repeat' with_reducible first|intro _|exact dn|refine rn ?_|refine ra ?_ ?_)
 refine aU.auto 0 ?_ rfl ?_<;>simp only [go_sem,Int.natCast_succ,Post]
theorem aaZ {α:Type} {l:List α} (h:l.length=8):∃ a b c d e f g i,l=[a,b,c,d,e,f,g,i]:=by
 match l,h with
 | [a,b,c,d,e,f,g,i],_=>exact ⟨a,b,c,d,e,f,g,i,rfl⟩
theorem tJ {c:UInt8} (h:gI c=true):c.toNat - 48=if c=49 then 1 else 0:=by
 have h3:c=48∨c=49:=by simpa [gI] using h
 rcases h3 with rfl|rfl<;>rfl
theorem aam {s:Bytes} (h1:s.all gI=true) {j:Nat} (h:8*j+8≤s.length):iL ((s.drop (8*j)).take 8)=pk s j:=by
 have hl:((s.drop (8*j)).take 8).length=8:=by rw [List.length_take,List.length_drop];omega
 have hal:∀ x,x∈(s.drop (8*j)).take 8→gI x=true:=fun x hx=>(List.all_eq_true.1 h1) x (List.mem_of_mem_drop (List.mem_of_mem_take hx))
 have hg:∀ k,k<8→bt s (8*j+k)=if ((s.drop (8*j)).take 8).getD k 0=49 then 1 else 0:=fun k hk=>by
  unfold bt
  rw [List.getD_eq_getElem?_getD,List.getD_eq_getElem?_getD,List.getElem?_take,if_pos hk,List.getElem?_drop]
 obtain ⟨a,b,c,d,e,f,g,i,hL⟩:=aaZ hl
 rw [hL] at hal hg ⊢
 unfold pk
 have g0:=hg 0 (by decide)
 rw [Nat.add_zero] at g0
 rw [g0,hg 1 (by decide),hg 2 (by decide),hg 3 (by decide),hg 4 (by decide),hg 5 (by decide),hg 6 (by decide),hg 7 (by decide)]
 unfold iL
 simp only [List.foldl_cons,List.foldl_nil,List.getD_cons_zero,List.getD_cons_succ]
 rw [tJ (hal a (by simp)),tJ (hal b (by simp)),tJ (hal c (by simp)),tJ (hal d (by simp)),tJ (hal e (by simp)),tJ (hal f (by simp)),tJ (hal g (by simp)),tJ (hal i (by simp))]
 generalize (if a=49 then 1 else 0)=a
 omega
theorem Z5 (s:Bytes) (n j:Nat):pk (s++List.replicate n 48) j=pk s j:=by
 have key:∀ k,bt (s++List.replicate n 48) k=bt s k:=fun k=>by
  unfold bt
  rw [List.getD_eq_getElem?_getD,List.getD_eq_getElem?_getD]
  by_cases hk:k<s.length
  ·rw [List.getElem?_append_left hk]
  ·rw [List.getElem?_append_right (by omega),List.getElem?_replicate,List.getElem?_eq_none (l:=s) (by omega)]
   split<;>decide
 unfold pk
 simp only [key]
theorem WM (j:Nat) (s:Bytes):aj (Cb (j+1) s)=aj (Cb j s)++[((pk s j:Nat):Int)]:=by
 unfold aj Cb
 rw [List.range_succ,List.map_append,List.map_append]
 have:=Nr s j
 simp
 omega
set_option maxHeartbeats 4000000 in
theorem uz (s:Bytes) (h1:s.all gI=true) (hs:s.length≤1000000000):aA Tryz.prog 56 [.str s] (.str (jJ s)) []:=by
 refine aA.aG Tryz.func56 rfl (by decide) (by simp [Tryz.f56]) [.tmp 2] rfl fun w0 T0 _=>?_
 simp only [Tryz.f56,au]
 obtain ⟨z,m,hz,hm⟩:∃ z m,z<8∧s.length+z=8*m:=⟨8*((s.length+7) / 8) - s.length,(s.length+7) / 8,by omega,by omega⟩
 (repeat' with_reducible first|intro _|exact dn|refine rn ?_|refine ra ?_ ?_)
 refine aF.intro (fun i:Nat=>⟨29,[(2,.str []),(0,.str (s++List.replicate i 48))],[],0⟩) (fun i=>i≤z) (fun i=>z - i) 0 ?_ (Nat.zero_le _) fun i hi=>?_
 ·refine aK.ak rfl ?_ ?_<;>simp only [go_sem,Int.natCast_succ]
 have hrl:(s++List.replicate i 48).length=s.length+i:=by rw [List.length_append,List.length_replicate]
 have hsnoc:s++List.replicate (i+1) (48:UInt8)=(s++List.replicate i 48)++[48]:=by rw [List.replicate_succ',List.append_assoc]
 have d1:((s.length+i:Nat):Int).tmod 8=(((s.length+i)%8:Nat):Int):=by rw [Int.tmod_eq_emod_of_nonneg (by omega)];omega
 by_cases hlt:i<z
 ·have f1:((((s.length+i)%8:Nat):Int)=0)=False:=eq_false (by omega)
  (repeat' with_reducible first|intro _|refine rz ?_|refine ra ?_ ?_|omega|simp only [go_sem,hrl,d1,f1])
  refine ⟨i+1,aK.ak rfl ?_ ?_,by omega,by omega⟩<;>simp only [go_sem,Int.natCast_succ,hsnoc]
 have f1:((((s.length+i)%8:Nat):Int)=0)=True:=eq_true (by omega)
 have e:i=z:=by omega
 subst e
 have hpk:∀ j,pk (s++List.replicate i 48) j=pk s j:=Z5 s i
 have hall:(s++List.replicate i (48:UInt8)).all gI=true:=by
  rw [List.all_append,h1,Bool.true_and,List.all_eq_true]
  intro x hx;rw [(List.mem_replicate.1 hx).2];decide
 generalize hS:s++List.replicate i (48:UInt8)=S at *
 have hSl:S.length=8*m:=by omega
 have hval:∀ j,j<m→iL ((S.drop (8*j)).take 8)=pk s j:=fun j hj=>by rw [aam hall (by omega),hpk]
 have hpB:jJ s=Cb m s:=by unfold jJ;congr 1;omega
 rw [hpB]
 (repeat' with_reducible first|intro _|refine rz ?_|refine ra ?_ ?_|omega|simp only [go_sem,hrl,d1,f1])
 refine aF.intro (fun j:Nat=>⟨29,[(2,.str []),(3,.own 0),(0,.str (S.drop (8*j)))],[(0,.row 5 (.ints .u8 (aj (Cb j s))))],1⟩) (fun j=>j≤m) (fun j=>m - j) 0 ?_ (Nat.zero_le _) fun j hj=>?_
 ·refine aK.ak rfl ?_ ?_<;>simp only [go_sem,Int.natCast_succ,Nat.mul_zero]
  all_goals rfl
 have hdl:(S.drop (8*j)).length=8*m - 8*j:=by rw [List.length_drop,hSl]
 have hbl:=cZ (Cb j s)
 have hbk:=iV (Cb j s)
 rw [yZ] at hbl
 by_cases hjlt:j<m
 ·have hne:(S.drop (8*j)=[])=False:=eq_false fun e=>by rw [e] at hdl;simp at hdl;omega
  have hdd:(S.drop (8*j)).drop 8=S.drop (8*(j+1)):=by rw [List.drop_drop];congr 1
  have hv:=hval j hjlt
  have hp:=Nr s j
  have hall2:((S.drop (8*j)).take 8).all gI=true:=by
   rw [List.all_eq_true]
   exact fun x hx=>(List.all_eq_true.1 hall) x (List.mem_of_mem_drop (List.mem_of_mem_take hx))
  have ht8:((S.drop (8*j)).take 8).length=8:=by rw [List.length_take];omega
  have k:=Un _ hall2 ht8
  rw [hv] at k
  have hsu:=WM j s
  generalize Cb j s=cu at *
  generalize pk s j=q at *
  have hw:IntKind.u8.wrap (q:Int)=(q:Int):=by rw [lu];omega
  (repeat' with_reducible first|intro _|refine rz ?_|refine ra ?_ ?_|omega|simp only [go_sem,hne,hdl])
  refine ah.k k ?_
  (repeat' with_reducible first|intro _|refine rz ?_|refine ra ?_ ?_|omega|simp only [go_sem,hw,hdd])
  refine ⟨j+1,aK.ak rfl ?_ ?_,by omega,by omega⟩<;>simp only [go_sem,Int.natCast_succ,hsu]
  ·exact List.take_of_length_le (by rw [hdl,List.length_drop,hSl];omega)
 ·have hne:(S.drop (8*j)=[])=True:=eq_true (List.length_eq_zero_iff.1 (by omega))
  have e:j=m:=by omega
  subst e
  (repeat' with_reducible first|intro _|refine rz ?_|refine ra ?_ ?_|omega|simp only [go_sem,hne])
  refine aU.auto 0 ?_ rfl ?_<;>simp only [go_sem,Int.natCast_succ,Post,hbk]
end Go.Fv.H
/- The reference's rowOf and bit: the walk; codes are made of "0" and "1". -/
namespace Go.Fv.H
open Go Go.Proofs
theorem PE (n:Nat):(dV n).all gI=true:=by
 unfold dV
 rw [List.all_append,OY,Bool.and_true,List.all_eq_true]
 intro x hx;rw [(List.mem_replicate.1 hx).2];decide
theorem Xo (l:List Int):(dM l).all gI=true:=by
 unfold dM
 rw [List.all_flatMap,List.all_eq_true]
 exact fun x _=>PE _
theorem N8 (w:Nat) (p:List Bool) (y:Nat):(je w p y).all gI=true:=by
 unfold je
 rw [List.all_flatMap,List.all_eq_true]
 exact fun x _=>Xo _
theorem YA (k:Nat):(aO.getD k []).all gI=true:=by
 by_cases h:k<7
 ·have hc:k=0∨k=1∨k=2∨k=3∨k=4∨k=5∨k=6:=by omega
  rcases hc with rfl|rfl|rfl|rfl|rfl|rfl|rfl<;>rfl
 ·rw [List.getD_eq_getElem?_getD,List.getElem?_eq_none (show aO.length≤k by show 7≤k;omega)];rfl
theorem YT (row above:List Bool) (p:Nat) (ink:Bool):(aW row above p ink).c.all gI=true:=by
 unfold aW
 split
 ·exact (by decide:fH.all gI=true)
 ·split
  ·exact YA _
  ·dsimp only
   rw [List.all_append,List.all_append,PE,PE]
   decide
theorem Si {row above:List Bool} (hw:above.length=row.length):∀ (f p:Nat) (ink:Bool),row.length+1 - p≤f→(mX row above p ink).all gI=true
 | 0,p,ink,h=>by rw [kP (by omega)];rfl
 | f+1,p,ink,h=>by
  by_cases hp:p≤row.length
  ·have hs:=lD hw hp ink
   rw [oq hw hp,List.all_append,YT,Bool.true_and]
   exact Si hw f _ _ (by omega)
  ·rw [kP hp];rfl
theorem V4 {row above:List Bool} (hw:above.length=row.length):(eX row above).all gI=true:=by
 unfold eX
 split
 ·rfl
 ·exact Si hw (row.length+1) 0 false (by omega)
theorem Ie (w h:Nat) (p:List Bool) (hp:p.length=w*h) (y:Nat) (hy:y≤h):(eU w p y).all gI=true:=by
 unfold eU
 rw [List.all_flatMap,List.all_eq_true]
 intro j hj
 rw [List.mem_range] at hj
 have hl:=iD hp (y:=j) (by omega)
 refine V4 ?_
 rw [hl]
 unfold sS
 split
 ·exact List.length_replicate
 ·exact iD hp (by omega)
theorem Lm (p:List Bool):(fZ p).all gI=true:=by
 unfold fZ
 rw [List.all_map,List.all_eq_true]
 intro x _
 cases x<;>rfl
theorem Zt (b:Bool):aA Tryz.prog 55 [.bool b] (.int .i64 (if b=true then 1 else 0)) []:=by
 refine aA.aG Tryz.func55 rfl (by decide) (by simp [Tryz.f55]) [.tmp 2] rfl fun w0 T0 _=>?_
 simp only [Tryz.f55,au]
 cases b <;>
  ((repeat' with_reducible first|intro _|exact dn|refine rn ?_|refine ra ?_ ?_)
   refine aU.auto 0 ?_ rfl ?_<;>simp only [go_sem,Int.natCast_succ,Post])
theorem FC (w h:Nat) (hw:w≤4000) (hh:h≤4000) (p:List Bool) (hp:p.length=w*h) (y:Nat) (hy:y<h) :
  aA Tryz.prog 59 [.agg [.int .i64 w,.int .i64 h,.ro (.bools p)],.int .i64 y] (.ro (.bools (rowP w p y))) []:=by
 have h1:y*w+w≤h*w:=by rw [←Nat.succ_mul];exact Nat.mul_le_mul_right _ hy
 have h2:h*w≤4000*4000:=Nat.mul_le_mul hh hw
 have h3:w*h=h*w:=Nat.mul_comm _ _
 have e1:(y:Int)*(w:Int)=((y*w:Nat):Int):=(Int.natCast_mul y w).symm
 have e2:((y:Int)+1)*(w:Int)=((y*w+w:Nat):Int):=by rw [Int.add_mul,Int.one_mul,e1];omega
 have e3:y*w+w - y*w=w:=by omega
 generalize hyw:y*w=a at *
 refine aA.aG Tryz.func59 rfl (by decide) (by simp [Tryz.f59]) [.tmp 4] rfl fun w0 T0 _=>?_
 simp only [Tryz.f59,au]
 have f1:((y:Int)<0)=False:=eq_false (by omega)
 (repeat' with_reducible first|intro _|refine rz ?_|refine ra ?_ ?_|omega|simp only [go_sem,e1,e2,f1])
 refine aU.auto 0 ?_ rfl ?_<;>simp only [go_sem,Int.natCast_succ,Post,rowP,hyw,e3]
theorem UG (w h:Nat) (hw:w≤4000) (p:List Bool) :
  aA Tryz.prog 59 [.agg [.int .i64 w,.int .i64 h,.ro (.bools p)],.int .i64 (-1)] (.own 0) [(0,.row 4 (.bools (List.replicate w false)))]:=by
 refine aA.aG Tryz.func59 rfl (by decide) (by simp [Tryz.f59]) [.tmp 4] rfl fun w0 T0 _=>?_
 simp only [Tryz.f59,au]
 (repeat' with_reducible first|intro _|exact dn|refine rn ?_|refine ra ?_ ?_)
 refine aU.auto 1 ?_ rfl ?_<;>simp only [go_sem,Int.natCast_succ,Post]
end Go.Fv.H
/- Rows coded by the row above: what is coded is read. -/
namespace Go.Fv.H
open Go
theorem kU {s:Bytes} {n l:Nat} (h:pG s=some (n,l)):l≤s.length∧1≤n∧l≤41:=by
 unfold pG at h
 split at h
 ·rename_i hc
  obtain ⟨h1,h2,h3,h4⟩:=hc
  have e:=Option.some.inj h
  have e1:iL ((s.drop (aJ s)).take (aJ s+1))=n:=congrArg Prod.fst e
  have e2:2*aJ s+1=l:=congrArg Prod.snd e
  refine ⟨by omega,?_,by omega⟩
  have hd:(s.drop (aJ s)).length=s.length - aJ s:=List.length_drop
  have hz:s.drop (aJ s)=s.dropWhile XH:=by
   unfold aJ
   conv=>lhs;rw [←List.takeWhile_append_dropWhile (p:=XH) (l:=s)]
   rw [List.drop_left' (by rw [List.takeWhile_append_dropWhile])]
  cases hq:s.dropWhile XH with
  | nil=>
   rw [hz,hq] at hd
   simp only [List.length_nil] at hd
   omega
  | cons c r=>
   have hc:XH c=false:=by
    have:=List.head?_dropWhile_not XH s
    rw [hq] at this
    simpa using this
   rw [hz,hq,List.take_succ_cons] at h3 e1
   rw [List.all_cons,Bool.and_eq_true] at h3
   have h49:c=49:=by
    have:=h3.1
    unfold gI at this
    unfold XH at hc
    rw [decide_eq_true_eq] at this
    rw [decide_eq_false_iff_not] at hc
    rcases this with h|h
    ·exact absurd h hc
    ·exact h
   subst h49
   have key:∀ (l:Bytes) (a:Nat),1≤a→1≤l.foldl (fun a c=>2*a+(c.toNat - 48)) a:=by
    intro l
    induction l with
    | nil=>intro a h;exact h
    | cons x l ih=>intro a h;exact ih (2*a+(x.toNat - 48)) (by omega)
   rw [←e1]
   unfold iL
   rw [List.foldl_cons]
   exact key _ _ (by decide)
 ·cases h
theorem ND (s:Bytes) (k:Nat) (hk:64≤k):pG (s.take k)=pG s:=by
 have hl:aJ (s.take k)=min (aJ s) k:=by
  unfold aJ
  clear hk
  induction s generalizing k with
  | nil=>simp
  | cons c s ih=>
   cases k with
   | zero=>simp
   | succ k=>
    rw [List.take_succ_cons,List.takeWhile_cons,List.takeWhile_cons]
    cases XH c with
    | true=>simp only [if_true,List.length_cons];rw [ih];omega
    | false=>simp
 unfold pG
 rw [hl]
 by_cases h:aJ s≤20
 ·have e:min (aJ s) k=aJ s:=by omega
  have e2:((s.take k).drop (aJ s)).take (aJ s+1)=(s.drop (aJ s)).take (aJ s+1):=by
   rw [List.drop_take,List.take_take]
   congr 1
   omega
  have e3:(2*aJ s+1≤(s.take k).length)↔(2*aJ s+1≤s.length):=by rw [List.length_take];omega
  rw [e,e2]
  simp only [e3]
 ·rw [if_neg (by omega),if_neg (by omega)]
theorem wR {s:Bytes} (h:codeOf s≤8):(codeOf s=0→4≤s.length)∧(codeOf s=8→3≤s.length)∧(1≤codeOf s→codeOf s≤7→(aO.getD (codeOf s - 1) []).length≤s.length):=by
 have key:∀ c:Bytes,c.isPrefixOf s=true→c.length≤s.length:=fun c hc=>(List.isPrefixOf_iff_prefix.1 hc).length_le
 unfold codeOf
 repeat' split
 all_goals rename_i hx
 all_goals first
  | exact ⟨fun _=>key _ hx,fun h=>by omega,fun h=>by omega⟩
  | exact ⟨fun h=>by omega,fun h=>by omega,fun _ _=>key _ hx⟩
  | exact ⟨fun h=>by omega,fun _=>key _ hx,fun _ h=>by omega⟩
  | exact ⟨fun h=>by omega,fun h=>by omega,fun _ h=>by omega⟩
theorem Pq {strict:Bool} {w:Nat} {s:Bytes} {p:Nat} {ink:Bool} {x:Zn} (h:sJ strict w s p ink=some x):p<x.p∧x.p≤w+1∧x.px.length=x.p - 1 - (p - 1)∧(3≤s.length→x.n≤s.length):=by
 unfold sJ at h
 cases h1:pG (s.drop 3) with
 | none=>rw [h1] at h;cases h
 | some y=>
  obtain ⟨m1,l1⟩:=y
  rw [h1] at h
  dsimp only at h
  cases h2:pG (s.drop (3+l1)) with
  | none=>rw [h2] at h;cases h
  | some z=>
   obtain ⟨m2,l2⟩:=z
   rw [h2] at h
   dsimp only at h
   split at h
   ·rename_i hc
    cases h
    have g1:=(kU h1).1
    have g2:=(kU h2).1
    rw [List.length_drop] at g1 g2
    refine ⟨by dsimp only;omega,by dsimp only;omega,by simp;omega,by dsimp only;omega⟩
   ·cases h
theorem qc {strict:Bool} {above:List Bool} {s:Bytes} {p:Nat} {ink:Bool} {x:Zn} (hp:p≤above.length) (h:rdStep strict above s p ink=some x):p<x.p∧x.p≤above.length+1∧x.px.length=x.p - 1 - (p - 1)∧x.n≤s.length:=by
 have hcl:=@wR s
 obtain ⟨b1,b2⟩:=kG (r:=above) (i:=p) hp (!ink)
 have b3:=gW above (fV above p (!ink)+1)
 have b4:p≤dS above (fV above p (!ink)+1):=by
  by_cases h:fV above p (!ink)<above.length
  ·have:=jf (r:=above) (i:=fV above p (!ink)+1) (by omega);omega
  ·rw [iH (r:=above) (i:=fV above p (!ink)+1) (by omega)];omega
 unfold rdStep at h
 split at h
 ·rename_i h0
  cases h
  have:=(hcl (by omega)).1 h0
  refine ⟨by dsimp only;omega,by dsimp only;omega,by simp,this⟩
 ·split at h
  ·rename_i h0 h7
   split at h
   ·cases h
    have:=(hcl (by omega)).2.2 (by omega) h7
    refine ⟨by dsimp only;omega,by dsimp only;omega,by simp,this⟩
   ·cases h
  ·split at h
   ·rename_i h8
    have:=Pq h
    exact ⟨this.1,this.2.1,this.2.2.1,this.2.2.2 ((hcl (by omega)).2.1 h8)⟩
   ·cases h
def qP (strict:Bool) (above:List Bool) (s:Bytes) (p:Nat) (ink:Bool):Option (List Bool × Nat):=
 if hp:p≤above.length then
  match h:rdStep strict above s p ink with
  | none=>none
  | some x=>match qP strict above (s.drop x.n) x.p x.k with
   | none=>none
   | some (l,n)=>some (x.px++l,x.n+n)
 else some ([],0)
termination_by above.length+1 - p
decreasing_by have:=(qc hp h).1;omega
theorem qQ {strict:Bool} {above:List Bool} {s:Bytes} {p:Nat} (hp:¬p≤above.length) (ink:Bool):qP strict above s p ink=some ([],0):=by rw [qP,dif_neg hp]
theorem Ak {strict:Bool} {above:List Bool} {s:Bytes} {p:Nat} {ink:Bool} (hp:p≤above.length) (h:rdStep strict above s p ink=none):qP strict above s p ink=none:=by
 rw [qP,dif_pos hp]
 split
 ·rfl
 ·rename_i x hx;rw [h] at hx;cases hx
theorem oz {strict:Bool} {above:List Bool} {s:Bytes} {p:Nat} {ink:Bool} {x:Zn} (hp:p≤above.length) (h:rdStep strict above s p ink=some x) :
  qP strict above s p ink=match qP strict above (s.drop x.n) x.p x.k with|none=>none|some (l,n)=>some (x.px++l,x.n+n):=by
 conv=>lhs;rw [qP]
 rw [dif_pos hp]
 split
 ·rename_i hx;rw [h] at hx;cases hx
 ·rename_i y hx;rw [h] at hx;cases hx;rfl
theorem NG {strict:Bool} {above:List Bool}:∀ (f:Nat) (s:Bytes) (p:Nat) (ink:Bool) (l:List Bool) (n:Nat),above.length+1 - p≤f→p≤above.length+1→qP strict above s p ink=some (l,n)→l.length=above.length - (p - 1)∧n≤s.length
 | 0,s,p,ink,l,n,hf,hp,h=>by
  rw [qQ (by omega)] at h
  cases h
  exact ⟨by simp;omega,Nat.zero_le _⟩
 | f+1,s,p,ink,l,n,hf,hp,h=>by
  by_cases hq:p≤above.length
  ·cases hx:rdStep strict above s p ink with
   | none=>rw [Ak hq hx] at h;cases h
   | some x=>
    obtain ⟨x1,x2,x3,x4⟩:=qc hq hx
    rw [oz hq hx] at h
    cases hy:qP strict above (s.drop x.n) x.p x.k with
    | none=>rw [hy] at h;cases h
    | some y=>
     obtain ⟨l2,n2⟩:=y
     rw [hy] at h
     cases h
     obtain ⟨i1,i2⟩:=NG f _ _ _ _ _ (by omega) x2 hy
     rw [List.length_drop] at i2
     exact ⟨by rw [List.length_append];omega,by omega⟩
  ·rw [qQ hq] at h
   cases h
   exact ⟨by simp;omega,Nat.zero_le _⟩
theorem JZ {r:List Bool} {a b:Nat} {c:Bool} (hb:b≤r.length) (h:∀ j,a≤j→j<b→r.getD j false=c):List.replicate (b - a) c=(r.drop a).take (b - a):=by
 apply List.ext_getElem
 ·simp;omega
 ·intro j h1 h2
  rw [List.getElem_replicate,List.getElem_take,List.getElem_drop]
  have:=h (a+j) (by omega) (by simp at h1;omega)
  rw [←this,List.getD_eq_getElem?_getD,List.getElem?_eq_getElem (by simp at h1;omega)]
  rfl
theorem take_split {r:List Bool} {a b c:Nat} (h1:a≤b):r.drop a=(r.drop a).take (b - a)++r.drop b:=by
 conv=>lhs;rw [←List.take_append_drop (b - a) (r.drop a)]
 rw [List.drop_drop,Nat.add_sub_cancel' h1]
theorem vI (strict:Bool) {row above:List Bool} (hw:above.length=row.length) (hm:row.length≤4000) (r:Bytes):∀ (f p:Nat) (ink:Bool),row.length+1 - p≤f→p≤row.length+1→(p≤row.length→KW row p=ink) →
  qP strict above (mX row above p ink++r) p ink=some (row.drop (p - 1),(mX row above p ink).length)
 | 0,p,ink,hf,hp,hi=>by
  rw [kP (by omega),qQ (by omega),List.drop_of_length_le (by omega)];rfl
 | f+1,p,ink,hf,hp,hi=>by
  by_cases hq:p≤row.length
  ·have hi:=hi hq
   have hst:=lD hw hq ink
   have hga:∀ j,p - 1≤j→j<dS row p→j<row.length→row.getD j false=ink:=fun j h1 h2 h3=>by
    by_cases e:p≤j
    ·rw [D5 e h2,hi]
    ·have:p=j+1:=by omega
     subst this
     rw [jv] at hi;exact hi
   have g1:=jf hq
   have g2:=gW row p
   obtain ⟨b1,b2⟩:=kG (r:=above) (i:=p) (by omega) (!ink)
   have b3:=gW above (fV above p (!ink)+1)
   rw [oq hw hq]
   unfold aW at hst ⊢
   split
   ·rename_i hc
    rw [if_pos hc] at hst
    dsimp only at hst ⊢
    generalize hB:dS above (fV above p (!ink)+1)=b at *
    have hs:rdStep strict above ((fH++mX row above (b+1) ink)++r) p ink=some ⟨b+1,ink,List.replicate (b - (p - 1)) ink,4⟩:=by
     unfold rdStep
     rw [List.append_assoc,LG,if_pos rfl,hB]
    rw [oz (by omega) hs]
    dsimp only
    have e:(fH++mX row above (b+1) ink++r).drop 4=mX row above (b+1) ink++r:=by rw [List.append_assoc];rfl
    rw [e,vI strict hw hm r f (b+1) ink (by omega) (by omega) (fun _=>by rw [jv];exact hga b (by omega) hc (by omega))]
    dsimp only
    rw [JZ (r:=row) (a:=p - 1) (b:=b) (by omega) (fun j h1 h2=>hga j h1 (by omega) (by omega)),Nat.add_sub_cancel,←take_split (c:=0) (by omega),List.length_append]
    rfl
   ·rename_i hc
    split
    ·rename_i hn
     rw [if_neg hc,if_pos hn] at hst
     dsimp only at hst ⊢
     generalize hA:dS row p=a at *
     generalize hB:fV above p (!ink)=b at *
     have hk:a+3 - b≤6:=by omega
     have hs:rdStep strict above ((aO.getD (a+3 - b) []++mX row above (a+1) (!ink))++r) p ink=some ⟨a+1,!ink,List.replicate (a - (p - 1)) ink,(aO.getD (a+3 - b) []).length⟩:=by
      unfold rdStep
      rw [List.append_assoc,LD _ hk,if_neg (by omega),if_pos (by omega),hB,if_pos (by omega)]
      have e1:b+(a+3 - b+1) - 4=a:=by omega
      rw [e1]
      rfl
     rw [oz (by omega) hs]
     dsimp only
     have e:(aO.getD (a+3 - b) []++mX row above (a+1) (!ink)++r).drop (aO.getD (a+3 - b) []).length=mX row above (a+1) (!ink)++r:=by rw [List.append_assoc,List.drop_left]
     rw [e,vI strict hw hm r f (a+1) (!ink) (by omega) (by omega) (fun h=>by
      rw [jv,←hA,oI (by omega),hi])]
     dsimp only
     rw [JZ (r:=row) (a:=p - 1) (b:=a) (by omega) (fun j h1 h2=>hga j h1 (by omega) (by omega)),Nat.add_sub_cancel,←take_split (c:=0) (by omega),List.length_append]
    ·rename_i hn
     rw [if_neg hc,if_neg hn] at hst
     dsimp only at hst ⊢
     have g3:=gW row (dS row p+1)
     have hga2:∀ j,dS row p≤j→j<dS row (dS row p+1)→row.getD j false=!ink:=fun j h1 h2=>by
      by_cases e:j=dS row p
      ·subst e;rw [oI (by omega),hi]
      ·rw [D5 (i:=dS row p+1) (by omega) h2,jv,oI (by omega),hi]
     have g4:dS row p≤dS row (dS row p+1):=by
      by_cases h:dS row p<row.length
      ·have:=jf (r:=row) (i:=dS row p+1) (by omega);omega
      ·rw [iH (r:=row) (i:=dS row p+1) (by omega)];omega
     have hnk:dS row (dS row p+1)+1≤row.length→KW row (dS row (dS row p+1)+1)=ink:=fun h=>by
      rw [jv,oI (by omega),jv,oI (by omega),hi,Bool.not_not]
     generalize hA2:dS row (dS row p+1)=a2 at *
     generalize hA:dS row p=a at *
     clear hn hc
     have m1:=JK (n:=a - (p - 1)+1) (by omega) (by omega) (dV (a2 - a+1)++(mX row above (a2+1) ink++r))
     have m2:=JK (n:=a2 - a+1) (by omega) (by omega) (mX row above (a2+1) ink++r)
     generalize dV (a - (p - 1)+1)=G1 at *
     generalize dV (a2 - a+1)=G2 at *
     generalize hT:mX row above (a2+1) ink=T at *
     have e1:(eH++(G1++G2)++T++r).drop 3=G1++(G2++(T++r)):=by
      rw [show eH++(G1++G2)++T++r=eH++(G1++(G2++(T++r))) by simp only [List.append_assoc]];rfl
     have e2:(eH++(G1++G2)++T++r).drop (3+G1.length)=G2++(T++r):=by
      rw [←List.drop_drop,e1,List.drop_left]
     have e3:(eH++(G1++G2)++T++r).drop (3+G1.length+G2.length)=T++r:=by
      rw [←List.drop_drop,e2,List.drop_left]
     have hs:rdStep strict above (eH++(G1++G2)++T++r) p ink=some ⟨a2+1,ink,List.replicate (a - (p - 1)) ink++List.replicate (a2 - a) (!ink),3+G1.length+G2.length⟩:=by
      unfold rdStep
      have e0:codeOf (eH++(G1++G2)++T++r)=8:=by
       rw [show eH++(G1++G2)++T++r=eH++(G1++(G2++(T++r))) by simp only [List.append_assoc]];exact O8 _
      rw [e0,if_neg (by omega),if_neg (by omega),if_pos rfl]
      unfold sJ
      rw [e1,m1]
      dsimp only
      rw [e2,m2]
      dsimp only
      rw [if_pos ⟨fun _=>by omega,by omega,by omega⟩]
      have q1:p - 1+(a - (p - 1)+1 - 1)+(a2 - a+1 - 1)+1=a2+1:=by omega
      rw [q1,Nat.add_sub_cancel,Nat.add_sub_cancel]
     rw [oz (by omega) hs]
     dsimp only
     rw [e3,←hT,vI strict hw hm r f (a2+1) ink (by omega) (by omega) hnk]
     dsimp only
     rw [JZ (r:=row) (a:=p - 1) (b:=a) (by omega) (fun j h1 h2=>hga j h1 (by omega) (by omega)),JZ (r:=row) (a:=a) (b:=a2) (by omega) hga2,Nat.add_sub_cancel,List.append_assoc,←take_split (c:=0) (by omega),←take_split (c:=0) (by omega)]
     rw [show eH++(G1++G2)++mX row above (a2+1) ink=eH++(G1++(G2++mX row above (a2+1) ink)) by simp only [List.append_assoc],List.length_append,List.length_append,List.length_append]
     congr 2
     have:eH.length=3:=rfl
     omega
  ·rw [kP hq,qQ (by omega),List.drop_of_length_le (by omega)];rfl
def mD (strict:Bool) (above:List Bool) (s:Bytes):Option (List Bool × Nat):=if above.length=0 then some ([],0) else qP strict above s 0 false
def dX (strict:Bool) (above:List Bool) (s:Bytes):Option (List Bool × Nat):=
 match mD strict above s with
 | none=>none
 | some (l,n)=>if eX l above=s.take n then some (l,n) else none
theorem Qj (strict:Bool) {row above:List Bool} (hw:above.length=row.length) (hm:row.length≤4000) (r:Bytes):mD strict above (eX row above++r)=some (row,(eX row above).length):=by
 unfold mD eX
 by_cases h:row.length=0
 ·rw [if_pos (by omega),if_pos h,List.eq_nil_of_length_eq_zero h];rfl
 ·rw [if_neg (by omega),if_neg h]
  have:=vI strict hw hm r (row.length+1) 0 false (by omega) (by omega) (fun _=>rfl)
  rw [this];rfl
theorem BH (strict:Bool) {row above:List Bool} (hw:above.length=row.length) (hm:row.length≤4000) (r:Bytes):dX strict above (eX row above++r)=some (row,(eX row above).length):=by
 unfold dX
 rw [Qj strict hw hm r]
 dsimp only
 rw [List.take_left,if_pos rfl]
theorem Iw {strict:Bool} {above:List Bool} {s:Bytes} {l:List Bool} {n:Nat} (h:mD strict above s=some (l,n)):l.length=above.length∧n≤s.length:=by
 unfold mD at h
 split at h
 ·cases h;exact ⟨by simp;omega,Nat.zero_le _⟩
 ·have:=NG (above.length+1) s 0 false l n (by omega) (by omega) h
  exact ⟨by omega,this.2⟩
theorem uD {strict:Bool} {above:List Bool} {s:Bytes} {l:List Bool} {n:Nat} (h:dX strict above s=some (l,n)):l.length=above.length∧n≤s.length∧eX l above=s.take n:=by
 unfold dX at h
 cases ha:mD strict above s with
 | none=>rw [ha] at h;cases h
 | some x=>
  obtain ⟨l2,n2⟩:=x
  rw [ha] at h
  dsimp only at h
  split at h
  ·rename_i hc
   cases h
   have:=Iw ha
   exact ⟨this.1,this.2,hc⟩
  ·cases h
theorem EZ (s1 s2:Bool) {above:List Bool} (hm:above.length≤4000) {s:Bytes} {x:List Bool × Nat} (h:dX s1 above s=some x):dX s2 above s=some x:=by
 obtain ⟨l,n⟩:=x
 obtain ⟨h1,h2,h3⟩:=uD h
 have hn:(eX l above).length=n:=by rw [h3,List.length_take];omega
 have e:s=eX l above++s.drop n:=by rw [h3,List.take_append_drop]
 have:=BH s2 (row:=l) (above:=above) h1.symm (by omega) (s.drop n)
 rw [←e,hn] at this
 exact this
theorem Uw (s1 s2:Bool) {above:List Bool} (hm:above.length≤4000) (s:Bytes):dX s1 above s=dX s2 above s:=by
 cases h1:dX s1 above s with
 | some x=>exact (EZ s1 s2 hm h1).symm
 | none=>
  cases h2:dX s2 above s with
  | none=>rfl
  | some x=>rw [EZ s2 s1 hm h2] at h1;cases h1
end Go.Fv.H
