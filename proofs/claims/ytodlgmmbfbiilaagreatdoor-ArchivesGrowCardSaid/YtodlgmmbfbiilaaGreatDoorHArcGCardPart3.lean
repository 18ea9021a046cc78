/-
  A part of the proof of the claim: walks over the program's functions and the plain laws that these need. No condition of its own.
-/
import Derived.Test.YtodlgmmbfbiilaaGreatDoorHArcGCardPart2
import Derived.Test.YtodlgmmbfbiilaaGreatDoorHArcGCardPart1
import Derived.Test.YtodlgmmbfbiilaaGreatDoorFvPart10
set_option linter.unusedSimpArgs false
set_option linter.unusedVariables false
set_option linter.unnecessarySimpa false
set_option maxRecDepth 8000
/- Rows coded by the row above, in plain words. -/
namespace Go.Fv.H
open Go
def J5 (r:List Bool) (i:Nat):Bool:=if i=0 then false else r.getD (i - 1) false
def dU (r:List Bool) (i:Nat):Nat:=if h:i<r.length then (if r.getD i false=J5 r i then dU r (i+1) else i) else r.length
termination_by r.length - i
def fG (r:List Bool) (i:Nat) (c:Bool):Nat:=if dU r i<r.length∧r.getD (dU r i) false≠c then dU r (dU r i+1) else dU r i
theorem wI {r:List Bool} {i:Nat} (h:i<r.length):dU r i=if r.getD i false=J5 r i then dU r (i+1) else i:=by rw [dU,dif_pos h]
theorem iW {r:List Bool} {i:Nat} (h:¬i<r.length):dU r i=r.length:=by rw [dU,dif_neg h]
theorem vK (r:List Bool) (i:Nat):J5 r (i+1)=r.getD i false:=by unfold J5;rw [if_neg (by omega)];rfl
theorem iy (r:List Bool) (i:Nat):dU r i≤r.length:=by
 by_cases h:i<r.length
 ·rw [wI h]
  split
  ·exact iy r (i+1)
  ·omega
 ·rw [iW h];exact Nat.le_refl _
termination_by r.length - i
theorem jo {r:List Bool} {i:Nat} (hi:i≤r.length):i≤dU r i:=by
 by_cases h:i<r.length
 ·rw [wI h]
  split
  ·have:=jo (r:=r) (i:=i+1) (by omega);omega
  ·omega
 ·rw [iW h];omega
termination_by r.length - i
theorem Gx {r:List Bool} {i:Nat} (h2:dU r i<r.length):r.getD (dU r i) false=!J5 r i:=by
 by_cases h:i<r.length
 ·rw [wI h] at h2 ⊢
  split
  ·rename_i he
   rw [if_pos he] at h2
   rw [Gx h2,vK,he]
  ·rename_i he
   generalize r.getD i false=a at he ⊢
   generalize J5 r i=b at he ⊢
   cases a<;>cases b<;>simp_all
 ·rw [iW h] at h2;omega
termination_by r.length - i
theorem mX {r:List Bool} {i:Nat} (hi:i≤r.length) (c:Bool):i≤fG r i c∧fG r i c≤r.length:=by
 unfold fG
 have h1:=jo hi
 have h2:=iy r i
 split
 ·rename_i h
  have h3:=jo (r:=r) (i:=dU r i+1) (by omega)
  exact ⟨by omega,iy _ _⟩
 ·exact ⟨h1,h2⟩
def fP:Bytes:=[48,48,48,49]
def fU:Bytes:=[48,48,49]
def bH:List Bytes:=[[48,48,48,48,48,49,48],[48,48,48,48,49,48],[48,49,48],[49],[48,49,49],[48,48,48,48,49,49],[48,48,48,48,48,49,49]]
structure Ya where
 c:Bytes
 p:Nat
 k:Bool
def aN (row above:List Bool) (p:Nat) (ink:Bool):Ya:=
 if dU above (fG above p (!ink)+1)<dU row p then ⟨fP,dU above (fG above p (!ink)+1)+1,ink⟩
 else if dU row p≤fG above p (!ink)+3∧fG above p (!ink)≤dU row p+3 then ⟨bH.getD (dU row p+3 - fG above p (!ink)) [],dU row p+1,!ink⟩
 else ⟨fU++(eH (dU row p - (p - 1)+1)++eH (dU row (dU row p+1) - dU row p+1)),dU row (dU row p+1)+1,ink⟩
theorem lM {row above:List Bool} (hw:above.length=row.length) {p:Nat} (hp:p≤row.length) (ink:Bool):p<(aN row above p ink).p∧(aN row above p ink).p≤row.length+1:=by
 have h1:=jo hp
 have h2:=iy row p
 obtain ⟨b1,b2⟩:=mX (r:=above) (i:=p) (by omega) (!ink)
 have b3:=iy above (fG above p (!ink)+1)
 unfold aN
 split
 ·dsimp only
  by_cases h:fG above p (!ink)<above.length
  ·have:=jo (r:=above) (i:=fG above p (!ink)+1) (by omega);omega
  ·rw [iW (r:=above) (i:=fG above p (!ink)+1) (by omega)];omega
 ·split
  ·dsimp only;omega
  ·dsimp only
   have h3:=iy row (dU row p+1)
   by_cases h:dU row p<row.length
   ·have:=jo (r:=row) (i:=dU row p+1) (by omega);omega
   ·rw [iW (r:=row) (i:=dU row p+1) (by omega)];omega
def yL (row above:List Bool) (p:Nat) (ink:Bool):Bytes:=
 if h:p≤row.length then
  if h2:p<(aN row above p ink).p then (aN row above p ink).c++yL row above (aN row above p ink).p (aN row above p ink).k else []
 else []
termination_by row.length+1 - p
theorem nT {row above:List Bool} (hw:above.length=row.length) {p:Nat} (hp:p≤row.length) (ink:Bool):yL row above p ink=(aN row above p ink).c++yL row above (aN row above p ink).p (aN row above p ink).k:=by
 conv=>lhs;rw [yL]
 rw [dif_pos hp,dif_pos (lM hw hp ink).1]
theorem lY {row above:List Bool} {p:Nat} (hp:¬p≤row.length) (ink:Bool):yL row above p ink=[]:=by rw [yL,dif_neg hp]
def jv (row above:List Bool):Bytes:=if row.length=0 then [] else yL row above 0 false
def codeOf (s:Bytes):Nat:=
 if fP.isPrefixOf s=true then 0
 else if (bH.getD 0 []).isPrefixOf s=true then 1
 else if (bH.getD 1 []).isPrefixOf s=true then 2
 else if (bH.getD 2 []).isPrefixOf s=true then 3
 else if (bH.getD 3 []).isPrefixOf s=true then 4
 else if (bH.getD 4 []).isPrefixOf s=true then 5
 else if (bH.getD 5 []).isPrefixOf s=true then 6
 else if (bH.getD 6 []).isPrefixOf s=true then 7
 else if fU.isPrefixOf s=true then 8 else 9
structure UZ where
 p:Nat
 k:Bool
 px:List Bool
 n:Nat
def PE (strict:Bool) (w:Nat) (s:Bytes) (p:Nat) (ink:Bool):Option UZ:=
 match Ug (s.drop 3) with
 | none=>none
 | some (m1,l1)=>match Ug (s.drop (3+l1)) with
  | none=>none
  | some (m2,l2)=>
   if (strict=true→p≤p - 1+(m1 - 1))∧p - 1+(m1 - 1)+(m2 - 1)≤w∧p≤p - 1+(m1 - 1)+(m2 - 1) then
    some ⟨p - 1+(m1 - 1)+(m2 - 1)+1,ink,List.replicate (m1 - 1) ink++List.replicate (m2 - 1) (!ink),3+l1+l2⟩
   else none
def rdStep (strict:Bool) (above:List Bool) (s:Bytes) (p:Nat) (ink:Bool):Option UZ:=
 if codeOf s=0 then some ⟨dU above (fG above p (!ink)+1)+1,ink,List.replicate (dU above (fG above p (!ink)+1) - (p - 1)) ink,4⟩
 else if codeOf s≤7 then
  (if p+4≤fG above p (!ink)+codeOf s∧fG above p (!ink)+codeOf s≤above.length+4 then
   some ⟨fG above p (!ink)+codeOf s - 4+1,!ink,List.replicate (fG above p (!ink)+codeOf s - 4 - (p - 1)) ink,(bH.getD (codeOf s - 1) []).length⟩ else none)
 else if codeOf s=8 then PE strict above.length s p ink
 else none
end Go.Fv.H
/- The data of a page, in plain words. -/
namespace Go.Fv.H
open Go Go.Proofs
def rowP (w:Nat) (p:List Bool) (y:Nat):List Bool:=(p.drop (y*w)).take w
theorem iH {w h:Nat} {p:List Bool} (hp:p.length=w*h) {y:Nat} (hy:y<h):(rowP w p y).length=w:=by
 unfold rowP
 have h1:y*w+w≤h*w:=by rw [←Nat.succ_mul];exact Nat.mul_le_mul_right _ hy
 rw [List.length_take,List.length_drop,hp,Nat.mul_comm w h];omega
def yC (w:Nat) (p:List Bool) (y:Nat):List Bool:=if y=0 then List.replicate w false else rowP w p (y - 1)
def dZ (l:List Int):Bytes:=l.flatMap fun n=>eH (n+1).toNat
def jA (r:List Bool):List Int:=(aW r r.length).1
def iQ (w:Nat) (p:List Bool) (y:Nat):Bytes:=(List.range y).flatMap fun j=>dZ (jA (rowP w p j))
def dX (w:Nat) (p:List Bool) (y:Nat):Bytes:=(List.range y).flatMap fun j=>jv (rowP w p j) (yC w p j)
def dh (w h:Nat) (p:List Bool) (kind:Int):Bytes:=
 if kind=1 then l9 (fO p) else if kind=4 then OI w h p else if kind=2 then l9 (iQ w p h) else l9 (dX w p h)
def headB (w h:Nat) (p:List Bool) (kind:Int):Bytes:=bP 1 kind.toNat++bP 2 w++bP 2 h++bP 4 (dh w h p kind).length++dh w h p kind
def jW (w h:Nat) (p:List Bool) (kind:Int):Bytes:=headB w h p kind++jc (headB w h p kind)
theorem Ro (w h:Nat) (hw:w≤4000) (hh:h≤4000) (p:List Bool) (hp:p.length=w*h) (y:Nat) (hy:y<h) :
  aC Tryz.prog 156 [.agg [.int .i64 w,.int .i64 h,.ro (.bools p)],.int .i64 y] (.ro (.bools (rowP w p y))) []:=by
 have h1:y*w+w≤h*w:=by rw [←Nat.succ_mul];exact Nat.mul_le_mul_right _ hy
 have h2:h*w≤4000*4000:=Nat.mul_le_mul hh hw
 have h3:w*h=h*w:=Nat.mul_comm _ _
 have e1:(y:Int)*(w:Int)=((y*w:Nat):Int):=(Int.natCast_mul y w).symm
 have e2:((y:Int)+1)*(w:Int)=((y*w+w:Nat):Int):=by rw [Int.add_mul,Int.one_mul,e1];omega
 have e3:y*w+w - y*w=w:=by omega
 generalize hyw:y*w=a at *
 refine aC.aJ Tryz.func156 rfl (by decide) (by simp [Tryz.f156]) [.tmp 4] rfl fun w0 T0 _=>?_
 simp only [Tryz.f156,aB]
 (repeat' with_reducible first|intro _|refine rz ?_|refine ra ?_ ?_|omega|simp only [go_sem,e1,e2])
 refine bg.auto 0 ?_ rfl ?_<;>simp only [go_sem,Int.natCast_succ,Post,rowP,hyw,e3]
end Go.Fv.H
/- Reading a number, step by step. -/
namespace Go.Fv.H
open Go
theorem Yk {c:UInt8} (h:jr c=true):c.toNat - 48≤1:=by
 have h3:c=48∨c=49:=by simpa [jr] using h
 rcases h3 with rfl|rfl<;>decide
theorem Nj:∀ (l:Bytes) (a:Nat),l.all jr=true→l.foldl (fun a c=>2*a+(c.toNat - 48)) a+1≤(a+1)*2 ^ l.length
 | [],a,_=>by simp
 | c::l,a,h=>by
  rw [List.all_cons,Bool.and_eq_true] at h
  have h1:=Yk h.1
  have h2:=Nj l (2*a+(c.toNat - 48)) h.2
  rw [List.foldl_cons,List.length_cons,Nat.pow_succ]
  have h3:(2*a+(c.toNat - 48)+1)*2 ^ l.length≤(2*(a+1))*2 ^ l.length:=Nat.mul_le_mul_right _ (by omega)
  have h4:2*(a+1)*2 ^ l.length=(a+1)*(2 ^ l.length*2):=by rw [Nat.mul_comm 2,Nat.mul_assoc,Nat.mul_comm 2]
  omega
theorem Nh (l:Bytes) (h:l.all jr=true):pI l<2 ^ l.length:=by
 have:=Nj l 0 h
 unfold pI
 omega
theorem OG {l:Bytes} {p:Nat} (h:p<l.length):pI (l.take (p+1))=2*pI (l.take p)+((l.getD p 0).toNat - 48):=by
 rw [List.take_succ_eq_append_getElem h,OE]
 simp [List.getD,h]
theorem U1 {l:Bytes} {p:Nat} (h:p<l.length) (ha:l.all jr=true):l.getD p 0=48∨l.getD p 0=49:=by
 have:=List.all_eq_true.1 ha (l.getD p 0) (by simp [List.getD,h])
 simpa [jr] using this
end Go.Fv.H
/- strconv.ParseInt in base 2. -/
namespace Go.Fv.H
open Go Go.Proofs
theorem SI (l:Bytes):(aj l).length=l.length:=by unfold aj;rw [List.length_map]
theorem SH {b:Bytes} {i:Nat} (h:i<b.length):(aj b).getD i 0=((b.getD i 0).toNat:Int):=by
 unfold aj
 simp [List.getD,h]
end Go.Fv.H
/- The reference's packBits: the walk. -/
namespace Go.Fv.H
open Go Go.Proofs
set_option maxHeartbeats 4000000 in
theorem JZ (l:Bytes) (h1:l.all jr=true) (hl:l.length=8) :
  aC Tryz.prog 136 [.str l,.int .i64 2,.int .i64 8] (.tup [.int .u64 (pI l),.raw .nilIface]) []:=by
 have h0:l≠[]:=fun e=>by rw [e] at hl;cases hl
 have hv:=Nh l h1
 refine aC.aJ Tryz.func136 rfl (by decide) (by simp [Tryz.f136]) [.tmp 6,.tmp 7] rfl fun w0 T0 _=>?_
 simp only [Tryz.f136,aB]
 (repeat' with_reducible first|intro _|refine rz ?_|refine ra ?_ ?_|omega|simp only [go_sem,h0])
 refine bZ.at 256 (by decide) ?_
 refine bZ.at 255 (by decide) ?_
 (repeat' with_reducible first|intro _|exact dn|refine rn ?_|refine ra ?_ ?_)
 have hbl:=SI l
 refine aH.intro (fun i:Nat=>⟨172,[(101,.int .i64 i),(100,.int .i64 l.length),(99,.own 0),(13,.int .u64 (pI (l.take i))),(12,.bool false),(11,.int .u64 255),(10,.int .u64 9223372036854775808),(9,.str l),(8,.bool false),(0,.str l),(1,.int .i64 2),(2,.int .i64 8)],[(0,.row 5 (.ints .u8 (aj l)))],1⟩) (fun i=>i≤l.length) (fun i=>l.length - i) 0 ?_ (Nat.zero_le _) fun i hi=>?_
 ·refine aK.ak rfl ?_ ?_<;>simp only [go_sem,Int.natCast_succ,hbl]
  rfl
 have hcut:l.take l.length=l:=List.take_length
 by_cases hlt:i<l.length
 ·have hb:(aj l).getD i 0=((l.getD i 0).toNat:Int):=SH hlt
  have hs:=OG hlt
  have ha:=U1 hlt h1
  have hv2:=Nh (l.take (i+1)) (by rw [List.all_eq_true] at h1 ⊢;intro x hx;exact h1 x (List.mem_of_mem_take hx))
  have hp:(2:Nat) ^ (l.take (i+1)).length≤2 ^ 8:=Nat.pow_le_pow_right (by decide) (by rw [List.length_take];omega)
  rw [show (2:Nat) ^ 8=256 from rfl] at hp
  have hc:(l.getD i 0).toNat=48∨(l.getD i 0).toNat=49:=by rcases ha with e|e<;>rw [e]<;>decide
  generalize l.getD i 0=c at *
  generalize pI (l.take i)=v at *
  have hcc:((c.toNat:Nat):Int) - 48=((c.toNat - 48:Nat):Int):=by omega
  generalize c.toNat=cn at *
  have f1:((cn:Int)=95)=False:=eq_false (by omega)
  have f2:(48≤(cn:Int))=True:=eq_true (by omega)
  have f3:((cn:Int)≤57)=True:=eq_true (by omega)
  (repeat' with_reducible first|intro _|refine rz ?_|refine ra ?_ ?_|omega|simp only [go_sem,hb,hbl,f1,f2,f3])
  refine ⟨i+1,aK.ak rfl ?_ ?_,by omega,by omega⟩<;>simp only [go_sem,Int.natCast_succ,hs]
  all_goals omega
 ·have e:i=l.length:=by omega
  subst e
  rw [hcut]
  (repeat' with_reducible first|intro _|refine rz ?_|refine ra ?_ ?_|omega|simp only [go_sem,hbl])
  refine bg.auto 0 ?_ rfl ?_<;>simp only [go_sem,Int.natCast_succ,Post]
theorem Og (l:Bytes) (h1:l.all jr=true) (hl:l.length=8) :
  aC Tryz.prog 97 [.str l,.int .i64 2,.int .i64 8] (.tup [.int .u64 (pI l),.raw .nilIface]) []:=by
 have k:=JZ l h1 hl
 refine aC.aJ Tryz.func97 rfl (by decide) (by simp [Tryz.f97]) [.tmp 6,.tmp 7] rfl fun w0 T0 _=>?_
 simp only [Tryz.f97,aB]
 (repeat' with_reducible first|intro _|exact dn|refine rn ?_|refine ra ?_ ?_)
 refine ah.k k ?_
 (repeat' with_reducible first|intro _|exact dn|refine rn ?_|refine ra ?_ ?_)
 refine bg.auto 0 ?_ rfl ?_<;>simp only [go_sem,Int.natCast_succ,Post]
theorem WJ {α:Type} {l:List α} (h:l.length=8):∃ a b c d e f g i,l=[a,b,c,d,e,f,g,i]:=by
 match l,h with
 | [a,b,c,d,e,f,g,i],_=>exact ⟨a,b,c,d,e,f,g,i,rfl⟩
theorem pW {c:UInt8} (h:jr c=true):c.toNat - 48=if c=49 then 1 else 0:=by
 have h3:c=48∨c=49:=by simpa [jr] using h
 rcases h3 with rfl|rfl<;>rfl
theorem VP {s:Bytes} (h1:s.all jr=true) {j:Nat} (h:8*j+8≤s.length):pI ((s.drop (8*j)).take 8)=pk s j:=by
 have hl:((s.drop (8*j)).take 8).length=8:=by rw [List.length_take,List.length_drop];omega
 have hal:∀ x,x∈(s.drop (8*j)).take 8→jr x=true:=fun x hx=>(List.all_eq_true.1 h1) x (List.mem_of_mem_drop (List.mem_of_mem_take hx))
 have hg:∀ k,k<8→bt s (8*j+k)=if ((s.drop (8*j)).take 8).getD k 0=49 then 1 else 0:=fun k hk=>by
  unfold bt
  rw [List.getD_eq_getElem?_getD,List.getD_eq_getElem?_getD,List.getElem?_take,if_pos hk,List.getElem?_drop]
 obtain ⟨a,b,c,d,e,f,g,i,hL⟩:=WJ hl
 rw [hL] at hal hg ⊢
 unfold pk
 have g0:=hg 0 (by decide)
 rw [Nat.add_zero] at g0
 rw [g0,hg 1 (by decide),hg 2 (by decide),hg 3 (by decide),hg 4 (by decide),hg 5 (by decide),hg 6 (by decide),hg 7 (by decide)]
 unfold pI
 simp only [List.foldl_cons,List.foldl_nil,List.getD_cons_zero,List.getD_cons_succ]
 rw [pW (hal a (by simp)),pW (hal b (by simp)),pW (hal c (by simp)),pW (hal d (by simp)),pW (hal e (by simp)),pW (hal f (by simp)),pW (hal g (by simp)),pW (hal i (by simp))]
 generalize (if a=49 then 1 else 0)=a
 omega
theorem VA (s:Bytes) (n j:Nat):pk (s++List.replicate n 48) j=pk s j:=by
 have key:∀ k,bt (s++List.replicate n 48) k=bt s k:=fun k=>by
  unfold bt
  rw [List.getD_eq_getElem?_getD,List.getD_eq_getElem?_getD]
  by_cases hk:k<s.length
  ·rw [List.getElem?_append_left hk]
  ·rw [List.getElem?_append_right (by omega),List.getElem?_replicate,List.getElem?_eq_none (l:=s) (by omega)]
   split<;>decide
 unfold pk
 simp only [key]
theorem QL (j:Nat) (s:Bytes):aj (yM (j+1) s)=aj (yM j s)++[((pk s j:Nat):Int)]:=by
 unfold aj yM
 rw [List.range_succ,List.map_append,List.map_append]
 have:=Iu s j
 simp
 omega
set_option maxHeartbeats 4000000 in
theorem qA (s:Bytes) (h1:s.all jr=true) (hs:s.length≤1000000000):aC Tryz.prog 56 [.str s] (.str (l9 s)) []:=by
 refine aC.aJ Tryz.func56 rfl (by decide) (by simp [Tryz.f56]) [.tmp 2] rfl fun w0 T0 _=>?_
 simp only [Tryz.f56,aB]
 obtain ⟨z,m,hz,hm⟩:∃ z m,z<8∧s.length+z=8*m:=⟨8*((s.length+7) / 8) - s.length,(s.length+7) / 8,by omega,by omega⟩
 (repeat' with_reducible first|intro _|exact dn|refine rn ?_|refine ra ?_ ?_)
 refine aH.intro (fun i:Nat=>⟨29,[(2,.str []),(0,.str (s++List.replicate i 48))],[],0⟩) (fun i=>i≤z) (fun i=>z - i) 0 ?_ (Nat.zero_le _) fun i hi=>?_
 ·refine aK.ak rfl ?_ ?_<;>simp only [go_sem,Int.natCast_succ]
 have hrl:(s++List.replicate i 48).length=s.length+i:=by rw [List.length_append,List.length_replicate]
 have hsnoc:s++List.replicate (i+1) (48:UInt8)=(s++List.replicate i 48)++[48]:=by rw [List.replicate_succ',List.append_assoc]
 have d1:((s.length+i:Nat):Int).tmod 8=(((s.length+i)%8:Nat):Int):=by rw [Int.tmod_eq_emod_of_nonneg (by omega)];omega
 by_cases hlt:i<z
 ·have f1:((((s.length+i)%8:Nat):Int)=0)=False:=eq_false (by omega)
  (repeat' with_reducible first|intro _|refine rz ?_|refine ra ?_ ?_|omega|simp only [go_sem,hrl,d1,f1])
  refine ⟨i+1,aK.ak rfl ?_ ?_,by omega,by omega⟩<;>simp only [go_sem,Int.natCast_succ,hsnoc]
 have f1:((((s.length+i)%8:Nat):Int)=0)=True:=eq_true (by omega)
 have e:i=z:=by omega
 subst e
 have hpk:∀ j,pk (s++List.replicate i 48) j=pk s j:=VA s i
 have hall:(s++List.replicate i (48:UInt8)).all jr=true:=by
  rw [List.all_append,h1,Bool.true_and,List.all_eq_true]
  intro x hx;rw [(List.mem_replicate.1 hx).2];decide
 generalize hS:s++List.replicate i (48:UInt8)=S at *
 have hSl:S.length=8*m:=by omega
 have hval:∀ j,j<m→pI ((S.drop (8*j)).take 8)=pk s j:=fun j hj=>by rw [VP hall (by omega),hpk]
 have hpB:l9 s=yM m s:=by unfold l9;congr 1;omega
 rw [hpB]
 (repeat' with_reducible first|intro _|refine rz ?_|refine ra ?_ ?_|omega|simp only [go_sem,hrl,d1,f1])
 refine aH.intro (fun j:Nat=>⟨29,[(2,.str []),(3,.own 0),(0,.str (S.drop (8*j)))],[(0,.row 5 (.ints .u8 (aj (yM j s))))],1⟩) (fun j=>j≤m) (fun j=>m - j) 0 ?_ (Nat.zero_le _) fun j hj=>?_
 ·refine aK.ak rfl ?_ ?_<;>simp only [go_sem,Int.natCast_succ,Nat.mul_zero]
  all_goals rfl
 have hdl:(S.drop (8*j)).length=8*m - 8*j:=by rw [List.length_drop,hSl]
 have hbl:=cZ (yM j s)
 have hbk:=iw (yM j s)
 rw [zf] at hbl
 by_cases hjlt:j<m
 ·have hne:(S.drop (8*j)=[])=False:=eq_false fun e=>by rw [e] at hdl;simp at hdl;omega
  have hdd:(S.drop (8*j)).drop 8=S.drop (8*(j+1)):=by rw [List.drop_drop];congr 1
  have hv:=hval j hjlt
  have hp:=Iu s j
  have hall2:((S.drop (8*j)).take 8).all jr=true:=by
   rw [List.all_eq_true]
   exact fun x hx=>(List.all_eq_true.1 hall) x (List.mem_of_mem_drop (List.mem_of_mem_take hx))
  have ht8:((S.drop (8*j)).take 8).length=8:=by rw [List.length_take];omega
  have k:=Og _ hall2 ht8
  rw [hv] at k
  have hsu:=QL j s
  generalize yM j s=cu at *
  generalize pk s j=q at *
  have hw:IntKind.u8.wrap (q:Int)=(q:Int):=by rw [kS];omega
  (repeat' with_reducible first|intro _|refine rz ?_|refine ra ?_ ?_|omega|simp only [go_sem,hne,hdl])
  refine ah.k k ?_
  (repeat' with_reducible first|intro _|refine rz ?_|refine ra ?_ ?_|omega|simp only [go_sem,hw,hdd])
  refine ⟨j+1,aK.ak rfl ?_ ?_,by omega,by omega⟩<;>simp only [go_sem,Int.natCast_succ,hsu]
  ·exact List.take_of_length_le (by rw [hdl,List.length_drop,hSl];omega)
 ·have hne:(S.drop (8*j)=[])=True:=eq_true (List.length_eq_zero_iff.1 (by omega))
  have e:j=m:=by omega
  subst e
  (repeat' with_reducible first|intro _|refine rz ?_|refine ra ?_ ?_|omega|simp only [go_sem,hne])
  refine bg.auto 0 ?_ rfl ?_<;>simp only [go_sem,Int.natCast_succ,Post,hbk]
end Go.Fv.H
/- The reference's rowOf and bit: the walk; codes are made of "0" and "1". -/
namespace Go.Fv.H
open Go Go.Proofs
theorem JE (n:Nat):(eH n).all jr=true:=by
 unfold eH
 rw [List.all_append,O4,Bool.and_true,List.all_eq_true]
 intro x hx;rw [(List.mem_replicate.1 hx).2];decide
theorem Ru (l:List Int):(dZ l).all jr=true:=by
 unfold dZ
 rw [List.all_flatMap,List.all_eq_true]
 exact fun x _=>JE _
theorem Rt (w:Nat) (p:List Bool) (y:Nat):(iQ w p y).all jr=true:=by
 unfold iQ
 rw [List.all_flatMap,List.all_eq_true]
 exact fun x _=>Ru _
theorem TS (k:Nat):(bH.getD k []).all jr=true:=by
 by_cases h:k<7
 ·have hc:k=0∨k=1∨k=2∨k=3∨k=4∨k=5∨k=6:=by omega
  rcases hc with rfl|rfl|rfl|rfl|rfl|rfl|rfl<;>rfl
 ·rw [List.getD_eq_getElem?_getD,List.getElem?_eq_none (show bH.length≤k by show 7≤k;omega)];rfl
theorem Un (row above:List Bool) (p:Nat) (ink:Bool):(aN row above p ink).c.all jr=true:=by
 unfold aN
 split
 ·exact (by decide:fP.all jr=true)
 ·split
  ·exact TS _
  ·dsimp only
   rw [List.all_append,List.all_append,JE,JE]
   decide
theorem MF {row above:List Bool} (hw:above.length=row.length):∀ (f p:Nat) (ink:Bool),row.length+1 - p≤f→(yL row above p ink).all jr=true
 | 0,p,ink,h=>by rw [lY (by omega)];rfl
 | f+1,p,ink,h=>by
  by_cases hp:p≤row.length
  ·have hs:=lM hw hp ink
   rw [nT hw hp,List.all_append,Un,Bool.true_and]
   exact MF hw f _ _ (by omega)
  ·rw [lY hp];rfl
theorem Qa {row above:List Bool} (hw:above.length=row.length):(jv row above).all jr=true:=by
 unfold jv
 split
 ·rfl
 ·exact MF hw (row.length+1) 0 false (by omega)
theorem Oa (w h:Nat) (p:List Bool) (hp:p.length=w*h) (y:Nat) (hy:y≤h):(dX w p y).all jr=true:=by
 unfold dX
 rw [List.all_flatMap,List.all_eq_true]
 intro j hj
 rw [List.mem_range] at hj
 have hl:=iH hp (y:=j) (by omega)
 refine Qa ?_
 rw [hl]
 unfold yC
 split
 ·exact List.length_replicate
 ·exact iH hp (by omega)
theorem O6 (p:List Bool):(fO p).all jr=true:=by
 unfold fO
 rw [List.all_map,List.all_eq_true]
 intro x _
 cases x<;>rfl
theorem U6 (b:Bool):aC Tryz.prog 55 [.bool b] (.int .i64 (if b=true then 1 else 0)) []:=by
 refine aC.aJ Tryz.func55 rfl (by decide) (by simp [Tryz.f55]) [.tmp 2] rfl fun w0 T0 _=>?_
 simp only [Tryz.f55,aB]
 cases b <;>
  ((repeat' with_reducible first|intro _|exact dn|refine rn ?_|refine ra ?_ ?_)
   refine bg.auto 0 ?_ rfl ?_<;>simp only [go_sem,Int.natCast_succ,Post])
theorem AY (w h:Nat) (hw:w≤4000) (hh:h≤4000) (p:List Bool) (hp:p.length=w*h) (y:Nat) (hy:y<h) :
  aC Tryz.prog 59 [.agg [.int .i64 w,.int .i64 h,.ro (.bools p)],.int .i64 y] (.ro (.bools (rowP w p y))) []:=by
 have h1:y*w+w≤h*w:=by rw [←Nat.succ_mul];exact Nat.mul_le_mul_right _ hy
 have h2:h*w≤4000*4000:=Nat.mul_le_mul hh hw
 have h3:w*h=h*w:=Nat.mul_comm _ _
 have e1:(y:Int)*(w:Int)=((y*w:Nat):Int):=(Int.natCast_mul y w).symm
 have e2:((y:Int)+1)*(w:Int)=((y*w+w:Nat):Int):=by rw [Int.add_mul,Int.one_mul,e1];omega
 have e3:y*w+w - y*w=w:=by omega
 generalize hyw:y*w=a at *
 refine aC.aJ Tryz.func59 rfl (by decide) (by simp [Tryz.f59]) [.tmp 4] rfl fun w0 T0 _=>?_
 simp only [Tryz.f59,aB]
 have f1:((y:Int)<0)=False:=eq_false (by omega)
 (repeat' with_reducible first|intro _|refine rz ?_|refine ra ?_ ?_|omega|simp only [go_sem,e1,e2,f1])
 refine bg.auto 0 ?_ rfl ?_<;>simp only [go_sem,Int.natCast_succ,Post,rowP,hyw,e3]
theorem Ox (w h:Nat) (hw:w≤4000) (p:List Bool) :
  aC Tryz.prog 59 [.agg [.int .i64 w,.int .i64 h,.ro (.bools p)],.int .i64 (-1)] (.own 0) [(0,.row 4 (.bools (List.replicate w false)))]:=by
 refine aC.aJ Tryz.func59 rfl (by decide) (by simp [Tryz.f59]) [.tmp 4] rfl fun w0 T0 _=>?_
 simp only [Tryz.f59,aB]
 (repeat' with_reducible first|intro _|exact dn|refine rn ?_|refine ra ?_ ?_)
 refine bg.auto 1 ?_ rfl ?_<;>simp only [go_sem,Int.natCast_succ,Post]
end Go.Fv.H
/- Rows coded by the row above: what is coded is read. -/
namespace Go.Fv.H
open Go
theorem Fa {s:Bytes} {n l:Nat} (h:Ug s=some (n,l)):l≤s.length∧1≤n∧l≤41:=by
 unfold Ug at h
 split at h
 ·rename_i hc
  obtain ⟨h1,h2,h3,h4⟩:=hc
  have e:=Option.some.inj h
  have e1:pI ((s.drop (kM s)).take (kM s+1))=n:=congrArg Prod.fst e
  have e2:2*kM s+1=l:=congrArg Prod.snd e
  refine ⟨by omega,?_,by omega⟩
  have hd:(s.drop (kM s)).length=s.length - kM s:=List.length_drop
  have hz:s.drop (kM s)=s.dropWhile VU:=by
   unfold kM
   conv=>lhs;rw [←List.takeWhile_append_dropWhile (p:=VU) (l:=s)]
   rw [List.drop_left' (by rw [List.takeWhile_append_dropWhile])]
  cases hq:s.dropWhile VU with
  | nil=>
   rw [hz,hq] at hd
   simp only [List.length_nil] at hd
   omega
  | cons c r=>
   have hc:VU c=false:=by
    have:=List.head?_dropWhile_not VU s
    rw [hq] at this
    simpa using this
   rw [hz,hq,List.take_succ_cons] at h3 e1
   rw [List.all_cons,Bool.and_eq_true] at h3
   have h49:c=49:=by
    have:=h3.1
    unfold jr at this
    unfold VU at hc
    rw [decide_eq_true_eq] at this
    rw [decide_eq_false_iff_not] at hc
    rcases this with h|h
    ·exact absurd h hc
    ·exact h
   subst h49
   have key:∀ (l:Bytes) (a:Nat),1≤a→1≤l.foldl (fun a c=>2*a+(c.toNat - 48)) a:=by
    intro l
    induction l with
    | nil=>intro a h;exact h
    | cons x l ih=>intro a h;exact ih (2*a+(x.toNat - 48)) (by omega)
   rw [←e1]
   unfold pI
   rw [List.foldl_cons]
   exact key _ _ (by decide)
 ·cases h
theorem Jt {s:Bytes} (h:codeOf s≤8):(codeOf s=0→4≤s.length)∧(codeOf s=8→3≤s.length)∧(1≤codeOf s→codeOf s≤7→(bH.getD (codeOf s - 1) []).length≤s.length):=by
 have key:∀ c:Bytes,c.isPrefixOf s=true→c.length≤s.length:=fun c hc=>(List.isPrefixOf_iff_prefix.1 hc).length_le
 unfold codeOf
 repeat' split
 all_goals rename_i hx
 all_goals first
  | exact ⟨fun _=>key _ hx,fun h=>by omega,fun h=>by omega⟩
  | exact ⟨fun h=>by omega,fun h=>by omega,fun _ _=>key _ hx⟩
  | exact ⟨fun h=>by omega,fun _=>key _ hx,fun _ h=>by omega⟩
  | exact ⟨fun h=>by omega,fun h=>by omega,fun _ h=>by omega⟩
theorem Jy {strict:Bool} {w:Nat} {s:Bytes} {p:Nat} {ink:Bool} {x:UZ} (h:PE strict w s p ink=some x):p<x.p∧x.p≤w+1∧x.px.length=x.p - 1 - (p - 1)∧(3≤s.length→x.n≤s.length):=by
 unfold PE at h
 cases h1:Ug (s.drop 3) with
 | none=>rw [h1] at h;cases h
 | some y=>
  obtain ⟨m1,l1⟩:=y
  rw [h1] at h
  dsimp only at h
  cases h2:Ug (s.drop (3+l1)) with
  | none=>rw [h2] at h;cases h
  | some z=>
   obtain ⟨m2,l2⟩:=z
   rw [h2] at h
   dsimp only at h
   split at h
   ·rename_i hc
    cases h
    have g1:=(Fa h1).1
    have g2:=(Fa h2).1
    rw [List.length_drop] at g1 g2
    refine ⟨by dsimp only;omega,by dsimp only;omega,by simp;omega,by dsimp only;omega⟩
   ·cases h
theorem qB {strict:Bool} {above:List Bool} {s:Bytes} {p:Nat} {ink:Bool} {x:UZ} (hp:p≤above.length) (h:rdStep strict above s p ink=some x):p<x.p∧x.p≤above.length+1∧x.px.length=x.p - 1 - (p - 1)∧x.n≤s.length:=by
 have hcl:=@Jt s
 obtain ⟨b1,b2⟩:=mX (r:=above) (i:=p) hp (!ink)
 have b3:=iy above (fG above p (!ink)+1)
 have b4:p≤dU above (fG above p (!ink)+1):=by
  by_cases h:fG above p (!ink)<above.length
  ·have:=jo (r:=above) (i:=fG above p (!ink)+1) (by omega);omega
  ·rw [iW (r:=above) (i:=fG above p (!ink)+1) (by omega)];omega
 unfold rdStep at h
 split at h
 ·rename_i h0
  cases h
  have:=(hcl (by omega)).1 h0
  refine ⟨by dsimp only;omega,by dsimp only;omega,by simp,this⟩
 ·split at h
  ·rename_i h0 h7
   split at h
   ·cases h
    have:=(hcl (by omega)).2.2 (by omega) h7
    refine ⟨by dsimp only;omega,by dsimp only;omega,by simp,this⟩
   ·cases h
  ·split at h
   ·rename_i h8
    have:=Jy h
    exact ⟨this.1,this.2.1,this.2.2.1,this.2.2.2 ((hcl (by omega)).2.1 h8)⟩
   ·cases h
def tV (strict:Bool) (above:List Bool) (s:Bytes) (p:Nat) (ink:Bool):Option (List Bool × Nat):=
 if hp:p≤above.length then
  match h:rdStep strict above s p ink with
  | none=>none
  | some x=>match tV strict above (s.drop x.n) x.p x.k with
   | none=>none
   | some (l,n)=>some (x.px++l,x.n+n)
 else some ([],0)
termination_by above.length+1 - p
decreasing_by have:=(qB hp h).1;omega
theorem IB {strict:Bool} {above:List Bool} {s:Bytes} {p:Nat} (hp:¬p≤above.length) (ink:Bool):tV strict above s p ink=some ([],0):=by rw [tV,dif_neg hp]
theorem DW {strict:Bool} {above:List Bool} {s:Bytes} {p:Nat} {ink:Bool} {x:UZ} (hp:p≤above.length) (h:rdStep strict above s p ink=some x) :
  tV strict above s p ink=match tV strict above (s.drop x.n) x.p x.k with|none=>none|some (l,n)=>some (x.px++l,x.n+n):=by
 conv=>lhs;rw [tV]
 rw [dif_pos hp]
 split
 ·rename_i hx;rw [h] at hx;cases hx
 ·rename_i y hx;rw [h] at hx;cases hx;rfl
def Iz (strict:Bool) (above:List Bool) (s:Bytes):Option (List Bool × Nat):=if above.length=0 then some ([],0) else tV strict above s 0 false
def VF (strict:Bool) (above:List Bool) (s:Bytes):Option (List Bool × Nat):=
 match Iz strict above s with
 | none=>none
 | some (l,n)=>if jv l above=s.take n then some (l,n) else none
end Go.Fv.H
/- Pages out of data, in plain words: what is written is read. -/
namespace Go.Fv.H
open Go
theorem Uh {s:Bytes} {n l:Nat} (h:Ug s=some (n,l)):1≤l∧n≤1048576:=by
 unfold Ug at h
 split at h
 ·rename_i hc;cases h;exact ⟨by omega,hc.2.2.2⟩
 ·cases h
def Rk (w n:Nat) (ink:Bool) (s:Bytes):List Bool × Option Bytes:=
 if n<w then
  match h:Ug s with
  | none=>([],none)
  | some (m,l)=>if w - n<m - 1 then ([],none) else (List.replicate (m - 1) ink++(Rk w (n+(m - 1)) (!ink) (s.drop l)).1,(Rk w (n+(m - 1)) (!ink) (s.drop l)).2)
 else ([],some s)
termination_by s.length
decreasing_by
 all_goals
  have h2:=Fa h
  have h3:=Uh h
  rw [List.length_drop];omega
def VH (f:Bytes→List Bool × Bool) (q:List Bool × Option Bytes):List Bool × Bool:=
 match q.2 with
 | none=>(q.1,false)
 | some t=>(q.1++(f t).1,(f t).2)
def Rj (w:Nat):Nat→Bytes→List Bool × Bool
 | 0,_=>([],true)
 | h+1,s=>VH (Rj w h) (Rk w 0 false s)
def JO:Nat→List Bool→Bytes→List Bool × Bool
 | 0,_,_=>([],true)
 | h+1,ab,s=>
  match VF true ab s with
  | none=>([],false)
  | some (r,n)=>(r++(JO h r (s.drop n)).1,(JO h r (s.drop n)).2)
def WR (s:Bytes):List Bool:=s.map fun c=>decide (c=49)
def VB (n:Nat) (s:Bytes):List Bool × Bool:=if s.length<n then ([],false) else (WR (s.take n),true)
def WQ (kind:Int) (w h:Nat) (d:Bytes):List Bool × Bool:=
 if kind=4 then ((Wj w h d (w*h) (w*h)).P,true) else if kind=1 then VB (w*h) (XF d) else if kind=2 then Rj w h (XF d) else JO h (List.replicate w false) (XF d)
def GY:Bool→List Int→List Bool
 | _,[]=>[]
 | ink,n::l=>List.replicate n.toNat ink++GY (!ink) l
def Cc (l:List Int):Int:=l.foldr (·+·) 0
theorem uM:∀ (l:List Int) (ink:Bool) (x:Int),GY ink (l++[x])=GY ink l++List.replicate x.toNat (xor ink (decide (l.length%2=1)))
 | [],ink,x=>by cases ink<;>simp [GY]
 | y::l,ink,x=>by
  show List.replicate y.toNat ink++GY (!ink) (l++[x])=List.replicate y.toNat ink++GY (!ink) l++_
  rw [uM l (!ink) x,List.append_assoc]
  congr 3
  have e:(y::l).length=l.length+1:=rfl
  rw [e]
  by_cases h:l.length%2=1
  ·rw [decide_eq_true h,decide_eq_false (by omega)];cases ink<;>rfl
  ·rw [decide_eq_false h,decide_eq_true (by omega)];cases ink<;>rfl
theorem IQ (l:List Int) (x:Int):Cc (l++[x])=Cc l+x:=by
 induction l with
 | nil=>show x+0=0+x;omega
 | cons y l ih=>show y+Cc (l++[x])=y+Cc l+x;rw [ih];omega
structure Uz (row:List Bool) (i:Nat) (l0:List Int) (x:Int) (ink:Bool):Prop where
 ink:ink=decide (l0.length%2=1)
 ex:GY false (l0++[x])=row.take i
 x1:1≤x
 nn:∀ y,y∈l0→0≤y
 pos:∀ y,y∈l0.drop 1→1≤y
 sum:Cc l0+x=i
theorem take_snoc {row:List Bool} {i:Nat} (h:i<row.length):row.take (i+1)=row.take i++[row.getD i false]:=by
 rw [List.take_succ_eq_append_getElem h,getD_lt h]
theorem IJ (l0:List Int) (x y:Int):(l0++[x]).set ((l0++[x]).length - 1) y=l0++[y]:=by
 have e:(l0++[x]).length - 1=l0.length:=by simp
 rw [e,List.set_append_right _ _ (Nat.le_refl _),Nat.sub_self];rfl
theorem Dv (l0:List Int) (x:Int):(l0++[x]).getD ((l0++[x]).length - 1) 0=x:=by
 have e:(l0++[x]).length - 1=l0.length:=by simp
 rw [e,List.getD_eq_getElem?_getD,List.getElem?_append_right (Nat.le_refl _),Nat.sub_self];rfl
theorem rH {row:List Bool} {i:Nat} (h:i<row.length) {l0:List Int} {x:Int} {p ink:Bool} (hp:row.getD i false=p) (hi:ink=decide (l0.length%2=1)) (hx:0≤x) (hpi:p=ink)
  (he:GY false (l0++[x])=row.take i) (nn:∀ y,y∈l0→0≤y) (pos:∀ y,y∈l0.drop 1→1≤y) (hs:Cc l0+x=i):Uz row (i+1) l0 (x+1) p:=by
 refine ⟨by rw [hpi,hi],?_,by omega,nn,pos,by omega⟩
 rw [take_snoc h,←he,uM,uM,List.append_assoc,hp,hpi,hi]
 congr 1
 have e:(x+1).toNat=x.toNat+1:=by omega
 rw [e,List.replicate_succ',Bool.false_xor]
theorem D8 (row:List Bool):∀ i,i<row.length→∃ l0 x,(aW row (i+1)).1=l0++[x]∧Uz row (i+1) l0 x (aW row (i+1)).2
 | 0,h=>by
  have e:aW row 1=iI [] false 0 (row.getD 0 false):=rfl
  rw [e]
  cases hp:row.getD 0 false with
  | false=>
   refine ⟨[],1,rfl,?_⟩
   exact rH (ink:=false) h hp rfl (Int.le_refl 0) rfl (by rfl) (by simp) (by simp) (by rfl)
  | true=>
   refine ⟨[0],1,rfl,?_⟩
   exact rH (ink:=true) h hp rfl (Int.le_refl 0) rfl (by rfl) (by simp) (by simp) (by rfl)
 | i+1,h=>by
  obtain ⟨l0,x,h1,h2⟩:=D8 row i (by omega)
  have e:aW row (i+1+1)=iI (aW row (i+1)).1 (aW row (i+1)).2 (i+1) (row.getD (i+1) false):=rfl
  rw [e,h1]
  generalize (aW row (i+1)).2=ink at h2 ⊢
  cases hp:row.getD (i+1) false with
  | _=>
   unfold iI
   simp only [if_neg (show ¬(i+1=0) by omega)]
   split
   ·rename_i hq
    refine ⟨l0,x+1,?_,?_⟩
    ·rw [Dv,IJ]
    ·exact rH (ink:=ink) h hp h2.ink (by have:=h2.x1;omega) hq h2.ex h2.nn h2.pos h2.sum
   ·rename_i hq
    refine ⟨l0++[x],0+1,?_,?_⟩
    ·rw [Dv,IJ]
    ·have hlen:(l0++[x]).length=l0.length+1:=by simp
     have hx:=h2.x1
     refine rH (ink:=!ink) h hp ?_ (Int.le_refl 0) ?_ ?_ (fun y hy=>?_) (fun y hy=>?_) ?_
     ·rw [hlen,h2.ink]
      by_cases hq:l0.length%2=1
      ·rw [decide_eq_true hq,decide_eq_false (by omega)];rfl
      ·rw [decide_eq_false hq,decide_eq_true (by omega)];rfl
     ·revert hq;cases ink<;>simp
     ·rw [uM,h2.ex];simp
     ·rcases List.mem_append.1 hy with hy|hy
      ·exact h2.nn y hy
      ·rw [List.mem_singleton.1 hy];omega
     ·rw [List.drop_append] at hy
      rcases List.mem_append.1 hy with hy|hy
      ·exact h2.pos y hy
      ·have:=List.mem_of_mem_drop hy
       rw [List.mem_singleton.1 this];omega
     ·rw [IQ];have:=h2.sum;omega
end Go.Fv.H
/- The reference's reader of adaptive data, in plain words: what it reads is what the other one reads; what is written it reads. -/
namespace Go.Fv.H
open Go
def KF (W H:Nat):Nat→AD→Nat→List Bool × Bool
 | 0,s,_=>(s.P,decide (s.data=[]))
 | k+1,s,i=>
  if (s.mid (s.c W H i) i).span≤(s.mid (s.c W H i) i).code then ((s.mid (s.c W H i) i).P,false)
  else if (s.mid (s.c W H i) i).span<16777216 then
   (if (s.mid (s.c W H i) i).data=[] then ((s.mid (s.c W H i) i).P,false) else KF W H k (s.mid (s.c W H i) i).norm (i+1))
  else KF W H k (s.mid (s.c W H i) i) (i+1)
def WZ (W H:Nat) (d:Bytes) (n:Nat):List Bool × Bool:=if d.length<4 then (List.replicate n false,false) else KF W H n (AD.init d n) 0
open Go Go.Proofs
theorem lG (b:Bool) (e:Int):aC Tryz.prog 29 [.bool b,.int .i64 e] (.int .i64 (if b=true then e else 0)) []:=by
 refine aC.aJ Tryz.func29 rfl (by decide) (by simp [Tryz.f29]) [.tmp 4] rfl fun w0 T0 _=>?_
 simp only [Tryz.f29,aB]
 cases b<;>simp only [go_sem]<;>(refine bg.auto 0 ?_ rfl ?_<;>simp only [go_sem,Int.natCast_succ,Post])
def dB (w h:Int):Int:=if w<1∨4000<w∨h<1∨4000<h then 3 else if 1048576<w*h then 4 else 0
set_option maxHeartbeats 1000000 in
theorem EC (w h:Int):aC Tryz.prog 67 [.int .i64 w,.int .i64 h] (.int .i64 (dB w h)) []:=by
 refine aC.aJ Tryz.func67 rfl (by decide) (by simp [Tryz.f67]) [.tmp 4] rfl fun w0 T0 _=>?_
 simp only [Tryz.f67,aB]
 simp only [go_sem]
 (repeat' first|(with_reducible refine wu.intro fun _=>?_)|((with_reducible refine aX.intro ?_ ?_);(· first|omega|(with_reducible refine aX.intro ?_ ?_<;>omega)|(simp;done)|(simp;omega)))|((with_reducible refine bZ.i64 ?_ ?_ ?_);(· omega);(· omega))|((with_reducible refine Ite.decide (fun _=>?_) (fun _=>?_))<;>first|(exfalso;omega)|simp only [go_sem])|((with_reducible refine Ite.bool (fun _=>?_) (fun _=>?_))<;>simp only [go_sem])|(with_reducible refine And.intro ?_ ?_))
 ·rename_i h1
  refine bg.auto 0 ?_ rfl ?_<;>simp only [go_sem,Int.natCast_succ,Post,dB]
  rw [if_pos (by omega)]
 ·rename_i h1
  have hm1:0≤w*h:=Int.mul_nonneg (by omega) (by omega)
  have hm2:w*h≤4000*4000:=Int.mul_le_mul (by omega) (by omega) (by omega) (by omega)
  refine bZ.i64 (by omega) (by omega) ?_
  (repeat' first|(with_reducible refine wu.intro fun _=>?_)|((with_reducible refine aX.intro ?_ ?_);(· first|omega|(with_reducible refine aX.intro ?_ ?_<;>omega)|(simp;done)|(simp;omega)))|((with_reducible refine bZ.i64 ?_ ?_ ?_);(· omega);(· omega))|((with_reducible refine Ite.decide (fun _=>?_) (fun _=>?_))<;>first|(exfalso;omega)|simp only [go_sem])|((with_reducible refine Ite.bool (fun _=>?_) (fun _=>?_))<;>simp only [go_sem])|(with_reducible refine And.intro ?_ ?_))
  ·refine bg.auto 0 ?_ rfl ?_<;>simp only [go_sem,Int.natCast_succ,Post,dB]
   rw [if_neg (by omega),if_pos (by omega)]
  ·refine bg.auto 0 ?_ rfl ?_<;>simp only [go_sem,Int.natCast_succ,Post,dB]
   rw [if_neg (by omega),if_neg (by omega)]
def iL (w h:Int) (n:Nat):Int:=if dB w h=0 then (if (n:Int)=w*h then 0 else 2) else dB w h
theorem oV {w h:Int} (e:dB w h=0):1≤w∧w≤4000∧1≤h∧h≤4000∧w*h≤1048576∧1≤w*h:=by
 unfold dB at e
 split at e
 ·omega
 ·split at e
  ·omega
  ·rename_i h1 h2
   have:1*1≤w*h:=Int.mul_le_mul (by omega) (by omega) (by omega) (by omega)
   omega
theorem Kz {w h:Int} (h1:1≤w) (h2:w≤4000) (h3:1≤h) (h4:h≤4000) (hm2:w*h≤1048576):dB w h=0:=by
 unfold dB
 rw [if_neg (by omega),if_neg (by omega)]
set_option maxHeartbeats 1000000 in
theorem Ez (w h:Int) (p:List Bool):aC Tryz.prog 74 [.agg [.int .i64 w,.int .i64 h,.ro (.bools p)]] (.int .i64 (iL w h p.length)) []:=by
 refine aC.aJ Tryz.func74 rfl (by decide) (by simp [Tryz.f74]) [.tmp 2] rfl fun w0 T0 _=>?_
 simp only [Tryz.f74,aB]
 simp only [go_sem]
 (repeat' first|(with_reducible refine wu.intro fun _=>?_)|((with_reducible refine aX.intro ?_ ?_);(· first|omega|(with_reducible refine aX.intro ?_ ?_<;>omega)|(simp;done)|(simp;omega)))|((with_reducible refine bZ.i64 ?_ ?_ ?_);(· omega);(· omega))|((with_reducible refine Ite.decide (fun _=>?_) (fun _=>?_))<;>first|(exfalso;omega)|simp only [go_sem])|((with_reducible refine Ite.bool (fun _=>?_) (fun _=>?_))<;>simp only [go_sem])|(with_reducible refine And.intro ?_ ?_))
 refine ah.fr (args':=[.int .i64 w,.int .i64 h]) (fD.iF (EC w h) rfl rfl) (by simp [aO,aT,aF]) 0 rfl (by simp [gG]) ?_
 simp only [go_sem]
 (repeat' first|(with_reducible refine wu.intro fun _=>?_)|((with_reducible refine aX.intro ?_ ?_);(· first|omega|(with_reducible refine aX.intro ?_ ?_<;>omega)|(simp;done)|(simp;omega)))|((with_reducible refine bZ.i64 ?_ ?_ ?_);(· omega);(· omega))|((with_reducible refine Ite.decide (fun _=>?_) (fun _=>?_))<;>first|(exfalso;omega)|simp only [go_sem])|((with_reducible refine Ite.bool (fun _=>?_) (fun _=>?_))<;>simp only [go_sem])|(with_reducible refine And.intro ?_ ?_))
 ·rename_i h1
  refine bg.auto 0 ?_ rfl ?_<;>simp only [go_sem,Int.natCast_succ,Post,iL,h1,reduceIte]
 ·have h1:dB w h=0:=by omega
  have hs:=oV h1
  refine bZ.i64 (by omega) (by omega) ?_
  (repeat' first|(with_reducible refine wu.intro fun _=>?_)|((with_reducible refine aX.intro ?_ ?_);(· first|omega|(with_reducible refine aX.intro ?_ ?_<;>omega)|(simp;done)|(simp;omega)))|((with_reducible refine bZ.i64 ?_ ?_ ?_);(· omega);(· omega))|((with_reducible refine Ite.decide (fun _=>?_) (fun _=>?_))<;>first|(exfalso;omega)|simp only [go_sem])|((with_reducible refine Ite.bool (fun _=>?_) (fun _=>?_))<;>simp only [go_sem])|(with_reducible refine And.intro ?_ ?_))
  ·rename_i h2
   refine bg.auto 0 ?_ rfl ?_<;>simp only [go_sem,Int.natCast_succ,Post,iL,h1,h2,reduceIte]
  ·rename_i h2
   refine bg.auto 0 ?_ rfl ?_<;>simp only [go_sem,Int.natCast_succ,Post,iL,h1,reduceIte]
   rw [if_pos (by omega)]
theorem fK (n lo hi:Int):aC Tryz.prog 109 [.int .i64 n,.int .i64 lo,.int .i64 hi] (.bool (decide (lo≤n∧n≤hi))) []:=by
 refine aC.aJ Tryz.func109 rfl (by decide) (by simp [Tryz.f109]) [.tmp 6] rfl fun w0 T0 _=>?_
 simp only [Tryz.f109,aB]
 (repeat' with_reducible first|intro _|exact dn|refine rn ?_|refine ra ?_ ?_)
 refine bg.auto 0 ?_ rfl ?_<;>simp only [go_sem,Int.natCast_succ,Post]
def VZ (p:List Bool) (w h:Nat) (i j:Int):Bool:=decide (0≤i∧i<w∧0≤j∧j<h) && p.getD (j*w+i).toNat false
theorem Jo (p:List Bool) {w h i j:Nat} (hi:i<w) (hj:j<h):VZ p w h i j=p.getD (j*w+i) false:=by
 unfold VZ
 rw [decide_eq_true (show 0≤(i:Int)∧(i:Int)<w∧0≤(j:Int)∧(j:Int)<h by omega),Bool.true_and,up_mul,up_add,Int.toNat_natCast]
theorem Lc (p:List Bool) {w h:Nat} {i j:Int} (h':¬(0≤i∧i<w∧0≤j∧j<h)):VZ p w h i j=false:=by
 unfold VZ;rw [decide_eq_false h',Bool.false_and]
set_option maxHeartbeats 2000000 in
theorem IC (w h:Nat) (hw:w≤4000) (hh:h≤4000) (p:List Bool) (hp:p.length=w*h) (i j:Int):aC Tryz.prog 76 [.agg [.int .i64 w,.int .i64 h,.ro (.bools p)],.int .i64 i,.int .i64 j] (.bool (VZ p w h i j)) []:=by
 refine aC.aJ Tryz.func76 rfl (by decide) (by simp [Tryz.f76]) [.tmp 6] rfl fun w0 T0 _=>?_
 simp only [Tryz.f76,aB]
 by_cases hin:0≤i∧i<w∧0≤j∧j<h
 ·obtain ⟨i,rfl⟩:∃ k:Nat,i=k:=⟨i.toNat,by omega⟩
  obtain ⟨j,rfl⟩:∃ k:Nat,j=k:=⟨j.toNat,by omega⟩
  rw [Jo p (by omega) (by omega)]
  have b1:j*w+w≤h*w:=by rw [←Nat.succ_mul];exact Nat.mul_le_mul_right _ (by omega)
  have b2:h*w≤4000*4000:=Nat.mul_le_mul hh hw
  have b3:w*h=h*w:=Nat.mul_comm _ _
  (repeat' with_reducible first|intro _|exact dn|refine rn ?_|refine ra ?_ ?_)
  refine ah.k (fK i 0 (w - 1)) ?_
  rw [decide_eq_true (show 0≤(i:Int)∧(i:Int)≤w - 1 by omega)]
  (repeat' with_reducible first|intro _|exact dn|refine rn ?_|refine ra ?_ ?_)
  refine ah.k (fK j 0 (h - 1)) ?_
  rw [decide_eq_true (show 0≤(j:Int)∧(j:Int)≤h - 1 by omega)]
  (repeat' with_reducible first|intro _|refine rz ?_|refine ra ?_ ?_|omega|simp only [go_sem,up_mul,up_add,Int.toNat_natCast])
  refine bg.auto 0 ?_ rfl ?_<;>simp only [go_sem,Int.natCast_succ,Post]
 ·rw [Lc p hin]
  (repeat' with_reducible first|intro _|exact dn|refine rn ?_|refine ra ?_ ?_)
  refine ah.k (fK i 0 (w - 1)) ?_
  (repeat' with_reducible first|intro _|exact dn|refine rn ?_|refine ra ?_ ?_)
  ·refine ah.k (fK j 0 (h - 1)) ?_
   rw [decide_eq_false (show ¬(0≤(j:Int)∧(j:Int)≤h - 1) by omega)]
   (repeat' with_reducible first|intro _|exact dn|refine rn ?_|refine ra ?_ ?_)
   refine bg.auto 0 ?_ rfl ?_<;>simp only [go_sem,Int.natCast_succ,Post]
  ·refine bg.auto 0 ?_ rfl ?_<;>simp only [go_sem,Int.natCast_succ,Post]
end Go.Fv.H
/- shrink.at and shrink.context: the walk. -/
namespace Go.Fv.H
open Go Go.Proofs
theorem UC (w h:Nat) (p:List Bool) (x y:Int):kL w h p x y=VZ p w h x y:=rfl
set_option maxHeartbeats 2000000 in
theorem Um (w h:Nat) (hw:w≤4000) (hh:h≤4000) (p:List Bool) (hp:p.length=w*h) (x y:Int):aC Tryz.prog 114 [.agg [.int .i64 w,.int .i64 h,.ro (.bools p)],.int .i64 x,.int .i64 y] (.bool (kL w h p x y)) []:=by
 rw [UC]
 refine aC.aJ Tryz.func114 rfl (by decide) (by simp [Tryz.f114]) [.tmp 6] rfl fun w0 T0 _=>?_
 simp only [Tryz.f114,aB]
 by_cases hin:0≤x∧x<w∧0≤y∧y<h
 ·obtain ⟨x,rfl⟩:∃ k:Nat,x=k:=⟨x.toNat,by omega⟩
  obtain ⟨y,rfl⟩:∃ k:Nat,y=k:=⟨y.toNat,by omega⟩
  rw [Jo p (by omega) (by omega)]
  have b1:y*w+w≤h*w:=by rw [←Nat.succ_mul];exact Nat.mul_le_mul_right _ (by omega)
  have b2:h*w≤4000*4000:=Nat.mul_le_mul hh hw
  have b3:w*h=h*w:=Nat.mul_comm _ _
  have hd:decide (((0≤(x:Int)∧(x:Int)<(w:Int))∧0≤(y:Int))∧(y:Int)<(h:Int))=true:=decide_eq_true ⟨⟨⟨hin.1,hin.2.1⟩,hin.2.2.1⟩,hin.2.2.2⟩
  (repeat' with_reducible first|intro _|refine rz ?_|refine ra ?_ ?_|omega|simp only [go_sem,up_mul,up_add,Int.toNat_natCast])
  refine bg.auto 0 ?_ rfl ?_<;>simp only [go_sem,Int.natCast_succ,Post]
  rw [hd,Bool.true_and]
 ·rw [Lc p hin]
  have hd:decide (((0≤x∧x<(w:Int))∧0≤y)∧y<(h:Int))=false:=decide_eq_false fun q=>hin ⟨q.1.1.1,q.1.1.2,q.1.2,q.2⟩
  (repeat' with_reducible first|intro _|exact dn|refine rn ?_|refine ra ?_ ?_)
  refine bg.auto 0 ?_ rfl ?_<;>simp only [go_sem,Int.natCast_succ,Post]
  rw [hd,Bool.false_and]
end Go.Fv.H
