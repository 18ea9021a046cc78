/-
  A part of the proof of the claim: walks over the program's functions and the plain laws that these need. No condition of its own.
-/
import Derived.Test.YtodlgmmbfbiilaaGreatDoorHStripsCardPart2
import Derived.Test.YtodlgmmbfbiilaaGreatDoorHStripsCardPart1
import Derived.Test.YtodlgmmbfbiilaaGreatDoorFvPart10
import Derived.Test.YtodlgmmbfbiilaaGreatDoorFvPart11
import Derived.Shelf.Spec.TrailingZeros
import Derived.Shelf.Bits.Mul64
set_option linter.unusedSimpArgs false
set_option linter.unusedVariables false
set_option linter.unnecessarySimpa false
set_option maxRecDepth 8000
/- Changes of a row: the walk. -/
namespace Go.Fv.H
open Go Go.Proofs
theorem O6 {r:List Bool} {j:Nat} (h:j≠0):Jb r j=r.getD (j - 1) false:=by unfold Jb;rw [if_neg h]
theorem Rk (r:List Bool):Jb r 0=false:=rfl
theorem Ji (r:List Bool) (j:Nat) (a:Int) (ha:a=(j:Int) - 1) (hj:j≤r.length) (hl:r.length≤4000) :
  aA Tryz.prog 184 [.ro (.bools r),.int .i64 a] (.bool (Jb r j)) []:=by
 refine aA.aG Tryz.func184 rfl (by decide) (by simp [Tryz.f184]) [.tmp 4] rfl fun w0 T0 _=>?_
 simp only [Tryz.f184,au]
 by_cases h:j=0
 ·have f1:(0≤a)=False:=eq_false (by omega)
  have e:Jb r j=false:=by rw [h];rfl
  (repeat' with_reducible first|intro _|refine rz ?_|refine ra ?_ ?_|omega|simp only [go_sem,f1])
  refine aV.auto 0 ?_ rfl ?_<;>simp only [go_sem,Int.natCast_succ,Post,e]
 ·have f1:(0≤a)=True:=eq_true (by omega)
  have e:=O6 (r:=r) h
  have e2:a.toNat=j - 1:=by omega
  (repeat' with_reducible first|intro _|refine rz ?_|refine ra ?_ ?_|omega|simp only [go_sem,f1,e2])
  refine aV.auto 0 ?_ rfl ?_<;>simp only [go_sem,Int.natCast_succ,Post,e]
theorem Gq (r:List Bool) (j:Nat) (a:Int) (ha:a=(j:Int) - 1) (hj:j≤r.length) (hl:r.length≤4000) :
  aA Tryz.prog 139 [.ro (.bools r),.int .i64 a] (.bool (Jb r j)) []:=by
 refine aA.aG Tryz.func139 rfl (by decide) (by simp [Tryz.f139]) [.tmp 4] rfl fun w0 T0 _=>?_
 simp only [Tryz.f139,au]
 by_cases h:j=0
 ·have f1:(0≤a)=False:=eq_false (by omega)
  have e:Jb r j=false:=by rw [h];rfl
  (repeat' with_reducible first|intro _|refine rz ?_|refine ra ?_ ?_|omega|simp only [go_sem,f1])
  refine aV.auto 0 ?_ rfl ?_<;>simp only [go_sem,Int.natCast_succ,Post,e]
 ·have f1:(0≤a)=True:=eq_true (by omega)
  have e:=O6 (r:=r) h
  have e2:a.toNat=j - 1:=by omega
  (repeat' with_reducible first|intro _|refine rz ?_|refine ra ?_ ?_|omega|simp only [go_sem,f1,e2])
  refine aV.auto 0 ?_ rfl ?_<;>simp only [go_sem,Int.natCast_succ,Post,e]
theorem mZ (r:List Bool) (p:Nat) (a:Int) (ha:a=(p:Int) - 1) (hp:p≤r.length+1) (hl:r.length≤4000) :
  aA Tryz.prog 148 [.ro (.bools r),.int .i64 a] (.int .i64 (dG r p)) []:=by
 have e0:a+1=(p:Int):=by omega
 refine aA.aG Tryz.func148 rfl (by decide) (by simp [Tryz.f148]) [.tmp 4] rfl fun w0 T0 _=>?_
 simp only [Tryz.f148,au]
 (repeat' with_reducible first|intro _|refine rz ?_|refine ra ?_ ?_|omega|simp only [go_sem,e0])
 refine aI.intro (fun i:Nat=>⟨28,[(5,.int .i64 i),(0,.ro (.bools r))],[],0⟩) (fun i=>i≤r.length+1∧dG r i=dG r p) (fun i=>r.length+1 - i) p ?_ ⟨hp,rfl⟩ fun i hI=>?_
 ·refine aO.ak rfl ?_ ?_<;>simp only [go_sem,Int.natCast_succ]
 obtain ⟨hi,hI⟩:=hI
 by_cases hlt:i<r.length
 ·have f1:((i:Int)<(r.length:Int))=True:=eq_true (by omega)
  have k1:=Ji r (i+1) i (by omega) (by omega) hl
  have k2:=Ji r i ((i:Int) - 1) rfl (by omega) hl
  rw [iV] at k1
  have hc:=wo hlt
  (repeat' with_reducible first|intro _|refine rz ?_|refine ra ?_ ?_|omega|simp only [go_sem,f1])
  refine ah.k k1 ?_
  (repeat' with_reducible first|intro _|exact dn|refine rn ?_|refine ra ?_ ?_)
  refine ah.k k2 ?_
  by_cases he:r.getD i false=Jb r i
  ·rw [if_pos he] at hc
   (repeat' with_reducible first|intro _|refine rz ?_|refine ra ?_ ?_|omega|simp only [go_sem,he])
   refine ⟨i+1,aO.ak rfl ?_ ?_,⟨by omega,by rw [←hc];exact hI⟩,by omega⟩<;>simp only [go_sem,Int.natCast_succ]
  ·rw [if_neg he] at hc
   have hci:dG r p=i:=by rw [←hI,hc]
   have hm:min (i:Int) (r.length:Int)=(i:Int):=by omega
   (repeat' with_reducible first|intro _|refine rz ?_|refine ra ?_ ?_|omega|simp only [go_sem,he])
   refine aV.auto 0 ?_ rfl ?_<;>simp only [go_sem,Int.natCast_succ,Post,hci,hm]
 ·have f1:((i:Int)<(r.length:Int))=False:=eq_false (by omega)
  have hci:dG r p=r.length:=by rw [←hI,gY hlt]
  have hm:min (i:Int) (r.length:Int)=(r.length:Int):=by omega
  (repeat' with_reducible first|intro _|refine rz ?_|refine ra ?_ ?_|omega|simp only [go_sem,f1])
  refine aV.auto 0 ?_ rfl ?_<;>simp only [go_sem,Int.natCast_succ,Post,hci,hm]
theorem AX (r:List Bool) (p:Nat) (a:Int) (ha:a=(p:Int) - 1) (hp:p≤r.length+1) (hl:r.length≤4000) :
  aA Tryz.prog 99 [.ro (.bools r),.int .i64 a] (.int .i64 (dG r p)) []:=by
 have e0:a+1=(p:Int):=by omega
 refine aA.aG Tryz.func99 rfl (by decide) (by simp [Tryz.f99]) [.tmp 4] rfl fun w0 T0 _=>?_
 simp only [Tryz.f99,au]
 (repeat' with_reducible first|intro _|refine rz ?_|refine ra ?_ ?_|omega|simp only [go_sem,e0])
 refine aI.intro (fun i:Nat=>⟨25,[(5,.int .i64 i),(0,.ro (.bools r))],[],0⟩) (fun i=>i≤r.length+1∧dG r i=dG r p) (fun i=>r.length+1 - i) p ?_ ⟨hp,rfl⟩ fun i hI=>?_
 ·refine aO.ak rfl ?_ ?_<;>simp only [go_sem,Int.natCast_succ]
 obtain ⟨hi,hI⟩:=hI
 by_cases hlt:i<r.length
 ·have f1:((i:Int)<(r.length:Int))=True:=eq_true (by omega)
  have k1:=Gq r (i+1) i (by omega) (by omega) hl
  have k2:=Gq r i ((i:Int) - 1) rfl (by omega) hl
  rw [iV] at k1
  have hc:=wo hlt
  (repeat' with_reducible first|intro _|refine rz ?_|refine ra ?_ ?_|omega|simp only [go_sem,f1])
  refine ah.k k1 ?_
  (repeat' with_reducible first|intro _|exact dn|refine rn ?_|refine ra ?_ ?_)
  refine ah.k k2 ?_
  by_cases he:r.getD i false=Jb r i
  ·rw [if_pos he] at hc
   (repeat' with_reducible first|intro _|refine rz ?_|refine ra ?_ ?_|omega|simp only [go_sem,he])
   refine ⟨i+1,aO.ak rfl ?_ ?_,⟨by omega,by rw [←hc];exact hI⟩,by omega⟩<;>simp only [go_sem,Int.natCast_succ]
  ·rw [if_neg he] at hc
   have hci:dG r p=i:=by rw [←hI,hc]
   (repeat' with_reducible first|intro _|refine rz ?_|refine ra ?_ ?_|omega|simp only [go_sem,he])
   refine aV.auto 0 ?_ rfl ?_<;>simp only [go_sem,Int.natCast_succ,Post,hci]
 ·have f1:((i:Int)<(r.length:Int))=False:=eq_false (by omega)
  have hci:dG r p=r.length:=by rw [←hI,gY hlt]
  (repeat' with_reducible first|intro _|refine rz ?_|refine ra ?_ ?_|omega|simp only [go_sem,f1])
  refine aV.auto 0 ?_ rfl ?_<;>simp only [go_sem,Int.natCast_succ,Post,hci]
theorem Ak (r:List Bool) (p:Nat) (a:Int) (c:Bool) (ha:a=(p:Int) - 1) (hp:p≤r.length) (hl:r.length≤4000) :
  aA Tryz.prog 147 [.ro (.bools r),.int .i64 a,.bool c] (.int .i64 (fB r p c)) []:=by
 have k1:=mZ r p a ha (by omega) hl
 have hle:=fV r p
 have k2:=mZ r (dG r p+1) (dG r p:Int) (by omega) (by omega) hl
 refine aA.aG Tryz.func147 rfl (by decide) (by simp [Tryz.f147]) [.tmp 6] rfl fun w0 T0 _=>?_
 simp only [Tryz.f147,au]
 (repeat' with_reducible first|intro _|exact dn|refine rn ?_|refine ra ?_ ?_)
 refine ah.k k1 ?_
 by_cases h1:dG r p<r.length
 ·have f1:((dG r p:Int)<(r.length:Int))=True:=eq_true (by omega)
  by_cases h2:r.getD (dG r p) false=c
  ·have e:fB r p c=dG r p:=by unfold fB;rw [if_neg (fun h=>h.2 h2)]
   (repeat' with_reducible first|intro _|refine rz ?_|refine ra ?_ ?_|omega|simp only [go_sem,f1,h2])
   refine aV.auto 0 ?_ rfl ?_<;>simp only [go_sem,Int.natCast_succ,Post,e]
  ·have e:fB r p c=dG r (dG r p+1):=by unfold fB;rw [if_pos ⟨h1,h2⟩]
   (repeat' with_reducible first|intro _|refine rz ?_|refine ra ?_ ?_|omega|simp only [go_sem,f1,h2])
   refine ah.k k2 ?_
   (repeat' with_reducible first|intro _|exact dn|refine rn ?_|refine ra ?_ ?_)
   refine aV.auto 0 ?_ rfl ?_<;>simp only [go_sem,Int.natCast_succ,Post,e]
 ·have f1:((dG r p:Int)<(r.length:Int))=False:=eq_false (by omega)
  have e:fB r p c=dG r p:=by unfold fB;rw [if_neg (fun h=>h1 h.1)]
  (repeat' with_reducible first|intro _|refine rz ?_|refine ra ?_ ?_|omega|simp only [go_sem,f1])
  refine aV.auto 0 ?_ rfl ?_<;>simp only [go_sem,Int.natCast_succ,Post,e]
theorem SA (r:List Bool) (p:Nat) (a:Int) (c:Bool) (ha:a=(p:Int) - 1) (hp:p≤r.length) (hl:r.length≤4000) :
  aA Tryz.prog 100 [.ro (.bools r),.int .i64 a,.bool c] (.tup [.int .i64 (fB r p (!c)),.int .i64 (dG r (fB r p (!c)+1))]) []:=by
 have k1:=AX r p a ha (by omega) hl
 have hle:=fV r p
 refine aA.aG Tryz.func100 rfl (by decide) (by simp [Tryz.f100]) [.tmp 6,.tmp 7] rfl fun w0 T0 _=>?_
 simp only [Tryz.f100,au]
 (repeat' with_reducible first|intro _|exact dn|refine rn ?_|refine ra ?_ ?_)
 refine ah.k k1 ?_
 (repeat' with_reducible first|intro _|exact dn|refine rn ?_|refine ra ?_ ?_)
 refine aI.intro (fun i:Nat=>⟨30,[(6,.int .i64 i),(2,.bool c),(1,.int .i64 a),(0,.ro (.bools r))],[],0⟩) (fun i=>i≤r.length∧(i=dG r p∨i=fB r p (!c))∧(dG r p<r.length→r.getD (dG r p) false=c→(i=dG r p∨(i=dG r (dG r p+1)∧(i<r.length→r.getD i false=!c))))∧(¬(dG r p<r.length∧r.getD (dG r p) false=c)→i=dG r p)) (fun i=>if i=dG r p then 1 else 0) (dG r p) ?_ ⟨hle,.inl rfl,fun _ _=>.inl rfl,fun _=>rfl⟩ fun i hI=>?_
 ·refine aO.ak rfl ?_ ?_<;>simp only [go_sem,Int.natCast_succ]
 obtain ⟨hi,_,hI1,hI2⟩:=hI
 have k2:=AX r (i+1) (i:Int) (by omega) (by omega) hl
 have hdone:¬(i<r.length∧r.getD i false=c)→i=fB r p (!c):=fun h=>by
  unfold fB
  by_cases h3:dG r p<r.length∧r.getD (dG r p) false=c
  ·rw [if_pos ⟨h3.1,by rw [h3.2];cases c<;>decide⟩]
   rcases hI1 h3.1 h3.2 with e|⟨e,_⟩
   ·rw [e] at h;exact absurd h3 h
   ·exact e
  ·rw [hI2 h3,if_neg]
   rintro ⟨h4,h5⟩
   refine h3 ⟨h4,?_⟩
   generalize r.getD (dG r p) false=b at h5 ⊢
   cases b<;>cases c<;>simp_all
 by_cases h1:i<r.length
 ·have f1:((i:Int)<(r.length:Int))=True:=eq_true (by omega)
  by_cases h2:r.getD i false=c
  ·have h4:i=dG r p:=by
    by_cases h3:dG r p<r.length∧r.getD (dG r p) false=c
    ·rcases hI1 h3.1 h3.2 with e|⟨e,e2⟩
     ·exact e
     ·have:=e2 h1
      rw [h2] at this
      cases c<;>simp at this
    ·exact hI2 h3
   have h5:=fV r (i+1)
   have h6:i+1≤dG r (i+1):=iO (by omega)
   (repeat' with_reducible first|intro _|refine rz ?_|refine ra ?_ ?_|omega|simp only [go_sem,f1,h2])
   refine ah.k k2 ?_
   (repeat' with_reducible first|intro _|exact dn|refine rn ?_|refine ra ?_ ?_)
   refine ⟨dG r (i+1),aO.ak rfl ?_ ?_,⟨h5,.inr ?_,fun _ _=>.inr ⟨by rw [h4],fun h7=>?_⟩,fun h=>absurd ⟨h4▸h1,h4▸h2⟩ h⟩,by rw [if_pos h4,if_neg (by omega)];omega⟩
   ·simp only [go_sem,Int.natCast_succ]
   ·simp only [go_sem,Int.natCast_succ]
   ·subst h4
    unfold fB;rw [if_pos ⟨h1,by rw [h2];cases c<;>decide⟩]
   ·rw [nZ h7,iV,h2]
  ·have e:=hdone fun h=>h2 h.2
   have k3:=k2
   rw [e] at k3
   (repeat' with_reducible first|intro _|refine rz ?_|refine ra ?_ ?_|omega|simp only [go_sem,f1,h2])
   refine ah.k k2 ?_
   (repeat' with_reducible first|intro _|exact dn|refine rn ?_|refine ra ?_ ?_)
   refine aV.auto 0 ?_ rfl ?_<;>simp only [go_sem,Int.natCast_succ,Post,←e]
 ·have f1:((i:Int)<(r.length:Int))=False:=eq_false (by omega)
  have e:=hdone fun h=>h1 h.1
  (repeat' with_reducible first|intro _|refine rz ?_|refine ra ?_ ?_|omega|simp only [go_sem,f1])
  refine ah.k k2 ?_
  (repeat' with_reducible first|intro _|exact dn|refine rn ?_|refine ra ?_ ?_)
  refine aV.auto 0 ?_ rfl ?_<;>simp only [go_sem,Int.natCast_succ,Post,←e]
theorem mG:aA Tryz.prog 150 [] (.own 0) [(0,.row 9 (.strs aK))]:=by
 refine aA.aG Tryz.func150 rfl (by decide) (by simp [Tryz.f150]) [.tmp 0] rfl fun w0 T0 _=>?_
 simp only [Tryz.f150,au]
 (repeat' with_reducible first|intro _|exact dn|refine rn ?_|refine ra ?_ ?_)
 refine aV.auto 1 ?_ rfl ?_<;>simp only [go_sem,Int.natCast_succ,Post,aK]
theorem iD:aA Tryz.prog 101 [] (.own 0) [(0,.row 9 (.strs aK))]:=by
 refine aA.aG Tryz.func101 rfl (by decide) (by simp [Tryz.f101]) [.tmp 0] rfl fun w0 T0 _=>?_
 simp only [Tryz.f101,au]
 (repeat' with_reducible first|intro _|exact dn|refine rn ?_|refine ra ?_ ?_)
 refine aV.auto 1 ?_ rfl ?_<;>simp only [go_sem,Int.natCast_succ,Post,aK]
end Go.Fv.H
/- Rows coded by the row above: what is coded is read. -/
namespace Go.Fv.H
open Go
theorem jT {s:Bytes} {n l:Nat} (h:oq s=some (n,l)):l≤s.length∧1≤n∧l≤41:=by
 unfold oq at h
 split at h
 ·rename_i hc
  obtain ⟨h1,h2,h3,h4⟩:=hc
  have e:=Option.some.inj h
  have e1:ig ((s.drop (aH s)).take (aH s+1))=n:=congrArg Prod.fst e
  have e2:2*aH s+1=l:=congrArg Prod.snd e
  refine ⟨by omega,?_,by omega⟩
  have hd:(s.drop (aH s)).length=s.length - aH s:=List.length_drop
  have hz:s.drop (aH s)=s.dropWhile RV:=by
   unfold aH
   conv=>lhs;rw [←List.takeWhile_append_dropWhile (p:=RV) (l:=s)]
   rw [List.drop_left' (by rw [List.takeWhile_append_dropWhile])]
  cases hq:s.dropWhile RV with
  | nil=>
   rw [hz,hq] at hd
   simp only [List.length_nil] at hd
   omega
  | cons c r=>
   have hc:RV c=false:=by
    have:=List.head?_dropWhile_not RV s
    rw [hq] at this
    simpa using this
   rw [hz,hq,List.take_succ_cons] at h3 e1
   rw [List.all_cons,Bool.and_eq_true] at h3
   have h49:c=49:=by
    have:=h3.1
    unfold fK at this
    unfold RV at hc
    rw [decide_eq_true_eq] at this
    rw [decide_eq_false_iff_not] at hc
    rcases this with h|h
    ·exact absurd h hc
    ·exact h
   subst h49
   have key:∀ (l:Bytes) (a:Nat),1≤a→1≤l.foldl (fun a c=>2*a+(c.toNat - 48)) a:=by
    intro l
    induction l with
    | nil=>intro a h;exact h
    | cons x l ih=>intro a h;exact ih (2*a+(x.toNat - 48)) (by omega)
   rw [←e1]
   unfold ig
   rw [List.foldl_cons]
   exact key _ _ (by decide)
 ·cases h
theorem JC (s:Bytes) (k:Nat) (hk:64≤k):oq (s.take k)=oq s:=by
 have hl:aH (s.take k)=min (aH s) k:=by
  unfold aH
  clear hk
  induction s generalizing k with
  | nil=>simp
  | cons c s ih=>
   cases k with
   | zero=>simp
   | succ k=>
    rw [List.take_succ_cons,List.takeWhile_cons,List.takeWhile_cons]
    cases RV c with
    | true=>simp only [if_true,List.length_cons];rw [ih];omega
    | false=>simp
 unfold oq
 rw [hl]
 by_cases h:aH s≤20
 ·have e:min (aH s) k=aH s:=by omega
  have e2:((s.take k).drop (aH s)).take (aH s+1)=(s.drop (aH s)).take (aH s+1):=by
   rw [List.drop_take,List.take_take]
   congr 1
   omega
  have e3:(2*aH s+1≤(s.take k).length)↔(2*aH s+1≤s.length):=by rw [List.length_take];omega
  rw [e,e2]
  simp only [e3]
 ·rw [if_neg (by omega),if_neg (by omega)]
theorem wG {s:Bytes} (h:codeOf s≤8):(codeOf s=0→4≤s.length)∧(codeOf s=8→3≤s.length)∧(1≤codeOf s→codeOf s≤7→(aK.getD (codeOf s - 1) []).length≤s.length):=by
 have key:∀ c:Bytes,c.isPrefixOf s=true→c.length≤s.length:=fun c hc=>(List.isPrefixOf_iff_prefix.1 hc).length_le
 unfold codeOf
 repeat' split
 all_goals rename_i hx
 all_goals first
  | exact ⟨fun _=>key _ hx,fun h=>by omega,fun h=>by omega⟩
  | exact ⟨fun h=>by omega,fun h=>by omega,fun _ _=>key _ hx⟩
  | exact ⟨fun h=>by omega,fun _=>key _ hx,fun _ h=>by omega⟩
  | exact ⟨fun h=>by omega,fun h=>by omega,fun _ h=>by omega⟩
theorem ML {strict:Bool} {w:Nat} {s:Bytes} {p:Nat} {ink:Bool} {x:VL} (h:qQ strict w s p ink=some x):p<x.p∧x.p≤w+1∧x.px.length=x.p - 1 - (p - 1)∧(3≤s.length→x.n≤s.length):=by
 unfold qQ at h
 cases h1:oq (s.drop 3) with
 | none=>rw [h1] at h;cases h
 | some y=>
  obtain ⟨m1,l1⟩:=y
  rw [h1] at h
  dsimp only at h
  cases h2:oq (s.drop (3+l1)) with
  | none=>rw [h2] at h;cases h
  | some z=>
   obtain ⟨m2,l2⟩:=z
   rw [h2] at h
   dsimp only at h
   split at h
   ·rename_i hc
    cases h
    have g1:=(jT h1).1
    have g2:=(jT h2).1
    rw [List.length_drop] at g1 g2
    refine ⟨by dsimp only;omega,by dsimp only;omega,by simp;omega,by dsimp only;omega⟩
   ·cases h
theorem oN {strict:Bool} {above:List Bool} {s:Bytes} {p:Nat} {ink:Bool} {x:VL} (hp:p≤above.length) (h:rdStep strict above s p ink=some x):p<x.p∧x.p≤above.length+1∧x.px.length=x.p - 1 - (p - 1)∧x.n≤s.length:=by
 have hcl:=@wG s
 obtain ⟨b1,b2⟩:=jW (r:=above) (i:=p) hp (!ink)
 have b3:=fV above (fB above p (!ink)+1)
 have b4:p≤dG above (fB above p (!ink)+1):=by
  by_cases h:fB above p (!ink)<above.length
  ·have:=iO (r:=above) (i:=fB above p (!ink)+1) (by omega);omega
  ·rw [gY (r:=above) (i:=fB above p (!ink)+1) (by omega)];omega
 unfold rdStep at h
 split at h
 ·rename_i h0
  cases h
  have:=(hcl (by omega)).1 h0
  refine ⟨by dsimp only;omega,by dsimp only;omega,by simp,this⟩
 ·split at h
  ·rename_i h0 h7
   split at h
   ·cases h
    have:=(hcl (by omega)).2.2 (by omega) h7
    refine ⟨by dsimp only;omega,by dsimp only;omega,by simp,this⟩
   ·cases h
  ·split at h
   ·rename_i h8
    have:=ML h
    exact ⟨this.1,this.2.1,this.2.2.1,this.2.2.2 ((hcl (by omega)).2.1 h8)⟩
   ·cases h
def pK (strict:Bool) (above:List Bool) (s:Bytes) (p:Nat) (ink:Bool):Option (List Bool × Nat):=
 if hp:p≤above.length then
  match h:rdStep strict above s p ink with
  | none=>none
  | some x=>match pK strict above (s.drop x.n) x.p x.k with
   | none=>none
   | some (l,n)=>some (x.px++l,x.n+n)
 else some ([],0)
termination_by above.length+1 - p
decreasing_by have:=(oN hp h).1;omega
theorem pV {strict:Bool} {above:List Bool} {s:Bytes} {p:Nat} (hp:¬p≤above.length) (ink:Bool):pK strict above s p ink=some ([],0):=by rw [pK,dif_neg hp]
theorem zf {strict:Bool} {above:List Bool} {s:Bytes} {p:Nat} {ink:Bool} (hp:p≤above.length) (h:rdStep strict above s p ink=none):pK strict above s p ink=none:=by
 rw [pK,dif_pos hp]
 split
 ·rfl
 ·rename_i x hx;rw [h] at hx;cases hx
theorem nC {strict:Bool} {above:List Bool} {s:Bytes} {p:Nat} {ink:Bool} {x:VL} (hp:p≤above.length) (h:rdStep strict above s p ink=some x) :
  pK strict above s p ink=match pK strict above (s.drop x.n) x.p x.k with|none=>none|some (l,n)=>some (x.px++l,x.n+n):=by
 conv=>lhs;rw [pK]
 rw [dif_pos hp]
 split
 ·rename_i hx;rw [h] at hx;cases hx
 ·rename_i y hx;rw [h] at hx;cases hx;rfl
theorem Kt {strict:Bool} {above:List Bool}:∀ (f:Nat) (s:Bytes) (p:Nat) (ink:Bool) (l:List Bool) (n:Nat),above.length+1 - p≤f→p≤above.length+1→pK strict above s p ink=some (l,n)→l.length=above.length - (p - 1)∧n≤s.length
 | 0,s,p,ink,l,n,hf,hp,h=>by
  rw [pV (by omega)] at h
  cases h
  exact ⟨by simp;omega,Nat.zero_le _⟩
 | f+1,s,p,ink,l,n,hf,hp,h=>by
  by_cases hq:p≤above.length
  ·cases hx:rdStep strict above s p ink with
   | none=>rw [zf hq hx] at h;cases h
   | some x=>
    obtain ⟨x1,x2,x3,x4⟩:=oN hq hx
    rw [nC hq hx] at h
    cases hy:pK strict above (s.drop x.n) x.p x.k with
    | none=>rw [hy] at h;cases h
    | some y=>
     obtain ⟨l2,n2⟩:=y
     rw [hy] at h
     cases h
     obtain ⟨i1,i2⟩:=Kt f _ _ _ _ _ (by omega) x2 hy
     rw [List.length_drop] at i2
     exact ⟨by rw [List.length_append];omega,by omega⟩
  ·rw [pV hq] at h
   cases h
   exact ⟨by simp;omega,Nat.zero_le _⟩
theorem I7 {r:List Bool} {a b:Nat} {c:Bool} (hb:b≤r.length) (h:∀ j,a≤j→j<b→r.getD j false=c):List.replicate (b - a) c=(r.drop a).take (b - a):=by
 apply List.ext_getElem
 ·simp;omega
 ·intro j h1 h2
  rw [List.getElem_replicate,List.getElem_take,List.getElem_drop]
  have:=h (a+j) (by omega) (by simp at h1;omega)
  rw [←this,List.getD_eq_getElem?_getD,List.getElem?_eq_getElem (by simp at h1;omega)]
  rfl
theorem take_split {r:List Bool} {a b c:Nat} (h1:a≤b):r.drop a=(r.drop a).take (b - a)++r.drop b:=by
 conv=>lhs;rw [←List.take_append_drop (b - a) (r.drop a)]
 rw [List.drop_drop,Nat.add_sub_cancel' h1]
theorem uX (strict:Bool) {row above:List Bool} (hw:above.length=row.length) (hm:row.length≤4000) (r:Bytes):∀ (f p:Nat) (ink:Bool),row.length+1 - p≤f→p≤row.length+1→(p≤row.length→Jb row p=ink) →
  pK strict above (lX row above p ink++r) p ink=some (row.drop (p - 1),(lX row above p ink).length)
 | 0,p,ink,hf,hp,hi=>by
  rw [jS (by omega),pV (by omega),List.drop_of_length_le (by omega)];rfl
 | f+1,p,ink,hf,hp,hi=>by
  by_cases hq:p≤row.length
  ·have hi:=hi hq
   have hst:=kM hw hq ink
   have hga:∀ j,p - 1≤j→j<dG row p→j<row.length→row.getD j false=ink:=fun j h1 h2 h3=>by
    by_cases e:p≤j
    ·rw [Ej e h2,hi]
    ·have:p=j+1:=by omega
     subst this
     rw [iV] at hi;exact hi
   have g1:=iO hq
   have g2:=fV row p
   obtain ⟨b1,b2⟩:=jW (r:=above) (i:=p) (by omega) (!ink)
   have b3:=fV above (fB above p (!ink)+1)
   rw [ni hw hq]
   unfold aT at hst ⊢
   split
   ·rename_i hc
    rw [if_pos hc] at hst
    dsimp only at hst ⊢
    generalize hB:dG above (fB above p (!ink)+1)=b at *
    have hs:rdStep strict above ((eX++lX row above (b+1) ink)++r) p ink=some ⟨b+1,ink,List.replicate (b - (p - 1)) ink,4⟩:=by
     unfold rdStep
     rw [List.append_assoc,KA,if_pos rfl,hB]
    rw [nC (by omega) hs]
    dsimp only
    have e:(eX++lX row above (b+1) ink++r).drop 4=lX row above (b+1) ink++r:=by rw [List.append_assoc];rfl
    rw [e,uX strict hw hm r f (b+1) ink (by omega) (by omega) (fun _=>by rw [iV];exact hga b (by omega) hc (by omega))]
    dsimp only
    rw [I7 (r:=row) (a:=p - 1) (b:=b) (by omega) (fun j h1 h2=>hga j h1 (by omega) (by omega)),Nat.add_sub_cancel,←take_split (c:=0) (by omega),List.length_append]
    rfl
   ·rename_i hc
    split
    ·rename_i hn
     rw [if_neg hc,if_pos hn] at hst
     dsimp only at hst ⊢
     generalize hA:dG row p=a at *
     generalize hB:fB above p (!ink)=b at *
     have hk:a+3 - b≤6:=by omega
     have hs:rdStep strict above ((aK.getD (a+3 - b) []++lX row above (a+1) (!ink))++r) p ink=some ⟨a+1,!ink,List.replicate (a - (p - 1)) ink,(aK.getD (a+3 - b) []).length⟩:=by
      unfold rdStep
      rw [List.append_assoc,KX _ hk,if_neg (by omega),if_pos (by omega),hB,if_pos (by omega)]
      have e1:b+(a+3 - b+1) - 4=a:=by omega
      rw [e1]
      rfl
     rw [nC (by omega) hs]
     dsimp only
     have e:(aK.getD (a+3 - b) []++lX row above (a+1) (!ink)++r).drop (aK.getD (a+3 - b) []).length=lX row above (a+1) (!ink)++r:=by rw [List.append_assoc,List.drop_left]
     rw [e,uX strict hw hm r f (a+1) (!ink) (by omega) (by omega) (fun h=>by
      rw [iV,←hA,nZ (by omega),hi])]
     dsimp only
     rw [I7 (r:=row) (a:=p - 1) (b:=a) (by omega) (fun j h1 h2=>hga j h1 (by omega) (by omega)),Nat.add_sub_cancel,←take_split (c:=0) (by omega),List.length_append]
    ·rename_i hn
     rw [if_neg hc,if_neg hn] at hst
     dsimp only at hst ⊢
     have g3:=fV row (dG row p+1)
     have hga2:∀ j,dG row p≤j→j<dG row (dG row p+1)→row.getD j false=!ink:=fun j h1 h2=>by
      by_cases e:j=dG row p
      ·subst e;rw [nZ (by omega),hi]
      ·rw [Ej (i:=dG row p+1) (by omega) h2,iV,nZ (by omega),hi]
     have g4:dG row p≤dG row (dG row p+1):=by
      by_cases h:dG row p<row.length
      ·have:=iO (r:=row) (i:=dG row p+1) (by omega);omega
      ·rw [gY (r:=row) (i:=dG row p+1) (by omega)];omega
     have hnk:dG row (dG row p+1)+1≤row.length→Jb row (dG row (dG row p+1)+1)=ink:=fun h=>by
      rw [iV,nZ (by omega),iV,nZ (by omega),hi,Bool.not_not]
     generalize hA2:dG row (dG row p+1)=a2 at *
     generalize hA:dG row p=a at *
     clear hn hc
     have m1:=IU (n:=a - (p - 1)+1) (by omega) (by omega) (dR (a2 - a+1)++(lX row above (a2+1) ink++r))
     have m2:=IU (n:=a2 - a+1) (by omega) (by omega) (lX row above (a2+1) ink++r)
     generalize dR (a - (p - 1)+1)=G1 at *
     generalize dR (a2 - a+1)=G2 at *
     generalize hT:lX row above (a2+1) ink=T at *
     have e1:(dV++(G1++G2)++T++r).drop 3=G1++(G2++(T++r)):=by
      rw [show dV++(G1++G2)++T++r=dV++(G1++(G2++(T++r))) by simp only [List.append_assoc]];rfl
     have e2:(dV++(G1++G2)++T++r).drop (3+G1.length)=G2++(T++r):=by
      rw [←List.drop_drop,e1,List.drop_left]
     have e3:(dV++(G1++G2)++T++r).drop (3+G1.length+G2.length)=T++r:=by
      rw [←List.drop_drop,e2,List.drop_left]
     have hs:rdStep strict above (dV++(G1++G2)++T++r) p ink=some ⟨a2+1,ink,List.replicate (a - (p - 1)) ink++List.replicate (a2 - a) (!ink),3+G1.length+G2.length⟩:=by
      unfold rdStep
      have e0:codeOf (dV++(G1++G2)++T++r)=8:=by
       rw [show dV++(G1++G2)++T++r=dV++(G1++(G2++(T++r))) by simp only [List.append_assoc]];exact Nz _
      rw [e0,if_neg (by omega),if_neg (by omega),if_pos rfl]
      unfold qQ
      rw [e1,m1]
      dsimp only
      rw [e2,m2]
      dsimp only
      rw [if_pos ⟨fun _=>by omega,by omega,by omega⟩]
      have q1:p - 1+(a - (p - 1)+1 - 1)+(a2 - a+1 - 1)+1=a2+1:=by omega
      rw [q1,Nat.add_sub_cancel,Nat.add_sub_cancel]
     rw [nC (by omega) hs]
     dsimp only
     rw [e3,←hT,uX strict hw hm r f (a2+1) ink (by omega) (by omega) hnk]
     dsimp only
     rw [I7 (r:=row) (a:=p - 1) (b:=a) (by omega) (fun j h1 h2=>hga j h1 (by omega) (by omega)),I7 (r:=row) (a:=a) (b:=a2) (by omega) hga2,Nat.add_sub_cancel,List.append_assoc,←take_split (c:=0) (by omega),←take_split (c:=0) (by omega)]
     rw [show dV++(G1++G2)++lX row above (a2+1) ink=dV++(G1++(G2++lX row above (a2+1) ink)) by simp only [List.append_assoc],List.length_append,List.length_append,List.length_append]
     congr 2
     have:dV.length=3:=rfl
     omega
  ·rw [jS hq,pV (by omega),List.drop_of_length_le (by omega)];rfl
def lN (strict:Bool) (above:List Bool) (s:Bytes):Option (List Bool × Nat):=if above.length=0 then some ([],0) else pK strict above s 0 false
def dQ (strict:Bool) (above:List Bool) (s:Bytes):Option (List Bool × Nat):=
 match lN strict above s with
 | none=>none
 | some (l,n)=>if eu l above=s.take n then some (l,n) else none
theorem MR (strict:Bool) {row above:List Bool} (hw:above.length=row.length) (hm:row.length≤4000) (r:Bytes):lN strict above (eu row above++r)=some (row,(eu row above).length):=by
 unfold lN eu
 by_cases h:row.length=0
 ·rw [if_pos (by omega),if_pos h,List.eq_nil_of_length_eq_zero h];rfl
 ·rw [if_neg (by omega),if_neg h]
  have:=uX strict hw hm r (row.length+1) 0 false (by omega) (by omega) (fun _=>rfl)
  rw [this];rfl
theorem zX (strict:Bool) {row above:List Bool} (hw:above.length=row.length) (hm:row.length≤4000) (r:Bytes):dQ strict above (eu row above++r)=some (row,(eu row above).length):=by
 unfold dQ
 rw [MR strict hw hm r]
 dsimp only
 rw [List.take_left,if_pos rfl]
theorem F9 {strict:Bool} {above:List Bool} {s:Bytes} {l:List Bool} {n:Nat} (h:lN strict above s=some (l,n)):l.length=above.length∧n≤s.length:=by
 unfold lN at h
 split at h
 ·cases h;exact ⟨by simp;omega,Nat.zero_le _⟩
 ·have:=Kt (above.length+1) s 0 false l n (by omega) (by omega) h
  exact ⟨by omega,this.2⟩
theorem sH {strict:Bool} {above:List Bool} {s:Bytes} {l:List Bool} {n:Nat} (h:dQ strict above s=some (l,n)):l.length=above.length∧n≤s.length∧eu l above=s.take n:=by
 unfold dQ at h
 cases ha:lN strict above s with
 | none=>rw [ha] at h;cases h
 | some x=>
  obtain ⟨l2,n2⟩:=x
  rw [ha] at h
  dsimp only at h
  split at h
  ·rename_i hc
   cases h
   have:=F9 ha
   exact ⟨this.1,this.2,hc⟩
  ·cases h
theorem Ed (s1 s2:Bool) {above:List Bool} (hm:above.length≤4000) {s:Bytes} {x:List Bool × Nat} (h:dQ s1 above s=some x):dQ s2 above s=some x:=by
 obtain ⟨l,n⟩:=x
 obtain ⟨h1,h2,h3⟩:=sH h
 have hn:(eu l above).length=n:=by rw [h3,List.length_take];omega
 have e:s=eu l above++s.drop n:=by rw [h3,List.take_append_drop]
 have:=zX s2 (row:=l) (above:=above) h1.symm (by omega) (s.drop n)
 rw [←e,hn] at this
 exact this
theorem P5 (s1 s2:Bool) {above:List Bool} (hm:above.length≤4000) (s:Bytes):dQ s1 above s=dQ s2 above s:=by
 cases h1:dQ s1 above s with
 | some x=>exact (Ed s1 s2 hm h1).symm
 | none=>
  cases h2:dQ s2 above s with
  | none=>rfl
  | some x=>rw [Ed s2 s1 hm h2] at h1;cases h1
end Go.Fv.H
/- math/bits.TrailingZeros of 2, by the contract of the shelf. -/
namespace Go.Proofs
open Go.Shelf
def Tryz.lays27_ren:Go.Shelf.Ren:=⟨fun|27=>196|28=>200|29=>201|n=>n,fun|25=>140|3=>3|27=>172|22=>103|4=>4|53=>223|0=>0|5=>5|54=>224|n=>n,fun|0=>6|1=>7|n=>n⟩
theorem Tryz.lays27:Go.Proofs.Lays7.n27 Tryz.prog Tryz.lays27_ren:={
 mixed:=by kernel_rfl
 f27:=Tryz.func196.trans (congrArg some (by kernel_rfl))
 f28:=Tryz.func200.trans (congrArg some (by kernel_rfl))
 f29:=Tryz.func201.trans (congrArg some (by kernel_rfl))
 t0:=Tryz.underlying0
 a0:=Tryz.isAgg0
 z0:=Tryz.sizeOf0
 v0:=Tryz.zeroValue0
 i0:=by kernel_rfl
 t3:=Tryz.underlying3
 a3:=Tryz.isAgg3
 z3:=Tryz.sizeOf3
 v3:=Tryz.zeroValue3
 i3:=by kernel_rfl
 t4:=Tryz.underlying4
 a4:=Tryz.isAgg4
 z4:=Tryz.sizeOf4
 v4:=Tryz.zeroValue4
 i4:=by kernel_rfl
 t5:=Tryz.underlying5
 a5:=Tryz.isAgg5
 z5:=Tryz.sizeOf5
 v5:=Tryz.zeroValue5
 i5:=by kernel_rfl
 t22:=Tryz.underlying103
 a22:=Tryz.isAgg103
 z22:=Tryz.sizeOf103
 v22:=Tryz.zeroValue103
 i22:=by kernel_rfl
 t25:=Tryz.underlying140
 a25:=Tryz.isAgg140
 z25:=Tryz.sizeOf140
 v25:=Tryz.zeroValue140
 i25:=by kernel_rfl
 t27:=Tryz.underlying172
 a27:=Tryz.isAgg172
 z27:=Tryz.sizeOf172
 v27:=Tryz.zeroValue172
 i27:=by kernel_rfl
 t53:=Tryz.underlying223
 a53:=Tryz.isAgg223
 z53:=Tryz.sizeOf223
 v53:=Tryz.zeroValue223
 i53:=by kernel_rfl
 t54:=Tryz.underlying224
 a54:=Tryz.isAgg224
 z54:=Tryz.sizeOf224
 g0:=by kernel_rfl
 g1:=by kernel_rfl }
end Go.Proofs
namespace Go.Fv.H
open Go Go.Proofs
theorem RF {P:Program} {w:World} {g:Nat} (hw:uY P w) (hg:Uj P g=some .tab):TabAt g Lib.deBruijn64tab w:=by
 obtain ⟨ob,hh,t,rfl⟩:=hw g _ hg
 intro j hj
 unfold World.cell?
 simp only [hh,Option.isSome_none,Bool.false_eq_true,if_false]
 simp [List.getElem?_map,List.getD,hj]
theorem WB:aA Tryz.prog 196 [.int .u64 2] (.int .i64 1) []:=by
 refine ⟨⟨_,Tryz.func196,by kernel_rfl,by kernel_rfl⟩,fun w T vals hg hv=>?_⟩
 cases hv with
 | cons _ _ _ _ h1 hv=>
  cases hv
  cases h1 with
  | int _ _ e1=>
   have L:=Tryz.lays27
   refine (Any7.bits_TrailingZeros L 2 (by decide) w fun _=>RF hg (by kernel_rfl)).mono ?_
   rintro e w' ⟨rfl,rfl⟩
   refine ⟨_,rfl,nK.refl _ _,fun _=>undef,0,?_,?_,?_⟩
   ·rw [show (Lib.ctz 64 2)=1 by decide]
    exact .int _ _ (lq.2 (by omega))
   ·intro i it h;cases h
   ·intro i j it jt b h;cases h
end Go.Fv.H
/- strconv.FormatInt in base 2. -/
namespace Go.Fv.H
open Go Go.Proofs
def bI (l:Bytes):List Int:=l.map fun c=>(c.toNat:Int)
theorem WL (l:Bytes):(bI l).length=l.length:=List.length_map ..
theorem drop_at {L:List Int} {i:Nat} (h:i<L.length):L.drop i=L.getD i 0::L.drop (i+1):=by
 rw [List.drop_eq_getElem_cons h];simp [List.getD,h]
theorem set_drop {L:List Int} {i:Nat} (h:i<L.length) (v:Int):(L.set i v).drop i=v::L.drop (i+1):=by
 rw [drop_at (by simpa using h)]
 congr 1
 ·simp [List.getD,h]
 ·apply List.ext_getElem?
  intro j
  simp only [List.getElem?_drop,List.getElem?_set]
  rw [if_neg (by omega)]
theorem and1 (u:Nat) (hu:u<18446744073709551616):fU .and .u64 (u:Int) 1=((u%2:Nat):Int):=by
 have h:=bits_and_u64_nat u 1 hu (by decide)
 rw [Nat.and_one_is_mod] at h
 exact h
theorem RG {u:Nat} (h:2≤u):iW u=iW (u / 2)++[qA u]:=qy (by omega)
theorem Ul:aA Tryz.prog 195 [.int .i64 2] (.bool true) []:=by
 refine aA.aG Tryz.func195 rfl (by decide) (by simp [Tryz.f195]) [.tmp 2] rfl fun w0 T0 _=>?_
 simp only [Tryz.f195,au]
 have h0:fU BinOp.and IntKind.i64 2 1=0:=by decide
 (repeat' with_reducible first|intro _|refine rz ?_|refine ra ?_ ?_|omega|simp only [go_sem,h0])
 refine aV.auto 0 ?_ rfl ?_<;>simp only [go_sem,Int.natCast_succ,Post,h0]
theorem XQ:zeroOf Tryz.prog 216=some (.agg (Array.replicate 65 (.int .u8 0))):=by kernel_rfl
theorem Yi:Tryz.prog.cellsOf 216=65:=by kernel_rfl
theorem OI (u:Nat):([48,49,50,51,52,53,54,55,56,57,97,98,99,100,101,102,103,104,105,106,107,108,109,110,111,112,113,114,115,116,117,118,119,120,121,122]:List UInt8).getD (u%2) 0=qA u:=by
 have:u%2=0∨u%2=1:=by omega
 unfold qA
 rcases this with e|e<;>rw [e]<;>rfl
theorem WQ {u:Nat} (h:u<2):([48,49,50,51,52,53,54,55,56,57,97,98,99,100,101,102,103,104,105,106,107,108,109,110,111,112,113,114,115,116,117,118,119,120,121,122]:List UInt8).getD u 0=qA u:=by
 have:=OI u
 rwa [Nat.mod_eq_of_lt h] at this
theorem XW (u:Nat) (hu:u<18446744073709551616):lC .u64 (u:Int) 1=((u / 2:Nat):Int):=by
 unfold lC
 rw [show (2:Int) ^ (min (1:Int).toNat IntKind.u64.bits)=2 by rfl,Int.fdiv_eq_ediv_of_nonneg _ (by decide)]
 rfl
theorem UD (l:Bytes):(bI l).map (fun n=>UInt8.ofNat n.toNat)=l:=by
 unfold bI
 rw [List.map_map]
 conv=>rhs;rw [←List.map_id l]
 apply List.map_congr_left
 intro c _
 simp
structure FB where
 i:Nat
 u:Nat
 L:List Int
structure YN (n:Nat) (x:FB):Prop where
 l:x.L.length=65
 i:x.i≤65
 u:x.u≤1048576
 s:∃ sfx:Bytes,x.L.drop x.i=bI sfx∧iW x.u++sfx=iW n
set_option maxHeartbeats 2000000 in
theorem Ny (n:Nat) (hn:n≤1048576) :
  aA Tryz.prog 182 [.nilS,.int .u64 n,.int .i64 2,.bool false,.bool false] (.tup [.own 0,.str (iW n)]) [(0,.row 5 (.ints .u8 []))]:=by
 have k1:=Ul
 have k2:=WB
 refine aA.aG Tryz.func182 rfl (by decide) (by simp [Tryz.f182]) [.tmp 10,.tmp 11] rfl fun w0 T0 _=>?_
 simp only [Tryz.f182,au]
 (repeat' with_reducible first|intro _|refine rz ?_|refine ra ?_ ?_|omega|simp only [go_sem,XQ,Yi,Array.toList_replicate,forall_const,List.forall_mem_replicate])
 refine ah.k k1 ?_
 (repeat' with_reducible first|intro _|exact dn|refine rn ?_|refine ra ?_ ?_)
 refine ah.k k2 ?_
 (repeat' with_reducible first|intro _|exact dn|refine rn ?_|refine ra ?_ ?_)
 refine aI.intro (fun x:FB=>⟨102,[(1,.int .u64 x.u),(2,.int .i64 2),(3,.bool false),(4,.bool false),(10,.own 0),(11,.str []),(12,.ptr 1 0),(13,.int .i64 x.i),(14,.int .u64 1),(15,.int .u64 2),(16,.int .u64 1)],[(0,.row 5 (.ints .u8 [])),(1,.box 216 (x.L.map (.int .u8)))],2⟩) (YN n) (fun x=>x.u) ⟨65,n,List.replicate 65 0⟩ ?_ ⟨by simp,by dsimp only;omega,hn,[],by simp [bI],by simp⟩ fun x hI=>?_
 ·refine aO.ak rfl ?_ ?_<;>simp only [go_sem,Int.natCast_succ]
  all_goals rfl
 obtain ⟨i,u,L⟩:=x
 obtain ⟨hL,hi,hu,sfx,hs,hb⟩:=hI
 dsimp only at *
 have hsl:sfx.length=65 - i:=by
  have:=congrArg List.length hs
  rw [List.length_drop,WL] at this;omega
 have hbl:=congrArg List.length hb
 rw [List.length_append] at hbl
 have hnl:=uJ 20 n (by rw [show (2:Nat) ^ (20+1)=2097152 from rfl];omega)
 have hup:=tZ u
 have ha:=and1 u (by omega)
 have hsh:=XW u (by omega)
 have hdm:=OI u
 have hi1:1≤i:=by omega
 have hin:((i:Int) - 1).toNat=i - 1:=by omega
 have hst:∀ v:Int,(L.set (i - 1) v).drop (i - 1)=v::L.drop i:=fun v=>by
  have:=set_drop (L:=L) (i:=i - 1) (by omega) v
  rwa [show i - 1+1=i by omega] at this
 (repeat' with_reducible first|intro _|refine rz ?_|refine ra ?_ ?_|omega|simp only [go_sem,ha])
 ·rename_i h2
  have h2:2≤u:=by omega
  refine ⟨⟨i - 1,u / 2,L.set (i - 1) ((qA u).toNat:Int)⟩,aO.ak rfl ?_ ?_,⟨by simpa using hL,by dsimp only;omega,by dsimp only;omega,qA u::sfx,by dsimp only;rw [hst,hs];rfl,?_⟩,by dsimp only;omega⟩
  ·simp only [go_sem,Int.natCast_succ,hsh,hdm,hin]
   omega
  ·simp only [go_sem,Int.natCast_succ,hsh,hdm,hin]
  ·dsimp only
   rw [RG h2,List.append_assoc] at hb
   exact hb
 ·rename_i h2
  have h2:u<2:=by omega
  have hbu:iW u=[qA u]:=oD h2
  have hdl:=WQ h2
  have hr:List.map (fun n=>UInt8.ofNat n.toNat) (((qA u).toNat:Int)::L.drop i)=iW n:=by
   rw [hs,←hb,hbu]
   exact UD (qA u::sfx)
  refine aV.auto 1 ?_ rfl ?_<;>simp only [go_sem,Int.natCast_succ,Post,hdl,hin,hst,hr]
theorem Nv (n:Nat) (hn:n≤1048576):aA Tryz.prog 138 [.int .i64 n,.int .i64 2] (.str (iW n)) []:=by
 have k:=Ny n hn
 refine aA.aG Tryz.func138 rfl (by decide) (by simp [Tryz.f138]) [.tmp 4] rfl fun w0 T0 _=>?_
 simp only [Tryz.f138,au]
 have hz:decide ((n:Int)<0)=false:=by simp
 (repeat' with_reducible first|intro _|refine rz ?_|refine ra ?_ ?_|omega|simp only [go_sem,hz])
 refine ah.fr (dh.eG k rfl rfl) (by simp only [aJ,aP,bH,aU,aF,List.drop_zero,lk,reduceIte,reduceCtorEq,Nat.reduceEqDiff,Option.some.injEq,Item.row.injEq,Item.box.injEq,AV.ro.injEq,exists_eq_left,exists_and_left,exists_eq_left',exists_eq_right,and_assoc,and_true,true_and,List.cons.injEq,exists_eq',exists_eq,hz];exact ⟨_,.inl rfl,rfl⟩) 1 rfl (by simp [iL,Item.below,jF]) ?_
 (repeat' with_reducible first|intro _|exact dn|refine rn ?_|refine ra ?_ ?_)
 refine aV.auto 0 ?_ rfl ?_<;>simp only [go_sem,Int.natCast_succ,Post]
theorem Gl (n:Nat) (hn:n≤1048576):aA Tryz.prog 98 [.int .i64 n,.int .i64 2] (.str (iW n)) []:=by
 have k:=Nv n hn
 refine aA.aG Tryz.func98 rfl (by decide) (by simp [Tryz.f98]) [.tmp 4] rfl fun w0 T0 _=>?_
 simp only [Tryz.f98,au]
 (repeat' with_reducible first|intro _|exact dn|refine rn ?_|refine ra ?_ ?_)
 refine ah.k k ?_
 (repeat' with_reducible first|intro _|exact dn|refine rn ?_|refine ra ?_ ?_)
 refine aV.auto 0 ?_ rfl ?_<;>simp only [go_sem,Int.natCast_succ,Post]
end Go.Fv.H
/- strings.HasPrefix. -/
namespace Go.Fv.H
open Go Go.Proofs
theorem take_prefix (s p:List UInt8):decide ((p.length:Int)≤(s.length:Int)∧s.take p.length=p)=p.isPrefixOf s:=by
 rw [Bool.eq_iff_iff,decide_eq_true_eq,List.isPrefixOf_iff_prefix]
 constructor
 ·rintro ⟨_,h⟩;exact List.prefix_iff_eq_take.2 h.symm
 ·intro h;exact ⟨by have:=h.length_le;omega,(List.prefix_iff_eq_take.1 h).symm⟩
theorem EK (s p:List UInt8):aA Tryz.prog 169 [.str s,.str p] (.bool (p.isPrefixOf s)) []:=by
 rw [←take_prefix]
 refine aA.aG Tryz.func169 rfl (by decide) (by simp [Tryz.f169]) [.tmp 4] rfl fun w0 T0 _=>?_
 simp only [Tryz.f169,au]
 (repeat' with_reducible first|intro _|refine rz ?_|refine ra ?_ ?_|omega|simp only [go_sem,Nat.sub_zero,Int.toNat_natCast,Int.toNat_zero])
 refine aV.auto 0 ?_ rfl ?_<;>simp only [go_sem,Int.natCast_succ,Post]
theorem gu (s p:List UInt8):aA Tryz.prog 122 [.str s,.str p] (.bool (p.isPrefixOf s)) []:=by
 have k:=EK s p
 refine aA.aG Tryz.func122 rfl (by decide) (by simp [Tryz.f122]) [.tmp 4] rfl fun w0 T0 _=>?_
 simp only [Tryz.f122,au]
 (repeat' with_reducible first|intro _|exact dn|refine rn ?_|refine ra ?_ ?_)
 refine ah.k k ?_
 (repeat' with_reducible first|intro _|exact dn|refine rn ?_|refine ra ?_ ?_)
 refine aV.auto 0 ?_ rfl ?_<;>simp only [go_sem,Int.natCast_succ,Post]
end Go.Fv.H
/- strings.Repeat of a zero, up to twenty times. -/
namespace Go.Proofs
open Go.Shelf
def Tryz.Jw:Go.Shelf.Ren:=⟨fun|212=>121|263=>167|264=>168|n=>n,fun|46=>140|51=>172|146=>194|53=>103|148=>196|n=>n,fun|n=>n⟩
theorem Tryz.lays212:Go.Proofs.Lays.n212 Tryz.prog Tryz.Jw:={
 mixed:=by kernel_rfl
 f212:=Tryz.func121.trans (congrArg some (by kernel_rfl))
 f263:=Tryz.func167.trans (congrArg some (by kernel_rfl))
 f264:=Tryz.func168.trans (congrArg some (by kernel_rfl))
 t46:=Tryz.underlying140
 a46:=Tryz.isAgg140
 z46:=Tryz.sizeOf140
 v46:=Tryz.zeroValue140
 t51:=Tryz.underlying172
 a51:=Tryz.isAgg172
 z51:=Tryz.sizeOf172
 v51:=Tryz.zeroValue172
 t53:=Tryz.underlying103
 a53:=Tryz.isAgg103
 z53:=Tryz.sizeOf103
 v53:=Tryz.zeroValue103
 t146:=Tryz.underlying194
 a146:=Tryz.isAgg194
 z146:=Tryz.sizeOf194
 v146:=Tryz.zeroValue194
 t148:=Tryz.underlying196
 a148:=Tryz.isAgg196
 z148:=Tryz.sizeOf196
 v148:=Tryz.zeroValue196 }
end Go.Proofs
namespace Go.Fv.H
open Go Go.Proofs
theorem Ux (k:Nat) (hk:k≤1000):aA Tryz.prog 121 [.int .u64 1,.int .u64 k] (.tup [.int .u64 0,.int .u64 k]) []:=by
 refine ⟨⟨_,Tryz.func121,by kernel_rfl,by kernel_rfl⟩,fun w T vals hg hv=>?_⟩
 cases hv with
 | cons _ _ _ _ h1 hv=>cases hv with
  | cons _ _ _ _ h2 hv=>
   cases hv
   cases h1 with
   | int _ _ e1=>cases h2 with
    | int _ _ e2=>
     refine (Any.bits_Mul Tryz.lays212 1 k (by omega) (by omega) w).mono ?_
     rintro e w' ⟨rfl,rfl⟩
     refine ⟨_,rfl,nK.refl _ _,fun _=>undef,0,?_,?_,?_⟩
     ·rw [Nat.one_mul,show k / 18446744073709551616=0 by omega,Nat.mod_eq_of_lt (by omega:k<18446744073709551616)]
      exact .tup _ [_,_] (.cons _ _ _ _ (.int _ _ (mW.2 (by omega))) (.cons _ _ _ _ (.int _ _ (mW.2 (by omega))) .nil))
     ·intro i it h;cases h
     ·intro i j it jt b h;cases h
theorem L9 (k:Nat) (h:k≤64):(List.replicate 64 (48:UInt8)).take k=List.replicate k 48:=by rw [List.take_replicate,Nat.min_eq_left h]
theorem Xu (l r:List UInt8):([48]:List UInt8).isPrefixOf ((32::l).append r)=false:=rfl
theorem Xt (l r:List UInt8):([48]:List UInt8).isPrefixOf ((45::l).append r)=false:=rfl
theorem Xy (l:List UInt8):([48]:List UInt8).isPrefixOf (48::l)=true:=rfl
set_option maxHeartbeats 4000000 in
theorem Pn (k:Nat) (hk:k≤20):aA Tryz.prog 92 [.str [48],.int .i64 k] (.str (List.replicate k 48)) []:=by
 have km:=Ux k (by omega)
 refine aA.aG Tryz.func92 rfl (by decide) (by simp [Tryz.f92]) [.tmp 4] rfl fun w0 T0 _=>?_
 simp only [Tryz.f92,au]
 by_cases h0:k=0
 ·subst h0
  (repeat' with_reducible first|intro _|exact dn|refine rn ?_|refine ra ?_ ?_)
  refine aV.auto 0 ?_ rfl ?_<;>simp only [go_sem,Int.natCast_succ,Post]
 by_cases h1:k=1
 ·subst h1
  (repeat' with_reducible first|intro _|exact dn|refine rn ?_|refine ra ?_ ?_)
  refine aV.auto 0 ?_ rfl ?_<;>simp only [go_sem,Int.natCast_succ,Post]
  all_goals rfl
 have hg:((([48]:List UInt8).getD 0 0).toNat:Int)=48:=rfl
 have b1:((k:Int)≤128)=True:=eq_true (by omega)
 have b2:((k:Int)≤64)=True:=eq_true (by omega)
 have b3:(9223372036854775807<(k:Int))=False:=eq_false (by omega)
 have b4:((k:Int)<0)=False:=eq_false (by omega)
 have b5:((k:Int)=0)=False:=eq_false (by omega)
 have b6:((k:Int)=1)=False:=eq_false (by omega)
 (repeat' with_reducible first|intro _|refine rz ?_|refine ra ?_ ?_|omega|simp only [go_sem,b3,b4,b5,b6])
 refine ah.k km ?_
 (repeat' with_reducible first|intro _|refine rz ?_|refine ra ?_ ?_|omega|simp only [go_sem,hg,b1,b2,b3])
 refine ah.k (gu _ [48]) ?_ rfl rfl ⟨_,_,rfl,⟨_,_,rfl,rfl,rfl⟩,rfl⟩
 (repeat' with_reducible first|intro _|refine rz ?_|refine ra ?_ ?_|omega|simp only [go_sem,hg,b1,b2,b3,Xu])
 refine ah.k (gu _ [48]) ?_ rfl rfl ⟨_,_,rfl,⟨_,_,rfl,rfl,rfl⟩,rfl⟩
 (repeat' with_reducible first|intro _|refine rz ?_|refine ra ?_ ?_|omega|simp only [go_sem,hg,b1,b2,b3,Xt])
 refine ah.k (gu _ [48]) ?_ rfl rfl ⟨_,_,rfl,⟨_,_,rfl,rfl,rfl⟩,rfl⟩
 (repeat' with_reducible first|intro _|refine rz ?_|refine ra ?_ ?_|omega|simp only [go_sem,hg,b1,b2,b3,Xy])
 refine aV.auto 0 ?_ rfl ?_<;>simp only [go_sem,Int.natCast_succ,Post]
 exact L9 k (by omega)
end Go.Fv.H
/- Writing numbers: the walk. -/
namespace Go.Fv.H
open Go Go.Proofs
theorem sQ (n:Nat) (hn:n≤1048576):aA Tryz.prog 157 [.int .i64 n] (.str (dR n)) []:=by
 have k1:=Gl n hn
 have hl:=uJ 20 n (by rw [show (2:Nat) ^ (20+1)=2097152 from rfl];omega)
 have hp:=tZ n
 have k2:=Pn ((iW n).length - 1) (by omega)
 have e:(((iW n).length - 1:Nat):Int)=((iW n).length:Int) - 1:=by omega
 rw [e] at k2
 refine aA.aG Tryz.func157 rfl (by decide) (by simp [Tryz.f157]) [.tmp 2] rfl fun w0 T0 _=>?_
 simp only [Tryz.f157,au]
 (repeat' with_reducible first|intro _|exact dn|refine rn ?_|refine ra ?_ ?_)
 refine ah.k k1 ?_
 (repeat' with_reducible first|intro _|exact dn|refine rn ?_|refine ra ?_ ?_)
 refine ah.k k2 ?_
 (repeat' with_reducible first|intro _|refine rz ?_|refine ra ?_ ?_|omega|simp only [go_sem,List.length_replicate])
 refine aV.auto 0 ?_ rfl ?_<;>simp only [go_sem,Int.natCast_succ,Post,dR]
theorem eP (n:Nat) (hn:n≤1048576):aA Tryz.prog 61 [.int .i64 n] (.str (dR n)) []:=by
 have k1:=Gl n hn
 have hl:=uJ 20 n (by rw [show (2:Nat) ^ (20+1)=2097152 from rfl];omega)
 have hp:=tZ n
 have k2:=Pn ((iW n).length - 1) (by omega)
 have e:(((iW n).length - 1:Nat):Int)=((iW n).length:Int) - 1:=by omega
 rw [e] at k2
 refine aA.aG Tryz.func61 rfl (by decide) (by simp [Tryz.f61]) [.tmp 2] rfl fun w0 T0 _=>?_
 simp only [Tryz.f61,au]
 (repeat' with_reducible first|intro _|exact dn|refine rn ?_|refine ra ?_ ?_)
 refine ah.k k1 ?_
 (repeat' with_reducible first|intro _|exact dn|refine rn ?_|refine ra ?_ ?_)
 refine ah.k k2 ?_
 (repeat' with_reducible first|intro _|refine rz ?_|refine ra ?_ ?_|omega|simp only [go_sem,List.length_replicate])
 refine aV.auto 0 ?_ rfl ?_<;>simp only [go_sem,Int.natCast_succ,Post,dR]
end Go.Fv.H
