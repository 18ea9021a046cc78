/-
  A part of the proof of the claim: walks over the program's functions and the plain laws that these need. No condition of its own.
-/
import Derived.Test.YtodlgmmbfbiilaaGreatDoorHArcCCardPart5
import Derived.Test.YtodlgmmbfbiilaaGreatDoorHArcCCardPart3
import Derived.Test.YtodlgmmbfbiilaaGreatDoorHArcCCardPart1
import Derived.Test.YtodlgmmbfbiilaaGreatDoorFvPart5
import Derived.Test.YtodlgmmbfbiilaaGreatDoorFvPart10
import Derived.Shelf.Strings.BuilderX
import Derived.Shelf.RegionOpenPlain
import Derived.Lib.Builder
import Derived.Lib.Walk
import Derived.WalkKit
import Derived.Laws.Externs
import Derived.Test.YtodlgmmbfbiilaaGreatDoorFvPart11
set_option linter.unusedSimpArgs false
set_option linter.unusedVariables false
set_option linter.unnecessarySimpa false
set_option maxRecDepth 8000
/- The reference's Line: the walk. -/
namespace Go.Fv.H
open Go Go.Proofs
theorem dI {n:Nat} (h:n≤1048576):(dV n).length≤41:=by
 have h1:=uU 20 n (by rw [show (2:Nat) ^ (20+1)=2097152 from rfl];omega)
 rw [CV];omega
theorem EP (k:Nat):(aO.getD k []).length≤7:=by
 by_cases h:k≤6
 ·have:k=0∨k=1∨k=2∨k=3∨k=4∨k=5∨k=6:=by omega
  rcases this with rfl|rfl|rfl|rfl|rfl|rfl|rfl<;>decide
 ·rw [List.getD_eq_getElem?_getD,List.getElem?_eq_none (by show 7≤k;omega)];decide
theorem yP {row above:List Bool} (hr:row.length≤4000) (p:Nat) (ink:Bool):(aW row above p ink).c.length≤85:=by
 have h1:=gW row p
 have h2:=gW row (dS row p+1)
 unfold aW
 split
 ·exact (by decide:fH.length≤85)
 ·split
  ·dsimp only;have:=EP (dS row p+3 - fV above p (!ink));omega
  ·dsimp only
   rw [List.length_append,List.length_append]
   have g1:=dI (n:=dS row p - (p - 1)+1) (by omega)
   have g2:=dI (n:=dS row (dS row p+1) - dS row p+1) (by omega)
   have:eH.length=3:=rfl
   omega
structure LSx where
 p:Nat
 k:Bool
 o:Bytes
structure Zj (row above:List Bool) (x:LSx):Prop where
 hp:x.p≤row.length+1
 ho:x.o++mX row above x.p x.k=mX row above 0 false
 hl:x.o.length≤100*x.p
 hz:row.length=0→x.o=[]
theorem Zj.step {row above:List Bool} (hw:above.length=row.length) (hr:row.length≤4000) {p:Nat} {k:Bool} {o:Bytes} (h:Zj row above ⟨p,k,o⟩) (hp:p≤row.length) (h0:0<row.length) {c:Bytes} {q:Nat} {k2:Bool} (e:aW row above p k=⟨c,q,k2⟩):p<q∧q≤row.length+1∧Zj row above ⟨q,k2,o++c⟩∧c.length≤85:=by
 obtain ⟨h1,h2,h3,h4⟩:=h
 have hs:=lD hw hp k
 have hsh:=yP (above:=above) hr p k
 have hg:=oq hw hp k
 rw [e] at hs hsh hg
 dsimp only at *
 refine ⟨hs.1,hs.2,⟨hs.2,?_,?_,fun h=>by omega⟩,hsh⟩
 ·dsimp only;rw [List.append_assoc,←hg];exact h2
 ·dsimp only;rw [List.length_append];omega
theorem Zj.done {row above:List Bool} {p:Nat} {k:Bool} {o:Bytes} (h:Zj row above ⟨p,k,o⟩) (hp:¬(p≤row.length∧0<row.length)):o=eX row above:=by
 obtain ⟨h1,h2,h3,h4⟩:=h
 unfold eX
 by_cases h0:row.length=0
 ·rw [if_pos h0];exact h4 h0
 ·dsimp only at h2
  rw [if_neg h0,←h2,kP (by omega),List.append_nil]
set_option maxHeartbeats 8000000 in
theorem Fe (row above:List Bool) (hr:row.length≤4000) (hw:above.length=row.length) :
  aA Tryz.prog 62 [.ro (.bools row),.ro (.bools above)] (.str (eX row above)) []:=by
 refine aA.aG Tryz.func62 rfl (by decide) (by simp [Tryz.f62]) [.tmp 4] rfl fun w0 T0 _=>?_
 simp only [Tryz.f62,au]
 (repeat' with_reducible first|intro _|exact dn|refine rn ?_|refine ra ?_ ?_)
 refine aF.intro (fun x:LSx=>⟨95,[(5,.str x.o),(8,.int .i64 ((x.p:Int) - 1)),(7,.bool x.k),(6,.int .i64 row.length),(1,.ro (.bools above)),(0,.ro (.bools row))],[],0⟩) (Zj row above) (fun x=>row.length+1 - x.p) ⟨0,false,[]⟩ ?_ ⟨by dsimp only;omega,rfl,by simp,fun _=>rfl⟩ fun x hI=>?_
 ·refine aK.ak rfl ?_ ?_<;>simp only [go_sem,Int.natCast_succ]
  all_goals rfl
 obtain ⟨p,k,o⟩:=x
 have hI0:=hI
 obtain ⟨hp,ho,hl,_⟩:=hI
 dsimp only at *
 by_cases hlt:p≤row.length∧0<row.length
 rotate_left
 ·have hres:=hI0.done hlt
  by_cases h0:0<row.length
  ·have f1:((p:Int) - 1<(row.length:Int))=False:=eq_false (by omega)
   (repeat' with_reducible first|intro _|refine rz ?_|refine ra ?_ ?_|omega|simp only [go_sem,f1])
   refine aU.auto 0 ?_ rfl ?_<;>simp only [go_sem,Int.natCast_succ,Post,hres]
  ·have f2:(0<(row.length:Int))=False:=eq_false (by omega)
   by_cases h1:(p:Int) - 1<(row.length:Int)
   ·have f1:((p:Int) - 1<(row.length:Int))=True:=eq_true h1
    (repeat' with_reducible first|intro _|refine rz ?_|refine ra ?_ ?_|omega|simp only [go_sem,f1,f2])
    refine aU.auto 0 ?_ rfl ?_<;>simp only [go_sem,Int.natCast_succ,Post,hres]
   ·have f1:((p:Int) - 1<(row.length:Int))=False:=eq_false h1
    (repeat' with_reducible first|intro _|refine rz ?_|refine ra ?_ ?_|omega|simp only [go_sem,f1])
    refine aU.auto 0 ?_ rfl ?_<;>simp only [go_sem,Int.natCast_succ,Post,hres]
 obtain ⟨hle,hw0⟩:=hlt
 have f1:((p:Int) - 1<(row.length:Int))=True:=eq_true (by omega)
 have f2:(0<(row.length:Int))=True:=eq_true (by omega)
 have k1:=Df row p ((p:Int) - 1) rfl (by omega) hr
 have c1:=gW row p
 have c2:=jf hle
 have k3:=XD above p ((p:Int) - 1) k rfl (by omega) (by omega)
 obtain ⟨a1,hA⟩:∃ a1,dS row p=a1:=⟨_,rfl⟩
 rw [hA] at k1 c1 c2
 obtain ⟨a2,hA2⟩:∃ a2,dS row (a1+1)=a2:=⟨_,rfl⟩
 have c3:=gW row (a1+1)
 have k2:=Df row (a1+1) (a1:Int) (by omega) (by omega) hr
 rw [hA2] at c3 k2
 have c4:a1≤a2:=by
  by_cases h:a1<row.length
  ·have:=jf (r:=row) (i:=a1+1) (by omega);omega
  ·rw [iH (by omega)] at hA2;omega
 (repeat' with_reducible first|intro _|refine rz ?_|refine ra ?_ ?_|omega|simp only [go_sem,f1,f2])
 refine ah.k k1 ?_
 by_cases hz:p=0∧row.getD 0 false=true
 ·obtain ⟨h0,h1⟩:=hz
  have ha0:a1=0:=by
   rw [←hA,h0,wQ hw0,if_neg]
   rw [h1,Xa];decide
  have f3:((p:Int) - 1<0)=True:=eq_true (by omega)
  subst ha0
  rw [Int.natCast_zero] at k2
  (repeat' with_reducible first|intro _|refine rz ?_|refine ra ?_ ?_|omega|simp only [go_sem,f2,f3,h1])
  refine ah.k k2 ?_
  (repeat' with_reducible first|intro _|exact dn|refine rn ?_|refine ra ?_ ?_)
  obtain ⟨b1,hB1⟩:∃ b1,fV above p (!k)=b1:=⟨_,rfl⟩
  rw [hB1] at k3
  obtain ⟨b2,hB2⟩:∃ b2,dS above (b1+1)=b2:=⟨_,rfl⟩
  rw [hB2] at k3
  have hb1:=kG (r:=above) (i:=p) (by omega) (!k)
  rw [hB1] at hb1
  refine ah.k k3 ?_
  by_cases s1:b2<0
  ·exact absurd s1 (by omega)
  have f5:((b2:Int)<(0:Int))=False:=eq_false (by omega)
  by_cases s2:0≤b1+3∧b1≤0+3
  ·have f6:(-3≤(0:Int) - (b1:Int))=True:=eq_true (by omega)
   have f7:((0:Int) - (b1:Int)≤3)=True:=eq_true (by omega)
   have e:aW row above p k=⟨aO.getD (3 - b1) [],0+1,!k⟩:=by unfold aW;rw [hB1,hB2,hA,if_neg s1,if_pos s2]<;>rfl
   obtain ⟨q1,q2,q3,q4⟩:=hI0.step hw hr hle hw0 e
   have hix:((0:Int) - (b1:Int)+3).toNat=3 - b1:=by omega
   have hnl:aO.length=7:=rfl
   (repeat' with_reducible first|intro _|refine rz ?_|refine ra ?_ ?_|omega|simp only [go_sem,f5,f6,f7])
   refine ah.o iU 1 ?_
   (repeat' with_reducible first|intro _|refine rz ?_|refine ra ?_ ?_|omega|simp only [go_sem,hix,hnl])
   refine ⟨⟨0+1,!k,o++aO.getD (3 - b1) []⟩,aK.ak rfl ?_ ?_,q3,by dsimp only;omega⟩<;>simp only [go_sem,Int.natCast_succ]
   all_goals omega
  have e:aW row above p k=⟨eH++(dV (0 - (p - 1)+1)++dV (a2 - 0+1)),a2+1,k⟩:=by unfold aW;rw [hB1,hB2,hA,if_neg s1,if_neg s2,hA2]
  obtain ⟨q1,q2,q3,q4⟩:=hI0.step hw hr hle hw0 e
  have hmx:max ((p:Int) - 1) 0=((p - 1:Nat):Int):=by omega
  have g1:=fJ (0 - (p - 1)+1) (by omega)
  rw [show ((0 - (p - 1)+1:Nat):Int)=(0:Int) - ((p - 1:Nat):Int)+1 by omega] at g1
  have g2:=fJ (a2 - 0+1) (by omega)
  rw [show ((a2 - 0+1:Nat):Int)=(a2:Nat) - (0:Int)+1 by omega] at g2
  have hs1:=dI (n:=0 - (p - 1)+1) (by omega)
  have hs2:=dI (n:=a2 - 0+1) (by omega)
  generalize dV (0 - (p - 1)+1)=x1 at *
  generalize dV (a2 - 0+1)=x2 at *
  have fin:∀ (F:Prop),F→F:=fun _ h=>h
  by_cases s3:0+3<b1
  ·have f6:(-3≤(0:Int) - (b1:Int))=False:=eq_false (by omega)
   (repeat' with_reducible first|intro _|refine rz ?_|refine ra ?_ ?_|omega|simp only [go_sem,f5,f6,hmx])
   refine ah.k g1 ?_
   (repeat' with_reducible first|intro _|exact dn|refine rn ?_|refine ra ?_ ?_)
   refine ah.k g2 ?_
   (repeat' with_reducible first|intro _|exact dn|refine rn ?_|refine ra ?_ ?_)
   refine ⟨⟨a2+1,k,o++(eH++(x1++x2))⟩,aK.ak rfl ?_ ?_,q3,by dsimp only;omega⟩<;>simp only [go_sem,Int.natCast_succ,eH,List.append_assoc]
   all_goals omega
  ·exact absurd ⟨by omega,by omega⟩ s2
 have hcase:(((p:Int) - 1<0)=False)∨(((p:Int) - 1<0)=True∧row.getD 0 false=false):=by
  by_cases h:p=0
  ·right
   refine ⟨eq_true (by omega),?_⟩
   cases hb:row.getD 0 false with
   | false=>rfl
   | true=>exact absurd ⟨h,hb⟩ hz
  ·exact .inl (eq_false (by omega))
 by_cases ha:a1<row.length
 ·have f4:((a1:Int)<(row.length:Int))=True:=eq_true (by omega)
  rcases hcase with f3|⟨f3,f8⟩
  ·(repeat' with_reducible first|intro _|refine rz ?_|refine ra ?_ ?_|omega|simp only [go_sem,f2,f3,f4])
   refine ah.k k2 ?_
   (repeat' with_reducible first|intro _|exact dn|refine rn ?_|refine ra ?_ ?_)
   obtain ⟨b1,hB1⟩:∃ b1,fV above p (!k)=b1:=⟨_,rfl⟩
   rw [hB1] at k3
   obtain ⟨b2,hB2⟩:∃ b2,dS above (b1+1)=b2:=⟨_,rfl⟩
   rw [hB2] at k3
   have hb1:=kG (r:=above) (i:=p) (by omega) (!k)
   rw [hB1] at hb1
   refine ah.k k3 ?_
   by_cases s1:b2<a1
   ·have f5:((b2:Int)<(a1:Int))=True:=eq_true (by omega)
    have e:aW row above p k=⟨fH,b2+1,k⟩:=by unfold aW;rw [hB1,hB2,hA,if_pos s1]
    obtain ⟨q1,q2,q3,q4⟩:=hI0.step hw hr hle hw0 e
    (repeat' with_reducible first|intro _|refine rz ?_|refine ra ?_ ?_|omega|simp only [go_sem,f5])
    refine ⟨⟨b2+1,k,o++fH⟩,aK.ak rfl ?_ ?_,q3,by dsimp only;omega⟩<;>simp only [go_sem,Int.natCast_succ,fH]
    all_goals omega
   have f5:((b2:Int)<(a1:Int))=False:=eq_false (by omega)
   by_cases s2:a1≤b1+3∧b1≤a1+3
   ·have f6:(-3≤(a1:Int) - (b1:Int))=True:=eq_true (by omega)
    have f7:((a1:Int) - (b1:Int)≤3)=True:=eq_true (by omega)
    have e:aW row above p k=⟨aO.getD (a1+3 - b1) [],a1+1,!k⟩:=by unfold aW;rw [hB1,hB2,hA,if_neg s1,if_pos s2]<;>rfl
    obtain ⟨q1,q2,q3,q4⟩:=hI0.step hw hr hle hw0 e
    have hix:((a1:Int) - (b1:Int)+3).toNat=a1+3 - b1:=by omega
    have hnl:aO.length=7:=rfl
    (repeat' with_reducible first|intro _|refine rz ?_|refine ra ?_ ?_|omega|simp only [go_sem,f5,f6,f7])
    refine ah.o iU 1 ?_
    (repeat' with_reducible first|intro _|refine rz ?_|refine ra ?_ ?_|omega|simp only [go_sem,hix,hnl])
    refine ⟨⟨a1+1,!k,o++aO.getD (a1+3 - b1) []⟩,aK.ak rfl ?_ ?_,q3,by dsimp only;omega⟩<;>simp only [go_sem,Int.natCast_succ]
    all_goals omega
   have e:aW row above p k=⟨eH++(dV (a1 - (p - 1)+1)++dV (a2 - a1+1)),a2+1,k⟩:=by unfold aW;rw [hB1,hB2,hA,if_neg s1,if_neg s2,hA2]
   obtain ⟨q1,q2,q3,q4⟩:=hI0.step hw hr hle hw0 e
   have hmx:max ((p:Int) - 1) 0=((p - 1:Nat):Int):=by omega
   have g1:=fJ (a1 - (p - 1)+1) (by omega)
   rw [show ((a1 - (p - 1)+1:Nat):Int)=(a1:Int) - ((p - 1:Nat):Int)+1 by omega] at g1
   have g2:=fJ (a2 - a1+1) (by omega)
   rw [show ((a2 - a1+1:Nat):Int)=(a2:Nat) - (a1:Int)+1 by omega] at g2
   have hs1:=dI (n:=a1 - (p - 1)+1) (by omega)
   have hs2:=dI (n:=a2 - a1+1) (by omega)
   generalize dV (a1 - (p - 1)+1)=x1 at *
   generalize dV (a2 - a1+1)=x2 at *
   have fin:∀ (F:Prop),F→F:=fun _ h=>h
   by_cases s3:a1+3<b1
   ·have f6:(-3≤(a1:Int) - (b1:Int))=False:=eq_false (by omega)
    (repeat' with_reducible first|intro _|refine rz ?_|refine ra ?_ ?_|omega|simp only [go_sem,f5,f6,hmx])
    refine ah.k g1 ?_
    (repeat' with_reducible first|intro _|exact dn|refine rn ?_|refine ra ?_ ?_)
    refine ah.k g2 ?_
    (repeat' with_reducible first|intro _|exact dn|refine rn ?_|refine ra ?_ ?_)
    refine ⟨⟨a2+1,k,o++(eH++(x1++x2))⟩,aK.ak rfl ?_ ?_,q3,by dsimp only;omega⟩<;>simp only [go_sem,Int.natCast_succ,eH,List.append_assoc]
    all_goals omega
   ·have f6:(-3≤(a1:Int) - (b1:Int))=True:=eq_true (by omega)
    have f7:((a1:Int) - (b1:Int)≤3)=False:=eq_false (by omega)
    (repeat' with_reducible first|intro _|refine rz ?_|refine ra ?_ ?_|omega|simp only [go_sem,f5,f6,f7,hmx])
    refine ah.k g1 ?_
    (repeat' with_reducible first|intro _|exact dn|refine rn ?_|refine ra ?_ ?_)
    refine ah.k g2 ?_
    (repeat' with_reducible first|intro _|exact dn|refine rn ?_|refine ra ?_ ?_)
    refine ⟨⟨a2+1,k,o++(eH++(x1++x2))⟩,aK.ak rfl ?_ ?_,q3,by dsimp only;omega⟩<;>simp only [go_sem,Int.natCast_succ,eH,List.append_assoc]
    all_goals omega
  ·(repeat' with_reducible first|intro _|refine rz ?_|refine ra ?_ ?_|omega|simp only [go_sem,f2,f3,f4,f8])
   refine ah.k k2 ?_
   (repeat' with_reducible first|intro _|exact dn|refine rn ?_|refine ra ?_ ?_)
   obtain ⟨b1,hB1⟩:∃ b1,fV above p (!k)=b1:=⟨_,rfl⟩
   rw [hB1] at k3
   obtain ⟨b2,hB2⟩:∃ b2,dS above (b1+1)=b2:=⟨_,rfl⟩
   rw [hB2] at k3
   have hb1:=kG (r:=above) (i:=p) (by omega) (!k)
   rw [hB1] at hb1
   refine ah.k k3 ?_
   by_cases s1:b2<a1
   ·have f5:((b2:Int)<(a1:Int))=True:=eq_true (by omega)
    have e:aW row above p k=⟨fH,b2+1,k⟩:=by unfold aW;rw [hB1,hB2,hA,if_pos s1]
    obtain ⟨q1,q2,q3,q4⟩:=hI0.step hw hr hle hw0 e
    (repeat' with_reducible first|intro _|refine rz ?_|refine ra ?_ ?_|omega|simp only [go_sem,f5])
    refine ⟨⟨b2+1,k,o++fH⟩,aK.ak rfl ?_ ?_,q3,by dsimp only;omega⟩<;>simp only [go_sem,Int.natCast_succ,fH]
    all_goals omega
   have f5:((b2:Int)<(a1:Int))=False:=eq_false (by omega)
   by_cases s2:a1≤b1+3∧b1≤a1+3
   ·have f6:(-3≤(a1:Int) - (b1:Int))=True:=eq_true (by omega)
    have f7:((a1:Int) - (b1:Int)≤3)=True:=eq_true (by omega)
    have e:aW row above p k=⟨aO.getD (a1+3 - b1) [],a1+1,!k⟩:=by unfold aW;rw [hB1,hB2,hA,if_neg s1,if_pos s2]<;>rfl
    obtain ⟨q1,q2,q3,q4⟩:=hI0.step hw hr hle hw0 e
    have hix:((a1:Int) - (b1:Int)+3).toNat=a1+3 - b1:=by omega
    have hnl:aO.length=7:=rfl
    (repeat' with_reducible first|intro _|refine rz ?_|refine ra ?_ ?_|omega|simp only [go_sem,f5,f6,f7])
    refine ah.o iU 1 ?_
    (repeat' with_reducible first|intro _|refine rz ?_|refine ra ?_ ?_|omega|simp only [go_sem,hix,hnl])
    refine ⟨⟨a1+1,!k,o++aO.getD (a1+3 - b1) []⟩,aK.ak rfl ?_ ?_,q3,by dsimp only;omega⟩<;>simp only [go_sem,Int.natCast_succ]
    all_goals omega
   have e:aW row above p k=⟨eH++(dV (a1 - (p - 1)+1)++dV (a2 - a1+1)),a2+1,k⟩:=by unfold aW;rw [hB1,hB2,hA,if_neg s1,if_neg s2,hA2]
   obtain ⟨q1,q2,q3,q4⟩:=hI0.step hw hr hle hw0 e
   have hmx:max ((p:Int) - 1) 0=((p - 1:Nat):Int):=by omega
   have g1:=fJ (a1 - (p - 1)+1) (by omega)
   rw [show ((a1 - (p - 1)+1:Nat):Int)=(a1:Int) - ((p - 1:Nat):Int)+1 by omega] at g1
   have g2:=fJ (a2 - a1+1) (by omega)
   rw [show ((a2 - a1+1:Nat):Int)=(a2:Nat) - (a1:Int)+1 by omega] at g2
   have hs1:=dI (n:=a1 - (p - 1)+1) (by omega)
   have hs2:=dI (n:=a2 - a1+1) (by omega)
   generalize dV (a1 - (p - 1)+1)=x1 at *
   generalize dV (a2 - a1+1)=x2 at *
   have fin:∀ (F:Prop),F→F:=fun _ h=>h
   by_cases s3:a1+3<b1
   ·have f6:(-3≤(a1:Int) - (b1:Int))=False:=eq_false (by omega)
    (repeat' with_reducible first|intro _|refine rz ?_|refine ra ?_ ?_|omega|simp only [go_sem,f5,f6,hmx])
    refine ah.k g1 ?_
    (repeat' with_reducible first|intro _|exact dn|refine rn ?_|refine ra ?_ ?_)
    refine ah.k g2 ?_
    (repeat' with_reducible first|intro _|exact dn|refine rn ?_|refine ra ?_ ?_)
    refine ⟨⟨a2+1,k,o++(eH++(x1++x2))⟩,aK.ak rfl ?_ ?_,q3,by dsimp only;omega⟩<;>simp only [go_sem,Int.natCast_succ,eH,List.append_assoc]
    all_goals omega
   ·have f6:(-3≤(a1:Int) - (b1:Int))=True:=eq_true (by omega)
    have f7:((a1:Int) - (b1:Int)≤3)=False:=eq_false (by omega)
    (repeat' with_reducible first|intro _|refine rz ?_|refine ra ?_ ?_|omega|simp only [go_sem,f5,f6,f7,hmx])
    refine ah.k g1 ?_
    (repeat' with_reducible first|intro _|exact dn|refine rn ?_|refine ra ?_ ?_)
    refine ah.k g2 ?_
    (repeat' with_reducible first|intro _|exact dn|refine rn ?_|refine ra ?_ ?_)
    refine ⟨⟨a2+1,k,o++(eH++(x1++x2))⟩,aK.ak rfl ?_ ?_,q3,by dsimp only;omega⟩<;>simp only [go_sem,Int.natCast_succ,eH,List.append_assoc]
    all_goals omega
 ·have f4:((a1:Int)<(row.length:Int))=False:=eq_false (by omega)
  have ha2:a2=row.length:=by rw [←hA2,iH (by omega)]
  subst ha2
  rcases hcase with f3|⟨f3,f8⟩
  ·(repeat' with_reducible first|intro _|refine rz ?_|refine ra ?_ ?_|omega|simp only [go_sem,f2,f3,f4])
   obtain ⟨b1,hB1⟩:∃ b1,fV above p (!k)=b1:=⟨_,rfl⟩
   rw [hB1] at k3
   obtain ⟨b2,hB2⟩:∃ b2,dS above (b1+1)=b2:=⟨_,rfl⟩
   rw [hB2] at k3
   have hb1:=kG (r:=above) (i:=p) (by omega) (!k)
   rw [hB1] at hb1
   refine ah.k k3 ?_
   by_cases s1:b2<a1
   ·have f5:((b2:Int)<(a1:Int))=True:=eq_true (by omega)
    have e:aW row above p k=⟨fH,b2+1,k⟩:=by unfold aW;rw [hB1,hB2,hA,if_pos s1]
    obtain ⟨q1,q2,q3,q4⟩:=hI0.step hw hr hle hw0 e
    (repeat' with_reducible first|intro _|refine rz ?_|refine ra ?_ ?_|omega|simp only [go_sem,f5])
    refine ⟨⟨b2+1,k,o++fH⟩,aK.ak rfl ?_ ?_,q3,by dsimp only;omega⟩<;>simp only [go_sem,Int.natCast_succ,fH]
    all_goals omega
   have f5:((b2:Int)<(a1:Int))=False:=eq_false (by omega)
   by_cases s2:a1≤b1+3∧b1≤a1+3
   ·have f6:(-3≤(a1:Int) - (b1:Int))=True:=eq_true (by omega)
    have f7:((a1:Int) - (b1:Int)≤3)=True:=eq_true (by omega)
    have e:aW row above p k=⟨aO.getD (a1+3 - b1) [],a1+1,!k⟩:=by unfold aW;rw [hB1,hB2,hA,if_neg s1,if_pos s2]<;>rfl
    obtain ⟨q1,q2,q3,q4⟩:=hI0.step hw hr hle hw0 e
    have hix:((a1:Int) - (b1:Int)+3).toNat=a1+3 - b1:=by omega
    have hnl:aO.length=7:=rfl
    (repeat' with_reducible first|intro _|refine rz ?_|refine ra ?_ ?_|omega|simp only [go_sem,f5,f6,f7])
    refine ah.o iU 1 ?_
    (repeat' with_reducible first|intro _|refine rz ?_|refine ra ?_ ?_|omega|simp only [go_sem,hix,hnl])
    refine ⟨⟨a1+1,!k,o++aO.getD (a1+3 - b1) []⟩,aK.ak rfl ?_ ?_,q3,by dsimp only;omega⟩<;>simp only [go_sem,Int.natCast_succ]
    all_goals omega
   have e:aW row above p k=⟨eH++(dV (a1 - (p - 1)+1)++dV (row.length - a1+1)),row.length+1,k⟩:=by unfold aW;rw [hB1,hB2,hA,if_neg s1,if_neg s2,hA2]
   obtain ⟨q1,q2,q3,q4⟩:=hI0.step hw hr hle hw0 e
   have hmx:max ((p:Int) - 1) 0=((p - 1:Nat):Int):=by omega
   have g1:=fJ (a1 - (p - 1)+1) (by omega)
   rw [show ((a1 - (p - 1)+1:Nat):Int)=(a1:Int) - ((p - 1:Nat):Int)+1 by omega] at g1
   have g2:=fJ (row.length - a1+1) (by omega)
   rw [show ((row.length - a1+1:Nat):Int)=(row.length:Nat) - (a1:Int)+1 by omega] at g2
   have hs1:=dI (n:=a1 - (p - 1)+1) (by omega)
   have hs2:=dI (n:=row.length - a1+1) (by omega)
   generalize dV (a1 - (p - 1)+1)=x1 at *
   generalize dV (row.length - a1+1)=x2 at *
   have fin:∀ (F:Prop),F→F:=fun _ h=>h
   by_cases s3:a1+3<b1
   ·exact absurd s3 (by omega)
   ·have f6:(-3≤(a1:Int) - (b1:Int))=True:=eq_true (by omega)
    have f7:((a1:Int) - (b1:Int)≤3)=False:=eq_false (by omega)
    (repeat' with_reducible first|intro _|refine rz ?_|refine ra ?_ ?_|omega|simp only [go_sem,f5,f6,f7,hmx])
    refine ah.k g1 ?_
    (repeat' with_reducible first|intro _|exact dn|refine rn ?_|refine ra ?_ ?_)
    refine ah.k g2 ?_
    (repeat' with_reducible first|intro _|exact dn|refine rn ?_|refine ra ?_ ?_)
    refine ⟨⟨row.length+1,k,o++(eH++(x1++x2))⟩,aK.ak rfl ?_ ?_,q3,by dsimp only;omega⟩<;>simp only [go_sem,Int.natCast_succ,eH,List.append_assoc]
    all_goals omega
  ·(repeat' with_reducible first|intro _|refine rz ?_|refine ra ?_ ?_|omega|simp only [go_sem,f2,f3,f4,f8])
   obtain ⟨b1,hB1⟩:∃ b1,fV above p (!k)=b1:=⟨_,rfl⟩
   rw [hB1] at k3
   obtain ⟨b2,hB2⟩:∃ b2,dS above (b1+1)=b2:=⟨_,rfl⟩
   rw [hB2] at k3
   have hb1:=kG (r:=above) (i:=p) (by omega) (!k)
   rw [hB1] at hb1
   refine ah.k k3 ?_
   by_cases s1:b2<a1
   ·have f5:((b2:Int)<(a1:Int))=True:=eq_true (by omega)
    have e:aW row above p k=⟨fH,b2+1,k⟩:=by unfold aW;rw [hB1,hB2,hA,if_pos s1]
    obtain ⟨q1,q2,q3,q4⟩:=hI0.step hw hr hle hw0 e
    (repeat' with_reducible first|intro _|refine rz ?_|refine ra ?_ ?_|omega|simp only [go_sem,f5])
    refine ⟨⟨b2+1,k,o++fH⟩,aK.ak rfl ?_ ?_,q3,by dsimp only;omega⟩<;>simp only [go_sem,Int.natCast_succ,fH]
    all_goals omega
   have f5:((b2:Int)<(a1:Int))=False:=eq_false (by omega)
   by_cases s2:a1≤b1+3∧b1≤a1+3
   ·have f6:(-3≤(a1:Int) - (b1:Int))=True:=eq_true (by omega)
    have f7:((a1:Int) - (b1:Int)≤3)=True:=eq_true (by omega)
    have e:aW row above p k=⟨aO.getD (a1+3 - b1) [],a1+1,!k⟩:=by unfold aW;rw [hB1,hB2,hA,if_neg s1,if_pos s2]<;>rfl
    obtain ⟨q1,q2,q3,q4⟩:=hI0.step hw hr hle hw0 e
    have hix:((a1:Int) - (b1:Int)+3).toNat=a1+3 - b1:=by omega
    have hnl:aO.length=7:=rfl
    (repeat' with_reducible first|intro _|refine rz ?_|refine ra ?_ ?_|omega|simp only [go_sem,f5,f6,f7])
    refine ah.o iU 1 ?_
    (repeat' with_reducible first|intro _|refine rz ?_|refine ra ?_ ?_|omega|simp only [go_sem,hix,hnl])
    refine ⟨⟨a1+1,!k,o++aO.getD (a1+3 - b1) []⟩,aK.ak rfl ?_ ?_,q3,by dsimp only;omega⟩<;>simp only [go_sem,Int.natCast_succ]
    all_goals omega
   have e:aW row above p k=⟨eH++(dV (a1 - (p - 1)+1)++dV (row.length - a1+1)),row.length+1,k⟩:=by unfold aW;rw [hB1,hB2,hA,if_neg s1,if_neg s2,hA2]
   obtain ⟨q1,q2,q3,q4⟩:=hI0.step hw hr hle hw0 e
   have hmx:max ((p:Int) - 1) 0=((p - 1:Nat):Int):=by omega
   have g1:=fJ (a1 - (p - 1)+1) (by omega)
   rw [show ((a1 - (p - 1)+1:Nat):Int)=(a1:Int) - ((p - 1:Nat):Int)+1 by omega] at g1
   have g2:=fJ (row.length - a1+1) (by omega)
   rw [show ((row.length - a1+1:Nat):Int)=(row.length:Nat) - (a1:Int)+1 by omega] at g2
   have hs1:=dI (n:=a1 - (p - 1)+1) (by omega)
   have hs2:=dI (n:=row.length - a1+1) (by omega)
   generalize dV (a1 - (p - 1)+1)=x1 at *
   generalize dV (row.length - a1+1)=x2 at *
   have fin:∀ (F:Prop),F→F:=fun _ h=>h
   by_cases s3:a1+3<b1
   ·exact absurd s3 (by omega)
   ·have f6:(-3≤(a1:Int) - (b1:Int))=True:=eq_true (by omega)
    have f7:((a1:Int) - (b1:Int)≤3)=False:=eq_false (by omega)
    (repeat' with_reducible first|intro _|refine rz ?_|refine ra ?_ ?_|omega|simp only [go_sem,f5,f6,f7,hmx])
    refine ah.k g1 ?_
    (repeat' with_reducible first|intro _|exact dn|refine rn ?_|refine ra ?_ ?_)
    refine ah.k g2 ?_
    (repeat' with_reducible first|intro _|exact dn|refine rn ?_|refine ra ?_ ?_)
    refine ⟨⟨row.length+1,k,o++(eH++(x1++x2))⟩,aK.ak rfl ?_ ?_,q3,by dsimp only;omega⟩<;>simp only [go_sem,Int.natCast_succ,eH,List.append_assoc]
    all_goals omega
end Go.Fv.H
/- A text is one word just where its tokens are that word alone; small letters. -/
namespace Go.Fv.H
open Go
end Go.Fv.H
/- Small letters: the bytes on the way. -/
namespace Go.Fv.H
open Go Go.Proofs
theorem rG (l:List UInt8):(aj l).length=l.length:=by simp [aj]
theorem zL (l:List UInt8):bytesOf (aj l)=l:=by
 unfold bytesOf aj
 rw [List.map_map]
 conv=>rhs;rw [←List.map_id l]
 refine List.map_congr_left fun b _=>?_
 simp
end Go.Fv.H
/- strings.Builder: copyCheck at this program. -/
namespace Go.Fv.H
open Go Go.Proofs Go.RowKit
theorem J6 (w:World) (g:Nat) (a b v:Value) (t:TypeId) (h:w.heap[g]?=some (.cells #[a,b] t (0,0))):(w.setCell ⟨g,0,none⟩ v).heap[g]?=some (.cells #[v,b] t (0,0)):=by
 unfold World.setCell
 simp [h,Array.getElem?_modify]
theorem FK (w:World) (g k:Nat) (v:Value) (h:k≠g):(w.setCell ⟨g,0,none⟩ v).heap[k]?=w.heap[k]?:=by
 unfold World.setCell
 simp only [Array.getElem?_modify]
 rw [if_neg (fun e=>h e.symm)]
theorem Zc:(Tryz.prog.info? 89).map (·.size)=some 2:=by kernel_rfl
theorem aaY:liesAt Tryz.prog Tryz.prog.depth 89 (2 / Tryz.prog.cellsOf 89) 0 89 1=true:=by kernel_rfl
theorem ntB:Tryz.f96.ntmps=20:=rfl
set_option maxHeartbeats 1000000 in
set_option maxRecDepth 100000 in
theorem Vq (b:Nat) (w:World) (h0:w.cell? ⟨b,0,none⟩=some (.pointer (some ⟨b,0,none⟩))) :
  Calls Tryz.prog 96 #[.pointer (some ⟨b,0,none⟩)] w fun e w'=>e=.returned (.tuple #[])∧w'=w:=by
 have t70:=Tryz.underlying87
 have t72:=Tryz.underlying89
 have a72:=Tryz.isAgg89
 have z72:=Tryz.sizeOf89
 have a70:=Tryz.isAgg87
 have z70:=Tryz.sizeOf87
 have hf:=Tryz.func96
 have mixed:Tryz.prog.follows .mixedOrders=true:=by kernel_rfl
 obtain ⟨j,hj,hjs⟩:=Option.map_eq_some_iff.1 Zc
 have u70:=run_underlying t70
 have u72:=run_underlying t72
 have hn:=ntB
 generalize Tryz.prog=P at *
 go_enter hf,hn
 go_wp2
 rw [Lib.run_neq_ptr_same w _ t70 hj]
 go_wp2
 go_end0
 exact ⟨rfl,rfl⟩
set_option maxHeartbeats 1000000 in
set_option maxRecDepth 100000 in
theorem TB (b:Nat) (w:World) (h0:w.cell? ⟨b,0,none⟩=some (.pointer none)) (hsh:w.shape? b=some (89,2)) (hfz:w.frozen? ⟨b,0,none⟩=false) :
  Calls Tryz.prog 96 #[.pointer (some ⟨b,0,none⟩)] w fun e w'=>e=.returned (.tuple #[])∧w'=w.setCell ⟨b,0,none⟩ (.pointer (some ⟨b,0,none⟩)):=by
 have t70:=Tryz.underlying87
 have t72:=Tryz.underlying89
 have t164:=Tryz.underlying168
 have a72:=Tryz.isAgg89
 have z72:=Tryz.sizeOf89
 have a70:=Tryz.isAgg87
 have z70:=Tryz.sizeOf87
 have hf:=Tryz.func96
 have hx:=Tryz.func135
 have mixed:Tryz.prog.follows .mixedOrders=true:=by kernel_rfl
 obtain ⟨j,hj,hjs⟩:=Option.map_eq_some_iff.1 Zc
 have hlies:=aaY
 have u70:=run_underlying t70
 have u72:=run_underlying t72
 have hn:=ntB
 generalize Tryz.prog=P at *
 go_enter hf,hn
 go_wp2
 rw [Lib.run_to_unsafe w ⟨b,0,none⟩ t70 t164 hj (by rw [hjs];decide) hsh (Nat.zero_lt_succ 1)]
 simp only [Result.andThen]
 rw [Oper.upon_value]
 go_wp2
 rw [run_callFunc_extern hx (by kernel_rfl) (by kernel_rfl) (by kernel_rfl) (e:=Extern.AbiNoEscape.same) (by kernel_rfl)]
 rw [Lib.run_noEscape]
 simp only [Result.andThen]
 rw [Oper.upon_value]
 go_wp2
 rw [Lib.run_from_unsafe w ⟨b,0,none⟩ t164 t70 hj hsh hlies]
 simp only [Result.andThen]
 rw [Oper.upon_value]
 go_wp2
 go_end0
 exact ⟨rfl,rfl⟩
end Go.Fv.H
/- strings.Builder: what its methods do to a caller's builder. -/
namespace Go.Fv.H
open Go Go.Proofs
theorem lk1 {a it:Item} {i:Nat} (h:lk [(0,a)] i=some it):i=0∧it=a:=by
 simp only [lk] at h
 split at h
 ·rename_i e;exact ⟨e.symm,(Option.some.inj h).symm⟩
 ·cases h
theorem lk2 {a b it:Item} {i:Nat} (h:lk [(0,a),(1,b)] i=some it):(i=0∧it=a)∨(i=1∧it=b):=by
 simp only [lk] at h
 split at h
 ·rename_i e;exact .inl ⟨e.symm,(Option.some.inj h).symm⟩
 ·split at h
  ·rename_i e;exact .inr ⟨e.symm,(Option.some.inj h).symm⟩
  ·cases h
theorem rH:fA Tryz.prog 96 [.ptr 0 0] [(0,.box 89 [.raw (.pointer none),.nilS])] 1 (.tup []) [(0,.box 89 [.ptr 0 0,.nilS])]:=by
 refine ⟨⟨_,Tryz.func96,by kernel_rfl,by kernel_rfl⟩,fun w T g m0 vals ⟨hrow,_,hd⟩ hgl hng hv=>?_⟩
 obtain ⟨_,g0,vs,hm,hO,hl,hh⟩:=hrow 0 _ rfl
 cases hv with
 | cons _ v0 _ vs0 h0 hvs=>
 cases hvs
 cases h0 with
 | ptr _ _ gp hi hg=>
 have hg:blk (m0 0)=some gp:=hg
 rw [hm] at hg
 cases hg
 cases hl with
 | cons _ a _ _ ha _ hl=>
 cases ha
 cases hl with
 | cons _ b _ _ hb _ hl=>
 cases hb
 cases hl
 have hh':w.heap[g0]?=some (.cells #[.pointer none,.slice none 0 0] 89 (0,0)):=hh
 refine (TB g0 w (by simp [World.cell?,hh']) (by simp [World.shape?,hh']) (by simp [World.frozen?,hh'])).mono ?_
 rintro e w' ⟨rfl,rfl⟩
 refine ⟨_,rfl,⟨rfl,rfl,rfl,by simp [World.setCell],trivial,fun k hk hn=>FK w g0 k _ fun e=>hn (e▸hO)⟩,m0,1,fun _ _=>rfl,Nat.le_refl _,.tup [] [] .nil,fun i it hi=>?_,fun i j it jt b hi hj _ _=>?_⟩
 ·obtain ⟨rfl,rfl⟩:=lk1 hi
  refine ⟨Nat.one_pos,g0,[.pointer (some ⟨g0,0,none⟩),.slice none 0 0],hm,.inr ⟨hO,.inr hO⟩,?_,J6 w g0 _ _ _ _ hh'⟩
  exact .cons _ _ _ _ (.ptr 0 0 g0 Nat.one_pos (by show blk (m0 0)=some g0;rw [hm];rfl)) rfl (.cons _ _ _ _ .nilS rfl .nil)
 ·rw [(lk1 hi).1,(lk1 hj).1]
theorem Bc (e:TypeId) (l:List Int):fA Tryz.prog 96 [.ptr 0 0] [(0,.box 89 [.ptr 0 0,.own 1]),(1,.row e (.ints .u8 l))] 2 (.tup []) [(0,.box 89 [.ptr 0 0,.own 1]),(1,.row e (.ints .u8 l))]:=by
 refine ⟨⟨_,Tryz.func96,by kernel_rfl,by kernel_rfl⟩,fun w T g m0 vals ⟨hrow,hsep,hd⟩ hgl hng hv=>?_⟩
 obtain ⟨_,g0,vs,hm,hO,hl,hh⟩:=hrow 0 _ rfl
 obtain ⟨_,n,cells,hr,hn,how,hO2⟩:=hrow 1 _ rfl
 cases hv with
 | cons _ v0 _ vs0 h0 hvs=>
 cases hvs
 cases h0 with
 | ptr _ _ gp hi hg=>
 have hg:blk (m0 0)=some gp:=hg
 rw [hm] at hg
 cases hg
 cases hl with
 | cons _ a _ _ ha _ hl=>
 cases ha with
 | ptr _ _ ga _ hga=>
 have hga:blk (m0 0)=some ga:=hga
 rw [hm] at hga
 cases hga
 cases hl with
 | cons _ b _ _ hb hb1 hl=>
 cases hl
 have hh':w.heap[g0]?=some (.cells #[.pointer (some ⟨g0,0,none⟩),b] 89 (0,0)):=hh
 refine (Vq g0 w (by simp [World.cell?,hh'])).mono ?_
 rintro e w' ⟨rfl,rfl⟩
 refine ⟨_,rfl,bP.refl _ _,m0,2,fun _ _=>rfl,Nat.le_refl _,.tup [] [] .nil,fun i it hi=>?_,fun i j it jt b hi hj h1 h2=>?_⟩
 ·rcases lk2 hi with ⟨rfl,rfl⟩|⟨rfl,rfl⟩
  ·refine ⟨by decide,g0,[.pointer (some ⟨g0,0,none⟩),b],hm,.inr ⟨hO,.inr hO⟩,?_,hh'⟩
   cases hb with
   | own _ h5 h6=>exact .cons _ _ _ _ (.ptr 0 0 g0 (show 0<2 by decide) (by show blk (m0 0)=some g0;rw [hm];rfl)) rfl (.cons _ _ _ _ (.own 1 (show 1<2 by decide) h6) hb1 .nil)
  ·refine ⟨by decide,n,cells,?_,hn,how,fun b hb=>.inr ⟨hO2 b hb,.inr (hO2 b hb)⟩⟩
   cases hr with
   | ints _ _ h7=>exact .ints _ _ h7
 ·exact hsep i j it jt b hi hj h1 h2
theorem yB {a b:Item}:∀ j,j<2→∃ it,lk [(0,a),(1,b)] j=some it:=fun j hj=>by
 have:j=0∨j=1:=by omega
 rcases this with rfl|rfl
 ·exact ⟨a,rfl⟩
 ·exact ⟨b,rfl⟩
theorem Ho {a:Item}:∀ j,j<1→∃ it,lk [(0,a)] j=some it:=fun j hj=>by
 obtain rfl:j=0:=by omega
 exact ⟨a,rfl⟩
set_option maxHeartbeats 2000000 in
theorem gG (s:List UInt8) (hs:s.length≤100000000000):fA Tryz.prog 60 [.ptr 0 0,.str s] [(0,.box 89 [.raw (.pointer none),.nilS])] 1 (.tup [.int .i64 s.length,.raw .nilIface]) [(0,.box 89 [.ptr 0 0,.own 1]),(1,.row 5 (.ints .u8 (aj s)))]:=by
 have k:=rH
 refine fA.aG Tryz.func60 rfl (by decide) (by simp [Tryz.f60]) Ho [.tmp 4,.tmp 5] rfl fun w0 T0 _=>?_
 simp only [Tryz.f60,au]
 (repeat' with_reducible first|intro _|exact dn|refine rn ?_|refine ra ?_ ?_)
 refine ah.i [0] k 1 ?_
 (repeat' with_reducible first|intro _|refine rz ?_|refine ra ?_ ?_|omega|simp only [go_sem,S.VP,qp,qF,Ea,Item.ren,ren,iW,List.getElem?_cons_zero,List.getElem?_cons_succ,List.getElem?_nil,List.filter])
 refine jl.of [(1,2)] 3 (by decide) (by decide) ?_ rfl ?_<;>simp only [go_sem,Int.natCast_succ,aj]
set_option maxHeartbeats 2000000 in
theorem eF (b s:List UInt8) (hb:b.length≤100000000000) (hs:s.length≤10000000000):fA Tryz.prog 60 [.ptr 0 0,.str s] [(0,.box 89 [.ptr 0 0,.own 1]),(1,.row 5 (.ints .u8 (aj b)))] 2 (.tup [.int .i64 s.length,.raw .nilIface]) [(0,.box 89 [.ptr 0 0,.own 2]),(2,.row 5 (.ints .u8 (aj (b++s))))]:=by
 have k:=Bc 5 (aj b)
 have hbl:=rG b
 have he:aj (b++s)=aj b++s.map (fun b=>(b.toNat:Int)):=by unfold aj;rw [List.map_append]
 generalize aj b=B at *
 generalize aj (b++s)=C at *
 refine fA.aG Tryz.func60 rfl (by decide) (by simp [Tryz.f60]) yB [.tmp 4,.tmp 5] rfl fun w0 T0 _=>?_
 simp only [Tryz.f60,au]
 (repeat' with_reducible first|intro _|exact dn|refine rn ?_|refine ra ?_ ?_)
 refine ah.i [0,1] k 2 ?_
 (repeat' with_reducible first|intro _|exact dn|refine rn ?_|refine ra ?_ ?_)
 refine jl.of [(2,2)] 3 (by decide) (by decide) ?_ rfl ?_<;>simp only [go_sem,Int.natCast_succ,he]
set_option maxHeartbeats 2000000 in
theorem gQ:fA Tryz.prog 57 [.ptr 0 0] [(0,.box 89 [.raw (.pointer none),.nilS])] 1 (.str []) []:=by
 refine fA.aG Tryz.func57 rfl (by decide) (by simp [Tryz.f57]) Ho [.tmp 2] rfl fun w0 T0 _=>?_
 simp only [Tryz.f57,au]
 (repeat' with_reducible first|intro _|exact dn|refine rn ?_|refine ra ?_ ?_)
 refine aN.lex [] [] (by kernel_rfl) (by kernel_rfl) ?_
 (repeat' with_reducible first|intro _|exact dn|refine rn ?_|refine ra ?_ ?_)
 refine QV.intro (.raw (.pointer none)) ?_ ?_
 ·(repeat' with_reducible first|intro _|exact dn|refine rn ?_|refine ra ?_ ?_)
 (repeat' with_reducible first|intro _|exact dn|refine rn ?_|refine ra ?_ ?_)
 refine QV.intro (.str []) ?_ ?_
 ·(repeat' with_reducible first|intro _|exact dn|refine rn ?_|refine ra ?_ ?_)
 (repeat' with_reducible first|intro _|exact dn|refine rn ?_|refine ra ?_ ?_)
 refine jl.auto 1 (Nat.le_refl 1) ?_ rfl ?_<;>simp only [go_sem,Int.natCast_succ]
set_option maxHeartbeats 2000000 in
theorem gB (b:List UInt8) (hb:0<b.length):fA Tryz.prog 57 [.ptr 0 0] [(0,.box 89 [.ptr 0 0,.own 1]),(1,.row 5 (.ints .u8 (aj b)))] 2 (.str b) []:=by
 have hbl:=rG b
 have hz:((aj b).map fun n=>UInt8.ofNat n.toNat)=b:=zL b
 have hne:aj b≠[]:=fun e=>by rw [e] at hbl;simp at hbl;omega
 generalize aj b=B at *
 refine fA.aG Tryz.func57 rfl (by decide) (by simp [Tryz.f57]) yB [.tmp 2] rfl fun w0 T0 _=>?_
 simp only [Tryz.f57,au]
 (repeat' with_reducible first|intro _|exact dn|refine rn ?_|refine ra ?_ ?_)
 refine aN.lex [10] [] (by kernel_rfl) (by kernel_rfl) ?_
 (repeat' with_reducible first|intro _|refine rz ?_|refine ra ?_ ?_|omega|simp only [go_sem,hne,hbl,hz])
 refine QV.intro (.elt 1 1 0 0) ?_ ?_
 ·(repeat' with_reducible first|intro _|refine rz ?_|refine ra ?_ ?_|omega|simp only [go_sem,hne,hbl,hz])
 (repeat' with_reducible first|intro _|refine rz ?_|refine ra ?_ ?_|omega|simp only [go_sem,hne,hbl,hz])
 trace_state
 refine QE.intro (.str b) [(2,.row 5 (.ints .u8 [])),(0,.box 89 [.ptr 0 0,.own 1])] 3 ?_ ?_
 ·(repeat' with_reducible first|intro _|refine rz ?_|refine ra ?_ ?_|omega|simp only [go_sem,hne,hbl,hz])
 (repeat' with_reducible first|intro _|refine rz ?_|refine ra ?_ ?_|omega|simp only [go_sem,hne,hbl,hz])
 refine jl.auto 2 (Nat.le_refl 2) ?_ rfl ?_<;>simp only [go_sem,Int.natCast_succ]
end Go.Fv.H
/- shrink.line: the walk. -/
namespace Go.Fv.H
open Go Go.Proofs
theorem EO {k:Nat} (h:k≤6):0<(aO.getD k []).length:=by
 have:k=0∨k=1∨k=2∨k=3∨k=4∨k=5∨k=6:=by omega
 rcases this with rfl|rfl|rfl|rfl|rfl|rfl|rfl<;>decide
structure LSy where
 p:Nat
 k:Bool
 o:Bytes
 u:Bool
structure LSJ (row above:List Bool) (x:LSy):Prop where
 s:Zj row above ⟨x.p,x.k,x.o⟩
 u1:x.u=true→0<x.o.length
 u2:x.u=false→x.o=[]∧x.p=0
 u3:row.length=0→x.u=false
set_option maxHeartbeats 16000000 in
theorem RX (row above:List Bool) (hr:row.length≤4000) (hw:above.length=row.length) :
  aA Tryz.prog 151 [.ro (.bools row),.ro (.bools above)] (.str (eX row above)) []:=by
 refine aA.aG Tryz.func151 rfl (by decide) (by simp [Tryz.f151]) [.tmp 4] rfl fun w0 T0 _=>?_
 simp only [Tryz.f151,au]
 (repeat' with_reducible first|intro _|exact dn|refine rn ?_|refine ra ?_ ?_)
 refine aF.intro (fun x:LSy=>⟨76,[(5,.ptr 0 0),(8,.int .i64 ((x.p:Int) - 1)),(7,.bool x.k),(6,.int .i64 row.length),(1,.ro (.bools above)),(0,.ro (.bools row))],bif x.u then [(0,.box 89 [.ptr 0 0,.own 1]),(1,.row 5 (.ints .u8 (aj x.o)))] else [(0,.box 89 [.raw (.pointer none),.nilS])],bif x.u then 2 else 1⟩) (LSJ row above) (fun x=>row.length+1 - x.p) ⟨0,false,[],false⟩ ?_ ⟨⟨by dsimp only;omega,rfl,by simp,fun _=>rfl⟩,(by intro h;cases h),fun _=>⟨rfl,rfl⟩,fun _=>rfl⟩ fun x hI=>?_
 ·refine aK.ak rfl ?_ ?_<;>simp only [go_sem,Int.natCast_succ]
  all_goals first|rfl|exact ⟨rfl,rfl⟩
 obtain ⟨p,k,o,u⟩:=x
 obtain ⟨hI0,hu1,hu2,hu3⟩:=hI
 have hI:=hI0
 obtain ⟨hp,ho,hl,_⟩:=hI
 dsimp only at *
 by_cases hlt:p≤row.length∧0<row.length
 rotate_left
 ·have hres:=hI0.done hlt
  by_cases h0:0<row.length
  ·have f1:((p:Int) - 1<(row.length:Int))=False:=eq_false (by omega)
   cases u with
   | false=>have:=(hu2 rfl).2;omega
   | true=>
    have kst:=gB o (hu1 rfl)
    simp only [cond_true,cond_false,List.cons_append,List.nil_append]
    (repeat' with_reducible first|intro _|refine rz ?_|refine ra ?_ ?_|omega|simp only [go_sem,f1])
    refine ah.i [0,1] kst 2 ?_
    (repeat' with_reducible first|intro _|exact dn|refine rn ?_|refine ra ?_ ?_)
    refine aU.auto 0 ?_ rfl ?_<;>simp only [go_sem,Int.natCast_succ,Post,hres]
  ·have f2:((row.length:Int)=0)=True:=eq_true (by omega)
   have hu:=hu3 (by omega)
   subst hu
   obtain ⟨h0a,h0b⟩:=hu2 rfl
   subst h0a
   have f1:((p:Int) - 1<(row.length:Int))=True:=eq_true (by omega)
   have kst:=gQ
   simp only [cond_true,cond_false,List.cons_append,List.nil_append]
   (repeat' with_reducible first|intro _|refine rz ?_|refine ra ?_ ?_|omega|simp only [go_sem,f1,f2])
   refine ah.i [0] kst 1 ?_
   (repeat' with_reducible first|intro _|exact dn|refine rn ?_|refine ra ?_ ?_)
   refine aU.auto 0 ?_ rfl ?_<;>simp only [go_sem,Int.natCast_succ,Post,←hres]
 obtain ⟨hle,hw0⟩:=hlt
 have f1:((p:Int) - 1<(row.length:Int))=True:=eq_true (by omega)
 have f2:((row.length:Int)=0)=False:=eq_false (by omega)
 have k1:=nY row p ((p:Int) - 1) rfl (by omega) hr
 have c1:=gW row p
 have c2:=jf hle
 have k3:=Ba above p ((p:Int) - 1) (!k) rfl (by omega) (by omega)
 obtain ⟨a1,hA⟩:∃ a1,dS row p=a1:=⟨_,rfl⟩
 rw [hA] at k1 c1 c2
 obtain ⟨a2,hA2⟩:∃ a2,dS row (a1+1)=a2:=⟨_,rfl⟩
 have c3:=gW row (a1+1)
 have k2:=nY row (a1+1) (a1:Int) (by omega) (by omega) hr
 rw [hA2] at c3 k2
 have c4:a1≤a2:=by
  by_cases h:a1<row.length
  ·have:=jf (r:=row) (i:=a1+1) (by omega);omega
  ·rw [iH (by omega)] at hA2;omega
 obtain ⟨b1,hB1⟩:∃ b1,fV above p (!k)=b1:=⟨_,rfl⟩
 have hb1:=kG (r:=above) (i:=p) (by omega) (!k)
 rw [hB1] at k3 hb1
 obtain ⟨b2,hB2⟩:∃ b2,dS above (b1+1)=b2:=⟨_,rfl⟩
 have k4:=nY above (b1+1) (b1:Int) (by omega) (by omega) (by omega)
 rw [hB2] at k4
 cases u with
 | true=>
  simp only [cond_true,cond_false,List.cons_append,List.nil_append]
  have hop:=hu1 rfl
  (repeat' with_reducible first|intro _|refine rz ?_|refine ra ?_ ?_|omega|simp only [go_sem,f1,f2])
  refine ah.k k1 ?_
  (repeat' with_reducible first|intro _|exact dn|refine rn ?_|refine ra ?_ ?_)
  refine ah.k k2 ?_
  (repeat' with_reducible first|intro _|exact dn|refine rn ?_|refine ra ?_ ?_)
  refine ah.k k3 ?_
  (repeat' with_reducible first|intro _|exact dn|refine rn ?_|refine ra ?_ ?_)
  refine ah.k k4 ?_
  by_cases s1:b2<a1
  ·have f5:((b2:Int)<(a1:Int))=True:=eq_true (by omega)
   have e:aW row above p k=⟨fH,b2+1,k⟩:=by unfold aW;rw [hB1,hB2,hA,if_pos s1]
   obtain ⟨q1,q2,q3,q4⟩:=hI0.step hw hr hle hw0 e
   have kw2:=eF o ([48,48,48,49]) (by omega) (by decide)
   have hpl:0<fH.length:=by decide
   (repeat' with_reducible first|intro _|refine rz ?_|refine ra ?_ ?_|omega|simp only [go_sem,f5])
   refine ah.i [0,1] kw2 3 ?_
   (repeat' with_reducible first|intro _|exact dn|refine rn ?_|refine ra ?_ ?_)
   refine ⟨⟨b2+1,k,o++fH,true⟩,aK.ak rfl ?_ ?_,⟨q3,fun _=>?_,(by intro h;cases h),fun h=>by omega⟩,by dsimp only;omega⟩
   ·simp only [go_sem,Int.natCast_succ,List.append_assoc,fH]
    all_goals first|rfl|omega|(refine ⟨?_,?_⟩<;>first|rfl|omega)
   ·simp only [go_sem,Int.natCast_succ,List.append_assoc,fH]
    all_goals first|rfl|omega|(refine ⟨?_,?_⟩<;>first|rfl|omega)
   ·dsimp only;rw [List.length_append];omega
  have f5:((b2:Int)<(a1:Int))=False:=eq_false (by omega)
  by_cases s2:a1≤b1+3∧b1≤a1+3
  ·have f6:(-3≤(a1:Int) - (b1:Int))=True:=eq_true (by omega)
   have f7:((a1:Int) - (b1:Int)≤3)=True:=eq_true (by omega)
   have e:aW row above p k=⟨aO.getD (a1+3 - b1) [],a1+1,!k⟩:=by unfold aW;rw [hB1,hB2,hA,if_neg s1,if_pos s2]
   obtain ⟨q1,q2,q3,q4⟩:=hI0.step hw hr hle hw0 e
   have hix:((a1:Int) - (b1:Int)+3).toNat=a1+3 - b1:=by omega
   have hnl:aO.length=7:=rfl
   have hpl:=EO (k:=a1+3 - b1) (by omega)
   have kw2:=eF o (aO.getD (a1+3 - b1) []) (by omega) (by omega)
   generalize hcd:aO.getD (a1+3 - b1) []=cd at *
   (repeat' with_reducible first|intro _|refine rz ?_|refine ra ?_ ?_|omega|simp only [go_sem,f5,f6,f7])
   refine ah.o nR 1 ?_
   (repeat' with_reducible first|intro _|refine rz ?_|refine ra ?_ ?_|omega|simp only [go_sem,hix,hnl,hcd,f6,f7])
   refine ah.i [0,1] kw2 3 ?_
   (repeat' with_reducible first|intro _|exact dn|refine rn ?_|refine ra ?_ ?_)
   refine ⟨⟨a1+1,!k,o++cd,true⟩,aK.ak rfl ?_ ?_,⟨q3,fun _=>?_,(by intro h;cases h),fun h=>by omega⟩,by dsimp only;omega⟩
   ·simp only [go_sem,Int.natCast_succ,List.append_assoc]
    all_goals first|rfl|omega|(refine ⟨?_,?_⟩<;>first|rfl|omega)
   ·simp only [go_sem,Int.natCast_succ,List.append_assoc]
    all_goals first|rfl|omega|(refine ⟨?_,?_⟩<;>first|rfl|omega)
   ·dsimp only;rw [List.length_append];omega
  have e:aW row above p k=⟨eH++(dV (a1 - (p - 1)+1)++dV (a2 - a1+1)),a2+1,k⟩:=by unfold aW;rw [hB1,hB2,hA,if_neg s1,if_neg s2,hA2]
  obtain ⟨q1,q2,q3,q4⟩:=hI0.step hw hr hle hw0 e
  have hmx:max ((p:Int) - 1) 0=((p - 1:Nat):Int):=by omega
  have g1:=ug (a1 - (p - 1)+1) (by omega)
  rw [show ((a1 - (p - 1)+1:Nat):Int)=(a1:Int) - ((p - 1:Nat):Int)+1 by omega] at g1
  have g2:=ug (a2 - a1+1) (by omega)
  rw [show ((a2 - a1+1:Nat):Int)=(a2:Int) - (a1:Int)+1 by omega] at g2
  have hs1:=dI (n:=a1 - (p - 1)+1) (by omega)
  have hs2:=dI (n:=a2 - a1+1) (by omega)
  generalize dV (a1 - (p - 1)+1)=x1 at *
  generalize dV (a2 - a1+1)=x2 at *
  have kw2:=eF o (48::48::49::(x1++x2)) (by omega) (by simp only [List.length_cons,List.length_append];omega)
  have hpl:0<(eH++(x1++x2)).length:=by rw [List.length_append];have:eH.length=3:=rfl;omega
  by_cases s3:a1+3<b1
  ·have f6:(-3≤(a1:Int) - (b1:Int))=False:=eq_false (by omega)
   (repeat' with_reducible first|intro _|refine rz ?_|refine ra ?_ ?_|omega|simp only [go_sem,f5,f6,hmx])
   refine ah.k g1 ?_
   (repeat' with_reducible first|intro _|exact dn|refine rn ?_|refine ra ?_ ?_)
   refine ah.k g2 ?_
   (repeat' with_reducible first|intro _|exact dn|refine rn ?_|refine ra ?_ ?_)
   refine ah.i [0,1] kw2 3 ?_
   (repeat' with_reducible first|intro _|exact dn|refine rn ?_|refine ra ?_ ?_)
   refine ⟨⟨a2+1,k,o++(eH++(x1++x2)),true⟩,aK.ak rfl ?_ ?_,⟨q3,fun _=>?_,(by intro h;cases h),fun h=>by omega⟩,by dsimp only;omega⟩
   ·simp only [go_sem,Int.natCast_succ,List.append_assoc,eH]
    all_goals first|rfl|omega|(refine ⟨?_,?_⟩<;>first|rfl|omega)
   ·simp only [go_sem,Int.natCast_succ,List.append_assoc,eH]
    all_goals first|rfl|omega|(refine ⟨?_,?_⟩<;>first|rfl|omega)
   ·dsimp only;rw [List.length_append];omega
  ·have f6:(-3≤(a1:Int) - (b1:Int))=True:=eq_true (by omega)
   have f7:((a1:Int) - (b1:Int)≤3)=False:=eq_false (by omega)
   (repeat' with_reducible first|intro _|refine rz ?_|refine ra ?_ ?_|omega|simp only [go_sem,f5,f6,f7,hmx])
   refine ah.k g1 ?_
   (repeat' with_reducible first|intro _|exact dn|refine rn ?_|refine ra ?_ ?_)
   refine ah.k g2 ?_
   (repeat' with_reducible first|intro _|exact dn|refine rn ?_|refine ra ?_ ?_)
   refine ah.i [0,1] kw2 3 ?_
   (repeat' with_reducible first|intro _|exact dn|refine rn ?_|refine ra ?_ ?_)
   refine ⟨⟨a2+1,k,o++(eH++(x1++x2)),true⟩,aK.ak rfl ?_ ?_,⟨q3,fun _=>?_,(by intro h;cases h),fun h=>by omega⟩,by dsimp only;omega⟩
   ·simp only [go_sem,Int.natCast_succ,List.append_assoc,eH]
    all_goals first|rfl|omega|(refine ⟨?_,?_⟩<;>first|rfl|omega)
   ·simp only [go_sem,Int.natCast_succ,List.append_assoc,eH]
    all_goals first|rfl|omega|(refine ⟨?_,?_⟩<;>first|rfl|omega)
   ·dsimp only;rw [List.length_append];omega
 | false=>
  simp only [cond_true,cond_false,List.cons_append,List.nil_append]
  obtain ⟨h0a,h0b⟩:=hu2 rfl
  subst h0a
  (repeat' with_reducible first|intro _|refine rz ?_|refine ra ?_ ?_|omega|simp only [go_sem,f1,f2])
  refine ah.k k1 ?_
  (repeat' with_reducible first|intro _|exact dn|refine rn ?_|refine ra ?_ ?_)
  refine ah.k k2 ?_
  (repeat' with_reducible first|intro _|exact dn|refine rn ?_|refine ra ?_ ?_)
  refine ah.k k3 ?_
  (repeat' with_reducible first|intro _|exact dn|refine rn ?_|refine ra ?_ ?_)
  refine ah.k k4 ?_
  by_cases s1:b2<a1
  ·have f5:((b2:Int)<(a1:Int))=True:=eq_true (by omega)
   have e:aW row above p k=⟨fH,b2+1,k⟩:=by unfold aW;rw [hB1,hB2,hA,if_pos s1]
   obtain ⟨q1,q2,q3,q4⟩:=hI0.step hw hr hle hw0 e
   have kw2:=gG ([48,48,48,49]) (by decide)
   have hpl:0<fH.length:=by decide
   (repeat' with_reducible first|intro _|refine rz ?_|refine ra ?_ ?_|omega|simp only [go_sem,f5])
   refine ah.i [0] kw2 2 ?_
   (repeat' with_reducible first|intro _|exact dn|refine rn ?_|refine ra ?_ ?_)
   refine ⟨⟨b2+1,k,[]++fH,true⟩,aK.ak rfl ?_ ?_,⟨q3,fun _=>?_,(by intro h;cases h),fun h=>by omega⟩,by dsimp only;omega⟩
   ·simp only [go_sem,Int.natCast_succ,List.append_assoc,fH]
    all_goals first|rfl|omega|(refine ⟨?_,?_⟩<;>first|rfl|omega)
   ·simp only [go_sem,Int.natCast_succ,List.append_assoc,fH]
    all_goals first|rfl|omega|(refine ⟨?_,?_⟩<;>first|rfl|omega)
   ·dsimp only;rw [List.length_append];omega
  have f5:((b2:Int)<(a1:Int))=False:=eq_false (by omega)
  by_cases s2:a1≤b1+3∧b1≤a1+3
  ·have f6:(-3≤(a1:Int) - (b1:Int))=True:=eq_true (by omega)
   have f7:((a1:Int) - (b1:Int)≤3)=True:=eq_true (by omega)
   have e:aW row above p k=⟨aO.getD (a1+3 - b1) [],a1+1,!k⟩:=by unfold aW;rw [hB1,hB2,hA,if_neg s1,if_pos s2]
   obtain ⟨q1,q2,q3,q4⟩:=hI0.step hw hr hle hw0 e
   have hix:((a1:Int) - (b1:Int)+3).toNat=a1+3 - b1:=by omega
   have hnl:aO.length=7:=rfl
   have hpl:=EO (k:=a1+3 - b1) (by omega)
   have kw2:=gG (aO.getD (a1+3 - b1) []) (by omega)
   generalize hcd:aO.getD (a1+3 - b1) []=cd at *
   (repeat' with_reducible first|intro _|refine rz ?_|refine ra ?_ ?_|omega|simp only [go_sem,f5,f6,f7])
   refine ah.o nR 1 ?_
   (repeat' with_reducible first|intro _|refine rz ?_|refine ra ?_ ?_|omega|simp only [go_sem,hix,hnl,hcd,f6,f7])
   refine ah.i [0] kw2 2 ?_
   (repeat' with_reducible first|intro _|exact dn|refine rn ?_|refine ra ?_ ?_)
   refine ⟨⟨a1+1,!k,[]++cd,true⟩,aK.ak rfl ?_ ?_,⟨q3,fun _=>?_,(by intro h;cases h),fun h=>by omega⟩,by dsimp only;omega⟩
   ·simp only [go_sem,Int.natCast_succ,List.append_assoc]
    all_goals first|rfl|omega|(refine ⟨?_,?_⟩<;>first|rfl|omega)
   ·simp only [go_sem,Int.natCast_succ,List.append_assoc]
    all_goals first|rfl|omega|(refine ⟨?_,?_⟩<;>first|rfl|omega)
   ·dsimp only;rw [List.length_append];omega
  have e:aW row above p k=⟨eH++(dV (a1 - (p - 1)+1)++dV (a2 - a1+1)),a2+1,k⟩:=by unfold aW;rw [hB1,hB2,hA,if_neg s1,if_neg s2,hA2]
  obtain ⟨q1,q2,q3,q4⟩:=hI0.step hw hr hle hw0 e
  have hmx:max ((p:Int) - 1) 0=((p - 1:Nat):Int):=by omega
  have g1:=ug (a1 - (p - 1)+1) (by omega)
  rw [show ((a1 - (p - 1)+1:Nat):Int)=(a1:Int) - ((p - 1:Nat):Int)+1 by omega] at g1
  have g2:=ug (a2 - a1+1) (by omega)
  rw [show ((a2 - a1+1:Nat):Int)=(a2:Int) - (a1:Int)+1 by omega] at g2
  have hs1:=dI (n:=a1 - (p - 1)+1) (by omega)
  have hs2:=dI (n:=a2 - a1+1) (by omega)
  generalize dV (a1 - (p - 1)+1)=x1 at *
  generalize dV (a2 - a1+1)=x2 at *
  have kw2:=gG (48::48::49::(x1++x2)) (by simp only [List.length_cons,List.length_append];omega)
  have hpl:0<(eH++(x1++x2)).length:=by rw [List.length_append];have:eH.length=3:=rfl;omega
  by_cases s3:a1+3<b1
  ·have f6:(-3≤(a1:Int) - (b1:Int))=False:=eq_false (by omega)
   (repeat' with_reducible first|intro _|refine rz ?_|refine ra ?_ ?_|omega|simp only [go_sem,f5,f6,hmx])
   refine ah.k g1 ?_
   (repeat' with_reducible first|intro _|exact dn|refine rn ?_|refine ra ?_ ?_)
   refine ah.k g2 ?_
   (repeat' with_reducible first|intro _|exact dn|refine rn ?_|refine ra ?_ ?_)
   refine ah.i [0] kw2 2 ?_
   (repeat' with_reducible first|intro _|exact dn|refine rn ?_|refine ra ?_ ?_)
   refine ⟨⟨a2+1,k,[]++(eH++(x1++x2)),true⟩,aK.ak rfl ?_ ?_,⟨q3,fun _=>?_,(by intro h;cases h),fun h=>by omega⟩,by dsimp only;omega⟩
   ·simp only [go_sem,Int.natCast_succ,List.append_assoc,eH]
    all_goals first|rfl|omega|(refine ⟨?_,?_⟩<;>first|rfl|omega)
   ·simp only [go_sem,Int.natCast_succ,List.append_assoc,eH]
    all_goals first|rfl|omega|(refine ⟨?_,?_⟩<;>first|rfl|omega)
   ·dsimp only;rw [List.length_append];omega
  ·have f6:(-3≤(a1:Int) - (b1:Int))=True:=eq_true (by omega)
   have f7:((a1:Int) - (b1:Int)≤3)=False:=eq_false (by omega)
   (repeat' with_reducible first|intro _|refine rz ?_|refine ra ?_ ?_|omega|simp only [go_sem,f5,f6,f7,hmx])
   refine ah.k g1 ?_
   (repeat' with_reducible first|intro _|exact dn|refine rn ?_|refine ra ?_ ?_)
   refine ah.k g2 ?_
   (repeat' with_reducible first|intro _|exact dn|refine rn ?_|refine ra ?_ ?_)
   refine ah.i [0] kw2 2 ?_
   (repeat' with_reducible first|intro _|exact dn|refine rn ?_|refine ra ?_ ?_)
   refine ⟨⟨a2+1,k,[]++(eH++(x1++x2)),true⟩,aK.ak rfl ?_ ?_,⟨q3,fun _=>?_,(by intro h;cases h),fun h=>by omega⟩,by dsimp only;omega⟩
   ·simp only [go_sem,Int.natCast_succ,List.append_assoc,eH]
    all_goals first|rfl|omega|(refine ⟨?_,?_⟩<;>first|rfl|omega)
   ·simp only [go_sem,Int.natCast_succ,List.append_assoc,eH]
    all_goals first|rfl|omega|(refine ⟨?_,?_⟩<;>first|rfl|omega)
   ·dsimp only;rw [List.length_append];omega
end Go.Fv.H
