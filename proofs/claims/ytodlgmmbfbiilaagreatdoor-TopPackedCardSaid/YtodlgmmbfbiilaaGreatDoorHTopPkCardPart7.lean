/-
  A part of the proof of the claim: walks over the program's functions and the plain laws that these need. No condition of its own.
-/
import Derived.Test.YtodlgmmbfbiilaaGreatDoorHTopPkCardPart5
import Derived.Test.YtodlgmmbfbiilaaGreatDoorHTopPkCardPart6
import Derived.Test.YtodlgmmbfbiilaaGreatDoorHTopPkCardPart3
import Derived.Test.YtodlgmmbfbiilaaGreatDoorHTopPkCardPart1
import Derived.Test.YtodlgmmbfbiilaaGreatDoorFvPart11
import Derived.Test.YtodlgmmbfbiilaaGreatDoorFvPart10
set_option linter.unusedSimpArgs false
set_option linter.unusedVariables false
set_option linter.unnecessarySimpa false
set_option maxRecDepth 8000
/- shrink.readLine: the walk. -/
namespace Go.Fv.H
open Go Go.Proofs
theorem Lm (y:Bytes):(gZ.isPrefixOf y=true∧codeOf y=0) ∨
  (gZ.isPrefixOf y=false∧∃ j,j<7∧codeOf y=j+1∧(∀ i,i<j→(aQ.getD i []).isPrefixOf y=false)∧(aQ.getD j []).isPrefixOf y=true) ∨
  (gZ.isPrefixOf y=false∧(∀ i,i<7→(aQ.getD i []).isPrefixOf y=false)∧((fP.isPrefixOf y=true∧codeOf y=8)∨(fP.isPrefixOf y=false∧codeOf y=9))):=by
 unfold codeOf
 cases hp:gZ.isPrefixOf y with
 | true=>exact .inl ⟨rfl,rfl⟩
 | false=>
 cases h0:(aQ.getD 0 []).isPrefixOf y with
 | true=>
  refine .inr (.inl ⟨rfl,0,by decide,rfl,?_,h0⟩)
  exact fun i hi=>by omega
 | false=>
 cases h1:(aQ.getD 1 []).isPrefixOf y with
 | true=>
  refine .inr (.inl ⟨rfl,1,by decide,rfl,?_,h1⟩)
  exact fun i hi=>by
   have hi:i=0:=by omega
   rcases hi with rfl
   ·exact h0
 | false=>
 cases h2:(aQ.getD 2 []).isPrefixOf y with
 | true=>
  refine .inr (.inl ⟨rfl,2,by decide,rfl,?_,h2⟩)
  exact fun i hi=>by
   have hi:i=0∨i=1:=by omega
   rcases hi with rfl|rfl
   ·exact h0
   ·exact h1
 | false=>
 cases h3:(aQ.getD 3 []).isPrefixOf y with
 | true=>
  refine .inr (.inl ⟨rfl,3,by decide,rfl,?_,h3⟩)
  exact fun i hi=>by
   have hi:i=0∨i=1∨i=2:=by omega
   rcases hi with rfl|rfl|rfl
   ·exact h0
   ·exact h1
   ·exact h2
 | false=>
 cases h4:(aQ.getD 4 []).isPrefixOf y with
 | true=>
  refine .inr (.inl ⟨rfl,4,by decide,rfl,?_,h4⟩)
  exact fun i hi=>by
   have hi:i=0∨i=1∨i=2∨i=3:=by omega
   rcases hi with rfl|rfl|rfl|rfl
   ·exact h0
   ·exact h1
   ·exact h2
   ·exact h3
 | false=>
 cases h5:(aQ.getD 5 []).isPrefixOf y with
 | true=>
  refine .inr (.inl ⟨rfl,5,by decide,rfl,?_,h5⟩)
  exact fun i hi=>by
   have hi:i=0∨i=1∨i=2∨i=3∨i=4:=by omega
   rcases hi with rfl|rfl|rfl|rfl|rfl
   ·exact h0
   ·exact h1
   ·exact h2
   ·exact h3
   ·exact h4
 | false=>
 cases h6:(aQ.getD 6 []).isPrefixOf y with
 | true=>
  refine .inr (.inl ⟨rfl,6,by decide,rfl,?_,h6⟩)
  exact fun i hi=>by
   have hi:i=0∨i=1∨i=2∨i=3∨i=4∨i=5:=by omega
   rcases hi with rfl|rfl|rfl|rfl|rfl|rfl
   ·exact h0
   ·exact h1
   ·exact h2
   ·exact h3
   ·exact h4
   ·exact h5
 | false=>
 have hall:∀ i,i<7→(aQ.getD i []).isPrefixOf y=false:=fun i hi=>by
  have hi:i=0∨i=1∨i=2∨i=3∨i=4∨i=5∨i=6:=by omega
  rcases hi with rfl|rfl|rfl|rfl|rfl|rfl|rfl
  ·exact h0
  ·exact h1
  ·exact h2
  ·exact h3
  ·exact h4
  ·exact h5
  ·exact h6
 cases hf:fP.isPrefixOf y with
 | true=>exact .inr (.inr ⟨rfl,hall,.inl ⟨rfl,rfl⟩⟩)
 | false=>exact .inr (.inr ⟨rfl,hall,.inr ⟨rfl,rfl⟩⟩)
structure Zw where
 p:Nat
 k:Bool
 n:Nat
 R:List Bool
structure Ro (above:List Bool) (s:Bytes) (x:Zw):Prop where
 hp:x.p≤above.length+1
 hn:x.n≤s.length
 hR:x.R.length=x.p - 1
 hz:above.length=0→x.n=0
 hq:oN true above s 0 false=match oN true above (s.drop x.n) x.p x.k with|none=>none|some (l,m)=>some (x.R++l,x.n+m)
theorem Ro.first (above:List Bool) (s:Bytes):Ro above s ⟨0,false,0,[]⟩:=by
 refine ⟨Nat.zero_le _,Nat.zero_le _,rfl,fun _=>rfl,?_⟩
 dsimp only
 rw [List.drop_zero]
 cases oN true above s 0 false with
 | none=>rfl
 | some x=>obtain ⟨l,m⟩:=x;dsimp only;rw [List.nil_append,Nat.zero_add]
theorem Ro.step {above:List Bool} {s:Bytes} {p n:Nat} {k:Bool} {R:List Bool} (h:Ro above s ⟨p,k,n,R⟩) (hp:p≤above.length) (h0:0<above.length) {y:XD} (hy:rdStep true above (s.drop n) p k=some y) :
  Ro above s ⟨y.p,y.k,n+y.n,R++y.px⟩∧p<y.p:=by
 obtain ⟨h1,h2,h3,_,h4⟩:=h
 obtain ⟨g1,g2,g3,g4⟩:=nK hp hy
 dsimp only at *
 rw [List.length_drop] at g4
 refine ⟨⟨g2,by dsimp only;omega,by dsimp only;rw [List.length_append,h3,g3];omega,fun h=>by omega,?_⟩,g1⟩
 dsimp only
 rw [h4,lT hp hy,List.drop_drop]
 cases oN true above (s.drop (n+y.n)) y.p y.k with
 | none=>rfl
 | some x=>obtain ⟨l,m⟩:=x;dsimp only;rw [List.append_assoc,Nat.add_assoc]
theorem Ro.fail {above:List Bool} {s:Bytes} {p n:Nat} {k:Bool} {R:List Bool} (h:Ro above s ⟨p,k,n,R⟩) (hp:p≤above.length) (h0:0<above.length) (hy:rdStep true above (s.drop n) p k=none):kN true above s=none:=by
 unfold kN
 rw [if_neg (by omega),h.hq,x9 hp hy]
theorem Ro.done {above:List Bool} {s:Bytes} {p n:Nat} {k:Bool} {R:List Bool} (h:Ro above s ⟨p,k,n,R⟩) (hp:¬(p≤above.length∧0<above.length)):kN true above s=some (R,n)∧R.length=above.length:=by
 have h1:p≤above.length+1:=h.hp
 have h2:R.length=p - 1:=h.hR
 have h3:above.length=0→n=0:=h.hz
 refine ⟨?_,by omega⟩
 unfold kN
 by_cases h0:above.length=0
 ·have hR0:R.length=0:=by
   have h5:p≤1:=by rw [h0] at h1;exact h1
   rw [h2];exact Nat.sub_eq_zero_of_le h5
  rw [if_pos h0,h3 h0,List.eq_nil_of_length_eq_zero hR0]
 ·have h6:¬p≤above.length:=by omega
  rw [if_neg h0,h.hq,oO h6]
  dsimp only
  rw [List.append_nil,Nat.add_zero]
theorem JW {s:Bytes} {m l:Nat} (h:oM s=some (m,l)):m≤1048576:=by
 unfold oM at h
 split at h
 ·rename_i hc;cases h;exact hc.2.2.2
 ·cases h
def yt (w:Nat) (R:List Bool):List Bool:=R++List.replicate (w - R.length) false
theorem J8 {w:Nat} {R:List Bool} (h:R.length≤w):(yt w R).length=w:=by unfold yt;rw [List.length_append,List.length_replicate];omega
theorem sU {w:Nat} {R:List Bool} {t:Nat} (c:Bool) (h:R.length≤t) (ht:t≤w):qJ (yt w R) R.length t c=yt w (R++List.replicate (t - R.length) c):=by
 unfold qJ yt
 rw [List.take_left,List.length_append,List.length_replicate,List.append_assoc]
 congr 2
 rw [List.drop_append,List.drop_replicate,List.drop_of_length_le h,List.nil_append]
 congr 1;omega
def Uz (s:Bytes) (above:List Bool):Option (List Bool × Nat)→AV
 | none=>.tup [.nilS,.int .i64 0,.bool false]
 | some (l,n)=>.tup [.own 0,.int .i64 n,.bool (decide (dZ l above=s.take n))]
def MX:Option (List Bool × Nat)→List (Nat × Item)
 | none=>[]
 | some (l,n)=>[(0,.row 4 (.bools l))]
theorem jU (s:Bytes) (above:List Bool):Uz s above none=.tup [.nilS,.int .i64 0,.bool false]:=rfl
theorem jd:MX none=[]:=rfl
theorem BR (s:Bytes) (above l:List Bool) (n:Nat):Uz s above (some (l,n))=.tup [.own 0,.int .i64 n,.bool (decide (dZ l above=s.take n))]:=rfl
theorem zh (l:List Bool) (n:Nat):MX (some (l,n))=[(0,.row 4 (.bools l))]:=rfl
theorem BK {s:Bytes} (h:oM s=none):ER s=0∧EP s=0∧JV 8 s=8:=by unfold ER EP JV;rw [h];exact ⟨rfl,rfl,rfl⟩
theorem BL {s:Bytes} {m l:Nat} (h:oM s=some (m,l)):ER s=m∧EP s=l∧JV 8 s=0:=by unfold ER EP JV;rw [h];exact ⟨rfl,rfl,rfl⟩
set_option maxHeartbeats 16000000 in
theorem J5 (s:Bytes) (above:List Bool) (hs:s.length≤290000000000000) (hw:above.length≤4000) :
  aC Tryz.prog 106 [.str s,.ro (.bools above)] (Uz s above (kN true above s)) (MX (kN true above s)):=by
 refine aC.aJ Tryz.func106 rfl (by decide) (by simp [Tryz.f106]) [.cell 4 22,.cell 5 3,.tmp 6] rfl fun w0 T0 _=>?_
 simp only [Tryz.f106,aB]
 (repeat' with_reducible first|intro _|exact dn|refine rn ?_|refine ra ?_ ?_)
 refine aI.intro (fun x:Zw=>⟨140,[(12,.int .i64 ((x.p:Int) - 1)),(11,.fn 146 [.ptr 0 0,.ptr 2 0]),(10,.fn 145 [.ptr 0 0,.ptr 2 0]),(9,.bool x.k),(8,.fn 144 [.ptr 1 0]),(7,.int .i64 above.length),(6,.bool false),(5,.ptr 2 0),(4,.ptr 1 0),(2,.ptr 0 0),(1,.ro (.bools above))],[(0,.box 9 [.str s]),(1,.box 22 [.own 3]),(2,.box 3 [.int .i64 x.n]),(3,.row 4 (.bools (yt above.length x.R)))],4⟩) (Ro above s) (fun x=>above.length+1 - x.p) ⟨0,false,0,[]⟩ ?_ (Ro.first above s) fun x hI=>?_
 ·refine aO.ak rfl ?_ ?_<;>simp only [go_sem,Int.natCast_succ,yt]
  all_goals first|rfl|omega
 obtain ⟨p,k,n,R⟩:=x
 have hI0:=hI
 obtain ⟨hp,hn,hR,_,_⟩:=hI
 dsimp only at hp hn hR ⊢
 by_cases hlt:p≤above.length∧0<above.length
 rotate_left
 ·obtain ⟨hrd,hRl⟩:=hI0.done hlt
  have hrow:yt above.length R=R:=by unfold yt;rw [hRl,Nat.sub_self,List.replicate_zero,List.append_nil]
  have kl:=OE R above (by omega) hRl.symm
  rw [hrd,hrow]
  rw [BR,zh]
  generalize dZ R above=lb at *
  by_cases h1:(p:Int) - 1<(above.length:Int)
  ·have f1:((p:Int) - 1<(above.length:Int))=True:=eq_true h1
   have f2:(0<(above.length:Int))=False:=eq_false (by omega)
   (repeat' with_reducible first|intro _|refine rz ?_|refine ra ?_ ?_|omega|simp only [go_sem,f1,f2])
   refine bC.lex [9,10] [(1,[1]),(5,[1,2]),(7,[1,2]),(8,[1,2])] (by kernel_rfl) (by kernel_rfl) ?_
   (repeat' with_reducible first|intro _|exact dn|refine rn ?_|refine ra ?_ ?_)
   (refine QV.intro (.str lb) ?_ ?_;focus ((repeat' with_reducible first|intro _|exact dn|refine rn ?_|refine ra ?_ ?_);refine ah.k (kl) ?_;(repeat' with_reducible first|intro _|exact dn|refine rn ?_|refine ra ?_ ?_)))
   (repeat' with_reducible first|intro _|exact dn|refine rn ?_|refine ra ?_ ?_)
   refine bf.of [(0,3)] 1 ?_ rfl ?_<;>simp only [go_sem,Int.natCast_succ,Post,Nat.sub_zero]
  ·have f1:((p:Int) - 1<(above.length:Int))=False:=eq_false h1
   (repeat' with_reducible first|intro _|refine rz ?_|refine ra ?_ ?_|omega|simp only [go_sem,f1])
   refine bC.lex [9,10] [(1,[1]),(5,[1,2]),(7,[1,2]),(8,[1,2])] (by kernel_rfl) (by kernel_rfl) ?_
   (repeat' with_reducible first|intro _|exact dn|refine rn ?_|refine ra ?_ ?_)
   (refine QV.intro (.str lb) ?_ ?_;focus ((repeat' with_reducible first|intro _|exact dn|refine rn ?_|refine ra ?_ ?_);refine ah.k (kl) ?_;(repeat' with_reducible first|intro _|exact dn|refine rn ?_|refine ra ?_ ?_)))
   (repeat' with_reducible first|intro _|exact dn|refine rn ?_|refine ra ?_ ?_)
   refine bf.of [(0,3)] 1 ?_ rfl ?_<;>simp only [go_sem,Int.natCast_succ,Post,Nat.sub_zero]
 obtain ⟨hle,h0⟩:=hlt
 have f1:((p:Int) - 1<(above.length:Int))=True:=eq_true (by omega)
 have f2:(0<(above.length:Int))=True:=eq_true (by omega)
 have k3:=yO above p ((p:Int) - 1) (!k) rfl (by omega) (by omega)
 obtain ⟨b1,hB1⟩:∃ b1,gy above p (!k)=b1:=⟨_,rfl⟩
 have hb1:=vM (r:=above) (i:=p) hle (!k)
 rw [hB1] at k3 hb1
 have hrl:=J8 (w:=above.length) (R:=R) (by omega)
 have hmx:max ((p:Int) - 1) 0=((p - 1:Nat):Int):=by omega
 (repeat' with_reducible first|intro _|refine rz ?_|refine ra ?_ ?_|omega|simp only [go_sem,f1,f2])
 refine ah.k k3 ?_
 (repeat' with_reducible first|intro _|exact dn|refine rn ?_|refine ra ?_ ?_)
 rcases Lm (s.drop n) with ⟨c1,c2⟩|⟨c1,j,c3,c2,c4,c5⟩|⟨c1,c4,hc⟩
 ·have kt:=CB s n [48,48,48,49] (by omega) hn (by decide) c1
  obtain ⟨b2,hB2⟩:∃ b2,dQ above (b1+1)=b2:=⟨_,rfl⟩
  have k4:=lM above (b1+1) (b1:Int) (by omega) (by omega) hw
  rw [hB2] at k4
  have b2a:b1≤b2:=by
   by_cases h:b1<above.length
   ·have:=jl (r:=above) (i:=b1+1) (by omega);omega
   ·rw [iP (by omega)] at hB2;omega
  have b2b:b2≤above.length:=by rw [←hB2];exact gU _ _
  have hst:rdStep true above (s.drop n) p k=some ⟨b2+1,k,List.replicate (b2 - (p - 1)) k,4⟩:=by unfold rdStep;rw [if_pos c2,hB1,hB2]
  obtain ⟨g1,g2⟩:=hI0.step hle h0 hst
  have kf:=zH (yt above.length R) (p - 1) ((p:Int) - 1) b2 k hmx (by omega) (by omega) (by omega) (by omega)
  have hrf:=sU (w:=above.length) (R:=R) (t:=b2) k (by omega) b2b
  rw [hR] at hrf
  rw [hrf] at kf
  have f3:((b2:Int)=(p:Int) - 1)=False:=eq_false (by omega)
  refine ah.i [0,2] kt 2 ?_
  (repeat' with_reducible first|intro _|exact dn|refine rn ?_|refine ra ?_ ?_)
  refine ah.k k4 ?_
  (repeat' with_reducible first|intro _|refine rz ?_|refine ra ?_ ?_|omega|simp only [go_sem,f3])
  refine ah.i [1,3] kf 2 ?_
  (repeat' with_reducible first|intro _|exact dn|refine rn ?_|refine ra ?_ ?_)
  refine ⟨⟨b2+1,k,n+4,R++List.replicate (b2 - (p - 1)) k⟩,aO.ak rfl ?_ ?_,g1,by dsimp only;omega⟩<;>simp only [go_sem,Int.natCast_succ]
  all_goals first|rfl|omega|(refine ⟨?_,?_⟩<;>first|rfl|omega)
 ·have kt:=wM s n [48,48,48,49] (by omega) hn c1
  have ki:=Tc s n (by omega) hn j (by omega) c4 (fun _=>c5)
  rw [if_pos c3,if_pos c3] at ki
  unfold NM at ki
  refine ah.i [0,2] kt 2 ?_
  (repeat' with_reducible first|intro _|exact dn|refine rn ?_|refine ra ?_ ?_)
  refine ah.ro (.ro (.strs aQ)) (dG.gJ lI rfl (by simp [jB,jy,pX,jA,oK])) (by simp only [aT,aU,dO,bD,aH,List.drop_zero,lk,reduceIte,reduceCtorEq,Nat.reduceEqDiff,Option.some.injEq,Item.row.injEq,Item.box.injEq,AV.ro.injEq,exists_eq_left,exists_and_left,exists_eq_left',exists_eq_right,and_assoc,and_true,true_and,List.cons.injEq,exists_eq',exists_eq]) (by simp [fK,aU,bD,dO,aH,lk,aT]) rfl ?_
  (repeat' with_reducible first|intro _|exact dn|refine rn ?_|refine ra ?_ ?_)
  refine ah.i [0,2] ki 2 ?_
  have f3:(0≤(j:Int))=True:=eq_true (by omega)
  by_cases hok:p+3≤b1+j∧b1+j≤above.length+3
  ·obtain ⟨t,ht⟩:∃ t,t+3=b1+j:=⟨b1+j - 3,by omega⟩
   have hst:rdStep true above (s.drop n) p k=some ⟨t+1,!k,List.replicate (t - (p - 1)) k,(aQ.getD j []).length⟩:=by
    unfold rdStep
    rw [c2,if_neg (by omega),if_pos (by omega),hB1,if_pos (by omega),show b1+(j+1) - 4=t by omega,Nat.add_sub_cancel]
   obtain ⟨g1,g2⟩:=hI0.step hle h0 hst
   have kf:=zH (yt above.length R) (p - 1) ((p:Int) - 1) t k hmx (by omega) (by omega) (by omega) (by omega)
   have hrf:=sU (w:=above.length) (R:=R) (t:=t) k (by omega) (by omega)
   rw [hR] at hrf
   rw [hrf] at kf
   have hv:(b1:Int)+(j:Int) - 3=(t:Int):=by omega
   have f4:((t:Int)≤(p:Int) - 1)=False:=eq_false (by omega)
   have f5:((above.length:Int)<(t:Int))=False:=eq_false (by omega)
   (repeat' with_reducible first|intro _|refine rz ?_|refine ra ?_ ?_|omega|simp only [go_sem,f3,hv,f4,f5])
   refine ah.i [1,3] kf 2 ?_
   (repeat' with_reducible first|intro _|exact dn|refine rn ?_|refine ra ?_ ?_)
   refine ⟨⟨t+1,!k,n+(aQ.getD j []).length,R++List.replicate (t - (p - 1)) k⟩,aO.ak rfl ?_ ?_,g1,by dsimp only;omega⟩<;>simp only [go_sem,Int.natCast_succ]
   all_goals first|rfl|omega|(refine ⟨?_,?_⟩<;>first|rfl|omega)
  ·have hst:rdStep true above (s.drop n) p k=none:=by
    unfold rdStep
    rw [c2,if_neg (by omega),if_pos (by omega),hB1,if_neg (by omega)]
   rw [hI0.fail hle h0 hst,jU,jd]
   by_cases h4:(b1:Int)+(j:Int) - 3≤(p:Int) - 1
   ·have f4:((b1:Int)+(j:Int) - 3≤(p:Int) - 1)=True:=eq_true h4
    (repeat' with_reducible first|intro _|refine rz ?_|refine ra ?_ ?_|omega|simp only [go_sem,f3,f4])
    refine bf.auto 0 ?_ rfl ?_<;>simp only [go_sem,Int.natCast_succ,Post]
   ·have f4:((b1:Int)+(j:Int) - 3≤(p:Int) - 1)=False:=eq_false h4
    have f5:((above.length:Int)<(b1:Int)+(j:Int) - 3)=True:=eq_true (by omega)
    (repeat' with_reducible first|intro _|refine rz ?_|refine ra ?_ ?_|omega|simp only [go_sem,f3,f4,f5])
    refine bf.auto 0 ?_ rfl ?_<;>simp only [go_sem,Int.natCast_succ,Post]
 have kt:=wM s n [48,48,48,49] (by omega) hn c1
 have ki:=Tc s n (by omega) hn 7 (by omega) c4 (fun h=>absurd h (by decide))
 rw [if_neg (by decide),if_neg (by decide),Nat.add_zero] at ki
 unfold NM at ki
 refine ah.i [0,2] kt 2 ?_
 (repeat' with_reducible first|intro _|exact dn|refine rn ?_|refine ra ?_ ?_)
 refine ah.ro (.ro (.strs aQ)) (dG.gJ lI rfl (by simp [jB,jy,pX,jA,oK])) (by simp only [aT,aU,dO,bD,aH,List.drop_zero,lk,reduceIte,reduceCtorEq,Nat.reduceEqDiff,Option.some.injEq,Item.row.injEq,Item.box.injEq,AV.ro.injEq,exists_eq_left,exists_and_left,exists_eq_left',exists_eq_right,and_assoc,and_true,true_and,List.cons.injEq,exists_eq',exists_eq]) (by simp [fK,aU,bD,dO,aH,lk,aT]) rfl ?_
 (repeat' with_reducible first|intro _|exact dn|refine rn ?_|refine ra ?_ ?_)
 refine ah.i [0,2] ki 2 ?_
 (repeat' with_reducible first|intro _|exact dn|refine rn ?_|refine ra ?_ ?_)
 rcases hc with ⟨c5,c2⟩|⟨c5,c2⟩
 rotate_left
 ·have kt2:=wM s n [48,48,49] (by omega) hn c5
  have hst:rdStep true above (s.drop n) p k=none:=by
   unfold rdStep
   rw [c2,if_neg (by decide),if_neg (by decide),if_neg (by decide)]
  rw [hI0.fail hle h0 hst,jU,jd]
  refine ah.i [0,2] kt2 2 ?_
  (repeat' with_reducible first|intro _|exact dn|refine rn ?_|refine ra ?_ ?_)
  refine bf.auto 0 ?_ rfl ?_<;>simp only [go_sem,Int.natCast_succ,Post]
 have h3:=(Aq (s:=s.drop n) (by omega)).2.1 c2
 rw [List.length_drop] at h3
 have kt2:=CB s n [48,48,49] (by omega) hn (by decide) c5
 have e3:(s.drop n).drop 3=s.drop (n+3):=List.drop_drop
 have hst0:rdStep true above (s.drop n) p k=yR true above.length (s.drop n) p k:=by
  unfold rdStep
  rw [c2,if_neg (by decide),if_neg (by decide),if_pos rfl]
 have kn:=EL s (n+3) (by omega) (by omega)
 refine ah.i [0,2] kt2 2 ?_
 (repeat' with_reducible first|intro _|exact dn|refine rn ?_|refine ra ?_ ?_)
 cases hg1:oM (s.drop (n+3)) with
 | none=>
  obtain ⟨r1,r2,r3⟩:=BK hg1
  rw [r1,r2,r3] at kn
  have hst:rdStep true above (s.drop n) p k=none:=by rw [hst0];unfold yR;rw [e3,hg1]
  rw [hI0.fail hle h0 hst,jU,jd]
  refine ah.i [0,2] kn 2 ?_
  (repeat' with_reducible first|intro _|exact dn|refine rn ?_|refine ra ?_ ?_)
  refine bf.auto 0 ?_ rfl ?_<;>simp only [go_sem,Int.natCast_succ,Post]
 | some z1=>
 obtain ⟨m1,l1⟩:=z1
 obtain ⟨r1,r2,r3⟩:=BL hg1
 rw [r1,r2,r3,show ((n+3:Nat):Int)+(l1:Int)=((n+3+l1:Nat):Int) by omega] at kn
 obtain ⟨w1,w2,w3⟩:=nJ hg1
 have w4:=JW hg1
 rw [List.length_drop] at w1
 have kn2:=EL s (n+3+l1) (by omega) (by omega)
 have e4:(s.drop n).drop (3+l1)=s.drop (n+3+l1):=by rw [List.drop_drop,Nat.add_assoc]
 have hv1:((p - 1:Nat):Int)+((m1:Int) - 1)=((p - 1+(m1 - 1):Nat):Int):=by omega
 refine ah.i [0,2] kn 2 ?_
 (repeat' with_reducible first|intro _|exact dn|refine rn ?_|refine ra ?_ ?_)
 cases hg2:oM (s.drop (n+3+l1)) with
 | none=>
  obtain ⟨r1,r2,r3⟩:=BK hg2
  rw [r1,r2,r3] at kn2
  have hst:rdStep true above (s.drop n) p k=none:=by rw [hst0];unfold yR;rw [e3,hg1];dsimp only;rw [e4,hg2]
  rw [hI0.fail hle h0 hst,jU,jd]
  refine ah.i [0,2] kn2 2 ?_
  (repeat' with_reducible first|intro _|refine rz ?_|refine ra ?_ ?_|omega|simp only [go_sem,hmx])
  refine bf.auto 0 ?_ rfl ?_<;>simp only [go_sem,Int.natCast_succ,Post]
 | some z2=>
 obtain ⟨m2,l2⟩:=z2
 obtain ⟨r1,r2,r3⟩:=BL hg2
 rw [r1,r2,r3,show ((n+3+l1:Nat):Int)+(l2:Int)=((n+3+l1+l2:Nat):Int) by omega] at kn2
 obtain ⟨w5,w6,w7⟩:=nJ hg2
 have w8:=JW hg2
 rw [List.length_drop] at w5
 obtain ⟨A1,hA1⟩:∃ A1,p - 1+(m1 - 1)=A1:=⟨_,rfl⟩
 obtain ⟨A2,hA2⟩:∃ A2,A1+(m2 - 1)=A2:=⟨_,rfl⟩
 rw [hA1] at hv1
 have hv2:(A1:Int)+((m2:Int) - 1)=(A2:Int):=by omega
 have hstf:rdStep true above (s.drop n) p k=if (true=true→p≤A1)∧A2≤above.length∧p≤A2 then some ⟨A2+1,k,List.replicate (m1 - 1) k++List.replicate (m2 - 1) (!k),3+l1+l2⟩ else none:=by
  rw [hst0];unfold yR;rw [e3,hg1];dsimp only;rw [e4,hg2];dsimp only;rw [hA1,hA2]
 refine ah.i [0,2] kn2 2 ?_
 by_cases hok:p≤A1∧A2≤above.length∧p≤A2
 ·have hst:=hstf
  rw [if_pos ⟨fun _=>hok.1,hok.2⟩] at hst
  obtain ⟨g1,g2⟩:=hI0.step hle h0 hst
  have kf:=zH (yt above.length R) (p - 1) ((p:Int) - 1) A1 k hmx (by omega) (by omega) (by omega) (by omega)
  have hrf:=sU (w:=above.length) (R:=R) (t:=A1) k (by omega) (by omega)
  rw [hR,show A1 - (p - 1)=m1 - 1 by omega] at hrf
  rw [hrf] at kf
  have hRl:(R++List.replicate (m1 - 1) k).length=A1:=by rw [List.length_append,List.length_replicate];omega
  have hrl2:=J8 (w:=above.length) (R:=R++List.replicate (m1 - 1) k) (by omega)
  have kf2:=zH (yt above.length (R++List.replicate (m1 - 1) k)) A1 (A1:Int) A2 (!k) (by omega) (by omega) (by omega) (by omega) (by omega)
  have hrf2:=sU (w:=above.length) (R:=R++List.replicate (m1 - 1) k) (t:=A2) (!k) (by omega) (by omega)
  rw [hRl,show A2 - A1=m2 - 1 by omega,List.append_assoc] at hrf2
  rw [hrf2] at kf2
  have f4:((p:Int) - 1<(A1:Int))=True:=eq_true (by omega)
  have f5:((A2:Int)≤(above.length:Int))=True:=eq_true (by omega)
  have f6:((p:Int) - 1<(A2:Int))=True:=eq_true (by omega)
  (repeat' with_reducible first|intro _|refine rz ?_|refine ra ?_ ?_|omega|simp only [go_sem,hmx,hv1,hv2,f4,f5,f6])
  refine ah.i [1,3] kf 2 ?_
  (repeat' with_reducible first|intro _|exact dn|refine rn ?_|refine ra ?_ ?_)
  refine ah.i [1,3] kf2 2 ?_
  (repeat' with_reducible first|intro _|exact dn|refine rn ?_|refine ra ?_ ?_)
  refine ⟨⟨A2+1,k,n+(3+l1+l2),R++(List.replicate (m1 - 1) k++List.replicate (m2 - 1) (!k))⟩,aO.ak rfl ?_ ?_,g1,by dsimp only;omega⟩<;>simp only [go_sem,Int.natCast_succ]
  all_goals first|rfl|omega|(refine ⟨?_,?_⟩<;>first|rfl|omega)
 ·have hst:=hstf
  rw [if_neg (fun h=>hok ⟨h.1 rfl,h.2⟩)] at hst
  rw [hI0.fail hle h0 hst,jU,jd]
  by_cases h4:(p:Int) - 1<(A1:Int)
  ·have f4:((p:Int) - 1<(A1:Int))=True:=eq_true h4
   by_cases h5:(A2:Int)≤(above.length:Int)
   ·have f5:((A2:Int)≤(above.length:Int))=True:=eq_true h5
    exact absurd ⟨by omega,by omega,by omega⟩ hok
   ·have f5:((A2:Int)≤(above.length:Int))=False:=eq_false h5
    (repeat' with_reducible first|intro _|refine rz ?_|refine ra ?_ ?_|omega|simp only [go_sem,hmx,hv1,hv2,f4,f5])
    refine bf.auto 0 ?_ rfl ?_<;>simp only [go_sem,Int.natCast_succ,Post]
  ·have f4:((p:Int) - 1<(A1:Int))=False:=eq_false h4
   (repeat' with_reducible first|intro _|refine rz ?_|refine ra ?_ ?_|omega|simp only [go_sem,hmx,hv1,hv2,f4])
   refine bf.auto 0 ?_ rfl ?_<;>simp only [go_sem,Int.natCast_succ,Post]
end Go.Fv.H
/- shrink.pageOf: the walk, kind by kind. -/
namespace Go.Fv.H
open Go Go.Proofs
set_option maxHeartbeats 4000000 in
theorem MJ (w h:Nat) (hw0:0<w) (hw:w≤4000) (hh:h≤4000) (hwh:w*h≤1048576) (d:Bytes) (hd:d.length≤100000000) :
  aC Tryz.prog 68 [.str d,.int .i64 4,.int .i64 w,.int .i64 h] (.tup [.agg [.int .i64 w,.int .i64 h,.own 0],.bool true]) [(0,.row 4 (.bools (jf w h d (w*h) (w*h)).P))]:=by
 have k:=zo w h hw0 hw hh hwh d (by omega)
 refine aC.aJ Tryz.func68 rfl (by decide) (by simp [Tryz.f68]) [.cell 8 24,.tmp 9] rfl fun w0 T0 _=>?_
 simp only [Tryz.f68,aB]
 (repeat' with_reducible first|intro _|exact dn|refine rn ?_|refine ra ?_ ?_)
 refine ah.o k 1 ?_
 (repeat' with_reducible first|intro _|exact dn|refine rn ?_|refine ra ?_ ?_)
 refine bf.auto 1 ?_ rfl ?_<;>simp only [go_sem,Int.natCast_succ,Post]
theorem G7 (d:Bytes):(qx d).length=8*d.length:=by unfold qx;simp
theorem Qu (s:Bytes):(rC s).length=s.length:=by unfold rC;simp
theorem MP {s:Bytes} {i:Nat} (h:i<s.length):rC (s.take (i+1))=rC (s.take i)++[decide (((s.getD i 0).toNat:Int)=49)]:=by
 unfold rC
 rw [List.take_succ_eq_append_getElem h,List.map_append,List.map_cons,List.map_nil,getD_lt h]
 congr 2
 have:(s[i]=49)↔((s[i].toNat:Int)=49):=by
  constructor
  ·intro e;rw [e];rfl
  ·intro e
   have h49:s[i].toNat=49:=by omega
   exact UInt8.toNat_inj.1 h49
 exact decide_eq_decide.2 this
set_option maxHeartbeats 4000000 in
theorem MH (w h:Nat) (hw0:0<w) (hw:w≤4000) (hh:h≤4000) (hwh:w*h≤1048576) (d:Bytes) (hd:d.length≤100000000) (hs:(qx d).length<w*h) :
  aC Tryz.prog 68 [.str d,.int .i64 1,.int .i64 w,.int .i64 h] (.tup [.agg [.int .i64 w,.int .i64 h,.nilS],.bool false]) []:=by
 have e1:(w:Int)*(h:Int)=((w*h:Nat):Int):=(Int.natCast_mul w h).symm
 have k:=nN d (by omega)
 have f1:(((qx d).length:Int)<((w*h:Nat):Int))=True:=eq_true (by omega)
 generalize qx d=s at *
 obtain ⟨n,hn⟩:∃ n,w*h=n:=⟨_,rfl⟩
 rw [hn] at e1 f1 hs
 refine aC.aJ Tryz.func68 rfl (by decide) (by simp [Tryz.f68]) [.cell 8 24,.tmp 9] rfl fun w0 T0 _=>?_
 simp only [Tryz.f68,aB]
 (repeat' with_reducible first|intro _|exact dn|refine rn ?_|refine ra ?_ ?_)
 refine ah.k k ?_
 (repeat' with_reducible first|intro _|refine rz ?_|refine ra ?_ ?_|omega|simp only [go_sem,e1,f1])
 refine bf.auto 0 ?_ rfl ?_<;>simp only [go_sem,Int.natCast_succ,Post]
set_option maxHeartbeats 4000000 in
theorem MI (w h:Nat) (hw0:0<w) (hw:w≤4000) (hh:h≤4000) (hwh:w*h≤1048576) (d:Bytes) (hd:d.length≤100000000) (hs:w*h≤(qx d).length) :
  aC Tryz.prog 68 [.str d,.int .i64 1,.int .i64 w,.int .i64 h] (.tup [.agg [.int .i64 w,.int .i64 h,.own 0],.bool true]) [(0,.row 4 (.bools (rC ((qx d).take (w*h)))))]:=by
 have e1:(w:Int)*(h:Int)=((w*h:Nat):Int):=(Int.natCast_mul w h).symm
 have k:=nN d (by omega)
 have f1:(((qx d).length:Int)<((w*h:Nat):Int))=False:=eq_false (by omega)
 have hl:=G7 d
 generalize qx d=s at *
 obtain ⟨n,hn⟩:∃ n,w*h=n:=⟨_,rfl⟩
 rw [hn] at e1 f1 hs hwh ⊢
 refine aC.aJ Tryz.func68 rfl (by decide) (by simp [Tryz.f68]) [.cell 8 24,.tmp 9] rfl fun w0 T0 _=>?_
 simp only [Tryz.f68,aB]
 (repeat' with_reducible first|intro _|exact dn|refine rn ?_|refine ra ?_ ?_)
 refine ah.k k ?_
 (repeat' with_reducible first|intro _|refine rz ?_|refine ra ?_ ?_|omega|simp only [go_sem,e1,f1])
 refine aI.intro (fun i:Nat=>⟨135,[(71,.int .i64 i),(70,.int .i64 n),(11,.str s),(10,.ptr 1 0),(8,.ptr 0 0)],[(0,.box 24 [.int .i64 0,.int .i64 0,.nilS]),(1,.box 24 [.int .i64 w,.int .i64 h,.own 2]),(2,.row 4 (.bools (rC (s.take i))))],3⟩) (fun i=>i≤n) (fun i=>n - i) 0 ?_ (Nat.zero_le _) fun i hi=>?_
 ·refine aO.trans (aO.jS (P:=Tryz.prog) 1 2 4 e4 rfl rfl) (aO.ak rfl ?_ ?_)<;>simp only [go_sem,Int.natCast_succ,put,rC,List.map_nil]
 by_cases hlt:i<n
 ·have f2:((i:Int)<(n:Int))=True:=eq_true (by omega)
  have hsu:=MP (s:=s) (i:=i) (by omega)
  have hpl:=Qu (s.take i)
  rw [List.length_take] at hpl
  (repeat' with_reducible first|intro _|refine rz ?_|refine ra ?_ ?_|omega|simp only [go_sem,f2])
  refine bC.lex [6,7,9] [(0,[1]),(1,[1])] (by kernel_rfl) (by kernel_rfl) ?_
  (repeat' with_reducible first|intro _|refine rz ?_|refine ra ?_ ?_|omega|simp only [go_sem,hpl])
  refine ⟨i+1,aO.ak rfl ?_ ?_,by omega,by omega⟩<;>simp only [go_sem,Int.natCast_succ,hsu]
  all_goals first|rfl|trace_state
 ·have f2:((i:Int)<(n:Int))=False:=eq_false (by omega)
  have e:i=n:=by omega
  subst e
  (repeat' with_reducible first|intro _|refine rz ?_|refine ra ?_ ?_|omega|simp only [go_sem,f2])
  refine bf.of [(0,2)] 1 ?_ (by rfl) ?_<;>simp only [go_sem,Int.natCast_succ,Post]
end Go.Fv.H
/- shrink.pageOf at runs: the walk. -/
namespace Go.Fv.H
open Go Go.Proofs
structure Zy where
 (y:Nat) (s:Bytes) (acc:List Bool)
structure Zx where
 (n:Nat) (ink:Bool) (s:Bytes) (acc:List Bool)
set_option maxHeartbeats 16000000 in
theorem BH (w h:Nat) (hw0:0<w) (hw:w≤4000) (hh:h≤4000) (hwh:w*h≤1048576) (d:Bytes) (hd:d.length≤100000000) :
  aC Tryz.prog 68 [.str d,.int .i64 2,.int .i64 w,.int .i64 h] (.tup [.agg [.int .i64 w,.int .i64 h,.own 0],.bool (eG w h (qx d)).2]) [(0,.row 4 (.bools (eG w h (qx d)).1))]:=by
 have k:=nN d (by omega)
 have hl:=G7 d
 generalize qx d=s at *
 obtain ⟨R,hR⟩:∃ R,eG w h s=R:=⟨_,rfl⟩
 rw [hR]
 refine aC.aJ Tryz.func68 rfl (by decide) (by simp [Tryz.f68]) [.cell 8 24,.tmp 9] rfl fun w0 T0 _=>?_
 simp only [Tryz.f68,aB]
 (repeat' with_reducible first|intro _|exact dn|refine rn ?_|refine ra ?_ ?_)
 refine ah.k k ?_
 (repeat' with_reducible first|intro _|exact dn|refine rn ?_|refine ra ?_ ?_)
 refine aI.intro (fun x:Zy=>⟨135,[(87,.int .i64 x.y),(86,.int .i64 h),(11,.str x.s),(10,.ptr 1 0),(8,.ptr 0 0),(2,.int .i64 w),(3,.int .i64 h)],[(0,.box 24 [.int .i64 0,.int .i64 0,.nilS]),(1,.box 24 [.int .i64 w,.int .i64 h,.own 2]),(2,.row 4 (.bools x.acc))],3⟩) (fun x=>x.y≤h∧x.s.length≤s.length∧x.acc.length=x.y*w∧R=(x.acc++(eG w (h - x.y) x.s).1,(eG w (h - x.y) x.s).2)) (fun x=>h - x.y) ⟨0,s,[]⟩ ?_ ⟨Nat.zero_le _,Nat.le_refl _,(Nat.zero_mul w).symm,hR.symm⟩ fun x hx=>?_
 ·refine aO.trans (aO.jS (P:=Tryz.prog) 1 2 4 e4 rfl rfl) (aO.ak rfl ?_ ?_)<;>simp only [go_sem,Int.natCast_succ,put]
 obtain ⟨y,t,acc⟩:=x
 obtain ⟨hy,ht,hacc,hRx⟩:=hx
 dsimp only at hy ht hacc hRx ⊢
 by_cases hlt:y<h
 rotate_left
 ·have f1:((y:Int)<(h:Int))=False:=eq_false (by omega)
  have e:y=h:=by omega
  subst e
  rw [Nat.sub_self] at hRx
  have hR2:R=(acc,true):=by rw [hRx];show (acc++[],true)=_;rw [List.append_nil]
  rw [hR2]
  (repeat' with_reducible first|intro _|refine rz ?_|refine ra ?_ ?_|omega|simp only [go_sem,f1])
  refine bf.of [(0,2)] 1 ?_ (by rfl) ?_<;>simp only [go_sem,Int.natCast_succ,Post]
 have f1:((y:Int)<(h:Int))=True:=eq_true (by omega)
 have hk:h - y=(h - (y+1))+1:=by omega
 rw [hk] at hRx
 have hRq:R=(acc++(pY (eG w (h - (y+1))) (fB w 0 false t)).1,(pY (eG w (h - (y+1))) (fB w 0 false t)).2):=hRx
 clear hRx
 obtain ⟨F,hF⟩:∃ F,eG w (h - (y+1))=F:=⟨_,rfl⟩
 rw [hF] at hRq
 have hyw:y*w+w≤1048576:=by
  have h1:y*w+w≤h*w:=by rw [←Nat.succ_mul];exact Nat.mul_le_mul_right _ hlt
  have h2:h*w=w*h:=Nat.mul_comm _ _
  omega
 generalize hyv:y*w=yw at *
 (repeat' with_reducible first|intro _|refine rz ?_|refine ra ?_ ?_|omega|simp only [go_sem,f1])
 refine aI.intro (fun x:Zx=>⟨135,[(13,.int .i64 x.n),(14,.bool x.ink),(87,.int .i64 y),(86,.int .i64 h),(11,.str x.s),(10,.ptr 1 0),(8,.ptr 0 0),(2,.int .i64 w),(3,.int .i64 h)],[(0,.box 24 [.int .i64 0,.int .i64 0,.nilS]),(1,.box 24 [.int .i64 w,.int .i64 h,.own 2]),(2,.row 4 (.bools x.acc))],3⟩) (fun x=>x.n≤w∧x.s.length≤s.length∧x.acc.length=yw+x.n∧R=(x.acc++(pY F (fB w x.n x.ink x.s)).1,(pY F (fB w x.n x.ink x.s)).2)) (fun x=>x.s.length) ⟨0,false,t,acc⟩ ?_ ⟨Nat.zero_le _,ht,by dsimp only;omega,hRq⟩ fun x hx=>?_
 ·refine aO.ak rfl ?_ ?_<;>simp only [go_sem,Int.natCast_succ]
  all_goals first|rfl|exact ⟨rfl,rfl⟩|trace_state
 clear hRq
 obtain ⟨n,ink,u,ac⟩:=x
 obtain ⟨hn,hu,hac,hRu⟩:=hx
 dsimp only at hn hu hac hRu ⊢
 by_cases hnw:n<w
 rotate_left
 ·have f2:((n:Int)<(w:Int))=False:=eq_false (by omega)
  have e:n=w:=by omega
  rw [yh hnw] at hRu
  have hR3:R=(ac++(F u).1,(F u).2):=hRu
  (repeat' with_reducible first|intro _|refine rz ?_|refine ra ?_ ?_|omega|simp only [go_sem,f2])
  refine ⟨⟨y+1,u,ac⟩,aO.ak rfl ?_ ?_,⟨by dsimp only;omega,hu,by dsimp only;rw [Nat.succ_mul];omega,by dsimp only;rw [hF];exact hR3⟩,by dsimp only;omega⟩<;>simp only [go_sem,Int.natCast_succ]
  all_goals first|rfl|omega|trace_state
 have f2:((n:Int)<(w:Int))=True:=eq_true (by omega)
 have hg:oM (u.take 64)=oM u:=JX u 64 (Nat.le_refl _)
 have g1:ER (u.take 64)=ER u:=by unfold ER;rw [hg]
 have g2:EP (u.take 64)=EP u:=by unfold EP;rw [hg]
 have g3:JV 8 (u.take 64)=JV 8 u:=by unfold JV;rw [hg]
 have kg:=J4 (u.take 64) (by rw [List.length_take];omega)
 rw [g1,g2,g3] at kg
 have hm:min (u.length:Int) 64=((min u.length 64:Nat):Int):=by omega
 have htk:u.take (min u.length 64)=u.take 64:=by rw [List.take_eq_take_iff];omega
 have hml:min u.length 64≤u.length:=by omega
 generalize min u.length 64=mm at *
 cases hrd:oM u with
 | none=>
  obtain ⟨r1,r2,r3⟩:=BK hrd
  rw [r1,r2,r3] at kg
  rw [BZ hnw ink hrd] at hRu
  have hR3:R=(ac,false):=by rw [hRu];show (ac++[],false)=_;rw [List.append_nil]
  rw [hR3]
  (repeat' with_reducible first|intro _|refine rz ?_|refine ra ?_ ?_|omega|simp only [go_sem,f2,hm,Nat.sub_zero,htk])
  refine ah.k kg ?_
  (repeat' with_reducible first|intro _|exact dn|refine rn ?_|refine ra ?_ ?_)
  refine bf.of [(0,2)] 1 ?_ (by rfl) ?_<;>simp only [go_sem,Int.natCast_succ,Post]
 | some z=>
  obtain ⟨m,l⟩:=z
  obtain ⟨r1,r2,r3⟩:=BL hrd
  rw [r1,r2,r3] at kg
  obtain ⟨q1,q2⟩:=Gz hrd
  obtain ⟨q3,q4,q5⟩:=nJ hrd
  have hmI:(m:Int) - 1=((m - 1:Nat):Int):=by omega
  by_cases hov:w - n<m - 1
  ·rw [Cb hnw ink hrd hov] at hRu
   have hR3:R=(ac,false):=by rw [hRu];show (ac++[],false)=_;rw [List.append_nil]
   rw [hR3]
   have f3:((w:Int) - (n:Int)<((m - 1:Nat):Int))=True:=eq_true (by omega)
   (repeat' with_reducible first|intro _|refine rz ?_|refine ra ?_ ?_|omega|simp only [go_sem,f2,hm,Nat.sub_zero,htk])
   refine ah.k kg ?_
   (repeat' with_reducible first|intro _|refine rz ?_|refine ra ?_ ?_|omega|simp only [go_sem,hmI,f3])
   refine bf.of [(0,2)] 1 ?_ (by rfl) ?_<;>simp only [go_sem,Int.natCast_succ,Post]
  rw [uM hnw ink hrd hov] at hRu
  have hR3:R=(ac++List.replicate (m - 1) ink++(pY F (fB w (n+(m - 1)) (!ink) (u.drop l))).1,(pY F (fB w (n+(m - 1)) (!ink) (u.drop l))).2):=by
   rw [hRu]
   generalize fB w (n+(m - 1)) (!ink) (u.drop l)=q
   obtain ⟨q1,q2⟩:=q
   cases q2 with
   | none=>show (ac++(List.replicate (m - 1) ink++q1),false)=(ac++List.replicate (m - 1) ink++q1,false);rw [List.append_assoc]
   | some v=>show (ac++(List.replicate (m - 1) ink++q1++(F v).1),(F v).2)=(ac++List.replicate (m - 1) ink++(q1++(F v).1),(F v).2);rw [List.append_assoc,List.append_assoc]
  have f3:((w:Int) - (n:Int)<((m - 1:Nat):Int))=False:=eq_false (by omega)
  have htl:(u.drop l).take (u.length - l)=u.drop l:=List.take_of_length_le (by rw [List.length_drop];exact Nat.le_refl _)
  have hdl:(u.drop l).length=u.length - l:=List.length_drop
  obtain ⟨u2,hu2⟩:∃ u2,u.drop l=u2:=⟨_,rfl⟩
  rw [hu2] at hR3 hdl
  rw [hu2] at htl
  have htl2:(u.drop l).take (u.length - l)=u2:=by rw [hu2];exact htl
  (repeat' with_reducible first|intro _|refine rz ?_|refine ra ?_ ?_|omega|simp only [go_sem,f2,hm,Nat.sub_zero,htk])
  refine ah.k kg ?_
  (repeat' with_reducible first|intro _|refine rz ?_|refine ra ?_ ?_|omega|simp only [go_sem,hmI,f3,htl2])
  refine aI.intro (fun j:Nat=>⟨135,[(118,.int .i64 j),(117,.int .i64 (m - 1:Nat)),(15,.int .i64 m),(13,.int .i64 n),(14,.bool ink),(87,.int .i64 y),(86,.int .i64 h),(11,.str u2),(10,.ptr 1 0),(8,.ptr 0 0),(2,.int .i64 w),(3,.int .i64 h)],[(0,.box 24 [.int .i64 0,.int .i64 0,.nilS]),(1,.box 24 [.int .i64 w,.int .i64 h,.own 2]),(2,.row 4 (.bools (ac++List.replicate j ink)))],3⟩) (fun j=>j≤m - 1) (fun j=>m - 1 - j) 0 ?_ (Nat.zero_le _) fun j hj=>?_
  ·refine aO.ak rfl ?_ ?_<;>simp only [go_sem,Int.natCast_succ]
   all_goals first|rfl|exact ⟨rfl,rfl⟩|trace_state
  by_cases hjl:j<m - 1
  ·have f4:((j:Int)<((m - 1:Nat):Int))=True:=eq_true (by omega)
   have hrs:ac++List.replicate j ink++[ink]=ac++List.replicate (j+1) ink:=by rw [List.append_assoc,List.replicate_succ']
   have hrl:(ac++List.replicate j ink).length=ac.length+j:=by rw [List.length_append,List.length_replicate]
   (repeat' with_reducible first|intro _|refine rz ?_|refine ra ?_ ?_|omega|simp only [go_sem,f4,hrl])
   refine ⟨j+1,aO.ak rfl ?_ ?_,by omega,by omega⟩<;>simp only [go_sem,Int.natCast_succ,hrs]
   all_goals first|rfl|trace_state
  ·have f4:((j:Int)<((m - 1:Nat):Int))=False:=eq_false (by omega)
   have e:j=m - 1:=by omega
   subst e
   have hnn:(n:Int)+((m - 1:Nat):Int)=((n+(m - 1):Nat):Int):=by omega
   (repeat' with_reducible first|intro _|refine rz ?_|refine ra ?_ ?_|omega|simp only [go_sem,f4,hmI,hnn])
   refine ⟨⟨n+(m - 1),!ink,u2,ac++List.replicate (m - 1) ink⟩,aO.ak rfl ?_ ?_,⟨by dsimp only;omega,by dsimp only;omega,by dsimp only;rw [List.length_append,List.length_replicate];omega,hR3⟩,by dsimp only;omega⟩<;>simp only [go_sem,Int.natCast_succ]
   all_goals first|rfl|omega|exact ⟨rfl,rfl⟩|trace_state
end Go.Fv.H
/- shrink.pageOf at lines: the walk. -/
namespace Go.Fv.H
open Go Go.Proofs
structure Zv where
 (y:Nat) (ab:List Bool) (s:Bytes) (acc:List Bool)
theorem yY {k:Nat} {ab:List Bool} {s:Bytes} (h:gB true ab s=none):dJ (k+1) ab s=([],false):=by
 show (match gB true ab s with|none=>_|some (r,n)=>_)=_
 rw [h]
theorem Jt {k:Nat} {ab r:List Bool} {s:Bytes} {n:Nat} (h:gB true ab s=some (r,n)):dJ (k+1) ab s=(r++(dJ k r (s.drop n)).1,(dJ k r (s.drop n)).2):=by
 show (match gB true ab s with|none=>_|some (r,n)=>_)=_
 rw [h]
theorem MR {ab:List Bool} {s:Bytes}:gB true ab s=match kN true ab s with|none=>none|some (l,n)=>if dZ l ab=s.take n then some (l,n) else none:=rfl
set_option maxHeartbeats 16000000 in
theorem BI (w h:Nat) (hw0:0<w) (hw:w≤4000) (hh:h≤4000) (hwh:w*h≤1048576) (d:Bytes) (hd:d.length≤100000000) :
  aC Tryz.prog 68 [.str d,.int .i64 3,.int .i64 w,.int .i64 h] (.tup [.agg [.int .i64 w,.int .i64 h,.own 0],.bool (dJ h (List.replicate w false) (qx d)).2]) [(0,.row 4 (.bools (dJ h (List.replicate w false) (qx d)).1))]:=by
 have k:=nN d (by omega)
 have hl:=G7 d
 generalize qx d=s at *
 obtain ⟨R,hR⟩:∃ R,dJ h (List.replicate w false) s=R:=⟨_,rfl⟩
 rw [hR]
 refine aC.aJ Tryz.func68 rfl (by decide) (by simp [Tryz.f68]) [.cell 8 24,.tmp 9] rfl fun w0 T0 _=>?_
 simp only [Tryz.f68,aB]
 (repeat' with_reducible first|intro _|exact dn|refine rn ?_|refine ra ?_ ?_)
 refine ah.k k ?_
 (repeat' with_reducible first|intro _|exact dn|refine rn ?_|refine ra ?_ ?_)
 refine aI.intro (fun x:Zv=>⟨135,[(37,.int .i64 x.y),(36,.int .i64 h),(18,.own 2),(11,.str x.s),(10,.ptr 1 0),(8,.ptr 0 0),(2,.int .i64 w),(3,.int .i64 h)],[(0,.box 24 [.int .i64 0,.int .i64 0,.nilS]),(1,.box 24 [.int .i64 w,.int .i64 h,.own 3]),(2,.row 4 (.bools x.ab)),(3,.row 4 (.bools x.acc))],4⟩) (fun x=>x.y≤h∧x.s.length≤s.length∧x.ab.length=w∧x.acc.length=x.y*w∧R=(x.acc++(dJ (h - x.y) x.ab x.s).1,(dJ (h - x.y) x.ab x.s).2)) (fun x=>h - x.y) ⟨0,List.replicate w false,s,[]⟩ ?_ ⟨Nat.zero_le _,Nat.le_refl _,List.length_replicate,(Nat.zero_mul w).symm,hR.symm⟩ fun x hx=>?_
 ·refine aO.trans (aO.jS (P:=Tryz.prog) 1 2 4 e4 rfl rfl) (aO.ak rfl ?_ ?_)<;>simp only [go_sem,Int.natCast_succ,put]
  all_goals first|rfl|exact ⟨rfl,rfl⟩|trace_state
 obtain ⟨y,ab,t,acc⟩:=x
 obtain ⟨hy,ht,hab,hacc,hRx⟩:=hx
 dsimp only at hy ht hab hacc hRx ⊢
 by_cases hlt:y<h
 rotate_left
 ·have f1:((y:Int)<(h:Int))=False:=eq_false (by omega)
  have e:y=h:=by omega
  subst e
  rw [Nat.sub_self] at hRx
  have hR2:R=(acc,true):=by rw [hRx];show (acc++[],true)=_;rw [List.append_nil]
  rw [hR2]
  (repeat' with_reducible first|intro _|refine rz ?_|refine ra ?_ ?_|omega|simp only [go_sem,f1])
  refine bf.of [(0,3)] 1 ?_ (by rfl) ?_<;>simp only [go_sem,Int.natCast_succ,Post]
 have f1:((y:Int)<(h:Int))=True:=eq_true (by omega)
 have hk:h - y=(h - (y+1))+1:=by omega
 rw [hk] at hRx
 have hyw:y*w+w≤1048576:=by
  have h1:y*w+w≤h*w:=by rw [←Nat.succ_mul];exact Nat.mul_le_mul_right _ hlt
  have h2:h*w=w*h:=Nat.mul_comm _ _
  omega
 have hyw1:(y+1)*w=y*w+w:=Nat.succ_mul y w
 generalize hyv:y*w=yw at *
 have kr:=J5 t ab (by omega) (by omega)
 have hrl:=@MR ab t
 cases hrd:kN true ab t with
 | none=>
  rw [hrd] at hrl kr
  rw [jU,jd] at kr
  rw [yY hrl] at hRx
  have hR3:R=(acc,false):=by rw [hRx];show (acc++[],false)=_;rw [List.append_nil]
  rw [hR3]
  (repeat' with_reducible first|intro _|refine rz ?_|refine ra ?_ ?_|omega|simp only [go_sem,f1])
  refine ah.k kr ?_
  (repeat' with_reducible first|intro _|exact dn|refine rn ?_|refine ra ?_ ?_)
  refine bf.of [(0,3)] 1 ?_ (by rfl) ?_<;>simp only [go_sem,Int.natCast_succ,Post]
 | some z=>
  obtain ⟨r,n⟩:=z
  rw [hrd] at hrl kr
  rw [BR,zh] at kr
  obtain ⟨hr1,hr2⟩:=EO hrd
  by_cases hcode:dZ r ab=t.take n
  ·have hrl2:gB true ab t=some (r,n):=by rw [hrl];exact if_pos hcode
   rw [decide_eq_true hcode] at kr
   rw [Jt hrl2] at hRx
   have htl:(t.drop n).take (t.length - n)=t.drop n:=List.take_of_length_le (by rw [List.length_drop];exact Nat.le_refl _)
   have hdl:(t.drop n).length=t.length - n:=List.length_drop
   have hR3:R=(acc++r++(dJ (h - (y+1)) r (t.drop n)).1,(dJ (h - (y+1)) r (t.drop n)).2):=by rw [hRx,List.append_assoc]
   have hrw:r.length=w:=by omega
   (repeat' with_reducible first|intro _|refine rz ?_|refine ra ?_ ?_|omega|simp only [go_sem,f1])
   refine ah.o kr 1 ?_
   (repeat' with_reducible first|intro _|refine rz ?_|refine ra ?_ ?_|omega|simp only [go_sem,htl])
   refine ⟨⟨y+1,r,t.drop n,acc++r⟩,aO.ak rfl ?_ ?_,⟨by dsimp only;omega,by dsimp only;omega,hrw,by dsimp only;rw [List.length_append];omega,hR3⟩,by dsimp only;omega⟩<;>simp only [go_sem,Int.natCast_succ]
   all_goals first|rfl|omega|exact ⟨rfl,rfl⟩|trace_state
  ·have hrl2:gB true ab t=none:=by rw [hrl];exact if_neg hcode
   rw [decide_eq_false hcode] at kr
   rw [yY hrl2] at hRx
   have hR3:R=(acc,false):=by rw [hRx];show (acc++[],false)=_;rw [List.append_nil]
   rw [hR3]
   (repeat' with_reducible first|intro _|refine rz ?_|refine ra ?_ ?_|omega|simp only [go_sem,f1])
   refine ah.o kr 1 ?_
   (repeat' with_reducible first|intro _|exact dn|refine rn ?_|refine ra ?_ ?_)
   refine bf.of [(0,3)] 1 ?_ (by rfl) ?_<;>simp only [go_sem,Int.natCast_succ,Post]
end Go.Fv.H
/- A result that is owned becomes data; a nil slice in a result box becomes an owned row without elements. -/
namespace Go.Fv.H
open Go Go.Proofs
theorem dG.GZ {P:Program} {f:Nat} {args:List AV} {out out':AV} {rows:List (Nat × Item)} (h:dG P f args out rows) (ho:fK rows out out'):dG P f args out' []:=
 ⟨h.1,fun w T vals hgl hv=>(h.2 w T vals hgl hv).mono fun e w' ⟨v,he,hb,hq⟩=>⟨v,he,hb,hq.ro ho⟩⟩
theorem bf.ent {P:Program} {w0:World} {T0:Bs} {res:List ResultVar} {out:AV} {rows:List (Nat × Item)} {s s':S} (he:aO w0 T0 0 s s') (h:bf P w0 T0 res out rows s'):bf P w0 T0 res out rows s:=
 fun a w hr=>h a w (he [] a w (fun _ hx=>by cases hx) hr)
end Go.Fv.H
/- shrink.Decode: the walk. -/
namespace Go.Fv.H
open Go Go.Proofs
def Xl (q:DQ):AV:=.tup [.agg [.int .i64 q.w,.int .i64 q.h,.ro (.bools q.p)],.int .i64 q.e]
def U9 (f:Nat) (s:Bytes) (q:DQ):Prop:=
 (q.e=0∧aC Tryz.prog f [.str s] (.tup [.agg [.int .i64 q.w,.int .i64 q.h,.own 0],.int .i64 q.e]) [(0,.row 4 (.bools q.p))]) ∨
 (q=sD q.e∧q.e≠0∧aC Tryz.prog f [.str s] (.tup [.agg [.int .i64 0,.int .i64 0,.nilS],.int .i64 q.e]) [])
theorem U9.fr {f:Nat} {s:Bytes} {q:DQ} (h:U9 f s q):dG Tryz.prog f [.str s] (Xl q) []:=by
 rcases h with ⟨_,k⟩|⟨e,_,k⟩
 ·exact dG.GZ (dG.gJ k rfl rfl) (by simp [Xl,fK,aU,bD,dO,aH,lk,aT])
 ·rw [e]
  exact dG.GZ (dG.gJ k rfl rfl) (by simp [Xl,sD,fK,aU,bD,dO,aH,lk,aT,nilRow])
theorem zf (w h:Nat) (hw0:0<w) (hw:w≤4000) (hh:h≤4000) (hwh:w*h≤1048576) (d:Bytes) (hd:d.length≤100000000) (kind:Int) (hk:1≤kind∧kind≤4) (hq:(mJ kind w h d).2=true) :
  aC Tryz.prog 68 [.str d,.int .i64 kind,.int .i64 w,.int .i64 h] (.tup [.agg [.int .i64 w,.int .i64 h,.own 0],.bool true]) [(0,.row 4 (.bools (mJ kind w h d).1))]:=by
 have hc:kind=4∨kind=1∨kind=2∨kind=3:=by omega
 rcases hc with rfl|rfl|rfl|rfl
 ·exact MJ w h hw0 hw hh hwh d hd
 ·have e:mJ 1 w h d=nU (w*h) (qx d):=rfl
  rw [e] at hq ⊢
  unfold nU at hq ⊢
  split at hq
  ·cases hq
  ·rename_i hs
   rw [if_neg hs]
   exact MI w h hw0 hw hh hwh d hd (by omega)
 ·have e:mJ 2 w h d=eG w h (qx d):=rfl
  rw [e] at hq ⊢
  have k:=BH w h hw0 hw hh hwh d hd
  rw [hq] at k
  exact k
 ·have e:mJ 3 w h d=dJ h (List.replicate w false) (qx d):=rfl
  rw [e] at hq ⊢
  have k:=BI w h hw0 hw hh hwh d hd
  rw [hq] at k
  exact k
theorem MK (w h:Nat) (hw0:0<w) (hw:w≤4000) (hh:h≤4000) (hwh:w*h≤1048576) (d:Bytes) (hd:d.length≤100000000) (kind:Int) (hk:1≤kind∧kind≤4) (hq:(mJ kind w h d).2=false) :
  dG Tryz.prog 68 [.str d,.int .i64 kind,.int .i64 w,.int .i64 h] (.tup [.agg [.int .i64 w,.int .i64 h,.ro (.bools (mJ kind w h d).1)],.bool false]) []:=by
 have hc:kind=4∨kind=1∨kind=2∨kind=3:=by omega
 rcases hc with rfl|rfl|rfl|rfl
 ·cases hq
 ·have e:mJ 1 w h d=nU (w*h) (qx d):=rfl
  rw [e] at hq ⊢
  unfold nU at hq ⊢
  split at hq
  ·rename_i hs
   rw [if_pos hs]
   exact dG.GZ (dG.gJ (MH w h hw0 hw hh hwh d hd hs) rfl rfl) (by simp [fK,aU,bD,dO,aH,lk,aT,nilRow])
  ·cases hq
 ·have e:mJ 2 w h d=eG w h (qx d):=rfl
  rw [e] at hq ⊢
  have k:=BH w h hw0 hw hh hwh d hd
  rw [hq] at k
  exact dG.GZ (dG.gJ k rfl rfl) (by simp [fK,aU,bD,dO,aH,lk,aT,nilRow])
 ·have e:mJ 3 w h d=dJ h (List.replicate w false) (qx d):=rfl
  rw [e] at hq ⊢
  have k:=BI w h hw0 hw hh hwh d hd
  rw [hq] at k
  exact dG.GZ (dG.gJ k rfl rfl) (by simp [fK,aU,bD,dO,aH,lk,aT,nilRow])
theorem Ef (s:Bytes):dK s<256:=by
 have h1:=nI (s.take 1)
 have h2:256 ^ (s.take 1).length≤256 ^ 1:=Nat.pow_le_pow_right (by decide) (by rw [List.length_take];omega)
 unfold dK;omega
theorem Eh (s:Bytes):dW s<65536:=by
 have h1:=nI ((s.drop 1).take 2)
 have h2:256 ^ ((s.drop 1).take 2).length≤256 ^ 2:=Nat.pow_le_pow_right (by decide) (by rw [List.length_take];omega)
 rw [show (256:Nat) ^ 2=65536 from rfl] at h2
 unfold dW;omega
theorem Ee (s:Bytes):dH s<65536:=by
 have h1:=nI ((s.drop 3).take 2)
 have h2:256 ^ ((s.drop 3).take 2).length≤256 ^ 2:=Nat.pow_le_pow_right (by decide) (by rw [List.length_take];omega)
 rw [show (256:Nat) ^ 2=65536 from rfl] at h2
 unfold dH;omega
theorem Aw (s:Bytes):dL s<4294967296:=by
 have h1:=nI ((s.drop 5).take 4)
 have h2:256 ^ ((s.drop 5).take 4).length≤256 ^ 4:=Nat.pow_le_pow_right (by decide) (by rw [List.length_take];omega)
 rw [show (256:Nat) ^ 4=4294967296 from rfl] at h2
 unfold dL;omega
set_option maxHeartbeats 8000000 in
theorem PE (s:Bytes) (hs:s.length≤200000000000000) (h1:2097152<s.length):aC Tryz.prog 15 [.str s] (.tup [.agg [.int .i64 0,.int .i64 0,.nilS],.int .i64 4]) []:=by
 refine aC.aJ Tryz.func15 rfl (by decide) (by simp [Tryz.f15]) [.cell 2 24,.tmp 3] rfl fun w0 T0 _=>?_
 simp only [Tryz.f15,aB]
 have f1:((2097152:Int)<(s.length:Int))=True:=eq_true (by omega)
 (repeat' with_reducible first|intro _|refine rz ?_|refine ra ?_ ?_|omega|simp only [go_sem,f1])
 refine bf.auto 0 ?_ rfl ?_<;>simp only [go_sem,Int.natCast_succ,Post]
set_option maxHeartbeats 8000000 in
theorem PG (s:Bytes) (h1:s.length≤2097152) (h2:s.length<17∨s.length≠17+dL s):aC Tryz.prog 15 [.str s] (.tup [.agg [.int .i64 0,.int .i64 0,.nilS],.int .i64 8]) []:=by
 refine aC.aJ Tryz.func15 rfl (by decide) (by simp [Tryz.f15]) [.cell 2 24,.tmp 3] rfl fun w0 T0 _=>?_
 simp only [Tryz.f15,aB]
 have f1:((2097152:Int)<(s.length:Int))=False:=eq_false (by omega)
 by_cases h17:s.length<17
 ·have f2:((s.length:Int)<17)=True:=eq_true (by omega)
  (repeat' with_reducible first|intro _|refine rz ?_|refine ra ?_ ?_|omega|simp only [go_sem,f1,f2])
  refine bf.auto 0 ?_ rfl ?_<;>simp only [go_sem,Int.natCast_succ,Post]
 ·have f2:((s.length:Int)<17)=False:=eq_false (by omega)
  have kb:=bg ((s.drop 5).take 4) (by rw [List.length_take];omega)
  have hlt:=Aw s
  have hdl:bV ((s.drop 5).take 4)=dL s:=rfl
  rw [hdl] at kb
  have f3:((s.length:Int)=9+(dL s:Int)+8)=False:=eq_false (by omega)
  generalize dL s=L at *
  (repeat' with_reducible first|intro _|refine rz ?_|refine ra ?_ ?_|omega|simp only [go_sem,f1,f2])
  refine ah.k kb ?_
  (repeat' with_reducible first|intro _|refine rz ?_|refine ra ?_ ?_|omega|simp only [go_sem,f3])
  refine bf.auto 0 ?_ rfl ?_<;>simp only [go_sem,Int.natCast_succ,Post]
structure KP (s:Bytes):Prop where
 n17:17≤s.length
 long:s.length=17+dL s
 most:s.length≤2097152
theorem su (s:Bytes) (h:17≤s.length):(s.take (s.length - 8)).length=s.length - 8:=by rw [List.length_take];omega
end Go.Fv.H
