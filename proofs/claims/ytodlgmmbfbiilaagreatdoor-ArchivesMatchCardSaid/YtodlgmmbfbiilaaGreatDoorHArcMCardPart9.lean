/-
  A part of the proof of the claim: walks over the program's functions and the plain laws that these need. No condition of its own.
-/
import Derived.Test.YtodlgmmbfbiilaaGreatDoorHArcMCardPart6
import Derived.Test.YtodlgmmbfbiilaaGreatDoorHArcMCardPart8
import Derived.Test.YtodlgmmbfbiilaaGreatDoorHArcMCardPart4
import Derived.Test.YtodlgmmbfbiilaaGreatDoorHArcMCardPart1
import Derived.Test.YtodlgmmbfbiilaaGreatDoorFvPart11
import Derived.Test.YtodlgmmbfbiilaaGreatDoorFvPart10
import Derived.Test.YtodlgmmbfbiilaaGreatDoorHArcMCardPart7
set_option linter.unusedSimpArgs false
set_option linter.unusedVariables false
set_option linter.unnecessarySimpa false
set_option maxRecDepth 8000
/- shrink.readLine: the walk. -/
namespace Go.Fv.H
open Go Go.Proofs
theorem Dz (y:Bytes):(fJ.isPrefixOf y=true∧codeOf y=0) ∨
  (fJ.isPrefixOf y=false∧∃ j,j<7∧codeOf y=j+1∧(∀ i,i<j→(aP.getD i []).isPrefixOf y=false)∧(aP.getD j []).isPrefixOf y=true) ∨
  (fJ.isPrefixOf y=false∧(∀ i,i<7→(aP.getD i []).isPrefixOf y=false)∧((eF.isPrefixOf y=true∧codeOf y=8)∨(eF.isPrefixOf y=false∧codeOf y=9))):=by
 unfold codeOf
 cases hp:fJ.isPrefixOf y with
 | true=>exact .inl ⟨rfl,rfl⟩
 | false=>
 cases h0:(aP.getD 0 []).isPrefixOf y with
 | true=>
  refine .inr (.inl ⟨rfl,0,by decide,rfl,?_,h0⟩)
  exact fun i hi=>by omega
 | false=>
 cases h1:(aP.getD 1 []).isPrefixOf y with
 | true=>
  refine .inr (.inl ⟨rfl,1,by decide,rfl,?_,h1⟩)
  exact fun i hi=>by
   have hi:i=0:=by omega
   rcases hi with rfl
   ·exact h0
 | false=>
 cases h2:(aP.getD 2 []).isPrefixOf y with
 | true=>
  refine .inr (.inl ⟨rfl,2,by decide,rfl,?_,h2⟩)
  exact fun i hi=>by
   have hi:i=0∨i=1:=by omega
   rcases hi with rfl|rfl
   ·exact h0
   ·exact h1
 | false=>
 cases h3:(aP.getD 3 []).isPrefixOf y with
 | true=>
  refine .inr (.inl ⟨rfl,3,by decide,rfl,?_,h3⟩)
  exact fun i hi=>by
   have hi:i=0∨i=1∨i=2:=by omega
   rcases hi with rfl|rfl|rfl
   ·exact h0
   ·exact h1
   ·exact h2
 | false=>
 cases h4:(aP.getD 4 []).isPrefixOf y with
 | true=>
  refine .inr (.inl ⟨rfl,4,by decide,rfl,?_,h4⟩)
  exact fun i hi=>by
   have hi:i=0∨i=1∨i=2∨i=3:=by omega
   rcases hi with rfl|rfl|rfl|rfl
   ·exact h0
   ·exact h1
   ·exact h2
   ·exact h3
 | false=>
 cases h5:(aP.getD 5 []).isPrefixOf y with
 | true=>
  refine .inr (.inl ⟨rfl,5,by decide,rfl,?_,h5⟩)
  exact fun i hi=>by
   have hi:i=0∨i=1∨i=2∨i=3∨i=4:=by omega
   rcases hi with rfl|rfl|rfl|rfl|rfl
   ·exact h0
   ·exact h1
   ·exact h2
   ·exact h3
   ·exact h4
 | false=>
 cases h6:(aP.getD 6 []).isPrefixOf y with
 | true=>
  refine .inr (.inl ⟨rfl,6,by decide,rfl,?_,h6⟩)
  exact fun i hi=>by
   have hi:i=0∨i=1∨i=2∨i=3∨i=4∨i=5:=by omega
   rcases hi with rfl|rfl|rfl|rfl|rfl|rfl
   ·exact h0
   ·exact h1
   ·exact h2
   ·exact h3
   ·exact h4
   ·exact h5
 | false=>
 have hall:∀ i,i<7→(aP.getD i []).isPrefixOf y=false:=fun i hi=>by
  have hi:i=0∨i=1∨i=2∨i=3∨i=4∨i=5∨i=6:=by omega
  rcases hi with rfl|rfl|rfl|rfl|rfl|rfl|rfl
  ·exact h0
  ·exact h1
  ·exact h2
  ·exact h3
  ·exact h4
  ·exact h5
  ·exact h6
 cases hf:eF.isPrefixOf y with
 | true=>exact .inr (.inr ⟨rfl,hall,.inl ⟨rfl,rfl⟩⟩)
 | false=>exact .inr (.inr ⟨rfl,hall,.inr ⟨rfl,rfl⟩⟩)
structure RLx where
 p:Nat
 k:Bool
 n:Nat
 R:List Bool
structure UE (above:List Bool) (s:Bytes) (x:RLx):Prop where
 hp:x.p≤above.length+1
 hn:x.n≤s.length
 hR:x.R.length=x.p - 1
 hz:above.length=0→x.n=0
 hq:qL true above s 0 false=match qL true above (s.drop x.n) x.p x.k with|none=>none|some (l,m)=>some (x.R++l,x.n+m)
theorem UE.first (above:List Bool) (s:Bytes):UE above s ⟨0,false,0,[]⟩:=by
 refine ⟨Nat.zero_le _,Nat.zero_le _,rfl,fun _=>rfl,?_⟩
 dsimp only
 rw [List.drop_zero]
 cases qL true above s 0 false with
 | none=>rfl
 | some x=>obtain ⟨l,m⟩:=x;dsimp only;rw [List.nil_append,Nat.zero_add]
theorem UE.step {above:List Bool} {s:Bytes} {p n:Nat} {k:Bool} {R:List Bool} (h:UE above s ⟨p,k,n,R⟩) (hp:p≤above.length) (h0:0<above.length) {y:YU} (hy:rdStep true above (s.drop n) p k=some y) :
  UE above s ⟨y.p,y.k,n+y.n,R++y.px⟩∧p<y.p:=by
 obtain ⟨h1,h2,h3,_,h4⟩:=h
 obtain ⟨g1,g2,g3,g4⟩:=pV hp hy
 dsimp only at *
 rw [List.length_drop] at g4
 refine ⟨⟨g2,by dsimp only;omega,by dsimp only;rw [List.length_append,h3,g3];omega,fun h=>by omega,?_⟩,g1⟩
 dsimp only
 rw [h4,ou hp hy,List.drop_drop]
 cases qL true above (s.drop (n+y.n)) y.p y.k with
 | none=>rfl
 | some x=>obtain ⟨l,m⟩:=x;dsimp only;rw [List.append_assoc,Nat.add_assoc]
theorem UE.fail {above:List Bool} {s:Bytes} {p n:Nat} {k:Bool} {R:List Bool} (h:UE above s ⟨p,k,n,R⟩) (hp:p≤above.length) (h0:0<above.length) (hy:rdStep true above (s.drop n) p k=none):l9 true above s=none:=by
 unfold l9
 rw [if_neg (by omega),h.hq,zY hp hy]
theorem UE.done {above:List Bool} {s:Bytes} {p n:Nat} {k:Bool} {R:List Bool} (h:UE above s ⟨p,k,n,R⟩) (hp:¬(p≤above.length∧0<above.length)):l9 true above s=some (R,n)∧R.length=above.length:=by
 have h1:p≤above.length+1:=h.hp
 have h2:R.length=p - 1:=h.hR
 have h3:above.length=0→n=0:=h.hz
 refine ⟨?_,by omega⟩
 unfold l9
 by_cases h0:above.length=0
 ·have hR0:R.length=0:=by
   have h5:p≤1:=by rw [h0] at h1;exact h1
   rw [h2];exact Nat.sub_eq_zero_of_le h5
  rw [if_pos h0,h3 h0,List.eq_nil_of_length_eq_zero hR0]
 ·have h6:¬p≤above.length:=by omega
  rw [if_neg h0,h.hq,qM h6]
  dsimp only
  rw [List.append_nil,Nat.add_zero]
theorem yQ {s:Bytes} {m l:Nat} (h:o7 s=some (m,l)):m≤1048576:=by
 unfold o7 at h
 split at h
 ·rename_i hc;cases h;exact hc.2.2.2
 ·cases h
def Ad (w:Nat) (R:List Bool):List Bool:=R++List.replicate (w - R.length) false
theorem Ns {w:Nat} {R:List Bool} (h:R.length≤w):(Ad w R).length=w:=by unfold Ad;rw [List.length_append,List.length_replicate];omega
theorem vI {w:Nat} {R:List Bool} {t:Nat} (c:Bool) (h:R.length≤t) (ht:t≤w):tN (Ad w R) R.length t c=Ad w (R++List.replicate (t - R.length) c):=by
 unfold tN Ad
 rw [List.take_left,List.length_append,List.length_replicate,List.append_assoc]
 congr 2
 rw [List.drop_append,List.drop_replicate,List.drop_of_length_le h,List.nil_append]
 congr 1;omega
def WI (s:Bytes) (above:List Bool):Option (List Bool × Nat)→AV
 | none=>.tup [.nilS,.int .i64 0,.bool false]
 | some (l,n)=>.tup [.own 0,.int .i64 n,.bool (decide (eY l above=s.take n))]
def P5:Option (List Bool × Nat)→List (Nat × Item)
 | none=>[]
 | some (l,n)=>[(0,.row 4 (.bools l))]
theorem lF (s:Bytes) (above:List Bool):WI s above none=.tup [.nilS,.int .i64 0,.bool false]:=rfl
theorem jU:P5 none=[]:=rfl
theorem ET (s:Bytes) (above l:List Bool) (n:Nat):WI s above (some (l,n))=.tup [.own 0,.int .i64 n,.bool (decide (eY l above=s.take n))]:=rfl
theorem Bq (l:List Bool) (n:Nat):P5 (some (l,n))=[(0,.row 4 (.bools l))]:=rfl
theorem qJ {s:Bytes} (h:o7 s=none):BN s=0∧BM s=0∧FW 8 s=8:=by unfold BN BM FW;rw [h];exact ⟨rfl,rfl,rfl⟩
theorem qK {s:Bytes} {m l:Nat} (h:o7 s=some (m,l)):BN s=m∧BM s=l∧FW 8 s=0:=by unfold BN BM FW;rw [h];exact ⟨rfl,rfl,rfl⟩
set_option maxHeartbeats 16000000 in
theorem Nl (s:Bytes) (above:List Bool) (hs:s.length≤290000000000000) (hw:above.length≤4000) :
  aA Tryz.prog 106 [.str s,.ro (.bools above)] (WI s above (l9 true above s)) (P5 (l9 true above s)):=by
 refine aA.aG Tryz.func106 rfl (by decide) (by simp [Tryz.f106]) [.cell 4 22,.cell 5 3,.tmp 6] rfl fun w0 T0 _=>?_
 simp only [Tryz.f106,au]
 (repeat' with_reducible first|intro _|exact dn|refine rn ?_|refine ra ?_ ?_)
 refine aF.intro (fun x:RLx=>⟨140,[(12,.int .i64 ((x.p:Int) - 1)),(11,.fn 146 [.ptr 0 0,.ptr 2 0]),(10,.fn 145 [.ptr 0 0,.ptr 2 0]),(9,.bool x.k),(8,.fn 144 [.ptr 1 0]),(7,.int .i64 above.length),(6,.bool false),(5,.ptr 2 0),(4,.ptr 1 0),(2,.ptr 0 0),(1,.ro (.bools above))],[(0,.box 9 [.str s]),(1,.box 22 [.own 3]),(2,.box 3 [.int .i64 x.n]),(3,.row 4 (.bools (Ad above.length x.R)))],4⟩) (UE above s) (fun x=>above.length+1 - x.p) ⟨0,false,0,[]⟩ ?_ (UE.first above s) fun x hI=>?_
 ·refine aK.ak rfl ?_ ?_<;>simp only [go_sem,Int.natCast_succ,Ad]
  all_goals first|rfl|omega
 obtain ⟨p,k,n,R⟩:=x
 have hI0:=hI
 obtain ⟨hp,hn,hR,_,_⟩:=hI
 dsimp only at hp hn hR ⊢
 by_cases hlt:p≤above.length∧0<above.length
 rotate_left
 ·obtain ⟨hrd,hRl⟩:=hI0.done hlt
  have hrow:Ad above.length R=R:=by unfold Ad;rw [hRl,Nat.sub_self,List.replicate_zero,List.append_nil]
  have kl:=Rx R above (by omega) hRl.symm
  rw [hrd,hrow]
  rw [ET,Bq]
  generalize eY R above=lb at *
  by_cases h1:(p:Int) - 1<(above.length:Int)
  ·have f1:((p:Int) - 1<(above.length:Int))=True:=eq_true h1
   have f2:(0<(above.length:Int))=False:=eq_false (by omega)
   (repeat' with_reducible first|intro _|refine rz ?_|refine ra ?_ ?_|omega|simp only [go_sem,f1,f2])
   refine aN.lex [9,10] [(1,[1]),(5,[1,2]),(7,[1,2]),(8,[1,2])] (by kernel_rfl) (by kernel_rfl) ?_
   (repeat' with_reducible first|intro _|exact dn|refine rn ?_|refine ra ?_ ?_)
   (refine QV.intro (.str lb) ?_ ?_;focus ((repeat' with_reducible first|intro _|exact dn|refine rn ?_|refine ra ?_ ?_);refine ah.k (kl) ?_;(repeat' with_reducible first|intro _|exact dn|refine rn ?_|refine ra ?_ ?_)))
   (repeat' with_reducible first|intro _|exact dn|refine rn ?_|refine ra ?_ ?_)
   refine aT.of [(0,3)] 1 ?_ rfl ?_<;>simp only [go_sem,Int.natCast_succ,Post,Nat.sub_zero]
  ·have f1:((p:Int) - 1<(above.length:Int))=False:=eq_false h1
   (repeat' with_reducible first|intro _|refine rz ?_|refine ra ?_ ?_|omega|simp only [go_sem,f1])
   refine aN.lex [9,10] [(1,[1]),(5,[1,2]),(7,[1,2]),(8,[1,2])] (by kernel_rfl) (by kernel_rfl) ?_
   (repeat' with_reducible first|intro _|exact dn|refine rn ?_|refine ra ?_ ?_)
   (refine QV.intro (.str lb) ?_ ?_;focus ((repeat' with_reducible first|intro _|exact dn|refine rn ?_|refine ra ?_ ?_);refine ah.k (kl) ?_;(repeat' with_reducible first|intro _|exact dn|refine rn ?_|refine ra ?_ ?_)))
   (repeat' with_reducible first|intro _|exact dn|refine rn ?_|refine ra ?_ ?_)
   refine aT.of [(0,3)] 1 ?_ rfl ?_<;>simp only [go_sem,Int.natCast_succ,Post,Nat.sub_zero]
 obtain ⟨hle,h0⟩:=hlt
 have f1:((p:Int) - 1<(above.length:Int))=True:=eq_true (by omega)
 have f2:(0<(above.length:Int))=True:=eq_true (by omega)
 have k3:=AB above p ((p:Int) - 1) (!k) rfl (by omega) (by omega)
 obtain ⟨b1,hB1⟩:∃ b1,fV above p (!k)=b1:=⟨_,rfl⟩
 have hb1:=kD (r:=above) (i:=p) hle (!k)
 rw [hB1] at k3 hb1
 have hrl:=Ns (w:=above.length) (R:=R) (by omega)
 have hmx:max ((p:Int) - 1) 0=((p - 1:Nat):Int):=by omega
 (repeat' with_reducible first|intro _|refine rz ?_|refine ra ?_ ?_|omega|simp only [go_sem,f1,f2])
 refine ah.k k3 ?_
 (repeat' with_reducible first|intro _|exact dn|refine rn ?_|refine ra ?_ ?_)
 rcases Dz (s.drop n) with ⟨c1,c2⟩|⟨c1,j,c3,c2,c4,c5⟩|⟨c1,c4,hc⟩
 ·have kt:=Fg s n [48,48,48,49] (by omega) hn (by decide) c1
  obtain ⟨b2,hB2⟩:∃ b2,dQ above (b1+1)=b2:=⟨_,rfl⟩
  have k4:=nU above (b1+1) (b1:Int) (by omega) (by omega) hw
  rw [hB2] at k4
  have b2a:b1≤b2:=by
   by_cases h:b1<above.length
   ·have:=iZ (r:=above) (i:=b1+1) (by omega);omega
   ·rw [iG (by omega)] at hB2;omega
  have b2b:b2≤above.length:=by rw [←hB2];exact gW _ _
  have hst:rdStep true above (s.drop n) p k=some ⟨b2+1,k,List.replicate (b2 - (p - 1)) k,4⟩:=by unfold rdStep;rw [if_pos c2,hB1,hB2]
  obtain ⟨g1,g2⟩:=hI0.step hle h0 hst
  have kf:=Cc (Ad above.length R) (p - 1) ((p:Int) - 1) b2 k hmx (by omega) (by omega) (by omega) (by omega)
  have hrf:=vI (w:=above.length) (R:=R) (t:=b2) k (by omega) b2b
  rw [hR] at hrf
  rw [hrf] at kf
  have f3:((b2:Int)=(p:Int) - 1)=False:=eq_false (by omega)
  refine ah.i [0,2] kt 2 ?_
  (repeat' with_reducible first|intro _|exact dn|refine rn ?_|refine ra ?_ ?_)
  refine ah.k k4 ?_
  (repeat' with_reducible first|intro _|refine rz ?_|refine ra ?_ ?_|omega|simp only [go_sem,f3])
  refine ah.i [1,3] kf 2 ?_
  (repeat' with_reducible first|intro _|exact dn|refine rn ?_|refine ra ?_ ?_)
  refine ⟨⟨b2+1,k,n+4,R++List.replicate (b2 - (p - 1)) k⟩,aK.ak rfl ?_ ?_,g1,by dsimp only;omega⟩<;>simp only [go_sem,Int.natCast_succ]
  all_goals first|rfl|omega|(refine ⟨?_,?_⟩<;>first|rfl|omega)
 ·have kt:=yV s n [48,48,48,49] (by omega) hn c1
  have ki:=Vl s n (by omega) hn j (by omega) c4 (fun _=>c5)
  rw [if_pos c3,if_pos c3] at ki
  unfold Qs at ki
  refine ah.i [0,2] kt 2 ?_
  (repeat' with_reducible first|intro _|exact dn|refine rn ?_|refine ra ?_ ?_)
  refine ah.ro (.ro (.strs aP)) (bZ.eH nM rfl (by simp [fQ,fP,jd,iO,lC])) (by simp only [aI,aQ,bJ,aU,aH,List.drop_zero,lk,reduceIte,reduceCtorEq,Nat.reduceEqDiff,Option.some.injEq,Item.row.injEq,Item.box.injEq,AV.ro.injEq,exists_eq_left,exists_and_left,exists_eq_left',exists_eq_right,and_assoc,and_true,true_and,List.cons.injEq,exists_eq',exists_eq]) (by simp [dG,aQ,aU,bJ,aH,lk,aI]) rfl ?_
  (repeat' with_reducible first|intro _|exact dn|refine rn ?_|refine ra ?_ ?_)
  refine ah.i [0,2] ki 2 ?_
  have f3:(0≤(j:Int))=True:=eq_true (by omega)
  by_cases hok:p+3≤b1+j∧b1+j≤above.length+3
  ·obtain ⟨t,ht⟩:∃ t,t+3=b1+j:=⟨b1+j - 3,by omega⟩
   have hst:rdStep true above (s.drop n) p k=some ⟨t+1,!k,List.replicate (t - (p - 1)) k,(aP.getD j []).length⟩:=by
    unfold rdStep
    rw [c2,if_neg (by omega),if_pos (by omega),hB1,if_pos (by omega),show b1+(j+1) - 4=t by omega,Nat.add_sub_cancel]
   obtain ⟨g1,g2⟩:=hI0.step hle h0 hst
   have kf:=Cc (Ad above.length R) (p - 1) ((p:Int) - 1) t k hmx (by omega) (by omega) (by omega) (by omega)
   have hrf:=vI (w:=above.length) (R:=R) (t:=t) k (by omega) (by omega)
   rw [hR] at hrf
   rw [hrf] at kf
   have hv:(b1:Int)+(j:Int) - 3=(t:Int):=by omega
   have f4:((t:Int)≤(p:Int) - 1)=False:=eq_false (by omega)
   have f5:((above.length:Int)<(t:Int))=False:=eq_false (by omega)
   (repeat' with_reducible first|intro _|refine rz ?_|refine ra ?_ ?_|omega|simp only [go_sem,f3,hv,f4,f5])
   refine ah.i [1,3] kf 2 ?_
   (repeat' with_reducible first|intro _|exact dn|refine rn ?_|refine ra ?_ ?_)
   refine ⟨⟨t+1,!k,n+(aP.getD j []).length,R++List.replicate (t - (p - 1)) k⟩,aK.ak rfl ?_ ?_,g1,by dsimp only;omega⟩<;>simp only [go_sem,Int.natCast_succ]
   all_goals first|rfl|omega|(refine ⟨?_,?_⟩<;>first|rfl|omega)
  ·have hst:rdStep true above (s.drop n) p k=none:=by
    unfold rdStep
    rw [c2,if_neg (by omega),if_pos (by omega),hB1,if_neg (by omega)]
   rw [hI0.fail hle h0 hst,lF,jU]
   by_cases h4:(b1:Int)+(j:Int) - 3≤(p:Int) - 1
   ·have f4:((b1:Int)+(j:Int) - 3≤(p:Int) - 1)=True:=eq_true h4
    (repeat' with_reducible first|intro _|refine rz ?_|refine ra ?_ ?_|omega|simp only [go_sem,f3,f4])
    refine aT.auto 0 ?_ rfl ?_<;>simp only [go_sem,Int.natCast_succ,Post]
   ·have f4:((b1:Int)+(j:Int) - 3≤(p:Int) - 1)=False:=eq_false h4
    have f5:((above.length:Int)<(b1:Int)+(j:Int) - 3)=True:=eq_true (by omega)
    (repeat' with_reducible first|intro _|refine rz ?_|refine ra ?_ ?_|omega|simp only [go_sem,f3,f4,f5])
    refine aT.auto 0 ?_ rfl ?_<;>simp only [go_sem,Int.natCast_succ,Post]
 have kt:=yV s n [48,48,48,49] (by omega) hn c1
 have ki:=Vl s n (by omega) hn 7 (by omega) c4 (fun h=>absurd h (by decide))
 rw [if_neg (by decide),if_neg (by decide),Nat.add_zero] at ki
 unfold Qs at ki
 refine ah.i [0,2] kt 2 ?_
 (repeat' with_reducible first|intro _|exact dn|refine rn ?_|refine ra ?_ ?_)
 refine ah.ro (.ro (.strs aP)) (bZ.eH nM rfl (by simp [fQ,fP,jd,iO,lC])) (by simp only [aI,aQ,bJ,aU,aH,List.drop_zero,lk,reduceIte,reduceCtorEq,Nat.reduceEqDiff,Option.some.injEq,Item.row.injEq,Item.box.injEq,AV.ro.injEq,exists_eq_left,exists_and_left,exists_eq_left',exists_eq_right,and_assoc,and_true,true_and,List.cons.injEq,exists_eq',exists_eq]) (by simp [dG,aQ,aU,bJ,aH,lk,aI]) rfl ?_
 (repeat' with_reducible first|intro _|exact dn|refine rn ?_|refine ra ?_ ?_)
 refine ah.i [0,2] ki 2 ?_
 (repeat' with_reducible first|intro _|exact dn|refine rn ?_|refine ra ?_ ?_)
 rcases hc with ⟨c5,c2⟩|⟨c5,c2⟩
 rotate_left
 ·have kt2:=yV s n [48,48,49] (by omega) hn c5
  have hst:rdStep true above (s.drop n) p k=none:=by
   unfold rdStep
   rw [c2,if_neg (by decide),if_neg (by decide),if_neg (by decide)]
  rw [hI0.fail hle h0 hst,lF,jU]
  refine ah.i [0,2] kt2 2 ?_
  (repeat' with_reducible first|intro _|exact dn|refine rn ?_|refine ra ?_ ?_)
  refine aT.auto 0 ?_ rfl ?_<;>simp only [go_sem,Int.natCast_succ,Post]
 have h3:=(wR (s:=s.drop n) (by omega)).2.1 c2
 rw [List.length_drop] at h3
 have kt2:=Fg s n [48,48,49] (by omega) hn (by decide) c5
 have e3:(s.drop n).drop 3=s.drop (n+3):=List.drop_drop
 have hst0:rdStep true above (s.drop n) p k=sF true above.length (s.drop n) p k:=by
  unfold rdStep
  rw [c2,if_neg (by decide),if_neg (by decide),if_pos rfl]
 have kn:=H9 s (n+3) (by omega) (by omega)
 refine ah.i [0,2] kt2 2 ?_
 (repeat' with_reducible first|intro _|exact dn|refine rn ?_|refine ra ?_ ?_)
 cases hg1:o7 (s.drop (n+3)) with
 | none=>
  obtain ⟨r1,r2,r3⟩:=qJ hg1
  rw [r1,r2,r3] at kn
  have hst:rdStep true above (s.drop n) p k=none:=by rw [hst0];unfold sF;rw [e3,hg1]
  rw [hI0.fail hle h0 hst,lF,jU]
  refine ah.i [0,2] kn 2 ?_
  (repeat' with_reducible first|intro _|exact dn|refine rn ?_|refine ra ?_ ?_)
  refine aT.auto 0 ?_ rfl ?_<;>simp only [go_sem,Int.natCast_succ,Post]
 | some z1=>
 obtain ⟨m1,l1⟩:=z1
 obtain ⟨r1,r2,r3⟩:=qK hg1
 rw [r1,r2,r3,show ((n+3:Nat):Int)+(l1:Int)=((n+3+l1:Nat):Int) by omega] at kn
 obtain ⟨w1,w2,w3⟩:=kR hg1
 have w4:=yQ hg1
 rw [List.length_drop] at w1
 have kn2:=H9 s (n+3+l1) (by omega) (by omega)
 have e4:(s.drop n).drop (3+l1)=s.drop (n+3+l1):=by rw [List.drop_drop,Nat.add_assoc]
 have hv1:((p - 1:Nat):Int)+((m1:Int) - 1)=((p - 1+(m1 - 1):Nat):Int):=by omega
 refine ah.i [0,2] kn 2 ?_
 (repeat' with_reducible first|intro _|exact dn|refine rn ?_|refine ra ?_ ?_)
 cases hg2:o7 (s.drop (n+3+l1)) with
 | none=>
  obtain ⟨r1,r2,r3⟩:=qJ hg2
  rw [r1,r2,r3] at kn2
  have hst:rdStep true above (s.drop n) p k=none:=by rw [hst0];unfold sF;rw [e3,hg1];dsimp only;rw [e4,hg2]
  rw [hI0.fail hle h0 hst,lF,jU]
  refine ah.i [0,2] kn2 2 ?_
  (repeat' with_reducible first|intro _|refine rz ?_|refine ra ?_ ?_|omega|simp only [go_sem,hmx])
  refine aT.auto 0 ?_ rfl ?_<;>simp only [go_sem,Int.natCast_succ,Post]
 | some z2=>
 obtain ⟨m2,l2⟩:=z2
 obtain ⟨r1,r2,r3⟩:=qK hg2
 rw [r1,r2,r3,show ((n+3+l1:Nat):Int)+(l2:Int)=((n+3+l1+l2:Nat):Int) by omega] at kn2
 obtain ⟨w5,w6,w7⟩:=kR hg2
 have w8:=yQ hg2
 rw [List.length_drop] at w5
 obtain ⟨A1,hA1⟩:∃ A1,p - 1+(m1 - 1)=A1:=⟨_,rfl⟩
 obtain ⟨A2,hA2⟩:∃ A2,A1+(m2 - 1)=A2:=⟨_,rfl⟩
 rw [hA1] at hv1
 have hv2:(A1:Int)+((m2:Int) - 1)=(A2:Int):=by omega
 have hstf:rdStep true above (s.drop n) p k=if (true=true→p≤A1)∧A2≤above.length∧p≤A2 then some ⟨A2+1,k,List.replicate (m1 - 1) k++List.replicate (m2 - 1) (!k),3+l1+l2⟩ else none:=by
  rw [hst0];unfold sF;rw [e3,hg1];dsimp only;rw [e4,hg2];dsimp only;rw [hA1,hA2]
 refine ah.i [0,2] kn2 2 ?_
 by_cases hok:p≤A1∧A2≤above.length∧p≤A2
 ·have hst:=hstf
  rw [if_pos ⟨fun _=>hok.1,hok.2⟩] at hst
  obtain ⟨g1,g2⟩:=hI0.step hle h0 hst
  have kf:=Cc (Ad above.length R) (p - 1) ((p:Int) - 1) A1 k hmx (by omega) (by omega) (by omega) (by omega)
  have hrf:=vI (w:=above.length) (R:=R) (t:=A1) k (by omega) (by omega)
  rw [hR,show A1 - (p - 1)=m1 - 1 by omega] at hrf
  rw [hrf] at kf
  have hRl:(R++List.replicate (m1 - 1) k).length=A1:=by rw [List.length_append,List.length_replicate];omega
  have hrl2:=Ns (w:=above.length) (R:=R++List.replicate (m1 - 1) k) (by omega)
  have kf2:=Cc (Ad above.length (R++List.replicate (m1 - 1) k)) A1 (A1:Int) A2 (!k) (by omega) (by omega) (by omega) (by omega) (by omega)
  have hrf2:=vI (w:=above.length) (R:=R++List.replicate (m1 - 1) k) (t:=A2) (!k) (by omega) (by omega)
  rw [hRl,show A2 - A1=m2 - 1 by omega,List.append_assoc] at hrf2
  rw [hrf2] at kf2
  have f4:((p:Int) - 1<(A1:Int))=True:=eq_true (by omega)
  have f5:((A2:Int)≤(above.length:Int))=True:=eq_true (by omega)
  have f6:((p:Int) - 1<(A2:Int))=True:=eq_true (by omega)
  (repeat' with_reducible first|intro _|refine rz ?_|refine ra ?_ ?_|omega|simp only [go_sem,hmx,hv1,hv2,f4,f5,f6])
  refine ah.i [1,3] kf 2 ?_
  (repeat' with_reducible first|intro _|exact dn|refine rn ?_|refine ra ?_ ?_)
  refine ah.i [1,3] kf2 2 ?_
  (repeat' with_reducible first|intro _|exact dn|refine rn ?_|refine ra ?_ ?_)
  refine ⟨⟨A2+1,k,n+(3+l1+l2),R++(List.replicate (m1 - 1) k++List.replicate (m2 - 1) (!k))⟩,aK.ak rfl ?_ ?_,g1,by dsimp only;omega⟩<;>simp only [go_sem,Int.natCast_succ]
  all_goals first|rfl|omega|(refine ⟨?_,?_⟩<;>first|rfl|omega)
 ·have hst:=hstf
  rw [if_neg (fun h=>hok ⟨h.1 rfl,h.2⟩)] at hst
  rw [hI0.fail hle h0 hst,lF,jU]
  by_cases h4:(p:Int) - 1<(A1:Int)
  ·have f4:((p:Int) - 1<(A1:Int))=True:=eq_true h4
   by_cases h5:(A2:Int)≤(above.length:Int)
   ·have f5:((A2:Int)≤(above.length:Int))=True:=eq_true h5
    exact absurd ⟨by omega,by omega,by omega⟩ hok
   ·have f5:((A2:Int)≤(above.length:Int))=False:=eq_false h5
    (repeat' with_reducible first|intro _|refine rz ?_|refine ra ?_ ?_|omega|simp only [go_sem,hmx,hv1,hv2,f4,f5])
    refine aT.auto 0 ?_ rfl ?_<;>simp only [go_sem,Int.natCast_succ,Post]
  ·have f4:((p:Int) - 1<(A1:Int))=False:=eq_false h4
   (repeat' with_reducible first|intro _|refine rz ?_|refine ra ?_ ?_|omega|simp only [go_sem,hmx,hv1,hv2,f4])
   refine aT.auto 0 ?_ rfl ?_<;>simp only [go_sem,Int.natCast_succ,Post]
end Go.Fv.H
/- shrink.pageOf: the walk, kind by kind. -/
namespace Go.Fv.H
open Go Go.Proofs
set_option maxHeartbeats 4000000 in
theorem PD (w h:Nat) (hw0:0<w) (hw:w≤4000) (hh:h≤4000) (hwh:w*h≤1048576) (d:Bytes) (hd:d.length≤100000000) :
  aA Tryz.prog 68 [.str d,.int .i64 4,.int .i64 w,.int .i64 h] (.tup [.agg [.int .i64 w,.int .i64 h,.own 0],.bool true]) [(0,.row 4 (.bools (dJ w h d (w*h) (w*h)).P))]:=by
 have k:=BI w h hw0 hw hh hwh d (by omega)
 refine aA.aG Tryz.func68 rfl (by decide) (by simp [Tryz.f68]) [.cell 8 24,.tmp 9] rfl fun w0 T0 _=>?_
 simp only [Tryz.f68,au]
 (repeat' with_reducible first|intro _|exact dn|refine rn ?_|refine ra ?_ ?_)
 refine ah.o k 1 ?_
 (repeat' with_reducible first|intro _|exact dn|refine rn ?_|refine ra ?_ ?_)
 refine aT.auto 1 ?_ rfl ?_<;>simp only [go_sem,Int.natCast_succ,Post]
theorem vP (d:Bytes):(iD d).length=8*d.length:=by unfold iD;simp
theorem zX (s:Bytes):(oM s).length=s.length:=by unfold oM;simp
theorem EG {s:Bytes} {i:Nat} (h:i<s.length):oM (s.take (i+1))=oM (s.take i)++[decide (((s.getD i 0).toNat:Int)=49)]:=by
 unfold oM
 rw [List.take_succ_eq_append_getElem h,List.map_append,List.map_cons,List.map_nil,getD_lt h]
 congr 2
 have:(s[i]=49)↔((s[i].toNat:Int)=49):=by
  constructor
  ·intro e;rw [e];rfl
  ·intro e
   have h49:s[i].toNat=49:=by omega
   exact UInt8.toNat_inj.1 h49
 exact decide_eq_decide.2 this
set_option maxHeartbeats 4000000 in
theorem Py (w h:Nat) (hw0:0<w) (hw:w≤4000) (hh:h≤4000) (hwh:w*h≤1048576) (d:Bytes) (hd:d.length≤100000000) (hs:(iD d).length<w*h) :
  aA Tryz.prog 68 [.str d,.int .i64 1,.int .i64 w,.int .i64 h] (.tup [.agg [.int .i64 w,.int .i64 h,.nilS],.bool false]) []:=by
 have e1:(w:Int)*(h:Int)=((w*h:Nat):Int):=(Int.natCast_mul w h).symm
 have k:=pX d (by omega)
 have f1:(((iD d).length:Int)<((w*h:Nat):Int))=True:=eq_true (by omega)
 generalize iD d=s at *
 obtain ⟨n,hn⟩:∃ n,w*h=n:=⟨_,rfl⟩
 rw [hn] at e1 f1 hs
 refine aA.aG Tryz.func68 rfl (by decide) (by simp [Tryz.f68]) [.cell 8 24,.tmp 9] rfl fun w0 T0 _=>?_
 simp only [Tryz.f68,au]
 (repeat' with_reducible first|intro _|exact dn|refine rn ?_|refine ra ?_ ?_)
 refine ah.k k ?_
 (repeat' with_reducible first|intro _|refine rz ?_|refine ra ?_ ?_|omega|simp only [go_sem,e1,f1])
 refine aT.auto 0 ?_ rfl ?_<;>simp only [go_sem,Int.natCast_succ,Post]
set_option maxHeartbeats 4000000 in
theorem Pz (w h:Nat) (hw0:0<w) (hw:w≤4000) (hh:h≤4000) (hwh:w*h≤1048576) (d:Bytes) (hd:d.length≤100000000) (hs:w*h≤(iD d).length) :
  aA Tryz.prog 68 [.str d,.int .i64 1,.int .i64 w,.int .i64 h] (.tup [.agg [.int .i64 w,.int .i64 h,.own 0],.bool true]) [(0,.row 4 (.bools (oM ((iD d).take (w*h)))))]:=by
 have e1:(w:Int)*(h:Int)=((w*h:Nat):Int):=(Int.natCast_mul w h).symm
 have k:=pX d (by omega)
 have f1:(((iD d).length:Int)<((w*h:Nat):Int))=False:=eq_false (by omega)
 have hl:=vP d
 generalize iD d=s at *
 obtain ⟨n,hn⟩:∃ n,w*h=n:=⟨_,rfl⟩
 rw [hn] at e1 f1 hs hwh ⊢
 refine aA.aG Tryz.func68 rfl (by decide) (by simp [Tryz.f68]) [.cell 8 24,.tmp 9] rfl fun w0 T0 _=>?_
 simp only [Tryz.f68,au]
 (repeat' with_reducible first|intro _|exact dn|refine rn ?_|refine ra ?_ ?_)
 refine ah.k k ?_
 (repeat' with_reducible first|intro _|refine rz ?_|refine ra ?_ ?_|omega|simp only [go_sem,e1,f1])
 refine aF.intro (fun i:Nat=>⟨135,[(71,.int .i64 i),(70,.int .i64 n),(11,.str s),(10,.ptr 1 0),(8,.ptr 0 0)],[(0,.box 24 [.int .i64 0,.int .i64 0,.nilS]),(1,.box 24 [.int .i64 w,.int .i64 h,.own 2]),(2,.row 4 (.bools (oM (s.take i))))],3⟩) (fun i=>i≤n) (fun i=>n - i) 0 ?_ (Nat.zero_le _) fun i hi=>?_
 ·refine aK.trans (aK.jD (P:=Tryz.prog) 1 2 4 e4 rfl rfl) (aK.ak rfl ?_ ?_)<;>simp only [go_sem,Int.natCast_succ,put,oM,List.map_nil]
 by_cases hlt:i<n
 ·have f2:((i:Int)<(n:Int))=True:=eq_true (by omega)
  have hsu:=EG (s:=s) (i:=i) (by omega)
  have hpl:=zX (s.take i)
  rw [List.length_take] at hpl
  (repeat' with_reducible first|intro _|refine rz ?_|refine ra ?_ ?_|omega|simp only [go_sem,f2])
  refine aN.lex [6,7,9] [(0,[1]),(1,[1])] (by kernel_rfl) (by kernel_rfl) ?_
  (repeat' with_reducible first|intro _|refine rz ?_|refine ra ?_ ?_|omega|simp only [go_sem,hpl])
  refine ⟨i+1,aK.ak rfl ?_ ?_,by omega,by omega⟩<;>simp only [go_sem,Int.natCast_succ,hsu]
  all_goals first|rfl|trace_state
 ·have f2:((i:Int)<(n:Int))=False:=eq_false (by omega)
  have e:i=n:=by omega
  subst e
  (repeat' with_reducible first|intro _|refine rz ?_|refine ra ?_ ?_|omega|simp only [go_sem,f2])
  refine aT.of [(0,2)] 1 ?_ (by rfl) ?_<;>simp only [go_sem,Int.natCast_succ,Post]
end Go.Fv.H
/- shrink.pageOf at runs: the walk. -/
namespace Go.Fv.H
open Go Go.Proofs
structure aac where
 (y:Nat) (s:Bytes) (acc:List Bool)
structure Z9 where
 (n:Nat) (ink:Bool) (s:Bytes) (acc:List Bool)
set_option maxHeartbeats 16000000 in
theorem EC (w h:Nat) (hw0:0<w) (hw:w≤4000) (hh:h≤4000) (hwh:w*h≤1048576) (d:Bytes) (hd:d.length≤100000000) :
  aA Tryz.prog 68 [.str d,.int .i64 2,.int .i64 w,.int .i64 h] (.tup [.agg [.int .i64 w,.int .i64 h,.own 0],.bool (dP w h (iD d)).2]) [(0,.row 4 (.bools (dP w h (iD d)).1))]:=by
 have k:=pX d (by omega)
 have hl:=vP d
 generalize iD d=s at *
 obtain ⟨R,hR⟩:∃ R,dP w h s=R:=⟨_,rfl⟩
 rw [hR]
 refine aA.aG Tryz.func68 rfl (by decide) (by simp [Tryz.f68]) [.cell 8 24,.tmp 9] rfl fun w0 T0 _=>?_
 simp only [Tryz.f68,au]
 (repeat' with_reducible first|intro _|exact dn|refine rn ?_|refine ra ?_ ?_)
 refine ah.k k ?_
 (repeat' with_reducible first|intro _|exact dn|refine rn ?_|refine ra ?_ ?_)
 refine aF.intro (fun x:aac=>⟨135,[(87,.int .i64 x.y),(86,.int .i64 h),(11,.str x.s),(10,.ptr 1 0),(8,.ptr 0 0),(2,.int .i64 w),(3,.int .i64 h)],[(0,.box 24 [.int .i64 0,.int .i64 0,.nilS]),(1,.box 24 [.int .i64 w,.int .i64 h,.own 2]),(2,.row 4 (.bools x.acc))],3⟩) (fun x=>x.y≤h∧x.s.length≤s.length∧x.acc.length=x.y*w∧R=(x.acc++(dP w (h - x.y) x.s).1,(dP w (h - x.y) x.s).2)) (fun x=>h - x.y) ⟨0,s,[]⟩ ?_ ⟨Nat.zero_le _,Nat.le_refl _,(Nat.zero_mul w).symm,hR.symm⟩ fun x hx=>?_
 ·refine aK.trans (aK.jD (P:=Tryz.prog) 1 2 4 e4 rfl rfl) (aK.ak rfl ?_ ?_)<;>simp only [go_sem,Int.natCast_succ,put]
 obtain ⟨y,t,acc⟩:=x
 obtain ⟨hy,ht,hacc,hRx⟩:=hx
 dsimp only at hy ht hacc hRx ⊢
 by_cases hlt:y<h
 rotate_left
 ·have f1:((y:Int)<(h:Int))=False:=eq_false (by omega)
  have e:y=h:=by omega
  subst e
  rw [Nat.sub_self] at hRx
  have hR2:R=(acc,true):=by rw [hRx];show (acc++[],true)=_;rw [List.append_nil]
  rw [hR2]
  (repeat' with_reducible first|intro _|refine rz ?_|refine ra ?_ ?_|omega|simp only [go_sem,f1])
  refine aT.of [(0,2)] 1 ?_ (by rfl) ?_<;>simp only [go_sem,Int.natCast_succ,Post]
 have f1:((y:Int)<(h:Int))=True:=eq_true (by omega)
 have hk:h - y=(h - (y+1))+1:=by omega
 rw [hk] at hRx
 have hRq:R=(acc++(jJ (dP w (h - (y+1))) (fM w 0 false t)).1,(jJ (dP w (h - (y+1))) (fM w 0 false t)).2):=hRx
 clear hRx
 obtain ⟨F,hF⟩:∃ F,dP w (h - (y+1))=F:=⟨_,rfl⟩
 rw [hF] at hRq
 have hyw:y*w+w≤1048576:=by
  have h1:y*w+w≤h*w:=by rw [←Nat.succ_mul];exact Nat.mul_le_mul_right _ hlt
  have h2:h*w=w*h:=Nat.mul_comm _ _
  omega
 generalize hyv:y*w=yw at *
 (repeat' with_reducible first|intro _|refine rz ?_|refine ra ?_ ?_|omega|simp only [go_sem,f1])
 refine aF.intro (fun x:Z9=>⟨135,[(13,.int .i64 x.n),(14,.bool x.ink),(87,.int .i64 y),(86,.int .i64 h),(11,.str x.s),(10,.ptr 1 0),(8,.ptr 0 0),(2,.int .i64 w),(3,.int .i64 h)],[(0,.box 24 [.int .i64 0,.int .i64 0,.nilS]),(1,.box 24 [.int .i64 w,.int .i64 h,.own 2]),(2,.row 4 (.bools x.acc))],3⟩) (fun x=>x.n≤w∧x.s.length≤s.length∧x.acc.length=yw+x.n∧R=(x.acc++(jJ F (fM w x.n x.ink x.s)).1,(jJ F (fM w x.n x.ink x.s)).2)) (fun x=>x.s.length) ⟨0,false,t,acc⟩ ?_ ⟨Nat.zero_le _,ht,by dsimp only;omega,hRq⟩ fun x hx=>?_
 ·refine aK.ak rfl ?_ ?_<;>simp only [go_sem,Int.natCast_succ]
  all_goals first|rfl|exact ⟨rfl,rfl⟩|trace_state
 clear hRq
 obtain ⟨n,ink,u,ac⟩:=x
 obtain ⟨hn,hu,hac,hRu⟩:=hx
 dsimp only at hn hu hac hRu ⊢
 by_cases hnw:n<w
 rotate_left
 ·have f2:((n:Int)<(w:Int))=False:=eq_false (by omega)
  have e:n=w:=by omega
  rw [vG hnw] at hRu
  have hR3:R=(ac++(F u).1,(F u).2):=hRu
  (repeat' with_reducible first|intro _|refine rz ?_|refine ra ?_ ?_|omega|simp only [go_sem,f2])
  refine ⟨⟨y+1,u,ac⟩,aK.ak rfl ?_ ?_,⟨by dsimp only;omega,hu,by dsimp only;rw [Nat.succ_mul];omega,by dsimp only;rw [hF];exact hR3⟩,by dsimp only;omega⟩<;>simp only [go_sem,Int.natCast_succ]
  all_goals first|rfl|omega|trace_state
 have f2:((n:Int)<(w:Int))=True:=eq_true (by omega)
 have hg:o7 (u.take 64)=o7 u:=Na u 64 (Nat.le_refl _)
 have g1:BN (u.take 64)=BN u:=by unfold BN;rw [hg]
 have g2:BM (u.take 64)=BM u:=by unfold BM;rw [hg]
 have g3:FW 8 (u.take 64)=FW 8 u:=by unfold FW;rw [hg]
 have kg:=Nk (u.take 64) (by rw [List.length_take];omega)
 rw [g1,g2,g3] at kg
 have hm:min (u.length:Int) 64=((min u.length 64:Nat):Int):=by omega
 have htk:u.take (min u.length 64)=u.take 64:=by rw [List.take_eq_take_iff];omega
 have hml:min u.length 64≤u.length:=by omega
 generalize min u.length 64=mm at *
 cases hrd:o7 u with
 | none=>
  obtain ⟨r1,r2,r3⟩:=qJ hrd
  rw [r1,r2,r3] at kg
  rw [xA hnw ink hrd] at hRu
  have hR3:R=(ac,false):=by rw [hRu];show (ac++[],false)=_;rw [List.append_nil]
  rw [hR3]
  (repeat' with_reducible first|intro _|refine rz ?_|refine ra ?_ ?_|omega|simp only [go_sem,f2,hm,Nat.sub_zero,htk])
  refine ah.k kg ?_
  (repeat' with_reducible first|intro _|exact dn|refine rn ?_|refine ra ?_ ?_)
  refine aT.of [(0,2)] 1 ?_ (by rfl) ?_<;>simp only [go_sem,Int.natCast_succ,Post]
 | some z=>
  obtain ⟨m,l⟩:=z
  obtain ⟨r1,r2,r3⟩:=qK hrd
  rw [r1,r2,r3] at kg
  obtain ⟨q1,q2⟩:=CQ hrd
  obtain ⟨q3,q4,q5⟩:=kR hrd
  have hmI:(m:Int) - 1=((m - 1:Nat):Int):=by omega
  by_cases hov:w - n<m - 1
  ·rw [xB hnw ink hrd hov] at hRu
   have hR3:R=(ac,false):=by rw [hRu];show (ac++[],false)=_;rw [List.append_nil]
   rw [hR3]
   have f3:((w:Int) - (n:Int)<((m - 1:Nat):Int))=True:=eq_true (by omega)
   (repeat' with_reducible first|intro _|refine rz ?_|refine ra ?_ ?_|omega|simp only [go_sem,f2,hm,Nat.sub_zero,htk])
   refine ah.k kg ?_
   (repeat' with_reducible first|intro _|refine rz ?_|refine ra ?_ ?_|omega|simp only [go_sem,hmI,f3])
   refine aT.of [(0,2)] 1 ?_ (by rfl) ?_<;>simp only [go_sem,Int.natCast_succ,Post]
  rw [rU hnw ink hrd hov] at hRu
  have hR3:R=(ac++List.replicate (m - 1) ink++(jJ F (fM w (n+(m - 1)) (!ink) (u.drop l))).1,(jJ F (fM w (n+(m - 1)) (!ink) (u.drop l))).2):=by
   rw [hRu]
   generalize fM w (n+(m - 1)) (!ink) (u.drop l)=q
   obtain ⟨q1,q2⟩:=q
   cases q2 with
   | none=>show (ac++(List.replicate (m - 1) ink++q1),false)=(ac++List.replicate (m - 1) ink++q1,false);rw [List.append_assoc]
   | some v=>show (ac++(List.replicate (m - 1) ink++q1++(F v).1),(F v).2)=(ac++List.replicate (m - 1) ink++(q1++(F v).1),(F v).2);rw [List.append_assoc,List.append_assoc]
  have f3:((w:Int) - (n:Int)<((m - 1:Nat):Int))=False:=eq_false (by omega)
  have htl:(u.drop l).take (u.length - l)=u.drop l:=List.take_of_length_le (by rw [List.length_drop];exact Nat.le_refl _)
  have hdl:(u.drop l).length=u.length - l:=List.length_drop
  obtain ⟨u2,hu2⟩:∃ u2,u.drop l=u2:=⟨_,rfl⟩
  rw [hu2] at hR3 hdl
  rw [hu2] at htl
  have htl2:(u.drop l).take (u.length - l)=u2:=by rw [hu2];exact htl
  (repeat' with_reducible first|intro _|refine rz ?_|refine ra ?_ ?_|omega|simp only [go_sem,f2,hm,Nat.sub_zero,htk])
  refine ah.k kg ?_
  (repeat' with_reducible first|intro _|refine rz ?_|refine ra ?_ ?_|omega|simp only [go_sem,hmI,f3,htl2])
  refine aF.intro (fun j:Nat=>⟨135,[(118,.int .i64 j),(117,.int .i64 (m - 1:Nat)),(15,.int .i64 m),(13,.int .i64 n),(14,.bool ink),(87,.int .i64 y),(86,.int .i64 h),(11,.str u2),(10,.ptr 1 0),(8,.ptr 0 0),(2,.int .i64 w),(3,.int .i64 h)],[(0,.box 24 [.int .i64 0,.int .i64 0,.nilS]),(1,.box 24 [.int .i64 w,.int .i64 h,.own 2]),(2,.row 4 (.bools (ac++List.replicate j ink)))],3⟩) (fun j=>j≤m - 1) (fun j=>m - 1 - j) 0 ?_ (Nat.zero_le _) fun j hj=>?_
  ·refine aK.ak rfl ?_ ?_<;>simp only [go_sem,Int.natCast_succ]
   all_goals first|rfl|exact ⟨rfl,rfl⟩|trace_state
  by_cases hjl:j<m - 1
  ·have f4:((j:Int)<((m - 1:Nat):Int))=True:=eq_true (by omega)
   have hrs:ac++List.replicate j ink++[ink]=ac++List.replicate (j+1) ink:=by rw [List.append_assoc,List.replicate_succ']
   have hrl:(ac++List.replicate j ink).length=ac.length+j:=by rw [List.length_append,List.length_replicate]
   (repeat' with_reducible first|intro _|refine rz ?_|refine ra ?_ ?_|omega|simp only [go_sem,f4,hrl])
   refine ⟨j+1,aK.ak rfl ?_ ?_,by omega,by omega⟩<;>simp only [go_sem,Int.natCast_succ,hrs]
   all_goals first|rfl|trace_state
  ·have f4:((j:Int)<((m - 1:Nat):Int))=False:=eq_false (by omega)
   have e:j=m - 1:=by omega
   subst e
   have hnn:(n:Int)+((m - 1:Nat):Int)=((n+(m - 1):Nat):Int):=by omega
   (repeat' with_reducible first|intro _|refine rz ?_|refine ra ?_ ?_|omega|simp only [go_sem,f4,hmI,hnn])
   refine ⟨⟨n+(m - 1),!ink,u2,ac++List.replicate (m - 1) ink⟩,aK.ak rfl ?_ ?_,⟨by dsimp only;omega,by dsimp only;omega,by dsimp only;rw [List.length_append,List.length_replicate];omega,hR3⟩,by dsimp only;omega⟩<;>simp only [go_sem,Int.natCast_succ]
   all_goals first|rfl|omega|exact ⟨rfl,rfl⟩|trace_state
end Go.Fv.H
/- shrink.pageOf at lines: the walk. -/
namespace Go.Fv.H
open Go Go.Proofs
structure Z8 where
 (y:Nat) (ab:List Bool) (s:Bytes) (acc:List Bool)
theorem uj {k:Nat} {ab:List Bool} {s:Bytes} (h:dU true ab s=none):dA (k+1) ab s=([],false):=by
 show (match dU true ab s with|none=>_|some (r,n)=>_)=_
 rw [h]
theorem Ba {k:Nat} {ab r:List Bool} {s:Bytes} {n:Nat} (h:dU true ab s=some (r,n)):dA (k+1) ab s=(r++(dA k r (s.drop n)).1,(dA k r (s.drop n)).2):=by
 show (match dU true ab s with|none=>_|some (r,n)=>_)=_
 rw [h]
theorem PS {ab:List Bool} {s:Bytes}:dU true ab s=match l9 true ab s with|none=>none|some (l,n)=>if eY l ab=s.take n then some (l,n) else none:=rfl
set_option maxHeartbeats 16000000 in
theorem ED (w h:Nat) (hw0:0<w) (hw:w≤4000) (hh:h≤4000) (hwh:w*h≤1048576) (d:Bytes) (hd:d.length≤100000000) :
  aA Tryz.prog 68 [.str d,.int .i64 3,.int .i64 w,.int .i64 h] (.tup [.agg [.int .i64 w,.int .i64 h,.own 0],.bool (dA h (List.replicate w false) (iD d)).2]) [(0,.row 4 (.bools (dA h (List.replicate w false) (iD d)).1))]:=by
 have k:=pX d (by omega)
 have hl:=vP d
 generalize iD d=s at *
 obtain ⟨R,hR⟩:∃ R,dA h (List.replicate w false) s=R:=⟨_,rfl⟩
 rw [hR]
 refine aA.aG Tryz.func68 rfl (by decide) (by simp [Tryz.f68]) [.cell 8 24,.tmp 9] rfl fun w0 T0 _=>?_
 simp only [Tryz.f68,au]
 (repeat' with_reducible first|intro _|exact dn|refine rn ?_|refine ra ?_ ?_)
 refine ah.k k ?_
 (repeat' with_reducible first|intro _|exact dn|refine rn ?_|refine ra ?_ ?_)
 refine aF.intro (fun x:Z8=>⟨135,[(37,.int .i64 x.y),(36,.int .i64 h),(18,.own 2),(11,.str x.s),(10,.ptr 1 0),(8,.ptr 0 0),(2,.int .i64 w),(3,.int .i64 h)],[(0,.box 24 [.int .i64 0,.int .i64 0,.nilS]),(1,.box 24 [.int .i64 w,.int .i64 h,.own 3]),(2,.row 4 (.bools x.ab)),(3,.row 4 (.bools x.acc))],4⟩) (fun x=>x.y≤h∧x.s.length≤s.length∧x.ab.length=w∧x.acc.length=x.y*w∧R=(x.acc++(dA (h - x.y) x.ab x.s).1,(dA (h - x.y) x.ab x.s).2)) (fun x=>h - x.y) ⟨0,List.replicate w false,s,[]⟩ ?_ ⟨Nat.zero_le _,Nat.le_refl _,List.length_replicate,(Nat.zero_mul w).symm,hR.symm⟩ fun x hx=>?_
 ·refine aK.trans (aK.jD (P:=Tryz.prog) 1 2 4 e4 rfl rfl) (aK.ak rfl ?_ ?_)<;>simp only [go_sem,Int.natCast_succ,put]
  all_goals first|rfl|exact ⟨rfl,rfl⟩|trace_state
 obtain ⟨y,ab,t,acc⟩:=x
 obtain ⟨hy,ht,hab,hacc,hRx⟩:=hx
 dsimp only at hy ht hab hacc hRx ⊢
 by_cases hlt:y<h
 rotate_left
 ·have f1:((y:Int)<(h:Int))=False:=eq_false (by omega)
  have e:y=h:=by omega
  subst e
  rw [Nat.sub_self] at hRx
  have hR2:R=(acc,true):=by rw [hRx];show (acc++[],true)=_;rw [List.append_nil]
  rw [hR2]
  (repeat' with_reducible first|intro _|refine rz ?_|refine ra ?_ ?_|omega|simp only [go_sem,f1])
  refine aT.of [(0,3)] 1 ?_ (by rfl) ?_<;>simp only [go_sem,Int.natCast_succ,Post]
 have f1:((y:Int)<(h:Int))=True:=eq_true (by omega)
 have hk:h - y=(h - (y+1))+1:=by omega
 rw [hk] at hRx
 have hyw:y*w+w≤1048576:=by
  have h1:y*w+w≤h*w:=by rw [←Nat.succ_mul];exact Nat.mul_le_mul_right _ hlt
  have h2:h*w=w*h:=Nat.mul_comm _ _
  omega
 have hyw1:(y+1)*w=y*w+w:=Nat.succ_mul y w
 generalize hyv:y*w=yw at *
 have kr:=Nl t ab (by omega) (by omega)
 have hrl:=@PS ab t
 cases hrd:l9 true ab t with
 | none=>
  rw [hrd] at hrl kr
  rw [lF,jU] at kr
  rw [uj hrl] at hRx
  have hR3:R=(acc,false):=by rw [hRx];show (acc++[],false)=_;rw [List.append_nil]
  rw [hR3]
  (repeat' with_reducible first|intro _|refine rz ?_|refine ra ?_ ?_|omega|simp only [go_sem,f1])
  refine ah.k kr ?_
  (repeat' with_reducible first|intro _|exact dn|refine rn ?_|refine ra ?_ ?_)
  refine aT.of [(0,3)] 1 ?_ (by rfl) ?_<;>simp only [go_sem,Int.natCast_succ,Post]
 | some z=>
  obtain ⟨r,n⟩:=z
  rw [hrd] at hrl kr
  rw [ET,Bq] at kr
  obtain ⟨hr1,hr2⟩:=Ic hrd
  by_cases hcode:eY r ab=t.take n
  ·have hrl2:dU true ab t=some (r,n):=by rw [hrl];exact if_pos hcode
   rw [decide_eq_true hcode] at kr
   rw [Ba hrl2] at hRx
   have htl:(t.drop n).take (t.length - n)=t.drop n:=List.take_of_length_le (by rw [List.length_drop];exact Nat.le_refl _)
   have hdl:(t.drop n).length=t.length - n:=List.length_drop
   have hR3:R=(acc++r++(dA (h - (y+1)) r (t.drop n)).1,(dA (h - (y+1)) r (t.drop n)).2):=by rw [hRx,List.append_assoc]
   have hrw:r.length=w:=by omega
   (repeat' with_reducible first|intro _|refine rz ?_|refine ra ?_ ?_|omega|simp only [go_sem,f1])
   refine ah.o kr 1 ?_
   (repeat' with_reducible first|intro _|refine rz ?_|refine ra ?_ ?_|omega|simp only [go_sem,htl])
   refine ⟨⟨y+1,r,t.drop n,acc++r⟩,aK.ak rfl ?_ ?_,⟨by dsimp only;omega,by dsimp only;omega,hrw,by dsimp only;rw [List.length_append];omega,hR3⟩,by dsimp only;omega⟩<;>simp only [go_sem,Int.natCast_succ]
   all_goals first|rfl|omega|exact ⟨rfl,rfl⟩|trace_state
  ·have hrl2:dU true ab t=none:=by rw [hrl];exact if_neg hcode
   rw [decide_eq_false hcode] at kr
   rw [uj hrl2] at hRx
   have hR3:R=(acc,false):=by rw [hRx];show (acc++[],false)=_;rw [List.append_nil]
   rw [hR3]
   (repeat' with_reducible first|intro _|refine rz ?_|refine ra ?_ ?_|omega|simp only [go_sem,f1])
   refine ah.o kr 1 ?_
   (repeat' with_reducible first|intro _|exact dn|refine rn ?_|refine ra ?_ ?_)
   refine aT.of [(0,3)] 1 ?_ (by rfl) ?_<;>simp only [go_sem,Int.natCast_succ,Post]
end Go.Fv.H
/- A result that is owned becomes data; a nil slice in a result box becomes an owned row without elements. -/
namespace Go.Fv.H
open Go Go.Proofs
theorem bZ.yX {P:Program} {f:Nat} {args:List AV} {out out':AV} {rows:List (Nat × Item)} (h:bZ P f args out rows) (ho:dG rows out out'):bZ P f args out' []:=
 ⟨h.1,fun w T vals hgl hv=>(h.2 w T vals hgl hv).mono fun e w' ⟨v,he,hb,hq⟩=>⟨v,he,hb,hq.ro ho⟩⟩
theorem aT.ent {P:Program} {w0:World} {T0:Bs} {res:List ResultVar} {out:AV} {rows:List (Nat × Item)} {s s':S} (he:aK w0 T0 0 s s') (h:aT P w0 T0 res out rows s'):aT P w0 T0 res out rows s:=
 fun a w hr=>h a w (he [] a w (fun _ hx=>by cases hx) hr)
end Go.Fv.H
/- shrink.Decode: the walk. -/
namespace Go.Fv.H
open Go Go.Proofs
def U7 (q:DQ):AV:=.tup [.agg [.int .i64 q.w,.int .i64 q.h,.ro (.bools q.p)],.int .i64 q.e]
def Sv (f:Nat) (s:Bytes) (q:DQ):Prop:=
 (q.e=0∧aA Tryz.prog f [.str s] (.tup [.agg [.int .i64 q.w,.int .i64 q.h,.own 0],.int .i64 q.e]) [(0,.row 4 (.bools q.p))]) ∨
 (q=DF q.e∧q.e≠0∧aA Tryz.prog f [.str s] (.tup [.agg [.int .i64 0,.int .i64 0,.nilS],.int .i64 q.e]) [])
theorem Sv.fr {f:Nat} {s:Bytes} {q:DQ} (h:Sv f s q):bZ Tryz.prog f [.str s] (U7 q) []:=by
 rcases h with ⟨_,k⟩|⟨e,_,k⟩
 ·exact bZ.yX (bZ.eH k rfl rfl) (by simp [U7,dG,aQ,aU,bJ,aH,lk,aI])
 ·rw [e]
  exact bZ.yX (bZ.eH k rfl rfl) (by simp [U7,DF,dG,aQ,aU,bJ,aH,lk,aI,nilRow])
theorem Bh (w h:Nat) (hw0:0<w) (hw:w≤4000) (hh:h≤4000) (hwh:w*h≤1048576) (d:Bytes) (hd:d.length≤100000000) (kind:Int) (hk:1≤kind∧kind≤4) (hq:(mW kind w h d).2=true) :
  aA Tryz.prog 68 [.str d,.int .i64 kind,.int .i64 w,.int .i64 h] (.tup [.agg [.int .i64 w,.int .i64 h,.own 0],.bool true]) [(0,.row 4 (.bools (mW kind w h d).1))]:=by
 have hc:kind=4∨kind=1∨kind=2∨kind=3:=by omega
 rcases hc with rfl|rfl|rfl|rfl
 ·exact PD w h hw0 hw hh hwh d hd
 ·have e:mW 1 w h d=kQ (w*h) (iD d):=rfl
  rw [e] at hq ⊢
  unfold kQ at hq ⊢
  split at hq
  ·cases hq
  ·rename_i hs
   rw [if_neg hs]
   exact Pz w h hw0 hw hh hwh d hd (by omega)
 ·have e:mW 2 w h d=dP w h (iD d):=rfl
  rw [e] at hq ⊢
  have k:=EC w h hw0 hw hh hwh d hd
  rw [hq] at k
  exact k
 ·have e:mW 3 w h d=dA h (List.replicate w false) (iD d):=rfl
  rw [e] at hq ⊢
  have k:=ED w h hw0 hw hh hwh d hd
  rw [hq] at k
  exact k
theorem PE (w h:Nat) (hw0:0<w) (hw:w≤4000) (hh:h≤4000) (hwh:w*h≤1048576) (d:Bytes) (hd:d.length≤100000000) (kind:Int) (hk:1≤kind∧kind≤4) (hq:(mW kind w h d).2=false) :
  bZ Tryz.prog 68 [.str d,.int .i64 kind,.int .i64 w,.int .i64 h] (.tup [.agg [.int .i64 w,.int .i64 h,.ro (.bools (mW kind w h d).1)],.bool false]) []:=by
 have hc:kind=4∨kind=1∨kind=2∨kind=3:=by omega
 rcases hc with rfl|rfl|rfl|rfl
 ·cases hq
 ·have e:mW 1 w h d=kQ (w*h) (iD d):=rfl
  rw [e] at hq ⊢
  unfold kQ at hq ⊢
  split at hq
  ·rename_i hs
   rw [if_pos hs]
   exact bZ.yX (bZ.eH (Py w h hw0 hw hh hwh d hd hs) rfl rfl) (by simp [dG,aQ,aU,bJ,aH,lk,aI,nilRow])
  ·cases hq
 ·have e:mW 2 w h d=dP w h (iD d):=rfl
  rw [e] at hq ⊢
  have k:=EC w h hw0 hw hh hwh d hd
  rw [hq] at k
  exact bZ.yX (bZ.eH k rfl rfl) (by simp [dG,aQ,aU,bJ,aH,lk,aI,nilRow])
 ·have e:mW 3 w h d=dA h (List.replicate w false) (iD d):=rfl
  rw [e] at hq ⊢
  have k:=ED w h hw0 hw hh hwh d hd
  rw [hq] at k
  exact bZ.yX (bZ.eH k rfl rfl) (by simp [dG,aQ,aU,bJ,aH,lk,aI,nilRow])
theorem su (s:Bytes):dK s<256:=by
 have h1:=nN (s.take 1)
 have h2:256 ^ (s.take 1).length≤256 ^ 1:=Nat.pow_le_pow_right (by decide) (by rw [List.length_take];omega)
 unfold dK;omega
theorem sD (s:Bytes):dW s<65536:=by
 have h1:=nN ((s.drop 1).take 2)
 have h2:256 ^ ((s.drop 1).take 2).length≤256 ^ 2:=Nat.pow_le_pow_right (by decide) (by rw [List.length_take];omega)
 rw [show (256:Nat) ^ 2=65536 from rfl] at h2
 unfold dW;omega
theorem rZ (s:Bytes):dH s<65536:=by
 have h1:=nN ((s.drop 3).take 2)
 have h2:256 ^ ((s.drop 3).take 2).length≤256 ^ 2:=Nat.pow_le_pow_right (by decide) (by rw [List.length_take];omega)
 rw [show (256:Nat) ^ 2=65536 from rfl] at h2
 unfold dH;omega
theorem pI (s:Bytes):dL s<4294967296:=by
 have h1:=nN ((s.drop 5).take 4)
 have h2:256 ^ ((s.drop 5).take 4).length≤256 ^ 4:=Nat.pow_le_pow_right (by decide) (by rw [List.length_take];omega)
 rw [show (256:Nat) ^ 4=4294967296 from rfl] at h2
 unfold dL;omega
set_option maxHeartbeats 8000000 in
theorem SS (s:Bytes) (hs:s.length≤200000000000000) (h1:2097152<s.length):aA Tryz.prog 15 [.str s] (.tup [.agg [.int .i64 0,.int .i64 0,.nilS],.int .i64 4]) []:=by
 refine aA.aG Tryz.func15 rfl (by decide) (by simp [Tryz.f15]) [.cell 2 24,.tmp 3] rfl fun w0 T0 _=>?_
 simp only [Tryz.f15,au]
 have f1:((2097152:Int)<(s.length:Int))=True:=eq_true (by omega)
 (repeat' with_reducible first|intro _|refine rz ?_|refine ra ?_ ?_|omega|simp only [go_sem,f1])
 refine aT.auto 0 ?_ rfl ?_<;>simp only [go_sem,Int.natCast_succ,Post]
set_option maxHeartbeats 8000000 in
theorem SV (s:Bytes) (h1:s.length≤2097152) (h2:s.length<17∨s.length≠17+dL s):aA Tryz.prog 15 [.str s] (.tup [.agg [.int .i64 0,.int .i64 0,.nilS],.int .i64 8]) []:=by
 refine aA.aG Tryz.func15 rfl (by decide) (by simp [Tryz.f15]) [.cell 2 24,.tmp 3] rfl fun w0 T0 _=>?_
 simp only [Tryz.f15,au]
 have f1:((2097152:Int)<(s.length:Int))=False:=eq_false (by omega)
 by_cases h17:s.length<17
 ·have f2:((s.length:Int)<17)=True:=eq_true (by omega)
  (repeat' with_reducible first|intro _|refine rz ?_|refine ra ?_ ?_|omega|simp only [go_sem,f1,f2])
  refine aT.auto 0 ?_ rfl ?_<;>simp only [go_sem,Int.natCast_succ,Post]
 ·have f2:((s.length:Int)<17)=False:=eq_false (by omega)
  have kb:=bQ ((s.drop 5).take 4) (by rw [List.length_take];omega)
  have hlt:=pI s
  have hdl:aW ((s.drop 5).take 4)=dL s:=rfl
  rw [hdl] at kb
  have f3:((s.length:Int)=9+(dL s:Int)+8)=False:=eq_false (by omega)
  generalize dL s=L at *
  (repeat' with_reducible first|intro _|refine rz ?_|refine ra ?_ ?_|omega|simp only [go_sem,f1,f2])
  refine ah.k kb ?_
  (repeat' with_reducible first|intro _|refine rz ?_|refine ra ?_ ?_|omega|simp only [go_sem,f3])
  refine aT.auto 0 ?_ rfl ?_<;>simp only [go_sem,Int.natCast_succ,Post]
structure xP (s:Bytes):Prop where
 n17:17≤s.length
 long:s.length=17+dL s
 most:s.length≤2097152
theorem jI (s:Bytes) (h:17≤s.length):(s.take (s.length - 8)).length=s.length - 8:=by rw [List.length_take];omega
end Go.Fv.H
