/-
  A part of the proof of the claim: walks over the program's functions and the plain laws that these need. No condition of its own.
-/
import Derived.Test.YtodlgmmbfbiilaaGreatDoorHArcCCardPart8
import Derived.Test.YtodlgmmbfbiilaaGreatDoorHArcCCardPart11
import Derived.Test.YtodlgmmbfbiilaaGreatDoorFvPart10
import Derived.Test.YtodlgmmbfbiilaaGreatDoorHArcCCardPart9
set_option linter.unusedSimpArgs false
set_option linter.unusedVariables false
set_option linter.unnecessarySimpa false
set_option maxRecDepth 8000
/- The reference's ReadLine: the walk. -/
namespace Go.Fv.H
open Go Go.Proofs
structure U4 (st:Bool) (above:List Bool) (s:Bytes) (x:RLx):Prop where
 hp:x.p≤above.length+1
 hn:x.n≤s.length
 hR:x.R.length=x.p - 1
 hz:above.length=0→x.n=0
 hq:qP st above s 0 false=match qP st above (s.drop x.n) x.p x.k with|none=>none|some (l,m)=>some (x.R++l,x.n+m)
theorem U4.first (st:Bool) (above:List Bool) (s:Bytes):U4 st above s ⟨0,false,0,[]⟩:=by
 refine ⟨Nat.zero_le _,Nat.zero_le _,rfl,fun _=>rfl,?_⟩
 dsimp only
 rw [List.drop_zero]
 cases qP st above s 0 false with
 | none=>rfl
 | some x=>obtain ⟨l,m⟩:=x;dsimp only;rw [List.nil_append,Nat.zero_add]
theorem U4.step {st:Bool} {above:List Bool} {s:Bytes} {p n:Nat} {k:Bool} {R:List Bool} (h:U4 st above s ⟨p,k,n,R⟩) (hp:p≤above.length) (h0:0<above.length) {y:Zn} (hy:rdStep st above (s.drop n) p k=some y) :
  U4 st above s ⟨y.p,y.k,n+y.n,R++y.px⟩∧p<y.p∧y.p≤above.length+1:=by
 obtain ⟨h1,h2,h3,_,h4⟩:=h
 obtain ⟨g1,g2,g3,g4⟩:=qc hp hy
 dsimp only at *
 rw [List.length_drop] at g4
 refine ⟨⟨g2,by dsimp only;omega,by dsimp only;rw [List.length_append,h3,g3];omega,fun h=>by omega,?_⟩,g1,g2⟩
 dsimp only
 rw [h4,oz hp hy,List.drop_drop]
 cases qP st above (s.drop (n+y.n)) y.p y.k with
 | none=>rfl
 | some x=>obtain ⟨l,m⟩:=x;dsimp only;rw [List.append_assoc,Nat.add_assoc]
theorem U4.fail {st:Bool} {above:List Bool} {s:Bytes} {p n:Nat} {k:Bool} {R:List Bool} (h:U4 st above s ⟨p,k,n,R⟩) (hp:p≤above.length) (h0:0<above.length) (hy:rdStep st above (s.drop n) p k=none):dX st above s=none:=by
 unfold dX mD
 rw [if_neg (by omega),h.hq,Ak hp hy]
theorem U4.done {st:Bool} {above:List Bool} {s:Bytes} {p n:Nat} {k:Bool} {R:List Bool} (h:U4 st above s ⟨p,k,n,R⟩) (hp:¬(p≤above.length∧0<above.length)):mD st above s=some (R,n)∧R.length=above.length:=by
 have h1:p≤above.length+1:=h.hp
 have h2:R.length=p - 1:=h.hR
 have h3:above.length=0→n=0:=h.hz
 refine ⟨?_,by omega⟩
 unfold mD
 by_cases h0:above.length=0
 ·have hR0:R.length=0:=by
   have h5:p≤1:=by rw [h0] at h1;exact h1
   rw [h2];exact Nat.sub_eq_zero_of_le h5
  rw [if_pos h0,h3 h0,List.eq_nil_of_length_eq_zero hR0]
 ·have h6:¬p≤above.length:=by omega
  rw [if_neg h0,h.hq,qQ h6]
  dsimp only
  rw [List.append_nil,Nat.add_zero]
def lnL (o:Option (List Bool × Nat)):List Bool:=match o with|some (l,_)=>l|none=>[]
def lnN (o:Option (List Bool × Nat)):Int:=match o with|some (_,n)=>n|none=>0
def lnE (o:Option (List Bool × Nat)):Int:=match o with|some _=>0|none=>8
theorem kQ:lnL none=[]:=rfl
theorem kR:lnN none=0:=rfl
theorem kN:lnE none=8:=rfl
theorem EF (l:List Bool) (n:Nat):lnL (some (l,n))=l:=rfl
theorem EG (l:List Bool) (n:Nat):lnN (some (l,n))=n:=rfl
theorem ED (l:List Bool) (n:Nat):lnE (some (l,n))=0:=rfl
set_option maxHeartbeats 16000000 in
theorem Fg (s:Bytes) (above:List Bool) (hs:s.length≤290000000000000) (hw:above.length≤4000) :
  aA Tryz.prog 113 [.str s,.ro (.bools above)] (.tup [.own 0,.int .i64 (lnN (dX false above s)),.int .i64 (lnE (dX false above s))]) [(0,.row 4 (.bools (lnL (dX false above s))))]:=by
 refine aA.aG Tryz.func113 rfl (by decide) (by simp [Tryz.f113]) [.tmp 4,.tmp 5,.tmp 6] rfl fun w0 T0 _=>?_
 simp only [Tryz.f113,au]
 (repeat' with_reducible first|intro _|exact dn|refine rn ?_|refine ra ?_ ?_)
 refine aF.intro (fun x:RLx=>⟨221,[(13,.int .i64 ((x.p:Int) - 1)),(12,.int .i64 x.n),(11,.bool x.k),(10,.fn 160 [.ptr 0 0]),(9,.ptr 0 0),(8,.int .i64 above.length),(7,.fn 159 []),(1,.ro (.bools above)),(0,.str s)],[(0,.box 22 [.own 1]),(1,.row 4 (.bools x.R))],2⟩) (U4 false above s) (fun x=>above.length+1 - x.p) ⟨0,false,0,[]⟩ ?_ (U4.first false above s) fun x hI=>?_
 ·refine aK.trans (aK.jH (P:=Tryz.prog) 1 0 4 e4 rfl rfl) (aK.ak rfl ?_ ?_)<;>simp only [go_sem,Int.natCast_succ,put]
  all_goals first|rfl|omega|exact ⟨rfl,rfl⟩
 obtain ⟨p,k,n,R⟩:=x
 have hI0:=hI
 obtain ⟨hp,hn,hR,_,_⟩:=hI
 dsimp only at hp hn hR ⊢
 by_cases hlt:p≤above.length∧0<above.length
 rotate_left
 ·obtain ⟨hrd,hRl⟩:=hI0.done hlt
  have kl:=Fe R above (by omega) hRl.symm
  have f3:((R.length:Int)=(above.length:Int))=True:=eq_true (by omega)
  have hres:dX false above s=if eX R above=s.take n then some (R,n) else none:=by unfold dX;rw [hrd]
  rw [hres]
  generalize eX R above=lb at *
  by_cases h1:(p:Int) - 1<(above.length:Int)
  ·have f1:((p:Int) - 1<(above.length:Int))=True:=eq_true h1
   have f2:(0<(above.length:Int))=False:=eq_false (by omega)
   by_cases hb:lb=s.take n
   ·rw [if_pos hb,EG,ED,EF]
    have f9:(lb=s.take n)=True:=eq_true hb
    (repeat' with_reducible first|intro _|refine rz ?_|refine ra ?_ ?_|omega|simp only [go_sem,f1,f2])
    refine aN.lex [] [] (by kernel_rfl) (by kernel_rfl) ?_
    (repeat' with_reducible first|intro _|refine rz ?_|refine ra ?_ ?_|omega|simp only [go_sem,f3])
    (refine QV.intro (.str lb) ?_ ?_;focus ((repeat' with_reducible first|intro _|exact dn|refine rn ?_|refine ra ?_ ?_);refine ah.k (kl) ?_;(repeat' with_reducible first|intro _|exact dn|refine rn ?_|refine ra ?_ ?_)))
    (repeat' with_reducible first|intro _|refine rz ?_|refine ra ?_ ?_|omega|simp only [go_sem,Nat.sub_zero,f3,f9])
    refine aU.auto 1 ?_ rfl ?_<;>simp only [go_sem,Int.natCast_succ,Post]
   ·rw [if_neg hb,kR,kN,kQ]
    have f9:(lb=s.take n)=False:=eq_false hb
    (repeat' with_reducible first|intro _|refine rz ?_|refine ra ?_ ?_|omega|simp only [go_sem,f1,f2])
    refine aN.lex [] [] (by kernel_rfl) (by kernel_rfl) ?_
    (repeat' with_reducible first|intro _|refine rz ?_|refine ra ?_ ?_|omega|simp only [go_sem,f3])
    (refine QV.intro (.str lb) ?_ ?_;focus ((repeat' with_reducible first|intro _|exact dn|refine rn ?_|refine ra ?_ ?_);refine ah.k (kl) ?_;(repeat' with_reducible first|intro _|exact dn|refine rn ?_|refine ra ?_ ?_)))
    (repeat' with_reducible first|intro _|refine rz ?_|refine ra ?_ ?_|omega|simp only [go_sem,Nat.sub_zero,f3,f9])
    refine ah.o jK 1 ?_
    (repeat' with_reducible first|intro _|exact dn|refine rn ?_|refine ra ?_ ?_)
    refine aU.auto 1 ?_ rfl ?_<;>simp only [go_sem,Int.natCast_succ,Post]
  ·have f1:((p:Int) - 1<(above.length:Int))=False:=eq_false h1
   by_cases hb:lb=s.take n
   ·rw [if_pos hb,EG,ED,EF]
    have f9:(lb=s.take n)=True:=eq_true hb
    (repeat' with_reducible first|intro _|refine rz ?_|refine ra ?_ ?_|omega|simp only [go_sem,f1])
    refine aN.lex [] [] (by kernel_rfl) (by kernel_rfl) ?_
    (repeat' with_reducible first|intro _|refine rz ?_|refine ra ?_ ?_|omega|simp only [go_sem,f3])
    (refine QV.intro (.str lb) ?_ ?_;focus ((repeat' with_reducible first|intro _|exact dn|refine rn ?_|refine ra ?_ ?_);refine ah.k (kl) ?_;(repeat' with_reducible first|intro _|exact dn|refine rn ?_|refine ra ?_ ?_)))
    (repeat' with_reducible first|intro _|refine rz ?_|refine ra ?_ ?_|omega|simp only [go_sem,Nat.sub_zero,f3,f9])
    refine aU.auto 1 ?_ rfl ?_<;>simp only [go_sem,Int.natCast_succ,Post]
   ·rw [if_neg hb,kR,kN,kQ]
    have f9:(lb=s.take n)=False:=eq_false hb
    (repeat' with_reducible first|intro _|refine rz ?_|refine ra ?_ ?_|omega|simp only [go_sem,f1])
    refine aN.lex [] [] (by kernel_rfl) (by kernel_rfl) ?_
    (repeat' with_reducible first|intro _|refine rz ?_|refine ra ?_ ?_|omega|simp only [go_sem,f3])
    (refine QV.intro (.str lb) ?_ ?_;focus ((repeat' with_reducible first|intro _|exact dn|refine rn ?_|refine ra ?_ ?_);refine ah.k (kl) ?_;(repeat' with_reducible first|intro _|exact dn|refine rn ?_|refine ra ?_ ?_)))
    (repeat' with_reducible first|intro _|refine rz ?_|refine ra ?_ ?_|omega|simp only [go_sem,Nat.sub_zero,f3,f9])
    refine ah.o jK 1 ?_
    (repeat' with_reducible first|intro _|exact dn|refine rn ?_|refine ra ?_ ?_)
    refine aU.auto 1 ?_ rfl ?_<;>simp only [go_sem,Int.natCast_succ,Post]
 obtain ⟨hle,h0⟩:=hlt
 have f1:((p:Int) - 1<(above.length:Int))=True:=eq_true (by omega)
 have f2:(0<(above.length:Int))=True:=eq_true (by omega)
 have k3:=XD above p ((p:Int) - 1) k rfl (by omega) (by omega)
 obtain ⟨b1,hB1⟩:∃ b1,fV above p (!k)=b1:=⟨_,rfl⟩
 have hb1:=kG (r:=above) (i:=p) hle (!k)
 rw [hB1] at k3 hb1
 obtain ⟨b2,hB2⟩:∃ b2,dS above (b1+1)=b2:=⟨_,rfl⟩
 rw [hB2] at k3
 have b2a:b1≤b2:=by
  by_cases h:b1<above.length
  ·have:=jf (r:=above) (i:=b1+1) (by omega);omega
  ·rw [iH (by omega)] at hB2;omega
 have b2b:b2≤above.length:=by rw [←hB2];exact gW _ _
 have hmx:max ((p:Int) - 1) 0=((p - 1:Nat):Int):=by omega
 have htk:(s.drop n).take (s.length - n)=s.drop n:=List.take_of_length_le (by rw [List.length_drop];exact Nat.le_refl _)
 have hyl:(s.drop n).length=s.length - n:=List.length_drop ..
 have e3:(s.drop n).drop 3=s.drop (n+3):=List.drop_drop
 have hcc:=D6 (s.drop n)
 have hcl:=@wR (s.drop n)
 have hstep:∀ z,z=rdStep false above (s.drop n) p k→z=rdStep false above (s.drop n) p k:=fun _ h=>h
 have kp:=gZ (s.drop n) [48,48,48,49]
 have kq:=gZ (s.drop n) [48,48,49]
 (repeat' with_reducible first|intro _|refine rz ?_|refine ra ?_ ?_|omega|simp only [go_sem,f1,f2])
 refine ah.k k3 ?_
 (repeat' with_reducible first|intro _|refine rz ?_|refine ra ?_ ?_|omega|simp only [go_sem,htk])
 rcases hcc with ⟨c1,c2⟩|⟨c1,j,c3,c2,c4,c5⟩|⟨c1,c4,hc⟩
 ·have c1':([48,48,48,49]:Bytes).isPrefixOf (s.drop n)=true:=c1
  rw [c1'] at kp
  have hst:rdStep false above (s.drop n) p k=some ⟨b2+1,k,List.replicate (b2 - (p - 1)) k,4⟩:=by unfold rdStep;rw [if_pos c2,hB1,hB2]
  obtain ⟨g1,g2,g3⟩:=hI0.step hle h0 hst
  have kf:=rW R b2 k (by omega) (by omega)
  rw [hR] at kf
  have f3:((b2:Int)≤(p:Int) - 1)=False:=eq_false (by omega)
  have f4:((above.length:Int)<(b2:Int))=False:=eq_false (by omega)
  refine ah.k kp ?_
  (repeat' with_reducible first|intro _|refine rz ?_|refine ra ?_ ?_|omega|simp only [go_sem,f3,f4])
  refine ah.i [0,1] kf 3 ?_
  (repeat' with_reducible first|intro _|exact dn|refine rn ?_|refine ra ?_ ?_)
  refine ⟨⟨b2+1,k,n+4,R++List.replicate (b2 - (p - 1)) k⟩,aK.ak rfl ?_ ?_,g1,by dsimp only;omega⟩<;>simp only [go_sem,Int.natCast_succ]
  all_goals first|rfl|omega|(refine ⟨?_,?_⟩<;>first|rfl|omega)
 ·have c1':([48,48,48,49]:Bytes).isPrefixOf (s.drop n)=false:=c1
  rw [c1'] at kp
  have ki:=RS (s.drop n) j (by omega) c4 (fun _=>c5)
  rw [if_pos c3] at ki
  have hnl:aO.length=7:=rfl
  have hcl2:(aO.getD j []).length≤7:=EP j
  refine ah.k kp ?_
  (repeat' with_reducible first|intro _|exact dn|refine rn ?_|refine ra ?_ ?_)
  refine ah.ro (.ro (.strs aO)) (cO.eY iU rfl (by simp [fQ,fP,jh,iQ,lG])) (by simp only [aI,aS,bH,aV,aH,List.drop_zero,lk,reduceIte,reduceCtorEq,Nat.reduceEqDiff,Option.some.injEq,Item.row.injEq,Item.box.injEq,AV.ro.injEq,exists_eq_left,exists_and_left,exists_eq_left',exists_eq_right,and_assoc,and_true,true_and,List.cons.injEq,exists_eq',exists_eq]) (by simp [dJ,aS,aV,bH,aH,lk,aI]) rfl ?_
  (repeat' with_reducible first|intro _|exact dn|refine rn ?_|refine ra ?_ ?_)
  refine ah.k ki ?_
  have f3:(0≤(j:Int))=True:=eq_true (by omega)
  by_cases hok:p+3≤b1+j∧b1+j≤above.length+3
  ·obtain ⟨t,ht⟩:∃ t,t+3=b1+j:=⟨b1+j - 3,by omega⟩
   have hst:rdStep false above (s.drop n) p k=some ⟨t+1,!k,List.replicate (t - (p - 1)) k,(aO.getD j []).length⟩:=by
    unfold rdStep
    rw [c2,if_neg (by omega),if_pos (by omega),hB1,if_pos (by omega),show b1+(j+1) - 4=t by omega,Nat.add_sub_cancel]
   obtain ⟨g1,g2,g3⟩:=hI0.step hle h0 hst
   have kf:=rW R t k (by omega) (by omega)
   rw [hR] at kf
   have hv:(b1:Int)+(j:Int) - 3=(t:Int):=by omega
   have f4:((t:Int)≤(p:Int) - 1)=False:=eq_false (by omega)
   have f5:((above.length:Int)<(t:Int))=False:=eq_false (by omega)
   (repeat' with_reducible first|intro _|refine rz ?_|refine ra ?_ ?_|omega|simp only [go_sem,f3,hv,f4,f5])
   refine ah.i [0,1] kf 3 ?_
   (repeat' with_reducible first|intro _|exact dn|refine rn ?_|refine ra ?_ ?_)
   refine ah.ro (.ro (.strs aO)) (cO.eY iU rfl (by simp [fQ,fP,jh,iQ,lG])) (by simp only [aI,aS,bH,aV,aH,List.drop_zero,lk,reduceIte,reduceCtorEq,Nat.reduceEqDiff,Option.some.injEq,Item.row.injEq,Item.box.injEq,AV.ro.injEq,exists_eq_left,exists_and_left,exists_eq_left',exists_eq_right,and_assoc,and_true,true_and,List.cons.injEq,exists_eq',exists_eq]) (by simp [dJ,aS,aV,bH,aH,lk,aI]) rfl ?_
   (repeat' with_reducible first|intro _|refine rz ?_|refine ra ?_ ?_|omega|simp only [go_sem,hnl])
   refine ⟨⟨t+1,!k,n+(aO.getD j []).length,R++List.replicate (t - (p - 1)) k⟩,aK.ak rfl ?_ ?_,g1,by dsimp only;omega⟩<;>simp only [go_sem,Int.natCast_succ]
   all_goals first|rfl|omega|(refine ⟨?_,?_⟩<;>first|rfl|omega)
  ·have hst:rdStep false above (s.drop n) p k=none:=by
    unfold rdStep
    rw [c2,if_neg (by omega),if_pos (by omega),hB1,if_neg (by omega)]
   rw [hI0.fail hle h0 hst,kR,kN,kQ]
   by_cases h4:(above.length:Int)<(b1:Int)+(j:Int) - 3
   ·have f4:((above.length:Int)<(b1:Int)+(j:Int) - 3)=True:=eq_true h4
    (repeat' with_reducible first|intro _|refine rz ?_|refine ra ?_ ?_|omega|simp only [go_sem,f3,f4])
    refine ah.o jK 1 ?_
    (repeat' with_reducible first|intro _|exact dn|refine rn ?_|refine ra ?_ ?_)
    refine aU.auto 1 ?_ rfl ?_<;>simp only [go_sem,Int.natCast_succ,Post]
   ·have f4:((above.length:Int)<(b1:Int)+(j:Int) - 3)=False:=eq_false h4
    have f5:((b1:Int)+(j:Int) - 3≤(p:Int) - 1)=True:=eq_true (by omega)
    by_cases h6:(p:Int) - 1<0
    ·have f6:((p:Int) - 1<0)=True:=eq_true h6
     have f7:((b1:Int)+(j:Int) - 3=0)=False:=eq_false (by omega)
     (repeat' with_reducible first|intro _|refine rz ?_|refine ra ?_ ?_|omega|simp only [go_sem,f3,f4,f5,f6,f7])
     refine ah.o jK 1 ?_
     (repeat' with_reducible first|intro _|exact dn|refine rn ?_|refine ra ?_ ?_)
     refine aU.auto 1 ?_ rfl ?_<;>simp only [go_sem,Int.natCast_succ,Post]
    ·have f6:((p:Int) - 1<0)=False:=eq_false h6
     (repeat' with_reducible first|intro _|refine rz ?_|refine ra ?_ ?_|omega|simp only [go_sem,f3,f4,f5,f6])
     refine ah.o jK 1 ?_
     (repeat' with_reducible first|intro _|exact dn|refine rn ?_|refine ra ?_ ?_)
     refine aU.auto 1 ?_ rfl ?_<;>simp only [go_sem,Int.natCast_succ,Post]
 have c1':([48,48,48,49]:Bytes).isPrefixOf (s.drop n)=false:=c1
 rw [c1'] at kp
 have ki:=RS (s.drop n) 7 (by omega) c4 (fun h=>absurd h (by decide))
 rw [if_neg (by decide)] at ki
 refine ah.k kp ?_
 (repeat' with_reducible first|intro _|exact dn|refine rn ?_|refine ra ?_ ?_)
 refine ah.ro (.ro (.strs aO)) (cO.eY iU rfl (by simp [fQ,fP,jh,iQ,lG])) (by simp only [aI,aS,bH,aV,aH,List.drop_zero,lk,reduceIte,reduceCtorEq,Nat.reduceEqDiff,Option.some.injEq,Item.row.injEq,Item.box.injEq,AV.ro.injEq,exists_eq_left,exists_and_left,exists_eq_left',exists_eq_right,and_assoc,and_true,true_and,List.cons.injEq,exists_eq',exists_eq]) (by simp [dJ,aS,aV,bH,aH,lk,aI]) rfl ?_
 (repeat' with_reducible first|intro _|exact dn|refine rn ?_|refine ra ?_ ?_)
 refine ah.k ki ?_
 (repeat' with_reducible first|intro _|exact dn|refine rn ?_|refine ra ?_ ?_)
 rcases hc with ⟨c5,c2⟩|⟨c5,c2⟩
 rotate_left
 ·have c5':([48,48,49]:Bytes).isPrefixOf (s.drop n)=false:=c5
  rw [c5'] at kq
  have hst:rdStep false above (s.drop n) p k=none:=by
   unfold rdStep
   rw [c2,if_neg (by decide),if_neg (by decide),if_neg (by decide)]
  rw [hI0.fail hle h0 hst,kR,kN,kQ]
  refine ah.k kq ?_
  (repeat' with_reducible first|intro _|exact dn|refine rn ?_|refine ra ?_ ?_)
  refine ah.o jK 1 ?_
  (repeat' with_reducible first|intro _|exact dn|refine rn ?_|refine ra ?_ ?_)
  refine aU.auto 1 ?_ rfl ?_<;>simp only [go_sem,Int.natCast_succ,Post]
 have h3:=(hcl (by omega)).2.1 c2
 rw [List.length_drop] at h3
 have c5':([48,48,49]:Bytes).isPrefixOf (s.drop n)=true:=c5
 rw [c5'] at kq
 have hst0:rdStep false above (s.drop n) p k=sJ false above.length (s.drop n) p k:=by
  unfold rdStep
  rw [c2,if_neg (by decide),if_neg (by decide),if_pos rfl]
 have kn:=uG (s.drop (n+3)) (by rw [List.length_drop];omega)
 have ht3:(s.drop (n+3)).take (s.length - n - 3)=s.drop (n+3):=List.take_of_length_le (by rw [List.length_drop];omega)
 refine ah.k kq ?_
 (repeat' with_reducible first|intro _|refine rz ?_|refine ra ?_ ?_|omega|simp only [go_sem,hyl,e3,ht3])
 cases hg1:pG (s.drop (n+3)) with
 | none=>
  obtain ⟨r1,r2,r3⟩:=qN hg1
  rw [r1,r2,r3] at kn
  have hst:rdStep false above (s.drop n) p k=none:=by rw [hst0];unfold sJ;rw [e3,hg1]
  rw [hI0.fail hle h0 hst,kR,kN,kQ]
  refine ah.k kn ?_
  (repeat' with_reducible first|intro _|exact dn|refine rn ?_|refine ra ?_ ?_)
  refine ah.o jK 1 ?_
  (repeat' with_reducible first|intro _|exact dn|refine rn ?_|refine ra ?_ ?_)
  refine aU.auto 1 ?_ rfl ?_<;>simp only [go_sem,Int.natCast_succ,Post]
 | some z1=>
 obtain ⟨m1,l1⟩:=z1
 obtain ⟨r1,r2,r3⟩:=qO hg1
 rw [r1,r2,r3] at kn
 obtain ⟨w1,w2,w3⟩:=kU hg1
 have w4:=y7 hg1
 rw [List.length_drop] at w1
 have kn2:=uG (s.drop (n+3+l1)) (by rw [List.length_drop];omega)
 have e4:(s.drop n).drop (3+l1)=s.drop (n+3+l1):=by rw [List.drop_drop,Nat.add_assoc]
 have ht4:(s.drop (n+3+l1)).take (s.length - n - (3+l1))=s.drop (n+3+l1):=List.take_of_length_le (by rw [List.length_drop];omega)
 have hi4:((3:Int)+(l1:Int)).toNat=3+l1:=by omega
 refine ah.k kn ?_
 (repeat' with_reducible first|intro _|refine rz ?_|refine ra ?_ ?_|omega|simp only [go_sem,hyl,hi4,e4,ht4])
 cases hg2:pG (s.drop (n+3+l1)) with
 | none=>
  obtain ⟨r1,r2,r3⟩:=qN hg2
  rw [r1,r2,r3] at kn2
  have hst:rdStep false above (s.drop n) p k=none:=by rw [hst0];unfold sJ;rw [e3,hg1];dsimp only;rw [e4,hg2]
  rw [hI0.fail hle h0 hst,kR,kN,kQ]
  refine ah.k kn2 ?_
  (repeat' with_reducible first|intro _|exact dn|refine rn ?_|refine ra ?_ ?_)
  refine ah.o jK 1 ?_
  (repeat' with_reducible first|intro _|exact dn|refine rn ?_|refine ra ?_ ?_)
  refine aU.auto 1 ?_ rfl ?_<;>simp only [go_sem,Int.natCast_succ,Post]
 | some z2=>
 obtain ⟨m2,l2⟩:=z2
 obtain ⟨r1,r2,r3⟩:=qO hg2
 rw [r1,r2,r3] at kn2
 obtain ⟨w5,w6,w7⟩:=kU hg2
 have w8:=y7 hg2
 rw [List.length_drop] at w5
 obtain ⟨A1,hA1⟩:∃ A1,p - 1+(m1 - 1)=A1:=⟨_,rfl⟩
 obtain ⟨A2,hA2⟩:∃ A2,A1+(m2 - 1)=A2:=⟨_,rfl⟩
 have hv1:((p - 1:Nat):Int)+(m1:Int) - 1=(A1:Int):=by omega
 have hv2:(A1:Int)+(m2:Int) - 1=(A2:Int):=by omega
 have hstf:rdStep false above (s.drop n) p k=if (false=true→p≤A1)∧A2≤above.length∧p≤A2 then some ⟨A2+1,k,List.replicate (m1 - 1) k++List.replicate (m2 - 1) (!k),3+l1+l2⟩ else none:=by
  rw [hst0];unfold sJ;rw [e3,hg1];dsimp only;rw [e4,hg2];dsimp only;rw [hA1,hA2]
 refine ah.k kn2 ?_
 by_cases h5:A2≤above.length
 rotate_left
 ·have hst:=hstf
  rw [if_neg (fun h=>h5 h.2.1)] at hst
  have f5:((above.length:Int)<(A2:Int))=True:=eq_true (by omega)
  rw [hI0.fail hle h0 hst,kR,kN,kQ]
  (repeat' with_reducible first|intro _|refine rz ?_|refine ra ?_ ?_|omega|simp only [go_sem,hmx,hv1,hv2,f5])
  refine ah.o jK 1 ?_
  (repeat' with_reducible first|intro _|exact dn|refine rn ?_|refine ra ?_ ?_)
  refine aU.auto 1 ?_ rfl ?_<;>simp only [go_sem,Int.natCast_succ,Post]
 have f5:((above.length:Int)<(A2:Int))=False:=eq_false (by omega)
 have f6:((above.length:Int)<(A1:Int))=False:=eq_false (by omega)
 have kf:=rW R A1 k (by omega) (by omega)
 rw [hR,show A1 - (p - 1)=m1 - 1 by omega] at kf
 have hRl:(R++List.replicate (m1 - 1) k).length=A1:=by rw [List.length_append,List.length_replicate];omega
 have kf2:=rW (R++List.replicate (m1 - 1) k) A2 (!k) (by omega) (by omega)
 rw [hRl,show A2 - A1=m2 - 1 by omega,List.append_assoc] at kf2
 (repeat' with_reducible first|intro _|refine rz ?_|refine ra ?_ ?_|omega|simp only [go_sem,hmx,hv1,hv2,f5,f6])
 refine ah.i [0,1] kf 3 ?_
 (repeat' with_reducible first|intro _|exact dn|refine rn ?_|refine ra ?_ ?_)
 refine ah.i [0,3] kf2 3 ?_
 by_cases hok:p≤A2
 ·have hst:=hstf
  rw [if_pos ⟨(by intro h;cases h),h5,hok⟩] at hst
  obtain ⟨g1,g2,g3⟩:=hI0.step hle h0 hst
  have f7:((A2:Int)≤(p:Int) - 1)=False:=eq_false (by omega)
  (repeat' with_reducible first|intro _|refine rz ?_|refine ra ?_ ?_|omega|simp only [go_sem,f7])
  refine ⟨⟨A2+1,k,n+(3+l1+l2),R++(List.replicate (m1 - 1) k++List.replicate (m2 - 1) (!k))⟩,aK.ak rfl ?_ ?_,g1,by dsimp only;omega⟩<;>simp only [go_sem,Int.natCast_succ]
  all_goals first|rfl|omega|(refine ⟨?_,?_⟩<;>first|rfl|omega)
 ·have hst:=hstf
  rw [if_neg (fun h=>hok h.2.2)] at hst
  have f7:((A2:Int)≤(p:Int) - 1)=True:=eq_true (by omega)
  rw [hI0.fail hle h0 hst,kR,kN,kQ]
  (repeat' with_reducible first|intro _|refine rz ?_|refine ra ?_ ?_|omega|simp only [go_sem,f7])
  refine ah.o jK 1 ?_
  (repeat' with_reducible first|intro _|exact dn|refine rn ?_|refine ra ?_ ?_)
  refine aU.auto 1 ?_ rfl ?_<;>simp only [go_sem,Int.natCast_succ,Post]
end Go.Fv.H
/- The reference's read at runs: the walk. -/
namespace Go.Fv.H
open Go Go.Proofs
set_option maxHeartbeats 16000000 in
theorem NH (w h:Nat) (hw0:0<w) (hw:w≤4000) (hh:h≤4000) (hwh:w*h≤1048576) (d:Bytes) (hd:d.length≤100000000) :
  aA Tryz.prog 73 [.int .i64 2,.str d,.int .i64 w,.int .i64 h] (.tup [.agg [.int .i64 w,.int .i64 h,.own 0],.bool (dR w h (iE d)).2]) [(0,.row 4 (.bools (dR w h (iE d)).1))]:=by
 have k:=lV d (by omega)
 have hl:=vU d
 generalize iE d=s at *
 obtain ⟨R,hR⟩:∃ R,dR w h s=R:=⟨_,rfl⟩
 rw [hR]
 refine aA.aG Tryz.func73 rfl (by decide) (by simp [Tryz.f73]) [.cell 8 24,.tmp 9] rfl fun w0 T0 _=>?_
 simp only [Tryz.f73,au]
 (repeat' with_reducible first|intro _|exact dn|refine rn ?_|refine ra ?_ ?_)
 refine ah.k k ?_
 (repeat' with_reducible first|intro _|exact dn|refine rn ?_|refine ra ?_ ?_)
 refine aF.intro (fun x:aaJ=>⟨141,[(90,.int .i64 x.y),(89,.int .i64 h),(11,.str x.s),(10,.ptr 1 0),(8,.ptr 0 0),(2,.int .i64 w),(3,.int .i64 h)],[(0,.box 24 [.int .i64 0,.int .i64 0,.nilS]),(1,.box 24 [.int .i64 w,.int .i64 h,.own 2]),(2,.row 4 (.bools x.acc))],3⟩) (fun x=>x.y≤h∧x.s.length≤s.length∧x.acc.length=x.y*w∧R=(x.acc++(dR w (h - x.y) x.s).1,(dR w (h - x.y) x.s).2)) (fun x=>h - x.y) ⟨0,s,[]⟩ ?_ ⟨Nat.zero_le _,Nat.le_refl _,(Nat.zero_mul w).symm,hR.symm⟩ fun x hx=>?_
 ·refine aK.trans (aK.jH (P:=Tryz.prog) 1 2 4 e4 rfl rfl) (aK.ak rfl ?_ ?_)<;>simp only [go_sem,Int.natCast_succ,put]
 obtain ⟨y,t,acc⟩:=x
 obtain ⟨hy,ht,hacc,hRx⟩:=hx
 dsimp only at hy ht hacc hRx ⊢
 by_cases hlt:y<h
 rotate_left
 ·have f1:((y:Int)<(h:Int))=False:=eq_false (by omega)
  have e:y=h:=by omega
  subst e
  rw [Nat.sub_self] at hRx
  have hR2:R=(acc,true):=by rw [hRx];show (acc++[],true)=_;rw [List.append_nil]
  rw [hR2]
  have e1:(w:Int)*(y:Int)=((w*y:Nat):Int):=(Int.natCast_mul w y).symm
  have hfull:((acc.length:Int)=((w*y:Nat):Int))=True:=eq_true (by rw [hacc,Nat.mul_comm])
  (repeat' with_reducible first|intro _|refine rz ?_|refine ra ?_ ?_|omega|simp only [go_sem,f1])
  refine aN.lex [8] [(1,[1]),(2,[1]),(3,[1]),(4,[1]),(5,[1]),(6,[1]),(7,[1])] (by kernel_rfl) (by kernel_rfl) ?_
  (repeat' with_reducible first|intro _|refine rz ?_|refine ra ?_ ?_|omega|simp only [go_sem,e1,hfull])
  refine aU.of [(0,2)] 1 ?_ (by rfl) ?_<;>simp only [go_sem,Int.natCast_succ,Post]
 have f1:((y:Int)<(h:Int))=True:=eq_true (by omega)
 have hk:h - y=(h - (y+1))+1:=by omega
 rw [hk] at hRx
 have hRq:R=(acc++(jO (dR w (h - (y+1))) (fK w 0 false t)).1,(jO (dR w (h - (y+1))) (fK w 0 false t)).2):=hRx
 clear hRx
 obtain ⟨F,hF⟩:∃ F,dR w (h - (y+1))=F:=⟨_,rfl⟩
 rw [hF] at hRq
 have hyw:y*w+w≤1048576:=by
  have h1:y*w+w≤h*w:=by rw [←Nat.succ_mul];exact Nat.mul_le_mul_right _ hlt
  have h2:h*w=w*h:=Nat.mul_comm _ _
  omega
 generalize hyv:y*w=yw at *
 (repeat' with_reducible first|intro _|refine rz ?_|refine ra ?_ ?_|omega|simp only [go_sem,f1])
 refine aF.intro (fun x:aaI=>⟨141,[(14,.int .i64 x.n),(15,.bool x.ink),(90,.int .i64 y),(89,.int .i64 h),(11,.str x.s),(10,.ptr 1 0),(8,.ptr 0 0),(2,.int .i64 w),(3,.int .i64 h)],[(0,.box 24 [.int .i64 0,.int .i64 0,.nilS]),(1,.box 24 [.int .i64 w,.int .i64 h,.own 2]),(2,.row 4 (.bools x.acc))],3⟩) (fun x=>x.n≤w∧x.s.length≤s.length∧x.acc.length=yw+x.n∧R=(x.acc++(jO F (fK w x.n x.ink x.s)).1,(jO F (fK w x.n x.ink x.s)).2)) (fun x=>x.s.length) ⟨0,false,t,acc⟩ ?_ ⟨Nat.zero_le _,ht,by dsimp only;omega,hRq⟩ fun x hx=>?_
 ·refine aK.ak rfl ?_ ?_<;>simp only [go_sem,Int.natCast_succ]
  all_goals first|rfl|exact ⟨rfl,rfl⟩|trace_state
 clear hRq
 obtain ⟨n,ink,u,ac⟩:=x
 obtain ⟨hn,hu,hac,hRu⟩:=hx
 dsimp only at hn hu hac hRu ⊢
 by_cases hnw:n<w
 rotate_left
 ·have f2:((n:Int)<(w:Int))=False:=eq_false (by omega)
  have e:n=w:=by omega
  rw [vJ hnw] at hRu
  have hR3:R=(ac++(F u).1,(F u).2):=hRu
  (repeat' with_reducible first|intro _|refine rz ?_|refine ra ?_ ?_|omega|simp only [go_sem,f2])
  refine ⟨⟨y+1,u,ac⟩,aK.ak rfl ?_ ?_,⟨by dsimp only;omega,hu,by dsimp only;rw [Nat.succ_mul];omega,by dsimp only;rw [hF];exact hR3⟩,by dsimp only;omega⟩<;>simp only [go_sem,Int.natCast_succ]
  all_goals first|rfl|omega|trace_state
 have f2:((n:Int)<(w:Int))=True:=eq_true (by omega)
 have kg:=uG u (by omega)
 cases hrd:pG u with
 | none=>
  obtain ⟨r1,r2,r3⟩:=qN hrd
  rw [r1,r2,r3] at kg
  rw [xA hnw ink hrd] at hRu
  have hR3:R=(ac,false):=by rw [hRu];show (ac++[],false)=_;rw [List.append_nil]
  rw [hR3]
  (repeat' with_reducible first|intro _|refine rz ?_|refine ra ?_ ?_|omega|simp only [go_sem,f2])
  refine ah.k kg ?_
  (repeat' with_reducible first|intro _|exact dn|refine rn ?_|refine ra ?_ ?_)
  refine aU.of [(0,2)] 1 ?_ (by rfl) ?_<;>simp only [go_sem,Int.natCast_succ,Post]
 | some z=>
  obtain ⟨m,l⟩:=z
  obtain ⟨r1,r2,r3⟩:=qO hrd
  rw [r1,r2,r3] at kg
  obtain ⟨q1,q2⟩:=Dj hrd
  obtain ⟨q3,q4,q5⟩:=kU hrd
  have hmI:(m:Int) - 1=((m - 1:Nat):Int):=by omega
  by_cases hov:w - n<m - 1
  ·rw [xB hnw ink hrd hov] at hRu
   have hR3:R=(ac,false):=by rw [hRu];show (ac++[],false)=_;rw [List.append_nil]
   rw [hR3]
   have f3:((w:Int) - (n:Int)<((m - 1:Nat):Int))=True:=eq_true (by omega)
   (repeat' with_reducible first|intro _|refine rz ?_|refine ra ?_ ?_|omega|simp only [go_sem,f2])
   refine ah.k kg ?_
   (repeat' with_reducible first|intro _|refine rz ?_|refine ra ?_ ?_|omega|simp only [go_sem,hmI,f3])
   refine aU.of [(0,2)] 1 ?_ (by rfl) ?_<;>simp only [go_sem,Int.natCast_succ,Post]
  rw [rX hnw ink hrd hov] at hRu
  have hR3:R=(ac++List.replicate (m - 1) ink++(jO F (fK w (n+(m - 1)) (!ink) (u.drop l))).1,(jO F (fK w (n+(m - 1)) (!ink) (u.drop l))).2):=by
   rw [hRu]
   generalize fK w (n+(m - 1)) (!ink) (u.drop l)=q
   obtain ⟨q1,q2⟩:=q
   cases q2 with
   | none=>show (ac++(List.replicate (m - 1) ink++q1),false)=(ac++List.replicate (m - 1) ink++q1,false);rw [List.append_assoc]
   | some v=>show (ac++(List.replicate (m - 1) ink++q1++(F v).1),(F v).2)=(ac++List.replicate (m - 1) ink++(q1++(F v).1),(F v).2);rw [List.append_assoc,List.append_assoc]
  have f3:((w:Int) - (n:Int)<((m - 1:Nat):Int))=False:=eq_false (by omega)
  have htl:(u.drop l).take (u.length - l)=u.drop l:=List.take_of_length_le (by rw [List.length_drop];exact Nat.le_refl _)
  have hdl:(u.drop l).length=u.length - l:=List.length_drop
  obtain ⟨u2,hu2⟩:∃ u2,u.drop l=u2:=⟨_,rfl⟩
  rw [hu2] at hR3 hdl
  rw [hu2] at htl
  have htl2:(u.drop l).take (u.length - l)=u2:=by rw [hu2];exact htl
  (repeat' with_reducible first|intro _|refine rz ?_|refine ra ?_ ?_|omega|simp only [go_sem,f2])
  refine ah.k kg ?_
  (repeat' with_reducible first|intro _|refine rz ?_|refine ra ?_ ?_|omega|simp only [go_sem,hmI,f3,htl2])
  refine aF.intro (fun j:Nat=>⟨141,[(119,.int .i64 j),(118,.int .i64 (m - 1:Nat)),(16,.int .i64 m),(14,.int .i64 n),(15,.bool ink),(90,.int .i64 y),(89,.int .i64 h),(11,.str u2),(10,.ptr 1 0),(8,.ptr 0 0),(2,.int .i64 w),(3,.int .i64 h)],[(0,.box 24 [.int .i64 0,.int .i64 0,.nilS]),(1,.box 24 [.int .i64 w,.int .i64 h,.own 2]),(2,.row 4 (.bools (ac++List.replicate j ink)))],3⟩) (fun j=>j≤m - 1) (fun j=>m - 1 - j) 0 ?_ (Nat.zero_le _) fun j hj=>?_
  ·refine aK.ak rfl ?_ ?_<;>simp only [go_sem,Int.natCast_succ]
   all_goals first|rfl|exact ⟨rfl,rfl⟩|trace_state
  by_cases hjl:j<m - 1
  ·have f4:((j:Int)<((m - 1:Nat):Int))=True:=eq_true (by omega)
   have hrs:ac++List.replicate j ink++[ink]=ac++List.replicate (j+1) ink:=by rw [List.append_assoc,List.replicate_succ']
   have hrl:(ac++List.replicate j ink).length=ac.length+j:=by rw [List.length_append,List.length_replicate]
   (repeat' with_reducible first|intro _|refine rz ?_|refine ra ?_ ?_|omega|simp only [go_sem,f4,hrl])
   refine ⟨j+1,aK.ak rfl ?_ ?_,by omega,by omega⟩<;>simp only [go_sem,Int.natCast_succ,hrs]
   all_goals first|rfl|trace_state
  ·have f4:((j:Int)<((m - 1:Nat):Int))=False:=eq_false (by omega)
   have e:j=m - 1:=by omega
   subst e
   have hnn:(n:Int)+((m - 1:Nat):Int)=((n+(m - 1):Nat):Int):=by omega
   (repeat' with_reducible first|intro _|refine rz ?_|refine ra ?_ ?_|omega|simp only [go_sem,f4,hmI,hnn])
   refine ⟨⟨n+(m - 1),!ink,u2,ac++List.replicate (m - 1) ink⟩,aK.ak rfl ?_ ?_,⟨by dsimp only;omega,by dsimp only;omega,by dsimp only;rw [List.length_append,List.length_replicate];omega,hR3⟩,by dsimp only;omega⟩<;>simp only [go_sem,Int.natCast_succ]
   all_goals first|rfl|omega|exact ⟨rfl,rfl⟩|trace_state
end Go.Fv.H
/- The reference's read at lines: the walk. -/
namespace Go.Fv.H
open Go Go.Proofs
set_option maxHeartbeats 16000000 in
theorem NI (w h:Nat) (hw0:0<w) (hw:w≤4000) (hh:h≤4000) (hwh:w*h≤1048576) (d:Bytes) (hd:d.length≤100000000) :
  aA Tryz.prog 73 [.int .i64 3,.str d,.int .i64 w,.int .i64 h] (.tup [.agg [.int .i64 w,.int .i64 h,.own 0],.bool (dw h (List.replicate w false) (iE d)).2]) [(0,.row 4 (.bools (dw h (List.replicate w false) (iE d)).1))]:=by
 have k:=lV d (by omega)
 have hl:=vU d
 generalize iE d=s at *
 obtain ⟨R,hR⟩:∃ R,dw h (List.replicate w false) s=R:=⟨_,rfl⟩
 rw [hR]
 refine aA.aG Tryz.func73 rfl (by decide) (by simp [Tryz.f73]) [.cell 8 24,.tmp 9] rfl fun w0 T0 _=>?_
 simp only [Tryz.f73,au]
 (repeat' with_reducible first|intro _|exact dn|refine rn ?_|refine ra ?_ ?_)
 refine ah.k k ?_
 (repeat' with_reducible first|intro _|exact dn|refine rn ?_|refine ra ?_ ?_)
 refine aF.intro (fun x:aaH=>⟨141,[(40,.int .i64 x.y),(39,.int .i64 h),(19,.own 2),(11,.str x.s),(10,.ptr 1 0),(8,.ptr 0 0),(2,.int .i64 w),(3,.int .i64 h)],[(0,.box 24 [.int .i64 0,.int .i64 0,.nilS]),(1,.box 24 [.int .i64 w,.int .i64 h,.own 3]),(2,.row 4 (.bools x.ab)),(3,.row 4 (.bools x.acc))],4⟩) (fun x=>x.y≤h∧x.s.length≤s.length∧x.ab.length=w∧x.acc.length=x.y*w∧R=(x.acc++(dw (h - x.y) x.ab x.s).1,(dw (h - x.y) x.ab x.s).2)) (fun x=>h - x.y) ⟨0,List.replicate w false,s,[]⟩ ?_ ⟨Nat.zero_le _,Nat.le_refl _,List.length_replicate,(Nat.zero_mul w).symm,hR.symm⟩ fun x hx=>?_
 ·refine aK.trans (aK.jH (P:=Tryz.prog) 1 2 4 e4 rfl rfl) (aK.ak rfl ?_ ?_)<;>simp only [go_sem,Int.natCast_succ,put]
  all_goals first|rfl|exact ⟨rfl,rfl⟩|trace_state
 obtain ⟨y,ab,t,acc⟩:=x
 obtain ⟨hy,ht,hab,hacc,hRx⟩:=hx
 dsimp only at hy ht hab hacc hRx ⊢
 by_cases hlt:y<h
 rotate_left
 ·have f1:((y:Int)<(h:Int))=False:=eq_false (by omega)
  have e:y=h:=by omega
  subst e
  rw [Nat.sub_self] at hRx
  have hR2:R=(acc,true):=by rw [hRx];show (acc++[],true)=_;rw [List.append_nil]
  rw [hR2]
  have e1:(w:Int)*(y:Int)=((w*y:Nat):Int):=(Int.natCast_mul w y).symm
  have hfull:((acc.length:Int)=((w*y:Nat):Int))=True:=eq_true (by rw [hacc,Nat.mul_comm])
  (repeat' with_reducible first|intro _|refine rz ?_|refine ra ?_ ?_|omega|simp only [go_sem,f1])
  refine aN.lex [8] [(1,[1]),(2,[1]),(3,[1]),(4,[1]),(5,[1]),(6,[1]),(7,[1])] (by kernel_rfl) (by kernel_rfl) ?_
  (repeat' with_reducible first|intro _|refine rz ?_|refine ra ?_ ?_|omega|simp only [go_sem,e1,hfull])
  refine aU.of [(0,3)] 1 ?_ (by rfl) ?_<;>simp only [go_sem,Int.natCast_succ,Post]
 have f1:((y:Int)<(h:Int))=True:=eq_true (by omega)
 have hk:h - y=(h - (y+1))+1:=by omega
 rw [hk] at hRx
 have hyw:y*w+w≤1048576:=by
  have h1:y*w+w≤h*w:=by rw [←Nat.succ_mul];exact Nat.mul_le_mul_right _ hlt
  have h2:h*w=w*h:=Nat.mul_comm _ _
  omega
 have hyw1:(y+1)*w=y*w+w:=Nat.succ_mul y w
 generalize hyv:y*w=yw at *
 have kr:=Fg t ab (by omega) (by omega)
 rw [Uw false true (by omega) t] at kr
 cases hrd:dX true ab t with
 | none=>
  rw [hrd,kR,kN,kQ] at kr
  rw [uo hrd] at hRx
  have hR3:R=(acc,false):=by rw [hRx];show (acc++[],false)=_;rw [List.append_nil]
  rw [hR3]
  (repeat' with_reducible first|intro _|refine rz ?_|refine ra ?_ ?_|omega|simp only [go_sem,f1])
  refine ah.o kr 1 ?_
  (repeat' with_reducible first|intro _|exact dn|refine rn ?_|refine ra ?_ ?_)
  refine aU.of [(0,3)] 1 ?_ (by rfl) ?_<;>simp only [go_sem,Int.natCast_succ,Post]
 | some z=>
  obtain ⟨r,n⟩:=z
  obtain ⟨hr1,hr2,_⟩:=uD hrd
  rw [hrd,EG,ED,EF] at kr
  rw [Bq hrd] at hRx
  have htl:(t.drop n).take (t.length - n)=t.drop n:=List.take_of_length_le (by rw [List.length_drop];exact Nat.le_refl _)
  have hdl:(t.drop n).length=t.length - n:=List.length_drop
  have hR3:R=(acc++r++(dw (h - (y+1)) r (t.drop n)).1,(dw (h - (y+1)) r (t.drop n)).2):=by rw [hRx,List.append_assoc]
  have hrw:r.length=w:=by omega
  (repeat' with_reducible first|intro _|refine rz ?_|refine ra ?_ ?_|omega|simp only [go_sem,f1])
  refine ah.o kr 1 ?_
  (repeat' with_reducible first|intro _|exact dn|refine rn ?_|refine ra ?_ ?_)
  refine aN.lex [] [] (by kernel_rfl) (by kernel_rfl) ?_
  (repeat' with_reducible first|intro _|refine rz ?_|refine ra ?_ ?_|omega|simp only [go_sem,htl])
  refine ⟨⟨y+1,r,t.drop n,acc++r⟩,aK.ak rfl ?_ ?_,⟨by dsimp only;omega,by dsimp only;omega,hrw,by dsimp only;rw [List.length_append];omega,hR3⟩,by dsimp only;omega⟩<;>simp only [go_sem,Int.natCast_succ]
  all_goals first|rfl|omega|exact ⟨rfl,rfl⟩|trace_state
end Go.Fv.H
