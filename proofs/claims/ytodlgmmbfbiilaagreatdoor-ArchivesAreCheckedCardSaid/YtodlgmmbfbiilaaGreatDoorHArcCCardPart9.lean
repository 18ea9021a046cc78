/-
  A part of the proof of the claim: walks over the program's functions and the plain laws that these need. No condition of its own.
-/
import Derived.Test.YtodlgmmbfbiilaaGreatDoorHArcCCardPart4
import Derived.Test.YtodlgmmbfbiilaaGreatDoorHArcCCardPart8
import Derived.Test.YtodlgmmbfbiilaaGreatDoorHArcCCardPart1
import Derived.Test.YtodlgmmbfbiilaaGreatDoorFvPart11
import Derived.Test.YtodlgmmbfbiilaaGreatDoorFvPart10
import Derived.Test.YtodlgmmbfbiilaaGreatDoorHArcCCardPart7
import Derived.Test.YtodlgmmbfbiilaaGreatDoorHArcCCardPart6
import Derived.Test.YtodlgmmbfbiilaaGreatDoorHArcCCardPart5
set_option linter.unusedSimpArgs false
set_option linter.unusedVariables false
set_option linter.unnecessarySimpa false
set_option maxRecDepth 8000
/- shrink.pageOf: the walk, kind by kind. -/
namespace Go.Fv.H
open Go Go.Proofs
set_option maxHeartbeats 4000000 in
theorem Qd (w h:Nat) (hw0:0<w) (hw:w≤4000) (hh:h≤4000) (hwh:w*h≤1048576) (d:Bytes) (hd:d.length≤100000000) :
  aA Tryz.prog 68 [.str d,.int .i64 4,.int .i64 w,.int .i64 h] (.tup [.agg [.int .i64 w,.int .i64 h,.own 0],.bool true]) [(0,.row 4 (.bools (dN w h d (w*h) (w*h)).P))]:=by
 have k:=BQ w h hw0 hw hh hwh d (by omega)
 refine aA.aG Tryz.func68 rfl (by decide) (by simp [Tryz.f68]) [.cell 8 24,.tmp 9] rfl fun w0 T0 _=>?_
 simp only [Tryz.f68,au]
 (repeat' with_reducible first|intro _|exact dn|refine rn ?_|refine ra ?_ ?_)
 refine ah.o k 1 ?_
 (repeat' with_reducible first|intro _|exact dn|refine rn ?_|refine ra ?_ ?_)
 refine aU.auto 1 ?_ rfl ?_<;>simp only [go_sem,Int.natCast_succ,Post]
theorem vU (d:Bytes):(iE d).length=8*d.length:=by unfold iE;simp
theorem Aj (s:Bytes):(oU s).length=s.length:=by unfold oU;simp
theorem EW {s:Bytes} {i:Nat} (h:i<s.length):oU (s.take (i+1))=oU (s.take i)++[decide (((s.getD i 0).toNat:Int)=49)]:=by
 unfold oU
 rw [List.take_succ_eq_append_getElem h,List.map_append,List.map_cons,List.map_nil,getD_lt h]
 congr 2
 have:(s[i]=49)↔((s[i].toNat:Int)=49):=by
  constructor
  ·intro e;rw [e];rfl
  ·intro e
   have h49:s[i].toNat=49:=by omega
   exact UInt8.toNat_inj.1 h49
 exact decide_eq_decide.2 this
set_option maxHeartbeats 4000000 in
theorem Qa (w h:Nat) (hw0:0<w) (hw:w≤4000) (hh:h≤4000) (hwh:w*h≤1048576) (d:Bytes) (hd:d.length≤100000000) (hs:(iE d).length<w*h) :
  aA Tryz.prog 68 [.str d,.int .i64 1,.int .i64 w,.int .i64 h] (.tup [.agg [.int .i64 w,.int .i64 h,.nilS],.bool false]) []:=by
 have e1:(w:Int)*(h:Int)=((w*h:Nat):Int):=(Int.natCast_mul w h).symm
 have k:=qh d (by omega)
 have f1:(((iE d).length:Int)<((w*h:Nat):Int))=True:=eq_true (by omega)
 generalize iE d=s at *
 obtain ⟨n,hn⟩:∃ n,w*h=n:=⟨_,rfl⟩
 rw [hn] at e1 f1 hs
 refine aA.aG Tryz.func68 rfl (by decide) (by simp [Tryz.f68]) [.cell 8 24,.tmp 9] rfl fun w0 T0 _=>?_
 simp only [Tryz.f68,au]
 (repeat' with_reducible first|intro _|exact dn|refine rn ?_|refine ra ?_ ?_)
 refine ah.k k ?_
 (repeat' with_reducible first|intro _|refine rz ?_|refine ra ?_ ?_|omega|simp only [go_sem,e1,f1])
 refine aU.auto 0 ?_ rfl ?_<;>simp only [go_sem,Int.natCast_succ,Post]
set_option maxHeartbeats 4000000 in
theorem Qb (w h:Nat) (hw0:0<w) (hw:w≤4000) (hh:h≤4000) (hwh:w*h≤1048576) (d:Bytes) (hd:d.length≤100000000) (hs:w*h≤(iE d).length) :
  aA Tryz.prog 68 [.str d,.int .i64 1,.int .i64 w,.int .i64 h] (.tup [.agg [.int .i64 w,.int .i64 h,.own 0],.bool true]) [(0,.row 4 (.bools (oU ((iE d).take (w*h)))))]:=by
 have e1:(w:Int)*(h:Int)=((w*h:Nat):Int):=(Int.natCast_mul w h).symm
 have k:=qh d (by omega)
 have f1:(((iE d).length:Int)<((w*h:Nat):Int))=False:=eq_false (by omega)
 have hl:=vU d
 generalize iE d=s at *
 obtain ⟨n,hn⟩:∃ n,w*h=n:=⟨_,rfl⟩
 rw [hn] at e1 f1 hs hwh ⊢
 refine aA.aG Tryz.func68 rfl (by decide) (by simp [Tryz.f68]) [.cell 8 24,.tmp 9] rfl fun w0 T0 _=>?_
 simp only [Tryz.f68,au]
 (repeat' with_reducible first|intro _|exact dn|refine rn ?_|refine ra ?_ ?_)
 refine ah.k k ?_
 (repeat' with_reducible first|intro _|refine rz ?_|refine ra ?_ ?_|omega|simp only [go_sem,e1,f1])
 refine aF.intro (fun i:Nat=>⟨135,[(71,.int .i64 i),(70,.int .i64 n),(11,.str s),(10,.ptr 1 0),(8,.ptr 0 0)],[(0,.box 24 [.int .i64 0,.int .i64 0,.nilS]),(1,.box 24 [.int .i64 w,.int .i64 h,.own 2]),(2,.row 4 (.bools (oU (s.take i))))],3⟩) (fun i=>i≤n) (fun i=>n - i) 0 ?_ (Nat.zero_le _) fun i hi=>?_
 ·refine aK.trans (aK.jH (P:=Tryz.prog) 1 2 4 e4 rfl rfl) (aK.ak rfl ?_ ?_)<;>simp only [go_sem,Int.natCast_succ,put,oU,List.map_nil]
 by_cases hlt:i<n
 ·have f2:((i:Int)<(n:Int))=True:=eq_true (by omega)
  have hsu:=EW (s:=s) (i:=i) (by omega)
  have hpl:=Aj (s.take i)
  rw [List.length_take] at hpl
  (repeat' with_reducible first|intro _|refine rz ?_|refine ra ?_ ?_|omega|simp only [go_sem,f2])
  refine aN.lex [6,7,9] [(0,[1]),(1,[1])] (by kernel_rfl) (by kernel_rfl) ?_
  (repeat' with_reducible first|intro _|refine rz ?_|refine ra ?_ ?_|omega|simp only [go_sem,hpl])
  refine ⟨i+1,aK.ak rfl ?_ ?_,by omega,by omega⟩<;>simp only [go_sem,Int.natCast_succ,hsu]
  all_goals first|rfl|trace_state
 ·have f2:((i:Int)<(n:Int))=False:=eq_false (by omega)
  have e:i=n:=by omega
  subst e
  (repeat' with_reducible first|intro _|refine rz ?_|refine ra ?_ ?_|omega|simp only [go_sem,f2])
  refine aU.of [(0,2)] 1 ?_ (by rfl) ?_<;>simp only [go_sem,Int.natCast_succ,Post]
end Go.Fv.H
/- shrink.pageOf at runs: the walk. -/
namespace Go.Fv.H
open Go Go.Proofs
structure aaJ where
 (y:Nat) (s:Bytes) (acc:List Bool)
structure aaI where
 (n:Nat) (ink:Bool) (s:Bytes) (acc:List Bool)
set_option maxHeartbeats 16000000 in
theorem ET (w h:Nat) (hw0:0<w) (hw:w≤4000) (hh:h≤4000) (hwh:w*h≤1048576) (d:Bytes) (hd:d.length≤100000000) :
  aA Tryz.prog 68 [.str d,.int .i64 2,.int .i64 w,.int .i64 h] (.tup [.agg [.int .i64 w,.int .i64 h,.own 0],.bool (dR w h (iE d)).2]) [(0,.row 4 (.bools (dR w h (iE d)).1))]:=by
 have k:=qh d (by omega)
 have hl:=vU d
 generalize iE d=s at *
 obtain ⟨R,hR⟩:∃ R,dR w h s=R:=⟨_,rfl⟩
 rw [hR]
 refine aA.aG Tryz.func68 rfl (by decide) (by simp [Tryz.f68]) [.cell 8 24,.tmp 9] rfl fun w0 T0 _=>?_
 simp only [Tryz.f68,au]
 (repeat' with_reducible first|intro _|exact dn|refine rn ?_|refine ra ?_ ?_)
 refine ah.k k ?_
 (repeat' with_reducible first|intro _|exact dn|refine rn ?_|refine ra ?_ ?_)
 refine aF.intro (fun x:aaJ=>⟨135,[(87,.int .i64 x.y),(86,.int .i64 h),(11,.str x.s),(10,.ptr 1 0),(8,.ptr 0 0),(2,.int .i64 w),(3,.int .i64 h)],[(0,.box 24 [.int .i64 0,.int .i64 0,.nilS]),(1,.box 24 [.int .i64 w,.int .i64 h,.own 2]),(2,.row 4 (.bools x.acc))],3⟩) (fun x=>x.y≤h∧x.s.length≤s.length∧x.acc.length=x.y*w∧R=(x.acc++(dR w (h - x.y) x.s).1,(dR w (h - x.y) x.s).2)) (fun x=>h - x.y) ⟨0,s,[]⟩ ?_ ⟨Nat.zero_le _,Nat.le_refl _,(Nat.zero_mul w).symm,hR.symm⟩ fun x hx=>?_
 ·refine aK.trans (aK.jH (P:=Tryz.prog) 1 2 4 e4 rfl rfl) (aK.ak rfl ?_ ?_)<;>simp only [go_sem,Int.natCast_succ,put]
 obtain ⟨y,t,acc⟩:=x
 obtain ⟨hy,ht,hacc,hRx⟩:=hx
 dsimp only at hy ht hacc hRx ⊢
 by_cases hlt:y<h
 rotate_left
 ·have f1:((y:Int)<(h:Int))=False:=eq_false (by omega)
  have e:y=h:=by omega
  subst e
  rw [Nat.sub_self] at hRx
  have hR2:R=(acc,true):=by rw [hRx];show (acc++[],true)=_;rw [List.append_nil]
  rw [hR2]
  (repeat' with_reducible first|intro _|refine rz ?_|refine ra ?_ ?_|omega|simp only [go_sem,f1])
  refine aU.of [(0,2)] 1 ?_ (by rfl) ?_<;>simp only [go_sem,Int.natCast_succ,Post]
 have f1:((y:Int)<(h:Int))=True:=eq_true (by omega)
 have hk:h - y=(h - (y+1))+1:=by omega
 rw [hk] at hRx
 have hRq:R=(acc++(jO (dR w (h - (y+1))) (fK w 0 false t)).1,(jO (dR w (h - (y+1))) (fK w 0 false t)).2):=hRx
 clear hRx
 obtain ⟨F,hF⟩:∃ F,dR w (h - (y+1))=F:=⟨_,rfl⟩
 rw [hF] at hRq
 have hyw:y*w+w≤1048576:=by
  have h1:y*w+w≤h*w:=by rw [←Nat.succ_mul];exact Nat.mul_le_mul_right _ hlt
  have h2:h*w=w*h:=Nat.mul_comm _ _
  omega
 generalize hyv:y*w=yw at *
 (repeat' with_reducible first|intro _|refine rz ?_|refine ra ?_ ?_|omega|simp only [go_sem,f1])
 refine aF.intro (fun x:aaI=>⟨135,[(13,.int .i64 x.n),(14,.bool x.ink),(87,.int .i64 y),(86,.int .i64 h),(11,.str x.s),(10,.ptr 1 0),(8,.ptr 0 0),(2,.int .i64 w),(3,.int .i64 h)],[(0,.box 24 [.int .i64 0,.int .i64 0,.nilS]),(1,.box 24 [.int .i64 w,.int .i64 h,.own 2]),(2,.row 4 (.bools x.acc))],3⟩) (fun x=>x.n≤w∧x.s.length≤s.length∧x.acc.length=yw+x.n∧R=(x.acc++(jO F (fK w x.n x.ink x.s)).1,(jO F (fK w x.n x.ink x.s)).2)) (fun x=>x.s.length) ⟨0,false,t,acc⟩ ?_ ⟨Nat.zero_le _,ht,by dsimp only;omega,hRq⟩ fun x hx=>?_
 ·refine aK.ak rfl ?_ ?_<;>simp only [go_sem,Int.natCast_succ]
  all_goals first|rfl|exact ⟨rfl,rfl⟩|trace_state
 clear hRq
 obtain ⟨n,ink,u,ac⟩:=x
 obtain ⟨hn,hu,hac,hRu⟩:=hx
 dsimp only at hn hu hac hRu ⊢
 by_cases hnw:n<w
 rotate_left
 ·have f2:((n:Int)<(w:Int))=False:=eq_false (by omega)
  have e:n=w:=by omega
  rw [vJ hnw] at hRu
  have hR3:R=(ac++(F u).1,(F u).2):=hRu
  (repeat' with_reducible first|intro _|refine rz ?_|refine ra ?_ ?_|omega|simp only [go_sem,f2])
  refine ⟨⟨y+1,u,ac⟩,aK.ak rfl ?_ ?_,⟨by dsimp only;omega,hu,by dsimp only;rw [Nat.succ_mul];omega,by dsimp only;rw [hF];exact hR3⟩,by dsimp only;omega⟩<;>simp only [go_sem,Int.natCast_succ]
  all_goals first|rfl|omega|trace_state
 have f2:((n:Int)<(w:Int))=True:=eq_true (by omega)
 have hg:pG (u.take 64)=pG u:=ND u 64 (Nat.le_refl _)
 have g1:Ce (u.take 64)=Ce u:=by unfold Ce;rw [hg]
 have g2:Cc (u.take 64)=Cc u:=by unfold Cc;rw [hg]
 have g3:Gp 8 (u.take 64)=Gp 8 u:=by unfold Gp;rw [hg]
 have kg:=NK (u.take 64) (by rw [List.length_take];omega)
 rw [g1,g2,g3] at kg
 have hm:min (u.length:Int) 64=((min u.length 64:Nat):Int):=by omega
 have htk:u.take (min u.length 64)=u.take 64:=by rw [List.take_eq_take_iff];omega
 have hml:min u.length 64≤u.length:=by omega
 generalize min u.length 64=mm at *
 cases hrd:pG u with
 | none=>
  obtain ⟨r1,r2,r3⟩:=qN hrd
  rw [r1,r2,r3] at kg
  rw [xA hnw ink hrd] at hRu
  have hR3:R=(ac,false):=by rw [hRu];show (ac++[],false)=_;rw [List.append_nil]
  rw [hR3]
  (repeat' with_reducible first|intro _|refine rz ?_|refine ra ?_ ?_|omega|simp only [go_sem,f2,hm,Nat.sub_zero,htk])
  refine ah.k kg ?_
  (repeat' with_reducible first|intro _|exact dn|refine rn ?_|refine ra ?_ ?_)
  refine aU.of [(0,2)] 1 ?_ (by rfl) ?_<;>simp only [go_sem,Int.natCast_succ,Post]
 | some z=>
  obtain ⟨m,l⟩:=z
  obtain ⟨r1,r2,r3⟩:=qO hrd
  rw [r1,r2,r3] at kg
  obtain ⟨q1,q2⟩:=Dj hrd
  obtain ⟨q3,q4,q5⟩:=kU hrd
  have hmI:(m:Int) - 1=((m - 1:Nat):Int):=by omega
  by_cases hov:w - n<m - 1
  ·rw [xB hnw ink hrd hov] at hRu
   have hR3:R=(ac,false):=by rw [hRu];show (ac++[],false)=_;rw [List.append_nil]
   rw [hR3]
   have f3:((w:Int) - (n:Int)<((m - 1:Nat):Int))=True:=eq_true (by omega)
   (repeat' with_reducible first|intro _|refine rz ?_|refine ra ?_ ?_|omega|simp only [go_sem,f2,hm,Nat.sub_zero,htk])
   refine ah.k kg ?_
   (repeat' with_reducible first|intro _|refine rz ?_|refine ra ?_ ?_|omega|simp only [go_sem,hmI,f3])
   refine aU.of [(0,2)] 1 ?_ (by rfl) ?_<;>simp only [go_sem,Int.natCast_succ,Post]
  rw [rX hnw ink hrd hov] at hRu
  have hR3:R=(ac++List.replicate (m - 1) ink++(jO F (fK w (n+(m - 1)) (!ink) (u.drop l))).1,(jO F (fK w (n+(m - 1)) (!ink) (u.drop l))).2):=by
   rw [hRu]
   generalize fK w (n+(m - 1)) (!ink) (u.drop l)=q
   obtain ⟨q1,q2⟩:=q
   cases q2 with
   | none=>show (ac++(List.replicate (m - 1) ink++q1),false)=(ac++List.replicate (m - 1) ink++q1,false);rw [List.append_assoc]
   | some v=>show (ac++(List.replicate (m - 1) ink++q1++(F v).1),(F v).2)=(ac++List.replicate (m - 1) ink++(q1++(F v).1),(F v).2);rw [List.append_assoc,List.append_assoc]
  have f3:((w:Int) - (n:Int)<((m - 1:Nat):Int))=False:=eq_false (by omega)
  have htl:(u.drop l).take (u.length - l)=u.drop l:=List.take_of_length_le (by rw [List.length_drop];exact Nat.le_refl _)
  have hdl:(u.drop l).length=u.length - l:=List.length_drop
  obtain ⟨u2,hu2⟩:∃ u2,u.drop l=u2:=⟨_,rfl⟩
  rw [hu2] at hR3 hdl
  rw [hu2] at htl
  have htl2:(u.drop l).take (u.length - l)=u2:=by rw [hu2];exact htl
  (repeat' with_reducible first|intro _|refine rz ?_|refine ra ?_ ?_|omega|simp only [go_sem,f2,hm,Nat.sub_zero,htk])
  refine ah.k kg ?_
  (repeat' with_reducible first|intro _|refine rz ?_|refine ra ?_ ?_|omega|simp only [go_sem,hmI,f3,htl2])
  refine aF.intro (fun j:Nat=>⟨135,[(118,.int .i64 j),(117,.int .i64 (m - 1:Nat)),(15,.int .i64 m),(13,.int .i64 n),(14,.bool ink),(87,.int .i64 y),(86,.int .i64 h),(11,.str u2),(10,.ptr 1 0),(8,.ptr 0 0),(2,.int .i64 w),(3,.int .i64 h)],[(0,.box 24 [.int .i64 0,.int .i64 0,.nilS]),(1,.box 24 [.int .i64 w,.int .i64 h,.own 2]),(2,.row 4 (.bools (ac++List.replicate j ink)))],3⟩) (fun j=>j≤m - 1) (fun j=>m - 1 - j) 0 ?_ (Nat.zero_le _) fun j hj=>?_
  ·refine aK.ak rfl ?_ ?_<;>simp only [go_sem,Int.natCast_succ]
   all_goals first|rfl|exact ⟨rfl,rfl⟩|trace_state
  by_cases hjl:j<m - 1
  ·have f4:((j:Int)<((m - 1:Nat):Int))=True:=eq_true (by omega)
   have hrs:ac++List.replicate j ink++[ink]=ac++List.replicate (j+1) ink:=by rw [List.append_assoc,List.replicate_succ']
   have hrl:(ac++List.replicate j ink).length=ac.length+j:=by rw [List.length_append,List.length_replicate]
   (repeat' with_reducible first|intro _|refine rz ?_|refine ra ?_ ?_|omega|simp only [go_sem,f4,hrl])
   refine ⟨j+1,aK.ak rfl ?_ ?_,by omega,by omega⟩<;>simp only [go_sem,Int.natCast_succ,hrs]
   all_goals first|rfl|trace_state
  ·have f4:((j:Int)<((m - 1:Nat):Int))=False:=eq_false (by omega)
   have e:j=m - 1:=by omega
   subst e
   have hnn:(n:Int)+((m - 1:Nat):Int)=((n+(m - 1):Nat):Int):=by omega
   (repeat' with_reducible first|intro _|refine rz ?_|refine ra ?_ ?_|omega|simp only [go_sem,f4,hmI,hnn])
   refine ⟨⟨n+(m - 1),!ink,u2,ac++List.replicate (m - 1) ink⟩,aK.ak rfl ?_ ?_,⟨by dsimp only;omega,by dsimp only;omega,by dsimp only;rw [List.length_append,List.length_replicate];omega,hR3⟩,by dsimp only;omega⟩<;>simp only [go_sem,Int.natCast_succ]
   all_goals first|rfl|omega|exact ⟨rfl,rfl⟩|trace_state
end Go.Fv.H
/- shrink.pageOf at lines: the walk. -/
namespace Go.Fv.H
open Go Go.Proofs
structure aaH where
 (y:Nat) (ab:List Bool) (s:Bytes) (acc:List Bool)
theorem uo {k:Nat} {ab:List Bool} {s:Bytes} (h:dX true ab s=none):dw (k+1) ab s=([],false):=by
 show (match dX true ab s with|none=>_|some (r,n)=>_)=_
 rw [h]
theorem Bq {k:Nat} {ab r:List Bool} {s:Bytes} {n:Nat} (h:dX true ab s=some (r,n)):dw (k+1) ab s=(r++(dw k r (s.drop n)).1,(dw k r (s.drop n)).2):=by
 show (match dX true ab s with|none=>_|some (r,n)=>_)=_
 rw [h]
theorem Qk {ab:List Bool} {s:Bytes}:dX true ab s=match mD true ab s with|none=>none|some (l,n)=>if eX l ab=s.take n then some (l,n) else none:=rfl
set_option maxHeartbeats 16000000 in
theorem EU (w h:Nat) (hw0:0<w) (hw:w≤4000) (hh:h≤4000) (hwh:w*h≤1048576) (d:Bytes) (hd:d.length≤100000000) :
  aA Tryz.prog 68 [.str d,.int .i64 3,.int .i64 w,.int .i64 h] (.tup [.agg [.int .i64 w,.int .i64 h,.own 0],.bool (dw h (List.replicate w false) (iE d)).2]) [(0,.row 4 (.bools (dw h (List.replicate w false) (iE d)).1))]:=by
 have k:=qh d (by omega)
 have hl:=vU d
 generalize iE d=s at *
 obtain ⟨R,hR⟩:∃ R,dw h (List.replicate w false) s=R:=⟨_,rfl⟩
 rw [hR]
 refine aA.aG Tryz.func68 rfl (by decide) (by simp [Tryz.f68]) [.cell 8 24,.tmp 9] rfl fun w0 T0 _=>?_
 simp only [Tryz.f68,au]
 (repeat' with_reducible first|intro _|exact dn|refine rn ?_|refine ra ?_ ?_)
 refine ah.k k ?_
 (repeat' with_reducible first|intro _|exact dn|refine rn ?_|refine ra ?_ ?_)
 refine aF.intro (fun x:aaH=>⟨135,[(37,.int .i64 x.y),(36,.int .i64 h),(18,.own 2),(11,.str x.s),(10,.ptr 1 0),(8,.ptr 0 0),(2,.int .i64 w),(3,.int .i64 h)],[(0,.box 24 [.int .i64 0,.int .i64 0,.nilS]),(1,.box 24 [.int .i64 w,.int .i64 h,.own 3]),(2,.row 4 (.bools x.ab)),(3,.row 4 (.bools x.acc))],4⟩) (fun x=>x.y≤h∧x.s.length≤s.length∧x.ab.length=w∧x.acc.length=x.y*w∧R=(x.acc++(dw (h - x.y) x.ab x.s).1,(dw (h - x.y) x.ab x.s).2)) (fun x=>h - x.y) ⟨0,List.replicate w false,s,[]⟩ ?_ ⟨Nat.zero_le _,Nat.le_refl _,List.length_replicate,(Nat.zero_mul w).symm,hR.symm⟩ fun x hx=>?_
 ·refine aK.trans (aK.jH (P:=Tryz.prog) 1 2 4 e4 rfl rfl) (aK.ak rfl ?_ ?_)<;>simp only [go_sem,Int.natCast_succ,put]
  all_goals first|rfl|exact ⟨rfl,rfl⟩|trace_state
 obtain ⟨y,ab,t,acc⟩:=x
 obtain ⟨hy,ht,hab,hacc,hRx⟩:=hx
 dsimp only at hy ht hab hacc hRx ⊢
 by_cases hlt:y<h
 rotate_left
 ·have f1:((y:Int)<(h:Int))=False:=eq_false (by omega)
  have e:y=h:=by omega
  subst e
  rw [Nat.sub_self] at hRx
  have hR2:R=(acc,true):=by rw [hRx];show (acc++[],true)=_;rw [List.append_nil]
  rw [hR2]
  (repeat' with_reducible first|intro _|refine rz ?_|refine ra ?_ ?_|omega|simp only [go_sem,f1])
  refine aU.of [(0,3)] 1 ?_ (by rfl) ?_<;>simp only [go_sem,Int.natCast_succ,Post]
 have f1:((y:Int)<(h:Int))=True:=eq_true (by omega)
 have hk:h - y=(h - (y+1))+1:=by omega
 rw [hk] at hRx
 have hyw:y*w+w≤1048576:=by
  have h1:y*w+w≤h*w:=by rw [←Nat.succ_mul];exact Nat.mul_le_mul_right _ hlt
  have h2:h*w=w*h:=Nat.mul_comm _ _
  omega
 have hyw1:(y+1)*w=y*w+w:=Nat.succ_mul y w
 generalize hyv:y*w=yw at *
 have kr:=NM t ab (by omega) (by omega)
 have hrl:=@Qk ab t
 cases hrd:mD true ab t with
 | none=>
  rw [hrd] at hrl kr
  rw [lI,jX] at kr
  rw [uo hrl] at hRx
  have hR3:R=(acc,false):=by rw [hRx];show (acc++[],false)=_;rw [List.append_nil]
  rw [hR3]
  (repeat' with_reducible first|intro _|refine rz ?_|refine ra ?_ ?_|omega|simp only [go_sem,f1])
  refine ah.k kr ?_
  (repeat' with_reducible first|intro _|exact dn|refine rn ?_|refine ra ?_ ?_)
  refine aU.of [(0,3)] 1 ?_ (by rfl) ?_<;>simp only [go_sem,Int.natCast_succ,Post]
 | some z=>
  obtain ⟨r,n⟩:=z
  rw [hrd] at hrl kr
  rw [Fp,BI] at kr
  obtain ⟨hr1,hr2⟩:=Iw hrd
  by_cases hcode:eX r ab=t.take n
  ·have hrl2:dX true ab t=some (r,n):=by rw [hrl];exact if_pos hcode
   rw [decide_eq_true hcode] at kr
   rw [Bq hrl2] at hRx
   have htl:(t.drop n).take (t.length - n)=t.drop n:=List.take_of_length_le (by rw [List.length_drop];exact Nat.le_refl _)
   have hdl:(t.drop n).length=t.length - n:=List.length_drop
   have hR3:R=(acc++r++(dw (h - (y+1)) r (t.drop n)).1,(dw (h - (y+1)) r (t.drop n)).2):=by rw [hRx,List.append_assoc]
   have hrw:r.length=w:=by omega
   (repeat' with_reducible first|intro _|refine rz ?_|refine ra ?_ ?_|omega|simp only [go_sem,f1])
   refine ah.o kr 1 ?_
   (repeat' with_reducible first|intro _|refine rz ?_|refine ra ?_ ?_|omega|simp only [go_sem,htl])
   refine ⟨⟨y+1,r,t.drop n,acc++r⟩,aK.ak rfl ?_ ?_,⟨by dsimp only;omega,by dsimp only;omega,hrw,by dsimp only;rw [List.length_append];omega,hR3⟩,by dsimp only;omega⟩<;>simp only [go_sem,Int.natCast_succ]
   all_goals first|rfl|omega|exact ⟨rfl,rfl⟩|trace_state
  ·have hrl2:dX true ab t=none:=by rw [hrl];exact if_neg hcode
   rw [decide_eq_false hcode] at kr
   rw [uo hrl2] at hRx
   have hR3:R=(acc,false):=by rw [hRx];show (acc++[],false)=_;rw [List.append_nil]
   rw [hR3]
   (repeat' with_reducible first|intro _|refine rz ?_|refine ra ?_ ?_|omega|simp only [go_sem,f1])
   refine ah.o kr 1 ?_
   (repeat' with_reducible first|intro _|exact dn|refine rn ?_|refine ra ?_ ?_)
   refine aU.of [(0,3)] 1 ?_ (by rfl) ?_<;>simp only [go_sem,Int.natCast_succ,Post]
end Go.Fv.H
/- A result that is owned becomes data; a nil slice in a result box becomes an owned row without elements. -/
namespace Go.Fv.H
open Go Go.Proofs
theorem cO.zl {P:Program} {f:Nat} {args:List AV} {out out':AV} {rows:List (Nat × Item)} (h:cO P f args out rows) (ho:dJ rows out out'):cO P f args out' []:=
 ⟨h.1,fun w T vals hgl hv=>(h.2 w T vals hgl hv).mono fun e w' ⟨v,he,hb,hq⟩=>⟨v,he,hb,hq.ro ho⟩⟩
theorem aU.ent {P:Program} {w0:World} {T0:Bs} {res:List ResultVar} {out:AV} {rows:List (Nat × Item)} {s s':S} (he:aK w0 T0 0 s s') (h:aU P w0 T0 res out rows s'):aU P w0 T0 res out rows s:=
 fun a w hr=>h a w (he [] a w (fun _ hx=>by cases hx) hr)
end Go.Fv.H
/- shrink.Decode: the walk. -/
namespace Go.Fv.H
open Go Go.Proofs
def TQ (q:DQ):AV:=.tup [.agg [.int .i64 q.w,.int .i64 q.h,.ro (.bools q.p)],.int .i64 q.e]
def Ti (f:Nat) (s:Bytes) (q:DQ):Prop:=
 (q.e=0∧aA Tryz.prog f [.str s] (.tup [.agg [.int .i64 q.w,.int .i64 q.h,.own 0],.int .i64 q.e]) [(0,.row 4 (.bools q.p))]) ∨
 (q=D8 q.e∧q.e≠0∧aA Tryz.prog f [.str s] (.tup [.agg [.int .i64 0,.int .i64 0,.nilS],.int .i64 q.e]) [])
theorem Ti.fr {f:Nat} {s:Bytes} {q:DQ} (h:Ti f s q):cO Tryz.prog f [.str s] (TQ q) []:=by
 rcases h with ⟨_,k⟩|⟨e,_,k⟩
 ·exact cO.zl (cO.eY k rfl rfl) (by simp [TQ,dJ,aS,aV,bH,aH,lk,aI])
 ·rw [e]
  exact cO.zl (cO.eY k rfl rfl) (by simp [TQ,D8,dJ,aS,aV,bH,aH,lk,aI,nilRow])
theorem BF (w h:Nat) (hw0:0<w) (hw:w≤4000) (hh:h≤4000) (hwh:w*h≤1048576) (d:Bytes) (hd:d.length≤100000000) (kind:Int) (hk:1≤kind∧kind≤4) (hq:(ni kind w h d).2=true) :
  aA Tryz.prog 68 [.str d,.int .i64 kind,.int .i64 w,.int .i64 h] (.tup [.agg [.int .i64 w,.int .i64 h,.own 0],.bool true]) [(0,.row 4 (.bools (ni kind w h d).1))]:=by
 have hc:kind=4∨kind=1∨kind=2∨kind=3:=by omega
 rcases hc with rfl|rfl|rfl|rfl
 ·exact Qd w h hw0 hw hh hwh d hd
 ·have e:ni 1 w h d=kT (w*h) (iE d):=rfl
  rw [e] at hq ⊢
  unfold kT at hq ⊢
  split at hq
  ·cases hq
  ·rename_i hs
   rw [if_neg hs]
   exact Qb w h hw0 hw hh hwh d hd (by omega)
 ·have e:ni 2 w h d=dR w h (iE d):=rfl
  rw [e] at hq ⊢
  have k:=ET w h hw0 hw hh hwh d hd
  rw [hq] at k
  exact k
 ·have e:ni 3 w h d=dw h (List.replicate w false) (iE d):=rfl
  rw [e] at hq ⊢
  have k:=EU w h hw0 hw hh hwh d hd
  rw [hq] at k
  exact k
theorem Qe (w h:Nat) (hw0:0<w) (hw:w≤4000) (hh:h≤4000) (hwh:w*h≤1048576) (d:Bytes) (hd:d.length≤100000000) (kind:Int) (hk:1≤kind∧kind≤4) (hq:(ni kind w h d).2=false) :
  cO Tryz.prog 68 [.str d,.int .i64 kind,.int .i64 w,.int .i64 h] (.tup [.agg [.int .i64 w,.int .i64 h,.ro (.bools (ni kind w h d).1)],.bool false]) []:=by
 have hc:kind=4∨kind=1∨kind=2∨kind=3:=by omega
 rcases hc with rfl|rfl|rfl|rfl
 ·cases hq
 ·have e:ni 1 w h d=kT (w*h) (iE d):=rfl
  rw [e] at hq ⊢
  unfold kT at hq ⊢
  split at hq
  ·rename_i hs
   rw [if_pos hs]
   exact cO.zl (cO.eY (Qa w h hw0 hw hh hwh d hd hs) rfl rfl) (by simp [dJ,aS,aV,bH,aH,lk,aI,nilRow])
  ·cases hq
 ·have e:ni 2 w h d=dR w h (iE d):=rfl
  rw [e] at hq ⊢
  have k:=ET w h hw0 hw hh hwh d hd
  rw [hq] at k
  exact cO.zl (cO.eY k rfl rfl) (by simp [dJ,aS,aV,bH,aH,lk,aI,nilRow])
 ·have e:ni 3 w h d=dw h (List.replicate w false) (iE d):=rfl
  rw [e] at hq ⊢
  have k:=EU w h hw0 hw hh hwh d hd
  rw [hq] at k
  exact cO.zl (cO.eY k rfl rfl) (by simp [dJ,aS,aV,bH,aH,lk,aI,nilRow])
theorem sG (s:Bytes):dK s<256:=by
 have h1:=kS (s.take 1)
 have h2:256 ^ (s.take 1).length≤256 ^ 1:=Nat.pow_le_pow_right (by decide) (by rw [List.length_take];omega)
 unfold dK;omega
theorem sH (s:Bytes):dW s<65536:=by
 have h1:=kS ((s.drop 1).take 2)
 have h2:256 ^ ((s.drop 1).take 2).length≤256 ^ 2:=Nat.pow_le_pow_right (by decide) (by rw [List.length_take];omega)
 rw [show (256:Nat) ^ 2=65536 from rfl] at h2
 unfold dW;omega
theorem sF (s:Bytes):dH s<65536:=by
 have h1:=kS ((s.drop 3).take 2)
 have h2:256 ^ ((s.drop 3).take 2).length≤256 ^ 2:=Nat.pow_le_pow_right (by decide) (by rw [List.length_take];omega)
 rw [show (256:Nat) ^ 2=65536 from rfl] at h2
 unfold dH;omega
theorem pV (s:Bytes):dL s<4294967296:=by
 have h1:=kS ((s.drop 5).take 4)
 have h2:256 ^ ((s.drop 5).take 4).length≤256 ^ 4:=Nat.pow_le_pow_right (by decide) (by rw [List.length_take];omega)
 rw [show (256:Nat) ^ 4=4294967296 from rfl] at h2
 unfold dL;omega
set_option maxHeartbeats 8000000 in
theorem TG (s:Bytes) (hs:s.length≤200000000000000) (h1:2097152<s.length):aA Tryz.prog 15 [.str s] (.tup [.agg [.int .i64 0,.int .i64 0,.nilS],.int .i64 4]) []:=by
 refine aA.aG Tryz.func15 rfl (by decide) (by simp [Tryz.f15]) [.cell 2 24,.tmp 3] rfl fun w0 T0 _=>?_
 simp only [Tryz.f15,au]
 have f1:((2097152:Int)<(s.length:Int))=True:=eq_true (by omega)
 (repeat' with_reducible first|intro _|refine rz ?_|refine ra ?_ ?_|omega|simp only [go_sem,f1])
 refine aU.auto 0 ?_ rfl ?_<;>simp only [go_sem,Int.natCast_succ,Post]
set_option maxHeartbeats 8000000 in
theorem TI (s:Bytes) (h1:s.length≤2097152) (h2:s.length<17∨s.length≠17+dL s):aA Tryz.prog 15 [.str s] (.tup [.agg [.int .i64 0,.int .i64 0,.nilS],.int .i64 8]) []:=by
 refine aA.aG Tryz.func15 rfl (by decide) (by simp [Tryz.f15]) [.cell 2 24,.tmp 3] rfl fun w0 T0 _=>?_
 simp only [Tryz.f15,au]
 have f1:((2097152:Int)<(s.length:Int))=False:=eq_false (by omega)
 by_cases h17:s.length<17
 ·have f2:((s.length:Int)<17)=True:=eq_true (by omega)
  (repeat' with_reducible first|intro _|refine rz ?_|refine ra ?_ ?_|omega|simp only [go_sem,f1,f2])
  refine aU.auto 0 ?_ rfl ?_<;>simp only [go_sem,Int.natCast_succ,Post]
 ·have f2:((s.length:Int)<17)=False:=eq_false (by omega)
  have kb:=bQ ((s.drop 5).take 4) (by rw [List.length_take];omega)
  have hlt:=pV s
  have hdl:aT ((s.drop 5).take 4)=dL s:=rfl
  rw [hdl] at kb
  have f3:((s.length:Int)=9+(dL s:Int)+8)=False:=eq_false (by omega)
  generalize dL s=L at *
  (repeat' with_reducible first|intro _|refine rz ?_|refine ra ?_ ?_|omega|simp only [go_sem,f1,f2])
  refine ah.k kb ?_
  (repeat' with_reducible first|intro _|refine rz ?_|refine ra ?_ ?_|omega|simp only [go_sem,f3])
  refine aU.auto 0 ?_ rfl ?_<;>simp only [go_sem,Int.natCast_succ,Post]
structure xR (s:Bytes):Prop where
 n17:17≤s.length
 long:s.length=17+dL s
 most:s.length≤2097152
theorem jM (s:Bytes) (h:17≤s.length):(s.take (s.length - 8)).length=s.length - 8:=by rw [List.length_take];omega
end Go.Fv.H
/- shrink.Decode: the walk behind the first parts. -/
namespace Go.Fv.H
open Go Go.Proofs
theorem mW (s:Bytes) (h:17≤s.length):(dD s).length=s.length - 17:=by
 unfold dD;rw [List.length_take,List.length_drop];omega
theorem O9 (s:Bytes) (h:17≤s.length):((s.take (s.length - 8)).drop 9).take (s.length - 8 - 9)=dD s:=by
 unfold dD
 rw [List.drop_take,List.take_take,show s.length - 8 - 9=s.length - 17 by omega,Nat.min_self]
set_option maxHeartbeats 8000000 in
theorem TJ (s:Bytes) (c:xR s) (h3:bY (s.take (s.length - 8))≠s.drop (s.length - 8)):aA Tryz.prog 15 [.str s] (.tup [.agg [.int .i64 0,.int .i64 0,.nilS],.int .i64 14]) []:=by
 obtain ⟨c1,c2,c3⟩:=c
 have f1:((2097152:Int)<(s.length:Int))=False:=eq_false (by omega)
 have f2:((s.length:Int)<17)=False:=eq_false (by omega)
 have kb:=bQ ((s.drop 5).take 4) (by rw [List.length_take];omega)
 have kK:=bQ (s.take 1) (by rw [List.length_take];omega)
 have kW:=bQ ((s.drop 1).take 2) (by rw [List.length_take];omega)
 have kH:=bQ ((s.drop 3).take 2) (by rw [List.length_take];omega)
 rw [show aT (s.take 1)=dK s from rfl] at kK
 rw [show aT ((s.drop 1).take 2)=dW s from rfl] at kW
 rw [show aT ((s.drop 3).take 2)=dH s from rfl] at kH
 have hlt:=pV s
 rw [show aT ((s.drop 5).take 4)=dL s from rfl] at kb
 have f3:((s.length:Int)=9+(dL s:Int)+8)=True:=eq_true (by omega)
 have ks:=mM (s.take (s.length - 8)) (by rw [List.length_take];omega)
 have hal:=jM s c1
 have e8:(s.length:Int) - 8=((s.length - 8:Nat):Int):=by omega
 have htd:(s.drop (s.length - 8)).take (s.length - (s.length - 8))=s.drop (s.length - 8):=List.take_of_length_le (by rw [List.length_drop];exact Nat.le_refl _)
 have hKl:=sG s
 have hWl:=sH s
 have hHl:=sF s
 have hDl:=mW s c1
 have f4:(bY (s.take (s.length - 8))=s.drop (s.length - 8))=False:=eq_false h3
 generalize dL s=L at *
 refine aA.aG Tryz.func15 rfl (by decide) (by simp [Tryz.f15]) [.cell 2 24,.tmp 3] rfl fun w0 T0 _=>?_
 simp only [Tryz.f15,au]
 (repeat' with_reducible first|intro _|refine rz ?_|refine ra ?_ ?_|omega|simp only [go_sem,f1,f2])
 refine ah.k kb ?_
 (repeat' with_reducible first|intro _|refine rz ?_|refine ra ?_ ?_|omega|simp only [go_sem,f3,e8])
 refine aN.lex [] [] (by kernel_rfl) (by kernel_rfl) ?_
 (repeat' with_reducible first|intro _|exact dn|refine rn ?_|refine ra ?_ ?_)
 (refine QV.intro (.int .i64 (dK s)) ?_ ?_;focus ((repeat' with_reducible first|intro _|exact dn|refine rn ?_|refine ra ?_ ?_);refine ah.k (kK) ?_;(repeat' with_reducible first|intro _|exact dn|refine rn ?_|refine ra ?_ ?_)))
 (repeat' with_reducible first|intro _|exact dn|refine rn ?_|refine ra ?_ ?_)
 (refine QV.intro (.int .i64 (dW s)) ?_ ?_;focus ((repeat' with_reducible first|intro _|exact dn|refine rn ?_|refine ra ?_ ?_);refine ah.k (kW) ?_;(repeat' with_reducible first|intro _|exact dn|refine rn ?_|refine ra ?_ ?_)))
 (repeat' with_reducible first|intro _|exact dn|refine rn ?_|refine ra ?_ ?_)
 (refine QV.intro (.int .i64 (dH s)) ?_ ?_;focus ((repeat' with_reducible first|intro _|exact dn|refine rn ?_|refine ra ?_ ?_);refine ah.k (kH) ?_;(repeat' with_reducible first|intro _|exact dn|refine rn ?_|refine ra ?_ ?_)))
 (repeat' with_reducible first|intro _|exact dn|refine rn ?_|refine ra ?_ ?_)
 refine aN.lex [] [] (by kernel_rfl) (by kernel_rfl) ?_
 (repeat' with_reducible first|intro _|refine rz ?_|refine ra ?_ ?_|omega|simp only [go_sem,Nat.sub_zero,hal])
 (refine QV.intro (.str (bY (s.take (s.length - 8)))) ?_ ?_;focus ((repeat' with_reducible first|intro _|exact dn|refine rn ?_|refine ra ?_ ?_);refine ah.k (ks) ?_;(repeat' with_reducible first|intro _|exact dn|refine rn ?_|refine ra ?_ ?_)))
 (repeat' with_reducible first|intro _|refine rz ?_|refine ra ?_ ?_|omega|simp only [go_sem,Nat.sub_zero,hal,htd,f4])
 refine aU.auto 0 ?_ rfl ?_<;>simp only [go_sem,Int.natCast_succ,Post]
set_option maxHeartbeats 8000000 in
theorem TK (s:Bytes) (c:xR s) (h3:bY (s.take (s.length - 8))=s.drop (s.length - 8)) (h4:¬(1≤dK s∧dK s≤4)):aA Tryz.prog 15 [.str s] (.tup [.agg [.int .i64 0,.int .i64 0,.nilS],.int .i64 1]) []:=by
 obtain ⟨c1,c2,c3⟩:=c
 have f1:((2097152:Int)<(s.length:Int))=False:=eq_false (by omega)
 have f2:((s.length:Int)<17)=False:=eq_false (by omega)
 have kb:=bQ ((s.drop 5).take 4) (by rw [List.length_take];omega)
 have kK:=bQ (s.take 1) (by rw [List.length_take];omega)
 have kW:=bQ ((s.drop 1).take 2) (by rw [List.length_take];omega)
 have kH:=bQ ((s.drop 3).take 2) (by rw [List.length_take];omega)
 rw [show aT (s.take 1)=dK s from rfl] at kK
 rw [show aT ((s.drop 1).take 2)=dW s from rfl] at kW
 rw [show aT ((s.drop 3).take 2)=dH s from rfl] at kH
 have hlt:=pV s
 rw [show aT ((s.drop 5).take 4)=dL s from rfl] at kb
 have f3:((s.length:Int)=9+(dL s:Int)+8)=True:=eq_true (by omega)
 have ks:=mM (s.take (s.length - 8)) (by rw [List.length_take];omega)
 have hal:=jM s c1
 have e8:(s.length:Int) - 8=((s.length - 8:Nat):Int):=by omega
 have htd:(s.drop (s.length - 8)).take (s.length - (s.length - 8))=s.drop (s.length - 8):=List.take_of_length_le (by rw [List.length_drop];exact Nat.le_refl _)
 have hKl:=sG s
 have hWl:=sH s
 have hHl:=sF s
 have hDl:=mW s c1
 have f4:(bY (s.take (s.length - 8))=s.drop (s.length - 8))=True:=eq_true h3
 have kk:=qG (dK s)
 rw [decide_eq_false (by omega)] at kk
 generalize dL s=L at *
 refine aA.aG Tryz.func15 rfl (by decide) (by simp [Tryz.f15]) [.cell 2 24,.tmp 3] rfl fun w0 T0 _=>?_
 simp only [Tryz.f15,au]
 (repeat' with_reducible first|intro _|refine rz ?_|refine ra ?_ ?_|omega|simp only [go_sem,f1,f2])
 refine ah.k kb ?_
 (repeat' with_reducible first|intro _|refine rz ?_|refine ra ?_ ?_|omega|simp only [go_sem,f3,e8])
 refine aN.lex [] [] (by kernel_rfl) (by kernel_rfl) ?_
 (repeat' with_reducible first|intro _|exact dn|refine rn ?_|refine ra ?_ ?_)
 (refine QV.intro (.int .i64 (dK s)) ?_ ?_;focus ((repeat' with_reducible first|intro _|exact dn|refine rn ?_|refine ra ?_ ?_);refine ah.k (kK) ?_;(repeat' with_reducible first|intro _|exact dn|refine rn ?_|refine ra ?_ ?_)))
 (repeat' with_reducible first|intro _|exact dn|refine rn ?_|refine ra ?_ ?_)
 (refine QV.intro (.int .i64 (dW s)) ?_ ?_;focus ((repeat' with_reducible first|intro _|exact dn|refine rn ?_|refine ra ?_ ?_);refine ah.k (kW) ?_;(repeat' with_reducible first|intro _|exact dn|refine rn ?_|refine ra ?_ ?_)))
 (repeat' with_reducible first|intro _|exact dn|refine rn ?_|refine ra ?_ ?_)
 (refine QV.intro (.int .i64 (dH s)) ?_ ?_;focus ((repeat' with_reducible first|intro _|exact dn|refine rn ?_|refine ra ?_ ?_);refine ah.k (kH) ?_;(repeat' with_reducible first|intro _|exact dn|refine rn ?_|refine ra ?_ ?_)))
 (repeat' with_reducible first|intro _|exact dn|refine rn ?_|refine ra ?_ ?_)
 refine aN.lex [] [] (by kernel_rfl) (by kernel_rfl) ?_
 (repeat' with_reducible first|intro _|refine rz ?_|refine ra ?_ ?_|omega|simp only [go_sem,Nat.sub_zero,hal])
 (refine QV.intro (.str (bY (s.take (s.length - 8)))) ?_ ?_;focus ((repeat' with_reducible first|intro _|exact dn|refine rn ?_|refine ra ?_ ?_);refine ah.k (ks) ?_;(repeat' with_reducible first|intro _|exact dn|refine rn ?_|refine ra ?_ ?_)))
 (repeat' with_reducible first|intro _|refine rz ?_|refine ra ?_ ?_|omega|simp only [go_sem,Nat.sub_zero,hal,htd,f4])
 refine ah.k kk ?_
 (repeat' with_reducible first|intro _|exact dn|refine rn ?_|refine ra ?_ ?_)
 refine aU.auto 0 ?_ rfl ?_<;>simp only [go_sem,Int.natCast_succ,Post]
set_option maxHeartbeats 8000000 in
theorem TL (s:Bytes) (c:xR s) (h3:bY (s.take (s.length - 8))=s.drop (s.length - 8)) (h4:1≤dK s∧dK s≤4) (h5:bF (dW s) (dH s)≠0):aA Tryz.prog 15 [.str s] (.tup [.agg [.int .i64 0,.int .i64 0,.nilS],.int .i64 (bF (dW s) (dH s))]) []:=by
 obtain ⟨c1,c2,c3⟩:=c
 have f1:((2097152:Int)<(s.length:Int))=False:=eq_false (by omega)
 have f2:((s.length:Int)<17)=False:=eq_false (by omega)
 have kb:=bQ ((s.drop 5).take 4) (by rw [List.length_take];omega)
 have kK:=bQ (s.take 1) (by rw [List.length_take];omega)
 have kW:=bQ ((s.drop 1).take 2) (by rw [List.length_take];omega)
 have kH:=bQ ((s.drop 3).take 2) (by rw [List.length_take];omega)
 rw [show aT (s.take 1)=dK s from rfl] at kK
 rw [show aT ((s.drop 1).take 2)=dW s from rfl] at kW
 rw [show aT ((s.drop 3).take 2)=dH s from rfl] at kH
 have hlt:=pV s
 rw [show aT ((s.drop 5).take 4)=dL s from rfl] at kb
 have f3:((s.length:Int)=9+(dL s:Int)+8)=True:=eq_true (by omega)
 have ks:=mM (s.take (s.length - 8)) (by rw [List.length_take];omega)
 have hal:=jM s c1
 have e8:(s.length:Int) - 8=((s.length - 8:Nat):Int):=by omega
 have htd:(s.drop (s.length - 8)).take (s.length - (s.length - 8))=s.drop (s.length - 8):=List.take_of_length_le (by rw [List.length_drop];exact Nat.le_refl _)
 have hKl:=sG s
 have hWl:=sH s
 have hHl:=sF s
 have hDl:=mW s c1
 have f4:(bY (s.take (s.length - 8))=s.drop (s.length - 8))=True:=eq_true h3
 have kk:=qG (dK s)
 rw [decide_eq_true (by omega)] at kk
 have kz:=nO (dW s) (dH s)
 generalize bF (dW s) (dH s)=z at *
 have f5:(z=0)=False:=eq_false h5
 generalize dL s=L at *
 refine aA.aG Tryz.func15 rfl (by decide) (by simp [Tryz.f15]) [.cell 2 24,.tmp 3] rfl fun w0 T0 _=>?_
 simp only [Tryz.f15,au]
 (repeat' with_reducible first|intro _|refine rz ?_|refine ra ?_ ?_|omega|simp only [go_sem,f1,f2])
 refine ah.k kb ?_
 (repeat' with_reducible first|intro _|refine rz ?_|refine ra ?_ ?_|omega|simp only [go_sem,f3,e8])
 refine aN.lex [] [] (by kernel_rfl) (by kernel_rfl) ?_
 (repeat' with_reducible first|intro _|exact dn|refine rn ?_|refine ra ?_ ?_)
 (refine QV.intro (.int .i64 (dK s)) ?_ ?_;focus ((repeat' with_reducible first|intro _|exact dn|refine rn ?_|refine ra ?_ ?_);refine ah.k (kK) ?_;(repeat' with_reducible first|intro _|exact dn|refine rn ?_|refine ra ?_ ?_)))
 (repeat' with_reducible first|intro _|exact dn|refine rn ?_|refine ra ?_ ?_)
 (refine QV.intro (.int .i64 (dW s)) ?_ ?_;focus ((repeat' with_reducible first|intro _|exact dn|refine rn ?_|refine ra ?_ ?_);refine ah.k (kW) ?_;(repeat' with_reducible first|intro _|exact dn|refine rn ?_|refine ra ?_ ?_)))
 (repeat' with_reducible first|intro _|exact dn|refine rn ?_|refine ra ?_ ?_)
 (refine QV.intro (.int .i64 (dH s)) ?_ ?_;focus ((repeat' with_reducible first|intro _|exact dn|refine rn ?_|refine ra ?_ ?_);refine ah.k (kH) ?_;(repeat' with_reducible first|intro _|exact dn|refine rn ?_|refine ra ?_ ?_)))
 (repeat' with_reducible first|intro _|exact dn|refine rn ?_|refine ra ?_ ?_)
 refine aN.lex [] [] (by kernel_rfl) (by kernel_rfl) ?_
 (repeat' with_reducible first|intro _|refine rz ?_|refine ra ?_ ?_|omega|simp only [go_sem,Nat.sub_zero,hal])
 (refine QV.intro (.str (bY (s.take (s.length - 8)))) ?_ ?_;focus ((repeat' with_reducible first|intro _|exact dn|refine rn ?_|refine ra ?_ ?_);refine ah.k (ks) ?_;(repeat' with_reducible first|intro _|exact dn|refine rn ?_|refine ra ?_ ?_)))
 (repeat' with_reducible first|intro _|refine rz ?_|refine ra ?_ ?_|omega|simp only [go_sem,Nat.sub_zero,hal,htd,f4])
 refine ah.k kk ?_
 (repeat' with_reducible first|intro _|exact dn|refine rn ?_|refine ra ?_ ?_)
 refine ah.k kz ?_
 (repeat' with_reducible first|intro _|refine rz ?_|refine ra ?_ ?_|omega|simp only [go_sem,f5])
 refine aU.auto 0 ?_ rfl ?_<;>simp only [go_sem,Int.natCast_succ,Post]
set_option maxHeartbeats 8000000 in
theorem TM (s:Bytes) (c:xR s) (h3:bY (s.take (s.length - 8))=s.drop (s.length - 8)) (h4:1≤dK s∧dK s≤4) (h5:bF (dW s) (dH s)=0) (h6:(yC s).2=false):aA Tryz.prog 15 [.str s] (.tup [.agg [.int .i64 0,.int .i64 0,.nilS],.int .i64 8]) []:=by
 obtain ⟨c1,c2,c3⟩:=c
 have f1:((2097152:Int)<(s.length:Int))=False:=eq_false (by omega)
 have f2:((s.length:Int)<17)=False:=eq_false (by omega)
 have kb:=bQ ((s.drop 5).take 4) (by rw [List.length_take];omega)
 have kK:=bQ (s.take 1) (by rw [List.length_take];omega)
 have kW:=bQ ((s.drop 1).take 2) (by rw [List.length_take];omega)
 have kH:=bQ ((s.drop 3).take 2) (by rw [List.length_take];omega)
 rw [show aT (s.take 1)=dK s from rfl] at kK
 rw [show aT ((s.drop 1).take 2)=dW s from rfl] at kW
 rw [show aT ((s.drop 3).take 2)=dH s from rfl] at kH
 have hlt:=pV s
 rw [show aT ((s.drop 5).take 4)=dL s from rfl] at kb
 have f3:((s.length:Int)=9+(dL s:Int)+8)=True:=eq_true (by omega)
 have ks:=mM (s.take (s.length - 8)) (by rw [List.length_take];omega)
 have hal:=jM s c1
 have e8:(s.length:Int) - 8=((s.length - 8:Nat):Int):=by omega
 have htd:(s.drop (s.length - 8)).take (s.length - (s.length - 8))=s.drop (s.length - 8):=List.take_of_length_le (by rw [List.length_drop];exact Nat.le_refl _)
 have hKl:=sG s
 have hWl:=sH s
 have hHl:=sF s
 have hDl:=mW s c1
 have f4:(bY (s.take (s.length - 8))=s.drop (s.length - 8))=True:=eq_true h3
 have kk:=qG (dK s)
 rw [decide_eq_true (by omega)] at kk
 have kz:=nO (dW s) (dH s)
 have hz:=fE h5
 have hwh:((dW s:Int)*(dH s:Int))=((dW s*dH s:Nat):Int):=(Int.natCast_mul _ _).symm
 rw [hwh] at hz
 rw [h5] at kz
 have kp:=Qe (dW s) (dH s) (by omega) (by omega) (by omega) (by omega) (dD s) (by omega) (dK s) (by omega) h6
 have hcut:=O9 s c1
 have hp:ni (dK s) (dW s) (dH s) (dD s)=yC s:=rfl
 rw [hp] at kp
 generalize yC s=q at *
 generalize dD s=d at *
 generalize dL s=L at *
 refine aA.aG Tryz.func15 rfl (by decide) (by simp [Tryz.f15]) [.cell 2 24,.tmp 3] rfl fun w0 T0 _=>?_
 simp only [Tryz.f15,au]
 (repeat' with_reducible first|intro _|refine rz ?_|refine ra ?_ ?_|omega|simp only [go_sem,f1,f2])
 refine ah.k kb ?_
 (repeat' with_reducible first|intro _|refine rz ?_|refine ra ?_ ?_|omega|simp only [go_sem,f3,e8])
 refine aN.lex [] [] (by kernel_rfl) (by kernel_rfl) ?_
 (repeat' with_reducible first|intro _|exact dn|refine rn ?_|refine ra ?_ ?_)
 (refine QV.intro (.int .i64 (dK s)) ?_ ?_;focus ((repeat' with_reducible first|intro _|exact dn|refine rn ?_|refine ra ?_ ?_);refine ah.k (kK) ?_;(repeat' with_reducible first|intro _|exact dn|refine rn ?_|refine ra ?_ ?_)))
 (repeat' with_reducible first|intro _|exact dn|refine rn ?_|refine ra ?_ ?_)
 (refine QV.intro (.int .i64 (dW s)) ?_ ?_;focus ((repeat' with_reducible first|intro _|exact dn|refine rn ?_|refine ra ?_ ?_);refine ah.k (kW) ?_;(repeat' with_reducible first|intro _|exact dn|refine rn ?_|refine ra ?_ ?_)))
 (repeat' with_reducible first|intro _|exact dn|refine rn ?_|refine ra ?_ ?_)
 (refine QV.intro (.int .i64 (dH s)) ?_ ?_;focus ((repeat' with_reducible first|intro _|exact dn|refine rn ?_|refine ra ?_ ?_);refine ah.k (kH) ?_;(repeat' with_reducible first|intro _|exact dn|refine rn ?_|refine ra ?_ ?_)))
 (repeat' with_reducible first|intro _|exact dn|refine rn ?_|refine ra ?_ ?_)
 refine aN.lex [] [] (by kernel_rfl) (by kernel_rfl) ?_
 (repeat' with_reducible first|intro _|refine rz ?_|refine ra ?_ ?_|omega|simp only [go_sem,Nat.sub_zero,hal])
 (refine QV.intro (.str (bY (s.take (s.length - 8)))) ?_ ?_;focus ((repeat' with_reducible first|intro _|exact dn|refine rn ?_|refine ra ?_ ?_);refine ah.k (ks) ?_;(repeat' with_reducible first|intro _|exact dn|refine rn ?_|refine ra ?_ ?_)))
 (repeat' with_reducible first|intro _|refine rz ?_|refine ra ?_ ?_|omega|simp only [go_sem,Nat.sub_zero,hal,htd,f4])
 refine ah.k kk ?_
 (repeat' with_reducible first|intro _|exact dn|refine rn ?_|refine ra ?_ ?_)
 refine ah.k kz ?_
 (repeat' with_reducible first|intro _|refine rz ?_|refine ra ?_ ?_|omega|simp only [go_sem,hal,hcut])
 refine ah.f kp 0 ?_
 (repeat' with_reducible first|intro _|exact dn|refine rn ?_|refine ra ?_ ?_)
 refine aU.auto 0 ?_ rfl ?_<;>simp only [go_sem,Int.natCast_succ,Post]
set_option maxHeartbeats 8000000 in
theorem TN (s:Bytes) (c:xR s) (h3:bY (s.take (s.length - 8))=s.drop (s.length - 8)) (h4:1≤dK s∧dK s≤4) (h5:bF (dW s) (dH s)=0) (h6:(yC s).2=true) (h7:¬dY (dW s) (dH s) (yC s).1 (dK s)=s):aA Tryz.prog 15 [.str s] (.tup [.agg [.int .i64 0,.int .i64 0,.nilS],.int .i64 8]) []:=by
 obtain ⟨c1,c2,c3⟩:=c
 have f1:((2097152:Int)<(s.length:Int))=False:=eq_false (by omega)
 have f2:((s.length:Int)<17)=False:=eq_false (by omega)
 have kb:=bQ ((s.drop 5).take 4) (by rw [List.length_take];omega)
 have kK:=bQ (s.take 1) (by rw [List.length_take];omega)
 have kW:=bQ ((s.drop 1).take 2) (by rw [List.length_take];omega)
 have kH:=bQ ((s.drop 3).take 2) (by rw [List.length_take];omega)
 rw [show aT (s.take 1)=dK s from rfl] at kK
 rw [show aT ((s.drop 1).take 2)=dW s from rfl] at kW
 rw [show aT ((s.drop 3).take 2)=dH s from rfl] at kH
 have hlt:=pV s
 rw [show aT ((s.drop 5).take 4)=dL s from rfl] at kb
 have f3:((s.length:Int)=9+(dL s:Int)+8)=True:=eq_true (by omega)
 have ks:=mM (s.take (s.length - 8)) (by rw [List.length_take];omega)
 have hal:=jM s c1
 have e8:(s.length:Int) - 8=((s.length - 8:Nat):Int):=by omega
 have htd:(s.drop (s.length - 8)).take (s.length - (s.length - 8))=s.drop (s.length - 8):=List.take_of_length_le (by rw [List.length_drop];exact Nat.le_refl _)
 have hKl:=sG s
 have hWl:=sH s
 have hHl:=sF s
 have hDl:=mW s c1
 have f4:(bY (s.take (s.length - 8))=s.drop (s.length - 8))=True:=eq_true h3
 have kk:=qG (dK s)
 rw [decide_eq_true (by omega)] at kk
 have kz:=nO (dW s) (dH s)
 have hz:=fE h5
 have hwh:((dW s:Int)*(dH s:Int))=((dW s*dH s:Nat):Int):=(Int.natCast_mul _ _).symm
 rw [hwh] at hz
 rw [h5] at kz
 have kp:=BF (dW s) (dH s) (by omega) (by omega) (by omega) (by omega) (dD s) (by omega) (dK s) (by omega) h6
 have hcut:=O9 s c1
 have hp:ni (dK s) (dW s) (dH s) (dD s)=yC s:=rfl
 rw [hp] at kp
 have hpl:(yC s).1.length=dW s*dH s:=yY h6
 have ke:=Ht (dW s) (dH s) (by omega) (by omega) (by omega) (by omega) (yC s).1 hpl (dK s) (by omega)
 have f9:(dY (dW s) (dH s) (yC s).1 (dK s)=s)=False:=eq_false h7
 generalize dY (dW s) (dH s) (yC s).1 (dK s)=E at *
 generalize yC s=q at *
 generalize dD s=d at *
 generalize dL s=L at *
 refine aA.aG Tryz.func15 rfl (by decide) (by simp [Tryz.f15]) [.cell 2 24,.tmp 3] rfl fun w0 T0 _=>?_
 simp only [Tryz.f15,au]
 (repeat' with_reducible first|intro _|refine rz ?_|refine ra ?_ ?_|omega|simp only [go_sem,f1,f2])
 refine ah.k kb ?_
 (repeat' with_reducible first|intro _|refine rz ?_|refine ra ?_ ?_|omega|simp only [go_sem,f3,e8])
 refine aN.lex [] [] (by kernel_rfl) (by kernel_rfl) ?_
 (repeat' with_reducible first|intro _|exact dn|refine rn ?_|refine ra ?_ ?_)
 (refine QV.intro (.int .i64 (dK s)) ?_ ?_;focus ((repeat' with_reducible first|intro _|exact dn|refine rn ?_|refine ra ?_ ?_);refine ah.k (kK) ?_;(repeat' with_reducible first|intro _|exact dn|refine rn ?_|refine ra ?_ ?_)))
 (repeat' with_reducible first|intro _|exact dn|refine rn ?_|refine ra ?_ ?_)
 (refine QV.intro (.int .i64 (dW s)) ?_ ?_;focus ((repeat' with_reducible first|intro _|exact dn|refine rn ?_|refine ra ?_ ?_);refine ah.k (kW) ?_;(repeat' with_reducible first|intro _|exact dn|refine rn ?_|refine ra ?_ ?_)))
 (repeat' with_reducible first|intro _|exact dn|refine rn ?_|refine ra ?_ ?_)
 (refine QV.intro (.int .i64 (dH s)) ?_ ?_;focus ((repeat' with_reducible first|intro _|exact dn|refine rn ?_|refine ra ?_ ?_);refine ah.k (kH) ?_;(repeat' with_reducible first|intro _|exact dn|refine rn ?_|refine ra ?_ ?_)))
 (repeat' with_reducible first|intro _|exact dn|refine rn ?_|refine ra ?_ ?_)
 refine aN.lex [] [] (by kernel_rfl) (by kernel_rfl) ?_
 (repeat' with_reducible first|intro _|refine rz ?_|refine ra ?_ ?_|omega|simp only [go_sem,Nat.sub_zero,hal])
 (refine QV.intro (.str (bY (s.take (s.length - 8)))) ?_ ?_;focus ((repeat' with_reducible first|intro _|exact dn|refine rn ?_|refine ra ?_ ?_);refine ah.k (ks) ?_;(repeat' with_reducible first|intro _|exact dn|refine rn ?_|refine ra ?_ ?_)))
 (repeat' with_reducible first|intro _|refine rz ?_|refine ra ?_ ?_|omega|simp only [go_sem,Nat.sub_zero,hal,htd,f4])
 refine ah.k kk ?_
 (repeat' with_reducible first|intro _|exact dn|refine rn ?_|refine ra ?_ ?_)
 refine ah.k kz ?_
 (repeat' with_reducible first|intro _|refine rz ?_|refine ra ?_ ?_|omega|simp only [go_sem,hal,hcut])
 refine ah.o kp 1 ?_
 (repeat' with_reducible first|intro _|exact dn|refine rn ?_|refine ra ?_ ?_)
 refine ah.k ke ?_
 (repeat' with_reducible first|intro _|refine rz ?_|refine ra ?_ ?_|omega|simp only [go_sem,f9])
 refine aU.auto 0 ?_ rfl ?_<;>simp only [go_sem,Int.natCast_succ,Post]
set_option maxHeartbeats 8000000 in
theorem decode_ok (s:Bytes) (c:xR s) (h3:bY (s.take (s.length - 8))=s.drop (s.length - 8)) (h4:1≤dK s∧dK s≤4) (h5:bF (dW s) (dH s)=0) (h6:(yC s).2=true) (h7:dY (dW s) (dH s) (yC s).1 (dK s)=s):aA Tryz.prog 15 [.str s] (.tup [.agg [.int .i64 (dW s),.int .i64 (dH s),.own 0],.int .i64 0]) [(0,.row 4 (.bools (yC s).1))]:=by
 obtain ⟨c1,c2,c3⟩:=c
 have f1:((2097152:Int)<(s.length:Int))=False:=eq_false (by omega)
 have f2:((s.length:Int)<17)=False:=eq_false (by omega)
 have kb:=bQ ((s.drop 5).take 4) (by rw [List.length_take];omega)
 have kK:=bQ (s.take 1) (by rw [List.length_take];omega)
 have kW:=bQ ((s.drop 1).take 2) (by rw [List.length_take];omega)
 have kH:=bQ ((s.drop 3).take 2) (by rw [List.length_take];omega)
 rw [show aT (s.take 1)=dK s from rfl] at kK
 rw [show aT ((s.drop 1).take 2)=dW s from rfl] at kW
 rw [show aT ((s.drop 3).take 2)=dH s from rfl] at kH
 have hlt:=pV s
 rw [show aT ((s.drop 5).take 4)=dL s from rfl] at kb
 have f3:((s.length:Int)=9+(dL s:Int)+8)=True:=eq_true (by omega)
 have ks:=mM (s.take (s.length - 8)) (by rw [List.length_take];omega)
 have hal:=jM s c1
 have e8:(s.length:Int) - 8=((s.length - 8:Nat):Int):=by omega
 have htd:(s.drop (s.length - 8)).take (s.length - (s.length - 8))=s.drop (s.length - 8):=List.take_of_length_le (by rw [List.length_drop];exact Nat.le_refl _)
 have hKl:=sG s
 have hWl:=sH s
 have hHl:=sF s
 have hDl:=mW s c1
 have f4:(bY (s.take (s.length - 8))=s.drop (s.length - 8))=True:=eq_true h3
 have kk:=qG (dK s)
 rw [decide_eq_true (by omega)] at kk
 have kz:=nO (dW s) (dH s)
 have hz:=fE h5
 have hwh:((dW s:Int)*(dH s:Int))=((dW s*dH s:Nat):Int):=(Int.natCast_mul _ _).symm
 rw [hwh] at hz
 rw [h5] at kz
 have kp:=BF (dW s) (dH s) (by omega) (by omega) (by omega) (by omega) (dD s) (by omega) (dK s) (by omega) h6
 have hcut:=O9 s c1
 have hp:ni (dK s) (dW s) (dH s) (dD s)=yC s:=rfl
 rw [hp] at kp
 have hpl:(yC s).1.length=dW s*dH s:=yY h6
 have ke:=Ht (dW s) (dH s) (by omega) (by omega) (by omega) (by omega) (yC s).1 hpl (dK s) (by omega)
 have f9:(dY (dW s) (dH s) (yC s).1 (dK s)=s)=True:=eq_true h7
 generalize dY (dW s) (dH s) (yC s).1 (dK s)=E at *
 generalize yC s=q at *
 generalize dD s=d at *
 generalize dL s=L at *
 refine aA.aG Tryz.func15 rfl (by decide) (by simp [Tryz.f15]) [.cell 2 24,.tmp 3] rfl fun w0 T0 _=>?_
 simp only [Tryz.f15,au]
 (repeat' with_reducible first|intro _|refine rz ?_|refine ra ?_ ?_|omega|simp only [go_sem,f1,f2])
 refine ah.k kb ?_
 (repeat' with_reducible first|intro _|refine rz ?_|refine ra ?_ ?_|omega|simp only [go_sem,f3,e8])
 refine aN.lex [] [] (by kernel_rfl) (by kernel_rfl) ?_
 (repeat' with_reducible first|intro _|exact dn|refine rn ?_|refine ra ?_ ?_)
 (refine QV.intro (.int .i64 (dK s)) ?_ ?_;focus ((repeat' with_reducible first|intro _|exact dn|refine rn ?_|refine ra ?_ ?_);refine ah.k (kK) ?_;(repeat' with_reducible first|intro _|exact dn|refine rn ?_|refine ra ?_ ?_)))
 (repeat' with_reducible first|intro _|exact dn|refine rn ?_|refine ra ?_ ?_)
 (refine QV.intro (.int .i64 (dW s)) ?_ ?_;focus ((repeat' with_reducible first|intro _|exact dn|refine rn ?_|refine ra ?_ ?_);refine ah.k (kW) ?_;(repeat' with_reducible first|intro _|exact dn|refine rn ?_|refine ra ?_ ?_)))
 (repeat' with_reducible first|intro _|exact dn|refine rn ?_|refine ra ?_ ?_)
 (refine QV.intro (.int .i64 (dH s)) ?_ ?_;focus ((repeat' with_reducible first|intro _|exact dn|refine rn ?_|refine ra ?_ ?_);refine ah.k (kH) ?_;(repeat' with_reducible first|intro _|exact dn|refine rn ?_|refine ra ?_ ?_)))
 (repeat' with_reducible first|intro _|exact dn|refine rn ?_|refine ra ?_ ?_)
 refine aN.lex [] [] (by kernel_rfl) (by kernel_rfl) ?_
 (repeat' with_reducible first|intro _|refine rz ?_|refine ra ?_ ?_|omega|simp only [go_sem,Nat.sub_zero,hal])
 (refine QV.intro (.str (bY (s.take (s.length - 8)))) ?_ ?_;focus ((repeat' with_reducible first|intro _|exact dn|refine rn ?_|refine ra ?_ ?_);refine ah.k (ks) ?_;(repeat' with_reducible first|intro _|exact dn|refine rn ?_|refine ra ?_ ?_)))
 (repeat' with_reducible first|intro _|refine rz ?_|refine ra ?_ ?_|omega|simp only [go_sem,Nat.sub_zero,hal,htd,f4])
 refine ah.k kk ?_
 (repeat' with_reducible first|intro _|exact dn|refine rn ?_|refine ra ?_ ?_)
 refine ah.k kz ?_
 (repeat' with_reducible first|intro _|refine rz ?_|refine ra ?_ ?_|omega|simp only [go_sem,hal,hcut])
 refine ah.o kp 1 ?_
 (repeat' with_reducible first|intro _|exact dn|refine rn ?_|refine ra ?_ ?_)
 refine ah.k ke ?_
 (repeat' with_reducible first|intro _|refine rz ?_|refine ra ?_ ?_|omega|simp only [go_sem,f9])
 refine aU.auto 1 ?_ rfl ?_<;>simp only [go_sem,Int.natCast_succ,Post]
theorem decode_two (s:Bytes) (hs:s.length≤200000000000000):Ti 15 s (jc s):=by
 unfold jc
 have no:∀ e,e≠0→aA Tryz.prog 15 [.str s] (.tup [.agg [.int .i64 0,.int .i64 0,.nilS],.int .i64 e]) []→Ti 15 s (D8 e):=fun e h k=>.inr ⟨rfl,h,k⟩
 by_cases h1:2097152<s.length
 ·rw [if_pos h1];exact no _ (by decide) (TG s hs h1)
 rw [if_neg h1]
 by_cases h2:s.length<17∨s.length≠17+dL s
 ·rw [if_pos h2];exact no _ (by decide) (TI s (by omega) h2)
 rw [if_neg h2]
 have c:xR s:=⟨by omega,by omega,by omega⟩
 by_cases h3:bY (s.take (s.length - 8))=s.drop (s.length - 8)
 rotate_left
 ·rw [if_pos h3];exact no _ (by decide) (TJ s c h3)
 rw [if_neg (fun h=>h h3)]
 by_cases h4:1≤dK s∧dK s≤4
 rotate_left
 ·rw [if_pos h4];exact no _ (by decide) (TK s c h3 h4)
 rw [if_neg (fun h=>h h4)]
 by_cases h5:bF (dW s) (dH s)=0
 rotate_left
 ·rw [if_pos h5];exact no _ h5 (TL s c h3 h4 h5)
 rw [if_neg (fun h=>h h5)]
 by_cases h6:(yC s).2=true
 rotate_left
 ·rw [if_neg (fun h=>h6 h.1)];exact no _ (by decide) (TM s c h3 h4 h5 (by simpa using h6))
 by_cases h7:dY (dW s) (dH s) (yC s).1 (dK s)=s
 ·rw [if_pos ⟨h6,h7⟩]
  exact .inl ⟨rfl,decode_ok s c h3 h4 h5 h6 h7⟩
 ·rw [if_neg (fun h=>h7 h.2)];exact no _ (by decide) (TN s c h3 h4 h5 h6 h7)
theorem TP (s:Bytes) (hs:s.length≤200000000000000):cO Tryz.prog 15 [.str s] (TQ (jc s)) []:=(decode_two s hs).fr
end Go.Fv.H
/- strings.Builder.WriteByte. -/
namespace Go.Fv.H
open Go Go.Proofs
set_option maxHeartbeats 2000000 in
theorem nN (c:UInt8):fA Tryz.prog 54 [.ptr 0 0,.int .u8 c.toNat] [(0,.box 89 [.raw (.pointer none),.nilS])] 1 (.raw .nilIface) [(0,.box 89 [.ptr 0 0,.own 1]),(1,.row 5 (.ints .u8 (aj [c])))]:=by
 have k:=rH
 refine fA.aG Tryz.func54 rfl (by decide) (by simp [Tryz.f54]) Ho [.tmp 4] rfl fun w0 T0 _=>?_
 simp only [Tryz.f54,au]
 (repeat' with_reducible first|intro _|exact dn|refine rn ?_|refine ra ?_ ?_)
 refine ah.i [0] k 1 ?_
 (repeat' with_reducible first|intro _|refine rz ?_|refine ra ?_ ?_|omega|simp only [go_sem,S.VP,qp,qF,Ea,Item.ren,ren,iW,List.getElem?_cons_zero,List.getElem?_cons_succ,List.getElem?_nil,List.filter])
 refine jl.of [(1,3)] 3 (by decide) (by decide) ?_ rfl ?_<;>simp only [go_sem,Int.natCast_succ,aj,List.map_cons,List.map_nil]
set_option maxHeartbeats 2000000 in
theorem pU (b:List UInt8) (c:UInt8) (hb:b.length≤100000000000):fA Tryz.prog 54 [.ptr 0 0,.int .u8 c.toNat] [(0,.box 89 [.ptr 0 0,.own 1]),(1,.row 5 (.ints .u8 (aj b)))] 2 (.raw .nilIface) [(0,.box 89 [.ptr 0 0,.own 2]),(2,.row 5 (.ints .u8 (aj (b++[c]))))]:=by
 have k:=Bc 5 (aj b)
 have hbl:=rG b
 have he:aj (b++[c])=aj b++[(c.toNat:Int)]:=by unfold aj;rw [List.map_append];rfl
 generalize aj b=B at *
 generalize aj (b++[c])=C at *
 refine fA.aG Tryz.func54 rfl (by decide) (by simp [Tryz.f54]) yB [.tmp 4] rfl fun w0 T0 _=>?_
 simp only [Tryz.f54,au]
 (repeat' with_reducible first|intro _|exact dn|refine rn ?_|refine ra ?_ ?_)
 refine ah.i [0,1] k 2 ?_
 (repeat' with_reducible first|intro _|exact dn|refine rn ?_|refine ra ?_ ?_)
 refine jl.of [(2,3)] 3 (by decide) (by decide) ?_ rfl ?_<;>simp only [go_sem,Int.natCast_succ,he]
end Go.Fv.H
/- bedref1.plus: the walk. -/
namespace Go.Fv.H
open Go Go.Proofs
def Ut (k N m t:Nat):Bytes:=bV (k - t) (N / 256 ^ t)++bV t (N+m)
def Gm (N m t:Nat):Nat:=(N%256 ^ t+m) / 256 ^ t
theorem WT (k N m:Nat):Ut k N m 0=bV k N:=by unfold Ut;rw [Nat.pow_zero,Nat.div_one,oH,List.append_nil];rfl
theorem WV (N m:Nat):Gm N m 0=m:=by unfold Gm;rw [Nat.pow_zero,Nat.mod_one,Nat.div_one,Nat.zero_add]
theorem Z7 (N m t:Nat):Gm N m t≤m+1:=by
 unfold Gm
 have hq:0<256 ^ t:=Nat.pow_pos (by decide)
 generalize 256 ^ t=q at *
 have h1:=Nat.mod_lt N hq
 have h2:(N%q+m) / q≤(q+m) / q:=Nat.div_le_div_right (by omega)
 rw [Nat.add_comm q,Nat.add_div_right _ hq] at h2
 have:=Nat.div_le_self m q
 omega
theorem WW (N m t:Nat):(N+m) / 256 ^ t=Gm N m t+N / 256 ^ t:=by
 unfold Gm
 have hq:0<256 ^ t:=Nat.pow_pos (by decide)
 generalize 256 ^ t=q at *
 have h:=Nat.div_add_mod N q
 have e:N+m=(N%q+m)+q*(N / q):=by omega
 rw [e,Nat.add_mul_div_left _ _ hq]
theorem WU (N m t:Nat):Gm N m (t+1)=(Gm N m t+N / 256 ^ t%256) / 256:=by
 unfold Gm
 have hq:0<256 ^ t:=Nat.pow_pos (by decide)
 rw [Nat.pow_succ,Nat.mod_mul,←Nat.div_div_eq_div_mul]
 generalize 256 ^ t=q at *
 have e:N%q+q*(N / q%256)+m=(N%q+m)+q*(N / q%256):=by omega
 rw [e,Nat.add_mul_div_left _ _ hq]
theorem WR {k N m t:Nat} (ht:t≤k) (h:Gm N m t=0∨t=k):Ut k N m t=bV k (N+m):=by
 rcases h with h|h
 ·have h2:=WW N m t
  rw [h,Nat.zero_add] at h2
  unfold Ut
  rw [←h2,←CJ,Nat.sub_add_cancel ht]
 ·subst h;unfold Ut;rw [Nat.sub_self,oH,List.nil_append]
theorem YG {k N m t:Nat} (ht:t<k):Ut k N m t=bV (k - t - 1) (N / 256 ^ t / 256)++UInt8.ofNat (N / 256 ^ t)::bV t (N+m):=by
 unfold Ut
 have e:k - t=(k - t - 1)+1:=by omega
 rw [e,gY,List.append_assoc,List.singleton_append]
 rfl
theorem WS {k N m t:Nat} (ht:t<k):Ut k N m (t+1)=bV (k - t - 1) (N / 256 ^ t / 256)++UInt8.ofNat ((N+m) / 256 ^ t)::bV t (N+m):=by
 unfold Ut
 have e:k - (t+1)=k - t - 1:=by omega
 rw [e,Nat.pow_succ,←Nat.div_div_eq_div_mul,Nat.add_comm t 1,CJ 1 t]
 have e2:∀ n,bV 1 n=[UInt8.ofNat n]:=fun n=>by
  have:=gY 0 n
  rw [oH,List.nil_append] at this
  exact this
 rw [e2,List.singleton_append]
theorem YF {k N m t:Nat} (ht:t≤k):(Ut k N m t).length=k:=by unfold Ut;rw [List.length_append,aQ,aQ];omega
set_option maxHeartbeats 4000000 in
theorem YH (k N m:Nat) (hk:k≤2000000) (hm:m≤4294967296) :
  fA Tryz.prog 102 [.own 0,.int .i64 m] [(0,.row 5 (.ints .u8 (aj (bV k N))))] 1 (.tup []) [(0,.row 5 (.ints .u8 (aj (bV k (N+m)))))]:=by
 have hl0:(aj (bV k N)).length=k:=by rw [cZ,aQ]
 refine fA.aG Tryz.func102 rfl (by decide) (by simp [Tryz.f102]) Ho [] rfl fun w0 T0 _=>?_
 simp only [Tryz.f102,au]
 (repeat' with_reducible first|intro _|refine rz ?_|refine ra ?_ ?_|omega|simp only [go_sem,hl0])
 refine aF.intro (fun t:Nat=>⟨30,[(4,.int .i64 ((k:Int) - 1 - (t:Int))),(1,.int .i64 (Gm N m t)),(0,.own 0)],[(0,.row 5 (.ints .u8 (aj (Ut k N m t))))],1⟩) (fun t=>t≤k) (fun t=>k - t) 0 ?_ (Nat.zero_le _) fun t ht=>?_
 ·refine aK.DU 1 rfl (Nat.le_refl 1) ?_ ?_<;>simp only [go_sem,Int.natCast_succ,gq,WT,WV]
  all_goals omega
 have hx:=Z7 N m t
 by_cases hgo:0<Gm N m t∧t<k
 ·have f1:(0<((Gm N m t:Nat):Int))=True:=eq_true (by omega)
  have f2:(0≤(k:Int) - 1 - (t:Int))=True:=eq_true (by omega)
  have hnow:=YG (N:=N) (m:=m) hgo.2
  have hnext:=WS (N:=N) (m:=m) hgo.2
  have hsum:=WW N m t
  have hxs:=WU N m t
  have hAl:=aQ (k - t - 1) (N / 256 ^ t / 256)
  have hlen:(aj (Ut k N m t)).length=k:=by rw [cZ,YF (by omega)]
  have hat:=uX (bV (k - t - 1) (N / 256 ^ t / 256)) (UInt8.ofNat (N / 256 ^ t)) (bV t (N+m))
  have hset:=zM (bV (k - t - 1) (N / 256 ^ t / 256)) (UInt8.ofNat (N / 256 ^ t)) (UInt8.ofNat ((N+m) / 256 ^ t)) (bV t (N+m))
  rw [←hnow,hAl] at hat hset
  rw [←hnext] at hset
  have hbt:(UInt8.ofNat (N / 256 ^ t)).toNat=N / 256 ^ t%256:=by simp
  have hbv:(UInt8.ofNat ((N+m) / 256 ^ t)).toNat=(N+m) / 256 ^ t%256:=by simp
  rw [hbt] at hat
  rw [hbv] at hset
  have hix:((k:Int) - 1 - (t:Int)).toNat=k - t - 1:=by omega
  have hsh:∀ a:Nat,mG .i64 (a:Int) 8=((a / 256:Nat):Int):=fun a=>by
   unfold mG
   rw [show (2:Int) ^ (min (8:Int).toNat IntKind.i64.bits)=256 by rfl,Int.fdiv_eq_ediv_of_nonneg _ (by decide)]
   rfl
  have hv:((Gm N m t:Nat):Int)+((N / 256 ^ t%256:Nat):Int)=((Gm N m t+N / 256 ^ t%256:Nat):Int):=by omega
  have hw8:IntKind.u8.wrap ((Gm N m t+N / 256 ^ t%256:Nat):Int)=(((N+m) / 256 ^ t%256:Nat):Int):=by rw [lu,hsum];omega
  have hq:=hsh (Gm N m t+N / 256 ^ t%256)
  rw [←hxs] at hq
  have hb256:N / 256 ^ t%256<256:=Nat.mod_lt _ (by decide)
  generalize hx2:Gm N m (t+1)=x2 at *
  generalize Gm N m t=x at *
  generalize (N+m) / 256 ^ t%256=y at *
  generalize N / 256 ^ t%256=z at *
  (repeat' with_reducible first|intro _|refine rz ?_|refine ra ?_ ?_|omega|simp only [go_sem,f1,f2,hix,hlen,hat,hv])
  refine dF.at _ hw8 ?_
  (repeat' with_reducible first|intro _|refine rz ?_|refine ra ?_ ?_|omega|simp only [go_sem,hix,hlen,hset,hq])
  refine ⟨t+1,aK.DU 1 rfl (Nat.le_refl 1) ?_ ?_,by omega,by omega⟩<;>simp only [go_sem,Int.natCast_succ,gq,hx2]
  all_goals omega
 ·have hd:=WR (N:=N) (m:=m) ht (by omega)
  by_cases f:0<Gm N m t
  ·have f1:(0<((Gm N m t:Nat):Int))=True:=eq_true (by omega)
   have f2:(0≤(k:Int) - 1 - (t:Int))=False:=eq_false (by omega)
   (repeat' with_reducible first|intro _|refine rz ?_|refine ra ?_ ?_|omega|simp only [go_sem,f1,f2])
   refine jl.auto 1 (Nat.le_refl 1) ?_ rfl ?_<;>simp only [go_sem,Int.natCast_succ,gq,hd]
  ·have f1:(0<((Gm N m t:Nat):Int))=False:=eq_false (by omega)
   (repeat' with_reducible first|intro _|refine rz ?_|refine ra ?_ ?_|omega|simp only [go_sem,f1])
   refine jl.auto 1 (Nat.le_refl 1) ?_ rfl ?_<;>simp only [go_sem,Int.natCast_succ,gq,hd]
end Go.Fv.H
