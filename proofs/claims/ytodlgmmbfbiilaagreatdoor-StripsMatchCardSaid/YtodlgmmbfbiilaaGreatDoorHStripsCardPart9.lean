/-
  A part of the proof of the claim: walks over the program's functions and the plain laws that these need. No condition of its own.
-/
import Derived.Test.YtodlgmmbfbiilaaGreatDoorHStripsCardPart8
import Derived.Test.YtodlgmmbfbiilaaGreatDoorHStripsCardPart1
import Derived.Test.YtodlgmmbfbiilaaGreatDoorFvPart11
import Derived.Test.YtodlgmmbfbiilaaGreatDoorFvPart10
import Derived.Test.YtodlgmmbfbiilaaGreatDoorHStripsCardPart7
import Derived.Test.YtodlgmmbfbiilaaGreatDoorHStripsCardPart6
import Derived.Test.YtodlgmmbfbiilaaGreatDoorHStripsCardPart5
import Derived.Test.YtodlgmmbfbiilaaGreatDoorHStripsCardPart3
set_option linter.unusedSimpArgs false
set_option linter.unusedVariables false
set_option linter.unnecessarySimpa false
set_option maxRecDepth 8000
/- shrink.pageOf at runs: the walk. -/
namespace Go.Fv.H
open Go Go.Proofs
structure Xr where
 (y:Nat) (s:Bytes) (acc:List Bool)
structure XF where
 (n:Nat) (ink:Bool) (s:Bytes) (acc:List Bool)
set_option maxHeartbeats 16000000 in
theorem BA (w h:Nat) (hw0:0<w) (hw:w≤4000) (hh:h≤4000) (hwh:w*h≤1048576) (d:Bytes) (hd:d.length≤100000000) :
  aA Tryz.prog 68 [.str d,.int .i64 2,.int .i64 w,.int .i64 h] (.tup [.agg [.int .i64 w,.int .i64 h,.own 0],.bool (dB w h (gJ d)).2]) [(0,.row 4 (.bools (dB w h (gJ d)).1))]:=by
 have k:=oG d (by omega)
 have hl:=uH d
 generalize gJ d=s at *
 obtain ⟨R,hR⟩:∃ R,dB w h s=R:=⟨_,rfl⟩
 rw [hR]
 refine aA.aG Tryz.func68 rfl (by decide) (by simp [Tryz.f68]) [.cell 8 24,.tmp 9] rfl fun w0 T0 _=>?_
 simp only [Tryz.f68,au]
 (repeat' with_reducible first|intro _|exact dn|refine rn ?_|refine ra ?_ ?_)
 refine ah.k k ?_
 (repeat' with_reducible first|intro _|exact dn|refine rn ?_|refine ra ?_ ?_)
 refine aI.intro (fun x:Xr=>⟨135,[(87,.int .i64 x.y),(86,.int .i64 h),(11,.str x.s),(10,.ptr 1 0),(8,.ptr 0 0),(2,.int .i64 w),(3,.int .i64 h)],[(0,.box 24 [.int .i64 0,.int .i64 0,.nilS]),(1,.box 24 [.int .i64 w,.int .i64 h,.own 2]),(2,.row 4 (.bools x.acc))],3⟩) (fun x=>x.y≤h∧x.s.length≤s.length∧x.acc.length=x.y*w∧R=(x.acc++(dB w (h - x.y) x.s).1,(dB w (h - x.y) x.s).2)) (fun x=>h - x.y) ⟨0,s,[]⟩ ?_ ⟨Nat.zero_le _,Nat.le_refl _,(Nat.zero_mul w).symm,hR.symm⟩ fun x hx=>?_
 ·refine aO.trans (aO.iM (P:=Tryz.prog) 1 2 4 e4 rfl rfl) (aO.ak rfl ?_ ?_)<;>simp only [go_sem,Int.natCast_succ,put]
 obtain ⟨y,t,acc⟩:=x
 obtain ⟨hy,ht,hacc,hRx⟩:=hx
 dsimp only at hy ht hacc hRx ⊢
 by_cases hlt:y<h
 rotate_left
 ·have f1:((y:Int)<(h:Int))=False:=eq_false (by omega)
  have e:y=h:=by omega
  subst e
  rw [Nat.sub_self] at hRx
  have hR2:R=(acc,true):=by rw [hRx];show (acc++[],true)=_;rw [List.append_nil]
  rw [hR2]
  (repeat' with_reducible first|intro _|refine rz ?_|refine ra ?_ ?_|omega|simp only [go_sem,f1])
  refine aV.of [(0,2)] 1 ?_ (by rfl) ?_<;>simp only [go_sem,Int.natCast_succ,Post]
 have f1:((y:Int)<(h:Int))=True:=eq_true (by omega)
 have hk:h - y=(h - (y+1))+1:=by omega
 rw [hk] at hRx
 have hRq:R=(acc++(jD (dB w (h - (y+1))) (eH w 0 false t)).1,(jD (dB w (h - (y+1))) (eH w 0 false t)).2):=hRx
 clear hRx
 obtain ⟨F,hF⟩:∃ F,dB w (h - (y+1))=F:=⟨_,rfl⟩
 rw [hF] at hRq
 have hyw:y*w+w≤1048576:=by
  have h1:y*w+w≤h*w:=by rw [←Nat.succ_mul];exact Nat.mul_le_mul_right _ hlt
  have h2:h*w=w*h:=Nat.mul_comm _ _
  omega
 generalize hyv:y*w=yw at *
 (repeat' with_reducible first|intro _|refine rz ?_|refine ra ?_ ?_|omega|simp only [go_sem,f1])
 refine aI.intro (fun x:XF=>⟨135,[(13,.int .i64 x.n),(14,.bool x.ink),(87,.int .i64 y),(86,.int .i64 h),(11,.str x.s),(10,.ptr 1 0),(8,.ptr 0 0),(2,.int .i64 w),(3,.int .i64 h)],[(0,.box 24 [.int .i64 0,.int .i64 0,.nilS]),(1,.box 24 [.int .i64 w,.int .i64 h,.own 2]),(2,.row 4 (.bools x.acc))],3⟩) (fun x=>x.n≤w∧x.s.length≤s.length∧x.acc.length=yw+x.n∧R=(x.acc++(jD F (eH w x.n x.ink x.s)).1,(jD F (eH w x.n x.ink x.s)).2)) (fun x=>x.s.length) ⟨0,false,t,acc⟩ ?_ ⟨Nat.zero_le _,ht,by dsimp only;omega,hRq⟩ fun x hx=>?_
 ·refine aO.ak rfl ?_ ?_<;>simp only [go_sem,Int.natCast_succ]
  all_goals first|rfl|exact ⟨rfl,rfl⟩|trace_state
 clear hRq
 obtain ⟨n,ink,u,ac⟩:=x
 obtain ⟨hn,hu,hac,hRu⟩:=hx
 dsimp only at hn hu hac hRu ⊢
 by_cases hnw:n<w
 rotate_left
 ·have f2:((n:Int)<(w:Int))=False:=eq_false (by omega)
  have e:n=w:=by omega
  rw [uU hnw] at hRu
  have hR3:R=(ac++(F u).1,(F u).2):=hRu
  (repeat' with_reducible first|intro _|refine rz ?_|refine ra ?_ ?_|omega|simp only [go_sem,f2])
  refine ⟨⟨y+1,u,ac⟩,aO.ak rfl ?_ ?_,⟨by dsimp only;omega,hu,by dsimp only;rw [Nat.succ_mul];omega,by dsimp only;rw [hF];exact hR3⟩,by dsimp only;omega⟩<;>simp only [go_sem,Int.natCast_succ]
  all_goals first|rfl|omega|trace_state
 have f2:((n:Int)<(w:Int))=True:=eq_true (by omega)
 have hg:oq (u.take 64)=oq u:=JC u 64 (Nat.le_refl _)
 have g1:Aq (u.take 64)=Aq u:=by unfold Aq;rw [hg]
 have g2:Az (u.take 64)=Az u:=by unfold Az;rw [hg]
 have g3:Et 8 (u.take 64)=Et 8 u:=by unfold Et;rw [hg]
 have kg:=KO (u.take 64) (by rw [List.length_take];omega)
 rw [g1,g2,g3] at kg
 have hm:min (u.length:Int) 64=((min u.length 64:Nat):Int):=by omega
 have htk:u.take (min u.length 64)=u.take 64:=by rw [List.take_eq_take_iff];omega
 have hml:min u.length 64≤u.length:=by omega
 generalize min u.length 64=mm at *
 cases hrd:oq u with
 | none=>
  obtain ⟨r1,r2,r3⟩:=pO hrd
  rw [r1,r2,r3] at kg
  rw [vX hnw ink hrd] at hRu
  have hR3:R=(ac,false):=by rw [hRu];show (ac++[],false)=_;rw [List.append_nil]
  rw [hR3]
  (repeat' with_reducible first|intro _|refine rz ?_|refine ra ?_ ?_|omega|simp only [go_sem,f2,hm,Nat.sub_zero,htk])
  refine ah.k kg ?_
  (repeat' with_reducible first|intro _|exact dn|refine rn ?_|refine ra ?_ ?_)
  refine aV.of [(0,2)] 1 ?_ (by rfl) ?_<;>simp only [go_sem,Int.natCast_succ,Post]
 | some z=>
  obtain ⟨m,l⟩:=z
  obtain ⟨r1,r2,r3⟩:=pX hrd
  rw [r1,r2,r3] at kg
  obtain ⟨q1,q2⟩:=AY hrd
  obtain ⟨q3,q4,q5⟩:=jT hrd
  have hmI:(m:Int) - 1=((m - 1:Nat):Int):=by omega
  by_cases hov:w - n<m - 1
  ·rw [wE hnw ink hrd hov] at hRu
   have hR3:R=(ac,false):=by rw [hRu];show (ac++[],false)=_;rw [List.append_nil]
   rw [hR3]
   have f3:((w:Int) - (n:Int)<((m - 1:Nat):Int))=True:=eq_true (by omega)
   (repeat' with_reducible first|intro _|refine rz ?_|refine ra ?_ ?_|omega|simp only [go_sem,f2,hm,Nat.sub_zero,htk])
   refine ah.k kg ?_
   (repeat' with_reducible first|intro _|refine rz ?_|refine ra ?_ ?_|omega|simp only [go_sem,hmI,f3])
   refine aV.of [(0,2)] 1 ?_ (by rfl) ?_<;>simp only [go_sem,Int.natCast_succ,Post]
  rw [qw hnw ink hrd hov] at hRu
  have hR3:R=(ac++List.replicate (m - 1) ink++(jD F (eH w (n+(m - 1)) (!ink) (u.drop l))).1,(jD F (eH w (n+(m - 1)) (!ink) (u.drop l))).2):=by
   rw [hRu]
   generalize eH w (n+(m - 1)) (!ink) (u.drop l)=q
   obtain ⟨q1,q2⟩:=q
   cases q2 with
   | none=>show (ac++(List.replicate (m - 1) ink++q1),false)=(ac++List.replicate (m - 1) ink++q1,false);rw [List.append_assoc]
   | some v=>show (ac++(List.replicate (m - 1) ink++q1++(F v).1),(F v).2)=(ac++List.replicate (m - 1) ink++(q1++(F v).1),(F v).2);rw [List.append_assoc,List.append_assoc]
  have f3:((w:Int) - (n:Int)<((m - 1:Nat):Int))=False:=eq_false (by omega)
  have htl:(u.drop l).take (u.length - l)=u.drop l:=List.take_of_length_le (by rw [List.length_drop];exact Nat.le_refl _)
  have hdl:(u.drop l).length=u.length - l:=List.length_drop
  obtain ⟨u2,hu2⟩:∃ u2,u.drop l=u2:=⟨_,rfl⟩
  rw [hu2] at hR3 hdl
  rw [hu2] at htl
  have htl2:(u.drop l).take (u.length - l)=u2:=by rw [hu2];exact htl
  (repeat' with_reducible first|intro _|refine rz ?_|refine ra ?_ ?_|omega|simp only [go_sem,f2,hm,Nat.sub_zero,htk])
  refine ah.k kg ?_
  (repeat' with_reducible first|intro _|refine rz ?_|refine ra ?_ ?_|omega|simp only [go_sem,hmI,f3,htl2])
  refine aI.intro (fun j:Nat=>⟨135,[(118,.int .i64 j),(117,.int .i64 (m - 1:Nat)),(15,.int .i64 m),(13,.int .i64 n),(14,.bool ink),(87,.int .i64 y),(86,.int .i64 h),(11,.str u2),(10,.ptr 1 0),(8,.ptr 0 0),(2,.int .i64 w),(3,.int .i64 h)],[(0,.box 24 [.int .i64 0,.int .i64 0,.nilS]),(1,.box 24 [.int .i64 w,.int .i64 h,.own 2]),(2,.row 4 (.bools (ac++List.replicate j ink)))],3⟩) (fun j=>j≤m - 1) (fun j=>m - 1 - j) 0 ?_ (Nat.zero_le _) fun j hj=>?_
  ·refine aO.ak rfl ?_ ?_<;>simp only [go_sem,Int.natCast_succ]
   all_goals first|rfl|exact ⟨rfl,rfl⟩|trace_state
  by_cases hjl:j<m - 1
  ·have f4:((j:Int)<((m - 1:Nat):Int))=True:=eq_true (by omega)
   have hrs:ac++List.replicate j ink++[ink]=ac++List.replicate (j+1) ink:=by rw [List.append_assoc,List.replicate_succ']
   have hrl:(ac++List.replicate j ink).length=ac.length+j:=by rw [List.length_append,List.length_replicate]
   (repeat' with_reducible first|intro _|refine rz ?_|refine ra ?_ ?_|omega|simp only [go_sem,f4,hrl])
   refine ⟨j+1,aO.ak rfl ?_ ?_,by omega,by omega⟩<;>simp only [go_sem,Int.natCast_succ,hrs]
   all_goals first|rfl|trace_state
  ·have f4:((j:Int)<((m - 1:Nat):Int))=False:=eq_false (by omega)
   have e:j=m - 1:=by omega
   subst e
   have hnn:(n:Int)+((m - 1:Nat):Int)=((n+(m - 1):Nat):Int):=by omega
   (repeat' with_reducible first|intro _|refine rz ?_|refine ra ?_ ?_|omega|simp only [go_sem,f4,hmI,hnn])
   refine ⟨⟨n+(m - 1),!ink,u2,ac++List.replicate (m - 1) ink⟩,aO.ak rfl ?_ ?_,⟨by dsimp only;omega,by dsimp only;omega,by dsimp only;rw [List.length_append,List.length_replicate];omega,hR3⟩,by dsimp only;omega⟩<;>simp only [go_sem,Int.natCast_succ]
   all_goals first|rfl|omega|exact ⟨rfl,rfl⟩|trace_state
end Go.Fv.H
/- shrink.pageOf at lines: the walk. -/
namespace Go.Fv.H
open Go Go.Proofs
structure Xg where
 (y:Nat) (ab:List Bool) (s:Bytes) (acc:List Bool)
theorem sV {k:Nat} {ab:List Bool} {s:Bytes} (h:dQ true ab s=none):bY (k+1) ab s=([],false):=by
 show (match dQ true ab s with|none=>_|some (r,n)=>_)=_
 rw [h]
theorem zI {k:Nat} {ab r:List Bool} {s:Bytes} {n:Nat} (h:dQ true ab s=some (r,n)):bY (k+1) ab s=(r++(bY k r (s.drop n)).1,(bY k r (s.drop n)).2):=by
 show (match dQ true ab s with|none=>_|some (r,n)=>_)=_
 rw [h]
theorem LW {ab:List Bool} {s:Bytes}:dQ true ab s=match lN true ab s with|none=>none|some (l,n)=>if eu l ab=s.take n then some (l,n) else none:=rfl
set_option maxHeartbeats 16000000 in
theorem CY (w h:Nat) (hw0:0<w) (hw:w≤4000) (hh:h≤4000) (hwh:w*h≤1048576) (d:Bytes) (hd:d.length≤100000000) :
  aA Tryz.prog 68 [.str d,.int .i64 3,.int .i64 w,.int .i64 h] (.tup [.agg [.int .i64 w,.int .i64 h,.own 0],.bool (bY h (List.replicate w false) (gJ d)).2]) [(0,.row 4 (.bools (bY h (List.replicate w false) (gJ d)).1))]:=by
 have k:=oG d (by omega)
 have hl:=uH d
 generalize gJ d=s at *
 obtain ⟨R,hR⟩:∃ R,bY h (List.replicate w false) s=R:=⟨_,rfl⟩
 rw [hR]
 refine aA.aG Tryz.func68 rfl (by decide) (by simp [Tryz.f68]) [.cell 8 24,.tmp 9] rfl fun w0 T0 _=>?_
 simp only [Tryz.f68,au]
 (repeat' with_reducible first|intro _|exact dn|refine rn ?_|refine ra ?_ ?_)
 refine ah.k k ?_
 (repeat' with_reducible first|intro _|exact dn|refine rn ?_|refine ra ?_ ?_)
 refine aI.intro (fun x:Xg=>⟨135,[(37,.int .i64 x.y),(36,.int .i64 h),(18,.own 2),(11,.str x.s),(10,.ptr 1 0),(8,.ptr 0 0),(2,.int .i64 w),(3,.int .i64 h)],[(0,.box 24 [.int .i64 0,.int .i64 0,.nilS]),(1,.box 24 [.int .i64 w,.int .i64 h,.own 3]),(2,.row 4 (.bools x.ab)),(3,.row 4 (.bools x.acc))],4⟩) (fun x=>x.y≤h∧x.s.length≤s.length∧x.ab.length=w∧x.acc.length=x.y*w∧R=(x.acc++(bY (h - x.y) x.ab x.s).1,(bY (h - x.y) x.ab x.s).2)) (fun x=>h - x.y) ⟨0,List.replicate w false,s,[]⟩ ?_ ⟨Nat.zero_le _,Nat.le_refl _,List.length_replicate,(Nat.zero_mul w).symm,hR.symm⟩ fun x hx=>?_
 ·refine aO.trans (aO.iM (P:=Tryz.prog) 1 2 4 e4 rfl rfl) (aO.ak rfl ?_ ?_)<;>simp only [go_sem,Int.natCast_succ,put]
  all_goals first|rfl|exact ⟨rfl,rfl⟩|trace_state
 obtain ⟨y,ab,t,acc⟩:=x
 obtain ⟨hy,ht,hab,hacc,hRx⟩:=hx
 dsimp only at hy ht hab hacc hRx ⊢
 by_cases hlt:y<h
 rotate_left
 ·have f1:((y:Int)<(h:Int))=False:=eq_false (by omega)
  have e:y=h:=by omega
  subst e
  rw [Nat.sub_self] at hRx
  have hR2:R=(acc,true):=by rw [hRx];show (acc++[],true)=_;rw [List.append_nil]
  rw [hR2]
  (repeat' with_reducible first|intro _|refine rz ?_|refine ra ?_ ?_|omega|simp only [go_sem,f1])
  refine aV.of [(0,3)] 1 ?_ (by rfl) ?_<;>simp only [go_sem,Int.natCast_succ,Post]
 have f1:((y:Int)<(h:Int))=True:=eq_true (by omega)
 have hk:h - y=(h - (y+1))+1:=by omega
 rw [hk] at hRx
 have hyw:y*w+w≤1048576:=by
  have h1:y*w+w≤h*w:=by rw [←Nat.succ_mul];exact Nat.mul_le_mul_right _ hlt
  have h2:h*w=w*h:=Nat.mul_comm _ _
  omega
 have hyw1:(y+1)*w=y*w+w:=Nat.succ_mul y w
 generalize hyv:y*w=yw at *
 have kr:=Jm t ab (by omega) (by omega)
 have hrl:=@LW ab t
 cases hrd:lN true ab t with
 | none=>
  rw [hrd] at hrl kr
  rw [kT,jM] at kr
  rw [sV hrl] at hRx
  have hR3:R=(acc,false):=by rw [hRx];show (acc++[],false)=_;rw [List.append_nil]
  rw [hR3]
  (repeat' with_reducible first|intro _|refine rz ?_|refine ra ?_ ?_|omega|simp only [go_sem,f1])
  refine ah.k kr ?_
  (repeat' with_reducible first|intro _|exact dn|refine rn ?_|refine ra ?_ ?_)
  refine aV.of [(0,3)] 1 ?_ (by rfl) ?_<;>simp only [go_sem,Int.natCast_succ,Post]
 | some z=>
  obtain ⟨r,n⟩:=z
  rw [hrd] at hrl kr
  rw [Di,zQ] at kr
  obtain ⟨hr1,hr2⟩:=F9 hrd
  by_cases hcode:eu r ab=t.take n
  ·have hrl2:dQ true ab t=some (r,n):=by rw [hrl];exact if_pos hcode
   rw [decide_eq_true hcode] at kr
   rw [zI hrl2] at hRx
   have htl:(t.drop n).take (t.length - n)=t.drop n:=List.take_of_length_le (by rw [List.length_drop];exact Nat.le_refl _)
   have hdl:(t.drop n).length=t.length - n:=List.length_drop
   have hR3:R=(acc++r++(bY (h - (y+1)) r (t.drop n)).1,(bY (h - (y+1)) r (t.drop n)).2):=by rw [hRx,List.append_assoc]
   have hrw:r.length=w:=by omega
   (repeat' with_reducible first|intro _|refine rz ?_|refine ra ?_ ?_|omega|simp only [go_sem,f1])
   refine ah.o kr 1 ?_
   (repeat' with_reducible first|intro _|refine rz ?_|refine ra ?_ ?_|omega|simp only [go_sem,htl])
   refine ⟨⟨y+1,r,t.drop n,acc++r⟩,aO.ak rfl ?_ ?_,⟨by dsimp only;omega,by dsimp only;omega,hrw,by dsimp only;rw [List.length_append];omega,hR3⟩,by dsimp only;omega⟩<;>simp only [go_sem,Int.natCast_succ]
   all_goals first|rfl|omega|exact ⟨rfl,rfl⟩|trace_state
  ·have hrl2:dQ true ab t=none:=by rw [hrl];exact if_neg hcode
   rw [decide_eq_false hcode] at kr
   rw [sV hrl2] at hRx
   have hR3:R=(acc,false):=by rw [hRx];show (acc++[],false)=_;rw [List.append_nil]
   rw [hR3]
   (repeat' with_reducible first|intro _|refine rz ?_|refine ra ?_ ?_|omega|simp only [go_sem,f1])
   refine ah.o kr 1 ?_
   (repeat' with_reducible first|intro _|exact dn|refine rn ?_|refine ra ?_ ?_)
   refine aV.of [(0,3)] 1 ?_ (by rfl) ?_<;>simp only [go_sem,Int.natCast_succ,Post]
end Go.Fv.H
/- A result that is owned becomes data; a nil slice in a result box becomes an owned row without elements. -/
namespace Go.Fv.H
open Go Go.Proofs
theorem dh.AB {P:Program} {f:Nat} {args:List AV} {out out':AV} {rows:List (Nat × Item)} (h:dh P f args out rows) (ho:dN rows out out'):dh P f args out' []:=
 ⟨h.1,fun w T vals hgl hv=>(h.2 w T vals hgl hv).mono fun e w' ⟨v,he,hb,hq⟩=>⟨v,he,hb,hq.ro ho⟩⟩
theorem aV.ent {P:Program} {w0:World} {T0:Bs} {res:List ResultVar} {out:AV} {rows:List (Nat × Item)} {s s':S} (he:aO w0 T0 0 s s') (h:aV P w0 T0 res out rows s'):aV P w0 T0 res out rows s:=
 fun a w hr=>h a w (he [] a w (fun _ hx=>by cases hx) hr)
end Go.Fv.H
/- shrink.Decode: the walk. -/
namespace Go.Fv.H
open Go Go.Proofs
def Ui (q:DQ):AV:=.tup [.agg [.int .i64 q.w,.int .i64 q.h,.ro (.bools q.p)],.int .i64 q.e]
theorem Ai (w h:Nat) (hw0:0<w) (hw:w≤4000) (hh:h≤4000) (hwh:w*h≤1048576) (d:Bytes) (hd:d.length≤100000000) (kind:Int) (hk:1≤kind∧kind≤4) (hq:(lU kind w h d).2=true) :
  aA Tryz.prog 68 [.str d,.int .i64 kind,.int .i64 w,.int .i64 h] (.tup [.agg [.int .i64 w,.int .i64 h,.own 0],.bool true]) [(0,.row 4 (.bools (lU kind w h d).1))]:=by
 have hc:kind=4∨kind=1∨kind=2∨kind=3:=by omega
 rcases hc with rfl|rfl|rfl|rfl
 ·exact LX w h hw0 hw hh hwh d hd
 ·have e:lU 1 w h d=jU (w*h) (gJ d):=rfl
  rw [e] at hq ⊢
  unfold jU at hq ⊢
  split at hq
  ·cases hq
  ·rename_i hs
   rw [if_neg hs]
   exact LV w h hw0 hw hh hwh d hd (by omega)
 ·have e:lU 2 w h d=dB w h (gJ d):=rfl
  rw [e] at hq ⊢
  have k:=BA w h hw0 hw hh hwh d hd
  rw [hq] at k
  exact k
 ·have e:lU 3 w h d=bY h (List.replicate w false) (gJ d):=rfl
  rw [e] at hq ⊢
  have k:=CY w h hw0 hw hh hwh d hd
  rw [hq] at k
  exact k
theorem MS (w h:Nat) (hw0:0<w) (hw:w≤4000) (hh:h≤4000) (hwh:w*h≤1048576) (d:Bytes) (hd:d.length≤100000000) (kind:Int) (hk:1≤kind∧kind≤4) (hq:(lU kind w h d).2=false) :
  dh Tryz.prog 68 [.str d,.int .i64 kind,.int .i64 w,.int .i64 h] (.tup [.agg [.int .i64 w,.int .i64 h,.ro (.bools (lU kind w h d).1)],.bool false]) []:=by
 have hc:kind=4∨kind=1∨kind=2∨kind=3:=by omega
 rcases hc with rfl|rfl|rfl|rfl
 ·cases hq
 ·have e:lU 1 w h d=jU (w*h) (gJ d):=rfl
  rw [e] at hq ⊢
  unfold jU at hq ⊢
  split at hq
  ·rename_i hs
   rw [if_pos hs]
   exact dh.AB (dh.eG (LU w h hw0 hw hh hwh d hd hs) rfl rfl) (by simp [dN,aP,aU,bH,aF,lk,aJ,nilRow])
  ·cases hq
 ·have e:lU 2 w h d=dB w h (gJ d):=rfl
  rw [e] at hq ⊢
  have k:=BA w h hw0 hw hh hwh d hd
  rw [hq] at k
  exact dh.AB (dh.eG k rfl rfl) (by simp [dN,aP,aU,bH,aF,lk,aJ,nilRow])
 ·have e:lU 3 w h d=bY h (List.replicate w false) (gJ d):=rfl
  rw [e] at hq ⊢
  have k:=CY w h hw0 hw hh hwh d hd
  rw [hq] at k
  exact dh.AB (dh.eG k rfl rfl) (by simp [dN,aP,aU,bH,aF,lk,aJ,nilRow])
theorem qR (s:Bytes):dK s<256:=by
 have h1:=uf (s.take 1)
 have h2:256 ^ (s.take 1).length≤256 ^ 1:=Nat.pow_le_pow_right (by decide) (by rw [List.length_take];omega)
 unfold dK;omega
theorem qW (s:Bytes):dW s<65536:=by
 have h1:=uf ((s.drop 1).take 2)
 have h2:256 ^ ((s.drop 1).take 2).length≤256 ^ 2:=Nat.pow_le_pow_right (by decide) (by rw [List.length_take];omega)
 rw [show (256:Nat) ^ 2=65536 from rfl] at h2
 unfold dW;omega
theorem qP (s:Bytes):dH s<65536:=by
 have h1:=uf ((s.drop 3).take 2)
 have h2:256 ^ ((s.drop 3).take 2).length≤256 ^ 2:=Nat.pow_le_pow_right (by decide) (by rw [List.length_take];omega)
 rw [show (256:Nat) ^ 2=65536 from rfl] at h2
 unfold dH;omega
theorem oK (s:Bytes):dL s<4294967296:=by
 have h1:=uf ((s.drop 5).take 4)
 have h2:256 ^ ((s.drop 5).take 4).length≤256 ^ 4:=Nat.pow_le_pow_right (by decide) (by rw [List.length_take];omega)
 rw [show (256:Nat) ^ 4=4294967296 from rfl] at h2
 unfold dL;omega
set_option maxHeartbeats 8000000 in
theorem Qh (s:Bytes) (hs:s.length≤200000000000000) (h1:2097152<s.length):aA Tryz.prog 15 [.str s] (.tup [.agg [.int .i64 0,.int .i64 0,.nilS],.int .i64 4]) []:=by
 refine aA.aG Tryz.func15 rfl (by decide) (by simp [Tryz.f15]) [.cell 2 24,.tmp 3] rfl fun w0 T0 _=>?_
 simp only [Tryz.f15,au]
 have f1:((2097152:Int)<(s.length:Int))=True:=eq_true (by omega)
 (repeat' with_reducible first|intro _|refine rz ?_|refine ra ?_ ?_|omega|simp only [go_sem,f1])
 refine aV.auto 0 ?_ rfl ?_<;>simp only [go_sem,Int.natCast_succ,Post]
set_option maxHeartbeats 8000000 in
theorem QI (s:Bytes) (h1:s.length≤2097152) (h2:s.length<17∨s.length≠17+dL s):aA Tryz.prog 15 [.str s] (.tup [.agg [.int .i64 0,.int .i64 0,.nilS],.int .i64 8]) []:=by
 refine aA.aG Tryz.func15 rfl (by decide) (by simp [Tryz.f15]) [.cell 2 24,.tmp 3] rfl fun w0 T0 _=>?_
 simp only [Tryz.f15,au]
 have f1:((2097152:Int)<(s.length:Int))=False:=eq_false (by omega)
 by_cases h17:s.length<17
 ·have f2:((s.length:Int)<17)=True:=eq_true (by omega)
  (repeat' with_reducible first|intro _|refine rz ?_|refine ra ?_ ?_|omega|simp only [go_sem,f1,f2])
  refine aV.auto 0 ?_ rfl ?_<;>simp only [go_sem,Int.natCast_succ,Post]
 ·have f2:((s.length:Int)<17)=False:=eq_false (by omega)
  have kb:=bT ((s.drop 5).take 4) (by rw [List.length_take];omega)
  have hlt:=oK s
  have hdl:bV ((s.drop 5).take 4)=dL s:=rfl
  rw [hdl] at kb
  have f3:((s.length:Int)=9+(dL s:Int)+8)=False:=eq_false (by omega)
  generalize dL s=L at *
  (repeat' with_reducible first|intro _|refine rz ?_|refine ra ?_ ?_|omega|simp only [go_sem,f1,f2])
  refine ah.k kb ?_
  (repeat' with_reducible first|intro _|refine rz ?_|refine ra ?_ ?_|omega|simp only [go_sem,f3])
  refine aV.auto 0 ?_ rfl ?_<;>simp only [go_sem,Int.natCast_succ,Post]
structure xJ (s:Bytes):Prop where
 n17:17≤s.length
 long:s.length=17+dL s
 most:s.length≤2097152
theorem jB (s:Bytes) (h:17≤s.length):(s.take (s.length - 8)).length=s.length - 8:=by rw [List.length_take];omega
end Go.Fv.H
/- shrink.Decode: the walk behind the first parts. -/
namespace Go.Fv.H
open Go Go.Proofs
theorem lS (s:Bytes) (h:17≤s.length):(dD s).length=s.length - 17:=by
 unfold dD;rw [List.length_take,List.length_drop];omega
theorem L6 (s:Bytes) (h:17≤s.length):((s.take (s.length - 8)).drop 9).take (s.length - 8 - 9)=dD s:=by
 unfold dD
 rw [List.drop_take,List.take_take,show s.length - 8 - 9=s.length - 17 by omega,Nat.min_self]
set_option maxHeartbeats 8000000 in
theorem Qa (s:Bytes) (c:xJ s) (h3:dU (s.take (s.length - 8))≠s.drop (s.length - 8)):aA Tryz.prog 15 [.str s] (.tup [.agg [.int .i64 0,.int .i64 0,.nilS],.int .i64 14]) []:=by
 obtain ⟨c1,c2,c3⟩:=c
 have f1:((2097152:Int)<(s.length:Int))=False:=eq_false (by omega)
 have f2:((s.length:Int)<17)=False:=eq_false (by omega)
 have kb:=bT ((s.drop 5).take 4) (by rw [List.length_take];omega)
 have kK:=bT (s.take 1) (by rw [List.length_take];omega)
 have kW:=bT ((s.drop 1).take 2) (by rw [List.length_take];omega)
 have kH:=bT ((s.drop 3).take 2) (by rw [List.length_take];omega)
 rw [show bV (s.take 1)=dK s from rfl] at kK
 rw [show bV ((s.drop 1).take 2)=dW s from rfl] at kW
 rw [show bV ((s.drop 3).take 2)=dH s from rfl] at kH
 have hlt:=oK s
 rw [show bV ((s.drop 5).take 4)=dL s from rfl] at kb
 have f3:((s.length:Int)=9+(dL s:Int)+8)=True:=eq_true (by omega)
 have ks:=nU (s.take (s.length - 8)) (by rw [List.length_take];omega)
 have hal:=jB s c1
 have e8:(s.length:Int) - 8=((s.length - 8:Nat):Int):=by omega
 have htd:(s.drop (s.length - 8)).take (s.length - (s.length - 8))=s.drop (s.length - 8):=List.take_of_length_le (by rw [List.length_drop];exact Nat.le_refl _)
 have hKl:=qR s
 have hWl:=qW s
 have hHl:=qP s
 have hDl:=lS s c1
 have f4:(dU (s.take (s.length - 8))=s.drop (s.length - 8))=False:=eq_false h3
 generalize dL s=L at *
 refine aA.aG Tryz.func15 rfl (by decide) (by simp [Tryz.f15]) [.cell 2 24,.tmp 3] rfl fun w0 T0 _=>?_
 simp only [Tryz.f15,au]
 (repeat' with_reducible first|intro _|refine rz ?_|refine ra ?_ ?_|omega|simp only [go_sem,f1,f2])
 refine ah.k kb ?_
 (repeat' with_reducible first|intro _|refine rz ?_|refine ra ?_ ?_|omega|simp only [go_sem,f3,e8])
 refine aQ.lex [] [] (by kernel_rfl) (by kernel_rfl) ?_
 (repeat' with_reducible first|intro _|exact dn|refine rn ?_|refine ra ?_ ?_)
 (refine QV.intro (.int .i64 (dK s)) ?_ ?_;focus ((repeat' with_reducible first|intro _|exact dn|refine rn ?_|refine ra ?_ ?_);refine ah.k (kK) ?_;(repeat' with_reducible first|intro _|exact dn|refine rn ?_|refine ra ?_ ?_)))
 (repeat' with_reducible first|intro _|exact dn|refine rn ?_|refine ra ?_ ?_)
 (refine QV.intro (.int .i64 (dW s)) ?_ ?_;focus ((repeat' with_reducible first|intro _|exact dn|refine rn ?_|refine ra ?_ ?_);refine ah.k (kW) ?_;(repeat' with_reducible first|intro _|exact dn|refine rn ?_|refine ra ?_ ?_)))
 (repeat' with_reducible first|intro _|exact dn|refine rn ?_|refine ra ?_ ?_)
 (refine QV.intro (.int .i64 (dH s)) ?_ ?_;focus ((repeat' with_reducible first|intro _|exact dn|refine rn ?_|refine ra ?_ ?_);refine ah.k (kH) ?_;(repeat' with_reducible first|intro _|exact dn|refine rn ?_|refine ra ?_ ?_)))
 (repeat' with_reducible first|intro _|exact dn|refine rn ?_|refine ra ?_ ?_)
 refine aQ.lex [] [] (by kernel_rfl) (by kernel_rfl) ?_
 (repeat' with_reducible first|intro _|refine rz ?_|refine ra ?_ ?_|omega|simp only [go_sem,Nat.sub_zero,hal])
 (refine QV.intro (.str (dU (s.take (s.length - 8)))) ?_ ?_;focus ((repeat' with_reducible first|intro _|exact dn|refine rn ?_|refine ra ?_ ?_);refine ah.k (ks) ?_;(repeat' with_reducible first|intro _|exact dn|refine rn ?_|refine ra ?_ ?_)))
 (repeat' with_reducible first|intro _|refine rz ?_|refine ra ?_ ?_|omega|simp only [go_sem,Nat.sub_zero,hal,htd,f4])
 refine aV.auto 0 ?_ rfl ?_<;>simp only [go_sem,Int.natCast_succ,Post]
set_option maxHeartbeats 8000000 in
theorem Qm (s:Bytes) (c:xJ s) (h3:dU (s.take (s.length - 8))=s.drop (s.length - 8)) (h4:¬(1≤dK s∧dK s≤4)):aA Tryz.prog 15 [.str s] (.tup [.agg [.int .i64 0,.int .i64 0,.nilS],.int .i64 1]) []:=by
 obtain ⟨c1,c2,c3⟩:=c
 have f1:((2097152:Int)<(s.length:Int))=False:=eq_false (by omega)
 have f2:((s.length:Int)<17)=False:=eq_false (by omega)
 have kb:=bT ((s.drop 5).take 4) (by rw [List.length_take];omega)
 have kK:=bT (s.take 1) (by rw [List.length_take];omega)
 have kW:=bT ((s.drop 1).take 2) (by rw [List.length_take];omega)
 have kH:=bT ((s.drop 3).take 2) (by rw [List.length_take];omega)
 rw [show bV (s.take 1)=dK s from rfl] at kK
 rw [show bV ((s.drop 1).take 2)=dW s from rfl] at kW
 rw [show bV ((s.drop 3).take 2)=dH s from rfl] at kH
 have hlt:=oK s
 rw [show bV ((s.drop 5).take 4)=dL s from rfl] at kb
 have f3:((s.length:Int)=9+(dL s:Int)+8)=True:=eq_true (by omega)
 have ks:=nU (s.take (s.length - 8)) (by rw [List.length_take];omega)
 have hal:=jB s c1
 have e8:(s.length:Int) - 8=((s.length - 8:Nat):Int):=by omega
 have htd:(s.drop (s.length - 8)).take (s.length - (s.length - 8))=s.drop (s.length - 8):=List.take_of_length_le (by rw [List.length_drop];exact Nat.le_refl _)
 have hKl:=qR s
 have hWl:=qW s
 have hHl:=qP s
 have hDl:=lS s c1
 have f4:(dU (s.take (s.length - 8))=s.drop (s.length - 8))=True:=eq_true h3
 have kk:=kU (dK s)
 rw [decide_eq_false (by omega)] at kk
 generalize dL s=L at *
 refine aA.aG Tryz.func15 rfl (by decide) (by simp [Tryz.f15]) [.cell 2 24,.tmp 3] rfl fun w0 T0 _=>?_
 simp only [Tryz.f15,au]
 (repeat' with_reducible first|intro _|refine rz ?_|refine ra ?_ ?_|omega|simp only [go_sem,f1,f2])
 refine ah.k kb ?_
 (repeat' with_reducible first|intro _|refine rz ?_|refine ra ?_ ?_|omega|simp only [go_sem,f3,e8])
 refine aQ.lex [] [] (by kernel_rfl) (by kernel_rfl) ?_
 (repeat' with_reducible first|intro _|exact dn|refine rn ?_|refine ra ?_ ?_)
 (refine QV.intro (.int .i64 (dK s)) ?_ ?_;focus ((repeat' with_reducible first|intro _|exact dn|refine rn ?_|refine ra ?_ ?_);refine ah.k (kK) ?_;(repeat' with_reducible first|intro _|exact dn|refine rn ?_|refine ra ?_ ?_)))
 (repeat' with_reducible first|intro _|exact dn|refine rn ?_|refine ra ?_ ?_)
 (refine QV.intro (.int .i64 (dW s)) ?_ ?_;focus ((repeat' with_reducible first|intro _|exact dn|refine rn ?_|refine ra ?_ ?_);refine ah.k (kW) ?_;(repeat' with_reducible first|intro _|exact dn|refine rn ?_|refine ra ?_ ?_)))
 (repeat' with_reducible first|intro _|exact dn|refine rn ?_|refine ra ?_ ?_)
 (refine QV.intro (.int .i64 (dH s)) ?_ ?_;focus ((repeat' with_reducible first|intro _|exact dn|refine rn ?_|refine ra ?_ ?_);refine ah.k (kH) ?_;(repeat' with_reducible first|intro _|exact dn|refine rn ?_|refine ra ?_ ?_)))
 (repeat' with_reducible first|intro _|exact dn|refine rn ?_|refine ra ?_ ?_)
 refine aQ.lex [] [] (by kernel_rfl) (by kernel_rfl) ?_
 (repeat' with_reducible first|intro _|refine rz ?_|refine ra ?_ ?_|omega|simp only [go_sem,Nat.sub_zero,hal])
 (refine QV.intro (.str (dU (s.take (s.length - 8)))) ?_ ?_;focus ((repeat' with_reducible first|intro _|exact dn|refine rn ?_|refine ra ?_ ?_);refine ah.k (ks) ?_;(repeat' with_reducible first|intro _|exact dn|refine rn ?_|refine ra ?_ ?_)))
 (repeat' with_reducible first|intro _|refine rz ?_|refine ra ?_ ?_|omega|simp only [go_sem,Nat.sub_zero,hal,htd,f4])
 refine ah.k kk ?_
 (repeat' with_reducible first|intro _|exact dn|refine rn ?_|refine ra ?_ ?_)
 refine aV.auto 0 ?_ rfl ?_<;>simp only [go_sem,Int.natCast_succ,Post]
set_option maxHeartbeats 8000000 in
theorem Qk (s:Bytes) (c:xJ s) (h3:dU (s.take (s.length - 8))=s.drop (s.length - 8)) (h4:1≤dK s∧dK s≤4) (h5:aS (dW s) (dH s)≠0):aA Tryz.prog 15 [.str s] (.tup [.agg [.int .i64 0,.int .i64 0,.nilS],.int .i64 (aS (dW s) (dH s))]) []:=by
 obtain ⟨c1,c2,c3⟩:=c
 have f1:((2097152:Int)<(s.length:Int))=False:=eq_false (by omega)
 have f2:((s.length:Int)<17)=False:=eq_false (by omega)
 have kb:=bT ((s.drop 5).take 4) (by rw [List.length_take];omega)
 have kK:=bT (s.take 1) (by rw [List.length_take];omega)
 have kW:=bT ((s.drop 1).take 2) (by rw [List.length_take];omega)
 have kH:=bT ((s.drop 3).take 2) (by rw [List.length_take];omega)
 rw [show bV (s.take 1)=dK s from rfl] at kK
 rw [show bV ((s.drop 1).take 2)=dW s from rfl] at kW
 rw [show bV ((s.drop 3).take 2)=dH s from rfl] at kH
 have hlt:=oK s
 rw [show bV ((s.drop 5).take 4)=dL s from rfl] at kb
 have f3:((s.length:Int)=9+(dL s:Int)+8)=True:=eq_true (by omega)
 have ks:=nU (s.take (s.length - 8)) (by rw [List.length_take];omega)
 have hal:=jB s c1
 have e8:(s.length:Int) - 8=((s.length - 8:Nat):Int):=by omega
 have htd:(s.drop (s.length - 8)).take (s.length - (s.length - 8))=s.drop (s.length - 8):=List.take_of_length_le (by rw [List.length_drop];exact Nat.le_refl _)
 have hKl:=qR s
 have hWl:=qW s
 have hHl:=qP s
 have hDl:=lS s c1
 have f4:(dU (s.take (s.length - 8))=s.drop (s.length - 8))=True:=eq_true h3
 have kk:=kU (dK s)
 rw [decide_eq_true (by omega)] at kk
 have kz:=jg (dW s) (dH s)
 generalize aS (dW s) (dH s)=z at *
 have f5:(z=0)=False:=eq_false h5
 generalize dL s=L at *
 refine aA.aG Tryz.func15 rfl (by decide) (by simp [Tryz.f15]) [.cell 2 24,.tmp 3] rfl fun w0 T0 _=>?_
 simp only [Tryz.f15,au]
 (repeat' with_reducible first|intro _|refine rz ?_|refine ra ?_ ?_|omega|simp only [go_sem,f1,f2])
 refine ah.k kb ?_
 (repeat' with_reducible first|intro _|refine rz ?_|refine ra ?_ ?_|omega|simp only [go_sem,f3,e8])
 refine aQ.lex [] [] (by kernel_rfl) (by kernel_rfl) ?_
 (repeat' with_reducible first|intro _|exact dn|refine rn ?_|refine ra ?_ ?_)
 (refine QV.intro (.int .i64 (dK s)) ?_ ?_;focus ((repeat' with_reducible first|intro _|exact dn|refine rn ?_|refine ra ?_ ?_);refine ah.k (kK) ?_;(repeat' with_reducible first|intro _|exact dn|refine rn ?_|refine ra ?_ ?_)))
 (repeat' with_reducible first|intro _|exact dn|refine rn ?_|refine ra ?_ ?_)
 (refine QV.intro (.int .i64 (dW s)) ?_ ?_;focus ((repeat' with_reducible first|intro _|exact dn|refine rn ?_|refine ra ?_ ?_);refine ah.k (kW) ?_;(repeat' with_reducible first|intro _|exact dn|refine rn ?_|refine ra ?_ ?_)))
 (repeat' with_reducible first|intro _|exact dn|refine rn ?_|refine ra ?_ ?_)
 (refine QV.intro (.int .i64 (dH s)) ?_ ?_;focus ((repeat' with_reducible first|intro _|exact dn|refine rn ?_|refine ra ?_ ?_);refine ah.k (kH) ?_;(repeat' with_reducible first|intro _|exact dn|refine rn ?_|refine ra ?_ ?_)))
 (repeat' with_reducible first|intro _|exact dn|refine rn ?_|refine ra ?_ ?_)
 refine aQ.lex [] [] (by kernel_rfl) (by kernel_rfl) ?_
 (repeat' with_reducible first|intro _|refine rz ?_|refine ra ?_ ?_|omega|simp only [go_sem,Nat.sub_zero,hal])
 (refine QV.intro (.str (dU (s.take (s.length - 8)))) ?_ ?_;focus ((repeat' with_reducible first|intro _|exact dn|refine rn ?_|refine ra ?_ ?_);refine ah.k (ks) ?_;(repeat' with_reducible first|intro _|exact dn|refine rn ?_|refine ra ?_ ?_)))
 (repeat' with_reducible first|intro _|refine rz ?_|refine ra ?_ ?_|omega|simp only [go_sem,Nat.sub_zero,hal,htd,f4])
 refine ah.k kk ?_
 (repeat' with_reducible first|intro _|exact dn|refine rn ?_|refine ra ?_ ?_)
 refine ah.k kz ?_
 (repeat' with_reducible first|intro _|refine rz ?_|refine ra ?_ ?_|omega|simp only [go_sem,f5])
 refine aV.auto 0 ?_ rfl ?_<;>simp only [go_sem,Int.natCast_succ,Post]
set_option maxHeartbeats 8000000 in
theorem Qz (s:Bytes) (c:xJ s) (h3:dU (s.take (s.length - 8))=s.drop (s.length - 8)) (h4:1≤dK s∧dK s≤4) (h5:aS (dW s) (dH s)=0) (h6:(xk s).2=false):aA Tryz.prog 15 [.str s] (.tup [.agg [.int .i64 0,.int .i64 0,.nilS],.int .i64 8]) []:=by
 obtain ⟨c1,c2,c3⟩:=c
 have f1:((2097152:Int)<(s.length:Int))=False:=eq_false (by omega)
 have f2:((s.length:Int)<17)=False:=eq_false (by omega)
 have kb:=bT ((s.drop 5).take 4) (by rw [List.length_take];omega)
 have kK:=bT (s.take 1) (by rw [List.length_take];omega)
 have kW:=bT ((s.drop 1).take 2) (by rw [List.length_take];omega)
 have kH:=bT ((s.drop 3).take 2) (by rw [List.length_take];omega)
 rw [show bV (s.take 1)=dK s from rfl] at kK
 rw [show bV ((s.drop 1).take 2)=dW s from rfl] at kW
 rw [show bV ((s.drop 3).take 2)=dH s from rfl] at kH
 have hlt:=oK s
 rw [show bV ((s.drop 5).take 4)=dL s from rfl] at kb
 have f3:((s.length:Int)=9+(dL s:Int)+8)=True:=eq_true (by omega)
 have ks:=nU (s.take (s.length - 8)) (by rw [List.length_take];omega)
 have hal:=jB s c1
 have e8:(s.length:Int) - 8=((s.length - 8:Nat):Int):=by omega
 have htd:(s.drop (s.length - 8)).take (s.length - (s.length - 8))=s.drop (s.length - 8):=List.take_of_length_le (by rw [List.length_drop];exact Nat.le_refl _)
 have hKl:=qR s
 have hWl:=qW s
 have hHl:=qP s
 have hDl:=lS s c1
 have f4:(dU (s.take (s.length - 8))=s.drop (s.length - 8))=True:=eq_true h3
 have kk:=kU (dK s)
 rw [decide_eq_true (by omega)] at kk
 have kz:=jg (dW s) (dH s)
 have hz:=fA h5
 have hwh:((dW s:Int)*(dH s:Int))=((dW s*dH s:Nat):Int):=(Int.natCast_mul _ _).symm
 rw [hwh] at hz
 rw [h5] at kz
 have kp:=MS (dW s) (dH s) (by omega) (by omega) (by omega) (by omega) (dD s) (by omega) (dK s) (by omega) h6
 have hcut:=L6 s c1
 have hp:lU (dK s) (dW s) (dH s) (dD s)=xk s:=rfl
 rw [hp] at kp
 generalize xk s=q at *
 generalize dD s=d at *
 generalize dL s=L at *
 refine aA.aG Tryz.func15 rfl (by decide) (by simp [Tryz.f15]) [.cell 2 24,.tmp 3] rfl fun w0 T0 _=>?_
 simp only [Tryz.f15,au]
 (repeat' with_reducible first|intro _|refine rz ?_|refine ra ?_ ?_|omega|simp only [go_sem,f1,f2])
 refine ah.k kb ?_
 (repeat' with_reducible first|intro _|refine rz ?_|refine ra ?_ ?_|omega|simp only [go_sem,f3,e8])
 refine aQ.lex [] [] (by kernel_rfl) (by kernel_rfl) ?_
 (repeat' with_reducible first|intro _|exact dn|refine rn ?_|refine ra ?_ ?_)
 (refine QV.intro (.int .i64 (dK s)) ?_ ?_;focus ((repeat' with_reducible first|intro _|exact dn|refine rn ?_|refine ra ?_ ?_);refine ah.k (kK) ?_;(repeat' with_reducible first|intro _|exact dn|refine rn ?_|refine ra ?_ ?_)))
 (repeat' with_reducible first|intro _|exact dn|refine rn ?_|refine ra ?_ ?_)
 (refine QV.intro (.int .i64 (dW s)) ?_ ?_;focus ((repeat' with_reducible first|intro _|exact dn|refine rn ?_|refine ra ?_ ?_);refine ah.k (kW) ?_;(repeat' with_reducible first|intro _|exact dn|refine rn ?_|refine ra ?_ ?_)))
 (repeat' with_reducible first|intro _|exact dn|refine rn ?_|refine ra ?_ ?_)
 (refine QV.intro (.int .i64 (dH s)) ?_ ?_;focus ((repeat' with_reducible first|intro _|exact dn|refine rn ?_|refine ra ?_ ?_);refine ah.k (kH) ?_;(repeat' with_reducible first|intro _|exact dn|refine rn ?_|refine ra ?_ ?_)))
 (repeat' with_reducible first|intro _|exact dn|refine rn ?_|refine ra ?_ ?_)
 refine aQ.lex [] [] (by kernel_rfl) (by kernel_rfl) ?_
 (repeat' with_reducible first|intro _|refine rz ?_|refine ra ?_ ?_|omega|simp only [go_sem,Nat.sub_zero,hal])
 (refine QV.intro (.str (dU (s.take (s.length - 8)))) ?_ ?_;focus ((repeat' with_reducible first|intro _|exact dn|refine rn ?_|refine ra ?_ ?_);refine ah.k (ks) ?_;(repeat' with_reducible first|intro _|exact dn|refine rn ?_|refine ra ?_ ?_)))
 (repeat' with_reducible first|intro _|refine rz ?_|refine ra ?_ ?_|omega|simp only [go_sem,Nat.sub_zero,hal,htd,f4])
 refine ah.k kk ?_
 (repeat' with_reducible first|intro _|exact dn|refine rn ?_|refine ra ?_ ?_)
 refine ah.k kz ?_
 (repeat' with_reducible first|intro _|refine rz ?_|refine ra ?_ ?_|omega|simp only [go_sem,hal,hcut])
 refine ah.f kp 0 ?_
 (repeat' with_reducible first|intro _|exact dn|refine rn ?_|refine ra ?_ ?_)
 refine aV.auto 0 ?_ rfl ?_<;>simp only [go_sem,Int.natCast_succ,Post]
set_option maxHeartbeats 8000000 in
theorem QF (s:Bytes) (c:xJ s) (h3:dU (s.take (s.length - 8))=s.drop (s.length - 8)) (h4:1≤dK s∧dK s≤4) (h5:aS (dW s) (dH s)=0) (h6:(xk s).2=true) (h7:¬fE (dW s) (dH s) (xk s).1 (dK s)=s):aA Tryz.prog 15 [.str s] (.tup [.agg [.int .i64 0,.int .i64 0,.nilS],.int .i64 8]) []:=by
 obtain ⟨c1,c2,c3⟩:=c
 have f1:((2097152:Int)<(s.length:Int))=False:=eq_false (by omega)
 have f2:((s.length:Int)<17)=False:=eq_false (by omega)
 have kb:=bT ((s.drop 5).take 4) (by rw [List.length_take];omega)
 have kK:=bT (s.take 1) (by rw [List.length_take];omega)
 have kW:=bT ((s.drop 1).take 2) (by rw [List.length_take];omega)
 have kH:=bT ((s.drop 3).take 2) (by rw [List.length_take];omega)
 rw [show bV (s.take 1)=dK s from rfl] at kK
 rw [show bV ((s.drop 1).take 2)=dW s from rfl] at kW
 rw [show bV ((s.drop 3).take 2)=dH s from rfl] at kH
 have hlt:=oK s
 rw [show bV ((s.drop 5).take 4)=dL s from rfl] at kb
 have f3:((s.length:Int)=9+(dL s:Int)+8)=True:=eq_true (by omega)
 have ks:=nU (s.take (s.length - 8)) (by rw [List.length_take];omega)
 have hal:=jB s c1
 have e8:(s.length:Int) - 8=((s.length - 8:Nat):Int):=by omega
 have htd:(s.drop (s.length - 8)).take (s.length - (s.length - 8))=s.drop (s.length - 8):=List.take_of_length_le (by rw [List.length_drop];exact Nat.le_refl _)
 have hKl:=qR s
 have hWl:=qW s
 have hHl:=qP s
 have hDl:=lS s c1
 have f4:(dU (s.take (s.length - 8))=s.drop (s.length - 8))=True:=eq_true h3
 have kk:=kU (dK s)
 rw [decide_eq_true (by omega)] at kk
 have kz:=jg (dW s) (dH s)
 have hz:=fA h5
 have hwh:((dW s:Int)*(dH s:Int))=((dW s*dH s:Nat):Int):=(Int.natCast_mul _ _).symm
 rw [hwh] at hz
 rw [h5] at kz
 have kp:=Ai (dW s) (dH s) (by omega) (by omega) (by omega) (by omega) (dD s) (by omega) (dK s) (by omega) h6
 have hcut:=L6 s c1
 have hp:lU (dK s) (dW s) (dH s) (dD s)=xk s:=rfl
 rw [hp] at kp
 have hpl:(xk s).1.length=dW s*dH s:=xZ h6
 have ke:=zh (dW s) (dH s) (by omega) (by omega) (by omega) (by omega) (xk s).1 hpl (dK s) (by omega)
 have f9:(fE (dW s) (dH s) (xk s).1 (dK s)=s)=False:=eq_false h7
 generalize fE (dW s) (dH s) (xk s).1 (dK s)=E at *
 generalize xk s=q at *
 generalize dD s=d at *
 generalize dL s=L at *
 refine aA.aG Tryz.func15 rfl (by decide) (by simp [Tryz.f15]) [.cell 2 24,.tmp 3] rfl fun w0 T0 _=>?_
 simp only [Tryz.f15,au]
 (repeat' with_reducible first|intro _|refine rz ?_|refine ra ?_ ?_|omega|simp only [go_sem,f1,f2])
 refine ah.k kb ?_
 (repeat' with_reducible first|intro _|refine rz ?_|refine ra ?_ ?_|omega|simp only [go_sem,f3,e8])
 refine aQ.lex [] [] (by kernel_rfl) (by kernel_rfl) ?_
 (repeat' with_reducible first|intro _|exact dn|refine rn ?_|refine ra ?_ ?_)
 (refine QV.intro (.int .i64 (dK s)) ?_ ?_;focus ((repeat' with_reducible first|intro _|exact dn|refine rn ?_|refine ra ?_ ?_);refine ah.k (kK) ?_;(repeat' with_reducible first|intro _|exact dn|refine rn ?_|refine ra ?_ ?_)))
 (repeat' with_reducible first|intro _|exact dn|refine rn ?_|refine ra ?_ ?_)
 (refine QV.intro (.int .i64 (dW s)) ?_ ?_;focus ((repeat' with_reducible first|intro _|exact dn|refine rn ?_|refine ra ?_ ?_);refine ah.k (kW) ?_;(repeat' with_reducible first|intro _|exact dn|refine rn ?_|refine ra ?_ ?_)))
 (repeat' with_reducible first|intro _|exact dn|refine rn ?_|refine ra ?_ ?_)
 (refine QV.intro (.int .i64 (dH s)) ?_ ?_;focus ((repeat' with_reducible first|intro _|exact dn|refine rn ?_|refine ra ?_ ?_);refine ah.k (kH) ?_;(repeat' with_reducible first|intro _|exact dn|refine rn ?_|refine ra ?_ ?_)))
 (repeat' with_reducible first|intro _|exact dn|refine rn ?_|refine ra ?_ ?_)
 refine aQ.lex [] [] (by kernel_rfl) (by kernel_rfl) ?_
 (repeat' with_reducible first|intro _|refine rz ?_|refine ra ?_ ?_|omega|simp only [go_sem,Nat.sub_zero,hal])
 (refine QV.intro (.str (dU (s.take (s.length - 8)))) ?_ ?_;focus ((repeat' with_reducible first|intro _|exact dn|refine rn ?_|refine ra ?_ ?_);refine ah.k (ks) ?_;(repeat' with_reducible first|intro _|exact dn|refine rn ?_|refine ra ?_ ?_)))
 (repeat' with_reducible first|intro _|refine rz ?_|refine ra ?_ ?_|omega|simp only [go_sem,Nat.sub_zero,hal,htd,f4])
 refine ah.k kk ?_
 (repeat' with_reducible first|intro _|exact dn|refine rn ?_|refine ra ?_ ?_)
 refine ah.k kz ?_
 (repeat' with_reducible first|intro _|refine rz ?_|refine ra ?_ ?_|omega|simp only [go_sem,hal,hcut])
 refine ah.o kp 1 ?_
 (repeat' with_reducible first|intro _|exact dn|refine rn ?_|refine ra ?_ ?_)
 refine ah.k ke ?_
 (repeat' with_reducible first|intro _|refine rz ?_|refine ra ?_ ?_|omega|simp only [go_sem,f9])
 refine aV.auto 0 ?_ rfl ?_<;>simp only [go_sem,Int.natCast_succ,Post]
set_option maxHeartbeats 8000000 in
theorem decode_ok (s:Bytes) (c:xJ s) (h3:dU (s.take (s.length - 8))=s.drop (s.length - 8)) (h4:1≤dK s∧dK s≤4) (h5:aS (dW s) (dH s)=0) (h6:(xk s).2=true) (h7:fE (dW s) (dH s) (xk s).1 (dK s)=s):aA Tryz.prog 15 [.str s] (.tup [.agg [.int .i64 (dW s),.int .i64 (dH s),.own 0],.int .i64 0]) [(0,.row 4 (.bools (xk s).1))]:=by
 obtain ⟨c1,c2,c3⟩:=c
 have f1:((2097152:Int)<(s.length:Int))=False:=eq_false (by omega)
 have f2:((s.length:Int)<17)=False:=eq_false (by omega)
 have kb:=bT ((s.drop 5).take 4) (by rw [List.length_take];omega)
 have kK:=bT (s.take 1) (by rw [List.length_take];omega)
 have kW:=bT ((s.drop 1).take 2) (by rw [List.length_take];omega)
 have kH:=bT ((s.drop 3).take 2) (by rw [List.length_take];omega)
 rw [show bV (s.take 1)=dK s from rfl] at kK
 rw [show bV ((s.drop 1).take 2)=dW s from rfl] at kW
 rw [show bV ((s.drop 3).take 2)=dH s from rfl] at kH
 have hlt:=oK s
 rw [show bV ((s.drop 5).take 4)=dL s from rfl] at kb
 have f3:((s.length:Int)=9+(dL s:Int)+8)=True:=eq_true (by omega)
 have ks:=nU (s.take (s.length - 8)) (by rw [List.length_take];omega)
 have hal:=jB s c1
 have e8:(s.length:Int) - 8=((s.length - 8:Nat):Int):=by omega
 have htd:(s.drop (s.length - 8)).take (s.length - (s.length - 8))=s.drop (s.length - 8):=List.take_of_length_le (by rw [List.length_drop];exact Nat.le_refl _)
 have hKl:=qR s
 have hWl:=qW s
 have hHl:=qP s
 have hDl:=lS s c1
 have f4:(dU (s.take (s.length - 8))=s.drop (s.length - 8))=True:=eq_true h3
 have kk:=kU (dK s)
 rw [decide_eq_true (by omega)] at kk
 have kz:=jg (dW s) (dH s)
 have hz:=fA h5
 have hwh:((dW s:Int)*(dH s:Int))=((dW s*dH s:Nat):Int):=(Int.natCast_mul _ _).symm
 rw [hwh] at hz
 rw [h5] at kz
 have kp:=Ai (dW s) (dH s) (by omega) (by omega) (by omega) (by omega) (dD s) (by omega) (dK s) (by omega) h6
 have hcut:=L6 s c1
 have hp:lU (dK s) (dW s) (dH s) (dD s)=xk s:=rfl
 rw [hp] at kp
 have hpl:(xk s).1.length=dW s*dH s:=xZ h6
 have ke:=zh (dW s) (dH s) (by omega) (by omega) (by omega) (by omega) (xk s).1 hpl (dK s) (by omega)
 have f9:(fE (dW s) (dH s) (xk s).1 (dK s)=s)=True:=eq_true h7
 generalize fE (dW s) (dH s) (xk s).1 (dK s)=E at *
 generalize xk s=q at *
 generalize dD s=d at *
 generalize dL s=L at *
 refine aA.aG Tryz.func15 rfl (by decide) (by simp [Tryz.f15]) [.cell 2 24,.tmp 3] rfl fun w0 T0 _=>?_
 simp only [Tryz.f15,au]
 (repeat' with_reducible first|intro _|refine rz ?_|refine ra ?_ ?_|omega|simp only [go_sem,f1,f2])
 refine ah.k kb ?_
 (repeat' with_reducible first|intro _|refine rz ?_|refine ra ?_ ?_|omega|simp only [go_sem,f3,e8])
 refine aQ.lex [] [] (by kernel_rfl) (by kernel_rfl) ?_
 (repeat' with_reducible first|intro _|exact dn|refine rn ?_|refine ra ?_ ?_)
 (refine QV.intro (.int .i64 (dK s)) ?_ ?_;focus ((repeat' with_reducible first|intro _|exact dn|refine rn ?_|refine ra ?_ ?_);refine ah.k (kK) ?_;(repeat' with_reducible first|intro _|exact dn|refine rn ?_|refine ra ?_ ?_)))
 (repeat' with_reducible first|intro _|exact dn|refine rn ?_|refine ra ?_ ?_)
 (refine QV.intro (.int .i64 (dW s)) ?_ ?_;focus ((repeat' with_reducible first|intro _|exact dn|refine rn ?_|refine ra ?_ ?_);refine ah.k (kW) ?_;(repeat' with_reducible first|intro _|exact dn|refine rn ?_|refine ra ?_ ?_)))
 (repeat' with_reducible first|intro _|exact dn|refine rn ?_|refine ra ?_ ?_)
 (refine QV.intro (.int .i64 (dH s)) ?_ ?_;focus ((repeat' with_reducible first|intro _|exact dn|refine rn ?_|refine ra ?_ ?_);refine ah.k (kH) ?_;(repeat' with_reducible first|intro _|exact dn|refine rn ?_|refine ra ?_ ?_)))
 (repeat' with_reducible first|intro _|exact dn|refine rn ?_|refine ra ?_ ?_)
 refine aQ.lex [] [] (by kernel_rfl) (by kernel_rfl) ?_
 (repeat' with_reducible first|intro _|refine rz ?_|refine ra ?_ ?_|omega|simp only [go_sem,Nat.sub_zero,hal])
 (refine QV.intro (.str (dU (s.take (s.length - 8)))) ?_ ?_;focus ((repeat' with_reducible first|intro _|exact dn|refine rn ?_|refine ra ?_ ?_);refine ah.k (ks) ?_;(repeat' with_reducible first|intro _|exact dn|refine rn ?_|refine ra ?_ ?_)))
 (repeat' with_reducible first|intro _|refine rz ?_|refine ra ?_ ?_|omega|simp only [go_sem,Nat.sub_zero,hal,htd,f4])
 refine ah.k kk ?_
 (repeat' with_reducible first|intro _|exact dn|refine rn ?_|refine ra ?_ ?_)
 refine ah.k kz ?_
 (repeat' with_reducible first|intro _|refine rz ?_|refine ra ?_ ?_|omega|simp only [go_sem,hal,hcut])
 refine ah.o kp 1 ?_
 (repeat' with_reducible first|intro _|exact dn|refine rn ?_|refine ra ?_ ?_)
 refine ah.k ke ?_
 (repeat' with_reducible first|intro _|refine rz ?_|refine ra ?_ ?_|omega|simp only [go_sem,f9])
 refine aV.auto 1 ?_ rfl ?_<;>simp only [go_sem,Int.natCast_succ,Post]
theorem Gp (s:Bytes) (hs:s.length≤200000000000000):dh Tryz.prog 15 [.str s] (Ui (iJ s)) []:=by
 unfold iJ
 have no:∀ e,aA Tryz.prog 15 [.str s] (.tup [.agg [.int .i64 0,.int .i64 0,.nilS],.int .i64 e]) []→dh Tryz.prog 15 [.str s] (Ui (qV e)) []:=fun e k=>
  dh.AB (dh.eG k rfl rfl) (by simp [Ui,qV,dN,aP,aU,bH,aF,lk,aJ,nilRow])
 by_cases h1:2097152<s.length
 ·rw [if_pos h1];exact no _ (Qh s hs h1)
 rw [if_neg h1]
 by_cases h2:s.length<17∨s.length≠17+dL s
 ·rw [if_pos h2];exact no _ (QI s (by omega) h2)
 rw [if_neg h2]
 have c:xJ s:=⟨by omega,by omega,by omega⟩
 by_cases h3:dU (s.take (s.length - 8))=s.drop (s.length - 8)
 rotate_left
 ·rw [if_pos h3];exact no _ (Qa s c h3)
 rw [if_neg (fun h=>h h3)]
 by_cases h4:1≤dK s∧dK s≤4
 rotate_left
 ·rw [if_pos h4];exact no _ (Qm s c h3 h4)
 rw [if_neg (fun h=>h h4)]
 by_cases h5:aS (dW s) (dH s)=0
 rotate_left
 ·rw [if_pos h5];exact no _ (Qk s c h3 h4 h5)
 rw [if_neg (fun h=>h h5)]
 by_cases h6:(xk s).2=true
 rotate_left
 ·rw [if_neg (fun h=>h6 h.1)];exact no _ (Qz s c h3 h4 h5 (by simpa using h6))
 by_cases h7:fE (dW s) (dH s) (xk s).1 (dK s)=s
 ·rw [if_pos ⟨h6,h7⟩]
  exact dh.AB (dh.eG (decode_ok s c h3 h4 h5 h6 h7) rfl rfl) (by simp [Ui,dN,aP,aU,bH,aF,lk,aJ])
 ·rw [if_neg (fun h=>h7 h.2)];exact no _ (QF s c h3 h4 h5 h6 h7)
end Go.Fv.H
/- strings.Builder.WriteByte. -/
namespace Go.Fv.H
open Go Go.Proofs
set_option maxHeartbeats 2000000 in
theorem mP (c:UInt8):gX Tryz.prog 54 [.ptr 0 0,.int .u8 c.toNat] [(0,.box 89 [.raw (.pointer none),.nilS])] 1 (.raw .nilIface) [(0,.box 89 [.ptr 0 0,.own 1]),(1,.row 5 (.ints .u8 (aj [c])))]:=by
 have k:=wR
 refine gX.aG Tryz.func54 rfl (by decide) (by simp [Tryz.f54]) Lh [.tmp 4] rfl fun w0 T0 _=>?_
 simp only [Tryz.f54,au]
 (repeat' with_reducible first|intro _|exact dn|refine rn ?_|refine ra ?_ ?_)
 refine ah.i [0] k 1 ?_
 (repeat' with_reducible first|intro _|refine rz ?_|refine ra ?_ ?_|omega|simp only [go_sem,S.Uh,qC,qh,EO,Item.ren,ren,je,List.getElem?_cons_zero,List.getElem?_cons_succ,List.getElem?_nil,List.filter])
 refine kE.of [(1,3)] 3 (by decide) (by decide) ?_ rfl ?_<;>simp only [go_sem,Int.natCast_succ,aj,List.map_cons,List.map_nil]
set_option maxHeartbeats 2000000 in
theorem oH (b:List UInt8) (c:UInt8) (hb:b.length≤100000000000):gX Tryz.prog 54 [.ptr 0 0,.int .u8 c.toNat] [(0,.box 89 [.ptr 0 0,.own 1]),(1,.row 5 (.ints .u8 (aj b)))] 2 (.raw .nilIface) [(0,.box 89 [.ptr 0 0,.own 2]),(2,.row 5 (.ints .u8 (aj (b++[c]))))]:=by
 have k:=zL 5 (aj b)
 have hbl:=qF b
 have he:aj (b++[c])=aj b++[(c.toNat:Int)]:=by unfold aj;rw [List.map_append];rfl
 generalize aj b=B at *
 generalize aj (b++[c])=C at *
 refine gX.aG Tryz.func54 rfl (by decide) (by simp [Tryz.f54]) xR [.tmp 4] rfl fun w0 T0 _=>?_
 simp only [Tryz.f54,au]
 (repeat' with_reducible first|intro _|exact dn|refine rn ?_|refine ra ?_ ?_)
 refine ah.i [0,1] k 2 ?_
 (repeat' with_reducible first|intro _|exact dn|refine rn ?_|refine ra ?_ ?_)
 refine kE.of [(2,3)] 3 (by decide) (by decide) ?_ rfl ?_<;>simp only [go_sem,Int.natCast_succ,he]
end Go.Fv.H
/- bedref1.plus: the walk. -/
namespace Go.Fv.H
open Go Go.Proofs
def PY (k N m t:Nat):Bytes:=dX (k - t) (N / 256 ^ t)++dX t (N+m)
def Es (N m t:Nat):Nat:=(N%256 ^ t+m) / 256 ^ t
theorem TI (k N m:Nat):PY k N m 0=dX k N:=by unfold PY;rw [Nat.pow_zero,Nat.div_one,rF,List.append_nil];rfl
theorem Sr (N m:Nat):Es N m 0=m:=by unfold Es;rw [Nat.pow_zero,Nat.mod_one,Nat.div_one,Nat.zero_add]
theorem Wu (N m t:Nat):Es N m t≤m+1:=by
 unfold Es
 have hq:0<256 ^ t:=Nat.pow_pos (by decide)
 generalize 256 ^ t=q at *
 have h1:=Nat.mod_lt N hq
 have h2:(N%q+m) / q≤(q+m) / q:=Nat.div_le_div_right (by omega)
 rw [Nat.add_comm q,Nat.add_div_right _ hq] at h2
 have:=Nat.div_le_self m q
 omega
theorem Sm (N m t:Nat):(N+m) / 256 ^ t=Es N m t+N / 256 ^ t:=by
 unfold Es
 have hq:0<256 ^ t:=Nat.pow_pos (by decide)
 generalize 256 ^ t=q at *
 have h:=Nat.div_add_mod N q
 have e:N+m=(N%q+m)+q*(N / q):=by omega
 rw [e,Nat.add_mul_div_left _ _ hq]
theorem SS (N m t:Nat):Es N m (t+1)=(Es N m t+N / 256 ^ t%256) / 256:=by
 unfold Es
 have hq:0<256 ^ t:=Nat.pow_pos (by decide)
 rw [Nat.pow_succ,Nat.mod_mul,←Nat.div_div_eq_div_mul]
 generalize 256 ^ t=q at *
 have e:N%q+q*(N / q%256)+m=(N%q+m)+q*(N / q%256):=by omega
 rw [e,Nat.add_mul_div_left _ _ hq]
theorem Tf {k N m t:Nat} (ht:t≤k) (h:Es N m t=0∨t=k):PY k N m t=dX k (N+m):=by
 rcases h with h|h
 ·have h2:=Sm N m t
  rw [h,Nat.zero_add] at h2
  unfold PY
  rw [←h2,←GH,Nat.sub_add_cancel ht]
 ·subst h;unfold PY;rw [Nat.sub_self,rF,List.nil_append]
theorem UH {k N m t:Nat} (ht:t<k):PY k N m t=dX (k - t - 1) (N / 256 ^ t / 256)++UInt8.ofNat (N / 256 ^ t)::dX t (N+m):=by
 unfold PY
 have e:k - t=(k - t - 1)+1:=by omega
 rw [e,jf,List.append_assoc,List.singleton_append]
 rfl
theorem TP {k N m t:Nat} (ht:t<k):PY k N m (t+1)=dX (k - t - 1) (N / 256 ^ t / 256)++UInt8.ofNat ((N+m) / 256 ^ t)::dX t (N+m):=by
 unfold PY
 have e:k - (t+1)=k - t - 1:=by omega
 rw [e,Nat.pow_succ,←Nat.div_div_eq_div_mul,Nat.add_comm t 1,GH 1 t]
 have e2:∀ n,dX 1 n=[UInt8.ofNat n]:=fun n=>by
  have:=jf 0 n
  rw [rF,List.nil_append] at this
  exact this
 rw [e2,List.singleton_append]
theorem Vk {k N m t:Nat} (ht:t≤k):(PY k N m t).length=k:=by unfold PY;rw [List.length_append,aX,aX];omega
set_option maxHeartbeats 4000000 in
theorem UU (k N m:Nat) (hk:k≤2000000) (hm:m≤4294967296) :
  gX Tryz.prog 102 [.own 0,.int .i64 m] [(0,.row 5 (.ints .u8 (aj (dX k N))))] 1 (.tup []) [(0,.row 5 (.ints .u8 (aj (dX k (N+m)))))]:=by
 have hl0:(aj (dX k N)).length=k:=by rw [cO,aX]
 refine gX.aG Tryz.func102 rfl (by decide) (by simp [Tryz.f102]) Lh [] rfl fun w0 T0 _=>?_
 simp only [Tryz.f102,au]
 (repeat' with_reducible first|intro _|refine rz ?_|refine ra ?_ ?_|omega|simp only [go_sem,hl0])
 refine aI.intro (fun t:Nat=>⟨30,[(4,.int .i64 ((k:Int) - 1 - (t:Int))),(1,.int .i64 (Es N m t)),(0,.own 0)],[(0,.row 5 (.ints .u8 (aj (PY k N m t))))],1⟩) (fun t=>t≤k) (fun t=>k - t) 0 ?_ (Nat.zero_le _) fun t ht=>?_
 ·refine aO.Dq 1 rfl (Nat.le_refl 1) ?_ ?_<;>simp only [go_sem,Int.natCast_succ,gZ,TI,Sr]
  all_goals omega
 have hx:=Wu N m t
 by_cases hgo:0<Es N m t∧t<k
 ·have f1:(0<((Es N m t:Nat):Int))=True:=eq_true (by omega)
  have f2:(0≤(k:Int) - 1 - (t:Int))=True:=eq_true (by omega)
  have hnow:=UH (N:=N) (m:=m) hgo.2
  have hnext:=TP (N:=N) (m:=m) hgo.2
  have hsum:=Sm N m t
  have hxs:=SS N m t
  have hAl:=aX (k - t - 1) (N / 256 ^ t / 256)
  have hlen:(aj (PY k N m t)).length=k:=by rw [cO,Vk (by omega)]
  have hat:=uN (dX (k - t - 1) (N / 256 ^ t / 256)) (UInt8.ofNat (N / 256 ^ t)) (dX t (N+m))
  have hset:=zx (dX (k - t - 1) (N / 256 ^ t / 256)) (UInt8.ofNat (N / 256 ^ t)) (UInt8.ofNat ((N+m) / 256 ^ t)) (dX t (N+m))
  rw [←hnow,hAl] at hat hset
  rw [←hnext] at hset
  have hbt:(UInt8.ofNat (N / 256 ^ t)).toNat=N / 256 ^ t%256:=by simp
  have hbv:(UInt8.ofNat ((N+m) / 256 ^ t)).toNat=(N+m) / 256 ^ t%256:=by simp
  rw [hbt] at hat
  rw [hbv] at hset
  have hix:((k:Int) - 1 - (t:Int)).toNat=k - t - 1:=by omega
  have hsh:∀ a:Nat,lC .i64 (a:Int) 8=((a / 256:Nat):Int):=fun a=>by
   unfold lC
   rw [show (2:Int) ^ (min (8:Int).toNat IntKind.i64.bits)=256 by rfl,Int.fdiv_eq_ediv_of_nonneg _ (by decide)]
   rfl
  have hv:((Es N m t:Nat):Int)+((N / 256 ^ t%256:Nat):Int)=((Es N m t+N / 256 ^ t%256:Nat):Int):=by omega
  have hw8:IntKind.u8.wrap ((Es N m t+N / 256 ^ t%256:Nat):Int)=(((N+m) / 256 ^ t%256:Nat):Int):=by rw [kL,hsum];omega
  have hq:=hsh (Es N m t+N / 256 ^ t%256)
  rw [←hxs] at hq
  have hb256:N / 256 ^ t%256<256:=Nat.mod_lt _ (by decide)
  generalize hx2:Es N m (t+1)=x2 at *
  generalize Es N m t=x at *
  generalize (N+m) / 256 ^ t%256=y at *
  generalize N / 256 ^ t%256=z at *
  (repeat' with_reducible first|intro _|refine rz ?_|refine ra ?_ ?_|omega|simp only [go_sem,f1,f2,hix,hlen,hat,hv])
  refine bW.at _ hw8 ?_
  (repeat' with_reducible first|intro _|refine rz ?_|refine ra ?_ ?_|omega|simp only [go_sem,hix,hlen,hset,hq])
  refine ⟨t+1,aO.Dq 1 rfl (Nat.le_refl 1) ?_ ?_,by omega,by omega⟩<;>simp only [go_sem,Int.natCast_succ,gZ,hx2]
  all_goals omega
 ·have hd:=Tf (N:=N) (m:=m) ht (by omega)
  by_cases f:0<Es N m t
  ·have f1:(0<((Es N m t:Nat):Int))=True:=eq_true (by omega)
   have f2:(0≤(k:Int) - 1 - (t:Int))=False:=eq_false (by omega)
   (repeat' with_reducible first|intro _|refine rz ?_|refine ra ?_ ?_|omega|simp only [go_sem,f1,f2])
   refine kE.auto 1 (Nat.le_refl 1) ?_ rfl ?_<;>simp only [go_sem,Int.natCast_succ,gZ,hd]
  ·have f1:(0<((Es N m t:Nat):Int))=False:=eq_false (by omega)
   (repeat' with_reducible first|intro _|refine rz ?_|refine ra ?_ ?_|omega|simp only [go_sem,f1])
   refine kE.auto 1 (Nat.le_refl 1) ?_ rfl ?_<;>simp only [go_sem,Int.natCast_succ,gZ,hd]
end Go.Fv.H
