/-
  A part of the proof of the claim: walks over the program's functions and the plain laws that these need. No condition of its own.
-/
import Derived.Test.YtodlgmmbfbiilaaGreatDoorHArcCCardPart2
import Derived.Test.YtodlgmmbfbiilaaGreatDoorHArcCCardPart9
import Derived.Test.YtodlgmmbfbiilaaGreatDoorHArcCCardPart10
import Derived.Test.YtodlgmmbfbiilaaGreatDoorHArcCCardPart4
import Derived.Test.YtodlgmmbfbiilaaGreatDoorHArcCCardPart8
import Derived.Test.YtodlgmmbfbiilaaGreatDoorHArcCCardPart1
import Derived.Test.YtodlgmmbfbiilaaGreatDoorFvPart6
import Derived.Lib.MapLaws
import Derived.Lib.DecodeN
import Derived.Test.YtodlgmmbfbiilaaGreatDoorHArcCCardPart3
import Derived.Test.YtodlgmmbfbiilaaGreatDoorFvPart10
import Derived.Test.YtodlgmmbfbiilaaGreatDoorHArcCCardPart5
import Derived.Test.YtodlgmmbfbiilaaGreatDoorHArcCCardPart6
set_option linter.unusedSimpArgs false
set_option linter.unusedVariables false
set_option linter.unnecessarySimpa false
set_option maxRecDepth 8000
/- The reference's unpackBits: the walk. -/
namespace Go.Fv.H
open Go Go.Proofs
theorem Ot (d:Bytes):(iE d).length=8*d.length:=by unfold iE;simp
theorem S9 {d:Bytes} {i:Nat} (h:i<8*d.length):(((iE d).getD i 0).toNat:Int)=((48+(d.getD (i / 8) 0).toNat / 2 ^ (7 - i%8)%2:Nat):Int):=by
 rw [←bytes_at (by rw [Ot];exact h)]
 exact Zd h
theorem Ol {s:Bytes} {i:Nat} (h:i<s.length):s.take (i+1)=s.take i++[s.getD i 0]:=by
 rw [List.take_succ_eq_append_getElem h,getD_lt h]
structure UX where
 i:Nat
 t:Nat
 u:Bool
set_option maxHeartbeats 16000000 in
theorem lV (d:Bytes) (hd:d.length≤1000000000):aA Tryz.prog 111 [.str d] (.str (iE d)) []:=by
 refine aA.aG Tryz.func111 rfl (by decide) (by simp [Tryz.f111]) [.tmp 2] rfl fun w0 T0 _=>?_
 simp only [Tryz.f111,au]
 have hul:=Ot d
 have hval:=@S9 d
 have hfull:(iE d).take (8*d.length)=iE d:=List.take_of_length_le (by omega)
 (repeat' with_reducible first|intro _|exact dn|refine rn ?_|refine ra ?_ ?_)
 refine aF.intro (fun x:EX=>⟨25,[(8,.int .i64 x.i),(7,.int .i64 d.length),(3,.ptr 0 0),(0,.str d)],(bif x.u then [(0,.box 89 [.ptr 0 0,.own 1]),(1,.row 5 (.ints .u8 (aj ((iE d).take (8*x.i)))))] else [(0,.box 89 [.raw (.pointer none),.nilS])]),bif x.u then 2 else 1⟩) (fun x=>x.i≤d.length∧BU ((iE d).take (8*x.i)) x.u) (fun x=>d.length - x.i) ⟨0,false⟩ ?_ ⟨Nat.zero_le _,fun h=>by (cases h),fun _=>by simp⟩ fun x hx=>?_
 ·refine aK.ak rfl ?_ ?_<;>simp only [go_sem,Int.natCast_succ]
  all_goals first|rfl|exact ⟨rfl,rfl⟩
 obtain ⟨i,u⟩:=x
 obtain ⟨hi,hu1,hu2⟩:=hx
 dsimp only at hi hu1 hu2 ⊢
 by_cases hlt:i<d.length
 rotate_left
 ·have f1:((i:Int)<(d.length:Int))=False:=eq_false (by omega)
  have e:i=d.length:=by omega
  subst e
  rw [hfull] at hu1 hu2 ⊢
  cases u with
  | true=>
   have kst:=gB (iE d) (hu1 rfl)
   simp only [cond_true,cond_false,List.cons_append,List.nil_append]
   (repeat' with_reducible first|intro _|refine rz ?_|refine ra ?_ ?_|omega|simp only [go_sem,f1])
   refine ah.i [0,1] kst 2 ?_
   (repeat' with_reducible first|intro _|exact dn|refine rn ?_|refine ra ?_ ?_)
   refine aU.auto 0 ?_ rfl ?_<;>simp only [go_sem,Int.natCast_succ,Post]
  | false=>
   have hz:=hu2 rfl
   rw [hz]
   have kst:=gQ
   simp only [cond_true,cond_false,List.cons_append,List.nil_append]
   (repeat' with_reducible first|intro _|refine rz ?_|refine ra ?_ ?_|omega|simp only [go_sem,f1])
   refine ah.i [0] kst 1 ?_
   (repeat' with_reducible first|intro _|exact dn|refine rn ?_|refine ra ?_ ?_)
   refine aU.auto 0 ?_ rfl ?_<;>simp only [go_sem,Int.natCast_succ,Post]
 have f1:((i:Int)<(d.length:Int))=True:=eq_true (by omega)
 cases u with
 | true=>
  have hu0:BU ((iE d).take (8*i)) true:=⟨hu1,hu2⟩
  simp only [cond_true,cond_false,List.cons_append,List.nil_append]
  (repeat' with_reducible first|intro _|refine rz ?_|refine ra ?_ ?_|omega|simp only [go_sem,f1])
  refine aF.intro (fun x:UX=>⟨25,[(5,.int .i64 (7 - (x.t:Int))),(4,.int .i64 i),(8,.int .i64 i),(7,.int .i64 d.length),(3,.ptr 0 0),(0,.str d)],(bif x.u then [(0,.box 89 [.ptr 0 0,.own 1]),(1,.row 5 (.ints .u8 (aj ((iE d).take (8*i+x.t)))))] else [(0,.box 89 [.raw (.pointer none),.nilS])]),bif x.u then 2 else 1⟩) (fun x=>x.t≤8∧BU ((iE d).take (8*i+x.t)) x.u) (fun x=>8 - x.t) ⟨0,0,true⟩ ?_ ⟨Nat.zero_le _,hu0⟩ fun x hx=>?_
  ·refine aK.ak rfl ?_ ?_<;>simp only [go_sem,Int.natCast_succ]
   all_goals first|rfl|exact ⟨rfl,rfl⟩
  clear hu0 hu1 hu2
  obtain ⟨_,t,v⟩:=x
  obtain ⟨ht,hv1,hv2⟩:=hx
  dsimp only at ht hv1 hv2 ⊢
  by_cases ht8:t<8
  rotate_left
  ·have f2:(0≤(7:Int) - (t:Int))=False:=eq_false (by omega)
   have e:t=8:=by omega
   subst e
   have e8:8*i+8=8*(i+1):=by omega
   rw [e8] at hv1 hv2 ⊢
   cases v with
   | true=>
    simp only [cond_true,cond_false,List.cons_append,List.nil_append]
    (repeat' with_reducible first|intro _|refine rz ?_|refine ra ?_ ?_|omega|simp only [go_sem,f2])
    refine ⟨⟨i+1,true⟩,aK.ak rfl ?_ ?_,⟨by dsimp only;omega,hv1,hv2⟩,by dsimp only;omega⟩<;>simp only [go_sem,Int.natCast_succ]
    all_goals first|rfl|exact ⟨rfl,rfl⟩
   | false=>
    simp only [cond_true,cond_false,List.cons_append,List.nil_append]
    (repeat' with_reducible first|intro _|refine rz ?_|refine ra ?_ ?_|omega|simp only [go_sem,f2])
    refine ⟨⟨i+1,false⟩,aK.ak rfl ?_ ?_,⟨by dsimp only;omega,hv1,hv2⟩,by dsimp only;omega⟩<;>simp only [go_sem,Int.natCast_succ]
    all_goals first|rfl|exact ⟨rfl,rfl⟩
  have f2:(0≤(7:Int) - (t:Int))=True:=eq_true (by omega)
  have hlt8:8*i+t<8*d.length:=by omega
  have hvl:=hval hlt8
  have htk:=Ol (s:=iE d) (i:=8*i+t) (by omega)
  have d1:(8*i+t) / 8=i:=by omega
  have d2:(8*i+t)%8=t:=by omega
  rw [d1,d2] at hvl
  have d3:(7:Int) - (t:Int)=((7 - t:Nat):Int):=by omega
  have hol:((iE d).take (8*i+t)).length≤8000000000:=by rw [List.length_take];omega
  have hc:(d.getD i 0).toNat<256:=(d.getD i 0).toNat_lt
  have h8:=aaf (a:=(d.getD i 0).toNat) (t:=7 - t) (by omega)
  have hl8:(d.getD i 0).toNat / 2 ^ (7 - t)<256:=Nat.lt_of_le_of_lt (Nat.div_le_self _ _) hc
  have ha:=Zp hl8
  have hadd:(48:Int)+(((d.getD i 0).toNat / 2 ^ (7 - t)%2:Nat):Int)=(((iE d).getD (8*i+t) 0).toNat:Int):=by omega
  have hb1:((iE d).getD (8*i+t) 0).toNat<256:=((iE d).getD (8*i+t) 0).toNat_lt
  generalize (iE d).getD (8*i+t) 0=c at *
  generalize hO:(iE d).take (8*i+t)=o0 at *
  have htk2:(iE d).take (8*i+(t+1))=o0++[c]:=htk
  have d4:((7 - t:Nat):Int) - 1=7 - ((t+1:Nat):Int):=by omega
  cases v with
  | true=>
   have kw2:=pU o0 c (by omega)
   simp only [cond_true,cond_false,List.cons_append,List.nil_append]
   (repeat' with_reducible first|intro _|refine rz ?_|refine ra ?_ ?_|omega|simp only [go_sem,f2,d3,h8,ha,hadd])
   refine ah.i [0,1] kw2 3 ?_
   (repeat' with_reducible first|intro _|exact dn|refine rn ?_|refine ra ?_ ?_)
   (repeat' with_reducible first|intro _|refine rz ?_|refine ra ?_ ?_|omega|simp only [go_sem,d3,d4])
   refine ⟨⟨0,t+1,true⟩,aK.ak rfl ?_ ?_,⟨by dsimp only;omega,fun _=>by dsimp only;rw [htk2,List.length_append];simp,fun h=>by (cases h)⟩,by dsimp only;omega⟩<;>simp only [go_sem,Int.natCast_succ,htk2]
   all_goals first|rfl|exact ⟨rfl,rfl⟩|trace_state
  | false=>
   have hz:=hv2 rfl
   have kw2:=nN c
   simp only [cond_true,cond_false,List.cons_append,List.nil_append]
   (repeat' with_reducible first|intro _|refine rz ?_|refine ra ?_ ?_|omega|simp only [go_sem,f2,d3,h8,ha,hadd])
   refine ah.i [0] kw2 2 ?_
   (repeat' with_reducible first|intro _|exact dn|refine rn ?_|refine ra ?_ ?_)
   rw [hz,List.nil_append] at htk2
   (repeat' with_reducible first|intro _|refine rz ?_|refine ra ?_ ?_|omega|simp only [go_sem,d3,d4])
   refine ⟨⟨0,t+1,true⟩,aK.ak rfl ?_ ?_,⟨by dsimp only;omega,fun _=>by dsimp only;rw [htk2];simp,fun h=>by (cases h)⟩,by dsimp only;omega⟩<;>simp only [go_sem,Int.natCast_succ,htk2]
   all_goals first|rfl|exact ⟨rfl,rfl⟩|trace_state
 | false=>
  have hu0:BU ((iE d).take (8*i)) false:=⟨hu1,hu2⟩
  simp only [cond_true,cond_false,List.cons_append,List.nil_append]
  (repeat' with_reducible first|intro _|refine rz ?_|refine ra ?_ ?_|omega|simp only [go_sem,f1])
  refine aF.intro (fun x:UX=>⟨25,[(5,.int .i64 (7 - (x.t:Int))),(4,.int .i64 i),(8,.int .i64 i),(7,.int .i64 d.length),(3,.ptr 0 0),(0,.str d)],(bif x.u then [(0,.box 89 [.ptr 0 0,.own 1]),(1,.row 5 (.ints .u8 (aj ((iE d).take (8*i+x.t)))))] else [(0,.box 89 [.raw (.pointer none),.nilS])]),bif x.u then 2 else 1⟩) (fun x=>x.t≤8∧BU ((iE d).take (8*i+x.t)) x.u) (fun x=>8 - x.t) ⟨0,0,false⟩ ?_ ⟨Nat.zero_le _,hu0⟩ fun x hx=>?_
  ·refine aK.ak rfl ?_ ?_<;>simp only [go_sem,Int.natCast_succ]
   all_goals first|rfl|exact ⟨rfl,rfl⟩
  clear hu0 hu1 hu2
  obtain ⟨_,t,v⟩:=x
  obtain ⟨ht,hv1,hv2⟩:=hx
  dsimp only at ht hv1 hv2 ⊢
  by_cases ht8:t<8
  rotate_left
  ·have f2:(0≤(7:Int) - (t:Int))=False:=eq_false (by omega)
   have e:t=8:=by omega
   subst e
   have e8:8*i+8=8*(i+1):=by omega
   rw [e8] at hv1 hv2 ⊢
   cases v with
   | true=>
    simp only [cond_true,cond_false,List.cons_append,List.nil_append]
    (repeat' with_reducible first|intro _|refine rz ?_|refine ra ?_ ?_|omega|simp only [go_sem,f2])
    refine ⟨⟨i+1,true⟩,aK.ak rfl ?_ ?_,⟨by dsimp only;omega,hv1,hv2⟩,by dsimp only;omega⟩<;>simp only [go_sem,Int.natCast_succ]
    all_goals first|rfl|exact ⟨rfl,rfl⟩
   | false=>
    simp only [cond_true,cond_false,List.cons_append,List.nil_append]
    (repeat' with_reducible first|intro _|refine rz ?_|refine ra ?_ ?_|omega|simp only [go_sem,f2])
    refine ⟨⟨i+1,false⟩,aK.ak rfl ?_ ?_,⟨by dsimp only;omega,hv1,hv2⟩,by dsimp only;omega⟩<;>simp only [go_sem,Int.natCast_succ]
    all_goals first|rfl|exact ⟨rfl,rfl⟩
  have f2:(0≤(7:Int) - (t:Int))=True:=eq_true (by omega)
  have hlt8:8*i+t<8*d.length:=by omega
  have hvl:=hval hlt8
  have htk:=Ol (s:=iE d) (i:=8*i+t) (by omega)
  have d1:(8*i+t) / 8=i:=by omega
  have d2:(8*i+t)%8=t:=by omega
  rw [d1,d2] at hvl
  have d3:(7:Int) - (t:Int)=((7 - t:Nat):Int):=by omega
  have hol:((iE d).take (8*i+t)).length≤8000000000:=by rw [List.length_take];omega
  have hc:(d.getD i 0).toNat<256:=(d.getD i 0).toNat_lt
  have h8:=aaf (a:=(d.getD i 0).toNat) (t:=7 - t) (by omega)
  have hl8:(d.getD i 0).toNat / 2 ^ (7 - t)<256:=Nat.lt_of_le_of_lt (Nat.div_le_self _ _) hc
  have ha:=Zp hl8
  have hadd:(48:Int)+(((d.getD i 0).toNat / 2 ^ (7 - t)%2:Nat):Int)=(((iE d).getD (8*i+t) 0).toNat:Int):=by omega
  have hb1:((iE d).getD (8*i+t) 0).toNat<256:=((iE d).getD (8*i+t) 0).toNat_lt
  generalize (iE d).getD (8*i+t) 0=c at *
  generalize hO:(iE d).take (8*i+t)=o0 at *
  have htk2:(iE d).take (8*i+(t+1))=o0++[c]:=htk
  have d4:((7 - t:Nat):Int) - 1=7 - ((t+1:Nat):Int):=by omega
  cases v with
  | true=>
   have kw2:=pU o0 c (by omega)
   simp only [cond_true,cond_false,List.cons_append,List.nil_append]
   (repeat' with_reducible first|intro _|refine rz ?_|refine ra ?_ ?_|omega|simp only [go_sem,f2,d3,h8,ha,hadd])
   refine ah.i [0,1] kw2 3 ?_
   (repeat' with_reducible first|intro _|exact dn|refine rn ?_|refine ra ?_ ?_)
   (repeat' with_reducible first|intro _|refine rz ?_|refine ra ?_ ?_|omega|simp only [go_sem,d3,d4])
   refine ⟨⟨0,t+1,true⟩,aK.ak rfl ?_ ?_,⟨by dsimp only;omega,fun _=>by dsimp only;rw [htk2,List.length_append];simp,fun h=>by (cases h)⟩,by dsimp only;omega⟩<;>simp only [go_sem,Int.natCast_succ,htk2]
   all_goals first|rfl|exact ⟨rfl,rfl⟩|trace_state
  | false=>
   have hz:=hv2 rfl
   have kw2:=nN c
   simp only [cond_true,cond_false,List.cons_append,List.nil_append]
   (repeat' with_reducible first|intro _|refine rz ?_|refine ra ?_ ?_|omega|simp only [go_sem,f2,d3,h8,ha,hadd])
   refine ah.i [0] kw2 2 ?_
   (repeat' with_reducible first|intro _|exact dn|refine rn ?_|refine ra ?_ ?_)
   rw [hz,List.nil_append] at htk2
   (repeat' with_reducible first|intro _|refine rz ?_|refine ra ?_ ?_|omega|simp only [go_sem,d3,d4])
   refine ⟨⟨0,t+1,true⟩,aK.ak rfl ?_ ?_,⟨by dsimp only;omega,fun _=>by dsimp only;rw [htk2];simp,fun h=>by (cases h)⟩,by dsimp only;omega⟩<;>simp only [go_sem,Int.natCast_succ,htk2]
   all_goals first|rfl|exact ⟨rfl,rfl⟩|trace_state
end Go.Fv.H
/- bedref1.unadaptive: the walk. -/
namespace Go.Fv.H
open Go Go.Proofs
theorem Y8 {a b c:Item}:∀ j,j<3→∃ it,lk [(0,a),(1,b),(2,c)] j=some it:=fun j hj=>by
 rcases j with _|_|_|j
 ·exact ⟨a,rfl⟩
 ·exact ⟨b,rfl⟩
 ·exact ⟨c,rfl⟩
 ·omega
theorem E5 (d:Bytes) (hd:d.length≤300000000000000) (c:Nat) :
  fA Tryz.prog 158 [.ptr 0 0,.ptr 1 0,.ptr 2 0] [(0,.box 3 [.int .i64 d.length]),(1,.box 9 [.str d]),(2,.box 3 [.int .i64 c])] 3 (.bool false) [(0,.box 3 [.int .i64 d.length]),(1,.box 9 [.str d]),(2,.box 3 [.int .i64 c])]:=by
 refine fA.aG Tryz.func158 rfl (by decide) (by simp [Tryz.f158]) Y8 [.tmp 3] rfl fun w0 T0 _=>?_
 simp only [Tryz.f158,au]
 (repeat' with_reducible first|intro _|exact dn|refine rn ?_|refine ra ?_ ?_)
 refine jl.auto 3 (Nat.le_refl 3) ?_ rfl ?_<;>simp only [go_sem,Int.natCast_succ,gq]
theorem E8 (d:Bytes) (hd:d.length≤300000000000000) (a c:Nat) (ha:a<d.length) (hc:c<4294967296) :
  fA Tryz.prog 158 [.ptr 0 0,.ptr 1 0,.ptr 2 0] [(0,.box 3 [.int .i64 a]),(1,.box 9 [.str d]),(2,.box 3 [.int .i64 c])] 3 (.bool true) [(0,.box 3 [.int .i64 (a+1:Nat)]),(1,.box 9 [.str d]),(2,.box 3 [.int .i64 (c*256+gu (d.drop a):Nat)])]:=by
 have hn:gu (d.drop a)=(d.getD a 0).toNat:=by unfold gu;rw [zO]
 have hcl:(d.getD a 0).toNat<256:=(d.getD a 0).toNat_lt
 have ho:=P6 (a:=c) (c:=(d.getD a 0).toNat) (by omega) hcl
 have hss:=aad c
 have f1:((a:Int)=(d.length:Int))=False:=eq_false (by omega)
 rw [hn]
 refine fA.aG Tryz.func158 rfl (by decide) (by simp [Tryz.f158]) Y8 [.tmp 3] rfl fun w0 T0 _=>?_
 simp only [Tryz.f158,au]
 (repeat' with_reducible first|intro _|refine rz ?_|refine ra ?_ ?_|omega|simp only [go_sem,f1])
 refine aN.lex [7] [] (by kernel_rfl) (by kernel_rfl) ?_
 (repeat' with_reducible first|intro _|refine rz ?_|refine ra ?_ ?_|omega|simp only [go_sem,hss,ho])
 refine jl.auto 3 (Nat.le_refl 3) ?_ rfl ?_<;>simp only [go_sem,Int.natCast_succ,gq]
 all_goals first|rfl|omega|trace_state
set_option maxHeartbeats 16000000 in
theorem GI (w h:Nat) (hw0:0<w) (hw:w≤4000) (hh:h≤4000) (hwh:w*h≤1048576) (d:Bytes) (hd:d.length≤200000000000000) :
  aA Tryz.prog 110 [.str d,.int .i64 w,.int .i64 h] (.tup [.agg [.int .i64 w,.int .i64 h,.own 0],.bool (lq w h d (w*h)).2]) [(0,.row 4 (.bools (lq w h d (w*h)).1))]:=by
 refine aA.aG Tryz.func110 rfl (by decide) (by simp [Tryz.f110]) [.cell 6 24,.tmp 7] rfl fun w0 T0 _=>?_
 simp only [Tryz.f110,au]
 have e1:(w:Int)*(h:Int)=((w*h:Nat):Int):=(Int.natCast_mul w h).symm
 obtain ⟨n,hn⟩:∃ n,w*h=n:=⟨_,rfl⟩
 rw [hn] at e1 ⊢
 have hT:=FP
 have hg0:=@J9
 (repeat' with_reducible first|intro _|refine rz ?_|refine ra ?_ ?_|omega|simp only [go_sem,e1])
 refine aF.intro (fun i:Nat=>⟨119,[(28,.int .i64 i),(27,.int .i64 1024),(9,.own 4),(8,.ptr 3 0),(6,.ptr 1 0),(3,.ptr 0 0),(1,.int .i64 w),(2,.int .i64 h)],[(0,.box 9 [.str d]),(1,.box 24 [.int .i64 0,.int .i64 0,.nilS]),(2,.row 4 (.bools (List.replicate n false))),(3,.box 24 [.int .i64 w,.int .i64 h,.own 2]),(4,.row 3 (.ints .i64 ((iO sQ).take i++List.replicate (1024 - i) 0)))],5⟩) (fun i=>i≤1024) (fun i=>1024 - i) 0 ?_ (Nat.zero_le _) fun i hi=>?_
 ·refine aK.ak rfl ?_ ?_<;>simp only [go_sem,Int.natCast_succ]
  all_goals first|rfl|(refine ⟨?_,?_⟩<;>rfl)
 have htl:((iO sQ).take i).length=i:=by rw [List.length_take,hT];omega
 by_cases hlt:i<1024
 ·have f1:((i:Int)<1024)=True:=eq_true (by omega)
  have hg:(iO sQ).getD i 0=2048:=hg0 hlt
  have hs:=lZ (z:=0) (d:=0) hT hlt
  rw [hg] at hs
  (repeat' with_reducible first|intro _|refine rz ?_|refine ra ?_ ?_|omega|simp only [go_sem,f1,htl])
  rw [hs]
  refine ⟨i+1,aK.ak rfl ?_ ?_,by omega,by omega⟩<;>simp only [go_sem,Int.natCast_succ]
 have f1:((i:Int)<1024)=False:=eq_false (by omega)
 have e:i=1024:=by omega
 subst e
 have hfull:(iO sQ).take 1024=iO sQ:=List.take_of_length_le (by rw [hT];exact Nat.le_refl _)
 rw [hfull,Nat.sub_self,List.replicate_zero,List.append_nil]
 (repeat' with_reducible first|intro _|refine rz ?_|refine ra ?_ ?_|omega|simp only [go_sem,f1])
 refine aF.intro (fun i:Nat=>⟨119,[(36,.int .i64 i),(13,.fn 158 [.ptr 5 0,.ptr 0 0,.ptr 6 0]),(12,.ptr 6 0),(11,.ptr 5 0),(9,.own 4),(8,.ptr 3 0),(6,.ptr 1 0),(3,.ptr 0 0),(1,.int .i64 w),(2,.int .i64 h)],[(0,.box 9 [.str d]),(1,.box 24 [.int .i64 0,.int .i64 0,.nilS]),(2,.row 4 (.bools (List.replicate n false))),(3,.box 24 [.int .i64 w,.int .i64 h,.own 2]),(4,.row 3 (.ints .i64 (iO sQ))),(5,.box 3 [.int .i64 (i:Int)]),(6,.box 3 [.int .i64 (KT d i:Nat)])],7⟩) (fun i=>i≤4∧i≤d.length) (fun i=>4 - i) 0 ?_ ⟨Nat.zero_le _,Nat.zero_le _⟩ fun i hi=>?_
 ·refine aK.ak rfl ?_ ?_<;>simp only [go_sem,Int.natCast_succ,KT]
  all_goals first|rfl|(refine ⟨?_,?_⟩<;>rfl)|trace_state
 by_cases hi4:i<4
 ·have f1:((i:Int)<4)=True:=eq_true (by omega)
  by_cases hdl:i<d.length
  ·have hcd:KT d (i+1)=KT d i*256+gu (d.drop i):=rfl
   have hc0:=O6 d i
   have hcp:256 ^ i≤256 ^ 3:=Nat.pow_le_pow_right (by decide) (by omega)
   rw [show (256:Nat) ^ 3=16777216 from rfl] at hcp
   have kn:=E8 d (by omega) i (KT d i) hdl (by omega)
   rw [←hcd] at kn
   (repeat' with_reducible first|intro _|refine rz ?_|refine ra ?_ ?_|omega|simp only [go_sem,f1])
   refine ah.i [5,0,6] kn 3 ?_
   (repeat' with_reducible first|intro _|exact dn|refine rn ?_|refine ra ?_ ?_)
   refine ⟨i+1,aK.ak rfl ?_ ?_,by omega,by omega⟩<;>simp only [go_sem,Int.natCast_succ]
  ·have e:i=d.length:=by omega
   subst e
   have kn:=E5 d (by omega) (KT d d.length)
   have hR:lq w h d n=(List.replicate n false,false):=by unfold lq;rw [if_pos (by omega)]
   rw [hR]
   (repeat' with_reducible first|intro _|refine rz ?_|refine ra ?_ ?_|omega|simp only [go_sem,f1])
   refine ah.i [5,0,6] kn 3 ?_
   (repeat' with_reducible first|intro _|exact dn|refine rn ?_|refine ra ?_ ?_)
   refine aU.of [(0,2)] 1 ?_ (by rfl) ?_<;>simp only [go_sem,Int.natCast_succ,Post]
 have f1:((i:Int)<4)=False:=eq_false (by omega)
 have e:i=4:=by omega
 subst e
 rw [←RH]
 have hR:lq w h d n=jI w h n (AD.init d n) 0:=by unfold lq;rw [if_neg (by omega)]
 rw [hR]
 obtain ⟨R,hRR⟩:∃ R,jI w h n (AD.init d n) 0=R:=⟨_,rfl⟩
 rw [hRR]
 (repeat' with_reducible first|intro _|refine rz ?_|refine ra ?_ ?_|omega|simp only [go_sem,f1])
 refine aF.intro (fun x:Nat × Nat=>⟨119,[(46,.int .i64 x.1),(45,.int .i64 n),(14,.int .i64 (dN w h d n x.1).span),(13,.fn 158 [.ptr 5 0,.ptr 0 0,.ptr 6 0]),(12,.ptr 6 0),(11,.ptr 5 0),(9,.own 4),(8,.ptr 3 0),(6,.ptr 1 0),(3,.ptr 0 0),(1,.int .i64 w),(2,.int .i64 h)],[(0,.box 9 [.str d]),(1,.box 24 [.int .i64 0,.int .i64 0,.nilS]),(2,.row 4 (.bools (dN w h d n x.1).P)),(3,.box 24 [.int .i64 w,.int .i64 h,.own 2]),(4,.row 3 (.ints .i64 (iO (dN w h d n x.1).tab))),(5,.box 3 [.int .i64 (x.2:Int)]),(6,.box 3 [.int .i64 ((dN w h d n x.1).code:Int)])],7⟩) (fun x=>x.1≤n∧x.2≤d.length∧(dN w h d n x.1).data=d.drop x.2∧jI w h (n - x.1) (dN w h d n x.1) x.1=R) (fun x=>n - x.1) (0,4) ?_ ⟨Nat.zero_le _,by omega,rfl,hRR⟩ fun x hx=>?_
 ·refine aK.ak rfl ?_ ?_<;>simp only [go_sem,Int.natCast_succ,List.length_replicate]
  all_goals first|rfl|exact ⟨rfl,rfl⟩|exact ⟨rfl,rfl,rfl⟩|exact ⟨rfl,rfl,rfl,rfl⟩|trace_state
 obtain ⟨i,a⟩:=x
 obtain ⟨hi,ha,hdat,hgo⟩:=hx
 dsimp only at hi ha hdat hgo
 dsimp only
 have hok:=xX w h d n i
 by_cases hlt:i<n
 rotate_left
 ·have f1:((i:Int)<(n:Int))=False:=eq_false (by omega)
  have e:i=n:=by omega
  subst e
  rw [Nat.sub_self] at hgo
  have hR1:R=((dN w h d i i).P,decide ((dN w h d i i).data=[])):=hgo.symm
  have hb:decide ((dN w h d i i).data=[])=decide ((a:Int)=(d.length:Int)):=by
   rw [hdat]
   by_cases hq:a=d.length
   ·rw [decide_eq_true (List.drop_of_length_le (by omega)),decide_eq_true (by omega)]
   ·rw [decide_eq_false (fun h0=>hq (by have:=congrArg List.length h0;rw [List.length_drop,List.length_nil] at this;omega)),decide_eq_false (by omega)]
  rw [hR1,hb]
  (repeat' with_reducible first|intro _|refine rz ?_|refine ra ?_ ?_|omega|simp only [go_sem,f1])
  refine aN.lex [5] [(1,[1]),(2,[1]),(3,[1]),(4,[1])] (by kernel_rfl) (by kernel_rfl) ?_
  (repeat' with_reducible first|intro _|exact dn|refine rn ?_|refine ra ?_ ?_)
  refine aU.of [(0,2)] 1 ?_ (by rfl) ?_<;>simp only [go_sem,Int.natCast_succ,Post]
 have f1:((i:Int)<(n:Int))=True:=eq_true (by omega)
 have hw1:i%w<w:=Nat.mod_lt _ hw0
 have hw2:i / w<h:=Nat.div_lt_of_lt_mul (by omega)
 have d1:(i:Int).tmod (w:Int)=((i%w:Nat):Int):=by rw [Int.tmod_eq_emod_of_nonneg (Int.natCast_nonneg _)];rfl
 have d2:(i:Int).tdiv (w:Int)=((i / w:Nat):Int):=by rw [Int.tdiv_eq_ediv_of_nonneg (Int.natCast_nonneg _)];rfl
 have hnext:dN w h d n (i+1)=((dN w h d n i).mid ((dN w h d n i).c w h i) i).norm:=rfl
 have hPi:=DK w h d n i i (Nat.le_refl _)
 have hPs:=N9 (l:=(dN w h d n i).P) (i:=i) (d:=false) (by rw [hok.P];exact hlt)
 rw [hPi] at hPs
 have hcc:(dN w h d n i).c w h i=kL w h (dN w h d n i).P ((i%w:Nat):Int) ((i / w:Nat):Int):=rfl
 obtain ⟨xx,hxx⟩:∃ xx,i%w=xx:=⟨_,rfl⟩
 obtain ⟨yy,hyy⟩:∃ yy,i / w=yy:=⟨_,rfl⟩
 rw [hxx] at hw1 d1 hcc
 rw [hyy] at hw2 d2 hcc
 have kc:=yA w h hw hh (dN w h d n i).P (by rw [hok.P,hn]) (xx:Int) (yy:Int) (by omega) (by omega)
 have hc:=lN w h (dN w h d n i).P (xx:Int) (yy:Int)
 have hwne:¬(w:Int)=0:=by omega
 have hk1:n - i=(n - (i+1))+1:=by omega
 rw [hk1] at hgo
 unfold jI at hgo
 rw [←hcc] at kc hc
 generalize (dN w h d n i).c w h i=c at *
 generalize dN w h d n i=s at *
 obtain ⟨⟨ht1,ht2⟩,hm1,hm2⟩:=AD.PV hok hc
 have hlo:=hok.lo
 have hhi:=hok.hi
 have hlen:=hok.len
 have hcode:=hok.code
 have hPl:=hok.P
 have hg:=Dc (l:=s.tab) (i:=c) (by rw [hlen];exact hc)
 have hgl:=yQ s.tab
 have q1:((s.span:Nat):Int).tdiv 4096=((s.span / 4096:Nat):Int):=by rw [Int.tdiv_eq_ediv_of_nonneg (Int.natCast_nonneg _)];rfl
 have q2:((s.span / 4096:Nat):Int)*((s.tab.getD c 0:Nat):Int)=((s.m c:Nat):Int):=(Int.natCast_mul _ _).symm
 (repeat' with_reducible first|intro _|refine rz ?_|refine ra ?_ ?_|omega|simp only [go_sem,f1])
 refine aN.lex [] [] (by kernel_rfl) (by kernel_rfl) ?_
 (repeat' with_reducible first|intro _|refine rz ?_|refine ra ?_ ?_|omega|simp only [go_sem,d1,d2,hwne])
 (refine QV.intro (.int .i64 c) ?_ ?_;focus ((repeat' with_reducible first|intro _|exact dn|refine rn ?_|refine ra ?_ ?_);refine ah.k (kc) ?_;(repeat' with_reducible first|intro _|exact dn|refine rn ?_|refine ra ?_ ?_)))
 have hmid:=AD.rV hok hc i
 have hmok:=AD.Dh hmid
 have hmlo:=hmok.lo
 obtain ⟨M,hM⟩:∃ M,s.mid c i=M:=⟨_,rfl⟩
 have hMt:M.tab=s.tab.set c (Ac (s.tab.getD c 0) (s.k c)):=by rw [←hM];rfl
 have hMs0:M.span=if s.k c=true then s.span - s.m c else s.m c:=by rw [←hM];rfl
 have hMc0:M.code=if s.k c=true then s.code - s.m c else s.code:=by rw [←hM];rfl
 have hMd:M.data=s.data:=by rw [←hM];rfl
 have hMP0:M.P=s.P.set i (s.k c):=by rw [←hM];rfl
 rw [hM] at hnext hmlo hmid hgo
 rw [hMd,hdat] at hgo
 obtain ⟨hmid1,hmid2,hmid3,_,_,_⟩:=hmid
 have hset:=yR s.tab c (Ac (s.tab.getD c 0) (s.k c))
 have hlrn:=Ad ⟨ht1,ht2⟩ (s.k c)
 by_cases hk:s.m c≤s.code
 ·have hkt:s.k c=true:=decide_eq_true hk
  rw [hkt] at hMt hMs0 hMc0 hMP0 hset hlrn
  rw [if_pos rfl] at hMs0 hMc0
  have hMs:M.span=s.span - s.m c:=hMs0
  have hMc:M.code=s.code - s.m c:=hMc0
  have hMP:M.P=s.P.set i true:=hMP0
  have f2:(((s.m c:Nat):Int)≤(s.code:Int))=True:=eq_true (by omega)
  have hspI:(s.span:Int) - (s.m c:Int)=((s.span - s.m c:Nat):Int):=by omega
  have hcdI:(s.code:Int) - (s.m c:Int)=((s.code - s.m c:Nat):Int):=by omega
  have dd1:((s.tab.getD c 0:Nat):Int).tdiv 32=((s.tab.getD c 0 / 32:Nat):Int):=by rw [Int.tdiv_eq_ediv_of_nonneg (Int.natCast_nonneg _)];rfl
  have dd2:((s.tab.getD c 0:Nat):Int) - ((s.tab.getD c 0 / 32:Nat):Int)=((Ac (s.tab.getD c 0) true:Nat):Int):=by
   have:Ac (s.tab.getD c 0) true=s.tab.getD c 0 - s.tab.getD c 0 / 32:=rfl
   omega
  (repeat' with_reducible first|intro _|refine rz ?_|refine ra ?_ ?_|omega|simp only [go_sem,q1,q2,hg,hgl,hlen,hPl,f2,hspI,hcdI])
  refine aN.lex [11] [] (by kernel_rfl) (by kernel_rfl) ?_
  by_cases hbig:M.span≤M.code
  ·have hR1:R=(M.P,false):=by rw [if_pos hbig] at hgo;exact hgo.symm
   have f3:(((s.span - s.m c:Nat):Int)≤((s.code - s.m c:Nat):Int))=True:=eq_true (by omega)
   rw [hR1,hMP]
   (repeat' with_reducible first|intro _|refine rz ?_|refine ra ?_ ?_|omega|simp only [go_sem,hg,hgl,hlen,dd1,dd2,hset,f3])
   (refine aU.of [(0,2)] 1 ?_ (by rfl) ?_<;>simp only [go_sem,Int.natCast_succ,Post])
  have hgo2:=hgo
  rw [if_neg hbig] at hgo2
  have f3:(((s.span - s.m c:Nat):Int)≤((s.code - s.m c:Nat):Int))=False:=eq_false (by omega)
  (repeat' with_reducible first|intro _|refine rz ?_|refine ra ?_ ?_|omega|simp only [go_sem,hg,hgl,hlen,dd1,dd2,hset,f3])
  refine aF.intro (fun r:AD × Nat=>⟨119,[(46,.int .i64 i),(45,.int .i64 n),(14,.int .i64 r.1.span),(13,.fn 158 [.ptr 5 0,.ptr 0 0,.ptr 6 0]),(12,.ptr 6 0),(11,.ptr 5 0),(9,.own 4),(8,.ptr 3 0),(6,.ptr 1 0),(3,.ptr 0 0),(1,.int .i64 w),(2,.int .i64 h)],[(0,.box 9 [.str d]),(1,.box 24 [.int .i64 0,.int .i64 0,.nilS]),(2,.row 4 (.bools r.1.P)),(3,.box 24 [.int .i64 w,.int .i64 h,.own 2]),(4,.row 3 (.ints .i64 (iO r.1.tab))),(5,.box 3 [.int .i64 (r.2:Int)]),(6,.box 3 [.int .i64 (r.1.code:Int)])],7⟩) (fun r=>r=(M,a)∨(M.span<16777216∧a<d.length∧r=(M.norm,a+1))) (fun r=>if r.1.span<16777216 then 1 else 0) (M,a) ?_ (.inl rfl) fun r hr=>?_
  ·refine aK.ak rfl ?_ ?_<;>simp only [go_sem,Int.natCast_succ,hMs,hMt,hMc,hMd,hMP]
   all_goals first|rfl|exact ⟨rfl,rfl⟩|omega
  obtain ⟨r,b⟩:=r
  by_cases hs2:r.span<16777216
  ·have hrM:r=M∧b=a:=by
    rcases hr with e|⟨_,_,e⟩
    ·cases e;exact ⟨rfl,rfl⟩
    ·cases e;omega
   obtain ⟨rfl,rfl⟩:=hrM
   have f5:((r.span:Int)<16777216)=True:=eq_true (by omega)
   have hss:(r.span:Int)*256=((r.span*256:Nat):Int):=by omega
   rw [if_pos hs2] at hgo2
   by_cases hbd:b<d.length
   ·have hnm:r.norm=⟨r.code*256%4294967296+gu (d.drop b),r.span*256,r.tab,d.drop (b+1),r.P⟩:=by unfold AD.norm;rw [if_pos hs2,hMd,hdat,List.drop_drop]
    have hcm:r.code*256%4294967296=r.code*256:=by omega
    rw [hcm] at hnm
    have kn:=E8 d (by omega) b r.code hbd (by omega)
    (repeat' with_reducible first|intro _|refine rz ?_|refine ra ?_ ?_|omega|simp only [go_sem,f5])
    refine ah.i [5,0,6] kn 3 ?_
    (repeat' with_reducible first|intro _|exact dn|refine rn ?_|refine ra ?_ ?_)
    (repeat' with_reducible first|intro _|refine rz ?_|refine ra ?_ ?_|omega|simp only [go_sem,hss])
    refine ⟨(r.norm,b+1),aK.ak rfl ?_ ?_,.inr ⟨hs2,hbd,rfl⟩,?_⟩
    ·simp only [go_sem,Int.natCast_succ,hnm]
     all_goals first|rfl|omega|(refine ⟨?_,?_⟩<;>first|rfl|omega)
    ·simp only [go_sem,Int.natCast_succ,hnm]
    ·dsimp only;rw [if_pos hs2,if_neg (by omega)];omega
   ·have e:b=d.length:=by omega
    subst e
    have kn:=E5 d (by omega) r.code
    have hR1:R=(r.P,false):=by rw [if_pos (List.drop_of_length_le (Nat.le_refl _))] at hgo2;exact hgo2.symm
    rw [hR1]
    (repeat' with_reducible first|intro _|refine rz ?_|refine ra ?_ ?_|omega|simp only [go_sem,f5])
    refine ah.i [5,0,6] kn 3 ?_
    (repeat' with_reducible first|intro _|exact dn|refine rn ?_|refine ra ?_ ?_)
    refine aU.of [(0,2)] 1 ?_ (by rfl) ?_<;>simp only [go_sem,Int.natCast_succ,Post]
  ·have f5:((r.span:Int)<16777216)=False:=eq_false (by omega)
   have hrn:r=M.norm∧b≤d.length∧M.norm.data=d.drop b∧jI w h (n - (i+1)) M.norm (i+1)=R:=by
    rcases hr with e|⟨h1,h2,e⟩
    ·cases e
     rw [if_neg hs2] at hgo2
     rw [qL hs2]
     exact ⟨rfl,ha,by rw [hMd,hdat],hgo2⟩
    ·cases e
     rw [if_pos h1,if_neg (fun h0=>by have:=congrArg List.length h0;rw [List.length_drop,List.length_nil] at this;omega)] at hgo2
     refine ⟨rfl,h2,?_,hgo2⟩
     unfold AD.norm
     rw [if_pos h1,hMd,hdat,List.drop_drop]
   obtain ⟨hrn,g1,g2,g3⟩:=hrn
   rw [←hrn] at hnext g2 g3
   (repeat' with_reducible first|intro _|refine rz ?_|refine ra ?_ ?_|omega|simp only [go_sem,f5])
   refine ⟨(i+1,b),aK.ak rfl ?_ ?_,⟨by dsimp only;omega,g1,by dsimp only;rw [hnext];exact g2,by dsimp only;rw [hnext];exact g3⟩,by dsimp only;omega⟩<;>simp only [go_sem,Int.natCast_succ,hnext]
 ·have hkt:s.k c=false:=decide_eq_false hk
  rw [hkt] at hMt hMs0 hMc0 hMP0 hset hlrn
  rw [if_neg (by decide)] at hMs0 hMc0
  have hMs:M.span=s.m c:=hMs0
  have hMc:M.code=s.code:=hMc0
  have hMP:M.P=s.P:=hMP0.trans hPs
  have f2:(((s.m c:Nat):Int)≤(s.code:Int))=False:=eq_false (by omega)
  have dd1:(4096 - ((s.tab.getD c 0:Nat):Int)).tdiv 32=(((4096 - s.tab.getD c 0) / 32:Nat):Int):=by rw [Int.tdiv_eq_ediv_of_nonneg (by omega)];omega
  have dd2:((s.tab.getD c 0:Nat):Int)+(((4096 - s.tab.getD c 0) / 32:Nat):Int)=((Ac (s.tab.getD c 0) false:Nat):Int):=by
   have:Ac (s.tab.getD c 0) false=s.tab.getD c 0+(4096 - s.tab.getD c 0) / 32:=rfl
   omega
  (repeat' with_reducible first|intro _|refine rz ?_|refine ra ?_ ?_|omega|simp only [go_sem,q1,q2,hg,hgl,hlen,hPl,f2])
  refine aN.lex [12] [] (by kernel_rfl) (by kernel_rfl) ?_
  by_cases hbig:M.span≤M.code
  ·exact absurd hbig (by omega)
  have hgo2:=hgo
  rw [if_neg hbig] at hgo2
  have f3:(((s.m c:Nat):Int)≤((s.code:Nat):Int))=False:=eq_false (by omega)
  (repeat' with_reducible first|intro _|refine rz ?_|refine ra ?_ ?_|omega|simp only [go_sem,hg,hgl,hlen,dd1,dd2,hset,f3])
  refine aF.intro (fun r:AD × Nat=>⟨119,[(46,.int .i64 i),(45,.int .i64 n),(14,.int .i64 r.1.span),(13,.fn 158 [.ptr 5 0,.ptr 0 0,.ptr 6 0]),(12,.ptr 6 0),(11,.ptr 5 0),(9,.own 4),(8,.ptr 3 0),(6,.ptr 1 0),(3,.ptr 0 0),(1,.int .i64 w),(2,.int .i64 h)],[(0,.box 9 [.str d]),(1,.box 24 [.int .i64 0,.int .i64 0,.nilS]),(2,.row 4 (.bools r.1.P)),(3,.box 24 [.int .i64 w,.int .i64 h,.own 2]),(4,.row 3 (.ints .i64 (iO r.1.tab))),(5,.box 3 [.int .i64 (r.2:Int)]),(6,.box 3 [.int .i64 (r.1.code:Int)])],7⟩) (fun r=>r=(M,a)∨(M.span<16777216∧a<d.length∧r=(M.norm,a+1))) (fun r=>if r.1.span<16777216 then 1 else 0) (M,a) ?_ (.inl rfl) fun r hr=>?_
  ·refine aK.ak rfl ?_ ?_<;>simp only [go_sem,Int.natCast_succ,hMs,hMt,hMc,hMd,hMP]
   all_goals first|rfl|exact ⟨rfl,rfl⟩|omega
  obtain ⟨r,b⟩:=r
  by_cases hs2:r.span<16777216
  ·have hrM:r=M∧b=a:=by
    rcases hr with e|⟨_,_,e⟩
    ·cases e;exact ⟨rfl,rfl⟩
    ·cases e;omega
   obtain ⟨rfl,rfl⟩:=hrM
   have f5:((r.span:Int)<16777216)=True:=eq_true (by omega)
   have hss:(r.span:Int)*256=((r.span*256:Nat):Int):=by omega
   rw [if_pos hs2] at hgo2
   by_cases hbd:b<d.length
   ·have hnm:r.norm=⟨r.code*256%4294967296+gu (d.drop b),r.span*256,r.tab,d.drop (b+1),r.P⟩:=by unfold AD.norm;rw [if_pos hs2,hMd,hdat,List.drop_drop]
    have hcm:r.code*256%4294967296=r.code*256:=by omega
    rw [hcm] at hnm
    have kn:=E8 d (by omega) b r.code hbd (by omega)
    (repeat' with_reducible first|intro _|refine rz ?_|refine ra ?_ ?_|omega|simp only [go_sem,f5])
    refine ah.i [5,0,6] kn 3 ?_
    (repeat' with_reducible first|intro _|exact dn|refine rn ?_|refine ra ?_ ?_)
    (repeat' with_reducible first|intro _|refine rz ?_|refine ra ?_ ?_|omega|simp only [go_sem,hss])
    refine ⟨(r.norm,b+1),aK.ak rfl ?_ ?_,.inr ⟨hs2,hbd,rfl⟩,?_⟩
    ·simp only [go_sem,Int.natCast_succ,hnm]
     all_goals first|rfl|omega|(refine ⟨?_,?_⟩<;>first|rfl|omega)
    ·simp only [go_sem,Int.natCast_succ,hnm]
    ·dsimp only;rw [if_pos hs2,if_neg (by omega)];omega
   ·have e:b=d.length:=by omega
    subst e
    have kn:=E5 d (by omega) r.code
    have hR1:R=(r.P,false):=by rw [if_pos (List.drop_of_length_le (Nat.le_refl _))] at hgo2;exact hgo2.symm
    rw [hR1]
    (repeat' with_reducible first|intro _|refine rz ?_|refine ra ?_ ?_|omega|simp only [go_sem,f5])
    refine ah.i [5,0,6] kn 3 ?_
    (repeat' with_reducible first|intro _|exact dn|refine rn ?_|refine ra ?_ ?_)
    refine aU.of [(0,2)] 1 ?_ (by rfl) ?_<;>simp only [go_sem,Int.natCast_succ,Post]
  ·have f5:((r.span:Int)<16777216)=False:=eq_false (by omega)
   have hrn:r=M.norm∧b≤d.length∧M.norm.data=d.drop b∧jI w h (n - (i+1)) M.norm (i+1)=R:=by
    rcases hr with e|⟨h1,h2,e⟩
    ·cases e
     rw [if_neg hs2] at hgo2
     rw [qL hs2]
     exact ⟨rfl,ha,by rw [hMd,hdat],hgo2⟩
    ·cases e
     rw [if_pos h1,if_neg (fun h0=>by have:=congrArg List.length h0;rw [List.length_drop,List.length_nil] at this;omega)] at hgo2
     refine ⟨rfl,h2,?_,hgo2⟩
     unfold AD.norm
     rw [if_pos h1,hMd,hdat,List.drop_drop]
   obtain ⟨hrn,g1,g2,g3⟩:=hrn
   rw [←hrn] at hnext g2 g3
   (repeat' with_reducible first|intro _|refine rz ?_|refine ra ?_ ?_|omega|simp only [go_sem,f5])
   refine ⟨(i+1,b),aK.ak rfl ?_ ?_,⟨by dsimp only;omega,g1,by dsimp only;rw [hnext];exact g2,by dsimp only;rw [hnext];exact g3⟩,by dsimp only;omega⟩<;>simp only [go_sem,Int.natCast_succ,hnext]
end Go.Fv.H
/- Runes below 128 are bytes. -/
namespace Go.Fv.H
open Go
theorem ZO (l:List UInt8) (j:Nat):(⟨l.toArray⟩:ByteArray).get! j=l.getD j 0:=by
 show (l.toArray)[j]! = _
 by_cases h:j<l.length
 ·simp [h,List.getD]
 ·simp [h,List.getD];rfl
theorem N7 {l:List UInt8} {p:Nat} (h:p<l.length):((l.getD p 0).toNat<128∧ny l p=((l.getD p 0).toNat:Int)∧xM l p=1)∨(128≤(l.getD p 0).toNat∧128≤ny l p):=by
 unfold xM ny
 rw [Lib.decode_at]
 have hs:(⟨l.toArray⟩:ByteArray).size=l.length:=rfl
 simp only [ZO,hs]
 have b0:(l.getD p 0).toNat<256:=(l.getD p 0).toNat_lt
 by_cases ha:(l.getD p 0).toNat<128
 ·have e:Lib.decodeN (l.length - p) (l.getD p 0).toNat (l.getD (p+1) 0).toNat (l.getD (p+2) 0).toNat (l.getD (p+3) 0).toNat=((l.getD p 0).toNat,1):=by
   unfold Lib.decodeN;rw [if_pos ha]
  rw [e]
  exact .inl ⟨ha,rfl,rfl⟩
 refine .inr ⟨by omega,?_⟩
 rcases Lib.decodeN_shape (l.length - p) (l.getD p 0).toNat (l.getD (p+1) 0).toNat (l.getD (p+2) 0).toNat (l.getD (p+3) 0).toNat with ⟨c,e⟩|⟨c1,c2,c3,cv,e⟩|⟨c1,c2,c3,c4,cv,cs,e⟩|⟨c1,c2,c3,c4,c5,cv,cw,e⟩|e
 ·omega
 all_goals rw [e];dsimp only;omega
theorem YQ {l:List UInt8} {p:Nat}:0≤ny l p∧ny l p≤1114111:=by
 have:=Lib.rune_le ⟨l.toArray⟩ p
 unfold ny;omega
end Go.Fv.H
/- The reference's read at plain data and by context: the walk. -/
namespace Go.Fv.H
open Go Go.Proofs
set_option maxHeartbeats 4000000 in
theorem NJ (w h:Nat) (hw0:0<w) (hw:w≤4000) (hh:h≤4000) (hwh:w*h≤1048576) (d:Bytes) (hd:d.length≤100000000) :
  aA Tryz.prog 73 [.int .i64 4,.str d,.int .i64 w,.int .i64 h] (.tup [.agg [.int .i64 w,.int .i64 h,.own 0],.bool (lq w h d (w*h)).2]) [(0,.row 4 (.bools (lq w h d (w*h)).1))]:=by
 have k:=GI w h hw0 hw hh hwh d (by omega)
 refine aA.aG Tryz.func73 rfl (by decide) (by simp [Tryz.f73]) [.cell 8 24,.tmp 9] rfl fun w0 T0 _=>?_
 simp only [Tryz.f73,au]
 (repeat' with_reducible first|intro _|exact dn|refine rn ?_|refine ra ?_ ?_)
 refine ah.o k 1 ?_
 (repeat' with_reducible first|intro _|exact dn|refine rn ?_|refine ra ?_ ?_)
 refine aU.auto 1 ?_ rfl ?_<;>simp only [go_sem,Int.natCast_succ,Post]
set_option maxHeartbeats 4000000 in
theorem Xe (w h:Nat) (hw0:0<w) (hw:w≤4000) (hh:h≤4000) (hwh:w*h≤1048576) (d:Bytes) (hd:d.length≤100000000) (hs:(iE d).length<w*h) :
  aA Tryz.prog 73 [.int .i64 1,.str d,.int .i64 w,.int .i64 h] (.tup [.agg [.int .i64 w,.int .i64 h,.nilS],.bool false]) []:=by
 have e1:(w:Int)*(h:Int)=((w*h:Nat):Int):=(Int.natCast_mul w h).symm
 have k:=lV d (by omega)
 have f1:(((iE d).length:Int)<((w*h:Nat):Int))=True:=eq_true (by omega)
 generalize iE d=s at *
 obtain ⟨n,hn⟩:∃ n,w*h=n:=⟨_,rfl⟩
 rw [hn] at e1 f1 hs
 refine aA.aG Tryz.func73 rfl (by decide) (by simp [Tryz.f73]) [.cell 8 24,.tmp 9] rfl fun w0 T0 _=>?_
 simp only [Tryz.f73,au]
 (repeat' with_reducible first|intro _|exact dn|refine rn ?_|refine ra ?_ ?_)
 refine ah.k k ?_
 (repeat' with_reducible first|intro _|refine rz ?_|refine ra ?_ ?_|omega|simp only [go_sem,e1,f1])
 refine aU.auto 0 ?_ rfl ?_<;>simp only [go_sem,Int.natCast_succ,Post]
theorem aal (d:Bytes) {i:Nat} (h:i<8*d.length):((iE d).getD i 0).toNat=48∨((iE d).getD i 0).toNat=49:=by
 have:=S9 h
 omega
set_option maxHeartbeats 4000000 in
theorem Xf (w h:Nat) (hw0:0<w) (hw:w≤4000) (hh:h≤4000) (hwh:w*h≤1048576) (d:Bytes) (hd:d.length≤100000000) (hs:w*h≤(iE d).length) :
  aA Tryz.prog 73 [.int .i64 1,.str d,.int .i64 w,.int .i64 h] (.tup [.agg [.int .i64 w,.int .i64 h,.own 0],.bool true]) [(0,.row 4 (.bools (oU ((iE d).take (w*h)))))]:=by
 have e1:(w:Int)*(h:Int)=((w*h:Nat):Int):=(Int.natCast_mul w h).symm
 have k:=lV d (by omega)
 have f1:(((iE d).length:Int)<((w*h:Nat):Int))=False:=eq_false (by omega)
 have hl:=vU d
 have h01:=@aal d
 rw [←hl] at h01
 generalize iE d=s at *
 obtain ⟨n,hn⟩:∃ n,w*h=n:=⟨_,rfl⟩
 rw [hn] at e1 f1 hs hwh ⊢
 refine aA.aG Tryz.func73 rfl (by decide) (by simp [Tryz.f73]) [.cell 8 24,.tmp 9] rfl fun w0 T0 _=>?_
 simp only [Tryz.f73,au]
 (repeat' with_reducible first|intro _|exact dn|refine rn ?_|refine ra ?_ ?_)
 refine ah.k k ?_
 (repeat' with_reducible first|intro _|refine rz ?_|refine ra ?_ ?_|omega|simp only [go_sem,e1,f1])
 obtain ⟨x,hx⟩:∃ x,s.take n=x:=⟨_,rfl⟩
 have hxl:x.length=n:=by rw [←hx,List.length_take];omega
 have hx01:∀ i,i<n→(x.getD i 0).toNat=48∨(x.getD i 0).toNat=49:=fun i hi=>by
  have e:x.getD i 0=s.getD i 0:=by rw [←hx,List.getD_eq_getElem?_getD,List.getD_eq_getElem?_getD,List.getElem?_take_of_lt hi]
  rw [e]
  exact h01 (by omega)
 rw [hx]
 (repeat' with_reducible first|intro _|refine rz ?_|refine ra ?_ ?_|omega|simp only [go_sem,hx,Nat.sub_zero])
 refine aF.intro (fun p:Nat=>⟨141,[(76,.ptr 2 0),(11,.str s),(10,.ptr 1 0),(8,.ptr 0 0),(2,.int .i64 w),(3,.int .i64 h)],[(0,.box 24 [.int .i64 0,.int .i64 0,.nilS]),(1,.box 24 [.int .i64 w,.int .i64 h,.own 3]),(2,.siter x p),(3,.row 4 (.bools (oU (x.take p))))],4⟩) (fun p=>p≤n) (fun p=>n - p) 0 ?_ (Nat.zero_le _) fun i hi=>?_
 ·refine aK.trans (aK.jH (P:=Tryz.prog) 1 2 4 e4 rfl rfl) (aK.ak rfl ?_ ?_)<;>simp only [go_sem,Int.natCast_succ,put,oU,List.map_nil]
  all_goals first|rfl|exact ⟨rfl,rfl⟩|trace_state
 have hpl:=Aj (x.take i)
 rw [List.length_take] at hpl
 by_cases hlt:i<n
 ·have b1:((i:Int)<(x.length:Int))=True:=eq_true (by omega)
  have hsu:=EW (s:=x) (i:=i) (by omega)
  have hr:=N7 (l:=x) (p:=i) (by omega)
  have h48:=hx01 i hlt
  have hr2:ny x i=((x.getD i 0).toNat:Int)∧xM x i=1:=by omega
  obtain ⟨g1,g2⟩:=hr2
  generalize (x.getD i 0).toNat=c at *
  (repeat' with_reducible first|intro _|refine rz ?_|refine ra ?_ ?_|omega|simp only [go_sem,b1,g1,g2])
  refine ⟨i+1,aK.ak rfl ?_ ?_,by omega,by omega⟩<;>simp only [go_sem,Int.natCast_succ,hsu,g2]
  all_goals first|rfl|exact ⟨rfl,rfl⟩|trace_state
 ·have e:i=n:=by omega
  subst e
  have b1:((i:Int)<(x.length:Int))=False:=eq_false (by omega)
  have htk:x.take i=x:=List.take_of_length_le (by omega)
  have hfull:((oU x).length:Int)=(i:Int):=by rw [Aj,hxl]
  rw [htk]
  (repeat' with_reducible first|intro _|refine rz ?_|refine ra ?_ ?_|omega|simp only [go_sem,b1])
  refine aN.lex [8] [(1,[1]),(2,[1]),(3,[1]),(4,[1]),(5,[1]),(6,[1]),(7,[1])] (by kernel_rfl) (by kernel_rfl) ?_
  (repeat' with_reducible first|intro _|refine rz ?_|refine ra ?_ ?_|omega|simp only [go_sem,e1,hfull])
  refine aU.of [(0,3)] 1 ?_ (by rfl) ?_<;>simp only [go_sem,Int.natCast_succ,Post]
end Go.Fv.H
/- Reading a number: the walk of the reference's ReadGamma. -/
namespace Go.Fv.H
open Go Go.Proofs
set_option maxHeartbeats 4000000 in
theorem uG (s:Bytes) (hs:s.length≤300000000000000):aA Tryz.prog 112 [.str s] (.tup [.int .i64 (Ce s),.int .i64 (Cc s),.int .i64 (Gp 8 s)]) []:=by
 have hle:=Ju s
 have hat:=Jt s
 have hst:=zY s
 refine aA.aG Tryz.func112 rfl (by decide) (by simp [Tryz.f112]) [.tmp 2,.tmp 3,.tmp 4] rfl fun w0 T0 _=>?_
 simp only [Tryz.f112,au]
 (repeat' with_reducible first|intro _|exact dn|refine rn ?_|refine ra ?_ ?_)
 refine aF.intro (fun z:Nat=>⟨63,[(5,.int .i64 z),(0,.str s)],[],0⟩) (fun z=>z≤aJ s) (fun z=>s.length - z) 0 ?_ (Nat.zero_le _) fun z hz=>?_
 ·refine aK.ak rfl ?_ ?_<;>simp only [go_sem,Int.natCast_succ]
 by_cases hlt:z<aJ s
 ·have e:=hat z hlt
  have f1:((z:Int)<(s.length:Int))=True:=eq_true (by omega)
  have f2:(((s.getD z 0).toNat:Int)=48)=True:=eq_true (by rw [e];rfl)
  (repeat' with_reducible first|intro _|refine rz ?_|refine ra ?_ ?_|omega|simp only [go_sem,f1,f2])
  refine ⟨z+1,aK.ak rfl ?_ ?_,by omega,by omega⟩<;>simp only [go_sem,Int.natCast_succ]
 have hz:z=aJ s:=by omega
 subst hz
 have hno:∀ h:pG s=none,Ce s=0∧Cc s=0∧Gp 8 s=8:=fun h=>by unfold Ce Cc Gp;rw [h];exact ⟨rfl,rfl,rfl⟩
 have fin:aJ s<s.length→(((s.getD (aJ s) 0).toNat:Int)=48)=False:=fun c0=>eq_false fun h=>hst c0 (UInt8.toNat_inj.1 (by show _=48;omega))
 by_cases c1:20<aJ s
 ·obtain ⟨r1,r2,r3⟩:=hno (oV fun h=>by omega)
  have f3:(20<(aJ s:Int))=True:=eq_true (by omega)
  by_cases c0:aJ s<s.length
  ·have f1:((aJ s:Int)<(s.length:Int))=True:=eq_true (by omega)
   have f2:=fin c0
   (repeat' with_reducible first|intro _|refine rz ?_|refine ra ?_ ?_|omega|simp only [go_sem,f1,f2,f3])
   refine aU.auto 0 ?_ rfl ?_<;>simp only [go_sem,Int.natCast_succ,Post,r1,r2,r3]
  ·have f1:((aJ s:Int)<(s.length:Int))=False:=eq_false (by omega)
   (repeat' with_reducible first|intro _|refine rz ?_|refine ra ?_ ?_|omega|simp only [go_sem,f1,f3])
   refine aU.auto 0 ?_ rfl ?_<;>simp only [go_sem,Int.natCast_succ,Post,r1,r2,r3]
 have f3:(20<(aJ s:Int))=False:=eq_false (by omega)
 by_cases c2:s.length<2*aJ s+1
 ·obtain ⟨r1,r2,r3⟩:=hno (oV fun h=>by omega)
  have f4:((s.length:Int)<2*(aJ s:Int)+1)=True:=eq_true (by omega)
  by_cases c0:aJ s<s.length
  ·have f1:((aJ s:Int)<(s.length:Int))=True:=eq_true (by omega)
   have f2:=fin c0
   (repeat' with_reducible first|intro _|refine rz ?_|refine ra ?_ ?_|omega|simp only [go_sem,f1,f2,f3,f4])
   refine aU.auto 0 ?_ rfl ?_<;>simp only [go_sem,Int.natCast_succ,Post,r1,r2,r3]
  ·have f1:((aJ s:Int)<(s.length:Int))=False:=eq_false (by omega)
   (repeat' with_reducible first|intro _|refine rz ?_|refine ra ?_ ?_|omega|simp only [go_sem,f1,f3,f4])
   refine aU.auto 0 ?_ rfl ?_<;>simp only [go_sem,Int.natCast_succ,Post,r1,r2,r3]
 have f4:((s.length:Int)<2*(aJ s:Int)+1)=False:=eq_false (by omega)
 have c0:aJ s<s.length:=by omega
 have f1:((aJ s:Int)<(s.length:Int))=True:=eq_true (by omega)
 have f2:=fin c0
 obtain ⟨m1,m2⟩:=MH (s:=s) (by omega)
 have hcut:(2*(aJ s:Int)+1).toNat - aJ s=aJ s+1:=by omega
 have hsome:=@NC s
 have hnone:=@oV s
 have h49:s.getD (aJ s) 0≠48:=hst c0
 (repeat' with_reducible first|intro _|refine rz ?_|refine ra ?_ ?_|omega|simp only [go_sem,f1,f2,f3,f4,hcut])
 generalize hx:(s.drop (aJ s)).take (aJ s+1)=x at *
 have hxl:x.length≤21:=by omega
 refine aF.intro (fun p:Nat=>⟨63,[(37,.ptr 0 0),(6,.int .i64 (iL (x.take p))),(5,.int .i64 (aJ s)),(0,.str s)],[(0,.siter x p)],1⟩) (fun p=>p≤x.length∧(x.take p).all gI=true) (fun p=>x.length - p) 0 ?_ ⟨Nat.zero_le _,rfl⟩ fun p hI=>?_
 ·refine aK.ak rfl ?_ ?_<;>simp only [go_sem,Int.natCast_succ]
  all_goals rfl
 obtain ⟨hp,hI⟩:=hI
 have hv1:∀ q,q≤x.length→(x.take q).all gI=true→iL (x.take q)<2097152:=fun q hq h=>by
  have h1:=vV (x.take q) h
  have h2:(2:Nat) ^ (x.take q).length≤2 ^ 21:=Nat.pow_le_pow_right (by decide) (by rw [List.length_take];omega)
  rw [show (2:Nat) ^ 21=2097152 from rfl] at h2
  omega
 have hv:=hv1 p hp hI
 by_cases hlt:p<x.length
 ·have ht:=U8 hlt
  rw [hI,Bool.true_and,ZT] at ht
  have hs1:=AB hlt
  have hnx:=hv1 (p+1) (by omega)
  have hr:=N7 hlt
  have hbd:=@YQ x p
  have b1:((p:Int)<(x.length:Int))=True:=eq_true (by omega)
  by_cases hd:(x.getD p 0).toNat=48∨(x.getD p 0).toNat=49
  ·rw [decide_eq_true hd] at ht
   have hnx:=hnx ht
   have hr2:ny x p=((x.getD p 0).toNat:Int)∧xM x p=1:=by rcases hr with h|h<;>omega
   obtain ⟨e1,e2⟩:=hr2
   generalize (x.getD p 0).toNat=c at *
   generalize iL (x.take p)=v at *
   (repeat' with_reducible first|intro _|refine rz ?_|refine ra ?_ ?_|omega|simp only [go_sem,e1,e2])
   all_goals (refine ⟨p+1,aK.ak rfl ?_ ?_,⟨by omega,ht⟩,by omega⟩<;>simp only [go_sem,Int.natCast_succ,hs1,e2])
   all_goals omega
  ·obtain ⟨r1,r2,r3⟩:=hno (hnone fun h=>hd (by
    rcases zI hlt h.2.2.1 with e|e<;>rw [e]<;>decide))
   have hr2:¬ny x p=48∧¬ny x p=49:=by rcases hr with h|h<;>omega
   obtain ⟨e1,e2⟩:=hr2
   (repeat' with_reducible first|intro _|refine rz ?_|refine ra ?_ ?_|omega|simp only [go_sem,e1,e2])
   refine aU.auto 0 ?_ rfl ?_<;>simp only [go_sem,Int.natCast_succ,Post,r1,r2,r3]
 ·have e:p=x.length:=by omega
  subst e
  rw [List.take_length] at hI
  have hx1:1≤iL x:=by
   have h0:=zI (l:=x) (p:=0) (by omega) hI
   rw [m2] at h0
   have h1:=h0.resolve_left h49
   cases x with
   | nil=>simp at m1
   | cons c l=>exact XE (by rw [m2];exact h1)
  rw [List.take_length] at hv ⊢
  by_cases c5:iL x≤1048576
  ·have hr:=hsome ⟨by omega,by omega,hI,c5⟩
   have r1:Ce s=(iL x:Int):=by unfold Ce;rw [hr]
   have r2:Cc s=2*(aJ s:Int)+1:=by unfold Cc;rw [hr];rfl
   have r3:Gp 8 s=0:=by unfold Gp;rw [hr]
   generalize iL x=v at *
   (repeat' with_reducible first|intro _|exact dn|refine rn ?_|refine ra ?_ ?_)
   all_goals first|omega|(refine aU.auto 0 ?_ rfl ?_<;>simp only [go_sem,Int.natCast_succ,Post,r1,r2,r3])
  ·obtain ⟨r1,r2,r3⟩:=hno (hnone fun h=>c5 h.2.2.2)
   generalize iL x=v at *
   (repeat' with_reducible first|intro _|exact dn|refine rn ?_|refine ra ?_ ?_)
   all_goals first|omega|(refine aU.auto 0 ?_ rfl ?_<;>simp only [go_sem,Int.natCast_succ,Post,r1,r2,r3])
end Go.Fv.H
/- The closures of the reference's ReadLine. -/
namespace Go.Fv.H
open Go Go.Proofs
theorem jK:aA Tryz.prog 159 [] (.tup [.own 0,.int .i64 0,.int .i64 8]) [(0,.row 4 (.bools []))]:=by
 refine aA.aG Tryz.func159 rfl (by decide) (by simp [Tryz.f159]) [.tmp 0,.tmp 1,.tmp 2] rfl fun w0 T0 _=>?_
 simp only [Tryz.f159,au]
 (repeat' with_reducible first|intro _|exact dn|refine rn ?_|refine ra ?_ ?_)
 refine aU.auto 1 ?_ rfl ?_<;>simp only [go_sem,Int.natCast_succ,Post]
theorem rW (R:List Bool) (t:Nat) (c:Bool) (hR:R.length≤4000) (ht:t≤4000) :
  fA Tryz.prog 160 [.int .i64 t,.bool c,.ptr 0 0] [(0,.box 22 [.own 1]),(1,.row 4 (.bools R))] 2 (.tup []) [(0,.box 22 [.own 2]),(2,.row 4 (.bools (R++List.replicate (t - R.length) c)))]:=by
 refine fA.aG Tryz.func160 rfl (by decide) (by simp [Tryz.f160]) yB [] rfl fun w0 T0 _=>?_
 simp only [Tryz.f160,au]
 (repeat' with_reducible first|intro _|exact dn|refine rn ?_|refine ra ?_ ?_)
 refine aF.intro (fun x:Nat=>⟨13,[(2,.ptr 0 0),(1,.bool c),(0,.int .i64 t)],[(0,.box 22 [.own 2]),(2,.row 4 (.bools (R++List.replicate x c)))],3⟩) (fun x=>x≤t - R.length) (fun x=>t - x) 0 ?_ (Nat.zero_le _) fun x hx=>?_
 ·refine aK.of [(2,1)] rfl (by show 2≤3;decide) (by decide) ?_ ?_<;>simp only [go_sem,Int.natCast_succ]
 have hl:(R++List.replicate x c).length=R.length+x:=by rw [List.length_append,List.length_replicate]
 by_cases hlt:R.length+x<t
 ·have f1:(((R.length+x:Nat):Int)<(t:Int))=True:=eq_true (by omega)
  have e:R++List.replicate x c++[c]=R++List.replicate (x+1) c:=by rw [List.append_assoc,List.replicate_succ']
  generalize R++List.replicate x c=Q at *
  (repeat' with_reducible first|intro _|refine rz ?_|refine ra ?_ ?_|omega|simp only [go_sem,hl,f1])
  refine ⟨x+1,aK.DU 2 rfl (by show 2≤3;decide) ?_ ?_,by omega,by omega⟩<;>simp only [go_sem,Int.natCast_succ,gq,e]
 ·have f1:(((R.length+x:Nat):Int)<(t:Int))=False:=eq_false (by omega)
  have e:x=t - R.length:=by omega
  subst e
  (repeat' with_reducible first|intro _|refine rz ?_|refine ra ?_ ?_|omega|simp only [go_sem,hl,f1])
  refine jl.of [(2,2)] 3 (by decide) (by decide) ?_ rfl ?_<;>simp only [go_sem,Int.natCast_succ]
theorem IB (c y:Bytes):aA Tryz.prog 161 [.str c,.cell [.str y]] (.bool (c.isPrefixOf y)) []:=by
 have k:=gZ y c
 refine aA.aG Tryz.func161 rfl (by decide) (by simp [Tryz.f161]) [.tmp 3] rfl fun w0 T0 _=>?_
 simp only [Tryz.f161,au]
 (repeat' with_reducible first|intro _|exact dn|refine rn ?_|refine ra ?_ ?_)
 refine ah.k k ?_
 (repeat' with_reducible first|intro _|exact dn|refine rn ?_|refine ra ?_ ?_)
 refine aU.auto 0 ?_ rfl ?_<;>simp only [go_sem,Int.natCast_succ,Post]
theorem RS (y:Bytes) (j:Nat) (hj:j≤7) (hno:∀ i,i<j→(aO.getD i []).isPrefixOf y=false) (hy:j<7→(aO.getD j []).isPrefixOf y=true) :
  aA Tryz.prog 149 [.ro (.strs aO),.fn 161 [.cell [.str y]]] (.int .i64 (if j<7 then j else -1)) []:=by
 have hnl:aO.length=7:=rfl
 refine aA.aG Tryz.func149 rfl (by decide) (by simp [Tryz.f149]) [.tmp 4] rfl fun w0 T0 _=>?_
 simp only [Tryz.f149,au]
 (repeat' with_reducible first|intro _|refine rz ?_|refine ra ?_ ?_|omega|simp only [go_sem,hnl])
 refine aF.intro (fun i:Nat=>⟨19,[(8,.int .i64 i),(7,.int .i64 7),(1,.fn 161 [.cell [.str y]]),(0,.ro (.strs aO))],[],0⟩) (fun i=>i≤j) (fun i=>8 - i) 0 ?_ (Nat.zero_le _) fun i hi=>?_
 ·refine aK.ak rfl ?_ ?_<;>simp only [go_sem,Int.natCast_succ]
 by_cases hlt:i<j
 ·have k:=IB (aO.getD i []) y
  rw [hno i hlt] at k
  have f1:((i:Int)<7)=True:=eq_true (by omega)
  (repeat' with_reducible first|intro _|refine rz ?_|refine ra ?_ ?_|omega|simp only [go_sem,f1,hnl])
  refine ah.k k ?_
  (repeat' with_reducible first|intro _|exact dn|refine rn ?_|refine ra ?_ ?_)
  refine ⟨i+1,aK.ak rfl ?_ ?_,by omega,by omega⟩<;>simp only [go_sem,Int.natCast_succ]
 have e:i=j:=by omega
 subst e
 by_cases h7:i<7
 ·rw [if_pos h7]
  have k:=IB (aO.getD i []) y
  rw [hy h7] at k
  have f1:((i:Int)<7)=True:=eq_true (by omega)
  (repeat' with_reducible first|intro _|refine rz ?_|refine ra ?_ ?_|omega|simp only [go_sem,f1,hnl])
  refine ah.k k ?_
  (repeat' with_reducible first|intro _|exact dn|refine rn ?_|refine ra ?_ ?_)
  refine aU.auto 0 ?_ rfl ?_<;>simp only [go_sem,Int.natCast_succ,Post]
 ·rw [if_neg h7]
  have f1:((i:Int)<7)=False:=eq_false (by omega)
  (repeat' with_reducible first|intro _|refine rz ?_|refine ra ?_ ?_|omega|simp only [go_sem,f1,hnl])
  refine aU.auto 0 ?_ rfl ?_<;>simp only [go_sem,Int.natCast_succ,Post]
end Go.Fv.H
