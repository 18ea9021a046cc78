/-
  A part of the proof of the claim: walks over the program's functions and the plain laws that these need. No condition of its own.
-/
import Derived.Test.YtodlgmmbfbiilaaGreatDoorHArcCCardPart9
import Derived.Test.YtodlgmmbfbiilaaGreatDoorHArcCCardPart3
import Derived.Test.YtodlgmmbfbiilaaGreatDoorHArcCCardPart7
import Derived.Test.YtodlgmmbfbiilaaGreatDoorHArcCCardPart6
set_option linter.unusedSimpArgs false
set_option linter.unusedVariables false
set_option linter.unnecessarySimpa false
set_option maxRecDepth 8000
/- bedref1.adaptive: the walk. -/
namespace Go.Fv.H
open Go Go.Proofs
set_option maxHeartbeats 16000000 in
theorem Fb (w h:Nat) (hw0:0<w) (hw:w≤4000) (hh:h≤4000) (hwh:w*h≤1048576) (p:List Bool) (hp:p.length=w*h) :
  aA Tryz.prog 63 [.agg [.int .i64 w,.int .i64 h,.ro (.bools p)]] (.str (sV w h p)) []:=by
 refine aA.aG Tryz.func63 rfl (by decide) (by simp [Tryz.f63]) [.tmp 2] rfl fun w0 T0 _=>?_
 simp only [Tryz.f63,au]
 (repeat' with_reducible first|intro _|exact dn|refine rn ?_|refine ra ?_ ?_)
 have hT:=FP
 have hg0:=@J9
 have ht0:iO (bn w h p 0).tab=iO sQ:=rfl
 refine aF.intro (fun i:Nat=>⟨88,[(14,.int .i64 i),(13,.int .i64 1024),(3,.own 1),(1,.ptr 0 0)],[(0,.box 24 [.int .i64 w,.int .i64 h,.ro (.bools p)]),(1,.row 3 (.ints .i64 ((iO sQ).take i++List.replicate (1024 - i) 0)))],2⟩) (fun i=>i≤1024) (fun i=>1024 - i) 0 ?_ (Nat.zero_le _) fun i hi=>?_
 ·refine aK.ak rfl ?_ ?_<;>simp only [go_sem,Int.natCast_succ]
  all_goals rfl
 have htl:((iO sQ).take i).length=i:=by rw [List.length_take,hT];omega
 by_cases hlt:i<1024
 ·have f1:((i:Int)<1024)=True:=eq_true (by omega)
  have hg:(iO sQ).getD i 0=2048:=hg0 hlt
  have hs:=lZ (z:=0) (d:=0) hT hlt
  rw [hg] at hs
  (repeat' with_reducible first|intro _|refine rz ?_|refine ra ?_ ?_|omega|simp only [go_sem,f1,htl])
  rw [hs]
  refine ⟨i+1,aK.ak rfl ?_ ?_,by omega,by omega⟩<;>simp only [go_sem,Int.natCast_succ]
 have f1:((i:Int)<1024)=False:=eq_false (by omega)
 have e:i=1024:=by omega
 subst e
 have hfull:(iO sQ).take 1024=iO sQ:=List.take_of_length_le (by rw [hT];exact Nat.le_refl _)
 rw [hfull,Nat.sub_self,List.replicate_zero,List.append_nil]
 (repeat' with_reducible first|intro _|refine rz ?_|refine ra ?_ ?_|omega|simp only [go_sem,f1])
 refine aF.intro (fun y:Nat=>⟨88,[(24,.int .i64 y),(23,.int .i64 h),(6,.int .i64 (bn w h p (y*w)).span),(5,.own 2),(3,.own 1),(1,.ptr 0 0)],[(0,.box 24 [.int .i64 w,.int .i64 h,.ro (.bools p)]),(1,.row 3 (.ints .i64 (iO (bn w h p (y*w)).tab))),(2,.row 5 (.ints .u8 (aj (bV (4+(bn w h p (y*w)).sh) (bn w h p (y*w)).big))))],3⟩) (fun y=>y≤h) (fun y=>h - y) 0 ?_ (Nat.zero_le _) fun y hy=>?_
 ·rw [Nat.zero_mul,ht0]
  refine aK.ak rfl ?_ ?_<;>simp only [go_sem,Int.natCast_succ]
  all_goals first|rfl|(show [0,0,0,0]=aj (bV 4 0);rw [be4];rfl)
 by_cases hylt:y<h
 rotate_left
 ·have f1:((y:Int)<(h:Int))=False:=eq_false (by omega)
  have e:y=h:=by omega
  subst e
  have hbk:=iV (sV w y p)
  have hall:sV w y p=bV (4+(bn w y p (y*w)).sh) (bn w y p (y*w)).big:=by unfold sV;rw [hp,Nat.mul_comm]
  rw [←hall]
  (repeat' with_reducible first|intro _|refine rz ?_|refine ra ?_ ?_|omega|simp only [go_sem,f1])
  refine aU.auto 0 ?_ rfl ?_<;>simp only [go_sem,Int.natCast_succ,Post,hbk]
 have fy:((y:Int)<(h:Int))=True:=eq_true (by omega)
 (repeat' with_reducible first|intro _|refine rz ?_|refine ra ?_ ?_|omega|simp only [go_sem,fy])
 refine aF.intro (fun x:Nat=>⟨88,[(29,.int .i64 x),(28,.int .i64 w),(7,.int .i64 y),(24,.int .i64 y),(23,.int .i64 h),(6,.int .i64 (bn w h p (y*w+x)).span),(5,.own 2),(3,.own 1),(1,.ptr 0 0)],[(0,.box 24 [.int .i64 w,.int .i64 h,.ro (.bools p)]),(1,.row 3 (.ints .i64 (iO (bn w h p (y*w+x)).tab))),(2,.row 5 (.ints .u8 (aj (bV (4+(bn w h p (y*w+x)).sh) (bn w h p (y*w+x)).big))))],3⟩) (fun x=>x≤w) (fun x=>w - x) 0 ?_ (Nat.zero_le _) fun x hx=>?_
 ·rw [Nat.add_zero]
  refine aK.ak rfl ?_ ?_<;>simp only [go_sem,Int.natCast_succ]
 by_cases hxlt:x<w
 rotate_left
 ·have f1:((x:Int)<(w:Int))=False:=eq_false (by omega)
  have e:x=w:=by omega
  subst e
  rw [←Nat.succ_mul]
  (repeat' with_reducible first|intro _|refine rz ?_|refine ra ?_ ?_|omega|simp only [go_sem,f1])
  refine ⟨y+1,aK.ak rfl ?_ ?_,by omega,by omega⟩<;>simp only [go_sem,Int.natCast_succ]
 have fx:((x:Int)<(w:Int))=True:=eq_true (by omega)
 have hsh:=SQ w h p (y*w+x)
 have hlt:y*w+x<w*h:=by
  have h1:y*w+w≤h*w:=by rw [←Nat.succ_mul];exact Nat.mul_le_mul_right _ hylt
  rw [Nat.mul_comm w h];omega
 have hm1:(y*w+x)%w=x:=by rw [Nat.mul_add_mod',Nat.mod_eq_of_lt hxlt]
 have hm2:(y*w+x) / w=y:=by
  rw [Nat.mul_comm,Nat.mul_add_div hw0,Nat.div_eq_of_lt hxlt,Nat.add_zero]
 have hnext:bn w h p (y*w+(x+1))=((bn w h p (y*w+x)).mid (kL w h p (x:Int) (y:Int)) (p.getD (y*w+x) false)).norm:=by
  have e:bn w h p (y*w+x+1)=((bn w h p (y*w+x)).mid (kL w h p (((y*w+x)%w:Nat):Int) (((y*w+x) / w:Nat):Int)) (p.getD (y*w+x) false)).norm:=rfl
  rw [hm1,hm2] at e
  exact e
 have kc:=yA w h hw hh p hp (x:Int) (y:Int) (by omega) (by omega)
 have ka:=NS w h hw hh p hp (x:Int) (y:Int)
 rw [OV p hxlt hylt] at ka
 have hc:=lN w h p (x:Int) (y:Int)
 have hok:=pK w h p (y*w+x)
 generalize kL w h p (x:Int) (y:Int)=c at *
 generalize p.getD (y*w+x) false=ink at *
 generalize bn w h p (y*w+x)=s at *
 obtain ⟨ht1,ht2⟩:=AE.Ko hok hc
 obtain ⟨hm1,hm2⟩:=AE.PV hok hc
 have hlo:=hok.lo
 have hhi:=hok.hi
 have hlen:=hok.len
 have hg:=Dc (l:=s.tab) (i:=c) (by rw [hlen];exact hc)
 have hgl:=yQ s.tab
 have q1:((s.span:Nat):Int).tdiv 4096=((s.span / 4096:Nat):Int):=by rw [Int.tdiv_eq_ediv_of_nonneg (Int.natCast_nonneg _)];rfl
 have q2:((s.span / 4096:Nat):Int)*((s.tab.getD c 0:Nat):Int)=((s.m c:Nat):Int):=(Int.natCast_mul _ _).symm
 have hnlo:=(AE.step_ok hok hc ink).lo
 unfold AE.step at hnlo
 obtain ⟨M,hM⟩:∃ M,s.mid c ink=M:=⟨_,rfl⟩
 have hMt:M.tab=s.tab.set c (Ac (s.tab.getD c 0) ink):=by rw [←hM];rfl
 have hMh:M.sh=s.sh:=by rw [←hM];rfl
 have hMs0:M.span=if ink=true then s.span - s.m c else s.m c:=by rw [←hM];rfl
 have hMb0:M.big=if ink=true then s.big+s.m c else s.big:=by rw [←hM];rfl
 rw [hM] at hnext hnlo
 have hset:=yR s.tab c (Ac (s.tab.getD c 0) ink)
 have hlrn:=Ad ⟨ht1,ht2⟩ ink
 (repeat' with_reducible first|intro _|refine rz ?_|refine ra ?_ ?_|omega|simp only [go_sem,fx])
 refine ah.k kc ?_
 (repeat' with_reducible first|intro _|refine rz ?_|refine ra ?_ ?_|omega|simp only [go_sem,q1,q2,hg,hgl,hlen])
 refine ah.k ka ?_
 cases ink with
 | true=>
  rw [if_pos rfl] at hMs0 hMb0
  have hspI:(s.span:Int) - (s.m c:Int)=((s.span - s.m c:Nat):Int):=by omega
  have kp:=YH (4+s.sh) s.big (s.m c) (by omega) (by omega)
  have d1:((s.tab.getD c 0:Nat):Int).tdiv 32=((s.tab.getD c 0 / 32:Nat):Int):=by rw [Int.tdiv_eq_ediv_of_nonneg (Int.natCast_nonneg _)];rfl
  have d2:((s.tab.getD c 0:Nat):Int) - ((s.tab.getD c 0 / 32:Nat):Int)=((Ac (s.tab.getD c 0) true:Nat):Int):=by
   have:Ac (s.tab.getD c 0) true=s.tab.getD c 0 - s.tab.getD c 0 / 32:=rfl
   omega
  (repeat' with_reducible first|intro _|exact dn|refine rn ?_|refine ra ?_ ?_)
  refine ah.i [2] kp 1 ?_
  (repeat' with_reducible first|intro _|refine rz ?_|refine ra ?_ ?_|omega|simp only [go_sem,hspI])
  refine aN.lex [11] [] (by kernel_rfl) (by kernel_rfl) ?_
  (repeat' with_reducible first|intro _|refine rz ?_|refine ra ?_ ?_|omega|simp only [go_sem,hg,hgl,hlen,d1,d2,hset])
  refine aF.intro (fun r:AE=>⟨88,[(29,.int .i64 x),(28,.int .i64 w),(7,.int .i64 y),(24,.int .i64 y),(23,.int .i64 h),(6,.int .i64 r.span),(5,.own 2),(3,.own 1),(1,.ptr 0 0)],[(0,.box 24 [.int .i64 w,.int .i64 h,.ro (.bools p)]),(1,.row 3 (.ints .i64 (iO r.tab))),(2,.row 5 (.ints .u8 (aj (bV (4+r.sh) r.big))))],3⟩) (fun r=>r=M∨r=M.norm) (fun r=>if r.span<16777216 then 1 else 0) M ?_ (.inl rfl) fun r hr=>?_
  ·refine aK.ak rfl ?_ ?_<;>simp only [go_sem,Int.natCast_succ,hMs0,hMt,hMh,hMb0]
  by_cases hs2:r.span<16777216
  ·have hrM:r=M:=hr.resolve_right fun e=>by rw [e] at hs2;omega
   subst hrM
   have hnm:r.norm=⟨r.big*256,r.span*256,r.sh+1,r.tab⟩:=by unfold AE.norm;rw [if_pos hs2]
   have f5:((r.span:Int)<16777216)=True:=eq_true (by omega)
   have hol:(aj (bV (4+r.sh) r.big)).length=4+r.sh:=by rw [cZ,aQ]
   have hss:(r.span:Int)*256=((r.span*256:Nat):Int):=by omega
   have hout2:aj (bV (4+r.sh) r.big)++[0]=aj (bV (4+(r.sh+1)) (r.big*256)):=by
    rw [←Nat.add_assoc,gY,nX,Nat.mul_div_cancel _ (by decide)]
    congr 1
    have:UInt8.ofNat (r.big*256)=0:=UInt8.toNat_inj.1 (by simp)
    rw [this];rfl
   (repeat' with_reducible first|intro _|refine rz ?_|refine ra ?_ ?_|omega|simp only [go_sem,f5,hol,hss])
   refine ⟨r.norm,aK.ak rfl ?_ ?_,.inr rfl,?_⟩
   ·simp only [go_sem,Int.natCast_succ,hnm]
    all_goals first|rfl|omega
   ·simp only [go_sem,Int.natCast_succ,hnm,hout2]
   ·rw [if_pos hs2,if_neg (by omega)];omega
  ·have hrn:r=M.norm:=by
    rcases hr with e|e
    ·rw [e] at hs2 ⊢;unfold AE.norm;rw [if_neg hs2]
    ·exact e
   have f5:((r.span:Int)<16777216)=False:=eq_false (by omega)
   rw [←hrn] at hnext
   (repeat' with_reducible first|intro _|refine rz ?_|refine ra ?_ ?_|omega|simp only [go_sem,f5])
   refine ⟨x+1,aK.ak rfl ?_ ?_,by omega,by omega⟩<;>simp only [go_sem,Int.natCast_succ,hnext]
 | false=>
  rw [if_neg (by decide)] at hMs0 hMb0
  have d1:(4096 - ((s.tab.getD c 0:Nat):Int)).tdiv 32=(((4096 - s.tab.getD c 0) / 32:Nat):Int):=by rw [Int.tdiv_eq_ediv_of_nonneg (by omega)];omega
  have d2:((s.tab.getD c 0:Nat):Int)+(((4096 - s.tab.getD c 0) / 32:Nat):Int)=((Ac (s.tab.getD c 0) false:Nat):Int):=by
   have:Ac (s.tab.getD c 0) false=s.tab.getD c 0+(4096 - s.tab.getD c 0) / 32:=rfl
   omega
  (repeat' with_reducible first|intro _|exact dn|refine rn ?_|refine ra ?_ ?_)
  refine aN.lex [12] [] (by kernel_rfl) (by kernel_rfl) ?_
  (repeat' with_reducible first|intro _|refine rz ?_|refine ra ?_ ?_|omega|simp only [go_sem,hg,hgl,hlen,d1,d2,hset])
  refine aF.intro (fun r:AE=>⟨88,[(29,.int .i64 x),(28,.int .i64 w),(7,.int .i64 y),(24,.int .i64 y),(23,.int .i64 h),(6,.int .i64 r.span),(5,.own 2),(3,.own 1),(1,.ptr 0 0)],[(0,.box 24 [.int .i64 w,.int .i64 h,.ro (.bools p)]),(1,.row 3 (.ints .i64 (iO r.tab))),(2,.row 5 (.ints .u8 (aj (bV (4+r.sh) r.big))))],3⟩) (fun r=>r=M∨r=M.norm) (fun r=>if r.span<16777216 then 1 else 0) M ?_ (.inl rfl) fun r hr=>?_
  ·refine aK.ak rfl ?_ ?_<;>simp only [go_sem,Int.natCast_succ,hMs0,hMt,hMh,hMb0]
  by_cases hs2:r.span<16777216
  ·have hrM:r=M:=hr.resolve_right fun e=>by rw [e] at hs2;omega
   subst hrM
   have hnm:r.norm=⟨r.big*256,r.span*256,r.sh+1,r.tab⟩:=by unfold AE.norm;rw [if_pos hs2]
   have f5:((r.span:Int)<16777216)=True:=eq_true (by omega)
   have hol:(aj (bV (4+r.sh) r.big)).length=4+r.sh:=by rw [cZ,aQ]
   have hss:(r.span:Int)*256=((r.span*256:Nat):Int):=by omega
   have hout2:aj (bV (4+r.sh) r.big)++[0]=aj (bV (4+(r.sh+1)) (r.big*256)):=by
    rw [←Nat.add_assoc,gY,nX,Nat.mul_div_cancel _ (by decide)]
    congr 1
    have:UInt8.ofNat (r.big*256)=0:=UInt8.toNat_inj.1 (by simp)
    rw [this];rfl
   (repeat' with_reducible first|intro _|refine rz ?_|refine ra ?_ ?_|omega|simp only [go_sem,f5,hol,hss])
   refine ⟨r.norm,aK.ak rfl ?_ ?_,.inr rfl,?_⟩
   ·simp only [go_sem,Int.natCast_succ,hnm]
    all_goals first|rfl|omega
   ·simp only [go_sem,Int.natCast_succ,hnm,hout2]
   ·rw [if_pos hs2,if_neg (by omega)];omega
  ·have hrn:r=M.norm:=by
    rcases hr with e|e
    ·rw [e] at hs2 ⊢;unfold AE.norm;rw [if_neg hs2]
    ·exact e
   have f5:((r.span:Int)<16777216)=False:=eq_false (by omega)
   rw [←hrn] at hnext
   (repeat' with_reducible first|intro _|refine rz ?_|refine ra ?_ ?_|omega|simp only [go_sem,f5])
   refine ⟨x+1,aK.ak rfl ?_ ?_,by omega,by omega⟩<;>simp only [go_sem,Int.natCast_succ,hnext]
end Go.Fv.H
/- The reference's Encode: the walk. -/
namespace Go.Fv.H
open Go Go.Proofs
theorem O1 {p:List Bool} {i:Nat} (h:i<p.length):fZ (p.take (i+1))=fZ (p.take i)++[if p.getD i false=true then 49 else 48]:=by
 unfold fZ;rw [List.take_succ_eq_append_getElem h,List.map_append,getD_lt h];rfl
structure EX where
 i:Nat
 u:Bool
set_option maxHeartbeats 32000000 in
theorem nS (w h:Nat) (hw0:0<w) (hw:w≤4000) (hh:h≤4000) (hwh:w*h≤1048576) (p:List Bool) (hp:p.length=w*h) (kind:Int) (hk:1≤kind∧kind≤4) :
  aA Tryz.prog 13 [.agg [.int .i64 w,.int .i64 h,.ro (.bools p)],.int .i64 kind] (.str (dY w h p kind)) []:=by
 have hdl:=Hq hw hh hwh hp kind
 have n2:=qR (w:Int) w 2 (.inl rfl) (by omega) (by omega) (by decide)
 have n3:=qR (h:Int) h 2 (.inl rfl) (by omega) (by omega) (by decide)
 have n4:=qR ((bU w h p kind).length:Int) (bU w h p kind).length 4 (.inl rfl) (by omega) (by omega) (by decide)
 rw [show ((2:Nat):Int)=2 from rfl] at n2 n3
 rw [show ((4:Nat):Int)=4 from rfl] at n4
 have henc:dY w h p kind=headB w h p kind++bY (headB w h p kind):=rfl
 have hhead:headB w h p kind=bV 1 kind.toNat++bV 2 w++bV 2 h++bV 4 (bU w h p kind).length++bU w h p kind:=rfl
 have hx1:bV 1 kind.toNat=[UInt8.ofNat kind.toNat]:=by
  have:kind=1∨kind=2∨kind=3∨kind=4:=by omega
  rcases this with rfl|rfl|rfl|rfl<;>rfl
 have hwk:IntKind.u8.wrap kind=kind:=by rw [lu];omega
 have hhl:(headB w h p kind).length=9+(bU w h p kind).length:=by
  rw [hhead];simp only [List.length_append,aQ]
 have ks:=iC (headB w h p kind) (by omega)
 have hsl:=mJ (headB w h p kind)
 rw [henc]
 have l2:=aQ 2 w
 have l3:=aQ 2 h
 have l4:=aQ 4 (bU w h p kind).length
 have e1:kind=1→bU w h p kind=jJ (fZ p):=fun c=>if_pos c
 have e4:kind=4→bU w h p kind=sV w h p:=fun c=>by unfold bU;rw [if_neg (by omega),if_pos c]
 have e2:kind=2→bU w h p kind=jJ (je w p h):=fun c=>by unfold bU;rw [if_neg (by omega),if_neg (by omega),if_pos c]
 have e3:kind=3→bU w h p kind=jJ (eU w p h):=fun c=>by unfold bU;rw [if_neg (by omega),if_neg (by omega),if_neg (by omega)]
 generalize headB w h p kind=hd at *
 rw [hx1] at hhead
 simp only [List.cons_append,List.nil_append] at hhead
 clear hx1
 generalize bV 2 w=x2 at *
 generalize bV 2 h=x3 at *
 generalize bV 4 (bU w h p kind).length=x4 at *
 generalize bU w h p kind=dt at *
 have b1:41*(w+1)*h≤100000000:=by
  have:(w+1)*h≤1052576:=by rw [Nat.add_mul,Nat.one_mul];omega
  rw [Nat.mul_assoc];omega
 have b2:100*(w+1)*h≤200000000:=by
  have:(w+1)*h≤1052576:=by rw [Nat.add_mul,Nat.one_mul];omega
  rw [Nat.mul_assoc];omega
 refine aA.aG Tryz.func13 rfl (by decide) (by simp [Tryz.f13]) [.tmp 4] rfl fun w0 T0 _=>?_
 simp only [Tryz.f13,au]
 by_cases c1:kind=1
 ·have hdt:=e1 c1
  have g1:(kind=1)=True:=eq_true c1
  have hlen:p.length≤1048576:=by omega
  have h01:=Lm p
  have htl:fZ (p.take p.length)=fZ p:=by rw [List.take_length]
  (repeat' with_reducible first|intro _|refine rz ?_|refine ra ?_ ?_|omega|simp only [go_sem,g1])
  refine aF.intro (fun x:EX=>⟨98,[(22,.int .i64 x.i),(21,.int .i64 p.length),(20,.ro (.bools p)),(5,.ptr 1 0),(2,.ptr 0 0),(1,.int .i64 kind)],(0,.box 24 [.int .i64 w,.int .i64 h,.ro (.bools p)])::(bif x.u then [(1,.box 89 [.ptr 1 0,.own 2]),(2,.row 5 (.ints .u8 (aj (fZ (p.take x.i)))))] else [(1,.box 89 [.raw (.pointer none),.nilS])]),bif x.u then 3 else 2⟩) (fun x=>x.i≤p.length∧BU (fZ (p.take x.i)) x.u) (fun x=>p.length - x.i) ⟨0,false⟩ ?_ ⟨Nat.zero_le _,fun h=>by (cases h),fun _=>rfl⟩ fun x hx=>?_
  ·refine aK.ak rfl ?_ ?_<;>simp only [go_sem,Int.natCast_succ]
   all_goals first|rfl|exact ⟨rfl,rfl⟩
  obtain ⟨i,u⟩:=x
  obtain ⟨hi,hu1,hu2⟩:=hx
  dsimp only at hi hu1 hu2 ⊢
  by_cases hlt:i<p.length
  rotate_left
  ·have f1:((i:Int)<(p.length:Int))=False:=eq_false (by omega)
   have e:i=p.length:=by omega
   subst e
   rw [htl] at hu1 hu2 ⊢
   have k2:=uz (fZ p) h01 (by rw [jT];omega)
   have hcs:u=true∨u=false:=by cases u<;>simp
   rcases hcs with rfl|rfl
   case' inl=>
    have kst:=gB (fZ p) (hu1 rfl)
    simp only [cond_true,cond_false,List.cons_append,List.nil_append]
    (repeat' with_reducible first|intro _|refine rz ?_|refine ra ?_ ?_|omega|simp only [go_sem,f1])
    refine ah.i [1,2] kst 2 ?_
    (repeat' with_reducible first|intro _|exact dn|refine rn ?_|refine ra ?_ ?_)
    refine ah.k k2 ?_
    (repeat' with_reducible first|intro _|exact dn|refine rn ?_|refine ra ?_ ?_)
    rw [←hdt]
   case' inr=>
    have hz:=hu2 rfl
    rw [hz] at k2
    have kst:=gQ
    simp only [cond_true,cond_false,List.cons_append,List.nil_append]
    (repeat' with_reducible first|intro _|refine rz ?_|refine ra ?_ ?_|omega|simp only [go_sem,f1])
    refine ah.i [1] kst 1 ?_
    (repeat' with_reducible first|intro _|exact dn|refine rn ?_|refine ra ?_ ?_)
    refine ah.k k2 ?_
    (repeat' with_reducible first|intro _|exact dn|refine rn ?_|refine ra ?_ ?_)
    rw [hz] at hdt
    rw [←hdt]
   all_goals
    refine aN.lex [2] [(4,[0]),(5,[0]),(6,[0]),(8,[0]),(9,[0]),(10,[0]),(12,[0]),(13,[0]),(14,[0]),(16,[0])] (by kernel_rfl) (by kernel_rfl) ?_
    (repeat' with_reducible first|intro _|refine rz ?_|refine ra ?_ ?_|omega|simp only [go_sem,hwk])
    (refine QV.intro (.str x2) ?_ ?_;focus ((repeat' with_reducible first|intro _|exact dn|refine rn ?_|refine ra ?_ ?_);refine ah.k (n2) ?_;(repeat' with_reducible first|intro _|exact dn|refine rn ?_|refine ra ?_ ?_)))
    (repeat' with_reducible first|intro _|exact dn|refine rn ?_|refine ra ?_ ?_)
    (refine QV.intro (.str x3) ?_ ?_;focus ((repeat' with_reducible first|intro _|exact dn|refine rn ?_|refine ra ?_ ?_);refine ah.k (n3) ?_;(repeat' with_reducible first|intro _|exact dn|refine rn ?_|refine ra ?_ ?_)))
    (repeat' with_reducible first|intro _|exact dn|refine rn ?_|refine ra ?_ ?_)
    (refine QV.intro (.str x4) ?_ ?_;focus ((repeat' with_reducible first|intro _|exact dn|refine rn ?_|refine ra ?_ ?_);refine ah.k (n4) ?_;(repeat' with_reducible first|intro _|exact dn|refine rn ?_|refine ra ?_ ?_)))
    (repeat' with_reducible first|intro _|exact dn|refine rn ?_|refine ra ?_ ?_)
    ·refine ah.k n4 ?_
     (repeat' with_reducible first|intro _|exact dn|refine rn ?_|refine ra ?_ ?_)
    ·refine ah.k n3 ?_
     (repeat' with_reducible first|intro _|exact dn|refine rn ?_|refine ra ?_ ?_)
    ·refine ah.k n2 ?_
     (repeat' with_reducible first|intro _|exact dn|refine rn ?_|refine ra ?_ ?_)
    rw [←hhead]
    refine ah.k ks ?_
    (repeat' with_reducible first|intro _|exact dn|refine rn ?_|refine ra ?_ ?_)
    refine aU.auto 0 ?_ rfl ?_<;>simp only [go_sem,Int.natCast_succ,Post]
  have f1:((i:Int)<(p.length:Int))=True:=eq_true (by omega)
  have htk:=O1 hlt
  have hbl:(fZ (p.take i)).length≤1048576:=by rw [jT,List.length_take];omega
  have kb:=Zt (p.getD i false)
  generalize fZ (p.take i)=o0 at *
  have q49:(((49:UInt8).toNat:Nat):Int)=49:=rfl
  have q48:(((48:UInt8).toNat:Nat):Int)=48:=rfl
  cases hpv:p.getD i false with
  | true=>
   rw [hpv] at kb htk
   rw [if_pos rfl] at kb htk
   cases u with
   | true=>
    have kw2:=pU o0 49 (by omega)
    rw [q49] at kw2
    simp only [cond_true,cond_false,List.cons_append,List.nil_append]
    (repeat' with_reducible first|intro _|refine rz ?_|refine ra ?_ ?_|omega|simp only [go_sem,f1,hpv])
    refine ah.k kb ?_
    (repeat' with_reducible first|intro _|exact dn|refine rn ?_|refine ra ?_ ?_)
    refine ah.i [1,2] kw2 3 ?_
    (repeat' with_reducible first|intro _|exact dn|refine rn ?_|refine ra ?_ ?_)
    refine ⟨⟨i+1,true⟩,aK.ak rfl ?_ ?_,⟨by dsimp only;omega,fun _=>by dsimp only;rw [htk,List.length_append];simp,fun h=>by (cases h)⟩,by dsimp only;omega⟩<;>simp only [go_sem,Int.natCast_succ,htk]
    all_goals first|rfl|exact ⟨rfl,rfl⟩
   | false=>
    have hz:=hu2 rfl
    have kw2:=nN 49
    rw [q49] at kw2
    simp only [cond_true,cond_false,List.cons_append,List.nil_append]
    (repeat' with_reducible first|intro _|refine rz ?_|refine ra ?_ ?_|omega|simp only [go_sem,f1,hpv])
    refine ah.k kb ?_
    (repeat' with_reducible first|intro _|exact dn|refine rn ?_|refine ra ?_ ?_)
    refine ah.i [1] kw2 2 ?_
    (repeat' with_reducible first|intro _|exact dn|refine rn ?_|refine ra ?_ ?_)
    rw [hz,List.nil_append] at htk
    refine ⟨⟨i+1,true⟩,aK.ak rfl ?_ ?_,⟨by dsimp only;omega,fun _=>by dsimp only;rw [htk];simp,fun h=>by (cases h)⟩,by dsimp only;omega⟩<;>simp only [go_sem,Int.natCast_succ,htk]
    all_goals first|rfl|exact ⟨rfl,rfl⟩
  | false=>
   rw [hpv] at kb htk
   rw [if_neg (by decide)] at kb htk
   cases u with
   | true=>
    have kw2:=pU o0 48 (by omega)
    rw [q48] at kw2
    simp only [cond_true,cond_false,List.cons_append,List.nil_append]
    (repeat' with_reducible first|intro _|refine rz ?_|refine ra ?_ ?_|omega|simp only [go_sem,f1,hpv])
    refine ah.k kb ?_
    (repeat' with_reducible first|intro _|exact dn|refine rn ?_|refine ra ?_ ?_)
    refine ah.i [1,2] kw2 3 ?_
    (repeat' with_reducible first|intro _|exact dn|refine rn ?_|refine ra ?_ ?_)
    refine ⟨⟨i+1,true⟩,aK.ak rfl ?_ ?_,⟨by dsimp only;omega,fun _=>by dsimp only;rw [htk,List.length_append];simp,fun h=>by (cases h)⟩,by dsimp only;omega⟩<;>simp only [go_sem,Int.natCast_succ,htk]
    all_goals first|rfl|exact ⟨rfl,rfl⟩
   | false=>
    have hz:=hu2 rfl
    have kw2:=nN 48
    rw [q48] at kw2
    simp only [cond_true,cond_false,List.cons_append,List.nil_append]
    (repeat' with_reducible first|intro _|refine rz ?_|refine ra ?_ ?_|omega|simp only [go_sem,f1,hpv])
    refine ah.k kb ?_
    (repeat' with_reducible first|intro _|exact dn|refine rn ?_|refine ra ?_ ?_)
    refine ah.i [1] kw2 2 ?_
    (repeat' with_reducible first|intro _|exact dn|refine rn ?_|refine ra ?_ ?_)
    rw [hz,List.nil_append] at htk
    refine ⟨⟨i+1,true⟩,aK.ak rfl ?_ ?_,⟨by dsimp only;omega,fun _=>by dsimp only;rw [htk];simp,fun h=>by (cases h)⟩,by dsimp only;omega⟩<;>simp only [go_sem,Int.natCast_succ,htk]
    all_goals first|rfl|exact ⟨rfl,rfl⟩
 have g1:(kind=1)=False:=eq_false c1
 by_cases c2:kind=2
 ·have hdt:=e2 c2
  have g2:(kind=2)=True:=eq_true c2
  have bl:=vO hw hp
  have h01:=N8 w p h
  (repeat' with_reducible first|intro _|refine rz ?_|refine ra ?_ ?_|omega|simp only [go_sem,g1,g2])
  refine aF.intro (fun x:EX=>⟨98,[(37,.int .i64 x.i),(36,.int .i64 h),(5,.ptr 1 0),(2,.ptr 0 0),(1,.int .i64 kind)],(0,.box 24 [.int .i64 w,.int .i64 h,.ro (.bools p)])::(bif x.u then [(1,.box 89 [.ptr 1 0,.own 2]),(2,.row 5 (.ints .u8 (aj (je w p x.i))))] else [(1,.box 89 [.raw (.pointer none),.nilS])]),bif x.u then 3 else 2⟩) (fun x=>x.i≤h∧BU (je w p x.i) x.u) (fun x=>h - x.i) ⟨0,false⟩ ?_ ⟨Nat.zero_le _,fun h=>by (cases h),fun _=>rfl⟩ fun x hx=>?_
  ·refine aK.ak rfl ?_ ?_<;>simp only [go_sem,Int.natCast_succ]
   all_goals first|rfl|exact ⟨rfl,rfl⟩
  obtain ⟨y,u⟩:=x
  obtain ⟨hy,hu1,hu2⟩:=hx
  dsimp only at hy hu1 hu2 ⊢
  have hbly:=bl y hy
  have hmy:41*(w+1)*y≤41*(w+1)*h:=Nat.mul_le_mul_left _ hy
  by_cases hylt:y<h
  rotate_left
  ·have f1:((y:Int)<(h:Int))=False:=eq_false (by omega)
   have e:y=h:=by omega
   subst e
   have k2:=uz (je w p y) h01 (by omega)
   have hcs:u=true∨u=false:=by cases u<;>simp
   rcases hcs with rfl|rfl
   case' inl=>
    have kst:=gB (je w p y) (hu1 rfl)
    simp only [cond_true,cond_false,List.cons_append,List.nil_append]
    (repeat' with_reducible first|intro _|refine rz ?_|refine ra ?_ ?_|omega|simp only [go_sem,f1])
    refine ah.i [1,2] kst 2 ?_
    (repeat' with_reducible first|intro _|exact dn|refine rn ?_|refine ra ?_ ?_)
    refine ah.k k2 ?_
    (repeat' with_reducible first|intro _|exact dn|refine rn ?_|refine ra ?_ ?_)
    rw [←hdt]
   case' inr=>
    have hz:=hu2 rfl
    rw [hz] at k2
    have kst:=gQ
    simp only [cond_true,cond_false,List.cons_append,List.nil_append]
    (repeat' with_reducible first|intro _|refine rz ?_|refine ra ?_ ?_|omega|simp only [go_sem,f1])
    refine ah.i [1] kst 1 ?_
    (repeat' with_reducible first|intro _|exact dn|refine rn ?_|refine ra ?_ ?_)
    refine ah.k k2 ?_
    (repeat' with_reducible first|intro _|exact dn|refine rn ?_|refine ra ?_ ?_)
    rw [hz] at hdt
    rw [←hdt]
   all_goals
    refine aN.lex [2] [(4,[0]),(5,[0]),(6,[0]),(8,[0]),(9,[0]),(10,[0]),(12,[0]),(13,[0]),(14,[0]),(16,[0])] (by kernel_rfl) (by kernel_rfl) ?_
    (repeat' with_reducible first|intro _|refine rz ?_|refine ra ?_ ?_|omega|simp only [go_sem,hwk])
    (refine QV.intro (.str x2) ?_ ?_;focus ((repeat' with_reducible first|intro _|exact dn|refine rn ?_|refine ra ?_ ?_);refine ah.k (n2) ?_;(repeat' with_reducible first|intro _|exact dn|refine rn ?_|refine ra ?_ ?_)))
    (repeat' with_reducible first|intro _|exact dn|refine rn ?_|refine ra ?_ ?_)
    (refine QV.intro (.str x3) ?_ ?_;focus ((repeat' with_reducible first|intro _|exact dn|refine rn ?_|refine ra ?_ ?_);refine ah.k (n3) ?_;(repeat' with_reducible first|intro _|exact dn|refine rn ?_|refine ra ?_ ?_)))
    (repeat' with_reducible first|intro _|exact dn|refine rn ?_|refine ra ?_ ?_)
    (refine QV.intro (.str x4) ?_ ?_;focus ((repeat' with_reducible first|intro _|exact dn|refine rn ?_|refine ra ?_ ?_);refine ah.k (n4) ?_;(repeat' with_reducible first|intro _|exact dn|refine rn ?_|refine ra ?_ ?_)))
    (repeat' with_reducible first|intro _|exact dn|refine rn ?_|refine ra ?_ ?_)
    ·refine ah.k n4 ?_
     (repeat' with_reducible first|intro _|exact dn|refine rn ?_|refine ra ?_ ?_)
    ·refine ah.k n3 ?_
     (repeat' with_reducible first|intro _|exact dn|refine rn ?_|refine ra ?_ ?_)
    ·refine ah.k n2 ?_
     (repeat' with_reducible first|intro _|exact dn|refine rn ?_|refine ra ?_ ?_)
    rw [←hhead]
    refine ah.k ks ?_
    (repeat' with_reducible first|intro _|exact dn|refine rn ?_|refine ra ?_ ?_)
    refine aU.auto 0 ?_ rfl ?_<;>simp only [go_sem,Int.natCast_succ,Post]
  have f1:((y:Int)<(h:Int))=True:=eq_true (by omega)
  have hl:=iD hp hylt
  have kr:=FC w h hw hh p hp y hylt
  have kn:=Qn (rowP w p y) (by omega)
  obtain ⟨n1,n2'⟩:=vN (rowP w p y)
  have hsucc:=rZ w p y
  have hbly2:=bl (y+1) (by omega)
  have hrr:(bD (rowP w p y) (rowP w p y).length).1=iY (rowP w p y):=rfl
  rw [hrr] at kn
  generalize hL:iY (rowP w p y)=L at *
  generalize rowP w p y=rw_ at *
  generalize je w p y=o0 at *
  (repeat' with_reducible first|intro _|refine rz ?_|refine ra ?_ ?_|omega|simp only [go_sem,f1])
  refine ah.UE (.ro (.bools rw_)) kr (by simp only [aI,aS,bH,aV,aH,List.drop_zero,lk,reduceIte,reduceCtorEq,Nat.reduceEqDiff,Option.some.injEq,Item.row.injEq,Item.box.injEq,AV.ro.injEq,exists_eq_left,exists_and_left,exists_eq_left',exists_eq_right,and_assoc,and_true,true_and,List.cons.injEq,exists_eq',exists_eq]) (by simp [dJ,aS,aV,bH,aH,lk,aI]) rfl ?_
  (repeat' with_reducible first|intro _|exact dn|refine rn ?_|refine ra ?_ ?_)
  refine ah.ro (.ro (.ints .i64 L)) (cO.eY kn rfl (by simp [fQ,fP,jh,iQ,lG])) (by simp only [aI,aS,bH,aV,aH,List.drop_zero,lk,reduceIte,reduceCtorEq,Nat.reduceEqDiff,Option.some.injEq,Item.row.injEq,Item.box.injEq,AV.ro.injEq,exists_eq_left,exists_and_left,exists_eq_left',exists_eq_right,and_assoc,and_true,true_and,List.cons.injEq,exists_eq',exists_eq]) (by simp [dJ,aS,aV,bH,aH,lk,aI]) rfl ?_
  (repeat' with_reducible first|intro _|exact dn|refine rn ?_|refine ra ?_ ?_)
  refine aF.intro (fun x:EX=>⟨98,[(45,.int .i64 x.i),(44,.int .i64 L.length),(43,.ro (.ints .i64 L)),(37,.int .i64 y),(36,.int .i64 h),(5,.ptr 1 0),(2,.ptr 0 0),(1,.int .i64 kind)],(0,.box 24 [.int .i64 w,.int .i64 h,.ro (.bools p)])::(bif x.u then [(1,.box 89 [.ptr 1 0,.own 2]),(2,.row 5 (.ints .u8 (aj (o0++dM (L.take x.i)))))] else [(1,.box 89 [.raw (.pointer none),.nilS])]),bif x.u then 3 else 2⟩) (fun x=>x.i≤L.length∧BU (o0++dM (L.take x.i)) x.u) (fun x=>L.length - x.i) ⟨0,u⟩ ?_ ⟨Nat.zero_le _,by
   have e:o0++dM (L.take 0)=o0:=by simp [dM]
   rw [e];exact ⟨hu1,hu2⟩⟩ fun x hx=>?_
  ·have e:dM []=[]:=rfl
   cases u<;>(simp only [cond_true,cond_false];refine aK.ak rfl ?_ ?_<;>simp only [go_sem,Int.natCast_succ,e])
   all_goals first|rfl|exact ⟨rfl,rfl⟩
  obtain ⟨j,v⟩:=x
  obtain ⟨hj,hv1,hv2⟩:=hx
  dsimp only at hj hv1 hv2 ⊢
  have hgl:(dM (L.take j)).length≤41*4001:=by
   have h1:=Au (l:=L.take j) fun x hx=>by have:=n2' x (List.mem_of_mem_take hx);omega
   have h2:(L.take j).length≤4001:=by rw [List.length_take];omega
   omega
  have hbq:41*(w+1)*y≤100000000:=by omega
  by_cases hjlt:j<L.length
  rotate_left
  ·have fj:((j:Int)<(L.length:Int))=False:=eq_false (by omega)
   have hjl:L.take j=L:=List.take_of_length_le (by omega)
   rw [hjl] at hv1 hv2 ⊢
   cases v <;>
    (simp only [cond_true,cond_false,List.cons_append,List.nil_append]
     (repeat' with_reducible first|intro _|refine rz ?_|refine ra ?_ ?_|omega|simp only [go_sem,fj]))
   ·refine ⟨⟨y+1,false⟩,aK.ak rfl ?_ ?_,⟨by dsimp only;omega,by rw [hsucc];exact ⟨hv1,hv2⟩⟩,by dsimp only;omega⟩<;>simp only [go_sem,Int.natCast_succ,hsucc]
    all_goals first|rfl|exact ⟨rfl,rfl⟩
   ·refine ⟨⟨y+1,true⟩,aK.ak rfl ?_ ?_,⟨by dsimp only;omega,by rw [hsucc];exact ⟨hv1,hv2⟩⟩,by dsimp only;omega⟩<;>simp only [go_sem,Int.natCast_succ,hsucc]
    all_goals first|rfl|exact ⟨rfl,rfl⟩
  have fj:((j:Int)<(L.length:Int))=True:=eq_true (by omega)
  have htk:=FH hjlt
  have hnb:=n2' (L.getD j 0) (by rw [getD_lt hjlt];exact List.getElem_mem hjlt)
  have kg:=fJ (L.getD j 0+1).toNat (by omega)
  rw [show (((L.getD j 0+1).toNat:Nat):Int)=L.getD j 0+1 by omega] at kg
  have hgp:=RN (L.getD j 0+1).toNat
  have hgs:=dI (n:=(L.getD j 0+1).toNat) (by omega)
  generalize dV (L.getD j 0+1).toNat=g at *
  generalize hn0:L.getD j 0=n0 at *
  cases v with
  | true=>
   have kw2:=eF (o0++dM (L.take j)) g (by rw [List.length_append];omega) (by omega)
   simp only [cond_true,cond_false,List.cons_append,List.nil_append]
   (repeat' with_reducible first|intro _|refine rz ?_|refine ra ?_ ?_|omega|simp only [go_sem,fj,hn0])
   refine ah.k kg ?_
   (repeat' with_reducible first|intro _|exact dn|refine rn ?_|refine ra ?_ ?_)
   refine ah.i [1,2] kw2 3 ?_
   (repeat' with_reducible first|intro _|exact dn|refine rn ?_|refine ra ?_ ?_)
   refine ⟨⟨j+1,true⟩,aK.ak rfl ?_ ?_,⟨by dsimp only;omega,fun _=>by dsimp only;rw [htk,List.length_append,List.length_append];omega,fun h=>by (cases h)⟩,by dsimp only;omega⟩<;>simp only [go_sem,Int.natCast_succ,htk,List.append_assoc]
   all_goals first|rfl|exact ⟨rfl,rfl⟩
  | false=>
   have hz:=hv2 rfl
   have kw2:=gG g (by omega)
   simp only [cond_true,cond_false,List.cons_append,List.nil_append]
   (repeat' with_reducible first|intro _|refine rz ?_|refine ra ?_ ?_|omega|simp only [go_sem,fj,hn0])
   refine ah.k kg ?_
   (repeat' with_reducible first|intro _|exact dn|refine rn ?_|refine ra ?_ ?_)
   refine ah.i [1] kw2 2 ?_
   (repeat' with_reducible first|intro _|exact dn|refine rn ?_|refine ra ?_ ?_)
   have hz2:o0++dM (L.take (j+1))=g:=by rw [htk,←List.append_assoc,hz,List.nil_append]
   refine ⟨⟨j+1,true⟩,aK.ak rfl ?_ ?_,⟨by dsimp only;omega,fun _=>by dsimp only;rw [hz2];omega,fun h=>by (cases h)⟩,by dsimp only;omega⟩<;>simp only [go_sem,Int.natCast_succ,hz2]
   all_goals first|rfl|exact ⟨rfl,rfl⟩
 have g2:(kind=2)=False:=eq_false c2
 by_cases c4:kind=4
 ·have hdt:=e4 c4
  have k1:=Fb w h hw0 hw hh hwh p hp
  rw [←hdt] at k1
  have g3:(kind=3)=False:=eq_false (by omega)
  (repeat' with_reducible first|intro _|refine rz ?_|refine ra ?_ ?_|omega|simp only [go_sem,g1,g2,g3])
  refine ah.k k1 ?_
  (repeat' with_reducible first|intro _|exact dn|refine rn ?_|refine ra ?_ ?_)
  refine aN.lex [2] [(4,[0]),(5,[0]),(6,[0]),(8,[0]),(9,[0]),(10,[0]),(12,[0]),(13,[0]),(14,[0]),(16,[0])] (by kernel_rfl) (by kernel_rfl) ?_
  (repeat' with_reducible first|intro _|refine rz ?_|refine ra ?_ ?_|omega|simp only [go_sem,hwk])
  (refine QV.intro (.str x2) ?_ ?_;focus ((repeat' with_reducible first|intro _|exact dn|refine rn ?_|refine ra ?_ ?_);refine ah.k (n2) ?_;(repeat' with_reducible first|intro _|exact dn|refine rn ?_|refine ra ?_ ?_)))
  (repeat' with_reducible first|intro _|exact dn|refine rn ?_|refine ra ?_ ?_)
  (refine QV.intro (.str x3) ?_ ?_;focus ((repeat' with_reducible first|intro _|exact dn|refine rn ?_|refine ra ?_ ?_);refine ah.k (n3) ?_;(repeat' with_reducible first|intro _|exact dn|refine rn ?_|refine ra ?_ ?_)))
  (repeat' with_reducible first|intro _|exact dn|refine rn ?_|refine ra ?_ ?_)
  (refine QV.intro (.str x4) ?_ ?_;focus ((repeat' with_reducible first|intro _|exact dn|refine rn ?_|refine ra ?_ ?_);refine ah.k (n4) ?_;(repeat' with_reducible first|intro _|exact dn|refine rn ?_|refine ra ?_ ?_)))
  (repeat' with_reducible first|intro _|exact dn|refine rn ?_|refine ra ?_ ?_)
  ·refine ah.k n4 ?_
   (repeat' with_reducible first|intro _|exact dn|refine rn ?_|refine ra ?_ ?_)
  ·refine ah.k n3 ?_
   (repeat' with_reducible first|intro _|exact dn|refine rn ?_|refine ra ?_ ?_)
  ·refine ah.k n2 ?_
   (repeat' with_reducible first|intro _|exact dn|refine rn ?_|refine ra ?_ ?_)
  rw [←hhead]
  refine ah.k ks ?_
  (repeat' with_reducible first|intro _|exact dn|refine rn ?_|refine ra ?_ ?_)
  refine aU.auto 0 ?_ rfl ?_<;>simp only [go_sem,Int.natCast_succ,Post]
 have c3:kind=3:=by omega
 have hdt:=e3 c3
 have g3:(kind=3)=True:=eq_true c3
 have bl:=rQ hw hp
 have h01:=Ie w h p hp
 (repeat' with_reducible first|intro _|refine rz ?_|refine ra ?_ ?_|omega|simp only [go_sem,g1,g2,g3])
 refine aF.intro (fun x:EX=>⟨98,[(61,.int .i64 x.i),(60,.int .i64 h),(5,.ptr 1 0),(2,.ptr 0 0),(1,.int .i64 kind)],(0,.box 24 [.int .i64 w,.int .i64 h,.ro (.bools p)])::(bif x.u then [(1,.box 89 [.ptr 1 0,.own 2]),(2,.row 5 (.ints .u8 (aj (eU w p x.i))))] else [(1,.box 89 [.raw (.pointer none),.nilS])]),bif x.u then 3 else 2⟩) (fun x=>x.i≤h∧BU (eU w p x.i) x.u) (fun x=>h - x.i) ⟨0,false⟩ ?_ ⟨Nat.zero_le _,fun h=>by (cases h),fun _=>rfl⟩ fun x hx=>?_
 ·refine aK.ak rfl ?_ ?_<;>simp only [go_sem,Int.natCast_succ]
  all_goals first|rfl|exact ⟨rfl,rfl⟩
 obtain ⟨y,u⟩:=x
 obtain ⟨hy,hu1,hu2⟩:=hx
 dsimp only at hy hu1 hu2 ⊢
 have hbly:=bl y hy
 have hmy:100*(w+1)*y≤100*(w+1)*h:=Nat.mul_le_mul_left _ hy
 by_cases hylt:y<h
 rotate_left
 ·have f1:((y:Int)<(h:Int))=False:=eq_false (by omega)
  have e:y=h:=by omega
  subst e
  have k2:=uz (eU w p y) (h01 y (Nat.le_refl _)) (by omega)
  have hcs:u=true∨u=false:=by cases u<;>simp
  rcases hcs with rfl|rfl
  case' inl=>
   have kst:=gB (eU w p y) (hu1 rfl)
   simp only [cond_true,cond_false,List.cons_append,List.nil_append]
   (repeat' with_reducible first|intro _|refine rz ?_|refine ra ?_ ?_|omega|simp only [go_sem,f1])
   refine ah.i [1,2] kst 2 ?_
   (repeat' with_reducible first|intro _|exact dn|refine rn ?_|refine ra ?_ ?_)
   refine ah.k k2 ?_
   (repeat' with_reducible first|intro _|exact dn|refine rn ?_|refine ra ?_ ?_)
   rw [←hdt]
  case' inr=>
   have hz:=hu2 rfl
   rw [hz] at k2
   have kst:=gQ
   simp only [cond_true,cond_false,List.cons_append,List.nil_append]
   (repeat' with_reducible first|intro _|refine rz ?_|refine ra ?_ ?_|omega|simp only [go_sem,f1])
   refine ah.i [1] kst 1 ?_
   (repeat' with_reducible first|intro _|exact dn|refine rn ?_|refine ra ?_ ?_)
   refine ah.k k2 ?_
   (repeat' with_reducible first|intro _|exact dn|refine rn ?_|refine ra ?_ ?_)
   rw [hz] at hdt
   rw [←hdt]
  all_goals
   refine aN.lex [2] [(4,[0]),(5,[0]),(6,[0]),(8,[0]),(9,[0]),(10,[0]),(12,[0]),(13,[0]),(14,[0]),(16,[0])] (by kernel_rfl) (by kernel_rfl) ?_
   (repeat' with_reducible first|intro _|refine rz ?_|refine ra ?_ ?_|omega|simp only [go_sem,hwk])
   (refine QV.intro (.str x2) ?_ ?_;focus ((repeat' with_reducible first|intro _|exact dn|refine rn ?_|refine ra ?_ ?_);refine ah.k (n2) ?_;(repeat' with_reducible first|intro _|exact dn|refine rn ?_|refine ra ?_ ?_)))
   (repeat' with_reducible first|intro _|exact dn|refine rn ?_|refine ra ?_ ?_)
   (refine QV.intro (.str x3) ?_ ?_;focus ((repeat' with_reducible first|intro _|exact dn|refine rn ?_|refine ra ?_ ?_);refine ah.k (n3) ?_;(repeat' with_reducible first|intro _|exact dn|refine rn ?_|refine ra ?_ ?_)))
   (repeat' with_reducible first|intro _|exact dn|refine rn ?_|refine ra ?_ ?_)
   (refine QV.intro (.str x4) ?_ ?_;focus ((repeat' with_reducible first|intro _|exact dn|refine rn ?_|refine ra ?_ ?_);refine ah.k (n4) ?_;(repeat' with_reducible first|intro _|exact dn|refine rn ?_|refine ra ?_ ?_)))
   (repeat' with_reducible first|intro _|exact dn|refine rn ?_|refine ra ?_ ?_)
   ·refine ah.k n4 ?_
    (repeat' with_reducible first|intro _|exact dn|refine rn ?_|refine ra ?_ ?_)
   ·refine ah.k n3 ?_
    (repeat' with_reducible first|intro _|exact dn|refine rn ?_|refine ra ?_ ?_)
   ·refine ah.k n2 ?_
    (repeat' with_reducible first|intro _|exact dn|refine rn ?_|refine ra ?_ ?_)
   rw [←hhead]
   refine ah.k ks ?_
   (repeat' with_reducible first|intro _|exact dn|refine rn ?_|refine ra ?_ ?_)
   refine aU.auto 0 ?_ rfl ?_<;>simp only [go_sem,Int.natCast_succ,Post]
 have f1:((y:Int)<(h:Int))=True:=eq_true (by omega)
 have hl:=iD hp hylt
 have hul:=Dq hp hylt
 have kr:=FC w h hw hh p hp y hylt
 have ku:(0<y∧aA Tryz.prog 59 [.agg [.int .i64 w,.int .i64 h,.ro (.bools p)],.int .i64 ((y:Int) - 1)] (.ro (.bools (sS w p y))) [])∨(y=0∧sS w p y=List.replicate w false):=by
  by_cases h0:y=0
  ·exact .inr ⟨h0,by unfold sS;rw [if_pos h0]⟩
  ·refine .inl ⟨by omega,?_⟩
   have e:sS w p y=rowP w p (y - 1):=by unfold sS;rw [if_neg h0]
   rw [e,show ((y:Int) - 1)=((y - 1:Nat):Int) by omega]
   exact FC w h hw hh p hp (y - 1) (by omega)
 have kuN:=UG w h hw p
 have kl:=Fe (rowP w p y) (sS w p y) (by omega) (by omega)
 have hll:=wY (row:=rowP w p y) (above:=sS w p y) (by omega) (by omega)
 have hlp:0<(eX (rowP w p y) (sS w p y)).length:=Ic (by omega) (by omega) (by omega)
 have hsucc:=pX w p y
 have hbly2:=bl (y+1) (by omega)
 generalize eX (rowP w p y) (sS w p y)=lb at *
 generalize rowP w p y=rw_ at *
 generalize hup0:sS w p y=ab at *
 generalize hlb0:eU w p y=o0 at *
 rcases ku with ⟨h0,ku⟩|⟨h0,ku⟩
 ·cases u with
  | true=>
   have kw2:=eF o0 lb (by omega) (by omega)
   simp only [cond_true,cond_false,List.cons_append,List.nil_append]
   (repeat' with_reducible first|intro _|refine rz ?_|refine ra ?_ ?_|omega|simp only [go_sem,f1])
   refine aN.lex [8] [] (by kernel_rfl) (by kernel_rfl) ?_
   (repeat' with_reducible first|intro _|exact dn|refine rn ?_|refine ra ?_ ?_)
   refine QV.intro (.ro (.bools rw_)) ?_ ?_
   ·(repeat' with_reducible first|intro _|exact dn|refine rn ?_|refine ra ?_ ?_)
    refine ah.UE (.ro (.bools rw_)) kr (by simp only [aI,aS,bH,aV,aH,List.drop_zero,lk,reduceIte,reduceCtorEq,Nat.reduceEqDiff,Option.some.injEq,Item.row.injEq,Item.box.injEq,AV.ro.injEq,exists_eq_left,exists_and_left,exists_eq_left',exists_eq_right,and_assoc,and_true,true_and,List.cons.injEq,exists_eq',exists_eq]) (by simp [dJ,aS,aV,bH,aH,lk,aI]) rfl ?_
    (repeat' with_reducible first|intro _|exact dn|refine rn ?_|refine ra ?_ ?_)
   (repeat' with_reducible first|intro _|exact dn|refine rn ?_|refine ra ?_ ?_)
   refine QV.intro (.ro (.bools ab)) ?_ ?_
   ·(repeat' with_reducible first|intro _|exact dn|refine rn ?_|refine ra ?_ ?_)
    refine ah.UE (.ro (.bools ab)) ku (by simp only [aI,aS,bH,aV,aH,List.drop_zero,lk,reduceIte,reduceCtorEq,Nat.reduceEqDiff,Option.some.injEq,Item.row.injEq,Item.box.injEq,AV.ro.injEq,exists_eq_left,exists_and_left,exists_eq_left',exists_eq_right,and_assoc,and_true,true_and,List.cons.injEq,exists_eq',exists_eq]) (by simp [dJ,aS,aV,bH,aH,lk,aI]) rfl ?_
    (repeat' with_reducible first|intro _|exact dn|refine rn ?_|refine ra ?_ ?_)
   (repeat' with_reducible first|intro _|exact dn|refine rn ?_|refine ra ?_ ?_)
   (refine QV.intro (.str lb) ?_ ?_;focus ((repeat' with_reducible first|intro _|exact dn|refine rn ?_|refine ra ?_ ?_);refine ah.k (kl) ?_;(repeat' with_reducible first|intro _|exact dn|refine rn ?_|refine ra ?_ ?_)))
   (repeat' with_reducible first|intro _|exact dn|refine rn ?_|refine ra ?_ ?_)
   refine QE.intro (.tup [.int .i64 lb.length,.raw .nilIface]) [(1,.box 89 [.ptr 1 0,.own 3]),(3,.row 5 (.ints .u8 (aj (o0++lb)))),(0,.box 24 [.int .i64 w,.int .i64 h,.ro (.bools p)])] 4 ?_ ?_
   ·(repeat' with_reducible first|intro _|exact dn|refine rn ?_|refine ra ?_ ?_)
    refine ah.i [1,2] kw2 3 ?_
    (repeat' with_reducible first|intro _|exact dn|refine rn ?_|refine ra ?_ ?_)
   (repeat' with_reducible first|intro _|exact dn|refine rn ?_|refine ra ?_ ?_)
   skip
   refine ⟨⟨y+1,true⟩,aK.ak rfl ?_ ?_,⟨by dsimp only;omega,fun _=>by dsimp only;rw [hsucc,List.length_append];omega,fun h=>by (cases h)⟩,by dsimp only;omega⟩<;>simp only [go_sem,Int.natCast_succ,hsucc]
   all_goals first|rfl|exact ⟨rfl,rfl⟩
  | false=>
   have kw2:=gG lb (by omega)
   simp only [cond_true,cond_false,List.cons_append,List.nil_append]
   (repeat' with_reducible first|intro _|refine rz ?_|refine ra ?_ ?_|omega|simp only [go_sem,f1])
   refine aN.lex [8] [] (by kernel_rfl) (by kernel_rfl) ?_
   (repeat' with_reducible first|intro _|exact dn|refine rn ?_|refine ra ?_ ?_)
   refine QV.intro (.ro (.bools rw_)) ?_ ?_
   ·(repeat' with_reducible first|intro _|exact dn|refine rn ?_|refine ra ?_ ?_)
    refine ah.UE (.ro (.bools rw_)) kr (by simp only [aI,aS,bH,aV,aH,List.drop_zero,lk,reduceIte,reduceCtorEq,Nat.reduceEqDiff,Option.some.injEq,Item.row.injEq,Item.box.injEq,AV.ro.injEq,exists_eq_left,exists_and_left,exists_eq_left',exists_eq_right,and_assoc,and_true,true_and,List.cons.injEq,exists_eq',exists_eq]) (by simp [dJ,aS,aV,bH,aH,lk,aI]) rfl ?_
    (repeat' with_reducible first|intro _|exact dn|refine rn ?_|refine ra ?_ ?_)
   (repeat' with_reducible first|intro _|exact dn|refine rn ?_|refine ra ?_ ?_)
   refine QV.intro (.ro (.bools ab)) ?_ ?_
   ·(repeat' with_reducible first|intro _|exact dn|refine rn ?_|refine ra ?_ ?_)
    refine ah.UE (.ro (.bools ab)) ku (by simp only [aI,aS,bH,aV,aH,List.drop_zero,lk,reduceIte,reduceCtorEq,Nat.reduceEqDiff,Option.some.injEq,Item.row.injEq,Item.box.injEq,AV.ro.injEq,exists_eq_left,exists_and_left,exists_eq_left',exists_eq_right,and_assoc,and_true,true_and,List.cons.injEq,exists_eq',exists_eq]) (by simp [dJ,aS,aV,bH,aH,lk,aI]) rfl ?_
    (repeat' with_reducible first|intro _|exact dn|refine rn ?_|refine ra ?_ ?_)
   (repeat' with_reducible first|intro _|exact dn|refine rn ?_|refine ra ?_ ?_)
   (refine QV.intro (.str lb) ?_ ?_;focus ((repeat' with_reducible first|intro _|exact dn|refine rn ?_|refine ra ?_ ?_);refine ah.k (kl) ?_;(repeat' with_reducible first|intro _|exact dn|refine rn ?_|refine ra ?_ ?_)))
   (repeat' with_reducible first|intro _|exact dn|refine rn ?_|refine ra ?_ ?_)
   refine QE.intro (.tup [.int .i64 lb.length,.raw .nilIface]) [(1,.box 89 [.ptr 1 0,.own 2]),(2,.row 5 (.ints .u8 (aj lb))),(0,.box 24 [.int .i64 w,.int .i64 h,.ro (.bools p)])] 3 ?_ ?_
   ·(repeat' with_reducible first|intro _|exact dn|refine rn ?_|refine ra ?_ ?_)
    refine ah.i [1] kw2 2 ?_
    (repeat' with_reducible first|intro _|exact dn|refine rn ?_|refine ra ?_ ?_)
   (repeat' with_reducible first|intro _|exact dn|refine rn ?_|refine ra ?_ ?_)
   have hz2:eU w p (y+1)=lb:=by rw [hsucc,hu2 rfl,List.nil_append]
   refine ⟨⟨y+1,true⟩,aK.ak rfl ?_ ?_,⟨by dsimp only;omega,fun _=>by dsimp only;rw [hz2];exact hlp,fun h=>by (cases h)⟩,by dsimp only;omega⟩<;>simp only [go_sem,Int.natCast_succ,hz2]
   all_goals first|rfl|exact ⟨rfl,rfl⟩
 ·cases u with
  | true=>
   have kw2:=eF o0 lb (by omega) (by omega)
   simp only [cond_true,cond_false,List.cons_append,List.nil_append]
   rw [ku] at kl
   have e0:(-1:Int)=(y:Int) - 1:=by omega
   rw [e0] at kuN
   (repeat' with_reducible first|intro _|refine rz ?_|refine ra ?_ ?_|omega|simp only [go_sem,f1])
   refine aN.lex [8] [] (by kernel_rfl) (by kernel_rfl) ?_
   (repeat' with_reducible first|intro _|exact dn|refine rn ?_|refine ra ?_ ?_)
   refine QV.intro (.ro (.bools rw_)) ?_ ?_
   ·(repeat' with_reducible first|intro _|exact dn|refine rn ?_|refine ra ?_ ?_)
    refine ah.UE (.ro (.bools rw_)) kr (by simp only [aI,aS,bH,aV,aH,List.drop_zero,lk,reduceIte,reduceCtorEq,Nat.reduceEqDiff,Option.some.injEq,Item.row.injEq,Item.box.injEq,AV.ro.injEq,exists_eq_left,exists_and_left,exists_eq_left',exists_eq_right,and_assoc,and_true,true_and,List.cons.injEq,exists_eq',exists_eq]) (by simp [dJ,aS,aV,bH,aH,lk,aI]) rfl ?_
    (repeat' with_reducible first|intro _|exact dn|refine rn ?_|refine ra ?_ ?_)
   (repeat' with_reducible first|intro _|exact dn|refine rn ?_|refine ra ?_ ?_)
   refine QV.intro (.ro (.bools (List.replicate w false))) ?_ ?_
   ·(repeat' with_reducible first|intro _|exact dn|refine rn ?_|refine ra ?_ ?_)
    refine ah.ro (.ro (.bools (List.replicate w false))) (cO.eY kuN rfl (by simp [fQ,fP,jh,iQ,lG])) (by simp only [aI,aS,bH,aV,aH,List.drop_zero,lk,reduceIte,reduceCtorEq,Nat.reduceEqDiff,Option.some.injEq,Item.row.injEq,Item.box.injEq,AV.ro.injEq,exists_eq_left,exists_and_left,exists_eq_left',exists_eq_right,and_assoc,and_true,true_and,List.cons.injEq,exists_eq',exists_eq]) (by simp [dJ,aS,aV,bH,aH,lk,aI]) rfl ?_
    (repeat' with_reducible first|intro _|exact dn|refine rn ?_|refine ra ?_ ?_)
   (repeat' with_reducible first|intro _|exact dn|refine rn ?_|refine ra ?_ ?_)
   (refine QV.intro (.str lb) ?_ ?_;focus ((repeat' with_reducible first|intro _|exact dn|refine rn ?_|refine ra ?_ ?_);refine ah.k (kl) ?_;(repeat' with_reducible first|intro _|exact dn|refine rn ?_|refine ra ?_ ?_)))
   (repeat' with_reducible first|intro _|exact dn|refine rn ?_|refine ra ?_ ?_)
   refine QE.intro (.tup [.int .i64 lb.length,.raw .nilIface]) [(1,.box 89 [.ptr 1 0,.own 3]),(3,.row 5 (.ints .u8 (aj (o0++lb)))),(0,.box 24 [.int .i64 w,.int .i64 h,.ro (.bools p)])] 4 ?_ ?_
   ·(repeat' with_reducible first|intro _|exact dn|refine rn ?_|refine ra ?_ ?_)
    refine ah.i [1,2] kw2 3 ?_
    (repeat' with_reducible first|intro _|exact dn|refine rn ?_|refine ra ?_ ?_)
   (repeat' with_reducible first|intro _|exact dn|refine rn ?_|refine ra ?_ ?_)
   skip
   refine ⟨⟨y+1,true⟩,aK.ak rfl ?_ ?_,⟨by dsimp only;omega,fun _=>by dsimp only;rw [hsucc,List.length_append];omega,fun h=>by (cases h)⟩,by dsimp only;omega⟩<;>simp only [go_sem,Int.natCast_succ,hsucc]
   all_goals first|rfl|exact ⟨rfl,rfl⟩
  | false=>
   have kw2:=gG lb (by omega)
   simp only [cond_true,cond_false,List.cons_append,List.nil_append]
   rw [ku] at kl
   have e0:(-1:Int)=(y:Int) - 1:=by omega
   rw [e0] at kuN
   (repeat' with_reducible first|intro _|refine rz ?_|refine ra ?_ ?_|omega|simp only [go_sem,f1])
   refine aN.lex [8] [] (by kernel_rfl) (by kernel_rfl) ?_
   (repeat' with_reducible first|intro _|exact dn|refine rn ?_|refine ra ?_ ?_)
   refine QV.intro (.ro (.bools rw_)) ?_ ?_
   ·(repeat' with_reducible first|intro _|exact dn|refine rn ?_|refine ra ?_ ?_)
    refine ah.UE (.ro (.bools rw_)) kr (by simp only [aI,aS,bH,aV,aH,List.drop_zero,lk,reduceIte,reduceCtorEq,Nat.reduceEqDiff,Option.some.injEq,Item.row.injEq,Item.box.injEq,AV.ro.injEq,exists_eq_left,exists_and_left,exists_eq_left',exists_eq_right,and_assoc,and_true,true_and,List.cons.injEq,exists_eq',exists_eq]) (by simp [dJ,aS,aV,bH,aH,lk,aI]) rfl ?_
    (repeat' with_reducible first|intro _|exact dn|refine rn ?_|refine ra ?_ ?_)
   (repeat' with_reducible first|intro _|exact dn|refine rn ?_|refine ra ?_ ?_)
   refine QV.intro (.ro (.bools (List.replicate w false))) ?_ ?_
   ·(repeat' with_reducible first|intro _|exact dn|refine rn ?_|refine ra ?_ ?_)
    refine ah.ro (.ro (.bools (List.replicate w false))) (cO.eY kuN rfl (by simp [fQ,fP,jh,iQ,lG])) (by simp only [aI,aS,bH,aV,aH,List.drop_zero,lk,reduceIte,reduceCtorEq,Nat.reduceEqDiff,Option.some.injEq,Item.row.injEq,Item.box.injEq,AV.ro.injEq,exists_eq_left,exists_and_left,exists_eq_left',exists_eq_right,and_assoc,and_true,true_and,List.cons.injEq,exists_eq',exists_eq]) (by simp [dJ,aS,aV,bH,aH,lk,aI]) rfl ?_
    (repeat' with_reducible first|intro _|exact dn|refine rn ?_|refine ra ?_ ?_)
   (repeat' with_reducible first|intro _|exact dn|refine rn ?_|refine ra ?_ ?_)
   (refine QV.intro (.str lb) ?_ ?_;focus ((repeat' with_reducible first|intro _|exact dn|refine rn ?_|refine ra ?_ ?_);refine ah.k (kl) ?_;(repeat' with_reducible first|intro _|exact dn|refine rn ?_|refine ra ?_ ?_)))
   (repeat' with_reducible first|intro _|exact dn|refine rn ?_|refine ra ?_ ?_)
   refine QE.intro (.tup [.int .i64 lb.length,.raw .nilIface]) [(1,.box 89 [.ptr 1 0,.own 2]),(2,.row 5 (.ints .u8 (aj lb))),(0,.box 24 [.int .i64 w,.int .i64 h,.ro (.bools p)])] 3 ?_ ?_
   ·(repeat' with_reducible first|intro _|exact dn|refine rn ?_|refine ra ?_ ?_)
    refine ah.i [1] kw2 2 ?_
    (repeat' with_reducible first|intro _|exact dn|refine rn ?_|refine ra ?_ ?_)
   (repeat' with_reducible first|intro _|exact dn|refine rn ?_|refine ra ?_ ?_)
   have hz2:eU w p (y+1)=lb:=by rw [hsucc,hu2 rfl,List.nil_append]
   refine ⟨⟨y+1,true⟩,aK.ak rfl ?_ ?_,⟨by dsimp only;omega,fun _=>by dsimp only;rw [hz2];exact hlp,fun h=>by (cases h)⟩,by dsimp only;omega⟩<;>simp only [go_sem,Int.natCast_succ,hz2]
   all_goals first|rfl|exact ⟨rfl,rfl⟩
end Go.Fv.H
