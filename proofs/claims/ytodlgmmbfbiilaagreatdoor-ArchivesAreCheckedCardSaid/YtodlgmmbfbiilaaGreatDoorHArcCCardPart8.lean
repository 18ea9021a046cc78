/-
  A part of the proof of the claim: walks over the program's functions and the plain laws that these need. No condition of its own.
-/
import Derived.Test.YtodlgmmbfbiilaaGreatDoorHArcCCardPart5
import Derived.Test.YtodlgmmbfbiilaaGreatDoorHArcCCardPart6
import Derived.Test.YtodlgmmbfbiilaaGreatDoorHArcCCardPart3
import Derived.Test.YtodlgmmbfbiilaaGreatDoorHArcCCardPart1
set_option linter.unusedSimpArgs false
set_option linter.unusedVariables false
set_option linter.unnecessarySimpa false
set_option maxRecDepth 8000
/- shrink.fromAdaptive: the walk. -/
namespace Go.Fv.H
open Go Go.Proofs
theorem JE (d:Bytes) (hd:d.length≤300000000000000):fA Tryz.prog 140 [.ptr 0 0] [(0,.box 9 [.str d])] 1 (.int .u32 (gu d)) [(0,.box 9 [.str (d.drop 1)])]:=by
 refine fA.aG Tryz.func140 rfl (by decide) (by simp [Tryz.f140]) Ho [.tmp 1] rfl fun w0 T0 _=>?_
 simp only [Tryz.f140,au]
 cases d with
 | nil=>
  (repeat' with_reducible first|intro _|exact dn|refine rn ?_|refine ra ?_ ?_)
  refine jl.auto 1 (Nat.le_refl 1) ?_ rfl ?_<;>simp only [go_sem,Int.natCast_succ,gq,gu]
  all_goals first|rfl|exact ⟨rfl,rfl⟩
 | cons c d=>
  have h0:(c::d=[])=False:=eq_false (by simp)
  have hl:(c::d).length=d.length+1:=rfl
  have hg:(c::d).getD 0 0=c:=rfl
  have hdr:((c::d).drop 1).take ((c::d).length - 1)=d:=by rw [hl];simp
  have hdr1:(c::d).drop 1=d:=rfl
  have hn:gu (c::d)=c.toNat:=rfl
  rw [hdr1,hn]
  have hcl:c.toNat<256:=c.toNat_lt
  (repeat' with_reducible first|intro _|refine rz ?_|refine ra ?_ ?_|omega|simp only [go_sem,h0,hg,hdr,hl,List.take_length])
  refine jl.auto 1 (Nat.le_refl 1) ?_ rfl ?_<;>simp only [go_sem,Int.natCast_succ,gq]
theorem OZ (a b:Nat) (ha:a<4294967296) (hb:b<4294967296):(BitVec.ofInt 32 (a:Int)).toNat=a∧(BitVec.ofInt 32 (b:Int)).toNat=b:=by
 rw [BitVec.ofInt_natCast,BitVec.toNat_ofNat,BitVec.ofInt_natCast,BitVec.toNat_ofNat]
 exact ⟨Nat.mod_eq_of_lt (by omega),Nat.mod_eq_of_lt (by omega)⟩
theorem ZY {a c:Nat} (ha:a*256<4294967296) (hc:c<256):gJ .or .u32 ((a*256:Nat):Int) (c:Int)=((a*256+c:Nat):Int):=by
 obtain ⟨e1,e2⟩:=OZ (a*256) c (by omega) (by omega)
 show IntKind.u32.wrap (((BitVec.ofInt 32 ((a*256:Nat):Int)) ||| (BitVec.ofInt 32 (c:Int))).toNat:Int)=_
 have h:=Nat.two_pow_add_eq_or_of_lt (i:=8) (b:=c) (by omega) a
 rw [BitVec.toNat_or,e1,e2,Nat.mul_comm a 256,←h]
 exact jR (Jc.2 (by omega))
def KT (d:Bytes):Nat→Nat
 | 0=>0
 | i+1=>KT d i*256+gu (d.drop i)
theorem O6 (d:Bytes):∀ i,KT d i<256 ^ i
 | 0=>Nat.one_pos
 | i+1=>by
  have h1:=O6 d i
  have h2:=jo (d.drop i)
  show KT d i*256+gu (d.drop i)<_
  rw [Nat.pow_succ];omega
theorem RH (d:Bytes):four d=KT d 4:=by
 unfold four
 show _=(((0*256+gu (d.drop 0))*256+gu (d.drop 1))*256+gu (d.drop 2))*256+gu (d.drop 3)
 rw [List.drop_zero];omega
theorem DK (W H:Nat) (d:Bytes) (n:Nat):∀ i j,i≤j→(dN W H d n i).P.getD j false=false
 | 0,j,_=>by
  show (List.replicate n false).getD j false=false
  rw [List.getD_eq_getElem?_getD,List.getElem?_replicate];split<;>rfl
 | i+1,j,h=>by
  have ih:=DK W H d n i j (by omega)
  have hP:(dN W H d n (i+1)).P=(dN W H d n i).P.set i ((dN W H d n i).k ((dN W H d n i).c W H i)):=by
   show (((dN W H d n i).mid _ i).norm).P=_
   unfold AD.norm
   split<;>rfl
  rw [hP,List.getD_eq_getElem?_getD,List.getElem?_set_ne (by omega),←List.getD_eq_getElem?_getD]
  exact ih
theorem Hf (W H:Nat) (d:Bytes) (n:Nat):∀ i,(dN W H d n i).data.length≤d.length
 | 0=>by show (d.drop 4).length≤_;rw [List.length_drop];omega
 | i+1=>by
  have ih:=Hf W H d n i
  show (((dN W H d n i).mid _ i).norm).data.length≤_
  unfold AD.norm
  split
  ·show ((dN W H d n i).data.drop 1).length≤_;rw [List.length_drop];omega
  ·exact ih
theorem wrap32 (x:Int):IntKind.u32.wrap x=x%4294967296:=by simp [IntKind.wrap,IntKind.signed,IntKind.bits]
theorem N9 {α:Type} {l:List α} {i:Nat} {d:α} (h:i<l.length):l.set i (l.getD i d)=l:=by
 apply List.ext_getElem?
 intro j
 rw [List.getElem?_set]
 split
 ·rename_i e
  subst e
  rw [getD_lt h,List.getElem?_eq_getElem h]
 ·rfl
set_option maxHeartbeats 16000000 in
theorem BQ (w h:Nat) (hw0:0<w) (hw:w≤4000) (hh:h≤4000) (hwh:w*h≤1048576) (d:Bytes) (hd:d.length≤200000000000000) :
  aA Tryz.prog 103 [.str d,.int .i64 w,.int .i64 h] (.agg [.int .i64 w,.int .i64 h,.own 0]) [(0,.row 4 (.bools (dN w h d (w*h) (w*h)).P))]:=by
 refine aA.aG Tryz.func103 rfl (by decide) (by simp [Tryz.f103]) [.cell 6 24] rfl fun w0 T0 _=>?_
 simp only [Tryz.f103,au]
 have e1:(w:Int)*(h:Int)=((w*h:Nat):Int):=(Int.natCast_mul w h).symm
 obtain ⟨n,hn⟩:∃ n,w*h=n:=⟨_,rfl⟩
 rw [hn] at e1 ⊢
 (repeat' with_reducible first|intro _|refine rz ?_|refine ra ?_ ?_|omega|simp only [go_sem,e1])
 refine aF.intro (fun i:Nat=>⟨91,[(23,.int .i64 i),(9,.int .u32 (KT d i)),(8,.fn 140 [.ptr 0 0]),(7,.ptr 3 0),(6,.ptr 1 0),(3,.ptr 0 0),(1,.int .i64 w),(2,.int .i64 h)],[(0,.box 9 [.str (d.drop i)]),(1,.box 24 [.int .i64 0,.int .i64 0,.nilS]),(2,.row 4 (.bools (List.replicate n false))),(3,.box 24 [.int .i64 w,.int .i64 h,.own 2])],4⟩) (fun i=>i≤4) (fun i=>4 - i) 0 ?_ (Nat.zero_le _) fun i hi=>?_
 ·refine aK.ak rfl ?_ ?_<;>simp only [go_sem,Int.natCast_succ,KT]
 by_cases hi4:i<4
 ·have f1:((i:Int)<4)=True:=eq_true (by omega)
  have hcd:KT d (i+1)=KT d i*256+gu (d.drop i):=rfl
  have hc0:=O6 d i
  have hcp:256 ^ i≤256 ^ 3:=Nat.pow_le_pow_right (by decide) (by omega)
  rw [show (256:Nat) ^ 3=16777216 from rfl] at hcp
  have kn:=JE (d.drop i) (by rw [List.length_drop];omega)
  rw [List.drop_drop] at kn
  have hnx:=jo (d.drop i)
  have ho:=ZY (a:=KT d i) (c:=gu (d.drop i)) (by omega) hnx
  have hss:lJ .u32 ((KT d i:Nat):Int) 8=((KT d i*256:Nat):Int):=by
   unfold lJ
   rw [show (2:Int) ^ (min (8:Int).toNat IntKind.u32.bits)=256 by rfl];omega
  generalize gu (d.drop i)=nx at *
  generalize KT d i=cd at *
  generalize d.drop i=dd at *
  (repeat' with_reducible first|intro _|refine rz ?_|refine ra ?_ ?_|omega|simp only [go_sem,f1,hss])
  refine ah.i [0] kn 1 ?_
  (repeat' with_reducible first|intro _|exact dn|refine rn ?_|refine ra ?_ ?_)
  (repeat' with_reducible first|intro _|refine rz ?_|refine ra ?_ ?_|omega|simp only [go_sem,ho])
  refine ⟨i+1,aK.ak rfl ?_ ?_,by omega,by omega⟩<;>simp only [go_sem,Int.natCast_succ,hcd]
 have f1:((i:Int)<4)=False:=eq_false (by omega)
 have e:i=4:=by omega
 subst e
 rw [←RH]
 (repeat' with_reducible first|intro _|refine rz ?_|refine ra ?_ ?_|omega|simp only [go_sem,f1])
 refine ah.o ES 1 ?_
 (repeat' with_reducible first|intro _|exact dn|refine rn ?_|refine ra ?_ ?_)
 refine aF.intro (fun i:Nat=>⟨91,[(35,.int .i64 i),(34,.int .i64 n),(11,.own 4),(10,.int .u32 (dN w h d n i).span),(9,.int .u32 (dN w h d n i).code),(8,.fn 140 [.ptr 0 0]),(7,.ptr 3 0),(6,.ptr 1 0),(3,.ptr 0 0),(1,.int .i64 w),(2,.int .i64 h)],[(0,.box 9 [.str (dN w h d n i).data]),(1,.box 24 [.int .i64 0,.int .i64 0,.nilS]),(2,.row 4 (.bools (dN w h d n i).P)),(3,.box 24 [.int .i64 w,.int .i64 h,.own 2]),(4,.row 172 (.ints .u32 (iO (dN w h d n i).tab)))],5⟩) (fun i=>i≤n) (fun i=>n - i) 0 ?_ (Nat.zero_le _) fun i hi=>?_
 ·refine aK.ak rfl ?_ ?_<;>simp only [go_sem,Int.natCast_succ]
  all_goals first|rfl|exact ⟨rfl,rfl⟩|exact ⟨rfl,rfl,rfl⟩|(refine ⟨?_,?_⟩<;>rfl)|trace_state
 have hok:=xX w h d n i
 have hdl:=Hf w h d n i
 by_cases hlt:i<n
 rotate_left
 ·have f1:((i:Int)<(n:Int))=False:=eq_false (by omega)
  have e:i=n:=by omega
  subst e
  (repeat' with_reducible first|intro _|refine rz ?_|refine ra ?_ ?_|omega|simp only [go_sem,f1])
  refine aU.of [(0,2)] 1 ?_ (by rfl) ?_<;>simp only [go_sem,Int.natCast_succ,Post]
 have f1:((i:Int)<(n:Int))=True:=eq_true (by omega)
 have hw1:i%w<w:=Nat.mod_lt _ hw0
 have hw2:i / w<h:=Nat.div_lt_of_lt_mul (by omega)
 have d1:(i:Int).tmod (w:Int)=((i%w:Nat):Int):=by rw [Int.tmod_eq_emod_of_nonneg (Int.natCast_nonneg _)];rfl
 have d2:(i:Int).tdiv (w:Int)=((i / w:Nat):Int):=by rw [Int.tdiv_eq_ediv_of_nonneg (Int.natCast_nonneg _)];rfl
 have hnext:dN w h d n (i+1)=((dN w h d n i).mid (kL w h (dN w h d n i).P ((i%w:Nat):Int) ((i / w:Nat):Int)) i).norm:=rfl
 have hPi:=DK w h d n i i (Nat.le_refl _)
 have hPs:=N9 (l:=(dN w h d n i).P) (i:=i) (d:=false) (by rw [hok.P];exact hlt)
 rw [hPi] at hPs
 obtain ⟨xx,hxx⟩:∃ xx,i%w=xx:=⟨_,rfl⟩
 obtain ⟨yy,hyy⟩:∃ yy,i / w=yy:=⟨_,rfl⟩
 rw [hxx] at hw1 d1 hnext
 rw [hyy] at hw2 d2 hnext
 have kc:=D7 w h hw hh (dN w h d n i).P (by rw [hok.P,hn]) (xx:Int) (yy:Int) (by omega) (by omega)
 have hc:=lN w h (dN w h d n i).P (xx:Int) (yy:Int)
 have hwne:¬(w:Int)=0:=by omega
 generalize kL w h (dN w h d n i).P (xx:Int) (yy:Int)=c at *
 generalize dN w h d n i=s at *
 obtain ⟨⟨ht1,ht2⟩,hm1,hm2⟩:=AD.PV hok hc
 have hlo:=hok.lo
 have hhi:=hok.hi
 have hlen:=hok.len
 have hcode:=hok.code
 have hPl:=hok.P
 have hg:=Dc (l:=s.tab) (i:=c) (by rw [hlen];exact hc)
 have hgl:=yQ s.tab
 have q1:((s.span:Nat):Int).tdiv 4096=((s.span / 4096:Nat):Int):=by rw [Int.tdiv_eq_ediv_of_nonneg (Int.natCast_nonneg _)];rfl
 have q2:((s.span / 4096:Nat):Int)*((s.tab.getD c 0:Nat):Int)=((s.m c:Nat):Int):=(Int.natCast_mul _ _).symm
 (repeat' with_reducible first|intro _|refine rz ?_|refine ra ?_ ?_|omega|simp only [go_sem,f1])
 refine aN.lex [] [] (by kernel_rfl) (by kernel_rfl) ?_
 (repeat' with_reducible first|intro _|refine rz ?_|refine ra ?_ ?_|omega|simp only [go_sem,d1,d2,hwne])
 (refine QV.intro (.int .i64 c) ?_ ?_;focus ((repeat' with_reducible first|intro _|exact dn|refine rn ?_|refine ra ?_ ?_);refine ah.k (kc) ?_;(repeat' with_reducible first|intro _|exact dn|refine rn ?_|refine ra ?_ ?_)))
 have hmid:=AD.rV hok hc i
 have hmok:=AD.Dh hmid
 have hmlo:=hmok.lo
 obtain ⟨M,hM⟩:∃ M,s.mid c i=M:=⟨_,rfl⟩
 have hMt:M.tab=s.tab.set c (Ac (s.tab.getD c 0) (s.k c)):=by rw [←hM];rfl
 have hMs0:M.span=if s.k c=true then s.span - s.m c else s.m c:=by rw [←hM];rfl
 have hMc0:M.code=if s.k c=true then s.code - s.m c else s.code:=by rw [←hM];rfl
 have hMd:M.data=s.data:=by rw [←hM];rfl
 have hMP0:M.P=s.P.set i (s.k c):=by rw [←hM];rfl
 rw [hM] at hnext hmlo hmid
 obtain ⟨hmid1,hmid2,hmid3,_,_,_⟩:=hmid
 have kl:=Ew (s.tab.getD c 0) (s.k c) ⟨ht1,ht2⟩
 have hset:=yR s.tab c (Ac (s.tab.getD c 0) (s.k c))
 have hlrn:=Ad ⟨ht1,ht2⟩ (s.k c)
 by_cases hk:s.m c≤s.code
 ·have hkt:s.k c=true:=decide_eq_true hk
  rw [hkt] at hMt hMs0 hMc0 hMP0 kl hset hlrn
  rw [if_pos rfl] at hMs0 hMc0
  have hMs:M.span=s.span - s.m c:=hMs0
  have hMc:M.code=s.code - s.m c:=hMc0
  have hMP:M.P=s.P.set i true:=hMP0
  have f2:((s.code:Int)<((s.m c:Nat):Int))=False:=eq_false (by omega)
  have hspI:(s.span:Int) - (s.m c:Int)=((s.span - s.m c:Nat):Int):=by omega
  have hcdI:(s.code:Int) - (s.m c:Int)=((s.code - s.m c:Nat):Int):=by omega
  have hPg:(s.P.set i true).getD i false=true:=by
   rw [List.getD_eq_getElem?_getD,List.getElem?_set_self (by rw [hPl];exact hlt)];rfl
  have hPl2:(s.P.set i true).length=n:=by rw [List.length_set,hPl]
  (repeat' with_reducible first|intro _|refine rz ?_|refine ra ?_ ?_|omega|simp only [go_sem,q1,q2,hg,hgl,hlen,f2,hspI,hcdI])
  refine aN.lex [13] [] (by kernel_rfl) (by kernel_rfl) ?_
  (repeat' with_reducible first|intro _|refine rz ?_|refine ra ?_ ?_|omega|simp only [go_sem,hgl,hlen,hPg,hPl2,hg,hPl])
  (refine QV.intro (.int .u32 (Ac (s.tab.getD c 0) true)) ?_ ?_;focus ((repeat' with_reducible first|intro _|exact dn|refine rn ?_|refine ra ?_ ?_);refine ah.k (kl) ?_;(repeat' with_reducible first|intro _|exact dn|refine rn ?_|refine ra ?_ ?_)))
  (repeat' with_reducible first|intro _|refine rz ?_|refine ra ?_ ?_|omega|simp only [go_sem,hgl,hlen,hset])
  refine aF.intro (fun r:AD=>⟨91,[(35,.int .i64 i),(34,.int .i64 n),(11,.own 4),(10,.int .u32 r.span),(9,.int .u32 r.code),(8,.fn 140 [.ptr 0 0]),(7,.ptr 3 0),(6,.ptr 1 0),(3,.ptr 0 0),(1,.int .i64 w),(2,.int .i64 h)],[(0,.box 9 [.str r.data]),(1,.box 24 [.int .i64 0,.int .i64 0,.nilS]),(2,.row 4 (.bools r.P)),(3,.box 24 [.int .i64 w,.int .i64 h,.own 2]),(4,.row 172 (.ints .u32 (iO r.tab)))],5⟩) (fun r=>r=M∨r=M.norm) (fun r=>if r.span<16777216 then 1 else 0) M ?_ (.inl rfl) fun r hr=>?_
  ·refine aK.ak rfl ?_ ?_<;>simp only [go_sem,Int.natCast_succ,hMs,hMt,hMc,hMd,hMP]
   all_goals first|rfl|exact ⟨rfl,rfl⟩
  by_cases hs2:r.span<16777216
  ·have hrM:r=M:=hr.resolve_right fun e=>by rw [e] at hs2;omega
   subst hrM
   have hnm:r.norm=⟨r.code*256%4294967296+gu r.data,r.span*256,r.tab,r.data.drop 1,r.P⟩:=by unfold AD.norm;rw [if_pos hs2]
   have f5:((r.span:Int)<16777216)=True:=eq_true (by omega)
   have hss:lJ .u32 (r.span:Int) 8=((r.span*256:Nat):Int):=by
    unfold lJ
    rw [show (2:Int) ^ (min (8:Int).toNat IntKind.u32.bits)=256 by rfl];omega
   have hsc:lJ .u32 (r.code:Int) 8=((r.code*256:Nat):Int):=by
    unfold lJ
    rw [show (2:Int) ^ (min (8:Int).toNat IntKind.u32.bits)=256 by rfl];omega
   have hwr:IntKind.u32.wrap ((r.code*256:Nat):Int)=((r.code*256%4294967296:Nat):Int):=by rw [wrap32];omega
   have hmul:r.code*256%4294967296=r.code%16777216*256:=by omega
   have hnx:=jo r.data
   have ho:=ZY (a:=r.code%16777216) (c:=gu r.data) (by omega) hnx
   rw [←hmul] at ho
   have kn:=JE r.data (by rw [hMd];omega)
   (repeat' with_reducible first|intro _|refine rz ?_|refine ra ?_ ?_|omega|simp only [go_sem,f5,hsc])
   refine dF.at _ hwr ?_
   (repeat' with_reducible first|intro _|exact dn|refine rn ?_|refine ra ?_ ?_)
   refine ah.i [0] kn 1 ?_
   (repeat' with_reducible first|intro _|exact dn|refine rn ?_|refine ra ?_ ?_)
   (repeat' with_reducible first|intro _|refine rz ?_|refine ra ?_ ?_|omega|simp only [go_sem,ho,hss])
   refine ⟨r.norm,aK.ak rfl ?_ ?_,.inr rfl,?_⟩
   ·simp only [go_sem,Int.natCast_succ,hnm]
    all_goals first|rfl|omega|(refine ⟨?_,?_⟩<;>first|rfl|omega)
   ·simp only [go_sem,Int.natCast_succ,hnm]
   ·rw [if_pos hs2,if_neg (by omega)];omega
  ·have hrn:r=M.norm:=by
    rcases hr with e|e
    ·rw [e] at hs2 ⊢;unfold AD.norm;rw [if_neg hs2]
    ·exact e
   have f5:((r.span:Int)<16777216)=False:=eq_false (by omega)
   rw [←hrn] at hnext
   (repeat' with_reducible first|intro _|refine rz ?_|refine ra ?_ ?_|omega|simp only [go_sem,f5])
   refine ⟨i+1,aK.ak rfl ?_ ?_,by omega,by omega⟩<;>simp only [go_sem,Int.natCast_succ,hnext]
 ·have hkt:s.k c=false:=decide_eq_false hk
  rw [hkt] at hMt hMs0 hMc0 hMP0 kl hset hlrn
  rw [if_neg (by decide)] at hMs0 hMc0
  have hMs:M.span=s.m c:=hMs0
  have hMc:M.code=s.code:=hMc0
  have hMP:M.P=s.P:=by rw [hMP0,hPs]
  have f2:((s.code:Int)<((s.m c:Nat):Int))=True:=eq_true (by omega)
  (repeat' with_reducible first|intro _|refine rz ?_|refine ra ?_ ?_|omega|simp only [go_sem,q1,q2,hg,hgl,hlen,f2])
  refine aN.lex [13] [] (by kernel_rfl) (by kernel_rfl) ?_
  (repeat' with_reducible first|intro _|refine rz ?_|refine ra ?_ ?_|omega|simp only [go_sem,hgl,hlen,hg,hPl,hPi])
  (refine QV.intro (.int .u32 (Ac (s.tab.getD c 0) false)) ?_ ?_;focus ((repeat' with_reducible first|intro _|exact dn|refine rn ?_|refine ra ?_ ?_);refine ah.k (kl) ?_;(repeat' with_reducible first|intro _|exact dn|refine rn ?_|refine ra ?_ ?_)))
  (repeat' with_reducible first|intro _|refine rz ?_|refine ra ?_ ?_|omega|simp only [go_sem,hgl,hlen,hset])
  refine aF.intro (fun r:AD=>⟨91,[(35,.int .i64 i),(34,.int .i64 n),(11,.own 4),(10,.int .u32 r.span),(9,.int .u32 r.code),(8,.fn 140 [.ptr 0 0]),(7,.ptr 3 0),(6,.ptr 1 0),(3,.ptr 0 0),(1,.int .i64 w),(2,.int .i64 h)],[(0,.box 9 [.str r.data]),(1,.box 24 [.int .i64 0,.int .i64 0,.nilS]),(2,.row 4 (.bools r.P)),(3,.box 24 [.int .i64 w,.int .i64 h,.own 2]),(4,.row 172 (.ints .u32 (iO r.tab)))],5⟩) (fun r=>r=M∨r=M.norm) (fun r=>if r.span<16777216 then 1 else 0) M ?_ (.inl rfl) fun r hr=>?_
  ·refine aK.ak rfl ?_ ?_<;>simp only [go_sem,Int.natCast_succ,hMs,hMt,hMc,hMd,hMP]
   all_goals first|rfl|exact ⟨rfl,rfl⟩
  by_cases hs2:r.span<16777216
  ·have hrM:r=M:=hr.resolve_right fun e=>by rw [e] at hs2;omega
   subst hrM
   have hnm:r.norm=⟨r.code*256%4294967296+gu r.data,r.span*256,r.tab,r.data.drop 1,r.P⟩:=by unfold AD.norm;rw [if_pos hs2]
   have f5:((r.span:Int)<16777216)=True:=eq_true (by omega)
   have hss:lJ .u32 (r.span:Int) 8=((r.span*256:Nat):Int):=by
    unfold lJ
    rw [show (2:Int) ^ (min (8:Int).toNat IntKind.u32.bits)=256 by rfl];omega
   have hsc:lJ .u32 (r.code:Int) 8=((r.code*256:Nat):Int):=by
    unfold lJ
    rw [show (2:Int) ^ (min (8:Int).toNat IntKind.u32.bits)=256 by rfl];omega
   have hwr:IntKind.u32.wrap ((r.code*256:Nat):Int)=((r.code*256%4294967296:Nat):Int):=by rw [wrap32];omega
   have hmul:r.code*256%4294967296=r.code%16777216*256:=by omega
   have hnx:=jo r.data
   have ho:=ZY (a:=r.code%16777216) (c:=gu r.data) (by omega) hnx
   rw [←hmul,show r.code*256%4294967296=r.code*256 by omega] at ho
   rw [show r.code*256%4294967296=r.code*256 by omega] at hnm
   have kn:=JE r.data (by rw [hMd];omega)
   (repeat' with_reducible first|intro _|refine rz ?_|refine ra ?_ ?_|omega|simp only [go_sem,f5,hsc])
   refine ah.i [0] kn 1 ?_
   (repeat' with_reducible first|intro _|exact dn|refine rn ?_|refine ra ?_ ?_)
   (repeat' with_reducible first|intro _|refine rz ?_|refine ra ?_ ?_|omega|simp only [go_sem,ho,hss])
   refine ⟨r.norm,aK.ak rfl ?_ ?_,.inr rfl,?_⟩
   ·simp only [go_sem,Int.natCast_succ,hnm]
    all_goals first|rfl|omega|(refine ⟨?_,?_⟩<;>first|rfl|omega)
   ·simp only [go_sem,Int.natCast_succ,hnm]
   ·rw [if_pos hs2,if_neg (by omega)];omega
  ·have hrn:r=M.norm:=by
    rcases hr with e|e
    ·rw [e] at hs2 ⊢;unfold AD.norm;rw [if_neg hs2]
    ·exact e
   have f5:((r.span:Int)<16777216)=False:=eq_false (by omega)
   rw [←hrn] at hnext
   (repeat' with_reducible first|intro _|refine rz ?_|refine ra ?_ ?_|omega|simp only [go_sem,f5])
   refine ⟨i+1,aK.ak rfl ?_ ?_,by omega,by omega⟩<;>simp only [go_sem,Int.natCast_succ,hnext]
end Go.Fv.H
/- Reading a number: the walk of ReadGamma. -/
namespace Go.Fv.H
open Go Go.Proofs
theorem Yn:pW [48,49]=gI:=funext fun c=>by
 unfold pW gI
 simp
theorem aai (l:Bytes):((iI (pW [48,49]) l).dropWhile (pW [48,49])=[])↔l.all gI=true:=by rw [Yn];exact Oo gI l
set_option maxHeartbeats 4000000 in
theorem NK (s:Bytes) (hs:s.length≤300000000000000):aA Tryz.prog 105 [.str s] (.tup [.int .i64 (Ce s),.int .i64 (Cc s),.int .i64 (Gp 8 s)]) []:=by
 have hle:=Ju s
 have hat:=Jt s
 have hst:=zY s
 refine aA.aG Tryz.func105 rfl (by decide) (by simp [Tryz.f105]) [.tmp 2,.tmp 3,.tmp 4] rfl fun w0 T0 _=>?_
 simp only [Tryz.f105,au]
 (repeat' with_reducible first|intro _|exact dn|refine rn ?_|refine ra ?_ ?_)
 refine aF.intro (fun z:Nat=>⟨62,[(5,.int .i64 z),(0,.str s)],[],0⟩) (fun z=>z≤aJ s) (fun z=>s.length - z) 0 ?_ (Nat.zero_le _) fun z hz=>?_
 ·refine aK.ak rfl ?_ ?_<;>simp only [go_sem,Int.natCast_succ]
 by_cases hlt:z<aJ s
 ·have e:=hat z hlt
  have f1:((z:Int)<(s.length:Int))=True:=eq_true (by omega)
  have f2:(((s.getD z 0).toNat:Int)=48)=True:=eq_true (by rw [e];rfl)
  (repeat' with_reducible first|intro _|refine rz ?_|refine ra ?_ ?_|omega|simp only [go_sem,f1,f2])
  refine ⟨z+1,aK.ak rfl ?_ ?_,by omega,by omega⟩<;>simp only [go_sem,Int.natCast_succ]
 have hz:z=aJ s:=by omega
 subst hz
 have hno:∀ h:pG s=none,Ce s=0∧Cc s=0∧Gp 8 s=8:=fun h=>by unfold Ce Cc Gp;rw [h];exact ⟨rfl,rfl,rfl⟩
 have fin:aJ s<s.length→(((s.getD (aJ s) 0).toNat:Int)=48)=False:=fun c0=>eq_false fun h=>hst c0 (UInt8.toNat_inj.1 (by show _=48;omega))
 by_cases c1:20<aJ s
 ·obtain ⟨r1,r2,r3⟩:=hno (oV fun h=>by omega)
  have f3:(20<(aJ s:Int))=True:=eq_true (by omega)
  by_cases c0:aJ s<s.length
  ·have f1:((aJ s:Int)<(s.length:Int))=True:=eq_true (by omega)
   have f2:=fin c0
   (repeat' with_reducible first|intro _|refine rz ?_|refine ra ?_ ?_|omega|simp only [go_sem,f1,f2,f3])
   refine aU.auto 0 ?_ rfl ?_<;>simp only [go_sem,Int.natCast_succ,Post,r1,r2,r3]
  ·have f1:((aJ s:Int)<(s.length:Int))=False:=eq_false (by omega)
   (repeat' with_reducible first|intro _|refine rz ?_|refine ra ?_ ?_|omega|simp only [go_sem,f1,f3])
   refine aU.auto 0 ?_ rfl ?_<;>simp only [go_sem,Int.natCast_succ,Post,r1,r2,r3]
 have f3:(20<(aJ s:Int))=False:=eq_false (by omega)
 by_cases c2:s.length<2*aJ s+1
 ·obtain ⟨r1,r2,r3⟩:=hno (oV fun h=>by omega)
  have f4:((s.length:Int)<2*(aJ s:Int)+1)=True:=eq_true (by omega)
  by_cases c0:aJ s<s.length
  ·have f1:((aJ s:Int)<(s.length:Int))=True:=eq_true (by omega)
   have f2:=fin c0
   (repeat' with_reducible first|intro _|refine rz ?_|refine ra ?_ ?_|omega|simp only [go_sem,f1,f2,f3,f4])
   refine aU.auto 0 ?_ rfl ?_<;>simp only [go_sem,Int.natCast_succ,Post,r1,r2,r3]
  ·have f1:((aJ s:Int)<(s.length:Int))=False:=eq_false (by omega)
   (repeat' with_reducible first|intro _|refine rz ?_|refine ra ?_ ?_|omega|simp only [go_sem,f1,f3,f4])
   refine aU.auto 0 ?_ rfl ?_<;>simp only [go_sem,Int.natCast_succ,Post,r1,r2,r3]
 have f4:((s.length:Int)<2*(aJ s:Int)+1)=False:=eq_false (by omega)
 have c0:aJ s<s.length:=by omega
 have f1:((aJ s:Int)<(s.length:Int))=True:=eq_true (by omega)
 have f2:=fin c0
 obtain ⟨m1,m2⟩:=MH (s:=s) (by omega)
 have hcut:(2*(aJ s:Int)+1).toNat - aJ s=aJ s+1:=by omega
 by_cases c3:s.getD (aJ s) 0=49
 rotate_left
 ·obtain ⟨r1,r2,r3⟩:=hno (oV fun h=>by
   have:=zI (l:=(s.drop (aJ s)).take (aJ s+1)) (p:=0) (by omega) h.2.2.1
   rw [m2] at this
   exact this.elim (hst c0) c3)
  have f5:(((s.getD (aJ s) 0).toNat:Int)=49)=False:=eq_false fun h=>c3 (UInt8.toNat_inj.1 (by show _=49;omega))
  (repeat' with_reducible first|intro _|refine rz ?_|refine ra ?_ ?_|omega|simp only [go_sem,f1,f2,f3,f4,f5,Bool.false_or,Bool.or_false])
  ·rename_i h;simp at h
  ·refine aU.auto 0 ?_ rfl ?_<;>simp only [go_sem,Int.natCast_succ,Post,r1,r2,r3]
 have f5:(((s.getD (aJ s) 0).toNat:Int)=49)=True:=eq_true (by rw [c3];rfl)
 have kt:=Om ((s.drop (aJ s)).take (aJ s+1)) [48,49] (by intro i hi;have:i=0∨i=1:=(by simp at hi;omega);rcases this with rfl|rfl<;>decide) (by decide)
 have ht:=aai ((s.drop (aJ s)).take (aJ s+1))
 have hsome:=@NC s
 have hnone:=@oV s
 generalize (iI (pW [48,49]) ((s.drop (aJ s)).take (aJ s+1))).dropWhile (pW [48,49])=tr at *
 by_cases c4:((s.drop (aJ s)).take (aJ s+1)).all gI=true
 rotate_left
 ·obtain ⟨r1,r2,r3⟩:=hno (hnone fun h=>c4 h.2.2.1)
  have f6:(tr=[])=False:=eq_false fun h=>c4 (ht.1 h)
  (repeat' with_reducible first|intro _|refine rz ?_|refine ra ?_ ?_|omega|simp only [go_sem,f1,f2,f3,f4,f5,hcut,Bool.false_or,Bool.or_false])
  refine ah.k kt ?_
  (repeat' with_reducible first|intro _|refine rz ?_|refine ra ?_ ?_|omega|simp only [go_sem,f6])
  refine aU.auto 0 ?_ rfl ?_<;>simp only [go_sem,Int.natCast_succ,Post,r1,r2,r3]
 have f6:(tr=[])=True:=eq_true (ht.2 c4)
 have kp:=Uo ((s.drop (aJ s)).take (aJ s+1)) c4 (fun e=>by rw [e] at m1;simp at m1) (by omega)
 by_cases c5:iL ((s.drop (aJ s)).take (aJ s+1))≤1048576
 ·have hr:=hsome ⟨by omega,by omega,c4,c5⟩
  have r1:Ce s=(iL ((s.drop (aJ s)).take (aJ s+1)):Int):=by unfold Ce;rw [hr]
  have r2:Cc s=2*(aJ s:Int)+1:=by unfold Cc;rw [hr];rfl
  have r3:Gp 8 s=0:=by unfold Gp;rw [hr]
  generalize iL ((s.drop (aJ s)).take (aJ s+1))=v at *
  have f7:(1048576<(v:Int))=False:=eq_false (by omega)
  (repeat' with_reducible first|intro _|refine rz ?_|refine ra ?_ ?_|omega|simp only [go_sem,f1,f2,f3,f4,f5,hcut,Bool.false_or,Bool.or_false])
  refine ah.k kt ?_
  (repeat' with_reducible first|intro _|refine rz ?_|refine ra ?_ ?_|omega|simp only [go_sem,f6,hcut])
  refine ah.k kp ?_
  (repeat' with_reducible first|intro _|refine rz ?_|refine ra ?_ ?_|omega|simp only [go_sem,f7])
  refine aU.auto 0 ?_ rfl ?_<;>simp only [go_sem,Int.natCast_succ,Post,r1,r2,r3]
 ·obtain ⟨r1,r2,r3⟩:=hno (hnone fun h=>c5 h.2.2.2)
  generalize iL ((s.drop (aJ s)).take (aJ s+1))=v at *
  have f7:(1048576<(v:Int))=True:=eq_true (by omega)
  (repeat' with_reducible first|intro _|refine rz ?_|refine ra ?_ ?_|omega|simp only [go_sem,f1,f2,f3,f4,f5,hcut,Bool.false_or,Bool.or_false])
  refine ah.k kt ?_
  (repeat' with_reducible first|intro _|refine rz ?_|refine ra ?_ ?_|omega|simp only [go_sem,f6,hcut])
  refine ah.k kp ?_
  (repeat' with_reducible first|intro _|refine rz ?_|refine ra ?_ ?_|omega|simp only [go_sem,f7])
  refine aU.auto 0 ?_ rfl ?_<;>simp only [go_sem,Int.natCast_succ,Post,r1,r2,r3]
end Go.Fv.H
/- The closures of shrink.readLine. -/
namespace Go.Fv.H
open Go Go.Proofs
theorem FQ (s:Bytes) (n:Nat) (code:Bytes) (hs:s.length≤300000000000000) (hn:n≤s.length) (hc:code.length≤100) (hp:code.isPrefixOf (s.drop n)=true) :
  fA Tryz.prog 145 [.str code,.ptr 0 0,.ptr 1 0] [(0,.box 9 [.str s]),(1,.box 3 [.int .i64 n])] 2 (.bool true) [(0,.box 9 [.str s]),(1,.box 3 [.int .i64 (n+code.length:Nat)])]:=by
 have k:=gZ (s.drop n) code
 rw [hp] at k
 refine fA.aG Tryz.func145 rfl (by decide) (by simp [Tryz.f145]) yB [.tmp 4] rfl fun w0 T0 _=>?_
 simp only [Tryz.f145,au]
 have htk:(s.drop n).take (s.length - n)=s.drop n:=List.take_of_length_le (by rw [List.length_drop];exact Nat.le_refl _)
 (repeat' with_reducible first|intro _|refine rz ?_|refine ra ?_ ?_|omega|simp only [go_sem,htk])
 refine ah.k k ?_
 (repeat' with_reducible first|intro _|exact dn|refine rn ?_|refine ra ?_ ?_)
 refine jl.auto 2 (Nat.le_refl 2) ?_ rfl ?_<;>simp only [go_sem,Int.natCast_succ,gq]
 omega
theorem zi (s:Bytes) (n:Nat) (code:Bytes) (hs:s.length≤300000000000000) (hn:n≤s.length) (hp:code.isPrefixOf (s.drop n)=false) :
  fA Tryz.prog 145 [.str code,.ptr 0 0,.ptr 1 0] [(0,.box 9 [.str s]),(1,.box 3 [.int .i64 n])] 2 (.bool false) [(0,.box 9 [.str s]),(1,.box 3 [.int .i64 n])]:=by
 have k:=gZ (s.drop n) code
 rw [hp] at k
 refine fA.aG Tryz.func145 rfl (by decide) (by simp [Tryz.f145]) yB [.tmp 4] rfl fun w0 T0 _=>?_
 simp only [Tryz.f145,au]
 have htk:(s.drop n).take (s.length - n)=s.drop n:=List.take_of_length_le (by rw [List.length_drop];exact Nat.le_refl _)
 (repeat' with_reducible first|intro _|refine rz ?_|refine ra ?_ ?_|omega|simp only [go_sem,htk])
 refine ah.k k ?_
 (repeat' with_reducible first|intro _|exact dn|refine rn ?_|refine ra ?_ ?_)
 refine jl.auto 2 (Nat.le_refl 2) ?_ rfl ?_<;>simp only [go_sem,Int.natCast_succ,gq]
theorem aaM (s:Bytes) (n:Nat) (hn:n≤s.length):(s.drop n).take (min s.length (n+64) - n)=(s.drop n).take 64:=by
 rw [List.take_eq_take_iff,List.length_drop];omega
theorem Iq (s:Bytes) (n:Nat) (hs:s.length≤300000000000000) (hn:n≤s.length) :
  fA Tryz.prog 146 [.ptr 0 0,.ptr 1 0] [(0,.box 9 [.str s]),(1,.box 3 [.int .i64 n])] 2 (.tup [.int .i64 (Ce (s.drop n) - 1),.bool (decide (Gp 8 (s.drop n)=0))]) [(0,.box 9 [.str s]),(1,.box 3 [.int .i64 (n+Cc (s.drop n))])]:=by
 have hg:pG ((s.drop n).take 64)=pG (s.drop n):=ND _ 64 (Nat.le_refl _)
 have e1:Ce ((s.drop n).take 64)=Ce (s.drop n):=by unfold Ce;rw [hg]
 have e2:Cc ((s.drop n).take 64)=Cc (s.drop n):=by unfold Cc;rw [hg]
 have e3:Gp 8 ((s.drop n).take 64)=Gp 8 (s.drop n):=by unfold Gp;rw [hg]
 have k:=NK ((s.drop n).take 64) (by rw [List.length_take];omega)
 rw [e1,e2,e3] at k
 have hb:0≤Ce (s.drop n)∧Ce (s.drop n)≤1048576∧0≤Cc (s.drop n)∧Cc (s.drop n)≤41:=by
  unfold Ce Cc
  cases hr:pG (s.drop n) with
  | none=>dsimp only;omega
  | some x=>
   obtain ⟨m,l⟩:=x
   have h:=kU hr
   have h2:m≤1048576:=by
    unfold pG at hr
    split at hr
    ·rename_i hc;cases hr;exact hc.2.2.2
    ·cases hr
   dsimp only;omega
 generalize Ce (s.drop n)=a at *
 generalize Cc (s.drop n)=b at *
 generalize Gp 8 (s.drop n)=c at *
 have hm:min (s.length:Int) ((n:Int)+64)=((min s.length (n+64):Nat):Int):=by omega
 have hc:=aaM s n hn
 have hm1:n≤min s.length (n+64):=by omega
 have hm2:min s.length (n+64)≤s.length:=by omega
 generalize min s.length (n+64)=mm at *
 refine fA.aG Tryz.func146 rfl (by decide) (by simp [Tryz.f146]) yB [.tmp 2,.tmp 3] rfl fun w0 T0 _=>?_
 simp only [Tryz.f146,au]
 (repeat' with_reducible first|intro _|refine rz ?_|refine ra ?_ ?_|omega|simp only [go_sem,hm,hc])
 refine ah.k k ?_
 (repeat' with_reducible first|intro _|exact dn|refine rn ?_|refine ra ?_ ?_)
 refine jl.auto 2 (Nat.le_refl 2) ?_ rfl ?_<;>simp only [go_sem,Int.natCast_succ,gq]
def QX (s:Bytes) (n:Nat) (j:Int) (m:Nat):Prop:=
 fA Tryz.prog 149 [.ro (.strs aO),.fn 145 [.ptr 0 0,.ptr 1 0]] [(0,.box 9 [.str s]),(1,.box 3 [.int .i64 n])] 2 (.int .i64 j) [(0,.box 9 [.str s]),(1,.box 3 [.int .i64 m])]
set_option maxHeartbeats 2000000 in
theorem VN (s:Bytes) (n:Nat) (hs:s.length≤300000000000000) (hn:n≤s.length) (j:Nat) (hj:j≤7) (hno:∀ i,i<j→(aO.getD i []).isPrefixOf (s.drop n)=false) (hy:j<7→(aO.getD j []).isPrefixOf (s.drop n)=true) :
  QX s n (if j<7 then j else -1) (n+if j<7 then (aO.getD j []).length else 0):=by
 unfold QX
 have hnl:aO.length=7:=rfl
 refine fA.aG Tryz.func149 rfl (by decide) (by simp [Tryz.f149]) yB [.tmp 4] rfl fun w0 T0 _=>?_
 simp only [Tryz.f149,au]
 (repeat' with_reducible first|intro _|refine rz ?_|refine ra ?_ ?_|omega|simp only [go_sem,hnl])
 refine aF.intro (fun i:Nat=>⟨19,[(8,.int .i64 i),(7,.int .i64 7),(1,.fn 145 [.ptr 0 0,.ptr 1 0]),(0,.ro (.strs aO))],[(0,.box 9 [.str s]),(1,.box 3 [.int .i64 n])],2⟩) (fun i=>i≤j) (fun i=>8 - i) 0 ?_ (Nat.zero_le _) fun i hi=>?_
 ·refine aK.DU 2 rfl (Nat.le_refl 2) ?_ ?_<;>simp only [go_sem,Int.natCast_succ,gq]
 by_cases hlt:i<j
 ·have kt:=zi s n (aO.getD i []) hs hn (hno i hlt)
  have f1:((i:Int)<7)=True:=eq_true (by omega)
  (repeat' with_reducible first|intro _|refine rz ?_|refine ra ?_ ?_|omega|simp only [go_sem,f1,hnl])
  refine ah.i [0,1] kt 2 ?_
  (repeat' with_reducible first|intro _|exact dn|refine rn ?_|refine ra ?_ ?_)
  refine ⟨i+1,aK.DU 2 rfl (Nat.le_refl 2) ?_ ?_,by omega,by omega⟩<;>simp only [go_sem,Int.natCast_succ,gq]
 have e:i=j:=by omega
 subst e
 by_cases h7:i<7
 ·rw [if_pos h7,if_pos h7]
  have hlen:(aO.getD i []).length≤7:=by
   have:i=0∨i=1∨i=2∨i=3∨i=4∨i=5∨i=6:=by omega
   rcases this with rfl|rfl|rfl|rfl|rfl|rfl|rfl<;>decide
  have kt:=FQ s n (aO.getD i []) hs hn (by omega) (hy h7)
  have f1:((i:Int)<7)=True:=eq_true (by omega)
  (repeat' with_reducible first|intro _|refine rz ?_|refine ra ?_ ?_|omega|simp only [go_sem,f1,hnl])
  refine ah.i [0,1] kt 2 ?_
  (repeat' with_reducible first|intro _|exact dn|refine rn ?_|refine ra ?_ ?_)
  refine jl.auto 2 (Nat.le_refl 2) ?_ rfl ?_<;>simp only [go_sem,Int.natCast_succ,gq]
 ·rw [if_neg h7,if_neg h7,Nat.add_zero]
  have f1:((i:Int)<7)=False:=eq_false (by omega)
  (repeat' with_reducible first|intro _|refine rz ?_|refine ra ?_ ?_|omega|simp only [go_sem,f1,hnl])
  refine jl.auto 2 (Nat.le_refl 2) ?_ rfl ?_<;>simp only [go_sem,Int.natCast_succ,gq]
def tN (l:List Bool) (a t:Nat) (c:Bool):List Bool:=l.take a++(List.replicate (t - a) c++l.drop t)
theorem H6 {l:List Bool} {a t:Nat} {c:Bool} (h1:a≤t) (h2:t≤l.length):(tN l a t c).length=l.length:=by
 unfold tN
 rw [List.length_append,List.length_append,List.length_take,List.length_replicate,List.length_drop];omega
theorem TS {l:List Bool} {a t:Nat} {c:Bool} (h1:a≤t) (h2:t<l.length):(tN l a t c).set t c=tN l a (t+1) c:=by
 apply List.ext_getElem?
 intro i
 have hl:=H6 (l:=l) (c:=c) h1 (by omega)
 unfold tN at *
 rw [List.getElem?_set]
 by_cases hi:t=i
 ·subst hi
  rw [if_pos rfl,if_pos (by rw [hl];exact h2),List.getElem?_append_right (by rw [List.length_take];omega),List.getElem?_append_left (by rw [List.length_take,List.length_replicate];omega),List.getElem?_replicate,if_pos (by rw [List.length_take];omega)]
 ·rw [if_neg hi]
  simp only [List.getElem?_append,List.length_take,List.length_replicate,List.getElem?_take,List.getElem?_drop,List.getElem?_replicate]
  by_cases ha:i<min a l.length
  ·rw [if_pos ha,if_pos ha]
  ·rw [if_neg ha,if_neg ha]
   by_cases hb:i - min a l.length<t - a
   ·rw [if_pos hb,if_pos hb,if_pos (by omega),if_pos (by omega)]
   ·rw [if_neg hb,if_neg (by omega)]
    congr 1;omega
set_option maxHeartbeats 2000000 in
theorem CQ (l:List Bool) (a:Nat) (v:Int) (t:Nat) (c:Bool) (hv:max v 0=(a:Int)) (hvb:-1≤v∧v≤5000) (h1:a≤t) (h2:t≤l.length) (hl:l.length≤4000) :
  fA Tryz.prog 144 [.int .i64 v,.int .i64 t,.bool c,.ptr 0 0] [(0,.box 22 [.own 1]),(1,.row 4 (.bools l))] 2 (.tup []) [(0,.box 22 [.own 1]),(1,.row 4 (.bools (tN l a t c)))]:=by
 refine fA.aG Tryz.func144 rfl (by decide) (by simp [Tryz.f144]) yB [] rfl fun w0 T0 _=>?_
 simp only [Tryz.f144,au]
 (repeat' with_reducible first|intro _|refine rz ?_|refine ra ?_ ?_|omega|simp only [go_sem,hv])
 refine aF.intro (fun i:Nat=>⟨19,[(7,.int .i64 i),(3,.ptr 0 0),(2,.bool c),(1,.int .i64 t)],[(0,.box 22 [.own 1]),(1,.row 4 (.bools (tN l a i c)))],2⟩) (fun i=>a≤i∧i≤t) (fun i=>t - i) a ?_ ⟨Nat.le_refl _,h1⟩ fun i hi=>?_
 ·have e0:tN l a a c=l:=by unfold tN;rw [Nat.sub_self,List.replicate_zero,List.nil_append,List.take_append_drop]
  refine aK.DU 2 rfl (Nat.le_refl 2) ?_ ?_<;>simp only [go_sem,Int.natCast_succ,gq,e0]
  all_goals first|rfl|omega
 obtain ⟨hi1,hi2⟩:=hi
 have hfl:=H6 (l:=l) (c:=c) hi1 (by omega)
 by_cases hlt:i<t
 ·have f1:((i:Int)<(t:Int))=True:=eq_true (by omega)
  have hst:=TS (l:=l) (c:=c) hi1 (by omega)
  (repeat' with_reducible first|intro _|refine rz ?_|refine ra ?_ ?_|omega|simp only [go_sem,f1,hfl,hst])
  refine ⟨i+1,aK.DU 2 rfl (Nat.le_refl 2) ?_ ?_,⟨by omega,by omega⟩,by omega⟩<;>simp only [go_sem,Int.natCast_succ,gq,hst]
 ·have e:i=t:=by omega
  subst e
  have f1:((i:Int)<(i:Int))=False:=eq_false (by omega)
  (repeat' with_reducible first|intro _|refine rz ?_|refine ra ?_ ?_|omega|simp only [go_sem,f1])
  refine jl.auto 2 (Nat.le_refl 2) ?_ rfl ?_<;>simp only [go_sem,Int.natCast_succ,gq]
end Go.Fv.H
/- shrink.readLine: the walk. -/
namespace Go.Fv.H
open Go Go.Proofs
theorem D6 (y:Bytes):(fH.isPrefixOf y=true∧codeOf y=0) ∨
  (fH.isPrefixOf y=false∧∃ j,j<7∧codeOf y=j+1∧(∀ i,i<j→(aO.getD i []).isPrefixOf y=false)∧(aO.getD j []).isPrefixOf y=true) ∨
  (fH.isPrefixOf y=false∧(∀ i,i<7→(aO.getD i []).isPrefixOf y=false)∧((eH.isPrefixOf y=true∧codeOf y=8)∨(eH.isPrefixOf y=false∧codeOf y=9))):=by
 unfold codeOf
 cases hp:fH.isPrefixOf y with
 | true=>exact .inl ⟨rfl,rfl⟩
 | false=>
 cases h0:(aO.getD 0 []).isPrefixOf y with
 | true=>
  refine .inr (.inl ⟨rfl,0,by decide,rfl,?_,h0⟩)
  exact fun i hi=>by omega
 | false=>
 cases h1:(aO.getD 1 []).isPrefixOf y with
 | true=>
  refine .inr (.inl ⟨rfl,1,by decide,rfl,?_,h1⟩)
  exact fun i hi=>by
   have hi:i=0:=by omega
   rcases hi with rfl
   ·exact h0
 | false=>
 cases h2:(aO.getD 2 []).isPrefixOf y with
 | true=>
  refine .inr (.inl ⟨rfl,2,by decide,rfl,?_,h2⟩)
  exact fun i hi=>by
   have hi:i=0∨i=1:=by omega
   rcases hi with rfl|rfl
   ·exact h0
   ·exact h1
 | false=>
 cases h3:(aO.getD 3 []).isPrefixOf y with
 | true=>
  refine .inr (.inl ⟨rfl,3,by decide,rfl,?_,h3⟩)
  exact fun i hi=>by
   have hi:i=0∨i=1∨i=2:=by omega
   rcases hi with rfl|rfl|rfl
   ·exact h0
   ·exact h1
   ·exact h2
 | false=>
 cases h4:(aO.getD 4 []).isPrefixOf y with
 | true=>
  refine .inr (.inl ⟨rfl,4,by decide,rfl,?_,h4⟩)
  exact fun i hi=>by
   have hi:i=0∨i=1∨i=2∨i=3:=by omega
   rcases hi with rfl|rfl|rfl|rfl
   ·exact h0
   ·exact h1
   ·exact h2
   ·exact h3
 | false=>
 cases h5:(aO.getD 5 []).isPrefixOf y with
 | true=>
  refine .inr (.inl ⟨rfl,5,by decide,rfl,?_,h5⟩)
  exact fun i hi=>by
   have hi:i=0∨i=1∨i=2∨i=3∨i=4:=by omega
   rcases hi with rfl|rfl|rfl|rfl|rfl
   ·exact h0
   ·exact h1
   ·exact h2
   ·exact h3
   ·exact h4
 | false=>
 cases h6:(aO.getD 6 []).isPrefixOf y with
 | true=>
  refine .inr (.inl ⟨rfl,6,by decide,rfl,?_,h6⟩)
  exact fun i hi=>by
   have hi:i=0∨i=1∨i=2∨i=3∨i=4∨i=5:=by omega
   rcases hi with rfl|rfl|rfl|rfl|rfl|rfl
   ·exact h0
   ·exact h1
   ·exact h2
   ·exact h3
   ·exact h4
   ·exact h5
 | false=>
 have hall:∀ i,i<7→(aO.getD i []).isPrefixOf y=false:=fun i hi=>by
  have hi:i=0∨i=1∨i=2∨i=3∨i=4∨i=5∨i=6:=by omega
  rcases hi with rfl|rfl|rfl|rfl|rfl|rfl|rfl
  ·exact h0
  ·exact h1
  ·exact h2
  ·exact h3
  ·exact h4
  ·exact h5
  ·exact h6
 cases hf:eH.isPrefixOf y with
 | true=>exact .inr (.inr ⟨rfl,hall,.inl ⟨rfl,rfl⟩⟩)
 | false=>exact .inr (.inr ⟨rfl,hall,.inr ⟨rfl,rfl⟩⟩)
structure RLx where
 p:Nat
 k:Bool
 n:Nat
 R:List Bool
structure U5 (above:List Bool) (s:Bytes) (x:RLx):Prop where
 hp:x.p≤above.length+1
 hn:x.n≤s.length
 hR:x.R.length=x.p - 1
 hz:above.length=0→x.n=0
 hq:qP true above s 0 false=match qP true above (s.drop x.n) x.p x.k with|none=>none|some (l,m)=>some (x.R++l,x.n+m)
theorem U5.first (above:List Bool) (s:Bytes):U5 above s ⟨0,false,0,[]⟩:=by
 refine ⟨Nat.zero_le _,Nat.zero_le _,rfl,fun _=>rfl,?_⟩
 dsimp only
 rw [List.drop_zero]
 cases qP true above s 0 false with
 | none=>rfl
 | some x=>obtain ⟨l,m⟩:=x;dsimp only;rw [List.nil_append,Nat.zero_add]
theorem U5.step {above:List Bool} {s:Bytes} {p n:Nat} {k:Bool} {R:List Bool} (h:U5 above s ⟨p,k,n,R⟩) (hp:p≤above.length) (h0:0<above.length) {y:Zn} (hy:rdStep true above (s.drop n) p k=some y) :
  U5 above s ⟨y.p,y.k,n+y.n,R++y.px⟩∧p<y.p:=by
 obtain ⟨h1,h2,h3,_,h4⟩:=h
 obtain ⟨g1,g2,g3,g4⟩:=qc hp hy
 dsimp only at *
 rw [List.length_drop] at g4
 refine ⟨⟨g2,by dsimp only;omega,by dsimp only;rw [List.length_append,h3,g3];omega,fun h=>by omega,?_⟩,g1⟩
 dsimp only
 rw [h4,oz hp hy,List.drop_drop]
 cases qP true above (s.drop (n+y.n)) y.p y.k with
 | none=>rfl
 | some x=>obtain ⟨l,m⟩:=x;dsimp only;rw [List.append_assoc,Nat.add_assoc]
theorem U5.fail {above:List Bool} {s:Bytes} {p n:Nat} {k:Bool} {R:List Bool} (h:U5 above s ⟨p,k,n,R⟩) (hp:p≤above.length) (h0:0<above.length) (hy:rdStep true above (s.drop n) p k=none):mD true above s=none:=by
 unfold mD
 rw [if_neg (by omega),h.hq,Ak hp hy]
theorem U5.done {above:List Bool} {s:Bytes} {p n:Nat} {k:Bool} {R:List Bool} (h:U5 above s ⟨p,k,n,R⟩) (hp:¬(p≤above.length∧0<above.length)):mD true above s=some (R,n)∧R.length=above.length:=by
 have h1:p≤above.length+1:=h.hp
 have h2:R.length=p - 1:=h.hR
 have h3:above.length=0→n=0:=h.hz
 refine ⟨?_,by omega⟩
 unfold mD
 by_cases h0:above.length=0
 ·have hR0:R.length=0:=by
   have h5:p≤1:=by rw [h0] at h1;exact h1
   rw [h2];exact Nat.sub_eq_zero_of_le h5
  rw [if_pos h0,h3 h0,List.eq_nil_of_length_eq_zero hR0]
 ·have h6:¬p≤above.length:=by omega
  rw [if_neg h0,h.hq,qQ h6]
  dsimp only
  rw [List.append_nil,Nat.add_zero]
theorem y7 {s:Bytes} {m l:Nat} (h:pG s=some (m,l)):m≤1048576:=by
 unfold pG at h
 split at h
 ·rename_i hc;cases h;exact hc.2.2.2
 ·cases h
def Ar (w:Nat) (R:List Bool):List Bool:=R++List.replicate (w - R.length) false
theorem NV {w:Nat} {R:List Bool} (h:R.length≤w):(Ar w R).length=w:=by unfold Ar;rw [List.length_append,List.length_replicate];omega
theorem vM {w:Nat} {R:List Bool} {t:Nat} (c:Bool) (h:R.length≤t) (ht:t≤w):tN (Ar w R) R.length t c=Ar w (R++List.replicate (t - R.length) c):=by
 unfold tN Ar
 rw [List.take_left,List.length_append,List.length_replicate,List.append_assoc]
 congr 2
 rw [List.drop_append,List.drop_replicate,List.drop_of_length_le h,List.nil_append]
 congr 1;omega
def Xk (s:Bytes) (above:List Bool):Option (List Bool × Nat)→AV
 | none=>.tup [.nilS,.int .i64 0,.bool false]
 | some (l,n)=>.tup [.own 0,.int .i64 n,.bool (decide (eX l above=s.take n))]
def Qs:Option (List Bool × Nat)→List (Nat × Item)
 | none=>[]
 | some (l,n)=>[(0,.row 4 (.bools l))]
theorem lI (s:Bytes) (above:List Bool):Xk s above none=.tup [.nilS,.int .i64 0,.bool false]:=rfl
theorem jX:Qs none=[]:=rfl
theorem Fp (s:Bytes) (above l:List Bool) (n:Nat):Xk s above (some (l,n))=.tup [.own 0,.int .i64 n,.bool (decide (eX l above=s.take n))]:=rfl
theorem BI (l:List Bool) (n:Nat):Qs (some (l,n))=[(0,.row 4 (.bools l))]:=rfl
theorem qN {s:Bytes} (h:pG s=none):Ce s=0∧Cc s=0∧Gp 8 s=8:=by unfold Ce Cc Gp;rw [h];exact ⟨rfl,rfl,rfl⟩
theorem qO {s:Bytes} {m l:Nat} (h:pG s=some (m,l)):Ce s=m∧Cc s=l∧Gp 8 s=0:=by unfold Ce Cc Gp;rw [h];exact ⟨rfl,rfl,rfl⟩
set_option maxHeartbeats 16000000 in
theorem NM (s:Bytes) (above:List Bool) (hs:s.length≤290000000000000) (hw:above.length≤4000) :
  aA Tryz.prog 106 [.str s,.ro (.bools above)] (Xk s above (mD true above s)) (Qs (mD true above s)):=by
 refine aA.aG Tryz.func106 rfl (by decide) (by simp [Tryz.f106]) [.cell 4 22,.cell 5 3,.tmp 6] rfl fun w0 T0 _=>?_
 simp only [Tryz.f106,au]
 (repeat' with_reducible first|intro _|exact dn|refine rn ?_|refine ra ?_ ?_)
 refine aF.intro (fun x:RLx=>⟨140,[(12,.int .i64 ((x.p:Int) - 1)),(11,.fn 146 [.ptr 0 0,.ptr 2 0]),(10,.fn 145 [.ptr 0 0,.ptr 2 0]),(9,.bool x.k),(8,.fn 144 [.ptr 1 0]),(7,.int .i64 above.length),(6,.bool false),(5,.ptr 2 0),(4,.ptr 1 0),(2,.ptr 0 0),(1,.ro (.bools above))],[(0,.box 9 [.str s]),(1,.box 22 [.own 3]),(2,.box 3 [.int .i64 x.n]),(3,.row 4 (.bools (Ar above.length x.R)))],4⟩) (U5 above s) (fun x=>above.length+1 - x.p) ⟨0,false,0,[]⟩ ?_ (U5.first above s) fun x hI=>?_
 ·refine aK.ak rfl ?_ ?_<;>simp only [go_sem,Int.natCast_succ,Ar]
  all_goals first|rfl|omega
 obtain ⟨p,k,n,R⟩:=x
 have hI0:=hI
 obtain ⟨hp,hn,hR,_,_⟩:=hI
 dsimp only at hp hn hR ⊢
 by_cases hlt:p≤above.length∧0<above.length
 rotate_left
 ·obtain ⟨hrd,hRl⟩:=hI0.done hlt
  have hrow:Ar above.length R=R:=by unfold Ar;rw [hRl,Nat.sub_self,List.replicate_zero,List.append_nil]
  have kl:=RX R above (by omega) hRl.symm
  rw [hrd,hrow]
  rw [Fp,BI]
  generalize eX R above=lb at *
  by_cases h1:(p:Int) - 1<(above.length:Int)
  ·have f1:((p:Int) - 1<(above.length:Int))=True:=eq_true h1
   have f2:(0<(above.length:Int))=False:=eq_false (by omega)
   (repeat' with_reducible first|intro _|refine rz ?_|refine ra ?_ ?_|omega|simp only [go_sem,f1,f2])
   refine aN.lex [9,10] [(1,[1]),(5,[1,2]),(7,[1,2]),(8,[1,2])] (by kernel_rfl) (by kernel_rfl) ?_
   (repeat' with_reducible first|intro _|exact dn|refine rn ?_|refine ra ?_ ?_)
   (refine QV.intro (.str lb) ?_ ?_;focus ((repeat' with_reducible first|intro _|exact dn|refine rn ?_|refine ra ?_ ?_);refine ah.k (kl) ?_;(repeat' with_reducible first|intro _|exact dn|refine rn ?_|refine ra ?_ ?_)))
   (repeat' with_reducible first|intro _|exact dn|refine rn ?_|refine ra ?_ ?_)
   refine aU.of [(0,3)] 1 ?_ rfl ?_<;>simp only [go_sem,Int.natCast_succ,Post,Nat.sub_zero]
  ·have f1:((p:Int) - 1<(above.length:Int))=False:=eq_false h1
   (repeat' with_reducible first|intro _|refine rz ?_|refine ra ?_ ?_|omega|simp only [go_sem,f1])
   refine aN.lex [9,10] [(1,[1]),(5,[1,2]),(7,[1,2]),(8,[1,2])] (by kernel_rfl) (by kernel_rfl) ?_
   (repeat' with_reducible first|intro _|exact dn|refine rn ?_|refine ra ?_ ?_)
   (refine QV.intro (.str lb) ?_ ?_;focus ((repeat' with_reducible first|intro _|exact dn|refine rn ?_|refine ra ?_ ?_);refine ah.k (kl) ?_;(repeat' with_reducible first|intro _|exact dn|refine rn ?_|refine ra ?_ ?_)))
   (repeat' with_reducible first|intro _|exact dn|refine rn ?_|refine ra ?_ ?_)
   refine aU.of [(0,3)] 1 ?_ rfl ?_<;>simp only [go_sem,Int.natCast_succ,Post,Nat.sub_zero]
 obtain ⟨hle,h0⟩:=hlt
 have f1:((p:Int) - 1<(above.length:Int))=True:=eq_true (by omega)
 have f2:(0<(above.length:Int))=True:=eq_true (by omega)
 have k3:=Ba above p ((p:Int) - 1) (!k) rfl (by omega) (by omega)
 obtain ⟨b1,hB1⟩:∃ b1,fV above p (!k)=b1:=⟨_,rfl⟩
 have hb1:=kG (r:=above) (i:=p) hle (!k)
 rw [hB1] at k3 hb1
 have hrl:=NV (w:=above.length) (R:=R) (by omega)
 have hmx:max ((p:Int) - 1) 0=((p - 1:Nat):Int):=by omega
 (repeat' with_reducible first|intro _|refine rz ?_|refine ra ?_ ?_|omega|simp only [go_sem,f1,f2])
 refine ah.k k3 ?_
 (repeat' with_reducible first|intro _|exact dn|refine rn ?_|refine ra ?_ ?_)
 rcases D6 (s.drop n) with ⟨c1,c2⟩|⟨c1,j,c3,c2,c4,c5⟩|⟨c1,c4,hc⟩
 ·have kt:=FQ s n [48,48,48,49] (by omega) hn (by decide) c1
  obtain ⟨b2,hB2⟩:∃ b2,dS above (b1+1)=b2:=⟨_,rfl⟩
  have k4:=nY above (b1+1) (b1:Int) (by omega) (by omega) hw
  rw [hB2] at k4
  have b2a:b1≤b2:=by
   by_cases h:b1<above.length
   ·have:=jf (r:=above) (i:=b1+1) (by omega);omega
   ·rw [iH (by omega)] at hB2;omega
  have b2b:b2≤above.length:=by rw [←hB2];exact gW _ _
  have hst:rdStep true above (s.drop n) p k=some ⟨b2+1,k,List.replicate (b2 - (p - 1)) k,4⟩:=by unfold rdStep;rw [if_pos c2,hB1,hB2]
  obtain ⟨g1,g2⟩:=hI0.step hle h0 hst
  have kf:=CQ (Ar above.length R) (p - 1) ((p:Int) - 1) b2 k hmx (by omega) (by omega) (by omega) (by omega)
  have hrf:=vM (w:=above.length) (R:=R) (t:=b2) k (by omega) b2b
  rw [hR] at hrf
  rw [hrf] at kf
  have f3:((b2:Int)=(p:Int) - 1)=False:=eq_false (by omega)
  refine ah.i [0,2] kt 2 ?_
  (repeat' with_reducible first|intro _|exact dn|refine rn ?_|refine ra ?_ ?_)
  refine ah.k k4 ?_
  (repeat' with_reducible first|intro _|refine rz ?_|refine ra ?_ ?_|omega|simp only [go_sem,f3])
  refine ah.i [1,3] kf 2 ?_
  (repeat' with_reducible first|intro _|exact dn|refine rn ?_|refine ra ?_ ?_)
  refine ⟨⟨b2+1,k,n+4,R++List.replicate (b2 - (p - 1)) k⟩,aK.ak rfl ?_ ?_,g1,by dsimp only;omega⟩<;>simp only [go_sem,Int.natCast_succ]
  all_goals first|rfl|omega|(refine ⟨?_,?_⟩<;>first|rfl|omega)
 ·have kt:=zi s n [48,48,48,49] (by omega) hn c1
  have ki:=VN s n (by omega) hn j (by omega) c4 (fun _=>c5)
  rw [if_pos c3,if_pos c3] at ki
  unfold QX at ki
  refine ah.i [0,2] kt 2 ?_
  (repeat' with_reducible first|intro _|exact dn|refine rn ?_|refine ra ?_ ?_)
  refine ah.ro (.ro (.strs aO)) (cO.eY nR rfl (by simp [fQ,fP,jh,iQ,lG])) (by simp only [aI,aS,bH,aV,aH,List.drop_zero,lk,reduceIte,reduceCtorEq,Nat.reduceEqDiff,Option.some.injEq,Item.row.injEq,Item.box.injEq,AV.ro.injEq,exists_eq_left,exists_and_left,exists_eq_left',exists_eq_right,and_assoc,and_true,true_and,List.cons.injEq,exists_eq',exists_eq]) (by simp [dJ,aS,aV,bH,aH,lk,aI]) rfl ?_
  (repeat' with_reducible first|intro _|exact dn|refine rn ?_|refine ra ?_ ?_)
  refine ah.i [0,2] ki 2 ?_
  have f3:(0≤(j:Int))=True:=eq_true (by omega)
  by_cases hok:p+3≤b1+j∧b1+j≤above.length+3
  ·obtain ⟨t,ht⟩:∃ t,t+3=b1+j:=⟨b1+j - 3,by omega⟩
   have hst:rdStep true above (s.drop n) p k=some ⟨t+1,!k,List.replicate (t - (p - 1)) k,(aO.getD j []).length⟩:=by
    unfold rdStep
    rw [c2,if_neg (by omega),if_pos (by omega),hB1,if_pos (by omega),show b1+(j+1) - 4=t by omega,Nat.add_sub_cancel]
   obtain ⟨g1,g2⟩:=hI0.step hle h0 hst
   have kf:=CQ (Ar above.length R) (p - 1) ((p:Int) - 1) t k hmx (by omega) (by omega) (by omega) (by omega)
   have hrf:=vM (w:=above.length) (R:=R) (t:=t) k (by omega) (by omega)
   rw [hR] at hrf
   rw [hrf] at kf
   have hv:(b1:Int)+(j:Int) - 3=(t:Int):=by omega
   have f4:((t:Int)≤(p:Int) - 1)=False:=eq_false (by omega)
   have f5:((above.length:Int)<(t:Int))=False:=eq_false (by omega)
   (repeat' with_reducible first|intro _|refine rz ?_|refine ra ?_ ?_|omega|simp only [go_sem,f3,hv,f4,f5])
   refine ah.i [1,3] kf 2 ?_
   (repeat' with_reducible first|intro _|exact dn|refine rn ?_|refine ra ?_ ?_)
   refine ⟨⟨t+1,!k,n+(aO.getD j []).length,R++List.replicate (t - (p - 1)) k⟩,aK.ak rfl ?_ ?_,g1,by dsimp only;omega⟩<;>simp only [go_sem,Int.natCast_succ]
   all_goals first|rfl|omega|(refine ⟨?_,?_⟩<;>first|rfl|omega)
  ·have hst:rdStep true above (s.drop n) p k=none:=by
    unfold rdStep
    rw [c2,if_neg (by omega),if_pos (by omega),hB1,if_neg (by omega)]
   rw [hI0.fail hle h0 hst,lI,jX]
   by_cases h4:(b1:Int)+(j:Int) - 3≤(p:Int) - 1
   ·have f4:((b1:Int)+(j:Int) - 3≤(p:Int) - 1)=True:=eq_true h4
    (repeat' with_reducible first|intro _|refine rz ?_|refine ra ?_ ?_|omega|simp only [go_sem,f3,f4])
    refine aU.auto 0 ?_ rfl ?_<;>simp only [go_sem,Int.natCast_succ,Post]
   ·have f4:((b1:Int)+(j:Int) - 3≤(p:Int) - 1)=False:=eq_false h4
    have f5:((above.length:Int)<(b1:Int)+(j:Int) - 3)=True:=eq_true (by omega)
    (repeat' with_reducible first|intro _|refine rz ?_|refine ra ?_ ?_|omega|simp only [go_sem,f3,f4,f5])
    refine aU.auto 0 ?_ rfl ?_<;>simp only [go_sem,Int.natCast_succ,Post]
 have kt:=zi s n [48,48,48,49] (by omega) hn c1
 have ki:=VN s n (by omega) hn 7 (by omega) c4 (fun h=>absurd h (by decide))
 rw [if_neg (by decide),if_neg (by decide),Nat.add_zero] at ki
 unfold QX at ki
 refine ah.i [0,2] kt 2 ?_
 (repeat' with_reducible first|intro _|exact dn|refine rn ?_|refine ra ?_ ?_)
 refine ah.ro (.ro (.strs aO)) (cO.eY nR rfl (by simp [fQ,fP,jh,iQ,lG])) (by simp only [aI,aS,bH,aV,aH,List.drop_zero,lk,reduceIte,reduceCtorEq,Nat.reduceEqDiff,Option.some.injEq,Item.row.injEq,Item.box.injEq,AV.ro.injEq,exists_eq_left,exists_and_left,exists_eq_left',exists_eq_right,and_assoc,and_true,true_and,List.cons.injEq,exists_eq',exists_eq]) (by simp [dJ,aS,aV,bH,aH,lk,aI]) rfl ?_
 (repeat' with_reducible first|intro _|exact dn|refine rn ?_|refine ra ?_ ?_)
 refine ah.i [0,2] ki 2 ?_
 (repeat' with_reducible first|intro _|exact dn|refine rn ?_|refine ra ?_ ?_)
 rcases hc with ⟨c5,c2⟩|⟨c5,c2⟩
 rotate_left
 ·have kt2:=zi s n [48,48,49] (by omega) hn c5
  have hst:rdStep true above (s.drop n) p k=none:=by
   unfold rdStep
   rw [c2,if_neg (by decide),if_neg (by decide),if_neg (by decide)]
  rw [hI0.fail hle h0 hst,lI,jX]
  refine ah.i [0,2] kt2 2 ?_
  (repeat' with_reducible first|intro _|exact dn|refine rn ?_|refine ra ?_ ?_)
  refine aU.auto 0 ?_ rfl ?_<;>simp only [go_sem,Int.natCast_succ,Post]
 have h3:=(wR (s:=s.drop n) (by omega)).2.1 c2
 rw [List.length_drop] at h3
 have kt2:=FQ s n [48,48,49] (by omega) hn (by decide) c5
 have e3:(s.drop n).drop 3=s.drop (n+3):=List.drop_drop
 have hst0:rdStep true above (s.drop n) p k=sJ true above.length (s.drop n) p k:=by
  unfold rdStep
  rw [c2,if_neg (by decide),if_neg (by decide),if_pos rfl]
 have kn:=Iq s (n+3) (by omega) (by omega)
 refine ah.i [0,2] kt2 2 ?_
 (repeat' with_reducible first|intro _|exact dn|refine rn ?_|refine ra ?_ ?_)
 cases hg1:pG (s.drop (n+3)) with
 | none=>
  obtain ⟨r1,r2,r3⟩:=qN hg1
  rw [r1,r2,r3] at kn
  have hst:rdStep true above (s.drop n) p k=none:=by rw [hst0];unfold sJ;rw [e3,hg1]
  rw [hI0.fail hle h0 hst,lI,jX]
  refine ah.i [0,2] kn 2 ?_
  (repeat' with_reducible first|intro _|exact dn|refine rn ?_|refine ra ?_ ?_)
  refine aU.auto 0 ?_ rfl ?_<;>simp only [go_sem,Int.natCast_succ,Post]
 | some z1=>
 obtain ⟨m1,l1⟩:=z1
 obtain ⟨r1,r2,r3⟩:=qO hg1
 rw [r1,r2,r3,show ((n+3:Nat):Int)+(l1:Int)=((n+3+l1:Nat):Int) by omega] at kn
 obtain ⟨w1,w2,w3⟩:=kU hg1
 have w4:=y7 hg1
 rw [List.length_drop] at w1
 have kn2:=Iq s (n+3+l1) (by omega) (by omega)
 have e4:(s.drop n).drop (3+l1)=s.drop (n+3+l1):=by rw [List.drop_drop,Nat.add_assoc]
 have hv1:((p - 1:Nat):Int)+((m1:Int) - 1)=((p - 1+(m1 - 1):Nat):Int):=by omega
 refine ah.i [0,2] kn 2 ?_
 (repeat' with_reducible first|intro _|exact dn|refine rn ?_|refine ra ?_ ?_)
 cases hg2:pG (s.drop (n+3+l1)) with
 | none=>
  obtain ⟨r1,r2,r3⟩:=qN hg2
  rw [r1,r2,r3] at kn2
  have hst:rdStep true above (s.drop n) p k=none:=by rw [hst0];unfold sJ;rw [e3,hg1];dsimp only;rw [e4,hg2]
  rw [hI0.fail hle h0 hst,lI,jX]
  refine ah.i [0,2] kn2 2 ?_
  (repeat' with_reducible first|intro _|refine rz ?_|refine ra ?_ ?_|omega|simp only [go_sem,hmx])
  refine aU.auto 0 ?_ rfl ?_<;>simp only [go_sem,Int.natCast_succ,Post]
 | some z2=>
 obtain ⟨m2,l2⟩:=z2
 obtain ⟨r1,r2,r3⟩:=qO hg2
 rw [r1,r2,r3,show ((n+3+l1:Nat):Int)+(l2:Int)=((n+3+l1+l2:Nat):Int) by omega] at kn2
 obtain ⟨w5,w6,w7⟩:=kU hg2
 have w8:=y7 hg2
 rw [List.length_drop] at w5
 obtain ⟨A1,hA1⟩:∃ A1,p - 1+(m1 - 1)=A1:=⟨_,rfl⟩
 obtain ⟨A2,hA2⟩:∃ A2,A1+(m2 - 1)=A2:=⟨_,rfl⟩
 rw [hA1] at hv1
 have hv2:(A1:Int)+((m2:Int) - 1)=(A2:Int):=by omega
 have hstf:rdStep true above (s.drop n) p k=if (true=true→p≤A1)∧A2≤above.length∧p≤A2 then some ⟨A2+1,k,List.replicate (m1 - 1) k++List.replicate (m2 - 1) (!k),3+l1+l2⟩ else none:=by
  rw [hst0];unfold sJ;rw [e3,hg1];dsimp only;rw [e4,hg2];dsimp only;rw [hA1,hA2]
 refine ah.i [0,2] kn2 2 ?_
 by_cases hok:p≤A1∧A2≤above.length∧p≤A2
 ·have hst:=hstf
  rw [if_pos ⟨fun _=>hok.1,hok.2⟩] at hst
  obtain ⟨g1,g2⟩:=hI0.step hle h0 hst
  have kf:=CQ (Ar above.length R) (p - 1) ((p:Int) - 1) A1 k hmx (by omega) (by omega) (by omega) (by omega)
  have hrf:=vM (w:=above.length) (R:=R) (t:=A1) k (by omega) (by omega)
  rw [hR,show A1 - (p - 1)=m1 - 1 by omega] at hrf
  rw [hrf] at kf
  have hRl:(R++List.replicate (m1 - 1) k).length=A1:=by rw [List.length_append,List.length_replicate];omega
  have hrl2:=NV (w:=above.length) (R:=R++List.replicate (m1 - 1) k) (by omega)
  have kf2:=CQ (Ar above.length (R++List.replicate (m1 - 1) k)) A1 (A1:Int) A2 (!k) (by omega) (by omega) (by omega) (by omega) (by omega)
  have hrf2:=vM (w:=above.length) (R:=R++List.replicate (m1 - 1) k) (t:=A2) (!k) (by omega) (by omega)
  rw [hRl,show A2 - A1=m2 - 1 by omega,List.append_assoc] at hrf2
  rw [hrf2] at kf2
  have f4:((p:Int) - 1<(A1:Int))=True:=eq_true (by omega)
  have f5:((A2:Int)≤(above.length:Int))=True:=eq_true (by omega)
  have f6:((p:Int) - 1<(A2:Int))=True:=eq_true (by omega)
  (repeat' with_reducible first|intro _|refine rz ?_|refine ra ?_ ?_|omega|simp only [go_sem,hmx,hv1,hv2,f4,f5,f6])
  refine ah.i [1,3] kf 2 ?_
  (repeat' with_reducible first|intro _|exact dn|refine rn ?_|refine ra ?_ ?_)
  refine ah.i [1,3] kf2 2 ?_
  (repeat' with_reducible first|intro _|exact dn|refine rn ?_|refine ra ?_ ?_)
  refine ⟨⟨A2+1,k,n+(3+l1+l2),R++(List.replicate (m1 - 1) k++List.replicate (m2 - 1) (!k))⟩,aK.ak rfl ?_ ?_,g1,by dsimp only;omega⟩<;>simp only [go_sem,Int.natCast_succ]
  all_goals first|rfl|omega|(refine ⟨?_,?_⟩<;>first|rfl|omega)
 ·have hst:=hstf
  rw [if_neg (fun h=>hok ⟨h.1 rfl,h.2⟩)] at hst
  rw [hI0.fail hle h0 hst,lI,jX]
  by_cases h4:(p:Int) - 1<(A1:Int)
  ·have f4:((p:Int) - 1<(A1:Int))=True:=eq_true h4
   by_cases h5:(A2:Int)≤(above.length:Int)
   ·have f5:((A2:Int)≤(above.length:Int))=True:=eq_true h5
    exact absurd ⟨by omega,by omega,by omega⟩ hok
   ·have f5:((A2:Int)≤(above.length:Int))=False:=eq_false h5
    (repeat' with_reducible first|intro _|refine rz ?_|refine ra ?_ ?_|omega|simp only [go_sem,hmx,hv1,hv2,f4,f5])
    refine aU.auto 0 ?_ rfl ?_<;>simp only [go_sem,Int.natCast_succ,Post]
  ·have f4:((p:Int) - 1<(A1:Int))=False:=eq_false h4
   (repeat' with_reducible first|intro _|refine rz ?_|refine ra ?_ ?_|omega|simp only [go_sem,hmx,hv1,hv2,f4])
   refine aU.auto 0 ?_ rfl ?_<;>simp only [go_sem,Int.natCast_succ,Post]
end Go.Fv.H
