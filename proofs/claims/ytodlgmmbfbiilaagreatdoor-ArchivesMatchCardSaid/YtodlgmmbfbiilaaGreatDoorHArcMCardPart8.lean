/-
  A part of the proof of the claim: walks over the program's functions and the plain laws that these need. No condition of its own.
-/
import Derived.Test.YtodlgmmbfbiilaaGreatDoorHArcMCardPart7
import Derived.Test.YtodlgmmbfbiilaaGreatDoorHArcMCardPart4
import Derived.Test.YtodlgmmbfbiilaaGreatDoorHArcMCardPart5
import Derived.Test.YtodlgmmbfbiilaaGreatDoorHArcMCardPart6
import Derived.Test.YtodlgmmbfbiilaaGreatDoorHArcMCardPart3
import Derived.Test.YtodlgmmbfbiilaaGreatDoorHArcMCardPart1
set_option linter.unusedSimpArgs false
set_option linter.unusedVariables false
set_option linter.unnecessarySimpa false
set_option maxRecDepth 8000
/- Codes of pages are short. -/
namespace Go.Fv.H
open Go
theorem QG:∀ (f n:Nat),n≤f→1≤n→(jh n).length≤n
 | 0,n,h,h1=>by omega
 | f+1,n,h,h1=>by
  by_cases h2:n<2
  ·have:n=1:=by omega
   subst this;rw [pF (by decide)];exact Nat.le_refl _
  ·have ih:=QG f (n / 2) (by omega) (by omega)
   rw [qX h2,List.length_append]
   simp only [List.length_cons,List.length_nil]
   omega
theorem I5 (k:Nat):(dS (k+1)).length≤2*k+1:=by
 have:=QG (k+1) (k+1) (Nat.le_refl _) (by omega)
 rw [Ci];omega
theorem VO (k:Nat):(aP.getD k []).length≤7:=by
 rcases k with _|_|_|_|_|_|_|k
 all_goals first|decide|exact Nat.zero_le _
theorem WU {row above:List Bool} (hw:above.length=row.length) {p:Nat} (hp:p≤row.length) (ink:Bool):(aV row above p ink).c.length+7*p≤7*(aV row above p ink).p:=by
 have hs:=lq hw hp ink
 have h1:=iZ hp
 have h2:=gW row p
 unfold aV at hs ⊢
 split
 ·rename_i hc
  rw [if_pos hc] at hs
  dsimp only at hs ⊢
  have:fJ.length=4:=rfl
  omega
 ·rename_i hc
  rw [if_neg hc] at hs
  split
  ·rename_i hd
   rw [if_pos hd] at hs
   dsimp only at hs ⊢
   have:=VO (dQ row p+3 - fV above p (!ink))
   omega
  ·rename_i hd
   rw [if_neg hd] at hs
   dsimp only at hs ⊢
   have e:eF.length=3:=rfl
   have g1:=I5 (dQ row p - (p - 1))
   have g2:=I5 (dQ row (dQ row p+1) - dQ row p)
   rw [List.length_append,List.length_append,e]
   have h3:dQ row p≤dQ row (dQ row p+1):=by
    by_cases h:dQ row p<row.length
    ·have:=iZ (r:=row) (i:=dQ row p+1) (by omega);omega
    ·rw [iG (r:=row) (i:=dQ row p+1) (by omega)];omega
   omega
theorem O8 {row above:List Bool} (hw:above.length=row.length):(eY row above).length≤7*(row.length+1):=by
 have key:∀ (f p:Nat) (ink:Bool),row.length+1 - p≤f→p≤row.length+1→(mQ row above p ink).length+7*p≤7*(row.length+1):=by
  intro f
  induction f with
  | zero=>intro p ink h hp;rw [kM (by omega)];simp;omega
  | succ f ih=>
   intro p ink h hp1
   by_cases hp:p≤row.length
   ·have hs:=lq hw hp ink
    have hsh:=WU hw hp ink
    rw [oh hw hp,List.length_append]
    have:=ih (aV row above p ink).p (aV row above p ink).k (by omega) (by omega)
    omega
   ·rw [kM hp];simp;omega
 unfold eY
 split
 ·simp
 ·have:=key (row.length+1) 0 false (by omega) (by omega)
  omega
theorem AZ {w h:Nat} {p:List Bool} (hp:p.length=w*h):∀ y,y≤h→(eP w p y).length≤7*(w+1)*y
 | 0,_=>by simp [eP]
 | y+1,hy=>by
  have h1:=AZ hp y (by omega)
  have hl:=iC hp (y:=y) (by omega)
  have h2:=O8 (row:=rowP w p y) (above:=sN w p y) (by rw [CV hp (by omega),hl])
  rw [hl] at h2
  rw [pO,List.length_append,Nat.mul_succ];omega
def sumT (l:List Int):Nat:=(l.map Int.toNat).sum
theorem Uk {l:List Int} (hl:∀ x,x∈l→0≤x):(dI l).length≤2*sumT l+l.length:=by
 induction l with
 | nil=>simp [dI]
 | cons x l ih=>
  have h1:=ih fun y hy=>hl y (.tail _ hy)
  have h2:=hl x (.head _)
  have h3:=I5 x.toNat
  have e0:(x+1).toNat=x.toNat+1:=by omega
  have e:dI (x::l)=dS (x+1).toNat++dI l:=by unfold dI;simp
  have es:sumT (x::l)=x.toNat+sumT l:=rfl
  rw [e,List.length_append,List.length_cons,es,e0];omega
theorem ZC {l:List Int} (hl:∀ x,x∈l→0≤x):(sumT l:Int)=uH l:=by
 induction l with
 | nil=>rfl
 | cons x l ih=>
  have h1:=ih fun y hy=>hl y (.tail _ hy)
  have h2:=hl x (.head _)
  have es:sumT (x::l)=x.toNat+sumT l:=rfl
  have ei:uH (x::l)=x+uH l:=rfl
  rw [es,ei];omega
theorem P8 {r:List Bool} (h:0<r.length):uH (iW r)=r.length:=by
 obtain ⟨l0,x,h1,h2⟩:=Af r (r.length - 1) (by omega)
 have e:r.length - 1+1=r.length:=by omega
 rw [e] at h1 h2
 have hr:iW r=l0++[x]:=h1
 have:=h2.sum
 rw [hr,yU];exact this
theorem EZ {w h:Nat} (hw0:0<w) {p:List Bool} (hp:p.length=w*h):∀ y,y≤h→(iY w p y).length≤3*(w+1)*y
 | 0,_=>by simp [iY]
 | y+1,hy=>by
  have h1:=EZ hw0 hp y (by omega)
  have hl:=iC hp (y:=y) (by omega)
  obtain ⟨h2,h3⟩:=vJ (rowP w p y)
  have h4:=Uk (l:=iW (rowP w p y)) fun x hx=>(h3 x hx).1
  have h5:=ZC (l:=iW (rowP w p y)) fun x hx=>(h3 x hx).1
  have h6:=P8 (r:=rowP w p y) (by omega)
  rw [rW,List.length_append,Nat.mul_succ]
  omega
theorem Le {w h:Nat} {p:List Bool} (g:zo w h p) (kind:Int):(bV w h p kind).length≤1048580:=by
 have hw0:=g.w0
 have hh:=g.h1
 have hwh:=g.wh
 have hp:=g.p
 have b0:(w+1)*h≤1052576:=by rw [Nat.add_mul,Nat.one_mul];omega
 have b1:3*(w+1)*h≤3157728:=by rw [Nat.mul_assoc];omega
 have b2:7*(w+1)*h≤7368032:=by rw [Nat.mul_assoc];omega
 have h1:=EZ hw0 hp h (Nat.le_refl _)
 have h2:=AZ hp h (Nat.le_refl _)
 have h3:=Qv w h p
 unfold bV
 split
 ·rw [oq,jP];omega
 ·split
  ·omega
  ·split
   ·rw [oq];omega
   ·rw [oq];omega
end Go.Fv.H
/- shrink.fromAdaptive: the walk. -/
namespace Go.Fv.H
open Go Go.Proofs
theorem Jl (d:Bytes) (hd:d.length≤300000000000000):fA Tryz.prog 140 [.ptr 0 0] [(0,.box 9 [.str d])] 1 (.int .u32 (gu d)) [(0,.box 9 [.str (d.drop 1)])]:=by
 refine fA.aG Tryz.func140 rfl (by decide) (by simp [Tryz.f140]) GV [.tmp 1] rfl fun w0 T0 _=>?_
 simp only [Tryz.f140,au]
 cases d with
 | nil=>
  (repeat' with_reducible first|intro _|exact dn|refine rn ?_|refine ra ?_ ?_)
  refine jf.auto 1 (Nat.le_refl 1) ?_ rfl ?_<;>simp only [go_sem,Int.natCast_succ,gq,gu]
  all_goals first|rfl|exact ⟨rfl,rfl⟩
 | cons c d=>
  have h0:(c::d=[])=False:=eq_false (by simp)
  have hl:(c::d).length=d.length+1:=rfl
  have hg:(c::d).getD 0 0=c:=rfl
  have hdr:((c::d).drop 1).take ((c::d).length - 1)=d:=by rw [hl];simp
  have hdr1:(c::d).drop 1=d:=rfl
  have hn:gu (c::d)=c.toNat:=rfl
  rw [hdr1,hn]
  have hcl:c.toNat<256:=c.toNat_lt
  (repeat' with_reducible first|intro _|refine rz ?_|refine ra ?_ ?_|omega|simp only [go_sem,h0,hg,hdr,hl,List.take_length])
  refine jf.auto 1 (Nat.le_refl 1) ?_ rfl ?_<;>simp only [go_sem,Int.natCast_succ,gq]
theorem Oy (a b:Nat) (ha:a<4294967296) (hb:b<4294967296):(BitVec.ofInt 32 (a:Int)).toNat=a∧(BitVec.ofInt 32 (b:Int)).toNat=b:=by
 rw [BitVec.ofInt_natCast,BitVec.toNat_ofNat,BitVec.ofInt_natCast,BitVec.toNat_ofNat]
 exact ⟨Nat.mod_eq_of_lt (by omega),Nat.mod_eq_of_lt (by omega)⟩
theorem Zq {a c:Nat} (ha:a*256<4294967296) (hc:c<256):gY .or .u32 ((a*256:Nat):Int) (c:Int)=((a*256+c:Nat):Int):=by
 obtain ⟨e1,e2⟩:=Oy (a*256) c (by omega) (by omega)
 show IntKind.u32.wrap (((BitVec.ofInt 32 ((a*256:Nat):Int)) ||| (BitVec.ofInt 32 (c:Int))).toNat:Int)=_
 have h:=Nat.two_pow_add_eq_or_of_lt (i:=8) (b:=c) (by omega) a
 rw [BitVec.toNat_or,e1,e2,Nat.mul_comm a 256,←h]
 exact jM (IQ.2 (by omega))
def Ku (d:Bytes):Nat→Nat
 | 0=>0
 | i+1=>Ku d i*256+gu (d.drop i)
theorem OB (d:Bytes):∀ i,Ku d i<256 ^ i
 | 0=>Nat.one_pos
 | i+1=>by
  have h1:=OB d i
  have h2:=ji (d.drop i)
  show Ku d i*256+gu (d.drop i)<_
  rw [Nat.pow_succ];omega
theorem Rh (d:Bytes):four d=Ku d 4:=by
 unfold four
 show _=(((0*256+gu (d.drop 0))*256+gu (d.drop 1))*256+gu (d.drop 2))*256+gu (d.drop 3)
 rw [List.drop_zero];omega
theorem Dl (W H:Nat) (d:Bytes) (n:Nat):∀ i j,i≤j→(dJ W H d n i).P.getD j false=false
 | 0,j,_=>by
  show (List.replicate n false).getD j false=false
  rw [List.getD_eq_getElem?_getD,List.getElem?_replicate];split<;>rfl
 | i+1,j,h=>by
  have ih:=Dl W H d n i j (by omega)
  have hP:(dJ W H d n (i+1)).P=(dJ W H d n i).P.set i ((dJ W H d n i).k ((dJ W H d n i).c W H i)):=by
   show (((dJ W H d n i).mid _ i).norm).P=_
   unfold AD.norm
   split<;>rfl
  rw [hP,List.getD_eq_getElem?_getD,List.getElem?_set_ne (by omega),←List.getD_eq_getElem?_getD]
  exact ih
theorem GI (W H:Nat) (d:Bytes) (n:Nat):∀ i,(dJ W H d n i).data.length≤d.length
 | 0=>by show (d.drop 4).length≤_;rw [List.length_drop];omega
 | i+1=>by
  have ih:=GI W H d n i
  show (((dJ W H d n i).mid _ i).norm).data.length≤_
  unfold AD.norm
  split
  ·show ((dJ W H d n i).data.drop 1).length≤_;rw [List.length_drop];omega
  ·exact ih
theorem wrap32 (x:Int):IntKind.u32.wrap x=x%4294967296:=by simp [IntKind.wrap,IntKind.signed,IntKind.bits]
theorem NC {α:Type} {l:List α} {i:Nat} {d:α} (h:i<l.length):l.set i (l.getD i d)=l:=by
 apply List.ext_getElem?
 intro j
 rw [List.getElem?_set]
 split
 ·rename_i e
  subst e
  rw [getD_lt h,List.getElem?_eq_getElem h]
 ·rfl
set_option maxHeartbeats 16000000 in
theorem BI (w h:Nat) (hw0:0<w) (hw:w≤4000) (hh:h≤4000) (hwh:w*h≤1048576) (d:Bytes) (hd:d.length≤200000000000000) :
  aA Tryz.prog 103 [.str d,.int .i64 w,.int .i64 h] (.agg [.int .i64 w,.int .i64 h,.own 0]) [(0,.row 4 (.bools (dJ w h d (w*h) (w*h)).P))]:=by
 refine aA.aG Tryz.func103 rfl (by decide) (by simp [Tryz.f103]) [.cell 6 24] rfl fun w0 T0 _=>?_
 simp only [Tryz.f103,au]
 have e1:(w:Int)*(h:Int)=((w*h:Nat):Int):=(Int.natCast_mul w h).symm
 obtain ⟨n,hn⟩:∃ n,w*h=n:=⟨_,rfl⟩
 rw [hn] at e1 ⊢
 (repeat' with_reducible first|intro _|refine rz ?_|refine ra ?_ ?_|omega|simp only [go_sem,e1])
 refine aF.intro (fun i:Nat=>⟨91,[(23,.int .i64 i),(9,.int .u32 (Ku d i)),(8,.fn 140 [.ptr 0 0]),(7,.ptr 3 0),(6,.ptr 1 0),(3,.ptr 0 0),(1,.int .i64 w),(2,.int .i64 h)],[(0,.box 9 [.str (d.drop i)]),(1,.box 24 [.int .i64 0,.int .i64 0,.nilS]),(2,.row 4 (.bools (List.replicate n false))),(3,.box 24 [.int .i64 w,.int .i64 h,.own 2])],4⟩) (fun i=>i≤4) (fun i=>4 - i) 0 ?_ (Nat.zero_le _) fun i hi=>?_
 ·refine aK.ak rfl ?_ ?_<;>simp only [go_sem,Int.natCast_succ,Ku]
 by_cases hi4:i<4
 ·have f1:((i:Int)<4)=True:=eq_true (by omega)
  have hcd:Ku d (i+1)=Ku d i*256+gu (d.drop i):=rfl
  have hc0:=OB d i
  have hcp:256 ^ i≤256 ^ 3:=Nat.pow_le_pow_right (by decide) (by omega)
  rw [show (256:Nat) ^ 3=16777216 from rfl] at hcp
  have kn:=Jl (d.drop i) (by rw [List.length_drop];omega)
  rw [List.drop_drop] at kn
  have hnx:=ji (d.drop i)
  have ho:=Zq (a:=Ku d i) (c:=gu (d.drop i)) (by omega) hnx
  have hss:lG .u32 ((Ku d i:Nat):Int) 8=((Ku d i*256:Nat):Int):=by
   unfold lG
   rw [show (2:Int) ^ (min (8:Int).toNat IntKind.u32.bits)=256 by rfl];omega
  generalize gu (d.drop i)=nx at *
  generalize Ku d i=cd at *
  generalize d.drop i=dd at *
  (repeat' with_reducible first|intro _|refine rz ?_|refine ra ?_ ?_|omega|simp only [go_sem,f1,hss])
  refine ah.i [0] kn 1 ?_
  (repeat' with_reducible first|intro _|exact dn|refine rn ?_|refine ra ?_ ?_)
  (repeat' with_reducible first|intro _|refine rz ?_|refine ra ?_ ?_|omega|simp only [go_sem,ho])
  refine ⟨i+1,aK.ak rfl ?_ ?_,by omega,by omega⟩<;>simp only [go_sem,Int.natCast_succ,hcd]
 have f1:((i:Int)<4)=False:=eq_false (by omega)
 have e:i=4:=by omega
 subst e
 rw [←Rh]
 (repeat' with_reducible first|intro _|refine rz ?_|refine ra ?_ ?_|omega|simp only [go_sem,f1])
 refine ah.o Ez 1 ?_
 (repeat' with_reducible first|intro _|exact dn|refine rn ?_|refine ra ?_ ?_)
 refine aF.intro (fun i:Nat=>⟨91,[(35,.int .i64 i),(34,.int .i64 n),(11,.own 4),(10,.int .u32 (dJ w h d n i).span),(9,.int .u32 (dJ w h d n i).code),(8,.fn 140 [.ptr 0 0]),(7,.ptr 3 0),(6,.ptr 1 0),(3,.ptr 0 0),(1,.int .i64 w),(2,.int .i64 h)],[(0,.box 9 [.str (dJ w h d n i).data]),(1,.box 24 [.int .i64 0,.int .i64 0,.nilS]),(2,.row 4 (.bools (dJ w h d n i).P)),(3,.box 24 [.int .i64 w,.int .i64 h,.own 2]),(4,.row 172 (.ints .u32 (iL (dJ w h d n i).tab)))],5⟩) (fun i=>i≤n) (fun i=>n - i) 0 ?_ (Nat.zero_le _) fun i hi=>?_
 ·refine aK.ak rfl ?_ ?_<;>simp only [go_sem,Int.natCast_succ]
  all_goals first|rfl|exact ⟨rfl,rfl⟩|exact ⟨rfl,rfl,rfl⟩|(refine ⟨?_,?_⟩<;>rfl)|trace_state
 have hok:=xR w h d n i
 have hdl:=GI w h d n i
 by_cases hlt:i<n
 rotate_left
 ·have f1:((i:Int)<(n:Int))=False:=eq_false (by omega)
  have e:i=n:=by omega
  subst e
  (repeat' with_reducible first|intro _|refine rz ?_|refine ra ?_ ?_|omega|simp only [go_sem,f1])
  refine aT.of [(0,2)] 1 ?_ (by rfl) ?_<;>simp only [go_sem,Int.natCast_succ,Post]
 have f1:((i:Int)<(n:Int))=True:=eq_true (by omega)
 have hw1:i%w<w:=Nat.mod_lt _ hw0
 have hw2:i / w<h:=Nat.div_lt_of_lt_mul (by omega)
 have d1:(i:Int).tmod (w:Int)=((i%w:Nat):Int):=by rw [Int.tmod_eq_emod_of_nonneg (Int.natCast_nonneg _)];rfl
 have d2:(i:Int).tdiv (w:Int)=((i / w:Nat):Int):=by rw [Int.tdiv_eq_ediv_of_nonneg (Int.natCast_nonneg _)];rfl
 have hnext:dJ w h d n (i+1)=((dJ w h d n i).mid (kJ w h (dJ w h d n i).P ((i%w:Nat):Int) ((i / w:Nat):Int)) i).norm:=rfl
 have hPi:=Dl w h d n i i (Nat.le_refl _)
 have hPs:=NC (l:=(dJ w h d n i).P) (i:=i) (d:=false) (by rw [hok.P];exact hlt)
 rw [hPi] at hPs
 obtain ⟨xx,hxx⟩:∃ xx,i%w=xx:=⟨_,rfl⟩
 obtain ⟨yy,hyy⟩:∃ yy,i / w=yy:=⟨_,rfl⟩
 rw [hxx] at hw1 d1 hnext
 rw [hyy] at hw2 d2 hnext
 have kc:=DC w h hw hh (dJ w h d n i).P (by rw [hok.P,hn]) (xx:Int) (yy:Int) (by omega) (by omega)
 have hc:=lJ w h (dJ w h d n i).P (xx:Int) (yy:Int)
 have hwne:¬(w:Int)=0:=by omega
 generalize kJ w h (dJ w h d n i).P (xx:Int) (yy:Int)=c at *
 generalize dJ w h d n i=s at *
 obtain ⟨⟨ht1,ht2⟩,hm1,hm2⟩:=AD.Pg hok hc
 have hlo:=hok.lo
 have hhi:=hok.hi
 have hlen:=hok.len
 have hcode:=hok.code
 have hPl:=hok.P
 have hg:=CJ (l:=s.tab) (i:=c) (by rw [hlen];exact hc)
 have hgl:=yJ s.tab
 have q1:((s.span:Nat):Int).tdiv 4096=((s.span / 4096:Nat):Int):=by rw [Int.tdiv_eq_ediv_of_nonneg (Int.natCast_nonneg _)];rfl
 have q2:((s.span / 4096:Nat):Int)*((s.tab.getD c 0:Nat):Int)=((s.m c:Nat):Int):=(Int.natCast_mul _ _).symm
 (repeat' with_reducible first|intro _|refine rz ?_|refine ra ?_ ?_|omega|simp only [go_sem,f1])
 refine aN.lex [] [] (by kernel_rfl) (by kernel_rfl) ?_
 (repeat' with_reducible first|intro _|refine rz ?_|refine ra ?_ ?_|omega|simp only [go_sem,d1,d2,hwne])
 (refine QV.intro (.int .i64 c) ?_ ?_;focus ((repeat' with_reducible first|intro _|exact dn|refine rn ?_|refine ra ?_ ?_);refine ah.k (kc) ?_;(repeat' with_reducible first|intro _|exact dn|refine rn ?_|refine ra ?_ ?_)))
 have hmid:=AD.rO hok hc i
 have hmok:=AD.CP hmid
 have hmlo:=hmok.lo
 obtain ⟨M,hM⟩:∃ M,s.mid c i=M:=⟨_,rfl⟩
 have hMt:M.tab=s.tab.set c (zQ (s.tab.getD c 0) (s.k c)):=by rw [←hM];rfl
 have hMs0:M.span=if s.k c=true then s.span - s.m c else s.m c:=by rw [←hM];rfl
 have hMc0:M.code=if s.k c=true then s.code - s.m c else s.code:=by rw [←hM];rfl
 have hMd:M.data=s.data:=by rw [←hM];rfl
 have hMP0:M.P=s.P.set i (s.k c):=by rw [←hM];rfl
 rw [hM] at hnext hmlo hmid
 obtain ⟨hmid1,hmid2,hmid3,_,_,_⟩:=hmid
 have kl:=Eb (s.tab.getD c 0) (s.k c) ⟨ht1,ht2⟩
 have hset:=yK s.tab c (zQ (s.tab.getD c 0) (s.k c))
 have hlrn:=zS ⟨ht1,ht2⟩ (s.k c)
 by_cases hk:s.m c≤s.code
 ·have hkt:s.k c=true:=decide_eq_true hk
  rw [hkt] at hMt hMs0 hMc0 hMP0 kl hset hlrn
  rw [if_pos rfl] at hMs0 hMc0
  have hMs:M.span=s.span - s.m c:=hMs0
  have hMc:M.code=s.code - s.m c:=hMc0
  have hMP:M.P=s.P.set i true:=hMP0
  have f2:((s.code:Int)<((s.m c:Nat):Int))=False:=eq_false (by omega)
  have hspI:(s.span:Int) - (s.m c:Int)=((s.span - s.m c:Nat):Int):=by omega
  have hcdI:(s.code:Int) - (s.m c:Int)=((s.code - s.m c:Nat):Int):=by omega
  have hPg:(s.P.set i true).getD i false=true:=by
   rw [List.getD_eq_getElem?_getD,List.getElem?_set_self (by rw [hPl];exact hlt)];rfl
  have hPl2:(s.P.set i true).length=n:=by rw [List.length_set,hPl]
  (repeat' with_reducible first|intro _|refine rz ?_|refine ra ?_ ?_|omega|simp only [go_sem,q1,q2,hg,hgl,hlen,f2,hspI,hcdI])
  refine aN.lex [13] [] (by kernel_rfl) (by kernel_rfl) ?_
  (repeat' with_reducible first|intro _|refine rz ?_|refine ra ?_ ?_|omega|simp only [go_sem,hgl,hlen,hPg,hPl2,hg,hPl])
  (refine QV.intro (.int .u32 (zQ (s.tab.getD c 0) true)) ?_ ?_;focus ((repeat' with_reducible first|intro _|exact dn|refine rn ?_|refine ra ?_ ?_);refine ah.k (kl) ?_;(repeat' with_reducible first|intro _|exact dn|refine rn ?_|refine ra ?_ ?_)))
  (repeat' with_reducible first|intro _|refine rz ?_|refine ra ?_ ?_|omega|simp only [go_sem,hgl,hlen,hset])
  refine aF.intro (fun r:AD=>⟨91,[(35,.int .i64 i),(34,.int .i64 n),(11,.own 4),(10,.int .u32 r.span),(9,.int .u32 r.code),(8,.fn 140 [.ptr 0 0]),(7,.ptr 3 0),(6,.ptr 1 0),(3,.ptr 0 0),(1,.int .i64 w),(2,.int .i64 h)],[(0,.box 9 [.str r.data]),(1,.box 24 [.int .i64 0,.int .i64 0,.nilS]),(2,.row 4 (.bools r.P)),(3,.box 24 [.int .i64 w,.int .i64 h,.own 2]),(4,.row 172 (.ints .u32 (iL r.tab)))],5⟩) (fun r=>r=M∨r=M.norm) (fun r=>if r.span<16777216 then 1 else 0) M ?_ (.inl rfl) fun r hr=>?_
  ·refine aK.ak rfl ?_ ?_<;>simp only [go_sem,Int.natCast_succ,hMs,hMt,hMc,hMd,hMP]
   all_goals first|rfl|exact ⟨rfl,rfl⟩
  by_cases hs2:r.span<16777216
  ·have hrM:r=M:=hr.resolve_right fun e=>by rw [e] at hs2;omega
   subst hrM
   have hnm:r.norm=⟨r.code*256%4294967296+gu r.data,r.span*256,r.tab,r.data.drop 1,r.P⟩:=by unfold AD.norm;rw [if_pos hs2]
   have f5:((r.span:Int)<16777216)=True:=eq_true (by omega)
   have hss:lG .u32 (r.span:Int) 8=((r.span*256:Nat):Int):=by
    unfold lG
    rw [show (2:Int) ^ (min (8:Int).toNat IntKind.u32.bits)=256 by rfl];omega
   have hsc:lG .u32 (r.code:Int) 8=((r.code*256:Nat):Int):=by
    unfold lG
    rw [show (2:Int) ^ (min (8:Int).toNat IntKind.u32.bits)=256 by rfl];omega
   have hwr:IntKind.u32.wrap ((r.code*256:Nat):Int)=((r.code*256%4294967296:Nat):Int):=by rw [wrap32];omega
   have hmul:r.code*256%4294967296=r.code%16777216*256:=by omega
   have hnx:=ji r.data
   have ho:=Zq (a:=r.code%16777216) (c:=gu r.data) (by omega) hnx
   rw [←hmul] at ho
   have kn:=Jl r.data (by rw [hMd];omega)
   (repeat' with_reducible first|intro _|refine rz ?_|refine ra ?_ ?_|omega|simp only [go_sem,f5,hsc])
   refine bY.at _ hwr ?_
   (repeat' with_reducible first|intro _|exact dn|refine rn ?_|refine ra ?_ ?_)
   refine ah.i [0] kn 1 ?_
   (repeat' with_reducible first|intro _|exact dn|refine rn ?_|refine ra ?_ ?_)
   (repeat' with_reducible first|intro _|refine rz ?_|refine ra ?_ ?_|omega|simp only [go_sem,ho,hss])
   refine ⟨r.norm,aK.ak rfl ?_ ?_,.inr rfl,?_⟩
   ·simp only [go_sem,Int.natCast_succ,hnm]
    all_goals first|rfl|omega|(refine ⟨?_,?_⟩<;>first|rfl|omega)
   ·simp only [go_sem,Int.natCast_succ,hnm]
   ·rw [if_pos hs2,if_neg (by omega)];omega
  ·have hrn:r=M.norm:=by
    rcases hr with e|e
    ·rw [e] at hs2 ⊢;unfold AD.norm;rw [if_neg hs2]
    ·exact e
   have f5:((r.span:Int)<16777216)=False:=eq_false (by omega)
   rw [←hrn] at hnext
   (repeat' with_reducible first|intro _|refine rz ?_|refine ra ?_ ?_|omega|simp only [go_sem,f5])
   refine ⟨i+1,aK.ak rfl ?_ ?_,by omega,by omega⟩<;>simp only [go_sem,Int.natCast_succ,hnext]
 ·have hkt:s.k c=false:=decide_eq_false hk
  rw [hkt] at hMt hMs0 hMc0 hMP0 kl hset hlrn
  rw [if_neg (by decide)] at hMs0 hMc0
  have hMs:M.span=s.m c:=hMs0
  have hMc:M.code=s.code:=hMc0
  have hMP:M.P=s.P:=by rw [hMP0,hPs]
  have f2:((s.code:Int)<((s.m c:Nat):Int))=True:=eq_true (by omega)
  (repeat' with_reducible first|intro _|refine rz ?_|refine ra ?_ ?_|omega|simp only [go_sem,q1,q2,hg,hgl,hlen,f2])
  refine aN.lex [13] [] (by kernel_rfl) (by kernel_rfl) ?_
  (repeat' with_reducible first|intro _|refine rz ?_|refine ra ?_ ?_|omega|simp only [go_sem,hgl,hlen,hg,hPl,hPi])
  (refine QV.intro (.int .u32 (zQ (s.tab.getD c 0) false)) ?_ ?_;focus ((repeat' with_reducible first|intro _|exact dn|refine rn ?_|refine ra ?_ ?_);refine ah.k (kl) ?_;(repeat' with_reducible first|intro _|exact dn|refine rn ?_|refine ra ?_ ?_)))
  (repeat' with_reducible first|intro _|refine rz ?_|refine ra ?_ ?_|omega|simp only [go_sem,hgl,hlen,hset])
  refine aF.intro (fun r:AD=>⟨91,[(35,.int .i64 i),(34,.int .i64 n),(11,.own 4),(10,.int .u32 r.span),(9,.int .u32 r.code),(8,.fn 140 [.ptr 0 0]),(7,.ptr 3 0),(6,.ptr 1 0),(3,.ptr 0 0),(1,.int .i64 w),(2,.int .i64 h)],[(0,.box 9 [.str r.data]),(1,.box 24 [.int .i64 0,.int .i64 0,.nilS]),(2,.row 4 (.bools r.P)),(3,.box 24 [.int .i64 w,.int .i64 h,.own 2]),(4,.row 172 (.ints .u32 (iL r.tab)))],5⟩) (fun r=>r=M∨r=M.norm) (fun r=>if r.span<16777216 then 1 else 0) M ?_ (.inl rfl) fun r hr=>?_
  ·refine aK.ak rfl ?_ ?_<;>simp only [go_sem,Int.natCast_succ,hMs,hMt,hMc,hMd,hMP]
   all_goals first|rfl|exact ⟨rfl,rfl⟩
  by_cases hs2:r.span<16777216
  ·have hrM:r=M:=hr.resolve_right fun e=>by rw [e] at hs2;omega
   subst hrM
   have hnm:r.norm=⟨r.code*256%4294967296+gu r.data,r.span*256,r.tab,r.data.drop 1,r.P⟩:=by unfold AD.norm;rw [if_pos hs2]
   have f5:((r.span:Int)<16777216)=True:=eq_true (by omega)
   have hss:lG .u32 (r.span:Int) 8=((r.span*256:Nat):Int):=by
    unfold lG
    rw [show (2:Int) ^ (min (8:Int).toNat IntKind.u32.bits)=256 by rfl];omega
   have hsc:lG .u32 (r.code:Int) 8=((r.code*256:Nat):Int):=by
    unfold lG
    rw [show (2:Int) ^ (min (8:Int).toNat IntKind.u32.bits)=256 by rfl];omega
   have hwr:IntKind.u32.wrap ((r.code*256:Nat):Int)=((r.code*256%4294967296:Nat):Int):=by rw [wrap32];omega
   have hmul:r.code*256%4294967296=r.code%16777216*256:=by omega
   have hnx:=ji r.data
   have ho:=Zq (a:=r.code%16777216) (c:=gu r.data) (by omega) hnx
   rw [←hmul,show r.code*256%4294967296=r.code*256 by omega] at ho
   rw [show r.code*256%4294967296=r.code*256 by omega] at hnm
   have kn:=Jl r.data (by rw [hMd];omega)
   (repeat' with_reducible first|intro _|refine rz ?_|refine ra ?_ ?_|omega|simp only [go_sem,f5,hsc])
   refine ah.i [0] kn 1 ?_
   (repeat' with_reducible first|intro _|exact dn|refine rn ?_|refine ra ?_ ?_)
   (repeat' with_reducible first|intro _|refine rz ?_|refine ra ?_ ?_|omega|simp only [go_sem,ho,hss])
   refine ⟨r.norm,aK.ak rfl ?_ ?_,.inr rfl,?_⟩
   ·simp only [go_sem,Int.natCast_succ,hnm]
    all_goals first|rfl|omega|(refine ⟨?_,?_⟩<;>first|rfl|omega)
   ·simp only [go_sem,Int.natCast_succ,hnm]
   ·rw [if_pos hs2,if_neg (by omega)];omega
  ·have hrn:r=M.norm:=by
    rcases hr with e|e
    ·rw [e] at hs2 ⊢;unfold AD.norm;rw [if_neg hs2]
    ·exact e
   have f5:((r.span:Int)<16777216)=False:=eq_false (by omega)
   rw [←hrn] at hnext
   (repeat' with_reducible first|intro _|refine rz ?_|refine ra ?_ ?_|omega|simp only [go_sem,f5])
   refine ⟨i+1,aK.ak rfl ?_ ?_,by omega,by omega⟩<;>simp only [go_sem,Int.natCast_succ,hnext]
end Go.Fv.H
/- Reading a number: the walk of ReadGamma. -/
namespace Go.Fv.H
open Go Go.Proofs
theorem XT:pK [48,49]=gI:=funext fun c=>by
 unfold pK gI
 simp
theorem ZE (l:Bytes):((iH (pK [48,49]) l).dropWhile (pK [48,49])=[])↔l.all gI=true:=by rw [XT];exact NS gI l
set_option maxHeartbeats 4000000 in
theorem Nk (s:Bytes) (hs:s.length≤300000000000000):aA Tryz.prog 105 [.str s] (.tup [.int .i64 (BN s),.int .i64 (BM s),.int .i64 (FW 8 s)]) []:=by
 have hle:=Jc s
 have hat:=Jb s
 have hst:=zL s
 refine aA.aG Tryz.func105 rfl (by decide) (by simp [Tryz.f105]) [.tmp 2,.tmp 3,.tmp 4] rfl fun w0 T0 _=>?_
 simp only [Tryz.f105,au]
 (repeat' with_reducible first|intro _|exact dn|refine rn ?_|refine ra ?_ ?_)
 refine aF.intro (fun z:Nat=>⟨62,[(5,.int .i64 z),(0,.str s)],[],0⟩) (fun z=>z≤aJ s) (fun z=>s.length - z) 0 ?_ (Nat.zero_le _) fun z hz=>?_
 ·refine aK.ak rfl ?_ ?_<;>simp only [go_sem,Int.natCast_succ]
 by_cases hlt:z<aJ s
 ·have e:=hat z hlt
  have f1:((z:Int)<(s.length:Int))=True:=eq_true (by omega)
  have f2:(((s.getD z 0).toNat:Int)=48)=True:=eq_true (by rw [e];rfl)
  (repeat' with_reducible first|intro _|refine rz ?_|refine ra ?_ ?_|omega|simp only [go_sem,f1,f2])
  refine ⟨z+1,aK.ak rfl ?_ ?_,by omega,by omega⟩<;>simp only [go_sem,Int.natCast_succ]
 have hz:z=aJ s:=by omega
 subst hz
 have hno:∀ h:o7 s=none,BN s=0∧BM s=0∧FW 8 s=8:=fun h=>by unfold BN BM FW;rw [h];exact ⟨rfl,rfl,rfl⟩
 have fin:aJ s<s.length→(((s.getD (aJ s) 0).toNat:Int)=48)=False:=fun c0=>eq_false fun h=>hst c0 (UInt8.toNat_inj.1 (by show _=48;omega))
 by_cases c1:20<aJ s
 ·obtain ⟨r1,r2,r3⟩:=hno (oN fun h=>by omega)
  have f3:(20<(aJ s:Int))=True:=eq_true (by omega)
  by_cases c0:aJ s<s.length
  ·have f1:((aJ s:Int)<(s.length:Int))=True:=eq_true (by omega)
   have f2:=fin c0
   (repeat' with_reducible first|intro _|refine rz ?_|refine ra ?_ ?_|omega|simp only [go_sem,f1,f2,f3])
   refine aT.auto 0 ?_ rfl ?_<;>simp only [go_sem,Int.natCast_succ,Post,r1,r2,r3]
  ·have f1:((aJ s:Int)<(s.length:Int))=False:=eq_false (by omega)
   (repeat' with_reducible first|intro _|refine rz ?_|refine ra ?_ ?_|omega|simp only [go_sem,f1,f3])
   refine aT.auto 0 ?_ rfl ?_<;>simp only [go_sem,Int.natCast_succ,Post,r1,r2,r3]
 have f3:(20<(aJ s:Int))=False:=eq_false (by omega)
 by_cases c2:s.length<2*aJ s+1
 ·obtain ⟨r1,r2,r3⟩:=hno (oN fun h=>by omega)
  have f4:((s.length:Int)<2*(aJ s:Int)+1)=True:=eq_true (by omega)
  by_cases c0:aJ s<s.length
  ·have f1:((aJ s:Int)<(s.length:Int))=True:=eq_true (by omega)
   have f2:=fin c0
   (repeat' with_reducible first|intro _|refine rz ?_|refine ra ?_ ?_|omega|simp only [go_sem,f1,f2,f3,f4])
   refine aT.auto 0 ?_ rfl ?_<;>simp only [go_sem,Int.natCast_succ,Post,r1,r2,r3]
  ·have f1:((aJ s:Int)<(s.length:Int))=False:=eq_false (by omega)
   (repeat' with_reducible first|intro _|refine rz ?_|refine ra ?_ ?_|omega|simp only [go_sem,f1,f3,f4])
   refine aT.auto 0 ?_ rfl ?_<;>simp only [go_sem,Int.natCast_succ,Post,r1,r2,r3]
 have f4:((s.length:Int)<2*(aJ s:Int)+1)=False:=eq_false (by omega)
 have c0:aJ s<s.length:=by omega
 have f1:((aJ s:Int)<(s.length:Int))=True:=eq_true (by omega)
 have f2:=fin c0
 obtain ⟨m1,m2⟩:=LU (s:=s) (by omega)
 have hcut:(2*(aJ s:Int)+1).toNat - aJ s=aJ s+1:=by omega
 by_cases c3:s.getD (aJ s) 0=49
 rotate_left
 ·obtain ⟨r1,r2,r3⟩:=hno (oN fun h=>by
   have:=zu (l:=(s.drop (aJ s)).take (aJ s+1)) (p:=0) (by omega) h.2.2.1
   rw [m2] at this
   exact this.elim (hst c0) c3)
  have f5:(((s.getD (aJ s) 0).toNat:Int)=49)=False:=eq_false fun h=>c3 (UInt8.toNat_inj.1 (by show _=49;omega))
  (repeat' with_reducible first|intro _|refine rz ?_|refine ra ?_ ?_|omega|simp only [go_sem,f1,f2,f3,f4,f5,Bool.false_or,Bool.or_false])
  ·rename_i h;simp at h
  ·refine aT.auto 0 ?_ rfl ?_<;>simp only [go_sem,Int.natCast_succ,Post,r1,r2,r3]
 have f5:(((s.getD (aJ s) 0).toNat:Int)=49)=True:=eq_true (by rw [c3];rfl)
 have kt:=NR ((s.drop (aJ s)).take (aJ s+1)) [48,49] (by intro i hi;have:i=0∨i=1:=(by simp at hi;omega);rcases this with rfl|rfl<;>decide) (by decide)
 have ht:=ZE ((s.drop (aJ s)).take (aJ s+1))
 have hsome:=@MZ s
 have hnone:=@oN s
 generalize (iH (pK [48,49]) ((s.drop (aJ s)).take (aJ s+1))).dropWhile (pK [48,49])=tr at *
 by_cases c4:((s.drop (aJ s)).take (aJ s+1)).all gI=true
 rotate_left
 ·obtain ⟨r1,r2,r3⟩:=hno (hnone fun h=>c4 h.2.2.1)
  have f6:(tr=[])=False:=eq_false fun h=>c4 (ht.1 h)
  (repeat' with_reducible first|intro _|refine rz ?_|refine ra ?_ ?_|omega|simp only [go_sem,f1,f2,f3,f4,f5,hcut,Bool.false_or,Bool.or_false])
  refine ah.k kt ?_
  (repeat' with_reducible first|intro _|refine rz ?_|refine ra ?_ ?_|omega|simp only [go_sem,f6])
  refine aT.auto 0 ?_ rfl ?_<;>simp only [go_sem,Int.natCast_succ,Post,r1,r2,r3]
 have f6:(tr=[])=True:=eq_true (ht.2 c4)
 have kp:=TS ((s.drop (aJ s)).take (aJ s+1)) c4 (fun e=>by rw [e] at m1;simp at m1) (by omega)
 by_cases c5:iK ((s.drop (aJ s)).take (aJ s+1))≤1048576
 ·have hr:=hsome ⟨by omega,by omega,c4,c5⟩
  have r1:BN s=(iK ((s.drop (aJ s)).take (aJ s+1)):Int):=by unfold BN;rw [hr]
  have r2:BM s=2*(aJ s:Int)+1:=by unfold BM;rw [hr];rfl
  have r3:FW 8 s=0:=by unfold FW;rw [hr]
  generalize iK ((s.drop (aJ s)).take (aJ s+1))=v at *
  have f7:(1048576<(v:Int))=False:=eq_false (by omega)
  (repeat' with_reducible first|intro _|refine rz ?_|refine ra ?_ ?_|omega|simp only [go_sem,f1,f2,f3,f4,f5,hcut,Bool.false_or,Bool.or_false])
  refine ah.k kt ?_
  (repeat' with_reducible first|intro _|refine rz ?_|refine ra ?_ ?_|omega|simp only [go_sem,f6,hcut])
  refine ah.k kp ?_
  (repeat' with_reducible first|intro _|refine rz ?_|refine ra ?_ ?_|omega|simp only [go_sem,f7])
  refine aT.auto 0 ?_ rfl ?_<;>simp only [go_sem,Int.natCast_succ,Post,r1,r2,r3]
 ·obtain ⟨r1,r2,r3⟩:=hno (hnone fun h=>c5 h.2.2.2)
  generalize iK ((s.drop (aJ s)).take (aJ s+1))=v at *
  have f7:(1048576<(v:Int))=True:=eq_true (by omega)
  (repeat' with_reducible first|intro _|refine rz ?_|refine ra ?_ ?_|omega|simp only [go_sem,f1,f2,f3,f4,f5,hcut,Bool.false_or,Bool.or_false])
  refine ah.k kt ?_
  (repeat' with_reducible first|intro _|refine rz ?_|refine ra ?_ ?_|omega|simp only [go_sem,f6,hcut])
  refine ah.k kp ?_
  (repeat' with_reducible first|intro _|refine rz ?_|refine ra ?_ ?_|omega|simp only [go_sem,f7])
  refine aT.auto 0 ?_ rfl ?_<;>simp only [go_sem,Int.natCast_succ,Post,r1,r2,r3]
end Go.Fv.H
/- The closures of shrink.readLine. -/
namespace Go.Fv.H
open Go Go.Proofs
theorem Fg (s:Bytes) (n:Nat) (code:Bytes) (hs:s.length≤300000000000000) (hn:n≤s.length) (hc:code.length≤100) (hp:code.isPrefixOf (s.drop n)=true) :
  fA Tryz.prog 145 [.str code,.ptr 0 0,.ptr 1 0] [(0,.box 9 [.str s]),(1,.box 3 [.int .i64 n])] 2 (.bool true) [(0,.box 9 [.str s]),(1,.box 3 [.int .i64 (n+code.length:Nat)])]:=by
 have k:=gZ (s.drop n) code
 rw [hp] at k
 refine fA.aG Tryz.func145 rfl (by decide) (by simp [Tryz.f145]) yg [.tmp 4] rfl fun w0 T0 _=>?_
 simp only [Tryz.f145,au]
 have htk:(s.drop n).take (s.length - n)=s.drop n:=List.take_of_length_le (by rw [List.length_drop];exact Nat.le_refl _)
 (repeat' with_reducible first|intro _|refine rz ?_|refine ra ?_ ?_|omega|simp only [go_sem,htk])
 refine ah.k k ?_
 (repeat' with_reducible first|intro _|exact dn|refine rn ?_|refine ra ?_ ?_)
 refine jf.auto 2 (Nat.le_refl 2) ?_ rfl ?_<;>simp only [go_sem,Int.natCast_succ,gq]
 omega
theorem yV (s:Bytes) (n:Nat) (code:Bytes) (hs:s.length≤300000000000000) (hn:n≤s.length) (hp:code.isPrefixOf (s.drop n)=false) :
  fA Tryz.prog 145 [.str code,.ptr 0 0,.ptr 1 0] [(0,.box 9 [.str s]),(1,.box 3 [.int .i64 n])] 2 (.bool false) [(0,.box 9 [.str s]),(1,.box 3 [.int .i64 n])]:=by
 have k:=gZ (s.drop n) code
 rw [hp] at k
 refine fA.aG Tryz.func145 rfl (by decide) (by simp [Tryz.f145]) yg [.tmp 4] rfl fun w0 T0 _=>?_
 simp only [Tryz.f145,au]
 have htk:(s.drop n).take (s.length - n)=s.drop n:=List.take_of_length_le (by rw [List.length_drop];exact Nat.le_refl _)
 (repeat' with_reducible first|intro _|refine rz ?_|refine ra ?_ ?_|omega|simp only [go_sem,htk])
 refine ah.k k ?_
 (repeat' with_reducible first|intro _|exact dn|refine rn ?_|refine ra ?_ ?_)
 refine jf.auto 2 (Nat.le_refl 2) ?_ rfl ?_<;>simp only [go_sem,Int.natCast_succ,gq]
theorem aaf (s:Bytes) (n:Nat) (hn:n≤s.length):(s.drop n).take (min s.length (n+64) - n)=(s.drop n).take 64:=by
 rw [List.take_eq_take_iff,List.length_drop];omega
theorem H9 (s:Bytes) (n:Nat) (hs:s.length≤300000000000000) (hn:n≤s.length) :
  fA Tryz.prog 146 [.ptr 0 0,.ptr 1 0] [(0,.box 9 [.str s]),(1,.box 3 [.int .i64 n])] 2 (.tup [.int .i64 (BN (s.drop n) - 1),.bool (decide (FW 8 (s.drop n)=0))]) [(0,.box 9 [.str s]),(1,.box 3 [.int .i64 (n+BM (s.drop n))])]:=by
 have hg:o7 ((s.drop n).take 64)=o7 (s.drop n):=Na _ 64 (Nat.le_refl _)
 have e1:BN ((s.drop n).take 64)=BN (s.drop n):=by unfold BN;rw [hg]
 have e2:BM ((s.drop n).take 64)=BM (s.drop n):=by unfold BM;rw [hg]
 have e3:FW 8 ((s.drop n).take 64)=FW 8 (s.drop n):=by unfold FW;rw [hg]
 have k:=Nk ((s.drop n).take 64) (by rw [List.length_take];omega)
 rw [e1,e2,e3] at k
 have hb:0≤BN (s.drop n)∧BN (s.drop n)≤1048576∧0≤BM (s.drop n)∧BM (s.drop n)≤41:=by
  unfold BN BM
  cases hr:o7 (s.drop n) with
  | none=>dsimp only;omega
  | some x=>
   obtain ⟨m,l⟩:=x
   have h:=kR hr
   have h2:m≤1048576:=by
    unfold o7 at hr
    split at hr
    ·rename_i hc;cases hr;exact hc.2.2.2
    ·cases hr
   dsimp only;omega
 generalize BN (s.drop n)=a at *
 generalize BM (s.drop n)=b at *
 generalize FW 8 (s.drop n)=c at *
 have hm:min (s.length:Int) ((n:Int)+64)=((min s.length (n+64):Nat):Int):=by omega
 have hc:=aaf s n hn
 have hm1:n≤min s.length (n+64):=by omega
 have hm2:min s.length (n+64)≤s.length:=by omega
 generalize min s.length (n+64)=mm at *
 refine fA.aG Tryz.func146 rfl (by decide) (by simp [Tryz.f146]) yg [.tmp 2,.tmp 3] rfl fun w0 T0 _=>?_
 simp only [Tryz.f146,au]
 (repeat' with_reducible first|intro _|refine rz ?_|refine ra ?_ ?_|omega|simp only [go_sem,hm,hc])
 refine ah.k k ?_
 (repeat' with_reducible first|intro _|exact dn|refine rn ?_|refine ra ?_ ?_)
 refine jf.auto 2 (Nat.le_refl 2) ?_ rfl ?_<;>simp only [go_sem,Int.natCast_succ,gq]
def Qs (s:Bytes) (n:Nat) (j:Int) (m:Nat):Prop:=
 fA Tryz.prog 149 [.ro (.strs aP),.fn 145 [.ptr 0 0,.ptr 1 0]] [(0,.box 9 [.str s]),(1,.box 3 [.int .i64 n])] 2 (.int .i64 j) [(0,.box 9 [.str s]),(1,.box 3 [.int .i64 m])]
set_option maxHeartbeats 2000000 in
theorem Vl (s:Bytes) (n:Nat) (hs:s.length≤300000000000000) (hn:n≤s.length) (j:Nat) (hj:j≤7) (hno:∀ i,i<j→(aP.getD i []).isPrefixOf (s.drop n)=false) (hy:j<7→(aP.getD j []).isPrefixOf (s.drop n)=true) :
  Qs s n (if j<7 then j else -1) (n+if j<7 then (aP.getD j []).length else 0):=by
 unfold Qs
 have hnl:aP.length=7:=rfl
 refine fA.aG Tryz.func149 rfl (by decide) (by simp [Tryz.f149]) yg [.tmp 4] rfl fun w0 T0 _=>?_
 simp only [Tryz.f149,au]
 (repeat' with_reducible first|intro _|refine rz ?_|refine ra ?_ ?_|omega|simp only [go_sem,hnl])
 refine aF.intro (fun i:Nat=>⟨19,[(8,.int .i64 i),(7,.int .i64 7),(1,.fn 145 [.ptr 0 0,.ptr 1 0]),(0,.ro (.strs aP))],[(0,.box 9 [.str s]),(1,.box 3 [.int .i64 n])],2⟩) (fun i=>i≤j) (fun i=>8 - i) 0 ?_ (Nat.zero_le _) fun i hi=>?_
 ·refine aK.Du 2 rfl (Nat.le_refl 2) ?_ ?_<;>simp only [go_sem,Int.natCast_succ,gq]
 by_cases hlt:i<j
 ·have kt:=yV s n (aP.getD i []) hs hn (hno i hlt)
  have f1:((i:Int)<7)=True:=eq_true (by omega)
  (repeat' with_reducible first|intro _|refine rz ?_|refine ra ?_ ?_|omega|simp only [go_sem,f1,hnl])
  refine ah.i [0,1] kt 2 ?_
  (repeat' with_reducible first|intro _|exact dn|refine rn ?_|refine ra ?_ ?_)
  refine ⟨i+1,aK.Du 2 rfl (Nat.le_refl 2) ?_ ?_,by omega,by omega⟩<;>simp only [go_sem,Int.natCast_succ,gq]
 have e:i=j:=by omega
 subst e
 by_cases h7:i<7
 ·rw [if_pos h7,if_pos h7]
  have hlen:(aP.getD i []).length≤7:=by
   have:i=0∨i=1∨i=2∨i=3∨i=4∨i=5∨i=6:=by omega
   rcases this with rfl|rfl|rfl|rfl|rfl|rfl|rfl<;>decide
  have kt:=Fg s n (aP.getD i []) hs hn (by omega) (hy h7)
  have f1:((i:Int)<7)=True:=eq_true (by omega)
  (repeat' with_reducible first|intro _|refine rz ?_|refine ra ?_ ?_|omega|simp only [go_sem,f1,hnl])
  refine ah.i [0,1] kt 2 ?_
  (repeat' with_reducible first|intro _|exact dn|refine rn ?_|refine ra ?_ ?_)
  refine jf.auto 2 (Nat.le_refl 2) ?_ rfl ?_<;>simp only [go_sem,Int.natCast_succ,gq]
 ·rw [if_neg h7,if_neg h7,Nat.add_zero]
  have f1:((i:Int)<7)=False:=eq_false (by omega)
  (repeat' with_reducible first|intro _|refine rz ?_|refine ra ?_ ?_|omega|simp only [go_sem,f1,hnl])
  refine jf.auto 2 (Nat.le_refl 2) ?_ rfl ?_<;>simp only [go_sem,Int.natCast_succ,gq]
def tN (l:List Bool) (a t:Nat) (c:Bool):List Bool:=l.take a++(List.replicate (t - a) c++l.drop t)
theorem He {l:List Bool} {a t:Nat} {c:Bool} (h1:a≤t) (h2:t≤l.length):(tN l a t c).length=l.length:=by
 unfold tN
 rw [List.length_append,List.length_append,List.length_take,List.length_replicate,List.length_drop];omega
theorem Tj {l:List Bool} {a t:Nat} {c:Bool} (h1:a≤t) (h2:t<l.length):(tN l a t c).set t c=tN l a (t+1) c:=by
 apply List.ext_getElem?
 intro i
 have hl:=He (l:=l) (c:=c) h1 (by omega)
 unfold tN at *
 rw [List.getElem?_set]
 by_cases hi:t=i
 ·subst hi
  rw [if_pos rfl,if_pos (by rw [hl];exact h2),List.getElem?_append_right (by rw [List.length_take];omega),List.getElem?_append_left (by rw [List.length_take,List.length_replicate];omega),List.getElem?_replicate,if_pos (by rw [List.length_take];omega)]
 ·rw [if_neg hi]
  simp only [List.getElem?_append,List.length_take,List.length_replicate,List.getElem?_take,List.getElem?_drop,List.getElem?_replicate]
  by_cases ha:i<min a l.length
  ·rw [if_pos ha,if_pos ha]
  ·rw [if_neg ha,if_neg ha]
   by_cases hb:i - min a l.length<t - a
   ·rw [if_pos hb,if_pos hb,if_pos (by omega),if_pos (by omega)]
   ·rw [if_neg hb,if_neg (by omega)]
    congr 1;omega
set_option maxHeartbeats 2000000 in
theorem Cc (l:List Bool) (a:Nat) (v:Int) (t:Nat) (c:Bool) (hv:max v 0=(a:Int)) (hvb:-1≤v∧v≤5000) (h1:a≤t) (h2:t≤l.length) (hl:l.length≤4000) :
  fA Tryz.prog 144 [.int .i64 v,.int .i64 t,.bool c,.ptr 0 0] [(0,.box 22 [.own 1]),(1,.row 4 (.bools l))] 2 (.tup []) [(0,.box 22 [.own 1]),(1,.row 4 (.bools (tN l a t c)))]:=by
 refine fA.aG Tryz.func144 rfl (by decide) (by simp [Tryz.f144]) yg [] rfl fun w0 T0 _=>?_
 simp only [Tryz.f144,au]
 (repeat' with_reducible first|intro _|refine rz ?_|refine ra ?_ ?_|omega|simp only [go_sem,hv])
 refine aF.intro (fun i:Nat=>⟨19,[(7,.int .i64 i),(3,.ptr 0 0),(2,.bool c),(1,.int .i64 t)],[(0,.box 22 [.own 1]),(1,.row 4 (.bools (tN l a i c)))],2⟩) (fun i=>a≤i∧i≤t) (fun i=>t - i) a ?_ ⟨Nat.le_refl _,h1⟩ fun i hi=>?_
 ·have e0:tN l a a c=l:=by unfold tN;rw [Nat.sub_self,List.replicate_zero,List.nil_append,List.take_append_drop]
  refine aK.Du 2 rfl (Nat.le_refl 2) ?_ ?_<;>simp only [go_sem,Int.natCast_succ,gq,e0]
  all_goals first|rfl|omega
 obtain ⟨hi1,hi2⟩:=hi
 have hfl:=He (l:=l) (c:=c) hi1 (by omega)
 by_cases hlt:i<t
 ·have f1:((i:Int)<(t:Int))=True:=eq_true (by omega)
  have hst:=Tj (l:=l) (c:=c) hi1 (by omega)
  (repeat' with_reducible first|intro _|refine rz ?_|refine ra ?_ ?_|omega|simp only [go_sem,f1,hfl,hst])
  refine ⟨i+1,aK.Du 2 rfl (Nat.le_refl 2) ?_ ?_,⟨by omega,by omega⟩,by omega⟩<;>simp only [go_sem,Int.natCast_succ,gq,hst]
 ·have e:i=t:=by omega
  subst e
  have f1:((i:Int)<(i:Int))=False:=eq_false (by omega)
  (repeat' with_reducible first|intro _|refine rz ?_|refine ra ?_ ?_|omega|simp only [go_sem,f1])
  refine jf.auto 2 (Nat.le_refl 2) ?_ rfl ?_<;>simp only [go_sem,Int.natCast_succ,gq]
end Go.Fv.H
