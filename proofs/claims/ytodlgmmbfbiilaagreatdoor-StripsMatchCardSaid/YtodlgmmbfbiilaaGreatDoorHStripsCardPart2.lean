/-
  A part of the proof of the claim: walks over the program's functions and the plain laws that these need. No condition of its own.
-/
import Derived.Test.YtodlgmmbfbiilaaGreatDoorHStripsCardPart1
import Derived.Test.YtodlgmmbfbiilaaGreatDoorFvPart10
set_option linter.unusedSimpArgs false
set_option linter.unusedVariables false
set_option linter.unnecessarySimpa false
set_option maxRecDepth 8000
/- Bytes of numbers, sums of bytes, in plain words. -/
namespace Go.Fv.H
open Go
theorem jf (k n:Nat):dX (k+1) n=dX k (n / 256)++[UInt8.ofNat n]:=by
 unfold dX
 rw [List.range_succ,List.map_append]
 congr 1
 ·apply List.map_congr_left
  intro i hi
  rw [List.mem_range] at hi
  rw [Nat.div_div_eq_div_mul]
  have e:k+1 - 1 - i=(k - 1 - i)+1:=by omega
  rw [e,Nat.pow_succ,Nat.mul_comm]
 ·simp
theorem rF (n:Nat):dX 0 n=[]:=rfl
theorem GH (a b n:Nat):dX (a+b) n=dX a (n / 256 ^ b)++dX b n:=by
 induction b generalizing n with
 | zero=>simp [rF]
 | succ b ih=>
  rw [←Nat.add_assoc,jf,ih,jf b,Nat.div_div_eq_div_mul,List.append_assoc,Nat.pow_succ,Nat.mul_comm 256]
def Mc:Bytes→Bytes
 | []=>[]
 | c::l=>if c=255 then 0::Mc l else (c+1)::l
theorem OE (k n:Nat):(dX (k+1) n).reverse=UInt8.ofNat n::(dX k (n / 256)).reverse:=by rw [jf,List.reverse_append];rfl
theorem U4 (k n:Nat):Mc (dX k n).reverse=(dX k (n+1)).reverse:=by
 induction k generalizing n with
 | zero=>rfl
 | succ k ih=>
  rw [OE,OE]
  unfold Mc
  have hlt:=(UInt8.ofNat n).toNat_lt
  have hn:(UInt8.ofNat n).toNat=n%256:=by simp
  by_cases h:n%256=255
  ·have e:UInt8.ofNat n=255:=UInt8.toNat_inj.1 (by rw [hn,h];rfl)
   have e2:UInt8.ofNat (n+1)=0:=UInt8.toNat_inj.1 (by simp;omega)
   have e3:(n+1) / 256=n / 256+1:=by omega
   rw [if_pos e,ih,e2,e3]
  ·have e:¬UInt8.ofNat n=255:=fun e=>h (by rw [←hn,e];rfl)
   have e2:UInt8.ofNat n+1=UInt8.ofNat (n+1):=UInt8.toNat_inj.1 (by simp)
   have e3:(n+1) / 256=n / 256:=by omega
   rw [if_neg e,e2,e3]
def bV (s:Bytes):Nat:=s.foldl (fun n c=>n*256+c.toNat) 0
theorem zB (s:Bytes) (c:UInt8):bV (s++[c])=bV s*256+c.toNat:=by unfold bV;rw [List.foldl_append];rfl
theorem yA (k n:Nat):bV (dX k n)=n%256 ^ k:=by
 induction k generalizing n with
 | zero=>rw [rF,Nat.pow_zero,Nat.mod_one];rfl
 | succ k ih=>
  have h1:n%(256*256 ^ k)=n%256+256*(n / 256%256 ^ k):=Nat.mod_mul
  have h2:(UInt8.ofNat n).toNat=n%256:=by simp
  rw [jf,zB,ih,Nat.pow_succ,Nat.mul_comm (256 ^ k) 256,h1,h2]
  omega
theorem uf:∀ s:Bytes,bV s<256 ^ s.length:=by
 intro s
 have key:∀ (l:Bytes) (n k:Nat),n<256 ^ k→l.foldl (fun n c=>n*256+c.toNat) n<256 ^ (k+l.length):=by
  intro l
  induction l with
  | nil=>intro n k h;exact h
  | cons c l ih=>
   intro n k h
   have hc:=c.toNat_lt
   have:=ih (n*256+c.toNat) (k+1) (by rw [Nat.pow_succ];omega)
   rw [List.foldl_cons,List.length_cons,Nat.add_comm l.length 1,←Nat.add_assoc];exact this
 have:=key s 0 0 (by decide)
 rwa [Nat.zero_add] at this
def Dw (h:Nat) (c:UInt8):Nat:=((h ^^^ c.toNat)*1099511628211)%18446744073709551616
def qB (s:Bytes):Nat:=s.foldl Dw 14695981039346656037
def dU (s:Bytes):Bytes:=dX 8 (qB s)
theorem UL (h:Nat) (c:UInt8):Dw h c<18446744073709551616:=Nat.mod_lt _ (by decide)
theorem Py:∀ (s:Bytes) (h:Nat),h<18446744073709551616→s.foldl Dw h<18446744073709551616
 | [],_,h=>h
 | c::s,h,_=>Py s (Dw h c) (UL h c)
theorem Om (s:Bytes):qB s<18446744073709551616:=Py s _ (by decide)
theorem xK (s:Bytes):(dU s).length=8:=aX _ _
end Go.Fv.H
/- Bytes of numbers, sums of bytes: the walk. -/
namespace Go.Fv.H
open Go Go.Proofs
theorem lD {α:Type} {T:List α} {i n:Nat} {z d:α} (hn:T.length=n) (hi:i<n):(T.take i++List.replicate (n - i) z).set i (T.getD i d)=T.take (i+1)++List.replicate (n - (i+1)) z:=by
 subst hn
 have hl:(T.take i).length=i:=by rw [List.length_take];omega
 have e:T.length - i=(T.length - (i+1))+1:=by omega
 rw [List.set_append_right _ _ (by omega),hl,Nat.sub_self,e,List.replicate_succ,List.set_cons_zero,List.take_succ_eq_append_getElem hi,getD_lt hi,List.append_assoc]
 rfl
theorem cO (l:Bytes):(aj l).length=l.length:=by unfold aj;rw [List.length_map]
theorem bytes_at {b:Bytes} {i:Nat} (h:i<b.length):(aj b).getD i 0=((b.getD i 0).toNat:Int):=by
 unfold aj
 simp [List.getD,h]
theorem iG (l:Bytes):(aj l).map (fun n=>UInt8.ofNat n.toNat)=l:=by
 unfold aj
 rw [List.map_map]
 conv=>rhs;rw [←List.map_id l]
 apply List.map_congr_left
 intro c _
 simp
theorem kL (x:Int):IntKind.u8.wrap x=x%256:=by simp [IntKind.wrap,IntKind.signed,IntKind.bits]
theorem DV {k:IntKind} (hk:k.bits=64) {n:Int} {N j:Nat} (hn:n=N∨n=(N:Int) - 18446744073709551616) (hj:j≤7):IntKind.u8.wrap (lC k n (8*(j:Int)))=((N / 256 ^ j%256:Nat):Int):=by
 have hc:j=0∨j=1∨j=2∨j=3∨j=4∨j=5∨j=6∨j=7:=by omega
 rcases hc with rfl|rfl|rfl|rfl|rfl|rfl|rfl|rfl
 ·unfold lC
  rw [hk,show (2:Int) ^ (min (8*((0:Nat):Int)).toNat 64)=1 by rfl,Int.fdiv_eq_ediv_of_nonneg _ (by decide),kL,show (256:Nat) ^ 0=1 by rfl]
  omega
 ·unfold lC
  rw [hk,show (2:Int) ^ (min (8*((1:Nat):Int)).toNat 64)=256 by rfl,Int.fdiv_eq_ediv_of_nonneg _ (by decide),kL,show (256:Nat) ^ 1=256 by rfl]
  omega
 ·unfold lC
  rw [hk,show (2:Int) ^ (min (8*((2:Nat):Int)).toNat 64)=65536 by rfl,Int.fdiv_eq_ediv_of_nonneg _ (by decide),kL,show (256:Nat) ^ 2=65536 by rfl]
  omega
 ·unfold lC
  rw [hk,show (2:Int) ^ (min (8*((3:Nat):Int)).toNat 64)=16777216 by rfl,Int.fdiv_eq_ediv_of_nonneg _ (by decide),kL,show (256:Nat) ^ 3=16777216 by rfl]
  omega
 ·unfold lC
  rw [hk,show (2:Int) ^ (min (8*((4:Nat):Int)).toNat 64)=4294967296 by rfl,Int.fdiv_eq_ediv_of_nonneg _ (by decide),kL,show (256:Nat) ^ 4=4294967296 by rfl]
  omega
 ·unfold lC
  rw [hk,show (2:Int) ^ (min (8*((5:Nat):Int)).toNat 64)=1099511627776 by rfl,Int.fdiv_eq_ediv_of_nonneg _ (by decide),kL,show (256:Nat) ^ 5=1099511627776 by rfl]
  omega
 ·unfold lC
  rw [hk,show (2:Int) ^ (min (8*((6:Nat):Int)).toNat 64)=281474976710656 by rfl,Int.fdiv_eq_ediv_of_nonneg _ (by decide),kL,show (256:Nat) ^ 6=281474976710656 by rfl]
  omega
 ·unfold lC
  rw [hk,show (2:Int) ^ (min (8*((7:Nat):Int)).toNat 64)=72057594037927936 by rfl,Int.fdiv_eq_ediv_of_nonneg _ (by decide),kL,show (256:Nat) ^ 7=72057594037927936 by rfl]
  omega
theorem O5 {many N i:Nat} (h:i<many):(aj (dX many N)).getD i 0=((N / 256 ^ (many - 1 - i)%256:Nat):Int):=by
 rw [bytes_at (by rw [aX];exact h),NU h]
set_option maxHeartbeats 2000000 in
theorem Ic (n:Int) (N many:Nat) (hn:n=N∨n=(N:Int) - 18446744073709551616) (hN:N<18446744073709551616) (hb:-9223372036854775808≤n∧n≤9223372036854775807) (hm:many≤8) :
  aA Tryz.prog 108 [.int .i64 n,.int .i64 many] (.str (dX many N)) []:=by
 refine aA.aG Tryz.func108 rfl (by decide) (by simp [Tryz.f108]) [.tmp 4] rfl fun w0 T0 _=>?_
 simp only [Tryz.f108,au]
 (repeat' with_reducible first|intro _|exact dn|refine rn ?_|refine ra ?_ ?_)
 have hT:(aj (dX many N)).length=many:=by rw [cO,aX]
 refine aI.intro (fun i:Nat=>⟨28,[(11,.int .i64 i),(10,.int .i64 many),(5,.own 0),(1,.int .i64 many),(0,.int .i64 n)],[(0,.row 5 (.ints .u8 ((aj (dX many N)).take i++List.replicate (many - i) 0)))],1⟩) (fun i=>i≤many) (fun i=>many - i) 0 ?_ (Nat.zero_le _) fun i hi=>?_
 ·refine aO.ak rfl ?_ ?_<;>simp only [go_sem,Int.natCast_succ]
  all_goals rfl
 have htl:((aj (dX many N)).take i).length=i:=by rw [List.length_take,hT];omega
 by_cases hlt:i<many
 ·have f1:((i:Int)<(many:Int))=True:=eq_true (by omega)
  have hv:IntKind.u8.wrap (lC .i64 n (8*((many:Int) - 1 - (i:Int))))=(aj (dX many N)).getD i 0:=by
   rw [O5 hlt,show (many:Int) - 1 - (i:Int)=((many - 1 - i:Nat):Int) by omega]
   exact DV rfl hn (by omega)
  have hs:=lD (z:=0) (d:=0) hT hlt
  (repeat' with_reducible first|intro _|refine rz ?_|refine ra ?_ ?_|omega|simp only [go_sem,f1])
  refine bW.at _ hv ?_
  (repeat' with_reducible first|intro _|refine rz ?_|refine ra ?_ ?_|omega|simp only [go_sem,htl])
  rw [hs]
  refine ⟨i+1,aO.ak rfl ?_ ?_,by omega,by omega⟩<;>simp only [go_sem,Int.natCast_succ]
 ·have f1:((i:Int)<(many:Int))=False:=eq_false (by omega)
  have e:i=many:=by omega
  subst e
  have hfull:(aj (dX i N)).take i=aj (dX i N):=List.take_of_length_le (by omega)
  have hbk:=iG (dX i N)
  (repeat' with_reducible first|intro _|refine rz ?_|refine ra ?_ ?_|omega|simp only [go_sem,f1])
  refine aV.auto 0 ?_ rfl ?_<;>simp only [go_sem,Int.natCast_succ,Post,hfull,hbk]
set_option maxHeartbeats 2000000 in
theorem uO (n:Int) (N many:Nat) (hn:n=N∨n=(N:Int) - 18446744073709551616) (hN:N<18446744073709551616) (hb:-9223372036854775808≤n∧n≤9223372036854775807) (hm:many≤8) :
  aA Tryz.prog 64 [.int .i64 n,.int .i64 many] (.str (dX many N)) []:=by
 refine aA.aG Tryz.func64 rfl (by decide) (by simp [Tryz.f64]) [.tmp 4] rfl fun w0 T0 _=>?_
 simp only [Tryz.f64,au]
 (repeat' with_reducible first|intro _|exact dn|refine rn ?_|refine ra ?_ ?_)
 have hT:(aj (dX many N)).length=many:=by rw [cO,aX]
 refine aI.intro (fun i:Nat=>⟨28,[(11,.int .i64 i),(10,.int .i64 many),(5,.own 0),(1,.int .i64 many),(0,.int .i64 n)],[(0,.row 5 (.ints .u8 ((aj (dX many N)).take i++List.replicate (many - i) 0)))],1⟩) (fun i=>i≤many) (fun i=>many - i) 0 ?_ (Nat.zero_le _) fun i hi=>?_
 ·refine aO.ak rfl ?_ ?_<;>simp only [go_sem,Int.natCast_succ]
  all_goals rfl
 have htl:((aj (dX many N)).take i).length=i:=by rw [List.length_take,hT];omega
 by_cases hlt:i<many
 ·have f1:((i:Int)<(many:Int))=True:=eq_true (by omega)
  have hv:IntKind.u8.wrap (lC .i64 n (8*((many:Int) - 1 - (i:Int))))=(aj (dX many N)).getD i 0:=by
   rw [O5 hlt,show (many:Int) - 1 - (i:Int)=((many - 1 - i:Nat):Int) by omega]
   exact DV rfl hn (by omega)
  have hs:=lD (z:=0) (d:=0) hT hlt
  (repeat' with_reducible first|intro _|refine rz ?_|refine ra ?_ ?_|omega|simp only [go_sem,f1])
  refine bW.at _ hv ?_
  (repeat' with_reducible first|intro _|refine rz ?_|refine ra ?_ ?_|omega|simp only [go_sem,htl])
  rw [hs]
  refine ⟨i+1,aO.ak rfl ?_ ?_,by omega,by omega⟩<;>simp only [go_sem,Int.natCast_succ]
 ·have f1:((i:Int)<(many:Int))=False:=eq_false (by omega)
  have e:i=many:=by omega
  subst e
  have hfull:(aj (dX i N)).take i=aj (dX i N):=List.take_of_length_le (by omega)
  have hbk:=iG (dX i N)
  (repeat' with_reducible first|intro _|refine rz ?_|refine ra ?_ ?_|omega|simp only [go_sem,f1])
  refine aV.auto 0 ?_ rfl ?_<;>simp only [go_sem,Int.natCast_succ,Post,hfull,hbk]
theorem bits_nat (a b:Nat) (ha:a<18446744073709551616) (hb:b<18446744073709551616):(BitVec.ofInt 64 (a:Int)).toNat=a∧(BitVec.ofInt 64 (b:Int)).toNat=b:=by
 rw [BitVec.ofInt_natCast,BitVec.toNat_ofNat,BitVec.ofInt_natCast,BitVec.toNat_ofNat]
 exact ⟨Nat.mod_eq_of_lt (by omega),Nat.mod_eq_of_lt (by omega)⟩
theorem MZ {a c:Nat} (ha:a<1099511627776) (hc:c<256):fU .or .i64 ((a*256:Nat):Int) (c:Int)=((a*256+c:Nat):Int):=by
 obtain ⟨e1,e2⟩:=bits_nat (a*256) c (by omega) (by omega)
 show IntKind.i64.wrap (((BitVec.ofInt 64 ((a*256:Nat):Int)) ||| (BitVec.ofInt 64 (c:Int))).toNat:Int)=_
 have h:=Nat.two_pow_add_eq_or_of_lt (i:=8) (b:=c) (by omega) a
 rw [BitVec.toNat_or,e1,e2,Nat.mul_comm a 256,←h]
 exact kS (lq.2 (by omega))
theorem Pz {a c:Nat} (ha:a<18446744073709551616) (hc:c<256):fU .xor .u64 (a:Int) (c:Int)=((a ^^^ c:Nat):Int):=by
 obtain ⟨e1,e2⟩:=bits_nat a c ha (by omega)
 show IntKind.u64.wrap (((BitVec.ofInt 64 (a:Int)) ^^^ (BitVec.ofInt 64 (c:Int))).toNat:Int)=_
 have h:a ^^^ c<2 ^ 64:=Nat.xor_lt_two_pow (n:=64) (by omega) (by omega)
 rw [BitVec.toNat_xor,e1,e2]
 exact kS (mW.2 (by omega))
theorem V7 (a:Nat):kN .i64 (a:Int) 8=((a*256:Nat):Int):=by
 unfold kN
 rw [show (2:Int) ^ (min (8:Int).toNat IntKind.i64.bits)=256 by rfl]
 omega
theorem Ju {s:Bytes} {i:Nat} (h:i<s.length):bV (s.take (i+1))=bV (s.take i)*256+(s.getD i 0).toNat:=by
 rw [List.take_succ_eq_append_getElem h,zB,getD_lt h]
theorem KF {s:Bytes} {i:Nat} (h:i<s.length):qB (s.take (i+1))=Dw (qB (s.take i)) (s.getD i 0):=by
 unfold qB
 rw [List.take_succ_eq_append_getElem h,List.foldl_append,getD_lt h,List.foldl_cons,List.foldl_nil]
set_option maxHeartbeats 2000000 in
theorem bT (s:Bytes) (hs:s.length≤4):aA Tryz.prog 65 [.str s] (.int .i64 (bV s)) []:=by
 refine aA.aG Tryz.func65 rfl (by decide) (by simp [Tryz.f65]) [.tmp 2] rfl fun w0 T0 _=>?_
 simp only [Tryz.f65,au]
 (repeat' with_reducible first|intro _|exact dn|refine rn ?_|refine ra ?_ ?_)
 refine aI.intro (fun i:Nat=>⟨19,[(7,.int .i64 i),(6,.int .i64 s.length),(3,.int .i64 (bV (s.take i))),(0,.str s)],[],0⟩) (fun i=>i≤s.length) (fun i=>s.length - i) 0 ?_ (Nat.zero_le _) fun i hi=>?_
 ·refine aO.ak rfl ?_ ?_<;>simp only [go_sem,Int.natCast_succ]
  all_goals rfl
 by_cases hlt:i<s.length
 ·have f1:((i:Int)<(s.length:Int))=True:=eq_true (by omega)
  have hv:=Ju hlt
  have hc:=(s.getD i 0).toNat_lt
  have hb:=uf (s.take i)
  have hp:(256:Nat) ^ (s.take i).length≤256 ^ 3:=Nat.pow_le_pow_right (by decide) (by rw [List.length_take];omega)
  rw [show (256:Nat) ^ 3=16777216 from rfl] at hp
  have hc:(s.getD i 0).toNat<256:=(s.getD i 0).toNat_lt
  have hor:=MZ (a:=bV (s.take i)) (c:=(s.getD i 0).toNat) (by omega) hc
  have h8:=V7 (bV (s.take i))
  generalize bV (s.take i)=v at *
  (repeat' with_reducible first|intro _|refine rz ?_|refine ra ?_ ?_|omega|simp only [go_sem,f1])
  rw [h8]
  (repeat' with_reducible first|intro _|refine rz ?_|refine ra ?_ ?_|omega|simp only [go_sem,hor])
  refine ⟨i+1,aO.ak rfl ?_ ?_,by omega,by omega⟩<;>simp only [go_sem,Int.natCast_succ,hv,hor]
 ·have f1:((i:Int)<(s.length:Int))=False:=eq_false (by omega)
  have e:i=s.length:=by omega
  subst e
  rw [List.take_length]
  (repeat' with_reducible first|intro _|refine rz ?_|refine ra ?_ ?_|omega|simp only [go_sem,f1])
  refine aV.auto 0 ?_ rfl ?_<;>simp only [go_sem,Int.natCast_succ,Post]
set_option maxHeartbeats 2000000 in
theorem nU (s:Bytes) (hs:s.length≤200000000000000):aA Tryz.prog 26 [.str s] (.str (dU s)) []:=by
 refine aA.aG Tryz.func26 rfl (by decide) (by simp [Tryz.f26]) [.tmp 2] rfl fun w0 T0 _=>?_
 simp only [Tryz.f26,au]
 (repeat' with_reducible first|intro _|exact dn|refine rn ?_|refine ra ?_ ?_)
 refine aI.intro (fun i:Nat=>⟨38,[(9,.int .i64 i),(8,.int .i64 s.length),(3,.int .u64 (qB (s.take i))),(0,.str s)],[],0⟩) (fun i=>i≤s.length) (fun i=>s.length - i) 0 ?_ (Nat.zero_le _) fun i hi=>?_
 ·refine aO.ak rfl ?_ ?_<;>simp only [go_sem,Int.natCast_succ]
  all_goals rfl
 have hvl:=Om (s.take i)
 by_cases hlt:i<s.length
 ·have f1:((i:Int)<(s.length:Int))=True:=eq_true (by omega)
  have hv:=KF hlt
  have hc:(s.getD i 0).toNat<256:=(s.getD i 0).toNat_lt
  have hx:=Pz hvl hc
  have hw:IntKind.u64.wrap (((qB (s.take i) ^^^ (s.getD i 0).toNat:Nat):Int)*1099511628211)=((Dw (qB (s.take i)) (s.getD i 0):Nat):Int):=by
   rw [IntKind.wrap_u64];unfold Dw;omega
  generalize qB (s.take i)=v at *
  generalize Dw v (s.getD i 0)=u at *
  generalize v ^^^ (s.getD i 0).toNat=y at *
  (repeat' with_reducible first|intro _|refine rz ?_|refine ra ?_ ?_|omega|simp only [go_sem,f1,hx])
  refine bW.at _ hw ?_
  (repeat' with_reducible first|intro _|exact dn|refine rn ?_|refine ra ?_ ?_)
  refine ⟨i+1,aO.ak rfl ?_ ?_,by omega,by omega⟩<;>simp only [go_sem,Int.natCast_succ,hv]
 ·have f1:((i:Int)<(s.length:Int))=False:=eq_false (by omega)
  have e:i=s.length:=by omega
  subst e
  rw [List.take_length] at *
  have hT:(aj (dU s)).length=8:=by rw [cO,xK]
  (repeat' with_reducible first|intro _|refine rz ?_|refine ra ?_ ?_|omega|simp only [go_sem,f1])
  refine aI.intro (fun i:Nat=>⟨38,[(23,.int .i64 i),(22,.int .i64 8),(5,.own 0),(3,.int .u64 (qB s))],[(0,.row 5 (.ints .u8 ((aj (dU s)).take i++List.replicate (8 - i) 0)))],1⟩) (fun i=>i≤8) (fun i=>8 - i) 0 ?_ (Nat.zero_le _) fun i hi=>?_
  ·refine aO.ak rfl ?_ ?_<;>simp only [go_sem,Int.natCast_succ]
   all_goals rfl
  have htl:((aj (dU s)).take i).length=i:=by rw [List.length_take,hT];omega
  by_cases hlt:i<8
  ·have f1:((i:Int)<8)=True:=eq_true (by omega)
   have hv:IntKind.u8.wrap (lC .u64 (qB s:Int) (8*(7 - (i:Int))))=(aj (dU s)).getD i 0:=by
    unfold dU
    rw [O5 hlt,show 7 - (i:Int)=((8 - 1 - i:Nat):Int) by omega]
    exact DV rfl (.inl rfl) (by omega)
   have hs:=lD (z:=0) (d:=0) hT hlt
   (repeat' with_reducible first|intro _|refine rz ?_|refine ra ?_ ?_|omega|simp only [go_sem,f1])
   refine bW.at _ hv ?_
   (repeat' with_reducible first|intro _|refine rz ?_|refine ra ?_ ?_|omega|simp only [go_sem,htl])
   rw [hs]
   refine ⟨i+1,aO.ak rfl ?_ ?_,by omega,by omega⟩<;>simp only [go_sem,Int.natCast_succ]
  ·have f1:((i:Int)<8)=False:=eq_false (by omega)
   have e:i=8:=by omega
   subst e
   have hfull:(aj (dU s)).take 8=aj (dU s):=List.take_of_length_le (by omega)
   have hbk:=iG (dU s)
   (repeat' with_reducible first|intro _|refine rz ?_|refine ra ?_ ?_|omega|simp only [go_sem,f1])
   refine aV.auto 0 ?_ rfl ?_<;>simp only [go_sem,Int.natCast_succ,Post,hfull,hbk]
set_option maxHeartbeats 2000000 in
theorem bJ (s:Bytes) (hs:s.length≤4):aA Tryz.prog 71 [.str s] (.int .i64 (bV s)) []:=by
 refine aA.aG Tryz.func71 rfl (by decide) (by simp [Tryz.f71]) [.tmp 2] rfl fun w0 T0 _=>?_
 simp only [Tryz.f71,au]
 (repeat' with_reducible first|intro _|exact dn|refine rn ?_|refine ra ?_ ?_)
 refine aI.intro (fun i:Nat=>⟨19,[(7,.int .i64 i),(6,.int .i64 s.length),(3,.int .i64 (bV (s.take i))),(0,.str s)],[],0⟩) (fun i=>i≤s.length) (fun i=>s.length - i) 0 ?_ (Nat.zero_le _) fun i hi=>?_
 ·refine aO.ak rfl ?_ ?_<;>simp only [go_sem,Int.natCast_succ]
  all_goals rfl
 by_cases hlt:i<s.length
 ·have f1:((i:Int)<(s.length:Int))=True:=eq_true (by omega)
  have hv:=Ju hlt
  have hc:=(s.getD i 0).toNat_lt
  have hb:=uf (s.take i)
  have hp:(256:Nat) ^ (s.take i).length≤256 ^ 3:=Nat.pow_le_pow_right (by decide) (by rw [List.length_take];omega)
  rw [show (256:Nat) ^ 3=16777216 from rfl] at hp
  have hc:(s.getD i 0).toNat<256:=(s.getD i 0).toNat_lt
  have hor:=MZ (a:=bV (s.take i)) (c:=(s.getD i 0).toNat) (by omega) hc
  have h8:=V7 (bV (s.take i))
  generalize bV (s.take i)=v at *
  (repeat' with_reducible first|intro _|refine rz ?_|refine ra ?_ ?_|omega|simp only [go_sem,f1])
  rw [h8]
  (repeat' with_reducible first|intro _|refine rz ?_|refine ra ?_ ?_|omega|simp only [go_sem,hor])
  refine ⟨i+1,aO.ak rfl ?_ ?_,by omega,by omega⟩<;>simp only [go_sem,Int.natCast_succ,hv,hor]
 ·have f1:((i:Int)<(s.length:Int))=False:=eq_false (by omega)
  have e:i=s.length:=by omega
  subst e
  rw [List.take_length]
  (repeat' with_reducible first|intro _|refine rz ?_|refine ra ?_ ?_|omega|simp only [go_sem,f1])
  refine aV.auto 0 ?_ rfl ?_<;>simp only [go_sem,Int.natCast_succ,Post]
set_option maxHeartbeats 2000000 in
theorem iY (s:Bytes) (hs:s.length≤200000000000000):aA Tryz.prog 14 [.str s] (.str (dU s)) []:=by
 refine aA.aG Tryz.func14 rfl (by decide) (by simp [Tryz.f14]) [.tmp 2] rfl fun w0 T0 _=>?_
 simp only [Tryz.f14,au]
 (repeat' with_reducible first|intro _|exact dn|refine rn ?_|refine ra ?_ ?_)
 refine aI.intro (fun i:Nat=>⟨21,[(7,.int .i64 i),(6,.int .i64 s.length),(3,.int .u64 (qB (s.take i))),(0,.str s)],[],0⟩) (fun i=>i≤s.length) (fun i=>s.length - i) 0 ?_ (Nat.zero_le _) fun i hi=>?_
 ·refine aO.ak rfl ?_ ?_<;>simp only [go_sem,Int.natCast_succ]
  all_goals rfl
 have hvl:=Om (s.take i)
 by_cases hlt:i<s.length
 ·have f1:((i:Int)<(s.length:Int))=True:=eq_true (by omega)
  have hv:=KF hlt
  have hc:(s.getD i 0).toNat<256:=(s.getD i 0).toNat_lt
  have hx:=Pz hvl hc
  have hw:IntKind.u64.wrap (((qB (s.take i) ^^^ (s.getD i 0).toNat:Nat):Int)*1099511628211)=((Dw (qB (s.take i)) (s.getD i 0):Nat):Int):=by
   rw [IntKind.wrap_u64];unfold Dw;omega
  generalize qB (s.take i)=v at *
  generalize Dw v (s.getD i 0)=u at *
  generalize v ^^^ (s.getD i 0).toNat=y at *
  (repeat' with_reducible first|intro _|refine rz ?_|refine ra ?_ ?_|omega|simp only [go_sem,f1,hx])
  refine bW.at _ hw ?_
  (repeat' with_reducible first|intro _|exact dn|refine rn ?_|refine ra ?_ ?_)
  refine ⟨i+1,aO.ak rfl ?_ ?_,by omega,by omega⟩<;>simp only [go_sem,Int.natCast_succ,hv]
 ·have f1:((i:Int)<(s.length:Int))=False:=eq_false (by omega)
  have e:i=s.length:=by omega
  subst e
  rw [List.take_length] at *
  have hw:∃ n:Int,n=IntKind.i64.wrap (qB s:Int)∧(n=(qB s:Int)∨n=(qB s:Int) - 18446744073709551616)∧-9223372036854775808≤n∧n≤9223372036854775807:=by
   refine ⟨_,rfl,?_⟩
   rw [IntKind.wrap_i64]
   omega
  obtain ⟨n,hn,hn2,hn3⟩:=hw
  have kb:=uO n (qB s) 8 hn2 hvl hn3 (Nat.le_refl _)
  rw [show ((8:Nat):Int)=8 from rfl] at kb
  (repeat' with_reducible first|intro _|refine rz ?_|refine ra ?_ ?_|omega|simp only [go_sem,f1])
  refine bW.at n hn.symm ?_
  refine ah.k kb ?_
  (repeat' with_reducible first|intro _|exact dn|refine rn ?_|refine ra ?_ ?_)
  refine aV.auto 0 ?_ rfl ?_<;>simp only [go_sem,Int.natCast_succ,Post,dU]
end Go.Fv.H
/- shrink.packed, unpacked, bitsOf: the walk. -/
namespace Go.Fv.H
open Go Go.Proofs
theorem zn (a b:Nat) (ha:a<256) (hb:b<256):(BitVec.ofInt 8 (a:Int)).toNat=a∧(BitVec.ofInt 8 (b:Int)).toNat=b:=by
 rw [BitVec.ofInt_natCast,BitVec.toNat_ofNat,BitVec.ofInt_natCast,BitVec.toNat_ofNat]
 exact ⟨Nat.mod_eq_of_lt (by omega),Nat.mod_eq_of_lt (by omega)⟩
theorem YG {a t:Nat} (ht:t<8) (hm:a%2 ^ (8 - t)=0) (hl:a+2 ^ (7 - t)<256):fU .or .u8 (a:Int) ((2 ^ (7 - t):Nat):Int)=((a+2 ^ (7 - t):Nat):Int):=by
 have hlt:2 ^ (7 - t)<2 ^ (8 - t):=Nat.pow_lt_pow_right (by decide) (by omega)
 have h:=Nat.two_pow_add_eq_or_of_lt hlt (a / 2 ^ (8 - t))
 have ha:2 ^ (8 - t)*(a / 2 ^ (8 - t))=a:=by have:=Nat.div_add_mod a (2 ^ (8 - t));omega
 rw [ha] at h
 obtain ⟨b,hb⟩:∃ b,2 ^ (7 - t)=b:=⟨_,rfl⟩
 rw [hb] at h hl ⊢
 obtain ⟨e1,e2⟩:=zn a b (by omega) (by omega)
 show IntKind.u8.wrap (((BitVec.ofInt 8 (a:Int)) ||| (BitVec.ofInt 8 (b:Int))).toNat:Int)=_
 rw [BitVec.toNat_or,e1,e2,←h,kL]
 omega
theorem WX {t:Nat} (ht:t<8):lC .u8 128 (t:Int)=((2 ^ (7 - t):Nat):Int):=by
 have hc:t=0∨t=1∨t=2∨t=3∨t=4∨t=5∨t=6∨t=7:=by omega
 rcases hc with rfl|rfl|rfl|rfl|rfl|rfl|rfl|rfl<;>rfl
set_option maxHeartbeats 4000000 in
theorem zk (s:Bytes) (hs:s.length≤1000000000):aA Tryz.prog 152 [.str s] (.own 0) [(0,.row 5 (.ints .u8 (aj (jr s))))]:=by
 refine aA.aG Tryz.func152 rfl (by decide) (by simp [Tryz.f152]) [.tmp 2] rfl fun w0 T0 _=>?_
 simp only [Tryz.f152,au]
 have d0:((s.length:Int)+7).tdiv 8=(((s.length+7) / 8:Nat):Int):=by rw [Int.tdiv_eq_ediv_of_nonneg (by omega)];omega
 have hpk:jr s=AL ((s.length+7) / 8) s:=rfl
 rw [hpk]
 obtain ⟨n,hn⟩:∃ n,(s.length+7) / 8=n:=⟨_,rfl⟩
 rw [hn] at d0 ⊢
 have hz:aj (AL n [])=List.replicate n 0:=by
  unfold aj AL
  apply List.ext_getElem?
  intro j
  simp only [List.getElem?_map,List.getElem?_replicate]
  by_cases h:j<n
  ·rw [List.getElem?_range h,if_pos h]
   have e:pk [] j=0:=by
    have hb:∀ k,bt [] k=0:=fun k=>rfl
    unfold pk;simp only [hb]
   simp only [Option.map_some,e]
   rfl
  ·rw [List.getElem?_eq_none (by simp;omega),if_neg h];rfl
 (repeat' with_reducible first|intro _|refine rz ?_|refine ra ?_ ?_|omega|simp only [go_sem,d0])
 refine aI.intro (fun i:Nat=>⟨31,[(12,.int .i64 i),(11,.int .i64 s.length),(3,.own 0),(0,.str s)],[(0,.row 5 (.ints .u8 (aj (AL n (s.take i)))))],1⟩) (fun i=>i≤s.length) (fun i=>s.length - i) 0 ?_ (Nat.zero_le _) fun i hi=>?_
 ·refine aO.ak rfl ?_ ?_<;>simp only [go_sem,Int.natCast_succ,hz]
 by_cases hlt:i<s.length
 ·have f1:((i:Int)<(s.length:Int))=True:=eq_true (by omega)
  by_cases h49:s.getD i 0=49
  ·have f2:(((s.getD i 0).toNat:Int)=49)=True:=eq_true (by rw [h49];rfl)
   obtain ⟨p1,p2⟩:=OU hlt h49
   have hst:=TM (n:=n) hlt h49
   have hlen:(aj (AL n (s.take i))).length=n:=by rw [cO,xu]
   have hin:i / 8<n:=by omega
   have hat:(aj (AL n (s.take i))).getD (i / 8) 0=((pk (s.take i) (i / 8):Nat):Int):=by rw [bytes_at (by rw [xu];exact hin),Rl _ hin]
   have hpl:=Jg (s.take (i+1)) (i / 8)
   have ho:=YG (a:=pk (s.take i) (i / 8)) (t:=i%8) (Nat.mod_lt _ (by decide)) p2 (by omega)
   have hs8:=WX (t:=i%8) (Nat.mod_lt _ (by decide))
   have d1:(i:Int).tdiv 8=((i / 8:Nat):Int):=by rw [Int.tdiv_eq_ediv_of_nonneg (by omega)];rfl
   have d2:(i:Int).tmod 8=((i%8:Nat):Int):=by rw [Int.tmod_eq_emod_of_nonneg (by omega)];rfl
   have hp128:(2:Nat) ^ (7 - i%8)≤128:=by
    have:(2:Nat) ^ (7 - i%8)≤2 ^ 7:=Nat.pow_le_pow_right (by decide) (by omega)
    exact this
   (repeat' with_reducible first|intro _|refine rz ?_|refine ra ?_ ?_|omega|simp only [go_sem,f1,f2])
   refine aQ.lex [10] [] (by kernel_rfl) (by kernel_rfl) ?_
   (repeat' with_reducible first|intro _|refine rz ?_|refine ra ?_ ?_|omega|simp only [go_sem,d1,d2,hlen,hat,hs8,ho,hst])
   refine ⟨i+1,aO.ak rfl ?_ ?_,by omega,by omega⟩<;>simp only [go_sem,Int.natCast_succ]
  ·have f2:(((s.getD i 0).toNat:Int)=49)=False:=eq_false fun h=>h49 (UInt8.toNat_inj.1 (by show _=49;omega))
   have hst:=TV (n:=n) hlt h49
   (repeat' with_reducible first|intro _|refine rz ?_|refine ra ?_ ?_|omega|simp only [go_sem,f1,f2])
   refine ⟨i+1,aO.ak rfl ?_ ?_,by omega,by omega⟩<;>simp only [go_sem,Int.natCast_succ,hst]
 ·have f1:((i:Int)<(s.length:Int))=False:=eq_false (by omega)
  have e:i=s.length:=by omega
  subst e
  rw [List.take_length]
  (repeat' with_reducible first|intro _|refine rz ?_|refine ra ?_ ?_|omega|simp only [go_sem,f1])
  refine aV.auto 1 ?_ rfl ?_<;>simp only [go_sem,Int.natCast_succ,Post]
theorem Vy {d:Bytes} {i:Nat} (h:i<8*d.length):(aj (gJ d)).getD i 0=((48+(d.getD (i / 8) 0).toNat / 2 ^ (7 - i%8)%2:Nat):Int):=by
 rw [bytes_at (by unfold gJ;simp;exact h)]
 unfold gJ
 rw [List.getD_eq_getElem?_getD,List.getElem?_map,List.getElem?_range h]
 simp
 omega
theorem WR {a t:Nat} (ht:t<8):lC .u8 (a:Int) (t:Int)=((a / 2 ^ t:Nat):Int):=by
 unfold lC
 have e:min (t:Int).toNat IntKind.u8.bits=t:=by show min t 8=t;omega
 rw [e,Int.fdiv_eq_ediv_of_nonneg _ (Int.le_of_lt (Int.pow_pos (by decide)))]
 rfl
theorem WA {a:Nat} (ha:a<256):fU .and .u8 (a:Int) 1=((a%2:Nat):Int):=by
 obtain ⟨e1,e2⟩:=zn a 1 ha (by decide)
 show IntKind.u8.wrap (((BitVec.ofInt 8 (a:Int)) &&& (BitVec.ofInt 8 ((1:Nat):Int))).toNat:Int)=_
 rw [BitVec.toNat_and,e1,e2,Nat.and_one_is_mod,kL]
 omega
set_option maxHeartbeats 4000000 in
theorem oG (d:Bytes) (hd:d.length≤1000000000):aA Tryz.prog 104 [.str d] (.str (gJ d)) []:=by
 refine aA.aG Tryz.func104 rfl (by decide) (by simp [Tryz.f104]) [.tmp 2] rfl fun w0 T0 _=>?_
 simp only [Tryz.f104,au]
 have hup:=@Vy d
 have hul:(aj (gJ d)).length=8*d.length:=by rw [cO];unfold gJ;simp
 have hbk:=iG (gJ d)
 have d0:8*(d.length:Int)=((8*d.length:Nat):Int):=by omega
 have hdiv:∀ i,i<8*d.length→i / 8<d.length:=fun i hi=>by omega
 obtain ⟨n,hn⟩:∃ n,8*d.length=n:=⟨_,rfl⟩
 rw [hn] at d0 hul hup hdiv
 (repeat' with_reducible first|intro _|refine rz ?_|refine ra ?_ ?_|omega|simp only [go_sem,d0])
 refine aI.intro (fun i:Nat=>⟨30,[(11,.int .i64 i),(10,.int .i64 n),(3,.own 0),(0,.str d)],[(0,.row 5 (.ints .u8 ((aj (gJ d)).take i++List.replicate (n - i) 0)))],1⟩) (fun i=>i≤n) (fun i=>n - i) 0 ?_ (Nat.zero_le _) fun i hi=>?_
 ·refine aO.ak rfl ?_ ?_<;>simp only [go_sem,Int.natCast_succ]
  all_goals rfl
 have htl:((aj (gJ d)).take i).length=i:=by rw [List.length_take,hul];omega
 by_cases hlt:i<n
 ·have f1:((i:Int)<(n:Int))=True:=eq_true (by omega)
  have hs:=lD (z:=0) (d:=0) hul hlt
  rw [hup hlt] at hs
  have d1:(i:Int).tdiv 8=((i / 8:Nat):Int):=by rw [Int.tdiv_eq_ediv_of_nonneg (by omega)];rfl
  have d2:(i:Int).tmod 8=((i%8:Nat):Int):=by rw [Int.tmod_eq_emod_of_nonneg (by omega)];rfl
  have d3:7 - ((i%8:Nat):Int)=((7 - i%8:Nat):Int):=by omega
  have hq:=hdiv i hlt
  have hc:(d.getD (i / 8) 0).toNat<256:=(d.getD (i / 8) 0).toNat_lt
  have h8:=WR (a:=(d.getD (i / 8) 0).toNat) (t:=7 - i%8) (by omega)
  have hlt8:(d.getD (i / 8) 0).toNat / 2 ^ (7 - i%8)<256:=Nat.lt_of_le_of_lt (Nat.div_le_self _ _) hc
  have ha:=WA hlt8
  have hv:(48:Int)+(((d.getD (i / 8) 0).toNat / 2 ^ (7 - i%8)%2:Nat):Int)=((48+(d.getD (i / 8) 0).toNat / 2 ^ (7 - i%8)%2:Nat):Int):=by omega
  (repeat' with_reducible first|intro _|refine rz ?_|refine ra ?_ ?_|omega|simp only [go_sem,f1,d1,d2,d3,h8,ha,hv])
  refine ⟨i+1,aO.ak rfl ?_ ?_,by omega,by omega⟩<;>simp only [go_sem,Int.natCast_succ,hs]
 ·have f1:((i:Int)<(n:Int))=False:=eq_false (by omega)
  have e:i=n:=by omega
  subst e
  have hfull:(aj (gJ d)).take i=aj (gJ d):=List.take_of_length_le (by omega)
  (repeat' with_reducible first|intro _|refine rz ?_|refine ra ?_ ?_|omega|simp only [go_sem,f1])
  refine aV.auto 0 ?_ rfl ?_<;>simp only [go_sem,Int.natCast_succ,Post,hfull,hbk]
def fF (p:List Bool):Bytes:=p.map fun b=>if b=true then 49 else 48
theorem jH (p:List Bool):(fF p).length=p.length:=by unfold fF;rw [List.length_map]
theorem TL {p:List Bool} {i:Nat} (h:i<p.length):(aj (fF p)).getD i 0=if p.getD i false=true then 49 else 48:=by
 rw [bytes_at (by rw [jH];exact h)]
 unfold fF
 rw [List.getD_eq_getElem?_getD,List.getElem?_map,List.getD_eq_getElem?_getD,List.getElem?_eq_getElem h]
 simp only [Option.map_some,Option.getD_some]
 split<;>rfl
set_option maxHeartbeats 4000000 in
theorem Qg (w h:Int) (p:List Bool) (hp:p.length≤1000000000):aA Tryz.prog 153 [.agg [.int .i64 w,.int .i64 h,.ro (.bools p)]] (.str (fF p)) []:=by
 refine aA.aG Tryz.func153 rfl (by decide) (by simp [Tryz.f153]) [.tmp 2] rfl fun w0 T0 _=>?_
 simp only [Tryz.f153,au]
 have hat:=@TL p
 have hul:(aj (fF p)).length=p.length:=by rw [cO,jH]
 have hbk:=iG (fF p)
 (repeat' with_reducible first|intro _|exact dn|refine rn ?_|refine ra ?_ ?_)
 refine aI.intro (fun i:Nat=>⟨28,[(13,.int .i64 i),(12,.int .i64 p.length),(11,.ro (.bools p)),(3,.own 1),(1,.ptr 0 0)],[(0,.box 24 [.int .i64 w,.int .i64 h,.ro (.bools p)]),(1,.row 5 (.ints .u8 ((aj (fF p)).take i++List.replicate (p.length - i) 0)))],2⟩) (fun i=>i≤p.length) (fun i=>p.length - i) 0 ?_ (Nat.zero_le _) fun i hi=>?_
 ·refine aO.ak rfl ?_ ?_<;>simp only [go_sem,Int.natCast_succ]
  all_goals rfl
 have htl:((aj (fF p)).take i).length=i:=by rw [List.length_take,hul];omega
 by_cases hlt:i<p.length
 ·have f1:((i:Int)<(p.length:Int))=True:=eq_true (by omega)
  have hs:=lD (z:=0) (d:=0) hul hlt
  rw [hat hlt] at hs
  cases hb:p.getD i false with
  | true=>
   rw [hb,if_pos rfl] at hs
   (repeat' with_reducible first|intro _|refine rz ?_|refine ra ?_ ?_|omega|simp only [go_sem,f1,htl,hb,List.set_set])
   refine ⟨i+1,aO.ak rfl ?_ ?_,by omega,by omega⟩<;>simp only [go_sem,Int.natCast_succ,hs]
  | false=>
   rw [hb,if_neg (by decide)] at hs
   (repeat' with_reducible first|intro _|refine rz ?_|refine ra ?_ ?_|omega|simp only [go_sem,f1,htl,hb])
   refine ⟨i+1,aO.ak rfl ?_ ?_,by omega,by omega⟩<;>simp only [go_sem,Int.natCast_succ,hs]
 ·have f1:((i:Int)<(p.length:Int))=False:=eq_false (by omega)
  have e:i=p.length:=by omega
  subst e
  have hfull:(aj (fF p)).take p.length=aj (fF p):=List.take_of_length_le (by omega)
  (repeat' with_reducible first|intro _|refine rz ?_|refine ra ?_ ?_|omega|simp only [go_sem,f1])
  refine aV.auto 0 ?_ rfl ?_<;>simp only [go_sem,Int.natCast_succ,Post,hfull,hbk]
end Go.Fv.H
/- Runs of a row: the walk. -/
namespace Go.Fv.H
open Go Go.Proofs
def iZ (out:List Int) (ink:Bool) (i:Nat) (p:Bool):List Int × Bool:=
 let out:=if i=0 then out++[0] else out
 let out:=if p=ink then out else out++[0]
 (out.set (out.length - 1) (out.getD (out.length - 1) 0+1),p)
def bC (row:List Bool):Nat→List Int × Bool
 | 0=>([],false)
 | i+1=>iZ (bC row i).1 (bC row i).2 i (row.getD i false)
theorem qK (row:List Bool):∀ i,(bC row i).1.length≤i+1∧(0<i→0<(bC row i).1.length)∧∀ x,x∈(bC row i).1→0≤x∧x≤i
 | 0=>by simp [bC]
 | i+1=>by
  obtain ⟨h1,h2,h3⟩:=qK row i
  simp only [bC,iZ]
  generalize hl:(if row.getD i false=(bC row i).2 then (if i=0 then (bC row i).1++[0] else (bC row i).1) else (if i=0 then (bC row i).1++[0] else (bC row i).1)++[0])=l
  have a:l.length≤i+2∧0<l.length∧∀ x,x∈l→0≤x∧x≤i:=by
   subst hl
   by_cases e:i=0
   ·subst e
    have z:(bC row 0).1=[]:=rfl
    simp only [z,if_true]
    split
    ·simp
    ·simp
   ·have:=h2 (by omega)
    simp only [if_neg e]
    split
    ·exact ⟨by omega,by omega,h3⟩
    ·simp only [List.length_append,List.length_cons,List.length_nil,List.mem_append,List.mem_singleton]
     refine ⟨by omega,by omega,?_⟩
     rintro x (hx|hx)
     ·exact h3 x hx
     ·omega
  obtain ⟨a1,a2,a3⟩:=a
  have hb:=Ht a3 (Int.le_refl 0) (by omega) (l.length - 1)
  refine ⟨by simp;omega,by simp;omega,fun x hx=>?_⟩
  rcases List.mem_or_eq_of_mem_set hx with hx|hx
  ·have:=a3 x hx;omega
  ·omega
set_option maxHeartbeats 4000000 in
theorem Uz (row:List Bool) (h:row.length≤4000):aA Tryz.prog 155 [.ro (.bools row)] (.own 0) [(0,.row 3 (.ints .i64 (bC row row.length).1))]:=by
 refine aA.aG Tryz.func155 rfl (by decide) (by simp [Tryz.f155]) [.tmp 2] rfl fun w0 T0 _=>?_
 simp only [Tryz.f155,au]
 (repeat' with_reducible first|intro _|exact dn|refine rn ?_|refine ra ?_ ?_)
 refine aI.intro (fun i:Nat=>⟨36,[(7,.ro (.bools row)),(8,.int .i64 row.length),(9,.int .i64 i),(3,.own 0),(4,.bool (bC row i).2)],[(0,.row 3 (.ints .i64 (bC row i).1))],1⟩) (fun i=>i≤row.length) (fun i=>row.length - i) 0 ?_ (Nat.zero_le _) fun i hi=>?_
 ·refine aO.ak rfl ?_ ?_<;>simp only [go_sem,Int.natCast_succ,bC]
 obtain ⟨k1,k2,k3⟩:=qK row i
 by_cases hlt:i<row.length
 rotate_left
 ·have f1:((i:Int)<(row.length:Int))=False:=eq_false (by omega)
  have e:i=row.length:=by omega
  subst e
  (repeat' with_reducible first|intro _|refine rz ?_|refine ra ?_ ?_|omega|simp only [go_sem,f1])
  refine aV.auto 1 ?_ rfl ?_<;>simp only [go_sem,Int.natCast_succ,Post]
 have f1:((i:Int)<(row.length:Int))=True:=eq_true (by omega)
 have hnx:bC row (i+1)=iZ (bC row i).1 (bC row i).2 i (row.getD i false):=rfl
 by_cases h0:i=0
 ·subst h0
  have z:bC row 0=([],false):=rfl
  have g1:([0]:List Int).getD 0 0=0:=rfl
  have g2:([0,0]:List Int).getD 1 0=0:=rfl
  rw [z] at hnx ⊢
  cases hp:row.getD 0 false with
  | true=>
   rw [hp] at hnx
   have hnx:bC row 1=([0,1],true):=hnx
   (repeat' with_reducible first|intro _|refine rz ?_|refine ra ?_ ?_|omega|simp only [go_sem,f1,hp,g1,g2,Int.natCast_zero])
   refine ⟨1,aO.ak rfl ?_ ?_,by omega,by omega⟩<;>simp only [go_sem,Int.natCast_succ,hnx]
   all_goals first|rfl|omega
  | false=>
   rw [hp] at hnx
   have hnx:bC row 1=([1],false):=hnx
   (repeat' with_reducible first|intro _|refine rz ?_|refine ra ?_ ?_|omega|simp only [go_sem,f1,hp,g1,g2,Int.natCast_zero])
   refine ⟨1,aO.ak rfl ?_ ?_,by omega,by omega⟩<;>simp only [go_sem,Int.natCast_succ,hnx]
   all_goals first|rfl|omega
 have f0:((i:Int)=0)=False:=eq_false (by omega)
 have hl:=k2 (by omega)
 generalize hs:bC row i=st at *
 obtain ⟨l,ink⟩:=st
 dsimp only at *
 have hb:=Ht (l:=l) (B:=i) k3 (Int.le_refl 0) (by omega) (l.length - 1)
 have hix:((l.length:Int) - 1).toNat=l.length - 1:=by omega
 by_cases hp:row.getD i false=ink
 ·have hnx:bC row (i+1)=(l.set (l.length - 1) (l.getD (l.length - 1) 0+1),row.getD i false):=by rw [hnx];unfold iZ;rw [if_neg h0];dsimp only;rw [if_pos hp]
  have hp2:(¬row.getD i false=ink)=False:=eq_false fun q=>q hp
  (repeat' with_reducible first|intro _|refine rz ?_|refine ra ?_ ?_|omega|simp only [go_sem,f1,f0,hp,hix])
  refine ⟨i+1,aO.ak rfl ?_ ?_,by omega,by omega⟩<;>simp only [go_sem,Int.natCast_succ,hnx,hp]
 ·have hnx:bC row (i+1)=((l++[0]).set l.length 1,row.getD i false):=by
   rw [hnx];unfold iZ;rw [if_neg h0];dsimp only;rw [if_neg hp]
   have e1:(l++[(0:Int)]).length - 1=l.length:=by simp
   have e2:(l++[(0:Int)]).getD l.length 0=0:=by simp [List.getD]
   rw [e1,e2];rfl
  have hix2:((l.length+1:Nat):Int) - 1=(l.length:Int):=by omega
  have e2:(l++[(0:Int)]).getD l.length 0=0:=by simp [List.getD]
  (repeat' with_reducible first|intro _|refine rz ?_|refine ra ?_ ?_|omega|simp only [go_sem,f1,f0,hp,hix2,Int.toNat_natCast,e2])
  refine ⟨i+1,aO.ak rfl ?_ ?_,by omega,by omega⟩<;>simp only [go_sem,Int.natCast_succ,hnx]
set_option maxHeartbeats 4000000 in
theorem Nl (row:List Bool) (h:row.length≤4000):aA Tryz.prog 58 [.ro (.bools row)] (.own 0) [(0,.row 3 (.ints .i64 (bC row row.length).1))]:=by
 refine aA.aG Tryz.func58 rfl (by decide) (by simp [Tryz.f58]) [.tmp 2] rfl fun w0 T0 _=>?_
 simp only [Tryz.f58,au]
 (repeat' with_reducible first|intro _|exact dn|refine rn ?_|refine ra ?_ ?_)
 refine aI.intro (fun i:Nat=>⟨34,[(7,.ro (.bools row)),(8,.int .i64 row.length),(9,.int .i64 i),(3,.own 0),(4,.bool (bC row i).2)],[(0,.row 3 (.ints .i64 (bC row i).1))],1⟩) (fun i=>i≤row.length) (fun i=>row.length - i) 0 ?_ (Nat.zero_le _) fun i hi=>?_
 ·refine aO.ak rfl ?_ ?_<;>simp only [go_sem,Int.natCast_succ,bC]
 obtain ⟨k1,k2,k3⟩:=qK row i
 by_cases hlt:i<row.length
 rotate_left
 ·have f1:((i:Int)<(row.length:Int))=False:=eq_false (by omega)
  have e:i=row.length:=by omega
  subst e
  (repeat' with_reducible first|intro _|refine rz ?_|refine ra ?_ ?_|omega|simp only [go_sem,f1])
  refine aV.auto 1 ?_ rfl ?_<;>simp only [go_sem,Int.natCast_succ,Post]
 have f1:((i:Int)<(row.length:Int))=True:=eq_true (by omega)
 have hnx:bC row (i+1)=iZ (bC row i).1 (bC row i).2 i (row.getD i false):=rfl
 by_cases h0:i=0
 ·subst h0
  have z:bC row 0=([],false):=rfl
  have g1:([0]:List Int).getD 0 0=0:=rfl
  have g2:([0,0]:List Int).getD 1 0=0:=rfl
  rw [z] at hnx ⊢
  cases hp:row.getD 0 false with
  | true=>
   rw [hp] at hnx
   have hnx:bC row 1=([0,1],true):=hnx
   (repeat' with_reducible first|intro _|refine rz ?_|refine ra ?_ ?_|omega|simp only [go_sem,f1,hp,g1,g2,Int.natCast_zero])
   refine ⟨1,aO.ak rfl ?_ ?_,by omega,by omega⟩<;>simp only [go_sem,Int.natCast_succ,hnx]
   all_goals first|rfl|omega
  | false=>
   rw [hp] at hnx
   have hnx:bC row 1=([1],false):=hnx
   (repeat' with_reducible first|intro _|refine rz ?_|refine ra ?_ ?_|omega|simp only [go_sem,f1,hp,g1,g2,Int.natCast_zero])
   refine ⟨1,aO.ak rfl ?_ ?_,by omega,by omega⟩<;>simp only [go_sem,Int.natCast_succ,hnx]
   all_goals first|rfl|omega
 have f0:((i:Int)=0)=False:=eq_false (by omega)
 have hl:=k2 (by omega)
 generalize hs:bC row i=st at *
 obtain ⟨l,ink⟩:=st
 dsimp only at *
 have hb:=Ht (l:=l) (B:=i) k3 (Int.le_refl 0) (by omega) (l.length - 1)
 have hix:((l.length:Int) - 1).toNat=l.length - 1:=by omega
 by_cases hp:row.getD i false=ink
 ·have hnx:bC row (i+1)=(l.set (l.length - 1) (l.getD (l.length - 1) 0+1),row.getD i false):=by rw [hnx];unfold iZ;rw [if_neg h0];dsimp only;rw [if_pos hp]
  have hp2:(¬row.getD i false=ink)=False:=eq_false fun q=>q hp
  (repeat' with_reducible first|intro _|refine rz ?_|refine ra ?_ ?_|omega|simp only [go_sem,f1,f0,hp,hix])
  refine ⟨i+1,aO.ak rfl ?_ ?_,by omega,by omega⟩<;>simp only [go_sem,Int.natCast_succ,hnx,hp]
 ·have hnx:bC row (i+1)=((l++[0]).set l.length 1,row.getD i false):=by
   rw [hnx];unfold iZ;rw [if_neg h0];dsimp only;rw [if_neg hp]
   have e1:(l++[(0:Int)]).length - 1=l.length:=by simp
   have e2:(l++[(0:Int)]).getD l.length 0=0:=by simp [List.getD]
   rw [e1,e2];rfl
  have hix2:((l.length+1:Nat):Int) - 1=(l.length:Int):=by omega
  have e2:(l++[(0:Int)]).getD l.length 0=0:=by simp [List.getD]
  (repeat' with_reducible first|intro _|refine rz ?_|refine ra ?_ ?_|omega|simp only [go_sem,f1,f0,hp,hix2,Int.toNat_natCast,e2])
  refine ⟨i+1,aO.ak rfl ?_ ?_,by omega,by omega⟩<;>simp only [go_sem,Int.natCast_succ,hnx]
end Go.Fv.H
/- Rows coded by the row above, in plain words. -/
namespace Go.Fv.H
open Go
def Jb (r:List Bool) (i:Nat):Bool:=if i=0 then false else r.getD (i - 1) false
def dG (r:List Bool) (i:Nat):Nat:=if h:i<r.length then (if r.getD i false=Jb r i then dG r (i+1) else i) else r.length
termination_by r.length - i
def fB (r:List Bool) (i:Nat) (c:Bool):Nat:=if dG r i<r.length∧r.getD (dG r i) false≠c then dG r (dG r i+1) else dG r i
theorem wo {r:List Bool} {i:Nat} (h:i<r.length):dG r i=if r.getD i false=Jb r i then dG r (i+1) else i:=by rw [dG,dif_pos h]
theorem gY {r:List Bool} {i:Nat} (h:¬i<r.length):dG r i=r.length:=by rw [dG,dif_neg h]
theorem iV (r:List Bool) (i:Nat):Jb r (i+1)=r.getD i false:=by unfold Jb;rw [if_neg (by omega)];rfl
theorem fV (r:List Bool) (i:Nat):dG r i≤r.length:=by
 by_cases h:i<r.length
 ·rw [wo h]
  split
  ·exact fV r (i+1)
  ·omega
 ·rw [gY h];exact Nat.le_refl _
termination_by r.length - i
theorem iO {r:List Bool} {i:Nat} (hi:i≤r.length):i≤dG r i:=by
 by_cases h:i<r.length
 ·rw [wo h]
  split
  ·have:=iO (r:=r) (i:=i+1) (by omega);omega
  ·omega
 ·rw [gY h];omega
termination_by r.length - i
theorem Ej {r:List Bool} {i j:Nat} (h1:i≤j) (h2:j<dG r i):r.getD j false=Jb r i:=by
 by_cases h:i<r.length
 ·rw [wo h] at h2
  split at h2
  ·rename_i he
   by_cases e:j=i
   ·subst e;exact he
   ·have:=Ej (r:=r) (i:=i+1) (j:=j) (by omega) h2
    rw [this,iV,he]
  ·omega
 ·rw [gY h] at h2;omega
termination_by r.length - i
theorem nZ {r:List Bool} {i:Nat} (h2:dG r i<r.length):r.getD (dG r i) false=!Jb r i:=by
 by_cases h:i<r.length
 ·rw [wo h] at h2 ⊢
  split
  ·rename_i he
   rw [if_pos he] at h2
   rw [nZ h2,iV,he]
  ·rename_i he
   generalize r.getD i false=a at he ⊢
   generalize Jb r i=b at he ⊢
   cases a<;>cases b<;>simp_all
 ·rw [gY h] at h2;omega
termination_by r.length - i
theorem jW {r:List Bool} {i:Nat} (hi:i≤r.length) (c:Bool):i≤fB r i c∧fB r i c≤r.length:=by
 unfold fB
 have h1:=iO hi
 have h2:=fV r i
 split
 ·rename_i h
  have h3:=iO (r:=r) (i:=dG r i+1) (by omega)
  exact ⟨by omega,fV _ _⟩
 ·exact ⟨h1,h2⟩
def eX:Bytes:=[48,48,48,49]
def dV:Bytes:=[48,48,49]
def aK:List Bytes:=[[48,48,48,48,48,49,48],[48,48,48,48,49,48],[48,49,48],[49],[48,49,49],[48,48,48,48,49,49],[48,48,48,48,48,49,49]]
structure YO where
 c:Bytes
 p:Nat
 k:Bool
def aT (row above:List Bool) (p:Nat) (ink:Bool):YO:=
 if dG above (fB above p (!ink)+1)<dG row p then ⟨eX,dG above (fB above p (!ink)+1)+1,ink⟩
 else if dG row p≤fB above p (!ink)+3∧fB above p (!ink)≤dG row p+3 then ⟨aK.getD (dG row p+3 - fB above p (!ink)) [],dG row p+1,!ink⟩
 else ⟨dV++(dR (dG row p - (p - 1)+1)++dR (dG row (dG row p+1) - dG row p+1)),dG row (dG row p+1)+1,ink⟩
theorem kM {row above:List Bool} (hw:above.length=row.length) {p:Nat} (hp:p≤row.length) (ink:Bool):p<(aT row above p ink).p∧(aT row above p ink).p≤row.length+1:=by
 have h1:=iO hp
 have h2:=fV row p
 obtain ⟨b1,b2⟩:=jW (r:=above) (i:=p) (by omega) (!ink)
 have b3:=fV above (fB above p (!ink)+1)
 unfold aT
 split
 ·dsimp only
  by_cases h:fB above p (!ink)<above.length
  ·have:=iO (r:=above) (i:=fB above p (!ink)+1) (by omega);omega
  ·rw [gY (r:=above) (i:=fB above p (!ink)+1) (by omega)];omega
 ·split
  ·dsimp only;omega
  ·dsimp only
   have h3:=fV row (dG row p+1)
   by_cases h:dG row p<row.length
   ·have:=iO (r:=row) (i:=dG row p+1) (by omega);omega
   ·rw [gY (r:=row) (i:=dG row p+1) (by omega)];omega
def lX (row above:List Bool) (p:Nat) (ink:Bool):Bytes:=
 if h:p≤row.length then
  if h2:p<(aT row above p ink).p then (aT row above p ink).c++lX row above (aT row above p ink).p (aT row above p ink).k else []
 else []
termination_by row.length+1 - p
theorem ni {row above:List Bool} (hw:above.length=row.length) {p:Nat} (hp:p≤row.length) (ink:Bool):lX row above p ink=(aT row above p ink).c++lX row above (aT row above p ink).p (aT row above p ink).k:=by
 conv=>lhs;rw [lX]
 rw [dif_pos hp,dif_pos (kM hw hp ink).1]
theorem jS {row above:List Bool} {p:Nat} (hp:¬p≤row.length) (ink:Bool):lX row above p ink=[]:=by rw [lX,dif_neg hp]
def eu (row above:List Bool):Bytes:=if row.length=0 then [] else lX row above 0 false
def codeOf (s:Bytes):Nat:=
 if eX.isPrefixOf s=true then 0
 else if (aK.getD 0 []).isPrefixOf s=true then 1
 else if (aK.getD 1 []).isPrefixOf s=true then 2
 else if (aK.getD 2 []).isPrefixOf s=true then 3
 else if (aK.getD 3 []).isPrefixOf s=true then 4
 else if (aK.getD 4 []).isPrefixOf s=true then 5
 else if (aK.getD 5 []).isPrefixOf s=true then 6
 else if (aK.getD 6 []).isPrefixOf s=true then 7
 else if dV.isPrefixOf s=true then 8 else 9
theorem KA (r:Bytes):codeOf (eX++r)=0:=by rfl
theorem Nz (r:Bytes):codeOf (dV++r)=8:=by rfl
theorem KX (k:Nat) (h:k≤6) (r:Bytes):codeOf (aK.getD k []++r)=k+1:=by
 have:k=0∨k=1∨k=2∨k=3∨k=4∨k=5∨k=6:=by omega
 rcases this with rfl|rfl|rfl|rfl|rfl|rfl|rfl<;>rfl
structure VL where
 p:Nat
 k:Bool
 px:List Bool
 n:Nat
def qQ (strict:Bool) (w:Nat) (s:Bytes) (p:Nat) (ink:Bool):Option VL:=
 match oq (s.drop 3) with
 | none=>none
 | some (m1,l1)=>match oq (s.drop (3+l1)) with
  | none=>none
  | some (m2,l2)=>
   if (strict=true→p≤p - 1+(m1 - 1))∧p - 1+(m1 - 1)+(m2 - 1)≤w∧p≤p - 1+(m1 - 1)+(m2 - 1) then
    some ⟨p - 1+(m1 - 1)+(m2 - 1)+1,ink,List.replicate (m1 - 1) ink++List.replicate (m2 - 1) (!ink),3+l1+l2⟩
   else none
def rdStep (strict:Bool) (above:List Bool) (s:Bytes) (p:Nat) (ink:Bool):Option VL:=
 if codeOf s=0 then some ⟨dG above (fB above p (!ink)+1)+1,ink,List.replicate (dG above (fB above p (!ink)+1) - (p - 1)) ink,4⟩
 else if codeOf s≤7 then
  (if p+4≤fB above p (!ink)+codeOf s∧fB above p (!ink)+codeOf s≤above.length+4 then
   some ⟨fB above p (!ink)+codeOf s - 4+1,!ink,List.replicate (fB above p (!ink)+codeOf s - 4 - (p - 1)) ink,(aK.getD (codeOf s - 1) []).length⟩ else none)
 else if codeOf s=8 then qQ strict above.length s p ink
 else none
end Go.Fv.H
/- The data of a page, in plain words. -/
namespace Go.Fv.H
open Go Go.Proofs
def rowP (w:Nat) (p:List Bool) (y:Nat):List Bool:=(p.drop (y*w)).take w
theorem gq {w h:Nat} {p:List Bool} (hp:p.length=w*h) {y:Nat} (hy:y<h):(rowP w p y).length=w:=by
 unfold rowP
 have h1:y*w+w≤h*w:=by rw [←Nat.succ_mul];exact Nat.mul_le_mul_right _ hy
 rw [List.length_take,List.length_drop,hp,Nat.mul_comm w h];omega
def rC (w:Nat) (p:List Bool) (y:Nat):List Bool:=if y=0 then List.replicate w false else rowP w p (y - 1)
def dw (l:List Int):Bytes:=l.flatMap fun n=>dR (n+1).toNat
def iH (r:List Bool):List Int:=(bC r r.length).1
def iI (w:Nat) (p:List Bool) (y:Nat):Bytes:=(List.range y).flatMap fun j=>dw (iH (rowP w p j))
def dZ (w:Nat) (p:List Bool) (y:Nat):Bytes:=(List.range y).flatMap fun j=>eu (rowP w p j) (rC w p j)
def bQ (w h:Nat) (p:List Bool) (kind:Int):Bytes:=
 if kind=1 then jr (fF p) else if kind=4 then rE w h p else if kind=2 then jr (iI w p h) else jr (dZ w p h)
def headB (w h:Nat) (p:List Bool) (kind:Int):Bytes:=dX 1 kind.toNat++dX 2 w++dX 2 h++dX 4 (bQ w h p kind).length++bQ w h p kind
def fE (w h:Nat) (p:List Bool) (kind:Int):Bytes:=headB w h p kind++dU (headB w h p kind)
theorem Sj (w h:Nat) (hw:w≤4000) (hh:h≤4000) (p:List Bool) (hp:p.length=w*h) (y:Nat) (hy:y<h) :
  aA Tryz.prog 156 [.agg [.int .i64 w,.int .i64 h,.ro (.bools p)],.int .i64 y] (.ro (.bools (rowP w p y))) []:=by
 have h1:y*w+w≤h*w:=by rw [←Nat.succ_mul];exact Nat.mul_le_mul_right _ hy
 have h2:h*w≤4000*4000:=Nat.mul_le_mul hh hw
 have h3:w*h=h*w:=Nat.mul_comm _ _
 have e1:(y:Int)*(w:Int)=((y*w:Nat):Int):=(Int.natCast_mul y w).symm
 have e2:((y:Int)+1)*(w:Int)=((y*w+w:Nat):Int):=by rw [Int.add_mul,Int.one_mul,e1];omega
 have e3:y*w+w - y*w=w:=by omega
 generalize hyw:y*w=a at *
 refine aA.aG Tryz.func156 rfl (by decide) (by simp [Tryz.f156]) [.tmp 4] rfl fun w0 T0 _=>?_
 simp only [Tryz.f156,au]
 (repeat' with_reducible first|intro _|refine rz ?_|refine ra ?_ ?_|omega|simp only [go_sem,e1,e2])
 refine aV.auto 0 ?_ rfl ?_<;>simp only [go_sem,Int.natCast_succ,Post,rowP,hyw,e3]
theorem gK (n lo hi:Int):aA Tryz.prog 109 [.int .i64 n,.int .i64 lo,.int .i64 hi] (.bool (decide (lo≤n∧n≤hi))) []:=by
 refine aA.aG Tryz.func109 rfl (by decide) (by simp [Tryz.f109]) [.tmp 6] rfl fun w0 T0 _=>?_
 simp only [Tryz.f109,au]
 (repeat' with_reducible first|intro _|exact dn|refine rn ?_|refine ra ?_ ?_)
 refine aV.auto 0 ?_ rfl ?_<;>simp only [go_sem,Int.natCast_succ,Post]
def Xc (p:List Bool) (w h:Nat) (i j:Int):Bool:=decide (0≤i∧i<w∧0≤j∧j<h) && p.getD (j*w+i).toNat false
theorem H8 (p:List Bool) {w h i j:Nat} (hi:i<w) (hj:j<h):Xc p w h i j=p.getD (j*w+i) false:=by
 unfold Xc
 rw [decide_eq_true (show 0≤(i:Int)∧(i:Int)<w∧0≤(j:Int)∧(j:Int)<h by omega),Bool.true_and,up_mul,up_add,Int.toNat_natCast]
theorem O7 (p:List Bool) {w h:Nat} {i j:Int} (h':¬(0≤i∧i<w∧0≤j∧j<h)):Xc p w h i j=false:=by
 unfold Xc;rw [decide_eq_false h',Bool.false_and]
set_option maxHeartbeats 2000000 in
theorem D6 (w h:Nat) (hw:w≤4000) (hh:h≤4000) (p:List Bool) (hp:p.length=w*h) (i j:Int):aA Tryz.prog 76 [.agg [.int .i64 w,.int .i64 h,.ro (.bools p)],.int .i64 i,.int .i64 j] (.bool (Xc p w h i j)) []:=by
 refine aA.aG Tryz.func76 rfl (by decide) (by simp [Tryz.f76]) [.tmp 6] rfl fun w0 T0 _=>?_
 simp only [Tryz.f76,au]
 by_cases hin:0≤i∧i<w∧0≤j∧j<h
 ·obtain ⟨i,rfl⟩:∃ k:Nat,i=k:=⟨i.toNat,by omega⟩
  obtain ⟨j,rfl⟩:∃ k:Nat,j=k:=⟨j.toNat,by omega⟩
  rw [H8 p (by omega) (by omega)]
  have b1:j*w+w≤h*w:=by rw [←Nat.succ_mul];exact Nat.mul_le_mul_right _ (by omega)
  have b2:h*w≤4000*4000:=Nat.mul_le_mul hh hw
  have b3:w*h=h*w:=Nat.mul_comm _ _
  (repeat' with_reducible first|intro _|exact dn|refine rn ?_|refine ra ?_ ?_)
  refine ah.k (gK i 0 (w - 1)) ?_
  rw [decide_eq_true (show 0≤(i:Int)∧(i:Int)≤w - 1 by omega)]
  (repeat' with_reducible first|intro _|exact dn|refine rn ?_|refine ra ?_ ?_)
  refine ah.k (gK j 0 (h - 1)) ?_
  rw [decide_eq_true (show 0≤(j:Int)∧(j:Int)≤h - 1 by omega)]
  (repeat' with_reducible first|intro _|refine rz ?_|refine ra ?_ ?_|omega|simp only [go_sem,up_mul,up_add,Int.toNat_natCast])
  refine aV.auto 0 ?_ rfl ?_<;>simp only [go_sem,Int.natCast_succ,Post]
 ·rw [O7 p hin]
  (repeat' with_reducible first|intro _|exact dn|refine rn ?_|refine ra ?_ ?_)
  refine ah.k (gK i 0 (w - 1)) ?_
  (repeat' with_reducible first|intro _|exact dn|refine rn ?_|refine ra ?_ ?_)
  ·refine ah.k (gK j 0 (h - 1)) ?_
   rw [decide_eq_false (show ¬(0≤(j:Int)∧(j:Int)≤h - 1) by omega)]
   (repeat' with_reducible first|intro _|exact dn|refine rn ?_|refine ra ?_ ?_)
   refine aV.auto 0 ?_ rfl ?_<;>simp only [go_sem,Int.natCast_succ,Post]
  ·refine aV.auto 0 ?_ rfl ?_<;>simp only [go_sem,Int.natCast_succ,Post]
end Go.Fv.H
/- shrink.at and shrink.context: the walk. -/
namespace Go.Fv.H
open Go Go.Proofs
theorem VI (w h:Nat) (p:List Bool) (x y:Int):lM w h p x y=Xc p w h x y:=rfl
set_option maxHeartbeats 2000000 in
theorem UJ (w h:Nat) (hw:w≤4000) (hh:h≤4000) (p:List Bool) (hp:p.length=w*h) (x y:Int):aA Tryz.prog 114 [.agg [.int .i64 w,.int .i64 h,.ro (.bools p)],.int .i64 x,.int .i64 y] (.bool (lM w h p x y)) []:=by
 rw [VI]
 refine aA.aG Tryz.func114 rfl (by decide) (by simp [Tryz.f114]) [.tmp 6] rfl fun w0 T0 _=>?_
 simp only [Tryz.f114,au]
 by_cases hin:0≤x∧x<w∧0≤y∧y<h
 ·obtain ⟨x,rfl⟩:∃ k:Nat,x=k:=⟨x.toNat,by omega⟩
  obtain ⟨y,rfl⟩:∃ k:Nat,y=k:=⟨y.toNat,by omega⟩
  rw [H8 p (by omega) (by omega)]
  have b1:y*w+w≤h*w:=by rw [←Nat.succ_mul];exact Nat.mul_le_mul_right _ (by omega)
  have b2:h*w≤4000*4000:=Nat.mul_le_mul hh hw
  have b3:w*h=h*w:=Nat.mul_comm _ _
  have hd:decide (((0≤(x:Int)∧(x:Int)<(w:Int))∧0≤(y:Int))∧(y:Int)<(h:Int))=true:=decide_eq_true ⟨⟨⟨hin.1,hin.2.1⟩,hin.2.2.1⟩,hin.2.2.2⟩
  (repeat' with_reducible first|intro _|refine rz ?_|refine ra ?_ ?_|omega|simp only [go_sem,up_mul,up_add,Int.toNat_natCast])
  refine aV.auto 0 ?_ rfl ?_<;>simp only [go_sem,Int.natCast_succ,Post]
  rw [hd,Bool.true_and]
 ·rw [O7 p hin]
  have hd:decide (((0≤x∧x<(w:Int))∧0≤y)∧y<(h:Int))=false:=decide_eq_false fun q=>hin ⟨q.1.1.1,q.1.1.2,q.1.2,q.2⟩
  (repeat' with_reducible first|intro _|exact dn|refine rn ?_|refine ra ?_ ?_)
  refine aV.auto 0 ?_ rfl ?_<;>simp only [go_sem,Int.natCast_succ,Post]
  rw [hd,Bool.false_and]
end Go.Fv.H
