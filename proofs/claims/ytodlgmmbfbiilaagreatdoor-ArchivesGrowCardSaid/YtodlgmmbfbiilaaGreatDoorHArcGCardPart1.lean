/-
  A part of the proof of the claim: walks over the program's functions and the plain laws that these need. No condition of its own.
-/
import Derived.Test.YtodlgmmbfbiilaaGreatDoorFvPart10
import Derived.Test.YtodlgmmbfbiilaaGreatDoorFvPart11
import Derived.Test.YtodlgmmbfbiilaaGreatDoorProg
set_option linter.unusedSimpArgs false
set_option linter.unusedVariables false
set_option linter.unnecessarySimpa false
set_option maxRecDepth 8000
/- Tokens of a text: what Split and its reference compute, in plain words. -/
namespace Go.Fv.H
open Go
abbrev Bytes:=List UInt8
end Go.Fv.H
/- Pixels by adaptive bits, in plain words. -/
namespace Go.Fv.H
open Go
def kL (W H:Nat) (P:List Bool) (x y:Int):Bool:=decide (0≤x∧x<W∧0≤y∧y<H) && P.getD (y*W+x).toNat false
def Qy:List (Int × Int):=[(-1,-2),(0,-2),(1,-2),(-2,-1),(-1,-1),(0,-1),(1,-1),(2,-1),(-2,0),(-1,0)]
def jG (b:Bool):Nat:=if b=true then 1 else 0
def yH (W H:Nat) (P:List Bool) (x y:Int):Nat:=Qy.foldl (fun n d=>2*n+jG (kL W H P (x+d.1) (y+d.2))) 0
theorem Lj (b:Bool):jG b≤1:=by unfold jG;split<;>omega
theorem yV (W H:Nat) (P:List Bool) (x y:Int):yH W H P x y<1024:=by
 have key:∀ (l:List (Int × Int)) (n k:Nat),n<2 ^ k→l.foldl (fun n d=>2*n+jG (kL W H P (x+d.1) (y+d.2))) n<2 ^ (k+l.length):=by
  intro l
  induction l with
  | nil=>intro n k h;exact h
  | cons d l ih=>
   intro n k h
   have:=Lj (kL W H P (x+d.1) (y+d.2))
   have h2:=ih (2*n+jG (kL W H P (x+d.1) (y+d.2))) (k+1) (by rw [Nat.pow_succ];omega)
   rw [List.foldl_cons,List.length_cons,Nat.add_comm l.length 1,←Nat.add_assoc];exact h2
 exact key Qy 0 0 (by decide)
def Hz (p:Nat) (k:Bool):Nat:=if k=true then p - p / 32 else p+(4096 - p) / 32
structure AE where
 big:Nat
 span:Nat
 sh:Nat
 tab:List Nat
def AE.init:AE:=⟨0,4294967295,0,List.replicate 1024 2048⟩
def AE.m (s:AE) (c:Nat):Nat:=s.span / 4096*s.tab.getD c 0
def AE.mid (s:AE) (c:Nat) (k:Bool):AE:=⟨if k=true then s.big+s.m c else s.big,if k=true then s.span - s.m c else s.m c,s.sh,s.tab.set c (Hz (s.tab.getD c 0) k)⟩
def AE.norm (s:AE):AE:=if s.span<16777216 then ⟨s.big*256,s.span*256,s.sh+1,s.tab⟩ else s
def AE.step (s:AE) (c:Nat) (k:Bool):AE:=(s.mid c k).norm
structure AE.Ok (s:AE):Prop where
 lo:16777216≤s.span
 hi:s.span≤4294967295
 len:s.tab.length=1024
 tab:∀ p,p∈s.tab→31≤p∧p≤4065
 top:s.big+s.span≤4294967296*256 ^ s.sh
theorem AE.L8:AE.init.Ok:=⟨by decide,by decide,List.length_replicate,fun p hp=>by rw [List.eq_of_mem_replicate hp];omega,by decide⟩
theorem ET {p:Nat} (h:31≤p∧p≤4065) (k:Bool):31≤Hz p k∧Hz p k≤4065:=by unfold Hz;split<;>omega
theorem AE.Fz {s:AE} (h:s.Ok) {c:Nat} (hc:c<1024):31≤s.tab.getD c 0∧s.tab.getD c 0≤4065:=by
 have hl:c<s.tab.length:=by rw [h.len];exact hc
 rw [getD_lt hl]
 exact h.tab _ (List.getElem_mem hl)
theorem AE.Qg {s:AE} (h:s.Ok) {c:Nat} (hc:c<1024):65536≤s.m c∧s.m c+65536≤s.span:=by
 obtain ⟨h1,h2⟩:=AE.Fz h hc
 have h3:=h.lo
 unfold AE.m
 have h4:4096≤s.span / 4096:=by omega
 have h5:s.span / 4096*31≤s.span / 4096*s.tab.getD c 0:=Nat.mul_le_mul_left _ h1
 have h6:s.span / 4096*s.tab.getD c 0≤s.span / 4096*4065:=Nat.mul_le_mul_left _ h2
 omega
theorem AE.EW {s:AE} (h:s.Ok) {c:Nat} (hc:c<1024) (k:Bool):(s.mid c k).tab.length=1024∧(∀ p,p∈(s.mid c k).tab→31≤p∧p≤4065)∧65536≤(s.mid c k).span∧(s.mid c k).span≤4294967295∧s.big≤(s.mid c k).big∧(s.mid c k).big+(s.mid c k).span≤s.big+s.span:=by
 obtain ⟨h1,h2⟩:=AE.Qg h hc
 have h3:=h.hi
 refine ⟨by show (s.tab.set _ _).length=_;rw [List.length_set,h.len],fun p hp=>?_,?_⟩
 ·rcases List.mem_or_eq_of_mem_set hp with hp|rfl
  ·exact h.tab p hp
  ·exact ET (AE.Fz h hc) k
 ·unfold AE.mid
  dsimp only
  cases k
  ·simp only [Bool.false_eq_true,if_false];omega
  ·simp only [if_true];omega
theorem AE.step_ok {s:AE} (h:s.Ok) {c:Nat} (hc:c<1024) (k:Bool):(s.step c k).Ok:=by
 obtain ⟨h1,h2,h3,h4,h5,h6⟩:=AE.EW h hc k
 have h7:=h.top
 have h8:(s.mid c k).sh=s.sh:=rfl
 unfold AE.step AE.norm
 split
 ·refine ⟨by dsimp only;omega,by dsimp only;omega,h1,h2,?_⟩
  show (s.mid c k).big*256+(s.mid c k).span*256≤4294967296*256 ^ ((s.mid c k).sh+1)
  rw [h8,Nat.pow_succ,←Nat.add_mul,←Nat.mul_assoc]
  exact Nat.mul_le_mul_right _ (by omega)
 ·exact ⟨by omega,h4,h1,h2,by rw [h8];omega⟩
def fQ (W H:Nat) (P:List Bool):Nat→AE
 | 0=>AE.init
 | i+1=>(fQ W H P i).step (yH W H P ((i%W:Nat):Int) ((i / W:Nat):Int)) (P.getD i false)
theorem yS (W H:Nat) (P:List Bool):∀ i,(fQ W H P i).Ok
 | 0=>AE.L8
 | i+1=>AE.step_ok (yS W H P i) (yV _ _ _ _ _) _
theorem Uo {s:AE} (h:s.Ok) {c:Nat} (hc:c<1024) (k:Bool):∃ r,(s.step c k).sh=s.sh+r∧r≤1∧s.big*256 ^ r≤(s.step c k).big∧(s.step c k).big+(s.step c k).span≤(s.big+s.span)*256 ^ r:=by
 obtain ⟨h1,h2,h3,h4,h5,h6⟩:=AE.EW h hc k
 have h8:(s.mid c k).sh=s.sh:=rfl
 unfold AE.step AE.norm
 split
 ·refine ⟨1,by rw [h8],Nat.le_refl _,?_,?_⟩
  ·show s.big*256 ^ 1≤(s.mid c k).big*256
   omega
  ·show (s.mid c k).big*256+(s.mid c k).span*256≤(s.big+s.span)*256 ^ 1
   omega
 ·exact ⟨0,by rw [h8,Nat.add_zero],by omega,by omega,by omega⟩
def seen (W H:Nat) (P:List Bool) (n i:Nat):Nat:=(fQ W H P n).big / 256 ^ ((fQ W H P n).sh - (fQ W H P i).sh)
end Go.Fv.H
/- Pixels by adaptive bits: what is coded is read. -/
namespace Go.Fv.H
open Go
def bP (k n:Nat):Bytes:=(List.range k).map fun i=>UInt8.ofNat (n / 256 ^ (k - 1 - i))
theorem aS (k n:Nat):(bP k n).length=k:=by simp [bP]
theorem U5 {k n j:Nat} (h:j<k):((bP k n).getD j 0).toNat=n / 256 ^ (k - 1 - j)%256:=by
 unfold bP
 rw [List.getD_eq_getElem?_getD,List.getElem?_map,List.getElem?_range h]
 simp
def DN (d:Bytes):Nat:=(d.headD 0).toNat
theorem vw (d:Bytes):DN d<256:=(d.headD 0).toNat_lt
structure AD where
 code:Nat
 span:Nat
 tab:List Nat
 data:Bytes
 P:List Bool
def four (d:Bytes):Nat:=((DN d*256+DN (d.drop 1))*256+DN (d.drop 2))*256+DN (d.drop 3)
def AD.init (d:Bytes) (n:Nat):AD:=⟨four d,4294967295,List.replicate 1024 2048,d.drop 4,List.replicate n false⟩
def AD.c (W H:Nat) (s:AD) (i:Nat):Nat:=yH W H s.P ((i%W:Nat):Int) ((i / W:Nat):Int)
def AD.m (s:AD) (c:Nat):Nat:=s.span / 4096*s.tab.getD c 0
def AD.k (s:AD) (c:Nat):Bool:=decide (s.m c≤s.code)
def AD.mid (s:AD) (c i:Nat):AD:=⟨if s.k c=true then s.code - s.m c else s.code,if s.k c=true then s.span - s.m c else s.m c,s.tab.set c (Hz (s.tab.getD c 0) (s.k c)),s.data,s.P.set i (s.k c)⟩
def AD.norm (s:AD):AD:=if s.span<16777216 then ⟨s.code*256%4294967296+DN s.data,s.span*256,s.tab,s.data.drop 1,s.P⟩ else s
def AD.step (W H:Nat) (s:AD) (i:Nat):AD:=(s.mid (s.c W H i) i).norm
def Wj (W H:Nat) (d:Bytes) (n:Nat):Nat→AD
 | 0=>AD.init d n
 | i+1=>(Wj W H d n i).step W H i
structure AD.Ok (s:AD) (n:Nat):Prop where
 lo:16777216≤s.span
 hi:s.span≤4294967295
 len:s.tab.length=1024
 tab:∀ p,p∈s.tab→31≤p∧p≤4065
 code:s.code≤4294967295
 P:s.P.length=n
theorem Tq (d:Bytes):four d≤4294967295:=by
 have h0:=vw d
 have h1:=vw (d.drop 1)
 have h2:=vw (d.drop 2)
 have h3:=vw (d.drop 3)
 unfold four;omega
theorem AD.L8 (d:Bytes) (n:Nat):(AD.init d n).Ok n:=⟨by show _≤4294967295;omega,Nat.le_refl _,List.length_replicate,fun p hp=>by rw [List.eq_of_mem_replicate hp];omega,Tq d,List.length_replicate⟩
theorem AD.Qg {s:AD} {n:Nat} (h:s.Ok n) {c:Nat} (hc:c<1024):(31≤s.tab.getD c 0∧s.tab.getD c 0≤4065)∧65536≤s.m c∧s.m c+65536≤s.span:=by
 have hl:c<s.tab.length:=by rw [h.len];exact hc
 have h0:=h.tab _ (List.getElem_mem hl)
 rw [←getD_lt (d:=0) hl] at h0
 obtain ⟨h1,h2⟩:=h0
 have h3:=h.lo
 unfold AD.m
 have h4:4096≤s.span / 4096:=by omega
 have h5:s.span / 4096*31≤s.span / 4096*s.tab.getD c 0:=Nat.mul_le_mul_left _ h1
 have h6:s.span / 4096*s.tab.getD c 0≤s.span / 4096*4065:=Nat.mul_le_mul_left _ h2
 omega
theorem AD.EW {s:AD} {n:Nat} (h:s.Ok n) {c:Nat} (hc:c<1024) (i:Nat):65536≤(s.mid c i).span∧(s.mid c i).span≤4294967295∧(s.mid c i).code≤4294967295∧(s.mid c i).tab.length=1024∧(∀ p,p∈(s.mid c i).tab→31≤p∧p≤4065)∧(s.mid c i).P.length=n:=by
 obtain ⟨h0,h1,h2⟩:=AD.Qg h hc
 have h3:=h.hi
 have h4:=h.code
 refine ⟨?_,?_,?_,by show (s.tab.set _ _).length=_;rw [List.length_set,h.len],fun p hp=>?_,by show (s.P.set _ _).length=_;rw [List.length_set,h.P]⟩
 ·unfold AD.mid;dsimp only;split<;>omega
 ·unfold AD.mid;dsimp only;split<;>omega
 ·unfold AD.mid;dsimp only;split<;>omega
 ·rcases List.mem_or_eq_of_mem_set hp with hp|rfl
  ·exact h.tab p hp
  ·exact ET h0 _
def OI (W H:Nat) (P:List Bool):Bytes:=bP (4+(fQ W H P P.length).sh) (fQ W H P P.length).big
end Go.Fv.H
/- Bytes of numbers, sums of bytes, in plain words. -/
namespace Go.Fv.H
open Go
theorem iq (k n:Nat):bP (k+1) n=bP k (n / 256)++[UInt8.ofNat n]:=by
 unfold bP
 rw [List.range_succ,List.map_append]
 congr 1
 ·apply List.map_congr_left
  intro i hi
  rw [List.mem_range] at hi
  rw [Nat.div_div_eq_div_mul]
  have e:k+1 - 1 - i=(k - 1 - i)+1:=by omega
  rw [e,Nat.pow_succ,Nat.mul_comm]
 ·simp
theorem pR (n:Nat):bP 0 n=[]:=rfl
theorem Ew (a b n:Nat):bP (a+b) n=bP a (n / 256 ^ b)++bP b n:=by
 induction b generalizing n with
 | zero=>simp [pR]
 | succ b ih=>
  rw [←Nat.add_assoc,iq,ih,iq b,Nat.div_div_eq_div_mul,List.append_assoc,Nat.pow_succ,Nat.mul_comm 256]
def JG:Bytes→Bytes
 | []=>[]
 | c::l=>if c=255 then 0::JG l else (c+1)::l
theorem Ld (k n:Nat):(bP (k+1) n).reverse=UInt8.ofNat n::(bP k (n / 256)).reverse:=by rw [iq,List.reverse_append];rfl
theorem TD (k n:Nat):JG (bP k n).reverse=(bP k (n+1)).reverse:=by
 induction k generalizing n with
 | zero=>rfl
 | succ k ih=>
  rw [Ld,Ld]
  unfold JG
  have hlt:=(UInt8.ofNat n).toNat_lt
  have hn:(UInt8.ofNat n).toNat=n%256:=by simp
  by_cases h:n%256=255
  ·have e:UInt8.ofNat n=255:=UInt8.toNat_inj.1 (by rw [hn,h];rfl)
   have e2:UInt8.ofNat (n+1)=0:=UInt8.toNat_inj.1 (by simp;omega)
   have e3:(n+1) / 256=n / 256+1:=by omega
   rw [if_pos e,ih,e2,e3]
  ·have e:¬UInt8.ofNat n=255:=fun e=>h (by rw [←hn,e];rfl)
   have e2:UInt8.ofNat n+1=UInt8.ofNat (n+1):=UInt8.toNat_inj.1 (by simp)
   have e3:(n+1) / 256=n / 256:=by omega
   rw [if_neg e,e2,e3]
def bY (s:Bytes):Nat:=s.foldl (fun n c=>n*256+c.toNat) 0
theorem wU (s:Bytes) (c:UInt8):bY (s++[c])=bY s*256+c.toNat:=by unfold bY;rw [List.foldl_append];rfl
theorem y9 (k n:Nat):bY (bP k n)=n%256 ^ k:=by
 induction k generalizing n with
 | zero=>rw [pR,Nat.pow_zero,Nat.mod_one];rfl
 | succ k ih=>
  have h1:n%(256*256 ^ k)=n%256+256*(n / 256%256 ^ k):=Nat.mod_mul
  have h2:(UInt8.ofNat n).toNat=n%256:=by simp
  rw [iq,wU,ih,Nat.pow_succ,Nat.mul_comm (256 ^ k) 256,h1,h2]
  omega
theorem vH:∀ s:Bytes,bY s<256 ^ s.length:=by
 intro s
 have key:∀ (l:Bytes) (n k:Nat),n<256 ^ k→l.foldl (fun n c=>n*256+c.toNat) n<256 ^ (k+l.length):=by
  intro l
  induction l with
  | nil=>intro n k h;exact h
  | cons c l ih=>
   intro n k h
   have hc:=c.toNat_lt
   have:=ih (n*256+c.toNat) (k+1) (by rw [Nat.pow_succ];omega)
   rw [List.foldl_cons,List.length_cons,Nat.add_comm l.length 1,←Nat.add_assoc];exact this
 have:=key s 0 0 (by decide)
 rwa [Nat.zero_add] at this
def zV (h:Nat) (c:UInt8):Nat:=((h ^^^ c.toNat)*1099511628211)%18446744073709551616
def oG (s:Bytes):Nat:=s.foldl zV 14695981039346656037
def jc (s:Bytes):Bytes:=bP 8 (oG s)
theorem Tn (h:Nat) (c:UInt8):zV h c<18446744073709551616:=Nat.mod_lt _ (by decide)
theorem LU:∀ (s:Bytes) (h:Nat),h<18446744073709551616→s.foldl zV h<18446744073709551616
 | [],_,h=>h
 | c::s,h,_=>LU s (zV h c) (Tn h c)
theorem LQ (s:Bytes):oG s<18446744073709551616:=LU s _ (by decide)
theorem mJ (s:Bytes):(jc s).length=8:=aS _ _
end Go.Fv.H
/- Facts about the program's types: each shown by reckoning it out. -/
namespace Go.Fv.H
open Go Go.Proofs
theorem e1:aZ Tryz.prog 1 (.nilFunc):=.of (by kernel_rfl) (by kernel_rfl)
theorem z1:zeroOf Tryz.prog 1=some (.nilFunc):=e1.zero
theorem c1:Tryz.prog.cellsOf 1=1:=e1.cellsOf
theorem e2:aZ Tryz.prog 2 (.int .i64 0):=.of (by kernel_rfl) (by kernel_rfl)
theorem z2:zeroOf Tryz.prog 2=some (.int .i64 0):=e2.zero
theorem c2:Tryz.prog.cellsOf 2=1:=e2.cellsOf
theorem e3:aZ Tryz.prog 3 (.int .i64 0):=.of (by kernel_rfl) (by kernel_rfl)
theorem z3:zeroOf Tryz.prog 3=some (.int .i64 0):=e3.zero
theorem c3:Tryz.prog.cellsOf 3=1:=e3.cellsOf
theorem e4:aZ Tryz.prog 4 (.bool false):=.of (by kernel_rfl) (by kernel_rfl)
theorem z4:zeroOf Tryz.prog 4=some (.bool false):=e4.zero
theorem c4:Tryz.prog.cellsOf 4=1:=e4.cellsOf
theorem e5:aZ Tryz.prog 5 (.int .u8 0):=.of (by kernel_rfl) (by kernel_rfl)
theorem z5:zeroOf Tryz.prog 5=some (.int .u8 0):=e5.zero
theorem c5:Tryz.prog.cellsOf 5=1:=e5.cellsOf
theorem e6:aZ Tryz.prog 6 (.int .u8 0):=.of (by kernel_rfl) (by kernel_rfl)
theorem z6:zeroOf Tryz.prog 6=some (.int .u8 0):=e6.zero
theorem e7:aZ Tryz.prog 7 (.agg #[.int .i64 0,.int .i64 0,.bool false,.int .u8 0]):=.of (by kernel_rfl) (by kernel_rfl)
theorem z7:zeroOf Tryz.prog 7=some (.agg #[.int .i64 0,.int .i64 0,.bool false,.int .u8 0]):=e7.zero
theorem e9:aZ Tryz.prog 9 (.string ⟨#[]⟩):=.of (by kernel_rfl) (by kernel_rfl)
theorem z9:zeroOf Tryz.prog 9=some (.string ⟨#[]⟩):=e9.zero
theorem c9:Tryz.prog.cellsOf 9=1:=e9.cellsOf
theorem e12:aZ Tryz.prog 12 (.int .u64 0):=.of (by kernel_rfl) (by kernel_rfl)
theorem e17:aZ Tryz.prog 17 (.pointer none):=.of (by kernel_rfl) (by kernel_rfl)
theorem e20:aZ Tryz.prog 20 (.nilIface):=.of (by kernel_rfl) (by kernel_rfl)
theorem z20:zeroOf Tryz.prog 20=some (.nilIface):=e20.zero
theorem e22:aZ Tryz.prog 22 (.slice none 0 0):=.of (by kernel_rfl) (by kernel_rfl)
theorem z22:zeroOf Tryz.prog 22=some (.slice none 0 0):=e22.zero
theorem XW:Tryz.prog.cellsOf 22=1:=e22.cellsOf
theorem e24:aZ Tryz.prog 24 (.agg #[.int .i64 0,.int .i64 0,.slice none 0 0]):=.of (by kernel_rfl) (by kernel_rfl)
theorem z24:zeroOf Tryz.prog 24=some (.agg #[.int .i64 0,.int .i64 0,.slice none 0 0]):=e24.zero
theorem c24:Tryz.prog.cellsOf 24=3:=e24.cellsOf
theorem e25:aZ Tryz.prog 25 (.nilFunc):=.of (by kernel_rfl) (by kernel_rfl)
theorem z25:zeroOf Tryz.prog 25=some (.nilFunc):=e25.zero
theorem e27:aZ Tryz.prog 27 (.slice none 0 0):=.of (by kernel_rfl) (by kernel_rfl)
theorem z27:zeroOf Tryz.prog 27=some (.slice none 0 0):=e27.zero
theorem Yf:Tryz.prog.cellsOf 27=1:=e27.cellsOf
theorem e30:aZ Tryz.prog 30 (.int .i64 0):=.of (by kernel_rfl) (by kernel_rfl)
theorem z30:zeroOf Tryz.prog 30=some (.int .i64 0):=e30.zero
theorem Yg:Tryz.prog.cellsOf 30=1:=e30.cellsOf
theorem e37:aZ Tryz.prog 37 (.slice none 0 0):=.of (by kernel_rfl) (by kernel_rfl)
theorem z37:zeroOf Tryz.prog 37=some (.slice none 0 0):=e37.zero
theorem e53:aZ Tryz.prog 53 (.nilFunc):=.of (by kernel_rfl) (by kernel_rfl)
theorem z53:zeroOf Tryz.prog 53=some (.nilFunc):=e53.zero
theorem e54:aZ Tryz.prog 54 (.nilFunc):=.of (by kernel_rfl) (by kernel_rfl)
theorem z54:zeroOf Tryz.prog 54=some (.nilFunc):=e54.zero
theorem e63:aZ Tryz.prog 63 (.agg #[.string ⟨#[]⟩,.int .i64 0,.int .i64 0,.slice none 0 0]):=.of (by kernel_rfl) (by kernel_rfl)
theorem z63:zeroOf Tryz.prog 63=some (.agg #[.string ⟨#[]⟩,.int .i64 0,.int .i64 0,.slice none 0 0]):=e63.zero
theorem XY:Tryz.prog.cellsOf 63=4:=e63.cellsOf
theorem Yl:aZ Tryz.prog 72 (.nilFunc):=.of (by kernel_rfl) (by kernel_rfl)
theorem z72:zeroOf Tryz.prog 72=some (.nilFunc):=Yl.zero
theorem Xq:aZ Tryz.prog 75 (.agg #[.string ⟨#[]⟩,.int .i64 0,.int .i64 0]):=.of (by kernel_rfl) (by kernel_rfl)
theorem z75:zeroOf Tryz.prog 75=some (.agg #[.string ⟨#[]⟩,.int .i64 0,.int .i64 0]):=Xq.zero
theorem c75:Tryz.prog.cellsOf 75=3:=Xq.cellsOf
theorem Ym:aZ Tryz.prog 76 (.nilFunc):=.of (by kernel_rfl) (by kernel_rfl)
theorem z76:zeroOf Tryz.prog 76=some (.nilFunc):=Ym.zero
theorem X3:aZ Tryz.prog 87 (.pointer none):=.of (by kernel_rfl) (by kernel_rfl)
theorem Yn:aZ Tryz.prog 89 (.agg #[.pointer none,.slice none 0 0]):=.of (by kernel_rfl) (by kernel_rfl)
theorem z89:zeroOf Tryz.prog 89=some (.agg #[.pointer none,.slice none 0 0]):=Yn.zero
theorem Yo:aZ Tryz.prog 91 (.nilIface):=.of (by kernel_rfl) (by kernel_rfl)
theorem e109:aZ Tryz.prog 109 (.nilFunc):=.of (by kernel_rfl) (by kernel_rfl)
theorem z109:zeroOf Tryz.prog 109=some (.nilFunc):=e109.zero
theorem Vd:aZ Tryz.prog 111 (.agg #[.int .i64 0,.int .i64 0]):=.of (by kernel_rfl) (by kernel_rfl)
theorem XG:zeroOf Tryz.prog 111=some (.agg #[.int .i64 0,.int .i64 0]):=Vd.zero
theorem Xh:Tryz.prog.cellsOf 111=2:=Vd.cellsOf
theorem Xn:aZ Tryz.prog 112 (.agg #[.int .i64 0,.int .i64 0,.int .i64 0,.int .i64 0,.int .i64 0,.int .i64 0,.int .i64 0,.int .i64 0,.int .i64 0,.int .i64 0,.int .i64 0,.int .i64 0,.int .i64 0,.int .i64 0,.int .i64 0,.int .i64 0,.int .i64 0,.int .i64 0,.int .i64 0,.int .i64 0]):=.of (by kernel_rfl) (by kernel_rfl)
theorem XH:zeroOf Tryz.prog 112=some (.agg #[.int .i64 0,.int .i64 0,.int .i64 0,.int .i64 0,.int .i64 0,.int .i64 0,.int .i64 0,.int .i64 0,.int .i64 0,.int .i64 0,.int .i64 0,.int .i64 0,.int .i64 0,.int .i64 0,.int .i64 0,.int .i64 0,.int .i64 0,.int .i64 0,.int .i64 0,.int .i64 0]):=Xn.zero
theorem Ve:aZ Tryz.prog 124 (.agg #[.string ⟨#[]⟩,.string ⟨#[]⟩]):=.of (by kernel_rfl) (by kernel_rfl)
theorem z124:zeroOf Tryz.prog 124=some (.agg #[.string ⟨#[]⟩,.string ⟨#[]⟩]):=Ve.zero
theorem c124:Tryz.prog.cellsOf 124=2:=Ve.cellsOf
theorem e127:aZ Tryz.prog 127 (.nilFunc):=.of (by kernel_rfl) (by kernel_rfl)
theorem z127:zeroOf Tryz.prog 127=some (.nilFunc):=e127.zero
theorem Xo:aZ Tryz.prog 146 (.nilFunc):=.of (by kernel_rfl) (by kernel_rfl)
theorem z146:zeroOf Tryz.prog 146=some (.nilFunc):=Xo.zero
theorem Xp:aZ Tryz.prog 148 (.nilFunc):=.of (by kernel_rfl) (by kernel_rfl)
theorem z148:zeroOf Tryz.prog 148=some (.nilFunc):=Xp.zero
theorem Vf:aZ Tryz.prog 172 (.int .u32 0):=.of (by kernel_rfl) (by kernel_rfl)
theorem XJ:zeroOf Tryz.prog 172=some (.int .u32 0):=Vf.zero
theorem Xj:Tryz.prog.cellsOf 172=1:=Vf.cellsOf
theorem f7:bD Tryz.prog 7:=by
 intro d hd;rw [Tryz.underlying7] at hd;cases hd
 intro f hf;simp only [List.mem_cons,List.not_mem_nil,or_false] at hf
 rcases hf with rfl|rfl|rfl|rfl
 ·obtain ⟨i,h,_⟩:=e2.ex;exact ⟨i,h⟩
 ·obtain ⟨i,h,_⟩:=e3.ex;exact ⟨i,h⟩
 ·obtain ⟨i,h,_⟩:=e4.ex;exact ⟨i,h⟩
 ·obtain ⟨i,h,_⟩:=e6.ex;exact ⟨i,h⟩
theorem f8:bD Tryz.prog 8:=by
 intro d hd;rw [Tryz.underlying8] at hd;cases hd
 intro f hf;simp only [List.mem_cons,List.not_mem_nil,or_false] at hf
 rcases hf with rfl|rfl|rfl|rfl
 ·obtain ⟨i,h,_⟩:=e2.ex;exact ⟨i,h⟩
 ·obtain ⟨i,h,_⟩:=e3.ex;exact ⟨i,h⟩
 ·obtain ⟨i,h,_⟩:=e4.ex;exact ⟨i,h⟩
 ·obtain ⟨i,h,_⟩:=e6.ex;exact ⟨i,h⟩
theorem f13:bD Tryz.prog 13:=by
 intro d hd;rw [Tryz.underlying13] at hd;cases hd
 intro f hf;simp only [List.mem_cons,List.not_mem_nil,or_false] at hf
 rcases hf with rfl|rfl
 ·obtain ⟨i,h,_⟩:=e9.ex;exact ⟨i,h⟩
 ·obtain ⟨i,h,_⟩:=e12.ex;exact ⟨i,h⟩
theorem f14:bD Tryz.prog 14:=by
 intro d hd;rw [Tryz.underlying14] at hd;cases hd
 intro f hf;simp only [List.mem_cons,List.not_mem_nil,or_false] at hf
 rcases hf with rfl|rfl
 ·obtain ⟨i,h,_⟩:=e9.ex;exact ⟨i,h⟩
 ·obtain ⟨i,h,_⟩:=e12.ex;exact ⟨i,h⟩
theorem f24:bD Tryz.prog 24:=by
 intro d hd;rw [Tryz.underlying24] at hd;cases hd
 intro f hf;simp only [List.mem_cons,List.not_mem_nil,or_false] at hf
 rcases hf with rfl|rfl|rfl
 ·obtain ⟨i,h,_⟩:=e3.ex;exact ⟨i,h⟩
 ·obtain ⟨i,h,_⟩:=e3.ex;exact ⟨i,h⟩
 ·obtain ⟨i,h,_⟩:=e22.ex;exact ⟨i,h⟩
theorem f57:bD Tryz.prog 57:=by
 intro d hd;rw [Tryz.underlying57] at hd;cases hd
 intro f hf;simp only [List.mem_cons,List.not_mem_nil,or_false] at hf
 rcases hf with rfl|rfl|rfl|rfl
 ·obtain ⟨i,h,_⟩:=e3.ex;exact ⟨i,h⟩
 ·obtain ⟨i,h,_⟩:=e3.ex;exact ⟨i,h⟩
 ·obtain ⟨i,h,_⟩:=e3.ex;exact ⟨i,h⟩
 ·obtain ⟨i,h,_⟩:=e3.ex;exact ⟨i,h⟩
theorem f58:bD Tryz.prog 58:=by
 intro d hd;rw [Tryz.underlying58] at hd;cases hd
 intro f hf;simp only [List.mem_cons,List.not_mem_nil,or_false] at hf
 rcases hf with rfl|rfl|rfl|rfl
 ·obtain ⟨i,h,_⟩:=e3.ex;exact ⟨i,h⟩
 ·obtain ⟨i,h,_⟩:=e3.ex;exact ⟨i,h⟩
 ·obtain ⟨i,h,_⟩:=e3.ex;exact ⟨i,h⟩
 ·obtain ⟨i,h,_⟩:=e3.ex;exact ⟨i,h⟩
theorem f62:bD Tryz.prog 62:=by
 intro d hd;rw [Tryz.underlying62] at hd;cases hd
 intro f hf;simp only [List.mem_cons,List.not_mem_nil,or_false] at hf
 rcases hf with rfl|rfl
 ·obtain ⟨i,h,_⟩:=e9.ex;exact ⟨i,h⟩
 ·obtain ⟨i,h,_⟩:=e24.ex;exact ⟨i,h⟩
theorem f63:bD Tryz.prog 63:=by
 intro d hd;rw [Tryz.underlying63] at hd;cases hd
 intro f hf;simp only [List.mem_cons,List.not_mem_nil,or_false] at hf
 rcases hf with rfl|rfl
 ·obtain ⟨i,h,_⟩:=e9.ex;exact ⟨i,h⟩
 ·obtain ⟨i,h,_⟩:=e24.ex;exact ⟨i,h⟩
theorem f74:bD Tryz.prog 74:=by
 intro d hd;rw [Tryz.underlying74] at hd;cases hd
 intro f hf;simp only [List.mem_cons,List.not_mem_nil,or_false] at hf
 rcases hf with rfl|rfl|rfl
 ·obtain ⟨i,h,_⟩:=e9.ex;exact ⟨i,h⟩
 ·obtain ⟨i,h,_⟩:=e3.ex;exact ⟨i,h⟩
 ·obtain ⟨i,h,_⟩:=e3.ex;exact ⟨i,h⟩
theorem f75:bD Tryz.prog 75:=by
 intro d hd;rw [Tryz.underlying75] at hd;cases hd
 intro f hf;simp only [List.mem_cons,List.not_mem_nil,or_false] at hf
 rcases hf with rfl|rfl|rfl
 ·obtain ⟨i,h,_⟩:=e9.ex;exact ⟨i,h⟩
 ·obtain ⟨i,h,_⟩:=e3.ex;exact ⟨i,h⟩
 ·obtain ⟨i,h,_⟩:=e3.ex;exact ⟨i,h⟩
theorem f88:bD Tryz.prog 88:=by
 intro d hd;rw [Tryz.underlying88] at hd;cases hd
 intro f hf;simp only [List.mem_cons,List.not_mem_nil,or_false] at hf
 rcases hf with rfl|rfl
 ·obtain ⟨i,h,_⟩:=X3.ex;exact ⟨i,h⟩
 ·obtain ⟨i,h,_⟩:=e27.ex;exact ⟨i,h⟩
theorem f89:bD Tryz.prog 89:=by
 intro d hd;rw [Tryz.underlying89] at hd;cases hd
 intro f hf;simp only [List.mem_cons,List.not_mem_nil,or_false] at hf
 rcases hf with rfl|rfl
 ·obtain ⟨i,h,_⟩:=X3.ex;exact ⟨i,h⟩
 ·obtain ⟨i,h,_⟩:=e27.ex;exact ⟨i,h⟩
theorem f111:bD Tryz.prog 111:=by
 intro d hd;rw [Tryz.underlying111] at hd;cases hd
 obtain ⟨i,h,_⟩:=e3.ex;exact ⟨i,h⟩
theorem f112:bD Tryz.prog 112:=by
 intro d hd;rw [Tryz.underlying112] at hd;cases hd
 obtain ⟨i,h,_⟩:=Vd.ex;exact ⟨i,h⟩
theorem f124:bD Tryz.prog 124:=by
 intro d hd;rw [Tryz.underlying124] at hd;cases hd
 intro f hf;simp only [List.mem_cons,List.not_mem_nil,or_false] at hf
 rcases hf with rfl|rfl
 ·obtain ⟨i,h,_⟩:=e9.ex;exact ⟨i,h⟩
 ·obtain ⟨i,h,_⟩:=e9.ex;exact ⟨i,h⟩
theorem f212:bD Tryz.prog 212:=by
 intro d hd;rw [Tryz.underlying212] at hd;cases hd
 intro f hf;simp only [List.mem_cons,List.not_mem_nil,or_false] at hf
 rcases hf with rfl|rfl|rfl
 ·obtain ⟨i,h,_⟩:=e9.ex;exact ⟨i,h⟩
 ·obtain ⟨i,h,_⟩:=e9.ex;exact ⟨i,h⟩
 ·obtain ⟨i,h,_⟩:=Yo.ex;exact ⟨i,h⟩
theorem f225:bD Tryz.prog 225:=by
 intro d hd;rw [Tryz.underlying225] at hd;cases hd
 intro f hf;simp only [List.mem_cons,List.not_mem_nil,or_false] at hf
 rcases hf with rfl|rfl|rfl|rfl
 ·obtain ⟨i,h,_⟩:=e17.ex;exact ⟨i,h⟩
 ·obtain ⟨i,h,_⟩:=e17.ex;exact ⟨i,h⟩
 ·obtain ⟨i,h,_⟩:=e17.ex;exact ⟨i,h⟩
 ·obtain ⟨i,h,_⟩:=e9.ex;exact ⟨i,h⟩
theorem k1 {K:Prop}:aX (aZ Tryz.prog 1 (.nilFunc)) K=K:=Eh e1
theorem k2 {K:Prop}:aX (aZ Tryz.prog 2 (.int .i64 0)) K=K:=Eh e2
theorem k3 {K:Prop}:aX (aZ Tryz.prog 3 (.int .i64 0)) K=K:=Eh e3
theorem Yp:(aZ Tryz.prog 3 (.int .i64 0))=True:=eq_true e3
theorem k4 {K:Prop}:aX (aZ Tryz.prog 4 (.bool false)) K=K:=Eh e4
theorem Yq:(aZ Tryz.prog 4 (.bool false))=True:=eq_true e4
theorem Yr:(aZ Tryz.prog 5 (.int .u8 0))=True:=eq_true e5
theorem Yt:(aZ Tryz.prog 9 (.string ⟨#[]⟩))=True:=eq_true e9
theorem Xu:(aZ Tryz.prog 30 (.int .i64 0))=True:=eq_true e30
theorem Xv:(aZ Tryz.prog 63 (.agg #[.string ⟨#[]⟩,.int .i64 0,.int .i64 0,.slice none 0 0]))=True:=eq_true e63
theorem Xw:(aZ Tryz.prog 75 (.agg #[.string ⟨#[]⟩,.int .i64 0,.int .i64 0]))=True:=eq_true Xq
theorem WA:(aZ Tryz.prog 124 (.agg #[.string ⟨#[]⟩,.string ⟨#[]⟩]))=True:=eq_true Ve
theorem WB:(aZ Tryz.prog 172 (.int .u32 0))=True:=eq_true Vf
theorem Xy:(bD Tryz.prog 24)=True:=eq_true f24
theorem Xz:(bD Tryz.prog 63)=True:=eq_true f63
theorem XA:(bD Tryz.prog 75)=True:=eq_true f75
theorem WC:(bD Tryz.prog 111)=True:=eq_true f111
theorem WE:(bD Tryz.prog 112)=True:=eq_true f112
theorem WG:(bD Tryz.prog 124)=True:=eq_true f124
theorem Yu:Maps.Keyed Tryz.prog 9=True:=eq_true (Maps.string_keyed Tryz.underlying9)
theorem XB (s:List UInt8):zA Tryz.prog 9 (.str s)=True:=eq_true (.str Tryz.underlying9 s)
theorem Xx (l:List (List UInt8)):zB Tryz.prog 9 (l.map .str)=True:=eq_true (Np (fun n=>.str Tryz.underlying9 n) l)
attribute [go_sem] Tryz.underlying0 Tryz.underlying1 Tryz.underlying2 Tryz.underlying3 Tryz.underlying4 Tryz.underlying5
attribute [go_sem] Tryz.underlying6 Tryz.underlying7 Tryz.underlying8 Tryz.underlying9 Tryz.underlying10 Tryz.underlying11 Tryz.underlying12 Tryz.underlying13 Tryz.underlying14 Tryz.underlying15 Tryz.underlying16 Tryz.underlying17
attribute [go_sem] Tryz.underlying18 Tryz.underlying19 Tryz.underlying20 Tryz.underlying21 Tryz.underlying22 Tryz.underlying23 Tryz.underlying24 Tryz.underlying25 Tryz.underlying26 Tryz.underlying27 Tryz.underlying28 Tryz.underlying29
attribute [go_sem] Tryz.underlying30 Tryz.underlying31 Tryz.underlying32 Tryz.underlying33 Tryz.underlying34 Tryz.underlying35 Tryz.underlying36 Tryz.underlying37 Tryz.underlying38 Tryz.underlying39 Tryz.underlying40 Tryz.underlying41
attribute [go_sem] Tryz.underlying42 Tryz.underlying43 Tryz.underlying44 Tryz.underlying45 Tryz.underlying46 Tryz.underlying47 Tryz.underlying48 Tryz.underlying49 Tryz.underlying50 Tryz.underlying51 Tryz.underlying52 Tryz.underlying53
attribute [go_sem] Tryz.underlying54 Tryz.underlying55 Tryz.underlying56 Tryz.underlying57 Tryz.underlying58 Tryz.underlying59 Tryz.underlying60 Tryz.underlying61 Tryz.underlying62 Tryz.underlying63 Tryz.underlying64 Tryz.underlying65
attribute [go_sem] Tryz.underlying66 Tryz.underlying67 Tryz.underlying68 Tryz.underlying69 Tryz.underlying70 Tryz.underlying71 Tryz.underlying72 Tryz.underlying73 Tryz.underlying74 Tryz.underlying75 Tryz.underlying76 Tryz.underlying77
attribute [go_sem] Tryz.underlying78 Tryz.underlying79 Tryz.underlying80 Tryz.underlying81 Tryz.underlying82 Tryz.underlying83 Tryz.underlying84 Tryz.underlying85 Tryz.underlying86 Tryz.underlying87 Tryz.underlying88 Tryz.underlying89
attribute [go_sem] Tryz.underlying90 Tryz.underlying91 Tryz.underlying92 Tryz.underlying93 Tryz.underlying94 Tryz.underlying95 Tryz.underlying96 Tryz.underlying97 Tryz.underlying98 Tryz.underlying99 Tryz.underlying100 Tryz.underlying101
attribute [go_sem] Tryz.underlying102 Tryz.underlying103 Tryz.underlying104 Tryz.underlying105 Tryz.underlying106 Tryz.underlying107 Tryz.underlying108 Tryz.underlying109 Tryz.underlying110 Tryz.underlying111 Tryz.underlying112 Tryz.underlying113
attribute [go_sem] Tryz.underlying114 Tryz.underlying115 Tryz.underlying116 Tryz.underlying117 Tryz.underlying118 Tryz.underlying119 Tryz.underlying120 Tryz.underlying121 Tryz.underlying122 Tryz.underlying123 Tryz.underlying124 Tryz.underlying125
attribute [go_sem] Tryz.underlying126 Tryz.underlying127 Tryz.underlying128 Tryz.underlying129 Tryz.underlying130 Tryz.underlying131 Tryz.underlying132 Tryz.underlying133 Tryz.underlying134 Tryz.underlying135 Tryz.underlying136 Tryz.underlying137
attribute [go_sem] Tryz.underlying138 Tryz.underlying139 Tryz.underlying140 Tryz.underlying141 Tryz.underlying142 Tryz.underlying143 Tryz.underlying144 Tryz.underlying145 Tryz.underlying146 Tryz.underlying147 Tryz.underlying148 Tryz.underlying149
attribute [go_sem] Tryz.underlying150 Tryz.underlying151 Tryz.underlying152 Tryz.underlying153 Tryz.underlying154 Tryz.underlying155 Tryz.underlying156 Tryz.underlying157 Tryz.underlying158 Tryz.underlying159 Tryz.underlying160 Tryz.underlying161
attribute [go_sem] Tryz.underlying162 Tryz.underlying163 Tryz.underlying164 Tryz.underlying165 Tryz.underlying166 Tryz.underlying167 Tryz.underlying168 Tryz.underlying169 Tryz.underlying170 Tryz.underlying171 Tryz.underlying172 Tryz.underlying173
attribute [go_sem] Tryz.underlying174 Tryz.underlying175 Tryz.underlying176 Tryz.underlying177 Tryz.underlying178 Tryz.underlying179 Tryz.underlying180 Tryz.underlying181 Tryz.underlying182 Tryz.underlying183 Tryz.underlying184 Tryz.underlying185
attribute [go_sem] Tryz.underlying186 Tryz.underlying187 Tryz.underlying188 Tryz.underlying189 Tryz.underlying190 Tryz.underlying191 Tryz.underlying192 Tryz.underlying193 Tryz.underlying194 Tryz.underlying195 Tryz.underlying196 Tryz.underlying197
attribute [go_sem] Tryz.underlying198 Tryz.underlying199 Tryz.underlying200 Tryz.underlying201 Tryz.underlying202 Tryz.underlying203 Tryz.underlying204 Tryz.underlying205 Tryz.underlying206 Tryz.underlying207 Tryz.underlying208 Tryz.underlying209
attribute [go_sem] Tryz.underlying210 Tryz.underlying211 Tryz.underlying212 Tryz.underlying213 Tryz.underlying214 Tryz.underlying215 Tryz.underlying216 Tryz.underlying217 Tryz.underlying218 Tryz.underlying219 Tryz.underlying220 Tryz.underlying221
attribute [go_sem] Tryz.underlying222 Tryz.underlying223 Tryz.underlying224 Tryz.underlying225 Tryz.underlying226 Tryz.underlying227 Tryz.underlying228 Tryz.underlying229 Tryz.underlying230 Tryz.underlying231 Tryz.underlying232 Tryz.underlying233
attribute [go_sem] Tryz.underlying234 Tryz.underlying235 Tryz.underlying236 k1 z1 c1 k2 z2 c2 k3
attribute [go_sem] Yp z3 c3 k4 Yq z4 c4 Yr z5 c5
attribute [go_sem] z6 z7
attribute [go_sem] Yt z9 c9
attribute [go_sem] z20
attribute [go_sem] z22 XW
attribute [go_sem] z24 c24 z25
attribute [go_sem] z27 Yf
attribute [go_sem] Xu z30 Yg
attribute [go_sem] z37
attribute [go_sem] z53
attribute [go_sem] z54
attribute [go_sem] Xv z63 XY
attribute [go_sem] z72
attribute [go_sem] Xw z75 c75
attribute [go_sem] z76
attribute [go_sem] z89
attribute [go_sem] z109 XG Xh
attribute [go_sem] XH
attribute [go_sem] WA z124 c124
attribute [go_sem] z127
attribute [go_sem] z146
attribute [go_sem] z148
attribute [go_sem] WB XJ Xj
attribute [go_sem] Xy
attribute [go_sem] Xz XA
attribute [go_sem] WC WE WG
attribute [go_sem] Yu XB Xx
theorem Jv {tab:List Bool} {n:Nat} (h:n<tab.length):(tab.map AV.bool).drop n=.bool (tab.getD n false)::(tab.map AV.bool).drop (n+1):=by
 rw [List.drop_eq_getElem_cons (by simpa using h)]
 simp [List.getD,h]
set_option maxHeartbeats 1000000 in
theorem Gy (tab:List Bool) (b:Int) (hl:tab.length=256) (h0:0≤b) (h1:b<256):aC Tryz.prog 170 [.cell (tab.map .bool),.int .u8 b] (.bool (tab.getD b.toNat false)) []:=by
 refine aC.aJ Tryz.func170 rfl (by decide) (by simp [Tryz.f170]) [.tmp 4] rfl fun w0 T0 _=>?_
 simp only [Tryz.f170,aB]
 have hd:=Jv (tab:=tab) (n:=b.toNat) (by omega)
 simp only [go_sem,Nat.mul_one,hd]
 (repeat' first|(with_reducible refine wu.intro fun _=>?_)|((with_reducible refine aX.intro ?_ ?_);(· first|omega|(with_reducible refine aX.intro ?_ ?_<;>omega)|(simp;done)|(simp;omega)))|((with_reducible refine bZ.i64 ?_ ?_ ?_);(· omega);(· omega))|((with_reducible refine Ite.decide (fun _=>?_) (fun _=>?_))<;>first|(exfalso;omega)|simp only [go_sem])|((with_reducible refine Ite.bool (fun _=>?_) (fun _=>?_))<;>simp only [go_sem])|(with_reducible refine And.intro ?_ ?_))
 refine bg.auto 0 ?_ rfl ?_<;>simp only [go_sem,Int.natCast_succ,Post]
theorem XI:zeroOf Tryz.prog 163=some (.agg (Array.replicate 256 (.bool false))):=by kernel_rfl
theorem Xi:Tryz.prog.cellsOf 163=256:=by kernel_rfl
attribute [go_sem] XI Xi
def fF (s:List UInt8):Nat→List Bool
 | 0=>List.replicate 256 false
 | i+1=>(fF s i).set (s.getD i 0).toNat true
theorem mW (s:List UInt8):∀ i,(fF s i).length=256
 | 0=>by simp [fF]
 | i+1=>by simp [fF,mW s i]
set_option maxHeartbeats 1000000 in
theorem EU (s:List UInt8) (hs:∀ i,i<s.length→(s.getD i 0).toNat<128):aC Tryz.prog 130 [.str s] (.tup [.agg ((fF s s.length).map .bool),.bool true]) []:=by
 refine aC.aJ Tryz.func130 rfl (by decide) (by simp [Tryz.f130]) [.cell 2 163,.tmp 3] rfl fun w0 T0 _=>?_
 simp only [Tryz.f130,aB]
 simp only [go_sem]
 refine aH.intro (fun i:Nat=>⟨21,[(0,.str s),(2,.ptr 0 0),(4,.int .i64 i)],[(0,.box 163 ((fF s i).map .bool))],1⟩) (fun i=>i≤s.length) (fun i=>s.length - i) 0 ?_ (Nat.zero_le _) fun i hi=>?_
 ·refine aK.ak rfl ?_ ?_<;>simp only [go_sem,Int.natCast_succ,fF]
 have hlen:=mW s i
 simp only [go_sem]
 (repeat' first|(with_reducible refine wu.intro fun _=>?_)|((with_reducible refine aX.intro ?_ ?_);(· first|omega|(with_reducible refine aX.intro ?_ ?_<;>omega)|(simp;done)|(simp;omega)))|((with_reducible refine bZ.i64 ?_ ?_ ?_);(· omega);(· omega))|((with_reducible refine Ite.decide (fun _=>?_) (fun _=>?_))<;>first|(exfalso;omega)|simp only [go_sem])|((with_reducible refine Ite.bool (fun _=>?_) (fun _=>?_))<;>simp only [go_sem])|(with_reducible refine And.intro ?_ ?_))
 ·have:=hs i (by omega)
  omega
 ·refine ⟨i+1,aK.ak rfl ?_ ?_,by omega,by omega⟩
  ·simp only [go_sem,Int.natCast_succ]
  ·simp only [go_sem,Int.natCast_succ,fF]
 ·have e:i=s.length:=by omega
  subst e
  have e2:((fF s s.length).map AV.bool).take 256=(fF s s.length).map AV.bool:=List.take_of_length_le (by simp [hlen])
  have e3:spl ((fF s s.length).map AV.bool) 0 ((fF s s.length).map AV.bool)=(fF s s.length).map AV.bool:=Na rfl
  refine bg.auto 0 ?_ ?_ ?_<;>simp only [go_sem,Int.natCast_succ,Post,e2,e3]
  simp only [go_sem,e2,hlen,List.length_map]
def cutset:List UInt8:=[97,98,99,100,101,102,103,104,105,106,107,108,109,110,111,112,113,114,115,116,117,118,119,120,121,122,48,49,50,51,52,53,54,55,56,57,45]
theorem cut_small:∀ i,i<cutset.length→(cutset.getD i 0).toNat<128:=by decide
end Go.Fv.H
/- strings.Trim at any set of small letters; IsName. -/
namespace Go.Fv.H
open Go Go.Proofs
def gV (p:UInt8→Bool) (s:List UInt8):List UInt8:=(s.reverse.dropWhile p).reverse
def xW (cut:List UInt8) (c:UInt8):Bool:=decide (c∈cut)
theorem xJ (s:List UInt8) (c:UInt8):∀ i,i≤s.length→(fF s i).getD c.toNat false=decide (c∈s.take i)
 | 0,_=>by
  have h:c.toNat<256:=c.toNat_lt
  rw [List.take_zero]
  show (List.replicate 256 false).getD c.toNat false=_
  rw [List.getD_eq_getElem?_getD,List.getElem?_replicate,if_pos h]
  simp
 | i+1,h=>by
  have ih:=xJ s c i (by omega)
  have hlen:=mW s i
  have hlt:i<s.length:=by omega
  have hc:=c.toNat_lt
  have htk:=List.take_succ_eq_append_getElem hlt
  rw [htk]
  simp only [fF,List.getD_eq_getElem?_getD] at ih ⊢
  rw [List.getElem?_set]
  have e:s[i]?.getD 0=s[i]:=by simp [hlt]
  rw [e]
  by_cases hq:s[i].toNat=c.toNat
  ·have hq2:s[i]=c:=UInt8.toNat_inj.1 hq
   rw [if_pos hq,if_pos (by rw [hlen];omega)]
   simp [hq2]
  ·rw [if_neg hq,ih]
   have hq2:¬c=s[i]:=fun h=>hq (by rw [h])
   rw [Bool.eq_iff_iff,decide_eq_true_eq,decide_eq_true_eq,List.mem_append,List.mem_singleton]
   exact ⟨.inl,fun h=>h.elim id fun h=>absurd h hq2⟩
theorem Ag {s:List UInt8} (h0:0<s.length):s=s.take (s.length - 1)++[s.getD (s.length - 1) 0]:=by
 rw [getD_lt (by omega),List.take_append_getElem (by omega),List.take_of_length_le (by omega)]
theorem xR (p:UInt8→Bool) (t:List UInt8) (c:UInt8):gV p (t++[c])=if p c=true then gV p t else t++[c]:=by
 unfold gV
 rw [List.reverse_append,List.reverse_singleton,List.singleton_append,List.dropWhile_cons]
 split<;>simp_all
theorem PD {p:UInt8→Bool} {s:List UInt8} (h0:0<s.length) (h:p (s.getD (s.length - 1) 0)=true):gV p (s.take (s.length - 1))=gV p s:=by
 conv=>rhs;rw [Ag h0,xR,if_pos h]
theorem GU {p:UInt8→Bool} {s:List UInt8} (h:0<s.length→p (s.getD (s.length - 1) 0)=false):gV p s=s:=by
 by_cases h0:0<s.length
 ·conv=>lhs;rw [Ag h0,xR,if_neg (by rw [h h0];decide)]
  exact (Ag h0).symm
 ·have:s=[]:=List.eq_nil_of_length_eq_zero (by omega)
  subst this;rfl
theorem Tf {p:UInt8→Bool} {s:List UInt8} (h0:0<s.length) (h:p (s.getD 0 0)=true):(s.drop 1).dropWhile p=s.dropWhile p:=by
 cases s with
 | nil=>simp at h0
 | cons c t=>
  have h':p c=true:=h
  rw [List.dropWhile_cons,if_pos h'];rfl
theorem LC {p:UInt8→Bool} {s:List UInt8} (h:0<s.length→p (s.getD 0 0)=false):s.dropWhile p=s:=by
 cases s with
 | nil=>rfl
 | cons c t=>rw [List.dropWhile_cons,if_neg (by have:=h (by simp);rw [show (c::t).getD 0 0=c from rfl] at this;rw [this];decide)]
theorem qU {p:UInt8→Bool}:∀ {s:List UInt8},s.dropWhile p=[]↔s.all p=true
 | []=>by simp
 | c::t=>by
  rw [List.dropWhile_cons,List.all_cons]
  cases h:p c with
  | true=>simpa using qU
  | false=>simp
theorem RS (p:UInt8→Bool) (s:List UInt8):(gV p s).dropWhile p=[]↔s.all p=true:=by
 rw [qU]
 unfold gV
 rw [List.all_reverse,←qU]
 have hd:(s.reverse.dropWhile p).dropWhile p=s.reverse.dropWhile p:=by
  generalize s.reverse=t
  induction t with
  | nil=>rfl
  | cons c t ih=>
   rw [List.dropWhile_cons]
   cases h:p c with
   | true=>simpa using ih
   | false=>simp [List.dropWhile_cons,h]
 rw [hd,qU,List.all_reverse]
theorem uK (tab:List Bool) (hl:tab.length=256) (c:UInt8):aC Tryz.prog 170 [.cell (tab.map .bool),.int .u8 c.toNat] (.bool (tab.getD c.toNat false)) []:=by
 have h:=Gy tab c.toNat hl (by omega) (by have:=c.toNat_lt;omega)
 rwa [Int.toNat_natCast] at h
set_option maxHeartbeats 1000000 in
theorem FD (tab:List Bool) (hl:tab.length=256) (p:UInt8→Bool) (hp:∀ c:UInt8,tab.getD c.toNat false=p c) (s:List UInt8) :
  aC Tryz.prog 131 [.str s,.cell (tab.map .bool)] (.str (s.dropWhile p)) []:=by
 refine aC.aJ Tryz.func131 rfl (by decide) (by simp [Tryz.f131]) [.tmp 4] rfl fun w0 T0 _=>?_
 simp only [Tryz.f131,aB]
 (repeat' with_reducible first|intro _|exact dn|refine rn ?_|refine ra ?_ ?_)
 refine aH.intro (fun t:List UInt8=>⟨16,[(0,.str t),(1,.cell (tab.map .bool))],[],0⟩) (fun t=>t.dropWhile p=s.dropWhile p) (fun t=>t.length) s ?_ rfl fun t he=>?_
 ·refine aK.ak rfl ?_ ?_<;>simp only [go_sem,Int.natCast_succ]
 (repeat' with_reducible first|intro _|exact dn|refine rn ?_|refine ra ?_ ?_)
 ·have k:=uK tab hl (t.getD 0 0)
  rw [hp] at k
  refine ah.fr (args':=[.cell (tab.map .bool),.int .u8 (t.getD 0 0).toNat]) (fD.iF k rfl rfl) (by simp [aO,aT,aF]) 0 rfl (by simp [gG]) ?_
  cases hq:p (t.getD 0 0) with
  | true=>
   (repeat' with_reducible first|intro _|exact dn|refine rn ?_|refine ra ?_ ?_)
   refine ⟨t.drop 1,aK.ak rfl ?_ ?_,?_,?_⟩
   ·simp only [go_sem,Int.natCast_succ]
    all_goals first|rfl|exact List.take_of_length_le (by simp)
   ·simp only [go_sem,Int.natCast_succ]
   ·rw [Tf (by omega) hq];exact he
   ·simp;omega
  | false=>
   have e:t=s.dropWhile p:=by rw [←he,LC (fun _=>hq)]
   (repeat' with_reducible first|intro _|exact dn|refine rn ?_|refine ra ?_ ?_)
   refine bg.auto 0 ?_ rfl ?_<;>simp only [go_sem,Int.natCast_succ,Post,e]
 ·have e:t=s.dropWhile p:=by rw [←he,LC (fun h=>by omega)]
  refine bg.auto 0 ?_ rfl ?_<;>simp only [go_sem,Int.natCast_succ,Post,e]
set_option maxHeartbeats 1000000 in
theorem Ce (tab:List Bool) (hl:tab.length=256) (p:UInt8→Bool) (hp:∀ c:UInt8,tab.getD c.toNat false=p c) (s:List UInt8) :
  aC Tryz.prog 132 [.str s,.cell (tab.map .bool)] (.str (gV p s)) []:=by
 refine aC.aJ Tryz.func132 rfl (by decide) (by simp [Tryz.f132]) [.tmp 4] rfl fun w0 T0 _=>?_
 simp only [Tryz.f132,aB]
 (repeat' with_reducible first|intro _|exact dn|refine rn ?_|refine ra ?_ ?_)
 refine aH.intro (fun t:List UInt8=>⟨22,[(0,.str t),(1,.cell (tab.map .bool))],[],0⟩) (fun t=>gV p t=gV p s) (fun t=>t.length) s ?_ rfl fun t he=>?_
 ·refine aK.ak rfl ?_ ?_<;>simp only [go_sem,Int.natCast_succ]
 have et:((t.length:Int) - 1).toNat=t.length - 1:=by omega
 (repeat' with_reducible first|intro _|refine rz ?_|refine ra ?_ ?_|omega|simp only [go_sem,et])
 ·have k:=uK tab hl (t.getD (t.length - 1) 0)
  rw [hp] at k
  refine ah.fr (args':=[.cell (tab.map .bool),.int .u8 (t.getD (t.length - 1) 0).toNat]) (fD.iF k rfl rfl) (by simp [aO,aT,aF]) 0 rfl (by simp [gG]) ?_
  cases hq:p (t.getD (t.length - 1) 0) with
  | true=>
   (repeat' with_reducible first|intro _|refine rz ?_|refine ra ?_ ?_|omega|simp only [go_sem,et])
   refine ⟨t.take (t.length - 1),aK.ak rfl ?_ ?_,?_,?_⟩
   ·simp only [go_sem,Int.natCast_succ,et]
    all_goals rfl
   ·simp only [go_sem,Int.natCast_succ]
   ·rw [PD (by omega) hq];exact he
   ·simp;omega
  | false=>
   have e:t=gV p s:=by rw [←he,GU (fun _=>hq)]
   (repeat' with_reducible first|intro _|exact dn|refine rn ?_|refine ra ?_ ?_)
   refine bg.auto 0 ?_ rfl ?_<;>simp only [go_sem,Int.natCast_succ,Post,e]
 ·have e:t=gV p s:=by rw [←he,GU (fun h=>by omega)]
  refine bg.auto 0 ?_ rfl ?_<;>simp only [go_sem,Int.natCast_succ,Post,e]
set_option maxHeartbeats 1000000 in
theorem RQ (s cut:List UInt8) (hc:∀ i,i<cut.length→(cut.getD i 0).toNat<128) (h2:2≤cut.length) :
  aC Tryz.prog 95 [.str s,.str cut] (.str ((gV (xW cut) s).dropWhile (xW cut))) []:=by
 have hlen:=mW cut cut.length
 have km:=EU cut hc
 have hg:∀ c:UInt8,(fF cut cut.length).getD c.toNat false=xW cut c:=fun c=>by
  rw [xJ cut c _ (Nat.le_refl _),List.take_length];rfl
 have hne:¬cut=[]:=fun e=>by subst e;simp at h2
 refine aC.aJ Tryz.func95 rfl (by decide) (by simp [Tryz.f95]) [.tmp 4] rfl fun w0 T0 _=>?_
 simp only [Tryz.f95,aB]
 by_cases h0:s=[]
 ·have e:(gV (xW cut) []).dropWhile (xW cut)=[]:=rfl
  (repeat' with_reducible first|intro _|refine rz ?_|refine ra ?_ ?_|omega|simp only [go_sem,h0])
  refine bg.auto 0 ?_ rfl ?_<;>simp only [go_sem,Int.natCast_succ,Post,e]
 generalize xW cut=p at *
 (repeat' with_reducible first|intro _|refine rz ?_|refine ra ?_ ?_|omega|simp only [go_sem,h0,hne])
 refine ah.fr (args':=[.str cut]) (fD.iF km (by simp [mP,iU,yA]) rfl) (by simp [aO,aT,aF]) 0 (by simp [Fv.below,aP,oq]) (by simp [gG]) ?_
 generalize fF cut cut.length=tab at hlen hg ⊢
 simp only [go_sem]
 have e1:spl (List.replicate 256 (AV.bool false)) 0 (tab.map .bool)=tab.map .bool:=Na (by simp [hlen])
 refine aX.intro (by simp [hlen]) ?_
 rw [e1]
 refine aX.intro (by omega) ?_
 refine ah.fr (args':=[.str s,.cell (tab.map .bool)]) (fD.iF (Ce tab hlen p hg s) rfl rfl) ?_ 0 rfl (by simp [gG]) ?_
 ·exact ⟨_,_,rfl,⟨_,_,⟨_,_,_,rfl,pO _ 4 _,rfl⟩,rfl,rfl⟩,rfl⟩
 simp only [go_sem]
 refine ah.fr (args':=[.str (gV p s),.cell (tab.map .bool)]) (fD.iF (FD tab hlen p hg (gV p s)) rfl rfl) ?_ 0 rfl (by simp [gG]) ?_
 ·exact ⟨_,_,rfl,⟨_,_,⟨_,_,_,rfl,pO _ 4 _,rfl⟩,rfl,rfl⟩,rfl⟩
 simp only [go_sem]
 refine bg.auto 0 ?_ rfl ?_<;>simp only [go_sem,Int.natCast_succ,Post]
def nameB (c:UInt8):Bool:=decide (97≤c.toNat) && decide (c.toNat≤122) || decide (48≤c.toNat) && decide (c.toNat≤57) || decide (c.toNat=45)
def dJ (s:List UInt8):Bool:=decide (s≠[]) && decide (s.length≤40) && (decide (97≤(s.getD 0 0).toNat) && decide ((s.getD 0 0).toNat≤122)) && s.all nameB
set_option maxRecDepth 20000 in
theorem Pv:∀ n:Nat,n<256→xW cutset (UInt8.ofNat n)=nameB (UInt8.ofNat n):=by decide
theorem JF:xW cutset=nameB:=funext fun c=>by
 have h:=Pv c.toNat c.toNat_lt
 simpa using h
set_option maxHeartbeats 1000000 in
theorem wO (s:List UInt8):aC Tryz.prog 51 [.str s] (.bool (dJ s)) []:=by
 have k:=RQ s cutset cut_small (by decide)
 rw [JF] at k
 have ht:=RS nameB s
 have hcut:cutset=[97,98,99,100,101,102,103,104,105,106,107,108,109,110,111,112,113,114,115,116,117,118,119,120,121,122,48,49,50,51,52,53,54,55,56,57,45]:=rfl
 unfold dJ
 generalize gV nameB s=t at *
 generalize t.dropWhile nameB=t at *
 generalize s.all nameB=a at *
 refine aC.aJ Tryz.func51 rfl (by decide) (by simp [Tryz.f51]) [.tmp 2] rfl fun w0 T0 _=>?_
 simp only [Tryz.f51,aB]
 by_cases h0:s=[]
 ·(repeat' with_reducible first|intro _|refine rz ?_|refine ra ?_ ?_|omega|simp only [go_sem,h0])
  refine bg.auto 0 ?_ rfl ?_<;>simp only [go_sem,Int.natCast_succ,Post]
  all_goals simp
 ·have hlp:0<s.length:=List.length_pos_iff.2 h0
  (repeat' with_reducible first|intro _|refine rz ?_|refine ra ?_ ?_|omega|simp only [go_sem,h0])
  all_goals first
   |(refine ah.fr (args':=[.str s,.str cutset]) (fD.iF k rfl rfl) (by simp [aO,aT,aF,cutset]) 0 rfl (by simp [gG]) ?_
     (repeat' with_reducible first|intro _|exact dn|refine rn ?_|refine ra ?_ ?_)
     refine bg.auto 0 ?_ rfl ?_<;>simp only [go_sem,Int.natCast_succ,Post])
   |(refine bg.auto 0 ?_ rfl ?_<;>simp only [go_sem,Int.natCast_succ,Post])
  all_goals
   rw [Bool.eq_iff_iff]
   simp only [Bool.and_eq_true,decide_eq_true_eq,ht,Bool.false_eq_true,false_iff]
   first
    | exact ⟨fun ha=>⟨⟨⟨h0,by omega⟩,by omega,by omega⟩,ha⟩,fun h=>h.2⟩
    |(intro h;omega)
end Go.Fv.H
