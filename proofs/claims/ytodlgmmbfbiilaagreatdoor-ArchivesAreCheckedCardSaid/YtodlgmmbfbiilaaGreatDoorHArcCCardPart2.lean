/-
  A part of the proof of the claim: walks over the program's functions and the plain laws that these need. No condition of its own.
-/
import Derived.Test.YtodlgmmbfbiilaaGreatDoorHArcCCardPart1
import Derived.Test.YtodlgmmbfbiilaaGreatDoorFvPart10
set_option linter.unusedSimpArgs false
set_option linter.unusedVariables false
set_option linter.unnecessarySimpa false
set_option maxRecDepth 8000
/- Archives, in plain words: how they are made and read. -/
namespace Go.Fv.H
open Go Go.Proofs
structure Tk where
 (t:Bytes) (a:Nat) (sh:Bool)
def tk (s:Bytes) (a:Nat) (sh:Bool) (n:Nat):Tk:=
 if sh=true∨s.length<a+n then ⟨[],a,true⟩ else ⟨(s.drop a).take n,a+n,false⟩
theorem FU (s:Bytes) (a:Nat) (sh:Bool) (n:Nat):(tk s a sh n).t.length≤n:=by
 unfold tk;split
 ·exact Nat.zero_le _
 ·rw [List.length_take];exact Nat.min_le_left _ _
theorem Xz {s:Bytes} {a:Nat} (sh:Bool) (n:Nat) (h:a≤s.length):a≤(tk s a sh n).a∧(tk s a sh n).a≤s.length:=by
 unfold tk;split
 ·exact ⟨Nat.le_refl _,h⟩
 ·rename_i h2
  have:=(not_or.1 h2).2
  exact ⟨Nat.le_add_right _ _,by dsimp only;omega⟩
theorem FV (s:Bytes) (a n:Nat):(tk s a true n)=⟨[],a,true⟩:=by unfold tk;rw [if_pos (.inl rfl)]
theorem XB {s:Bytes} {a n:Nat} {x t:Bytes} (ha:a≤s.length) (hs:s.drop a=x++t) (hn:x.length=n):tk s a false n=⟨x,a+n,false⟩∧s.drop (a+n)=t:=by
 have hl:(s.drop a).length=x.length+t.length:=by rw [hs,List.length_append]
 rw [List.length_drop] at hl
 constructor
 ·unfold tk
  by_cases h0:n=0
  ·have hx:x=[]:=List.eq_nil_of_length_eq_zero (by omega)
   subst hx
   rw [if_neg (by simp;omega),h0];simp
  ·rw [if_neg (by simp;omega),hs,←hn,List.take_left]
 ·rw [←List.drop_drop,hs,←hn,List.drop_left]
structure EN1 where
 (n:Bytes) (k a:Nat) (sh:Bool)
def qC (s:Bytes) (a:Nat) (sh:Bool):EN1:=
 let x:=tk s a sh 1
 let y:=tk s x.a x.sh (aT x.t)
 let z:=tk s y.a y.sh 4
 ⟨y.t,aT z.t,z.a,z.sh⟩
structure LS where
 (l:List (Bytes × Nat)) (a:Nat) (sh:Bool)
def ls (s:Bytes):Nat→LS
 | 0=>⟨[],6,false⟩
 | i+1=>⟨(ls s i).l++[((qC s (ls s i).a (ls s i).sh).n,(qC s (ls s i).a (ls s i).sh).k)],(qC s (ls s i).a (ls s i).sh).a,(qC s (ls s i).a (ls s i).sh).sh⟩
theorem num1 {s:Bytes} (h:s.length≤1):aT s<256:=by
 have:=kS s
 have:256 ^ s.length≤256 ^ 1:=Nat.pow_le_pow_right (by decide) h
 omega
theorem ZX {s:Bytes} (h:s.length≤2):aT s<65536:=by
 have:=kS s
 have:256 ^ s.length≤256 ^ 2:=Nat.pow_le_pow_right (by decide) h
 omega
theorem aa1 {s:Bytes} (h:s.length≤4):aT s<4294967296:=by
 have:=kS s
 have:256 ^ s.length≤256 ^ 4:=Nat.pow_le_pow_right (by decide) h
 omega
structure EN1.Ok (s:Bytes) (a:Nat) (e:EN1):Prop where
 n:e.n.length<256
 k:e.k<4294967296
 a0:a≤e.a
 a1:e.a≤s.length
theorem Vz {s:Bytes} {a:Nat} (sh:Bool) (h:a≤s.length):EN1.Ok s a (qC s a sh):=by
 have h1:=Xz sh 1 h
 have h2:=Xz (tk s a sh 1).sh (aT (tk s a sh 1).t) h1.2
 have h3:=Xz (tk s (tk s a sh 1).a (tk s a sh 1).sh (aT (tk s a sh 1).t)).sh 4 h2.2
 have n1:=num1 (FU s a sh 1)
 refine ⟨Nat.lt_of_le_of_lt (FU _ _ _ _) n1,aa1 (FU _ _ _ _),?_,h3.2⟩
 exact Nat.le_trans h1.1 (Nat.le_trans h2.1 h3.1)
theorem ZK (s:Bytes) (a:Nat):(qC s a true).sh=true:=by unfold qC;simp only [FV]
def dO (l:List (Bytes × Nat)):Nat:=(l.map (·.2)).sum
theorem AA (l:List (Bytes × Nat)) (x:Bytes × Nat):dO (l++[x])=dO l+x.2:=by unfold dO;simp
structure LS.Ok (s:Bytes) (i:Nat) (q:LS):Prop where
 len:q.l.length=i
 k:dO q.l≤i*4294967296
 a0:6≤q.a
 a1:q.a≤s.length
theorem Ih {s:Bytes} (h:6≤s.length):∀ i,LS.Ok s i (ls s i)
 | 0=>⟨rfl,Nat.zero_le _,Nat.le_refl _,h⟩
 | i+1=>by
  have ih:=Ih h i
  have e:=Vz (ls s i).sh ih.a1
  refine ⟨?_,?_,Nat.le_trans ih.a0 e.a0,e.a1⟩
  ·show (_++[_]).length=_
   rw [List.length_append,ih.len];rfl
  ·show dO (_++[_])≤_
   rw [AA]
   have:=e.k
   have:=ih.k
   dsimp only
   omega
theorem Sl {s:Bytes} {i:Nat} (h:(ls s i).sh=true):∀ j,(ls s (i+j)).sh=true
 | 0=>h
 | j+1=>by
  have ih:=Sl h j
  show (qC s (ls s (i+j)).a (ls s (i+j)).sh).sh=true
  rw [ih,ZK]
structure En where
 (n:Bytes) (a k:Nat)
def En.av (x:En):List AV:=[.str x.n,.int .i64 x.a,.int .i64 x.k]
def En.zero:En:=⟨[],0,0⟩
abbrev CP (l:List En):aP:=.objs 3 (l.map En.av)
instance:G9 En.av:=⟨fun _=>rfl⟩
theorem lS (l:List En) {i:Nat} (h:i<l.length):(l.map En.av).getD i []=[.str (l.getD i En.zero).n,.int .i64 (l.getD i En.zero).a,.int .i64 (l.getD i En.zero).k]:=by
 simp [List.getD_eq_getElem?_getD,h,En.av]
def fO:List (Bytes × Nat)→Nat→List En
 | [],_=>[]
 | x::l,a=>⟨x.1,a,x.2⟩::fO l (a+x.2)
theorem fF:∀ (l:List (Bytes × Nat)) (a:Nat),(fO l a).length=l.length
 | [],_=>rfl
 | x::l,a=>by simp [fO,fF l]
theorem Hr (x:Bytes × Nat):∀ (l:List (Bytes × Nat)) (a:Nat),fO (l++[x]) a=fO l a++[⟨x.1,a+dO l,x.2⟩]
 | [],a=>rfl
 | y::l,a=>by
  show _::fO (l++[x]) (a+y.2)=_::_
  rw [Hr x l]
  have e:a+y.2+dO l=a+dO (y::l):=by unfold dO;simp;omega
  rw [e];rfl
theorem Rx (d:Nat):∀ (l:List (Bytes × Nat)) (a:Nat) (i:Nat),i<l.length →
  (fO l (a+d)).getD i En.zero=⟨((fO l a).getD i En.zero).n,((fO l a).getD i En.zero).a+d,((fO l a).getD i En.zero).k⟩
 | x::l,a,0,_=>rfl
 | x::l,a,i+1,h=>by
  have e:a+d+x.2=a+x.2+d:=by omega
  show (fO l (a+d+x.2)).getD i En.zero=_
  rw [e]
  exact Rx d l (a+x.2) i (by simpa using h)
theorem zQ:∀ (l:List (Bytes × Nat)) (a:Nat),(fO l a).map En.n=l.map Prod.fst
 | [],_=>rfl
 | x::l,a=>by simp [fO,zQ l]
theorem Jk:∀ (l:List (Bytes × Nat)) (a:Nat) (x:En),x∈fO l a→a≤x.a∧x.a+x.k≤a+dO l
 | y::l,a,x,h=>by
  have hs:dO (y::l)=y.2+dO l:=by unfold dO;simp
  rcases List.mem_cons.1 h with rfl|h
  ·dsimp only;omega
  ·have:=Jk l (a+y.2) x h
   omega
def xP (l:List Bytes):Nat→Int
 | 0=>0
 | i+1=>if xP l i≠0 then xP l i else if dA (l.getD i [])=true then (if l.getD i []∈l.take i then 6 else 0) else 5
theorem Wx {l:List Bytes} {i:Nat} (h:xP l i≠0):∀ j,xP l (i+j)=xP l i
 | 0=>rfl
 | j+1=>by
  have ih:=Wx h j
  show (if xP l (i+j)≠0 then xP l (i+j) else _)=_
  rw [ih,if_pos h]
theorem PX {l:List Bytes} {i n:Nat} (h:xP l i≠0) (hn:i≤n):xP l n=xP l i:=by
 have:=Wx h (n - i)
 rwa [show i+(n - i)=n by omega] at this
def mY:Bytes:=[70,66,65,49]
def MP (s:Bytes):Nat:=aT ((s.drop 4).take 2)
def qY (s:Bytes):LS:=ls s (MP s)
def aZ (s:Bytes):List En × Int:=
 if 4194304<s.length then ([],4)
 else if s.length<6∨s.take 4≠mY then ([],8)
 else if (qY s).sh=true then ([],8)
 else if (qY s).a+dO (qY s).l+8≠s.length then ([],8)
 else if bY (s.take (qY s).a)≠s.drop ((qY s).a+dO (qY s).l) then ([],14)
 else if xP ((qY s).l.map Prod.fst) (qY s).l.length≠0 then ([],xP ((qY s).l.map Prod.fst) (qY s).l.length)
 else (fO (qY s).l (qY s).a,0)
structure Jd (s:Bytes):Prop where
 len:s.length≤4194304
 six:6≤s.length
 mag:s.take 4=mY
 sh:(qY s).sh=false
 sum:(qY s).a+dO (qY s).l+8=s.length
 chk:bY (s.take (qY s).a)=s.drop ((qY s).a+dO (qY s).l)
 nm:xP ((qY s).l.map Prod.fst) (qY s).l.length=0
theorem vG {s:Bytes} (h:Jd s):aZ s=(fO (qY s).l (qY s).a,0):=by
 obtain ⟨h1,h2,h3,h4,h5,h6,h7⟩:=h
 unfold aZ
 rw [if_neg (by omega),if_neg (by rw [h3];simp;omega),if_neg (by rw [h4];decide),if_neg (by omega),if_neg (fun h=>h h6),if_neg (fun h=>h h7)]
theorem EC {s:Bytes} (h:(aZ s).2=0):Jd s:=by
 unfold aZ at h
 split at h
 ·cases h
 ·split at h
  ·cases h
  ·split at h
   ·cases h
   ·split at h
    ·cases h
    ·split at h
     ·cases h
     ·split at h
      ·rename_i h7;exact absurd h h7
      ·rename_i h1 h2 h3 h4 h5 h6
       have h2:=not_or.1 h2
       exact ⟨by omega,by omega,Classical.not_not.1 h2.2,by simpa using h3,by omega,Classical.not_not.1 h5,Classical.not_not.1 h6⟩
theorem MO {s:Bytes} (h:(aZ s).2≠0):(aZ s).1=[]:=by
 by_cases h0:Jd s
 ·exact absurd (by rw [vG h0]) h
 ·unfold aZ
  split
  ·rfl
  ·split
   ·rfl
   ·split
    ·rfl
    ·split
     ·rfl
     ·split
      ·rfl
      ·split
       ·rfl
       ·rename_i h1 h2 h3 h4 h5 h6
        exfalso
        apply h0
        have h2:=not_or.1 h2
        exact ⟨by omega,by omega,Classical.not_not.1 h2.2,by simpa using h3,by omega,Classical.not_not.1 h5,Classical.not_not.1 h6⟩
theorem um {s:Bytes} {x:En} (h:x∈(aZ s).1):x.a+x.k+8≤s.length∧s.length≤4194304:=by
 by_cases h0:(aZ s).2=0
 ·have k:=EC h0
  rw [vG k] at h
  have:=Jk _ _ _ h
  have:=k.sum
  have:=k.len
  omega
 ·rw [MO h0] at h;cases h
theorem vF (s:Bytes):(aZ s).1.length≤65535:=by
 by_cases h0:(aZ s).2=0
 ·have k:=EC h0
  rw [vG k]
  dsimp only
  rw [fF]
  have:=(Ih k.six (MP s)).len
  show (ls s (MP s)).l.length≤_
  rw [this]
  have:=ZX (s:=(s.drop 4).take 2) (List.length_take_le _ _)
  unfold MP;omega
 ·rw [MO h0];exact Nat.zero_le _
def fB (x:Bytes × Bytes):Bytes:=bV 1 x.1.length++(x.1++bV 4 x.2.length)
def hdB (l:List (Bytes × Bytes)):Bytes:=mY++(bV 2 l.length++l.flatMap fB)
def jD (l:List (Bytes × Bytes)):Bytes:=l.flatMap Prod.snd
def iM (l:List (Bytes × Bytes)):Bytes:=hdB l++(jD l++bY (hdB l))
theorem yD (x:Bytes × Bytes):(fB x).length=5+x.1.length:=by unfold fB;simp only [List.length_append,aQ];omega
theorem Jr (l:List (Bytes × Bytes)):(hdB l).length=6+(l.flatMap fB).length:=by unfold hdB;simp only [List.length_append,aQ];show 4+_=_;omega
theorem DN (l:List (Bytes × Bytes)):(iM l).length=(hdB l).length+(jD l).length+8:=by unfold iM;simp only [List.length_append,mJ];omega
theorem Lr (l:List (Bytes × Bytes)):(jD l).length=dO (l.map fun x=>(x.1,x.2.length)):=by
 unfold jD dO
 rw [List.length_flatMap,List.map_map];rfl
theorem Yd {s:Bytes} {a:Nat} {x:Bytes × Bytes} {t:Bytes} (ha:a≤s.length) (hs:s.drop a=fB x++t) (hn:x.1.length<256) (hk:x.2.length<4294967296) :
  qC s a false=⟨x.1,x.2.length,a+(fB x).length,false⟩∧s.drop (a+(fB x).length)=t:=by
 unfold fB at hs
 rw [List.append_assoc,List.append_assoc] at hs
 have hll:=congrArg List.length hs
 simp only [List.length_append,List.length_drop,aQ] at hll
 obtain ⟨t1,d1⟩:=XB ha hs (aQ _ _)
 obtain ⟨t2,d2⟩:=XB (by omega) d1 rfl
 obtain ⟨t3,d3⟩:=XB (by omega) d2 (aQ _ _)
 have n1:aT (bV 1 x.1.length)=x.1.length:=by rw [ji,Nat.mod_eq_of_lt (by omega)]
 have n3:aT (bV 4 x.2.length)=x.2.length:=by rw [ji,Nat.mod_eq_of_lt (by omega)]
 have hl:=yD x
 have ha:a+(fB x).length=a+1+x.1.length+4:=by omega
 rw [ha]
 refine ⟨?_,d3⟩
 unfold qC
 simp only [t1,n1,t2,t3,n3]
structure UZ (l:List (Bytes × Bytes)):Prop where
 many:l.length≤65535
 name:∀ x,x∈l→dA x.1=true
 nodup:(l.map Prod.fst).Nodup
 long:(iM l).length≤4194304
theorem oP {n:Bytes} (h:dA n=true):1≤n.length∧n.length≤40:=by
 unfold dA at h
 simp only [Bool.and_eq_true,decide_eq_true_eq] at h
 obtain ⟨⟨⟨h1,h2⟩,_⟩,_⟩:=h
 have:=List.length_pos_iff.2 h1
 omega
theorem X5 {l:List (Bytes × Bytes)} {x:Bytes × Bytes} (h:x∈l):x.2.length≤(jD l).length:=by
 unfold jD
 induction l with
 | nil=>cases h
 | cons y l ih=>
  rw [List.flatMap_cons,List.length_append]
  rcases List.mem_cons.1 h with rfl|h
  ·omega
  ·have:=ih h;omega
theorem V6 {l:List (Bytes × Bytes)} (h:UZ l) (T:Bytes):∀ i,i≤l.length →
  ls (hdB l++T) i=⟨(l.take i).map (fun x=>(x.1,x.2.length)),6+((l.take i).flatMap fB).length,false⟩∧(hdB l++T).drop (6+((l.take i).flatMap fB).length)=(l.drop i).flatMap fB++T
 | 0,_=>by
  refine ⟨rfl,?_⟩
  unfold hdB
  have e:(mY++(bV 2 l.length++l.flatMap fB)++T)=(mY++bV 2 l.length)++(l.flatMap fB++T):=by simp only [List.append_assoc]
  have hl:(mY++bV 2 l.length).length=6:=by rw [List.length_append,aQ];rfl
  rw [e]
  show List.drop 6 _=_
  rw [←hl,List.drop_left];rfl
 | i+1,hi=>by
  obtain ⟨h1,h2⟩:=V6 h T i (by omega)
  have hil:i<l.length:=by omega
  have hx:l[i]∈l:=List.getElem_mem hil
  have hsp:(l.drop i).flatMap fB=fB l[i]++(l.drop (i+1)).flatMap fB:=by
   rw [List.drop_eq_getElem_cons hil,List.flatMap_cons]
  rw [hsp,List.append_assoc] at h2
  have hnl:=oP (h.name _ hx)
  have hcl:=X5 hx
  have hal:=DN l
  have hall:=h.long
  have hdl:=congrArg List.length h2
  have hel:=yD l[i]
  simp only [List.length_append,List.length_drop,hel] at hdl
  obtain ⟨e,d⟩:=Yd (by simp only [List.length_append];omega) h2 (by omega) (by omega)
  have htk:l.take (i+1)=l.take i++[l[i]]:=List.take_succ_eq_append_getElem hil
  have hfl:((l.take (i+1)).flatMap fB).length=((l.take i).flatMap fB).length+(fB l[i]).length:=by
   rw [htk,List.flatMap_append,List.length_append];simp
  rw [hfl,←Nat.add_assoc]
  refine ⟨?_,d⟩
  show LS.mk _ _ _=_
  rw [h1,e,htk,List.map_append]
  rfl
theorem Va {l:List (Bytes × Bytes)} {i:Nat} (hi:i<l.length) :
  (fO (l.map fun x=>(x.1,x.2.length)) (hdB l).length).getD i En.zero=⟨(l.getD i ([],[])).1,(hdB l).length+(jD (l.take i)).length,(l.getD i ([],[])).2.length⟩ ∧
  ((iM l).drop ((hdB l).length+(jD (l.take i)).length)).take (l.getD i ([],[])).2.length=(l.getD i ([],[])).2:=by
 have key:∀ (m:List (Bytes × Bytes)) (a i:Nat),i<m.length→(fO (m.map fun x=>(x.1,x.2.length)) a).getD i En.zero=⟨(m.getD i ([],[])).1,a+(jD (m.take i)).length,(m.getD i ([],[])).2.length⟩:=by
  intro m
  induction m with
  | nil=>intro a i h;cases h
  | cons y m ih=>
   intro a i h
   cases i with
   | zero=>rfl
   | succ i=>
    have:=ih (a+y.2.length) i (by simpa using h)
    have e:(jD ((y::m).take (i+1))).length=y.2.length+(jD (m.take i)).length:=by
     unfold jD;rw [List.take_succ_cons,List.flatMap_cons,List.length_append]
    rw [e,←Nat.add_assoc]
    exact this
 refine ⟨key l _ i hi,?_⟩
 have e:l.getD i ([],[])=l[i]:=by simp [List.getD_eq_getElem?_getD,hi]
 rw [e]
 unfold iM
 rw [←List.drop_drop,List.drop_left]
 have hsp:jD l=jD (l.take i)++(l[i].2++jD (l.drop (i+1))):=by
  unfold jD
  conv=>lhs;rw [←List.take_append_drop i l,List.flatMap_append,List.drop_eq_getElem_cons hi,List.flatMap_cons]
 rw [hsp,List.append_assoc,List.drop_left,List.append_assoc,List.take_left]
end Go.Fv.H
/- Numbers in bits, in plain words. -/
namespace Go.Fv.H
open Go
def rJ (n:Nat):UInt8:=if n%2=1 then 49 else 48
def jm (n:Nat):Bytes:=if h:n<2 then [rJ n] else jm (n / 2)++[rJ n]
termination_by n
decreasing_by omega
def dV (n:Nat):Bytes:=List.replicate ((jm n).length - 1) 48++jm n
def iL (l:Bytes):Nat:=l.foldl (fun a c=>2*a+(c.toNat - 48)) 0
def gI (c:UInt8):Bool:=decide (c=48∨c=49)
def XH (c:UInt8):Bool:=decide (c=48)
def aJ (s:Bytes):Nat:=(s.takeWhile XH).length
def pG (s:Bytes):Option (Nat × Nat):=
 if aJ s≤20∧2*aJ s+1≤s.length∧((s.drop (aJ s)).take (aJ s+1)).all gI=true∧iL ((s.drop (aJ s)).take (aJ s+1))≤1048576 then
  some (iL ((s.drop (aJ s)).take (aJ s+1)),2*aJ s+1) else none
theorem pR {n:Nat} (h:n<2):jm n=[rJ n]:=by rw [jm,dif_pos h]
theorem rE {n:Nat} (h:¬n<2):jm n=jm (n / 2)++[rJ n]:=by rw [jm,dif_neg h]
theorem LQ (n:Nat):(rJ n).toNat - 48=n%2:=by
 unfold rJ
 split
 ·rename_i h;rw [h];rfl
 ·have:n%2=0:=by omega
  rw [this];rfl
theorem Rq (n:Nat):gI (rJ n)=true:=by unfold rJ;split<;>decide
theorem IZ (l:Bytes) (c:UInt8):iL (l++[c])=2*iL l+(c.toNat - 48):=by unfold iL;rw [List.foldl_append];rfl
theorem Ov:∀ n:Nat,iL (jm n)=n
 | n=>by
  by_cases h:n<2
  ·rw [pR h]
   show 2*0+((rJ n).toNat - 48)=n
   rw [LQ];omega
  ·rw [rE h,IZ,LQ,Ov (n / 2)];omega
termination_by n=>n
theorem OY:∀ n:Nat,(jm n).all gI=true
 | n=>by
  by_cases h:n<2
  ·rw [pR h];simp [Rq]
  ·rw [rE h,List.all_append,OY (n / 2)];simp [Rq]
termination_by n=>n
theorem Ll:∀ n:Nat,1≤n→∃ l,jm n=49::l
 | n,h1=>by
  by_cases h:n<2
  ·have:n=1:=by omega
   subst this
   exact ⟨[],by rw [pR h];rfl⟩
  ·obtain ⟨l,hl⟩:=Ll (n / 2) (by omega)
   exact ⟨l++[rJ n],by rw [rE h,hl];rfl⟩
termination_by n=>n
theorem uU:∀ (k n:Nat),n<2 ^ (k+1)→(jm n).length≤k+1
 | 0,n,h=>by rw [pR (by simpa using h)];exact Nat.le_refl _
 | k+1,n,h=>by
  by_cases h2:n<2
  ·rw [pR h2];simp
  ·rw [rE h2,List.length_append]
   have:=uU k (n / 2) (by rw [Nat.pow_succ] at h;omega)
   simp only [List.length_singleton];omega
theorem uV (n:Nat):1≤(jm n).length:=by
 by_cases h:n<2
 ·rw [pR h];exact Nat.le_refl _
 ·rw [rE h,List.length_append];simp
theorem VT (m:Nat) (l:Bytes):aJ (List.replicate m 48++49::l)=m:=by
 unfold aJ
 induction m with
 | zero=>simp [List.takeWhile_cons,XH]
 | succ m ih=>rw [List.replicate_succ,List.cons_append,List.takeWhile_cons,if_pos (by decide),List.length_cons,ih]
theorem CV (n:Nat):(dV n).length=2*(jm n).length - 1:=by
 have:=uV n
 unfold dV
 rw [List.length_append,List.length_replicate];omega
theorem JK {n:Nat} (h1:1≤n) (h2:n≤1048576) (r:Bytes):pG (dV n++r)=some (n,(dV n).length):=by
 obtain ⟨l,hl⟩:=Ll n h1
 have hlen:=uU 20 n (by rw [show (2:Nat) ^ (20+1)=2097152 from rfl];omega)
 have hp:=uV n
 have e:dV n++r=List.replicate ((jm n).length - 1) 48++49::(l++r):=by
  unfold dV;rw [List.append_assoc,hl];rfl
 have hlead:aJ (dV n++r)=(jm n).length - 1:=by rw [e];exact VT _ _
 have hb:((dV n++r).drop ((jm n).length - 1)).take ((jm n).length - 1+1)=jm n:=by
  unfold dV
  rw [List.append_assoc,List.drop_left' (by simp),Nat.sub_add_cancel hp,List.take_left]
 have hgl:=CV n
 unfold pG
 rw [hlead,hb,OY,Ov,if_pos ⟨by omega,by rw [List.length_append,hgl];omega,rfl,h2⟩,hgl]
 congr 2
 omega
end Go.Fv.H
/- Bits packed in bytes, in plain words. -/
namespace Go.Fv.H
open Go
def bt (s:Bytes) (k:Nat):Nat:=if s.getD k 0=49 then 1 else 0
def pk (s:Bytes) (j:Nat):Nat:=bt s (8*j)*128+bt s (8*j+1)*64+bt s (8*j+2)*32+bt s (8*j+3)*16+bt s (8*j+4)*8+bt s (8*j+5)*4+bt s (8*j+6)*2+bt s (8*j+7)
def Cb (n:Nat) (s:Bytes):Bytes:=(List.range n).map fun j=>UInt8.ofNat (pk s j)
def jJ (s:Bytes):Bytes:=Cb ((s.length+7) / 8) s
def iE (d:Bytes):Bytes:=(List.range (8*d.length)).map fun i=>UInt8.ofNat (48+(d.getD (i / 8) 0).toNat / 2 ^ (7 - i%8)%2)
theorem bt_le (s:Bytes) (k:Nat):bt s k≤1:=by unfold bt;split<;>omega
theorem Nr (s:Bytes) (j:Nat):pk s j<256:=by
 have h0:=bt_le s (8*j)
 have h1:=bt_le s (8*j+1)
 have h2:=bt_le s (8*j+2)
 have h3:=bt_le s (8*j+3)
 have h4:=bt_le s (8*j+4)
 have h5:=bt_le s (8*j+5)
 have h6:=bt_le s (8*j+6)
 have h7:=bt_le s (8*j+7)
 unfold pk;omega
theorem Zw {s:Bytes} {k:Nat} (h:s.getD k 0=49):bt s k=1:=if_pos h
theorem lX {s:Bytes} {i k:Nat} (h:k≠i):bt (s.take (i+1)) k=bt (s.take i) k:=by
 unfold bt
 have e:(s.take (i+1)).getD k 0=(s.take i).getD k 0:=by
  rw [List.getD_eq_getElem?_getD,List.getD_eq_getElem?_getD,List.getElem?_take,List.getElem?_take]
  by_cases h1:k<i
  ·rw [if_pos h1,if_pos (by omega)]
  ·rw [if_neg h1,if_neg (by omega)]
 rw [e]
theorem Vk (s:Bytes) (i:Nat):bt (s.take i) i=0:=by
 unfold bt
 have e:(s.take i).getD i 0=0:=by rw [List.getD_eq_getElem?_getD,List.getElem?_take,if_neg (by omega)];rfl
 rw [e];rfl
theorem Vl {s:Bytes} {i:Nat} (hi:i<s.length):bt (s.take (i+1)) i=bt s i:=by
 unfold bt
 have e:(s.take (i+1)).getD i 0=s.getD i 0:=by rw [List.getD_eq_getElem?_getD,List.getElem?_take,if_pos (by omega),List.getD_eq_getElem?_getD]
 rw [e]
theorem YD {s:Bytes} {i j:Nat} (h:j≠i / 8):pk (s.take (i+1)) j=pk (s.take i) j:=by
 unfold pk
 rw [lX (k:=8*j) (by omega),lX (k:=8*j+1) (by omega),lX (k:=8*j+2) (by omega),lX (k:=8*j+3) (by omega),lX (k:=8*j+4) (by omega),lX (k:=8*j+5) (by omega),lX (k:=8*j+6) (by omega),lX (k:=8*j+7) (by omega)]
theorem YE {s:Bytes} {i:Nat} (hi:i<s.length) (h:s.getD i 0≠49) (j:Nat):pk (s.take (i+1)) j=pk (s.take i) j:=by
 have key:∀ k,bt (s.take (i+1)) k=bt (s.take i) k:=fun k=>by
  by_cases hk:k=i
  ·subst hk;rw [Vk,Vl hi];exact if_neg h
  ·exact lX hk
 unfold pk
 simp only [key]
theorem SG {s:Bytes} {i:Nat} (hi:i<s.length) (h49:s.getD i 0=49):pk (s.take (i+1)) (i / 8)=pk (s.take i) (i / 8)+2 ^ (7 - i%8)∧pk (s.take i) (i / 8)%2 ^ (8 - i%8)=0:=by
 obtain ⟨j,hj⟩:∃ j,i / 8=j:=⟨_,rfl⟩
 obtain ⟨t,ht⟩:∃ t,i%8=t:=⟨_,rfl⟩
 have e:i=8*j+t:=by omega
 rw [hj,ht]
 subst e
 have htl:t<8:=by omega
 clear hj ht
 have hz:∀ u,t≤u→bt (s.take (8*j+t)) (8*j+u)=0:=fun u hu=>by
  unfold bt
  have e:(s.take (8*j+t)).getD (8*j+u) 0=0:=by rw [List.getD_eq_getElem?_getD,List.getElem?_take,if_neg (by omega)];rfl
  rw [e];rfl
 have hz0:t=0→bt (s.take (8*j+t)) (8*j)=0:=fun h=>hz 0 (by omega)
 have hc:t=0∨t=1∨t=2∨t=3∨t=4∨t=5∨t=6∨t=7:=by omega
 have n1:=@lX s (8*j+t) (8*j)
 have n2:=@lX s (8*j+t) (8*j+1)
 have n3:=@lX s (8*j+t) (8*j+2)
 have n4:=@lX s (8*j+t) (8*j+3)
 have n5:=@lX s (8*j+t) (8*j+4)
 have n6:=@lX s (8*j+t) (8*j+5)
 have n7:=@lX s (8*j+t) (8*j+6)
 have n8:=@lX s (8*j+t) (8*j+7)
 have a0:=Vk s (8*j+t)
 have a1:=Vl hi
 rw [Zw h49] at a1
 have z1:=hz 1
 have z2:=hz 2
 have z3:=hz 3
 have z4:=hz 4
 have z5:=hz 5
 have z6:=hz 6
 have z7:=hz 7
 clear hz
 unfold pk
 rcases hc with rfl|rfl|rfl|rfl|rfl|rfl|rfl|rfl
 all_goals simp only [Nat.add_zero,Nat.reduceSub,Nat.reducePow] at *
 all_goals omega
theorem yZ (n:Nat) (s:Bytes):(Cb n s).length=n:=by unfold Cb;simp
theorem WJ {n j:Nat} (s:Bytes) (h:j<n):((Cb n s).getD j 0).toNat=pk s j:=by
 unfold Cb
 rw [List.getD_eq_getElem?_getD,List.getElem?_map,List.getElem?_range h]
 have:=Nr s j
 simp
 omega
theorem WO {n:Nat} {s:Bytes} {i:Nat} (hi:i<s.length) (h:s.getD i 0≠49):Cb n (s.take (i+1))=Cb n (s.take i):=by
 unfold Cb;simp only [YE hi h]
theorem WL {n:Nat} {s:Bytes} {i:Nat} (hi:i<s.length) (h:s.getD i 0=49):(aj (Cb n (s.take i))).set (i / 8) ((pk (s.take i) (i / 8)+2 ^ (7 - i%8):Nat):Int)=aj (Cb n (s.take (i+1))):=by
 unfold aj Cb
 apply List.ext_getElem?
 intro j
 rw [List.getElem?_set]
 simp only [List.length_map,List.length_range,List.getElem?_map]
 by_cases hj:i / 8=j
 ·subst hj
  rw [if_pos rfl]
  by_cases hn:i / 8<n
  ·rw [if_pos hn,List.getElem?_range hn,←(SG hi h).1]
   have:=Nr (s.take (i+1)) (i / 8)
   simp
   omega
  ·rw [if_neg hn,List.getElem?_eq_none (by simp;omega)];rfl
 ·rw [if_neg hj]
  by_cases hn:j<n
  ·rw [List.getElem?_range hn]
   simp only [Option.map_some,YD (s:=s) (i:=i) (j:=j) (fun e=>hj e.symm)]
  ·rw [List.getElem?_eq_none (by simp;omega)];rfl
end Go.Fv.H
/- Bytes of numbers, sums of bytes: the walk. -/
namespace Go.Fv.H
open Go Go.Proofs
theorem lZ {α:Type} {T:List α} {i n:Nat} {z d:α} (hn:T.length=n) (hi:i<n):(T.take i++List.replicate (n - i) z).set i (T.getD i d)=T.take (i+1)++List.replicate (n - (i+1)) z:=by
 subst hn
 have hl:(T.take i).length=i:=by rw [List.length_take];omega
 have e:T.length - i=(T.length - (i+1))+1:=by omega
 rw [List.set_append_right _ _ (by omega),hl,Nat.sub_self,e,List.replicate_succ,List.set_cons_zero,List.take_succ_eq_append_getElem hi,getD_lt hi,List.append_assoc]
 rfl
theorem cZ (l:Bytes):(aj l).length=l.length:=by unfold aj;rw [List.length_map]
theorem bytes_at {b:Bytes} {i:Nat} (h:i<b.length):(aj b).getD i 0=((b.getD i 0).toNat:Int):=by
 unfold aj
 simp [List.getD,h]
theorem iV (l:Bytes):(aj l).map (fun n=>UInt8.ofNat n.toNat)=l:=by
 unfold aj
 rw [List.map_map]
 conv=>rhs;rw [←List.map_id l]
 apply List.map_congr_left
 intro c _
 simp
theorem lu (x:Int):IntKind.u8.wrap x=x%256:=by simp [IntKind.wrap,IntKind.signed,IntKind.bits]
theorem DW {k:IntKind} (hk:k.bits=64) {n:Int} {N j:Nat} (hn:n=N∨n=(N:Int) - 18446744073709551616) (hj:j≤7):IntKind.u8.wrap (mG k n (8*(j:Int)))=((N / 256 ^ j%256:Nat):Int):=by
 have hc:j=0∨j=1∨j=2∨j=3∨j=4∨j=5∨j=6∨j=7:=by omega
 rcases hc with rfl|rfl|rfl|rfl|rfl|rfl|rfl|rfl
 ·unfold mG
  rw [hk,show (2:Int) ^ (min (8*((0:Nat):Int)).toNat 64)=1 by rfl,Int.fdiv_eq_ediv_of_nonneg _ (by decide),lu,show (256:Nat) ^ 0=1 by rfl]
  omega
 ·unfold mG
  rw [hk,show (2:Int) ^ (min (8*((1:Nat):Int)).toNat 64)=256 by rfl,Int.fdiv_eq_ediv_of_nonneg _ (by decide),lu,show (256:Nat) ^ 1=256 by rfl]
  omega
 ·unfold mG
  rw [hk,show (2:Int) ^ (min (8*((2:Nat):Int)).toNat 64)=65536 by rfl,Int.fdiv_eq_ediv_of_nonneg _ (by decide),lu,show (256:Nat) ^ 2=65536 by rfl]
  omega
 ·unfold mG
  rw [hk,show (2:Int) ^ (min (8*((3:Nat):Int)).toNat 64)=16777216 by rfl,Int.fdiv_eq_ediv_of_nonneg _ (by decide),lu,show (256:Nat) ^ 3=16777216 by rfl]
  omega
 ·unfold mG
  rw [hk,show (2:Int) ^ (min (8*((4:Nat):Int)).toNat 64)=4294967296 by rfl,Int.fdiv_eq_ediv_of_nonneg _ (by decide),lu,show (256:Nat) ^ 4=4294967296 by rfl]
  omega
 ·unfold mG
  rw [hk,show (2:Int) ^ (min (8*((5:Nat):Int)).toNat 64)=1099511627776 by rfl,Int.fdiv_eq_ediv_of_nonneg _ (by decide),lu,show (256:Nat) ^ 5=1099511627776 by rfl]
  omega
 ·unfold mG
  rw [hk,show (2:Int) ^ (min (8*((6:Nat):Int)).toNat 64)=281474976710656 by rfl,Int.fdiv_eq_ediv_of_nonneg _ (by decide),lu,show (256:Nat) ^ 6=281474976710656 by rfl]
  omega
 ·unfold mG
  rw [hk,show (2:Int) ^ (min (8*((7:Nat):Int)).toNat 64)=72057594037927936 by rfl,Int.fdiv_eq_ediv_of_nonneg _ (by decide),lu,show (256:Nat) ^ 7=72057594037927936 by rfl]
  omega
theorem Ri {many N i:Nat} (h:i<many):(aj (bV many N)).getD i 0=((N / 256 ^ (many - 1 - i)%256:Nat):Int):=by
 rw [bytes_at (by rw [aQ];exact h),OW h]
set_option maxHeartbeats 2000000 in
theorem Jg (n:Int) (N many:Nat) (hn:n=N∨n=(N:Int) - 18446744073709551616) (hN:N<18446744073709551616) (hb:-9223372036854775808≤n∧n≤9223372036854775807) (hm:many≤8) :
  aA Tryz.prog 108 [.int .i64 n,.int .i64 many] (.str (bV many N)) []:=by
 refine aA.aG Tryz.func108 rfl (by decide) (by simp [Tryz.f108]) [.tmp 4] rfl fun w0 T0 _=>?_
 simp only [Tryz.f108,au]
 (repeat' with_reducible first|intro _|exact dn|refine rn ?_|refine ra ?_ ?_)
 have hT:(aj (bV many N)).length=many:=by rw [cZ,aQ]
 refine aF.intro (fun i:Nat=>⟨28,[(11,.int .i64 i),(10,.int .i64 many),(5,.own 0),(1,.int .i64 many),(0,.int .i64 n)],[(0,.row 5 (.ints .u8 ((aj (bV many N)).take i++List.replicate (many - i) 0)))],1⟩) (fun i=>i≤many) (fun i=>many - i) 0 ?_ (Nat.zero_le _) fun i hi=>?_
 ·refine aK.ak rfl ?_ ?_<;>simp only [go_sem,Int.natCast_succ]
  all_goals rfl
 have htl:((aj (bV many N)).take i).length=i:=by rw [List.length_take,hT];omega
 by_cases hlt:i<many
 ·have f1:((i:Int)<(many:Int))=True:=eq_true (by omega)
  have hv:IntKind.u8.wrap (mG .i64 n (8*((many:Int) - 1 - (i:Int))))=(aj (bV many N)).getD i 0:=by
   rw [Ri hlt,show (many:Int) - 1 - (i:Int)=((many - 1 - i:Nat):Int) by omega]
   exact DW rfl hn (by omega)
  have hs:=lZ (z:=0) (d:=0) hT hlt
  (repeat' with_reducible first|intro _|refine rz ?_|refine ra ?_ ?_|omega|simp only [go_sem,f1])
  refine dF.at _ hv ?_
  (repeat' with_reducible first|intro _|refine rz ?_|refine ra ?_ ?_|omega|simp only [go_sem,htl])
  rw [hs]
  refine ⟨i+1,aK.ak rfl ?_ ?_,by omega,by omega⟩<;>simp only [go_sem,Int.natCast_succ]
 ·have f1:((i:Int)<(many:Int))=False:=eq_false (by omega)
  have e:i=many:=by omega
  subst e
  have hfull:(aj (bV i N)).take i=aj (bV i N):=List.take_of_length_le (by omega)
  have hbk:=iV (bV i N)
  (repeat' with_reducible first|intro _|refine rz ?_|refine ra ?_ ?_|omega|simp only [go_sem,f1])
  refine aU.auto 0 ?_ rfl ?_<;>simp only [go_sem,Int.natCast_succ,Post,hfull,hbk]
set_option maxHeartbeats 2000000 in
theorem qR (n:Int) (N many:Nat) (hn:n=N∨n=(N:Int) - 18446744073709551616) (hN:N<18446744073709551616) (hb:-9223372036854775808≤n∧n≤9223372036854775807) (hm:many≤8) :
  aA Tryz.prog 64 [.int .i64 n,.int .i64 many] (.str (bV many N)) []:=by
 refine aA.aG Tryz.func64 rfl (by decide) (by simp [Tryz.f64]) [.tmp 4] rfl fun w0 T0 _=>?_
 simp only [Tryz.f64,au]
 (repeat' with_reducible first|intro _|exact dn|refine rn ?_|refine ra ?_ ?_)
 have hT:(aj (bV many N)).length=many:=by rw [cZ,aQ]
 refine aF.intro (fun i:Nat=>⟨28,[(11,.int .i64 i),(10,.int .i64 many),(5,.own 0),(1,.int .i64 many),(0,.int .i64 n)],[(0,.row 5 (.ints .u8 ((aj (bV many N)).take i++List.replicate (many - i) 0)))],1⟩) (fun i=>i≤many) (fun i=>many - i) 0 ?_ (Nat.zero_le _) fun i hi=>?_
 ·refine aK.ak rfl ?_ ?_<;>simp only [go_sem,Int.natCast_succ]
  all_goals rfl
 have htl:((aj (bV many N)).take i).length=i:=by rw [List.length_take,hT];omega
 by_cases hlt:i<many
 ·have f1:((i:Int)<(many:Int))=True:=eq_true (by omega)
  have hv:IntKind.u8.wrap (mG .i64 n (8*((many:Int) - 1 - (i:Int))))=(aj (bV many N)).getD i 0:=by
   rw [Ri hlt,show (many:Int) - 1 - (i:Int)=((many - 1 - i:Nat):Int) by omega]
   exact DW rfl hn (by omega)
  have hs:=lZ (z:=0) (d:=0) hT hlt
  (repeat' with_reducible first|intro _|refine rz ?_|refine ra ?_ ?_|omega|simp only [go_sem,f1])
  refine dF.at _ hv ?_
  (repeat' with_reducible first|intro _|refine rz ?_|refine ra ?_ ?_|omega|simp only [go_sem,htl])
  rw [hs]
  refine ⟨i+1,aK.ak rfl ?_ ?_,by omega,by omega⟩<;>simp only [go_sem,Int.natCast_succ]
 ·have f1:((i:Int)<(many:Int))=False:=eq_false (by omega)
  have e:i=many:=by omega
  subst e
  have hfull:(aj (bV i N)).take i=aj (bV i N):=List.take_of_length_le (by omega)
  have hbk:=iV (bV i N)
  (repeat' with_reducible first|intro _|refine rz ?_|refine ra ?_ ?_|omega|simp only [go_sem,f1])
  refine aU.auto 0 ?_ rfl ?_<;>simp only [go_sem,Int.natCast_succ,Post,hfull,hbk]
theorem bits_nat (a b:Nat) (ha:a<18446744073709551616) (hb:b<18446744073709551616):(BitVec.ofInt 64 (a:Int)).toNat=a∧(BitVec.ofInt 64 (b:Int)).toNat=b:=by
 rw [BitVec.ofInt_natCast,BitVec.toNat_ofNat,BitVec.ofInt_natCast,BitVec.toNat_ofNat]
 exact ⟨Nat.mod_eq_of_lt (by omega),Nat.mod_eq_of_lt (by omega)⟩
theorem P6 {a c:Nat} (ha:a<1099511627776) (hc:c<256):gJ .or .i64 ((a*256:Nat):Int) (c:Int)=((a*256+c:Nat):Int):=by
 obtain ⟨e1,e2⟩:=bits_nat (a*256) c (by omega) (by omega)
 show IntKind.i64.wrap (((BitVec.ofInt 64 ((a*256:Nat):Int)) ||| (BitVec.ofInt 64 (c:Int))).toNat:Int)=_
 have h:=Nat.two_pow_add_eq_or_of_lt (i:=8) (b:=c) (by omega) a
 rw [BitVec.toNat_or,e1,e2,Nat.mul_comm a 256,←h]
 exact jR (kC.2 (by omega))
theorem Tf {a c:Nat} (ha:a<18446744073709551616) (hc:c<256):gJ .xor .u64 (a:Int) (c:Int)=((a ^^^ c:Nat):Int):=by
 obtain ⟨e1,e2⟩:=bits_nat a c ha (by omega)
 show IntKind.u64.wrap (((BitVec.ofInt 64 (a:Int)) ^^^ (BitVec.ofInt 64 (c:Int))).toNat:Int)=_
 have h:a ^^^ c<2 ^ 64:=Nat.xor_lt_two_pow (n:=64) (by omega) (by omega)
 rw [BitVec.toNat_xor,e1,e2]
 exact jR (nI.2 (by omega))
theorem aad (a:Nat):lJ .i64 (a:Int) 8=((a*256:Nat):Int):=by
 unfold lJ
 rw [show (2:Int) ^ (min (8:Int).toNat IntKind.i64.bits)=256 by rfl]
 omega
theorem Nh {s:Bytes} {i:Nat} (h:i<s.length):aT (s.take (i+1))=aT (s.take i)*256+(s.getD i 0).toNat:=by
 rw [List.take_succ_eq_append_getElem h,Ag,getD_lt h]
theorem LZ {s:Bytes} {i:Nat} (h:i<s.length):pz (s.take (i+1))=tX (pz (s.take i)) (s.getD i 0):=by
 unfold pz
 rw [List.take_succ_eq_append_getElem h,List.foldl_append,getD_lt h,List.foldl_cons,List.foldl_nil]
set_option maxHeartbeats 2000000 in
theorem bQ (s:Bytes) (hs:s.length≤4):aA Tryz.prog 65 [.str s] (.int .i64 (aT s)) []:=by
 refine aA.aG Tryz.func65 rfl (by decide) (by simp [Tryz.f65]) [.tmp 2] rfl fun w0 T0 _=>?_
 simp only [Tryz.f65,au]
 (repeat' with_reducible first|intro _|exact dn|refine rn ?_|refine ra ?_ ?_)
 refine aF.intro (fun i:Nat=>⟨19,[(7,.int .i64 i),(6,.int .i64 s.length),(3,.int .i64 (aT (s.take i))),(0,.str s)],[],0⟩) (fun i=>i≤s.length) (fun i=>s.length - i) 0 ?_ (Nat.zero_le _) fun i hi=>?_
 ·refine aK.ak rfl ?_ ?_<;>simp only [go_sem,Int.natCast_succ]
  all_goals rfl
 by_cases hlt:i<s.length
 ·have f1:((i:Int)<(s.length:Int))=True:=eq_true (by omega)
  have hv:=Nh hlt
  have hc:=(s.getD i 0).toNat_lt
  have hb:=kS (s.take i)
  have hp:(256:Nat) ^ (s.take i).length≤256 ^ 3:=Nat.pow_le_pow_right (by decide) (by rw [List.length_take];omega)
  rw [show (256:Nat) ^ 3=16777216 from rfl] at hp
  have hc:(s.getD i 0).toNat<256:=(s.getD i 0).toNat_lt
  have hor:=P6 (a:=aT (s.take i)) (c:=(s.getD i 0).toNat) (by omega) hc
  have h8:=aad (aT (s.take i))
  generalize aT (s.take i)=v at *
  (repeat' with_reducible first|intro _|refine rz ?_|refine ra ?_ ?_|omega|simp only [go_sem,f1])
  rw [h8]
  (repeat' with_reducible first|intro _|refine rz ?_|refine ra ?_ ?_|omega|simp only [go_sem,hor])
  refine ⟨i+1,aK.ak rfl ?_ ?_,by omega,by omega⟩<;>simp only [go_sem,Int.natCast_succ,hv,hor]
 ·have f1:((i:Int)<(s.length:Int))=False:=eq_false (by omega)
  have e:i=s.length:=by omega
  subst e
  rw [List.take_length]
  (repeat' with_reducible first|intro _|refine rz ?_|refine ra ?_ ?_|omega|simp only [go_sem,f1])
  refine aU.auto 0 ?_ rfl ?_<;>simp only [go_sem,Int.natCast_succ,Post]
set_option maxHeartbeats 2000000 in
theorem mM (s:Bytes) (hs:s.length≤200000000000000):aA Tryz.prog 26 [.str s] (.str (bY s)) []:=by
 refine aA.aG Tryz.func26 rfl (by decide) (by simp [Tryz.f26]) [.tmp 2] rfl fun w0 T0 _=>?_
 simp only [Tryz.f26,au]
 (repeat' with_reducible first|intro _|exact dn|refine rn ?_|refine ra ?_ ?_)
 refine aF.intro (fun i:Nat=>⟨38,[(9,.int .i64 i),(8,.int .i64 s.length),(3,.int .u64 (pz (s.take i))),(0,.str s)],[],0⟩) (fun i=>i≤s.length) (fun i=>s.length - i) 0 ?_ (Nat.zero_le _) fun i hi=>?_
 ·refine aK.ak rfl ?_ ?_<;>simp only [go_sem,Int.natCast_succ]
  all_goals rfl
 have hvl:=CS (s.take i)
 by_cases hlt:i<s.length
 ·have f1:((i:Int)<(s.length:Int))=True:=eq_true (by omega)
  have hv:=LZ hlt
  have hc:(s.getD i 0).toNat<256:=(s.getD i 0).toNat_lt
  have hx:=Tf hvl hc
  have hw:IntKind.u64.wrap (((pz (s.take i) ^^^ (s.getD i 0).toNat:Nat):Int)*1099511628211)=((tX (pz (s.take i)) (s.getD i 0):Nat):Int):=by
   rw [IntKind.wrap_u64];unfold tX;omega
  generalize pz (s.take i)=v at *
  generalize tX v (s.getD i 0)=u at *
  generalize v ^^^ (s.getD i 0).toNat=y at *
  (repeat' with_reducible first|intro _|refine rz ?_|refine ra ?_ ?_|omega|simp only [go_sem,f1,hx])
  refine dF.at _ hw ?_
  (repeat' with_reducible first|intro _|exact dn|refine rn ?_|refine ra ?_ ?_)
  refine ⟨i+1,aK.ak rfl ?_ ?_,by omega,by omega⟩<;>simp only [go_sem,Int.natCast_succ,hv]
 ·have f1:((i:Int)<(s.length:Int))=False:=eq_false (by omega)
  have e:i=s.length:=by omega
  subst e
  rw [List.take_length] at *
  have hT:(aj (bY s)).length=8:=by rw [cZ,mJ]
  (repeat' with_reducible first|intro _|refine rz ?_|refine ra ?_ ?_|omega|simp only [go_sem,f1])
  refine aF.intro (fun i:Nat=>⟨38,[(23,.int .i64 i),(22,.int .i64 8),(5,.own 0),(3,.int .u64 (pz s))],[(0,.row 5 (.ints .u8 ((aj (bY s)).take i++List.replicate (8 - i) 0)))],1⟩) (fun i=>i≤8) (fun i=>8 - i) 0 ?_ (Nat.zero_le _) fun i hi=>?_
  ·refine aK.ak rfl ?_ ?_<;>simp only [go_sem,Int.natCast_succ]
   all_goals rfl
  have htl:((aj (bY s)).take i).length=i:=by rw [List.length_take,hT];omega
  by_cases hlt:i<8
  ·have f1:((i:Int)<8)=True:=eq_true (by omega)
   have hv:IntKind.u8.wrap (mG .u64 (pz s:Int) (8*(7 - (i:Int))))=(aj (bY s)).getD i 0:=by
    unfold bY
    rw [Ri hlt,show 7 - (i:Int)=((8 - 1 - i:Nat):Int) by omega]
    exact DW rfl (.inl rfl) (by omega)
   have hs:=lZ (z:=0) (d:=0) hT hlt
   (repeat' with_reducible first|intro _|refine rz ?_|refine ra ?_ ?_|omega|simp only [go_sem,f1])
   refine dF.at _ hv ?_
   (repeat' with_reducible first|intro _|refine rz ?_|refine ra ?_ ?_|omega|simp only [go_sem,htl])
   rw [hs]
   refine ⟨i+1,aK.ak rfl ?_ ?_,by omega,by omega⟩<;>simp only [go_sem,Int.natCast_succ]
  ·have f1:((i:Int)<8)=False:=eq_false (by omega)
   have e:i=8:=by omega
   subst e
   have hfull:(aj (bY s)).take 8=aj (bY s):=List.take_of_length_le (by omega)
   have hbk:=iV (bY s)
   (repeat' with_reducible first|intro _|refine rz ?_|refine ra ?_ ?_|omega|simp only [go_sem,f1])
   refine aU.auto 0 ?_ rfl ?_<;>simp only [go_sem,Int.natCast_succ,Post,hfull,hbk]
set_option maxHeartbeats 2000000 in
theorem bC (s:Bytes) (hs:s.length≤4):aA Tryz.prog 71 [.str s] (.int .i64 (aT s)) []:=by
 refine aA.aG Tryz.func71 rfl (by decide) (by simp [Tryz.f71]) [.tmp 2] rfl fun w0 T0 _=>?_
 simp only [Tryz.f71,au]
 (repeat' with_reducible first|intro _|exact dn|refine rn ?_|refine ra ?_ ?_)
 refine aF.intro (fun i:Nat=>⟨19,[(7,.int .i64 i),(6,.int .i64 s.length),(3,.int .i64 (aT (s.take i))),(0,.str s)],[],0⟩) (fun i=>i≤s.length) (fun i=>s.length - i) 0 ?_ (Nat.zero_le _) fun i hi=>?_
 ·refine aK.ak rfl ?_ ?_<;>simp only [go_sem,Int.natCast_succ]
  all_goals rfl
 by_cases hlt:i<s.length
 ·have f1:((i:Int)<(s.length:Int))=True:=eq_true (by omega)
  have hv:=Nh hlt
  have hc:=(s.getD i 0).toNat_lt
  have hb:=kS (s.take i)
  have hp:(256:Nat) ^ (s.take i).length≤256 ^ 3:=Nat.pow_le_pow_right (by decide) (by rw [List.length_take];omega)
  rw [show (256:Nat) ^ 3=16777216 from rfl] at hp
  have hc:(s.getD i 0).toNat<256:=(s.getD i 0).toNat_lt
  have hor:=P6 (a:=aT (s.take i)) (c:=(s.getD i 0).toNat) (by omega) hc
  have h8:=aad (aT (s.take i))
  generalize aT (s.take i)=v at *
  (repeat' with_reducible first|intro _|refine rz ?_|refine ra ?_ ?_|omega|simp only [go_sem,f1])
  rw [h8]
  (repeat' with_reducible first|intro _|refine rz ?_|refine ra ?_ ?_|omega|simp only [go_sem,hor])
  refine ⟨i+1,aK.ak rfl ?_ ?_,by omega,by omega⟩<;>simp only [go_sem,Int.natCast_succ,hv,hor]
 ·have f1:((i:Int)<(s.length:Int))=False:=eq_false (by omega)
  have e:i=s.length:=by omega
  subst e
  rw [List.take_length]
  (repeat' with_reducible first|intro _|refine rz ?_|refine ra ?_ ?_|omega|simp only [go_sem,f1])
  refine aU.auto 0 ?_ rfl ?_<;>simp only [go_sem,Int.natCast_succ,Post]
set_option maxHeartbeats 2000000 in
theorem iC (s:Bytes) (hs:s.length≤200000000000000):aA Tryz.prog 14 [.str s] (.str (bY s)) []:=by
 refine aA.aG Tryz.func14 rfl (by decide) (by simp [Tryz.f14]) [.tmp 2] rfl fun w0 T0 _=>?_
 simp only [Tryz.f14,au]
 (repeat' with_reducible first|intro _|exact dn|refine rn ?_|refine ra ?_ ?_)
 refine aF.intro (fun i:Nat=>⟨21,[(7,.int .i64 i),(6,.int .i64 s.length),(3,.int .u64 (pz (s.take i))),(0,.str s)],[],0⟩) (fun i=>i≤s.length) (fun i=>s.length - i) 0 ?_ (Nat.zero_le _) fun i hi=>?_
 ·refine aK.ak rfl ?_ ?_<;>simp only [go_sem,Int.natCast_succ]
  all_goals rfl
 have hvl:=CS (s.take i)
 by_cases hlt:i<s.length
 ·have f1:((i:Int)<(s.length:Int))=True:=eq_true (by omega)
  have hv:=LZ hlt
  have hc:(s.getD i 0).toNat<256:=(s.getD i 0).toNat_lt
  have hx:=Tf hvl hc
  have hw:IntKind.u64.wrap (((pz (s.take i) ^^^ (s.getD i 0).toNat:Nat):Int)*1099511628211)=((tX (pz (s.take i)) (s.getD i 0):Nat):Int):=by
   rw [IntKind.wrap_u64];unfold tX;omega
  generalize pz (s.take i)=v at *
  generalize tX v (s.getD i 0)=u at *
  generalize v ^^^ (s.getD i 0).toNat=y at *
  (repeat' with_reducible first|intro _|refine rz ?_|refine ra ?_ ?_|omega|simp only [go_sem,f1,hx])
  refine dF.at _ hw ?_
  (repeat' with_reducible first|intro _|exact dn|refine rn ?_|refine ra ?_ ?_)
  refine ⟨i+1,aK.ak rfl ?_ ?_,by omega,by omega⟩<;>simp only [go_sem,Int.natCast_succ,hv]
 ·have f1:((i:Int)<(s.length:Int))=False:=eq_false (by omega)
  have e:i=s.length:=by omega
  subst e
  rw [List.take_length] at *
  have hw:∃ n:Int,n=IntKind.i64.wrap (pz s:Int)∧(n=(pz s:Int)∨n=(pz s:Int) - 18446744073709551616)∧-9223372036854775808≤n∧n≤9223372036854775807:=by
   refine ⟨_,rfl,?_⟩
   rw [IntKind.wrap_i64]
   omega
  obtain ⟨n,hn,hn2,hn3⟩:=hw
  have kb:=qR n (pz s) 8 hn2 hvl hn3 (Nat.le_refl _)
  rw [show ((8:Nat):Int)=8 from rfl] at kb
  (repeat' with_reducible first|intro _|refine rz ?_|refine ra ?_ ?_|omega|simp only [go_sem,f1])
  refine dF.at n hn.symm ?_
  refine ah.k kb ?_
  (repeat' with_reducible first|intro _|exact dn|refine rn ?_|refine ra ?_ ?_)
  refine aU.auto 0 ?_ rfl ?_<;>simp only [go_sem,Int.natCast_succ,Post,bY]
end Go.Fv.H
/- shrink.packed, unpacked, bitsOf: the walk. -/
namespace Go.Fv.H
open Go Go.Proofs
theorem zK (a b:Nat) (ha:a<256) (hb:b<256):(BitVec.ofInt 8 (a:Int)).toNat=a∧(BitVec.ofInt 8 (b:Int)).toNat=b:=by
 rw [BitVec.ofInt_natCast,BitVec.toNat_ofNat,BitVec.ofInt_natCast,BitVec.toNat_ofNat]
 exact ⟨Nat.mod_eq_of_lt (by omega),Nat.mod_eq_of_lt (by omega)⟩
theorem or8 {a t:Nat} (ht:t<8) (hm:a%2 ^ (8 - t)=0) (hl:a+2 ^ (7 - t)<256):gJ .or .u8 (a:Int) ((2 ^ (7 - t):Nat):Int)=((a+2 ^ (7 - t):Nat):Int):=by
 have hlt:2 ^ (7 - t)<2 ^ (8 - t):=Nat.pow_lt_pow_right (by decide) (by omega)
 have h:=Nat.two_pow_add_eq_or_of_lt hlt (a / 2 ^ (8 - t))
 have ha:2 ^ (8 - t)*(a / 2 ^ (8 - t))=a:=by have:=Nat.div_add_mod a (2 ^ (8 - t));omega
 rw [ha] at h
 obtain ⟨b,hb⟩:∃ b,2 ^ (7 - t)=b:=⟨_,rfl⟩
 rw [hb] at h hl ⊢
 obtain ⟨e1,e2⟩:=zK a b (by omega) (by omega)
 show IntKind.u8.wrap (((BitVec.ofInt 8 (a:Int)) ||| (BitVec.ofInt 8 (b:Int))).toNat:Int)=_
 rw [BitVec.toNat_or,e1,e2,←h,lu]
 omega
theorem aae {t:Nat} (ht:t<8):mG .u8 128 (t:Int)=((2 ^ (7 - t):Nat):Int):=by
 have hc:t=0∨t=1∨t=2∨t=3∨t=4∨t=5∨t=6∨t=7:=by omega
 rcases hc with rfl|rfl|rfl|rfl|rfl|rfl|rfl|rfl<;>rfl
set_option maxHeartbeats 4000000 in
theorem Ai (s:Bytes) (hs:s.length≤1000000000):aA Tryz.prog 152 [.str s] (.own 0) [(0,.row 5 (.ints .u8 (aj (jJ s))))]:=by
 refine aA.aG Tryz.func152 rfl (by decide) (by simp [Tryz.f152]) [.tmp 2] rfl fun w0 T0 _=>?_
 simp only [Tryz.f152,au]
 have d0:((s.length:Int)+7).tdiv 8=(((s.length+7) / 8:Nat):Int):=by rw [Int.tdiv_eq_ediv_of_nonneg (by omega)];omega
 have hpk:jJ s=Cb ((s.length+7) / 8) s:=rfl
 rw [hpk]
 obtain ⟨n,hn⟩:∃ n,(s.length+7) / 8=n:=⟨_,rfl⟩
 rw [hn] at d0 ⊢
 have hz:aj (Cb n [])=List.replicate n 0:=by
  unfold aj Cb
  apply List.ext_getElem?
  intro j
  simp only [List.getElem?_map,List.getElem?_replicate]
  by_cases h:j<n
  ·rw [List.getElem?_range h,if_pos h]
   have e:pk [] j=0:=by
    have hb:∀ k,bt [] k=0:=fun k=>rfl
    unfold pk;simp only [hb]
   simp only [Option.map_some,e]
   rfl
  ·rw [List.getElem?_eq_none (by simp;omega),if_neg h];rfl
 (repeat' with_reducible first|intro _|refine rz ?_|refine ra ?_ ?_|omega|simp only [go_sem,d0])
 refine aF.intro (fun i:Nat=>⟨31,[(12,.int .i64 i),(11,.int .i64 s.length),(3,.own 0),(0,.str s)],[(0,.row 5 (.ints .u8 (aj (Cb n (s.take i)))))],1⟩) (fun i=>i≤s.length) (fun i=>s.length - i) 0 ?_ (Nat.zero_le _) fun i hi=>?_
 ·refine aK.ak rfl ?_ ?_<;>simp only [go_sem,Int.natCast_succ,hz]
 by_cases hlt:i<s.length
 ·have f1:((i:Int)<(s.length:Int))=True:=eq_true (by omega)
  by_cases h49:s.getD i 0=49
  ·have f2:(((s.getD i 0).toNat:Int)=49)=True:=eq_true (by rw [h49];rfl)
   obtain ⟨p1,p2⟩:=SG hlt h49
   have hst:=WL (n:=n) hlt h49
   have hlen:(aj (Cb n (s.take i))).length=n:=by rw [cZ,yZ]
   have hin:i / 8<n:=by omega
   have hat:(aj (Cb n (s.take i))).getD (i / 8) 0=((pk (s.take i) (i / 8):Nat):Int):=by rw [bytes_at (by rw [yZ];exact hin),WJ _ hin]
   have hpl:=Nr (s.take (i+1)) (i / 8)
   have ho:=or8 (a:=pk (s.take i) (i / 8)) (t:=i%8) (Nat.mod_lt _ (by decide)) p2 (by omega)
   have hs8:=aae (t:=i%8) (Nat.mod_lt _ (by decide))
   have d1:(i:Int).tdiv 8=((i / 8:Nat):Int):=by rw [Int.tdiv_eq_ediv_of_nonneg (by omega)];rfl
   have d2:(i:Int).tmod 8=((i%8:Nat):Int):=by rw [Int.tmod_eq_emod_of_nonneg (by omega)];rfl
   have hp128:(2:Nat) ^ (7 - i%8)≤128:=by
    have:(2:Nat) ^ (7 - i%8)≤2 ^ 7:=Nat.pow_le_pow_right (by decide) (by omega)
    exact this
   (repeat' with_reducible first|intro _|refine rz ?_|refine ra ?_ ?_|omega|simp only [go_sem,f1,f2])
   refine aN.lex [10] [] (by kernel_rfl) (by kernel_rfl) ?_
   (repeat' with_reducible first|intro _|refine rz ?_|refine ra ?_ ?_|omega|simp only [go_sem,d1,d2,hlen,hat,hs8,ho,hst])
   refine ⟨i+1,aK.ak rfl ?_ ?_,by omega,by omega⟩<;>simp only [go_sem,Int.natCast_succ]
  ·have f2:(((s.getD i 0).toNat:Int)=49)=False:=eq_false fun h=>h49 (UInt8.toNat_inj.1 (by show _=49;omega))
   have hst:=WO (n:=n) hlt h49
   (repeat' with_reducible first|intro _|refine rz ?_|refine ra ?_ ?_|omega|simp only [go_sem,f1,f2])
   refine ⟨i+1,aK.ak rfl ?_ ?_,by omega,by omega⟩<;>simp only [go_sem,Int.natCast_succ,hst]
 ·have f1:((i:Int)<(s.length:Int))=False:=eq_false (by omega)
  have e:i=s.length:=by omega
  subst e
  rw [List.take_length]
  (repeat' with_reducible first|intro _|refine rz ?_|refine ra ?_ ?_|omega|simp only [go_sem,f1])
  refine aU.auto 1 ?_ rfl ?_<;>simp only [go_sem,Int.natCast_succ,Post]
theorem Zd {d:Bytes} {i:Nat} (h:i<8*d.length):(aj (iE d)).getD i 0=((48+(d.getD (i / 8) 0).toNat / 2 ^ (7 - i%8)%2:Nat):Int):=by
 rw [bytes_at (by unfold iE;simp;exact h)]
 unfold iE
 rw [List.getD_eq_getElem?_getD,List.getElem?_map,List.getElem?_range h]
 simp
 omega
theorem aaf {a t:Nat} (ht:t<8):mG .u8 (a:Int) (t:Int)=((a / 2 ^ t:Nat):Int):=by
 unfold mG
 have e:min (t:Int).toNat IntKind.u8.bits=t:=by show min t 8=t;omega
 rw [e,Int.fdiv_eq_ediv_of_nonneg _ (Int.le_of_lt (Int.pow_pos (by decide)))]
 rfl
theorem Zp {a:Nat} (ha:a<256):gJ .and .u8 (a:Int) 1=((a%2:Nat):Int):=by
 obtain ⟨e1,e2⟩:=zK a 1 ha (by decide)
 show IntKind.u8.wrap (((BitVec.ofInt 8 (a:Int)) &&& (BitVec.ofInt 8 ((1:Nat):Int))).toNat:Int)=_
 rw [BitVec.toNat_and,e1,e2,Nat.and_one_is_mod,lu]
 omega
set_option maxHeartbeats 4000000 in
theorem qh (d:Bytes) (hd:d.length≤1000000000):aA Tryz.prog 104 [.str d] (.str (iE d)) []:=by
 refine aA.aG Tryz.func104 rfl (by decide) (by simp [Tryz.f104]) [.tmp 2] rfl fun w0 T0 _=>?_
 simp only [Tryz.f104,au]
 have hup:=@Zd d
 have hul:(aj (iE d)).length=8*d.length:=by rw [cZ];unfold iE;simp
 have hbk:=iV (iE d)
 have d0:8*(d.length:Int)=((8*d.length:Nat):Int):=by omega
 have hdiv:∀ i,i<8*d.length→i / 8<d.length:=fun i hi=>by omega
 obtain ⟨n,hn⟩:∃ n,8*d.length=n:=⟨_,rfl⟩
 rw [hn] at d0 hul hup hdiv
 (repeat' with_reducible first|intro _|refine rz ?_|refine ra ?_ ?_|omega|simp only [go_sem,d0])
 refine aF.intro (fun i:Nat=>⟨30,[(11,.int .i64 i),(10,.int .i64 n),(3,.own 0),(0,.str d)],[(0,.row 5 (.ints .u8 ((aj (iE d)).take i++List.replicate (n - i) 0)))],1⟩) (fun i=>i≤n) (fun i=>n - i) 0 ?_ (Nat.zero_le _) fun i hi=>?_
 ·refine aK.ak rfl ?_ ?_<;>simp only [go_sem,Int.natCast_succ]
  all_goals rfl
 have htl:((aj (iE d)).take i).length=i:=by rw [List.length_take,hul];omega
 by_cases hlt:i<n
 ·have f1:((i:Int)<(n:Int))=True:=eq_true (by omega)
  have hs:=lZ (z:=0) (d:=0) hul hlt
  rw [hup hlt] at hs
  have d1:(i:Int).tdiv 8=((i / 8:Nat):Int):=by rw [Int.tdiv_eq_ediv_of_nonneg (by omega)];rfl
  have d2:(i:Int).tmod 8=((i%8:Nat):Int):=by rw [Int.tmod_eq_emod_of_nonneg (by omega)];rfl
  have d3:7 - ((i%8:Nat):Int)=((7 - i%8:Nat):Int):=by omega
  have hq:=hdiv i hlt
  have hc:(d.getD (i / 8) 0).toNat<256:=(d.getD (i / 8) 0).toNat_lt
  have h8:=aaf (a:=(d.getD (i / 8) 0).toNat) (t:=7 - i%8) (by omega)
  have hlt8:(d.getD (i / 8) 0).toNat / 2 ^ (7 - i%8)<256:=Nat.lt_of_le_of_lt (Nat.div_le_self _ _) hc
  have ha:=Zp hlt8
  have hv:(48:Int)+(((d.getD (i / 8) 0).toNat / 2 ^ (7 - i%8)%2:Nat):Int)=((48+(d.getD (i / 8) 0).toNat / 2 ^ (7 - i%8)%2:Nat):Int):=by omega
  (repeat' with_reducible first|intro _|refine rz ?_|refine ra ?_ ?_|omega|simp only [go_sem,f1,d1,d2,d3,h8,ha,hv])
  refine ⟨i+1,aK.ak rfl ?_ ?_,by omega,by omega⟩<;>simp only [go_sem,Int.natCast_succ,hs]
 ·have f1:((i:Int)<(n:Int))=False:=eq_false (by omega)
  have e:i=n:=by omega
  subst e
  have hfull:(aj (iE d)).take i=aj (iE d):=List.take_of_length_le (by omega)
  (repeat' with_reducible first|intro _|refine rz ?_|refine ra ?_ ?_|omega|simp only [go_sem,f1])
  refine aU.auto 0 ?_ rfl ?_<;>simp only [go_sem,Int.natCast_succ,Post,hfull,hbk]
def fZ (p:List Bool):Bytes:=p.map fun b=>if b=true then 49 else 48
theorem jT (p:List Bool):(fZ p).length=p.length:=by unfold fZ;rw [List.length_map]
theorem Vh {p:List Bool} {i:Nat} (h:i<p.length):(aj (fZ p)).getD i 0=if p.getD i false=true then 49 else 48:=by
 rw [bytes_at (by rw [jT];exact h)]
 unfold fZ
 rw [List.getD_eq_getElem?_getD,List.getElem?_map,List.getD_eq_getElem?_getD,List.getElem?_eq_getElem h]
 simp only [Option.map_some,Option.getD_some]
 split<;>rfl
set_option maxHeartbeats 4000000 in
theorem TA (w h:Int) (p:List Bool) (hp:p.length≤1000000000):aA Tryz.prog 153 [.agg [.int .i64 w,.int .i64 h,.ro (.bools p)]] (.str (fZ p)) []:=by
 refine aA.aG Tryz.func153 rfl (by decide) (by simp [Tryz.f153]) [.tmp 2] rfl fun w0 T0 _=>?_
 simp only [Tryz.f153,au]
 have hat:=@Vh p
 have hul:(aj (fZ p)).length=p.length:=by rw [cZ,jT]
 have hbk:=iV (fZ p)
 (repeat' with_reducible first|intro _|exact dn|refine rn ?_|refine ra ?_ ?_)
 refine aF.intro (fun i:Nat=>⟨28,[(13,.int .i64 i),(12,.int .i64 p.length),(11,.ro (.bools p)),(3,.own 1),(1,.ptr 0 0)],[(0,.box 24 [.int .i64 w,.int .i64 h,.ro (.bools p)]),(1,.row 5 (.ints .u8 ((aj (fZ p)).take i++List.replicate (p.length - i) 0)))],2⟩) (fun i=>i≤p.length) (fun i=>p.length - i) 0 ?_ (Nat.zero_le _) fun i hi=>?_
 ·refine aK.ak rfl ?_ ?_<;>simp only [go_sem,Int.natCast_succ]
  all_goals rfl
 have htl:((aj (fZ p)).take i).length=i:=by rw [List.length_take,hul];omega
 by_cases hlt:i<p.length
 ·have f1:((i:Int)<(p.length:Int))=True:=eq_true (by omega)
  have hs:=lZ (z:=0) (d:=0) hul hlt
  rw [hat hlt] at hs
  cases hb:p.getD i false with
  | true=>
   rw [hb,if_pos rfl] at hs
   (repeat' with_reducible first|intro _|refine rz ?_|refine ra ?_ ?_|omega|simp only [go_sem,f1,htl,hb,List.set_set])
   refine ⟨i+1,aK.ak rfl ?_ ?_,by omega,by omega⟩<;>simp only [go_sem,Int.natCast_succ,hs]
  | false=>
   rw [hb,if_neg (by decide)] at hs
   (repeat' with_reducible first|intro _|refine rz ?_|refine ra ?_ ?_|omega|simp only [go_sem,f1,htl,hb])
   refine ⟨i+1,aK.ak rfl ?_ ?_,by omega,by omega⟩<;>simp only [go_sem,Int.natCast_succ,hs]
 ·have f1:((i:Int)<(p.length:Int))=False:=eq_false (by omega)
  have e:i=p.length:=by omega
  subst e
  have hfull:(aj (fZ p)).take p.length=aj (fZ p):=List.take_of_length_le (by omega)
  (repeat' with_reducible first|intro _|refine rz ?_|refine ra ?_ ?_|omega|simp only [go_sem,f1])
  refine aU.auto 0 ?_ rfl ?_<;>simp only [go_sem,Int.natCast_succ,Post,hfull,hbk]
end Go.Fv.H
