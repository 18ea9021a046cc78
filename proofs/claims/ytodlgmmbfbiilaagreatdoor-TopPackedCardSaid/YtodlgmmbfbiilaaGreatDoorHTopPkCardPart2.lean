/-
  A part of the proof of the claim: walks over the program's functions and the plain laws that these need. No condition of its own.
-/
import Derived.Test.YtodlgmmbfbiilaaGreatDoorHTopPkCardPart1
import Derived.Test.YtodlgmmbfbiilaaGreatDoorFvPart10
set_option linter.unusedSimpArgs false
set_option linter.unusedVariables false
set_option linter.unnecessarySimpa false
set_option maxRecDepth 8000
/- Archives, in plain words: how they are made and read. -/
namespace Go.Fv.H
open Go Go.Proofs
theorem tkl {a b:Bytes} {n:Nat} (h:a.length=n):(a++b).take n=a:=by rw [←h,List.take_left]
structure Tk where
 (t:Bytes) (a:Nat) (sh:Bool)
def tk (s:Bytes) (a:Nat) (sh:Bool) (n:Nat):Tk:=
 if sh=true∨s.length<a+n then ⟨[],a,true⟩ else ⟨(s.drop a).take n,a+n,false⟩
theorem CJ (s:Bytes) (a:Nat) (sh:Bool) (n:Nat):(tk s a sh n).t.length≤n:=by
 unfold tk;split
 ·exact Nat.zero_le _
 ·rw [List.length_take];exact Nat.min_le_left _ _
theorem UZ {s:Bytes} {a:Nat} (sh:Bool) (n:Nat) (h:a≤s.length):a≤(tk s a sh n).a∧(tk s a sh n).a≤s.length:=by
 unfold tk;split
 ·exact ⟨Nat.le_refl _,h⟩
 ·rename_i h2
  have:=(not_or.1 h2).2
  exact ⟨Nat.le_add_right _ _,by dsimp only;omega⟩
theorem Xv (s:Bytes) (a n:Nat):(tk s a true n)=⟨[],a,true⟩:=by unfold tk;rw [if_pos (.inl rfl)]
theorem U1 {s:Bytes} {a n:Nat} {x t:Bytes} (ha:a≤s.length) (hs:s.drop a=x++t) (hn:x.length=n):tk s a false n=⟨x,a+n,false⟩∧s.drop (a+n)=t:=by
 have hl:(s.drop a).length=x.length+t.length:=by rw [hs,List.length_append]
 rw [List.length_drop] at hl
 constructor
 ·unfold tk
  by_cases h0:n=0
  ·have hx:x=[]:=List.eq_nil_of_length_eq_zero (by omega)
   subst hx
   rw [if_neg (by simp;omega),h0];simp
  ·rw [if_neg (by simp;omega),hs,←hn,List.take_left]
 ·rw [←List.drop_drop,hs,←hn,List.drop_left]
structure Zn where
 (n:Bytes) (k a:Nat) (sh:Bool)
def F5 (s:Bytes) (a:Nat) (sh:Bool):Zn:=
 let x:=tk s a sh 1
 let y:=tk s x.a x.sh (bV x.t)
 let z:=tk s y.a y.sh 4
 ⟨y.t,bV z.t,z.a,z.sh⟩
structure LS where
 (l:List (Bytes × Nat)) (a:Nat) (sh:Bool)
def ls (s:Bytes):Nat→LS
 | 0=>⟨[],6,false⟩
 | i+1=>⟨(ls s i).l++[((F5 s (ls s i).a (ls s i).sh).n,(F5 s (ls s i).a (ls s i).sh).k)],(F5 s (ls s i).a (ls s i).sh).a,(F5 s (ls s i).a (ls s i).sh).sh⟩
theorem num1 {s:Bytes} (h:s.length≤1):bV s<256:=by
 have:=nI s
 have:256 ^ s.length≤256 ^ 1:=Nat.pow_le_pow_right (by decide) h
 omega
theorem Zb {s:Bytes} (h:s.length≤2):bV s<65536:=by
 have:=nI s
 have:256 ^ s.length≤256 ^ 2:=Nat.pow_le_pow_right (by decide) h
 omega
theorem Z7 {s:Bytes} (h:s.length≤4):bV s<4294967296:=by
 have:=nI s
 have:256 ^ s.length≤256 ^ 4:=Nat.pow_le_pow_right (by decide) h
 omega
structure Zn.Ok (s:Bytes) (a:Nat) (e:Zn):Prop where
 n:e.n.length<256
 k:e.k<4294967296
 a0:a≤e.a
 a1:e.a≤s.length
theorem SH {s:Bytes} {a:Nat} (sh:Bool) (h:a≤s.length):Zn.Ok s a (F5 s a sh):=by
 have h1:=UZ sh 1 h
 have h2:=UZ (tk s a sh 1).sh (bV (tk s a sh 1).t) h1.2
 have h3:=UZ (tk s (tk s a sh 1).a (tk s a sh 1).sh (bV (tk s a sh 1).t)).sh 4 h2.2
 have n1:=num1 (CJ s a sh 1)
 refine ⟨Nat.lt_of_le_of_lt (CJ _ _ _ _) n1,Z7 (CJ _ _ _ _),?_,h3.2⟩
 exact Nat.le_trans h1.1 (Nat.le_trans h2.1 h3.1)
theorem X3 (s:Bytes) (a:Nat):(F5 s a true).sh=true:=by unfold F5;simp only [Xv]
def iQ (l:List (Bytes × Nat)):Nat:=(l.map (·.2)).sum
theorem Fe (l:List (Bytes × Nat)) (x:Bytes × Nat):iQ (l++[x])=iQ l+x.2:=by unfold iQ;simp
structure LS.Ok (s:Bytes) (i:Nat) (q:LS):Prop where
 len:q.l.length=i
 k:iQ q.l≤i*4294967296
 a0:6≤q.a
 a1:q.a≤s.length
theorem TI {s:Bytes} (h:6≤s.length):∀ i,LS.Ok s i (ls s i)
 | 0=>⟨rfl,Nat.zero_le _,Nat.le_refl _,h⟩
 | i+1=>by
  have ih:=TI h i
  have e:=SH (ls s i).sh ih.a1
  refine ⟨?_,?_,Nat.le_trans ih.a0 e.a0,e.a1⟩
  ·show (_++[_]).length=_
   rw [List.length_append,ih.len];rfl
  ·show iQ (_++[_])≤_
   rw [Fe]
   have:=e.k
   have:=ih.k
   dsimp only
   omega
theorem Xo {s:Bytes} {i:Nat} (h:(ls s i).sh=true):∀ j,(ls s (i+j)).sh=true
 | 0=>h
 | j+1=>by
  have ih:=Xo h j
  show (F5 s (ls s (i+j)).a (ls s (i+j)).sh).sh=true
  rw [ih,X3]
structure En where
 (n:Bytes) (a k:Nat)
def En.av (x:En):List AV:=[.str x.n,.int .i64 x.a,.int .i64 x.k]
def En.zero:En:=⟨[],0,0⟩
abbrev YH (l:List En):aF:=.objs 3 (l.map En.av)
instance:yK En.av:=⟨fun _=>rfl⟩
theorem Oi (l:List En) {i:Nat} (h:i<l.length):(l.map En.av).getD i []=[.str (l.getD i En.zero).n,.int .i64 (l.getD i En.zero).a,.int .i64 (l.getD i En.zero).k]:=by
 simp [List.getD_eq_getElem?_getD,h,En.av]
def fV:List (Bytes × Nat)→Nat→List En
 | [],_=>[]
 | x::l,a=>⟨x.1,a,x.2⟩::fV l (a+x.2)
theorem fZ:∀ (l:List (Bytes × Nat)) (a:Nat),(fV l a).length=l.length
 | [],_=>rfl
 | x::l,a=>by simp [fV,fZ l]
theorem Ej (x:Bytes × Nat):∀ (l:List (Bytes × Nat)) (a:Nat),fV (l++[x]) a=fV l a++[⟨x.1,a+iQ l,x.2⟩]
 | [],a=>rfl
 | y::l,a=>by
  show _::fV (l++[x]) (a+y.2)=_::_
  rw [Ej x l]
  have e:a+y.2+iQ l=a+iQ (y::l):=by unfold iQ;simp;omega
  rw [e];rfl
theorem Oh (d:Nat):∀ (l:List (Bytes × Nat)) (a:Nat) (i:Nat),i<l.length →
  (fV l (a+d)).getD i En.zero=⟨((fV l a).getD i En.zero).n,((fV l a).getD i En.zero).a+d,((fV l a).getD i En.zero).k⟩
 | x::l,a,0,_=>rfl
 | x::l,a,i+1,h=>by
  have e:a+d+x.2=a+x.2+d:=by omega
  show (fV l (a+d+x.2)).getD i En.zero=_
  rw [e]
  exact Oh d l (a+x.2) i (by simpa using h)
theorem xJ:∀ (l:List (Bytes × Nat)) (a:Nat),(fV l a).map En.n=l.map Prod.fst
 | [],_=>rfl
 | x::l,a=>by simp [fV,xJ l]
theorem F6:∀ (l:List (Bytes × Nat)) (a:Nat) (x:En),x∈fV l a→a≤x.a∧x.a+x.k≤a+iQ l
 | y::l,a,x,h=>by
  have hs:iQ (y::l)=y.2+iQ l:=by unfold iQ;simp
  rcases List.mem_cons.1 h with rfl|h
  ·dsimp only;omega
  ·have:=F6 l (a+y.2) x h
   omega
def Dk (l:List Bytes):Nat→Int
 | 0=>0
 | i+1=>if Dk l i≠0 then Dk l i else if fQ (l.getD i [])=true then (if l.getD i []∈l.take i then 6 else 0) else 5
theorem TV {l:List Bytes} {i:Nat} (h:Dk l i≠0):∀ j,Dk l (i+j)=Dk l i
 | 0=>rfl
 | j+1=>by
  have ih:=TV h j
  show (if Dk l (i+j)≠0 then Dk l (i+j) else _)=_
  rw [ih,if_pos h]
theorem Yc {l:List Bytes} {i n:Nat} (h:Dk l i≠0) (hn:i≤n):Dk l n=Dk l i:=by
 have:=TV h (n - i)
 rwa [show i+(n - i)=n by omega] at this
theorem JD {l:List Bytes} (hn:∀ x,x∈l→fQ x=true) (hd:l.Nodup):∀ i,i≤l.length→Dk l i=0
 | 0,_=>rfl
 | i+1,h=>by
  have hi:i<l.length:=by omega
  have e:l.getD i []=l[i]:=by simp [List.getD_eq_getElem?_getD,hi]
  have hni:l[i]∉l.take i:=by
   intro hm
   have hd2:=hd
   rw [←List.take_append_drop i l,List.nodup_append] at hd2
   exact hd2.2.2 _ hm l[i] (by rw [List.drop_eq_getElem_cons hi];exact List.mem_cons_self) rfl
  show (if Dk l i≠0 then Dk l i else _)=0
  rw [JD hn hd i (by omega),if_neg (by simp),e,if_pos (hn _ (List.getElem_mem hi)),if_neg hni]
def wz:Bytes:=[70,66,65,49]
def Yb (s:Bytes):Nat:=bV ((s.drop 4).take 2)
def wu (s:Bytes):LS:=ls s (Yb s)
def eU (s:Bytes):List En × Int:=
 if 4194304<s.length then ([],4)
 else if s.length<6∨s.take 4≠wz then ([],8)
 else if (wu s).sh=true then ([],8)
 else if (wu s).a+iQ (wu s).l+8≠s.length then ([],8)
 else if dX (s.take (wu s).a)≠s.drop ((wu s).a+iQ (wu s).l) then ([],14)
 else if Dk ((wu s).l.map Prod.fst) (wu s).l.length≠0 then ([],Dk ((wu s).l.map Prod.fst) (wu s).l.length)
 else (fV (wu s).l (wu s).a,0)
structure FK (s:Bytes):Prop where
 len:s.length≤4194304
 six:6≤s.length
 mag:s.take 4=wz
 sh:(wu s).sh=false
 sum:(wu s).a+iQ (wu s).l+8=s.length
 chk:dX (s.take (wu s).a)=s.drop ((wu s).a+iQ (wu s).l)
 nm:Dk ((wu s).l.map Prod.fst) (wu s).l.length=0
theorem sN {s:Bytes} (h:FK s):eU s=(fV (wu s).l (wu s).a,0):=by
 obtain ⟨h1,h2,h3,h4,h5,h6,h7⟩:=h
 unfold eU
 rw [if_neg (by omega),if_neg (by rw [h3];simp;omega),if_neg (by rw [h4];decide),if_neg (by omega),if_neg (fun h=>h h6),if_neg (fun h=>h h7)]
theorem Js {s:Bytes} (h:(eU s).2=0):FK s:=by
 unfold eU at h
 split at h
 ·cases h
 ·split at h
  ·cases h
  ·split at h
   ·cases h
   ·split at h
    ·cases h
    ·split at h
     ·cases h
     ·split at h
      ·rename_i h7;exact absurd h h7
      ·rename_i h1 h2 h3 h4 h5 h6
       have h2:=not_or.1 h2
       exact ⟨by omega,by omega,Classical.not_not.1 h2.2,by simpa using h3,by omega,Classical.not_not.1 h5,Classical.not_not.1 h6⟩
theorem Jr {s:Bytes} (h:(eU s).2≠0):(eU s).1=[]:=by
 by_cases h0:FK s
 ·exact absurd (by rw [sN h0]) h
 ·unfold eU
  split
  ·rfl
  ·split
   ·rfl
   ·split
    ·rfl
    ·split
     ·rfl
     ·split
      ·rfl
      ·split
       ·rfl
       ·rename_i h1 h2 h3 h4 h5 h6
        exfalso
        apply h0
        have h2:=not_or.1 h2
        exact ⟨by omega,by omega,Classical.not_not.1 h2.2,by simpa using h3,by omega,Classical.not_not.1 h5,Classical.not_not.1 h6⟩
theorem TD {s:Bytes} {x:En} (h:x∈(eU s).1):x.a+x.k+8≤s.length∧s.length≤4194304:=by
 by_cases h0:(eU s).2=0
 ·have k:=Js h0
  rw [sN k] at h
  have:=F6 _ _ _ h
  have:=k.sum
  have:=k.len
  omega
 ·rw [Jr h0] at h;cases h
theorem Qj (s:Bytes):(eU s).1.length≤65535:=by
 by_cases h0:(eU s).2=0
 ·have k:=Js h0
  rw [sN k]
  dsimp only
  rw [fZ]
  have:=(TI k.six (Yb s)).len
  show (ls s (Yb s)).l.length≤_
  rw [this]
  have:=Zb (s:=(s.drop 4).take 2) (List.length_take_le _ _)
  unfold Yb;omega
 ·rw [Jr h0];exact Nat.zero_le _
def jO (x:Bytes × Bytes):Bytes:=dV 1 x.1.length++(x.1++dV 4 x.2.length)
def hdB (l:List (Bytes × Bytes)):Bytes:=wz++(dV 2 l.length++l.flatMap jO)
def eF (l:List (Bytes × Bytes)):Bytes:=l.flatMap Prod.snd
def oW (l:List (Bytes × Bytes)):Bytes:=hdB l++(eF l++dX (hdB l))
theorem Az (x:Bytes × Bytes):(jO x).length=5+x.1.length:=by unfold jO;simp only [List.length_append,aP];omega
theorem F9 (l:List (Bytes × Bytes)):(hdB l).length=6+(l.flatMap jO).length:=by unfold hdB;simp only [List.length_append,aP];show 4+_=_;omega
theorem vw (l:List (Bytes × Bytes)):(oW l).length=(hdB l).length+(eF l).length+8:=by unfold oW;simp only [List.length_append,rH];omega
theorem Ed (l:List (Bytes × Bytes)) (x:Bytes × Bytes):eF (l++[x])=eF l++x.2:=by unfold eF;simp
theorem IE (l:List (Bytes × Bytes)):(eF l).length=iQ (l.map fun x=>(x.1,x.2.length)):=by
 unfold eF iQ
 rw [List.length_flatMap,List.map_map];rfl
theorem VO {s:Bytes} {a:Nat} {x:Bytes × Bytes} {t:Bytes} (ha:a≤s.length) (hs:s.drop a=jO x++t) (hn:x.1.length<256) (hk:x.2.length<4294967296) :
  F5 s a false=⟨x.1,x.2.length,a+(jO x).length,false⟩∧s.drop (a+(jO x).length)=t:=by
 unfold jO at hs
 rw [List.append_assoc,List.append_assoc] at hs
 have hll:=congrArg List.length hs
 simp only [List.length_append,List.length_drop,aP] at hll
 obtain ⟨t1,d1⟩:=U1 ha hs (aP _ _)
 obtain ⟨t2,d2⟩:=U1 (by omega) d1 rfl
 obtain ⟨t3,d3⟩:=U1 (by omega) d2 (aP _ _)
 have n1:bV (dV 1 x.1.length)=x.1.length:=by rw [nH,Nat.mod_eq_of_lt (by omega)]
 have n3:bV (dV 4 x.2.length)=x.2.length:=by rw [nH,Nat.mod_eq_of_lt (by omega)]
 have hl:=Az x
 have ha:a+(jO x).length=a+1+x.1.length+4:=by omega
 rw [ha]
 refine ⟨?_,d3⟩
 unfold F5
 simp only [t1,n1,t2,t3,n3]
structure Ri (l:List (Bytes × Bytes)):Prop where
 many:l.length≤65535
 name:∀ x,x∈l→fQ x.1=true
 nodup:(l.map Prod.fst).Nodup
 long:(oW l).length≤4194304
theorem uH {n:Bytes} (h:fQ n=true):1≤n.length∧n.length≤40:=by
 unfold fQ at h
 simp only [Bool.and_eq_true,decide_eq_true_eq] at h
 obtain ⟨⟨⟨h1,h2⟩,_⟩,_⟩:=h
 have:=List.length_pos_iff.2 h1
 omega
theorem VA {l:List (Bytes × Bytes)} {x:Bytes × Bytes} (h:x∈l):x.2.length≤(eF l).length:=by
 unfold eF
 induction l with
 | nil=>cases h
 | cons y l ih=>
  rw [List.flatMap_cons,List.length_append]
  rcases List.mem_cons.1 h with rfl|h
  ·omega
  ·have:=ih h;omega
theorem TG {l:List (Bytes × Bytes)} (h:Ri l) (T:Bytes):∀ i,i≤l.length →
  ls (hdB l++T) i=⟨(l.take i).map (fun x=>(x.1,x.2.length)),6+((l.take i).flatMap jO).length,false⟩∧(hdB l++T).drop (6+((l.take i).flatMap jO).length)=(l.drop i).flatMap jO++T
 | 0,_=>by
  refine ⟨rfl,?_⟩
  unfold hdB
  have e:(wz++(dV 2 l.length++l.flatMap jO)++T)=(wz++dV 2 l.length)++(l.flatMap jO++T):=by simp only [List.append_assoc]
  have hl:(wz++dV 2 l.length).length=6:=by rw [List.length_append,aP];rfl
  rw [e]
  show List.drop 6 _=_
  rw [←hl,List.drop_left];rfl
 | i+1,hi=>by
  obtain ⟨h1,h2⟩:=TG h T i (by omega)
  have hil:i<l.length:=by omega
  have hx:l[i]∈l:=List.getElem_mem hil
  have hsp:(l.drop i).flatMap jO=jO l[i]++(l.drop (i+1)).flatMap jO:=by
   rw [List.drop_eq_getElem_cons hil,List.flatMap_cons]
  rw [hsp,List.append_assoc] at h2
  have hnl:=uH (h.name _ hx)
  have hcl:=VA hx
  have hal:=vw l
  have hall:=h.long
  have hdl:=congrArg List.length h2
  have hel:=Az l[i]
  simp only [List.length_append,List.length_drop,hel] at hdl
  obtain ⟨e,d⟩:=VO (by simp only [List.length_append];omega) h2 (by omega) (by omega)
  have htk:l.take (i+1)=l.take i++[l[i]]:=List.take_succ_eq_append_getElem hil
  have hfl:((l.take (i+1)).flatMap jO).length=((l.take i).flatMap jO).length+(jO l[i]).length:=by
   rw [htk,List.flatMap_append,List.length_append];simp
  rw [hfl,←Nat.add_assoc]
  refine ⟨?_,d⟩
  show LS.mk _ _ _=_
  rw [h1,e,htk,List.map_append]
  rfl
theorem Qi {l:List (Bytes × Bytes)} (h:Ri l):wu (oW l)=⟨l.map (fun x=>(x.1,x.2.length)),(hdB l).length,false⟩∧FK (oW l):=by
 have hN:Yb (oW l)=l.length:=by
  unfold Yb oW hdB
  have e:wz++(dV 2 l.length++l.flatMap jO)++(eF l++dX (wz++(dV 2 l.length++l.flatMap jO)))=wz++(dV 2 l.length++(l.flatMap jO++(eF l++dX (wz++(dV 2 l.length++l.flatMap jO))))):=by simp only [List.append_assoc]
  rw [e,show (4:Nat)=wz.length from rfl,List.drop_left,tkl (aP _ _),nH,Nat.mod_eq_of_lt (by have:=h.many;omega)]
 have hk:=(TG h (eF l++dX (hdB l)) l.length (Nat.le_refl _)).1
 rw [List.take_length] at hk
 have hO:wu (oW l)=⟨l.map (fun x=>(x.1,x.2.length)),(hdB l).length,false⟩:=by
  unfold wu
  rw [hN,F9]
  exact hk
 have hl:=vw l
 have hl2:=F9 l
 refine ⟨hO,h.long,by omega,?_,by rw [hO],?_,?_,?_⟩
 ·unfold oW hdB
  rw [List.append_assoc,show (4:Nat)=wz.length from rfl,List.take_left]
 ·rw [hO,hl,IE]
 ·rw [hO]
  dsimp only
  rw [←IE]
  unfold oW
  rw [List.take_left,←List.drop_drop,List.drop_left,List.drop_left]
 ·rw [hO]
  dsimp only
  have e:(l.map fun x=>(x.1,x.2.length)).map Prod.fst=l.map Prod.fst:=by rw [List.map_map];rfl
  rw [e]
  refine JD ?_ h.nodup _ (by simp)
  intro n hn
  obtain ⟨x,hx,rfl⟩:=List.mem_map.1 hn
  exact h.name x hx
theorem Ru {l:List (Bytes × Bytes)} {i:Nat} (hi:i<l.length) :
  (fV (l.map fun x=>(x.1,x.2.length)) (hdB l).length).getD i En.zero=⟨(l.getD i ([],[])).1,(hdB l).length+(eF (l.take i)).length,(l.getD i ([],[])).2.length⟩ ∧
  ((oW l).drop ((hdB l).length+(eF (l.take i)).length)).take (l.getD i ([],[])).2.length=(l.getD i ([],[])).2:=by
 have key:∀ (m:List (Bytes × Bytes)) (a i:Nat),i<m.length→(fV (m.map fun x=>(x.1,x.2.length)) a).getD i En.zero=⟨(m.getD i ([],[])).1,a+(eF (m.take i)).length,(m.getD i ([],[])).2.length⟩:=by
  intro m
  induction m with
  | nil=>intro a i h;cases h
  | cons y m ih=>
   intro a i h
   cases i with
   | zero=>rfl
   | succ i=>
    have:=ih (a+y.2.length) i (by simpa using h)
    have e:(eF ((y::m).take (i+1))).length=y.2.length+(eF (m.take i)).length:=by
     unfold eF;rw [List.take_succ_cons,List.flatMap_cons,List.length_append]
    rw [e,←Nat.add_assoc]
    exact this
 refine ⟨key l _ i hi,?_⟩
 have e:l.getD i ([],[])=l[i]:=by simp [List.getD_eq_getElem?_getD,hi]
 rw [e]
 unfold oW
 rw [←List.drop_drop,List.drop_left]
 have hsp:eF l=eF (l.take i)++(l[i].2++eF (l.drop (i+1))):=by
  unfold eF
  conv=>lhs;rw [←List.take_append_drop i l,List.flatMap_append,List.drop_eq_getElem_cons hi,List.flatMap_cons]
 rw [hsp,List.append_assoc,List.drop_left,List.append_assoc,List.take_left]
end Go.Fv.H
/- Numbers in bits, in plain words. -/
namespace Go.Fv.H
open Go
def pI (n:Nat):UInt8:=if n%2=1 then 49 else 48
def iK (n:Nat):Bytes:=if h:n<2 then [pI n] else iK (n / 2)++[pI n]
termination_by n
decreasing_by omega
def gq (n:Nat):Bytes:=List.replicate ((iK n).length - 1) 48++iK n
def kX (l:Bytes):Nat:=l.foldl (fun a c=>2*a+(c.toNat - 48)) 0
def iL (c:UInt8):Bool:=decide (c=48∨c=49)
def U6 (c:UInt8):Bool:=decide (c=48)
def aG (s:Bytes):Nat:=(s.takeWhile U6).length
def oM (s:Bytes):Option (Nat × Nat):=
 if aG s≤20∧2*aG s+1≤s.length∧((s.drop (aG s)).take (aG s+1)).all iL=true∧kX ((s.drop (aG s)).take (aG s+1))≤1048576 then
  some (kX ((s.drop (aG s)).take (aG s+1)),2*aG s+1) else none
theorem nC {n:Nat} (h:n<2):iK n=[pI n]:=by rw [iK,dif_pos h]
theorem o8 {n:Nat} (h:¬n<2):iK n=iK (n / 2)++[pI n]:=by rw [iK,dif_neg h]
theorem IZ (n:Nat):(pI n).toNat - 48=n%2:=by
 unfold pI
 split
 ·rename_i h;rw [h];rfl
 ·have:n%2=0:=by omega
  rw [this];rfl
theorem Ob (n:Nat):iL (pI n)=true:=by unfold pI;split<;>decide
theorem Fj (l:Bytes) (c:UInt8):kX (l++[c])=2*kX l+(c.toNat - 48):=by unfold kX;rw [List.foldl_append];rfl
theorem KA:∀ n:Nat,kX (iK n)=n
 | n=>by
  by_cases h:n<2
  ·rw [nC h]
   show 2*0+((pI n).toNat - 48)=n
   rw [IZ];omega
  ·rw [o8 h,Fj,IZ,KA (n / 2)];omega
termination_by n=>n
theorem KZ:∀ n:Nat,(iK n).all iL=true
 | n=>by
  by_cases h:n<2
  ·rw [nC h];simp [Ob]
  ·rw [o8 h,List.all_append,KZ (n / 2)];simp [Ob]
termination_by n=>n
theorem Iy:∀ n:Nat,1≤n→∃ l,iK n=49::l
 | n,h1=>by
  by_cases h:n<2
  ·have:n=1:=by omega
   subst this
   exact ⟨[],by rw [nC h];rfl⟩
  ·obtain ⟨l,hl⟩:=Iy (n / 2) (by omega)
   exact ⟨l++[pI n],by rw [o8 h,hl];rfl⟩
termination_by n=>n
theorem vF:∀ (k n:Nat),n<2 ^ (k+1)→(iK n).length≤k+1
 | 0,n,h=>by rw [nC (by simpa using h)];exact Nat.le_refl _
 | k+1,n,h=>by
  by_cases h2:n<2
  ·rw [nC h2];simp
  ·rw [o8 h2,List.length_append]
   have:=vF k (n / 2) (by rw [Nat.pow_succ] at h;omega)
   simp only [List.length_singleton];omega
theorem vG (n:Nat):1≤(iK n).length:=by
 by_cases h:n<2
 ·rw [nC h];exact Nat.le_refl _
 ·rw [o8 h,List.length_append];simp
theorem Tm (m:Nat) (l:Bytes):aG (List.replicate m 48++49::l)=m:=by
 unfold aG
 induction m with
 | zero=>simp [List.takeWhile_cons,U6]
 | succ m ih=>rw [List.replicate_succ,List.cons_append,List.takeWhile_cons,if_pos (by decide),List.length_cons,ih]
theorem zJ (n:Nat):(gq n).length=2*(iK n).length - 1:=by
 have:=vG n
 unfold gq
 rw [List.length_append,List.length_replicate];omega
theorem Gy {n:Nat} (h1:1≤n) (h2:n≤1048576) (r:Bytes):oM (gq n++r)=some (n,(gq n).length):=by
 obtain ⟨l,hl⟩:=Iy n h1
 have hlen:=vF 20 n (by rw [show (2:Nat) ^ (20+1)=2097152 from rfl];omega)
 have hp:=vG n
 have e:gq n++r=List.replicate ((iK n).length - 1) 48++49::(l++r):=by
  unfold gq;rw [List.append_assoc,hl];rfl
 have hlead:aG (gq n++r)=(iK n).length - 1:=by rw [e];exact Tm _ _
 have hb:((gq n++r).drop ((iK n).length - 1)).take ((iK n).length - 1+1)=iK n:=by
  unfold gq
  rw [List.append_assoc,List.drop_left' (by simp),Nat.sub_add_cancel hp,List.take_left]
 have hgl:=zJ n
 unfold oM
 rw [hlead,hb,KZ,KA,if_pos ⟨by omega,by rw [List.length_append,hgl];omega,rfl,h2⟩,hgl]
 congr 2
 omega
end Go.Fv.H
/- Bits packed in bytes, in plain words. -/
namespace Go.Fv.H
open Go
def bt (s:Bytes) (k:Nat):Nat:=if s.getD k 0=49 then 1 else 0
def pk (s:Bytes) (j:Nat):Nat:=bt s (8*j)*128+bt s (8*j+1)*64+bt s (8*j+2)*32+bt s (8*j+3)*16+bt s (8*j+4)*8+bt s (8*j+5)*4+bt s (8*j+6)*2+bt s (8*j+7)
def JM (n:Nat) (s:Bytes):Bytes:=(List.range n).map fun j=>UInt8.ofNat (pk s j)
def mF (s:Bytes):Bytes:=JM ((s.length+7) / 8) s
def qx (d:Bytes):Bytes:=(List.range (8*d.length)).map fun i=>UInt8.ofNat (48+(d.getD (i / 8) 0).toNat / 2 ^ (7 - i%8)%2)
theorem bt_le (s:Bytes) (k:Nat):bt s k≤1:=by unfold bt;split<;>omega
theorem Ul (s:Bytes) (j:Nat):pk s j<256:=by
 have h0:=bt_le s (8*j)
 have h1:=bt_le s (8*j+1)
 have h2:=bt_le s (8*j+2)
 have h3:=bt_le s (8*j+3)
 have h4:=bt_le s (8*j+4)
 have h5:=bt_le s (8*j+5)
 have h6:=bt_le s (8*j+6)
 have h7:=bt_le s (8*j+7)
 unfold pk;omega
theorem XK {s:Bytes} {k:Nat} (h:s.getD k 0=49):bt s k=1:=if_pos h
theorem kF {s:Bytes} {i k:Nat} (h:k≠i):bt (s.take (i+1)) k=bt (s.take i) k:=by
 unfold bt
 have e:(s.take (i+1)).getD k 0=(s.take i).getD k 0:=by
  rw [List.getD_eq_getElem?_getD,List.getD_eq_getElem?_getD,List.getElem?_take,List.getElem?_take]
  by_cases h1:k<i
  ·rw [if_pos h1,if_pos (by omega)]
  ·rw [if_neg h1,if_neg (by omega)]
 rw [e]
theorem RN (s:Bytes) (i:Nat):bt (s.take i) i=0:=by
 unfold bt
 have e:(s.take i).getD i 0=0:=by rw [List.getD_eq_getElem?_getD,List.getElem?_take,if_neg (by omega)];rfl
 rw [e];rfl
theorem RP {s:Bytes} {i:Nat} (hi:i<s.length):bt (s.take (i+1)) i=bt s i:=by
 unfold bt
 have e:(s.take (i+1)).getD i 0=s.getD i 0:=by rw [List.getD_eq_getElem?_getD,List.getElem?_take,if_pos (by omega),List.getD_eq_getElem?_getD]
 rw [e]
theorem WE {s:Bytes} {i j:Nat} (h:j≠i / 8):pk (s.take (i+1)) j=pk (s.take i) j:=by
 unfold pk
 rw [kF (k:=8*j) (by omega),kF (k:=8*j+1) (by omega),kF (k:=8*j+2) (by omega),kF (k:=8*j+3) (by omega),kF (k:=8*j+4) (by omega),kF (k:=8*j+5) (by omega),kF (k:=8*j+6) (by omega),kF (k:=8*j+7) (by omega)]
theorem WG {s:Bytes} {i:Nat} (hi:i<s.length) (h:s.getD i 0≠49) (j:Nat):pk (s.take (i+1)) j=pk (s.take i) j:=by
 have key:∀ k,bt (s.take (i+1)) k=bt (s.take i) k:=fun k=>by
  by_cases hk:k=i
  ·subst hk;rw [RN,RP hi];exact if_neg h
  ·exact kF hk
 unfold pk
 simp only [key]
theorem OX {s:Bytes} {i:Nat} (hi:i<s.length) (h49:s.getD i 0=49):pk (s.take (i+1)) (i / 8)=pk (s.take i) (i / 8)+2 ^ (7 - i%8)∧pk (s.take i) (i / 8)%2 ^ (8 - i%8)=0:=by
 obtain ⟨j,hj⟩:∃ j,i / 8=j:=⟨_,rfl⟩
 obtain ⟨t,ht⟩:∃ t,i%8=t:=⟨_,rfl⟩
 have e:i=8*j+t:=by omega
 rw [hj,ht]
 subst e
 have htl:t<8:=by omega
 clear hj ht
 have hz:∀ u,t≤u→bt (s.take (8*j+t)) (8*j+u)=0:=fun u hu=>by
  unfold bt
  have e:(s.take (8*j+t)).getD (8*j+u) 0=0:=by rw [List.getD_eq_getElem?_getD,List.getElem?_take,if_neg (by omega)];rfl
  rw [e];rfl
 have hz0:t=0→bt (s.take (8*j+t)) (8*j)=0:=fun h=>hz 0 (by omega)
 have hc:t=0∨t=1∨t=2∨t=3∨t=4∨t=5∨t=6∨t=7:=by omega
 have n1:=@kF s (8*j+t) (8*j)
 have n2:=@kF s (8*j+t) (8*j+1)
 have n3:=@kF s (8*j+t) (8*j+2)
 have n4:=@kF s (8*j+t) (8*j+3)
 have n5:=@kF s (8*j+t) (8*j+4)
 have n6:=@kF s (8*j+t) (8*j+5)
 have n7:=@kF s (8*j+t) (8*j+6)
 have n8:=@kF s (8*j+t) (8*j+7)
 have a0:=RN s (8*j+t)
 have a1:=RP hi
 rw [XK h49] at a1
 have z1:=hz 1
 have z2:=hz 2
 have z3:=hz 3
 have z4:=hz 4
 have z5:=hz 5
 have z6:=hz 6
 have z7:=hz 7
 clear hz
 unfold pk
 rcases hc with rfl|rfl|rfl|rfl|rfl|rfl|rfl|rfl
 all_goals simp only [Nat.add_zero,Nat.reduceSub,Nat.reducePow] at *
 all_goals omega
theorem zN (n:Nat) (s:Bytes):(JM n s).length=n:=by unfold JM;simp
theorem Ui {n j:Nat} (s:Bytes) (h:j<n):((JM n s).getD j 0).toNat=pk s j:=by
 unfold JM
 rw [List.getD_eq_getElem?_getD,List.getElem?_map,List.getElem?_range h]
 have:=Ul s j
 simp
 omega
theorem Uk {n:Nat} {s:Bytes} {i:Nat} (hi:i<s.length) (h:s.getD i 0≠49):JM n (s.take (i+1))=JM n (s.take i):=by
 unfold JM;simp only [WG hi h]
theorem Uj {n:Nat} {s:Bytes} {i:Nat} (hi:i<s.length) (h:s.getD i 0=49):(aj (JM n (s.take i))).set (i / 8) ((pk (s.take i) (i / 8)+2 ^ (7 - i%8):Nat):Int)=aj (JM n (s.take (i+1))):=by
 unfold aj JM
 apply List.ext_getElem?
 intro j
 rw [List.getElem?_set]
 simp only [List.length_map,List.length_range,List.getElem?_map]
 by_cases hj:i / 8=j
 ·subst hj
  rw [if_pos rfl]
  by_cases hn:i / 8<n
  ·rw [if_pos hn,List.getElem?_range hn,←(OX hi h).1]
   have:=Ul (s.take (i+1)) (i / 8)
   simp
   omega
  ·rw [if_neg hn,List.getElem?_eq_none (by simp;omega)];rfl
 ·rw [if_neg hj]
  by_cases hn:j<n
  ·rw [List.getElem?_range hn]
   simp only [Option.map_some,WE (s:=s) (i:=i) (j:=j) (fun e=>hj e.symm)]
  ·rw [List.getElem?_eq_none (by simp;omega)];rfl
end Go.Fv.H
/- Bytes of numbers, sums of bytes: the walk. -/
namespace Go.Fv.H
open Go Go.Proofs
theorem qK {α:Type} {T:List α} {i n:Nat} {z d:α} (hn:T.length=n) (hi:i<n):(T.take i++List.replicate (n - i) z).set i (T.getD i d)=T.take (i+1)++List.replicate (n - (i+1)) z:=by
 subst hn
 have hl:(T.take i).length=i:=by rw [List.length_take];omega
 have e:T.length - i=(T.length - (i+1))+1:=by omega
 rw [List.set_append_right _ _ (by omega),hl,Nat.sub_self,e,List.replicate_succ,List.set_cons_zero,List.take_succ_eq_append_getElem hi,getD_lt hi,List.append_assoc]
 rfl
theorem eH (l:Bytes):(aj l).length=l.length:=by unfold aj;rw [List.length_map]
theorem bytes_at {b:Bytes} {i:Nat} (h:i<b.length):(aj b).getD i 0=((b.getD i 0).toNat:Int):=by
 unfold aj
 simp [List.getD,h]
theorem jM (l:Bytes):(aj l).map (fun n=>UInt8.ofNat n.toNat)=l:=by
 unfold aj
 rw [List.map_map]
 conv=>rhs;rw [←List.map_id l]
 apply List.map_congr_left
 intro c _
 simp
theorem nO (x:Int):IntKind.u8.wrap x=x%256:=by simp [IntKind.wrap,IntKind.signed,IntKind.bits]
theorem IC {k:IntKind} (hk:k.bits=64) {n:Int} {N j:Nat} (hn:n=N∨n=(N:Int) - 18446744073709551616) (hj:j≤7):IntKind.u8.wrap (mO k n (8*(j:Int)))=((N / 256 ^ j%256:Nat):Int):=by
 have hc:j=0∨j=1∨j=2∨j=3∨j=4∨j=5∨j=6∨j=7:=by omega
 rcases hc with rfl|rfl|rfl|rfl|rfl|rfl|rfl|rfl
 ·unfold mO
  rw [hk,show (2:Int) ^ (min (8*((0:Nat):Int)).toNat 64)=1 by rfl,Int.fdiv_eq_ediv_of_nonneg _ (by decide),nO,show (256:Nat) ^ 0=1 by rfl]
  omega
 ·unfold mO
  rw [hk,show (2:Int) ^ (min (8*((1:Nat):Int)).toNat 64)=256 by rfl,Int.fdiv_eq_ediv_of_nonneg _ (by decide),nO,show (256:Nat) ^ 1=256 by rfl]
  omega
 ·unfold mO
  rw [hk,show (2:Int) ^ (min (8*((2:Nat):Int)).toNat 64)=65536 by rfl,Int.fdiv_eq_ediv_of_nonneg _ (by decide),nO,show (256:Nat) ^ 2=65536 by rfl]
  omega
 ·unfold mO
  rw [hk,show (2:Int) ^ (min (8*((3:Nat):Int)).toNat 64)=16777216 by rfl,Int.fdiv_eq_ediv_of_nonneg _ (by decide),nO,show (256:Nat) ^ 3=16777216 by rfl]
  omega
 ·unfold mO
  rw [hk,show (2:Int) ^ (min (8*((4:Nat):Int)).toNat 64)=4294967296 by rfl,Int.fdiv_eq_ediv_of_nonneg _ (by decide),nO,show (256:Nat) ^ 4=4294967296 by rfl]
  omega
 ·unfold mO
  rw [hk,show (2:Int) ^ (min (8*((5:Nat):Int)).toNat 64)=1099511627776 by rfl,Int.fdiv_eq_ediv_of_nonneg _ (by decide),nO,show (256:Nat) ^ 5=1099511627776 by rfl]
  omega
 ·unfold mO
  rw [hk,show (2:Int) ^ (min (8*((6:Nat):Int)).toNat 64)=281474976710656 by rfl,Int.fdiv_eq_ediv_of_nonneg _ (by decide),nO,show (256:Nat) ^ 6=281474976710656 by rfl]
  omega
 ·unfold mO
  rw [hk,show (2:Int) ^ (min (8*((7:Nat):Int)).toNat 64)=72057594037927936 by rfl,Int.fdiv_eq_ediv_of_nonneg _ (by decide),nO,show (256:Nat) ^ 7=72057594037927936 by rfl]
  omega
theorem Rz {many N i:Nat} (h:i<many):(aj (dV many N)).getD i 0=((N / 256 ^ (many - 1 - i)%256:Nat):Int):=by
 rw [bytes_at (by rw [aP];exact h),KX h]
set_option maxHeartbeats 2000000 in
theorem uy (n:Int) (N many:Nat) (hn:n=N∨n=(N:Int) - 18446744073709551616) (hN:N<18446744073709551616) (hb:-9223372036854775808≤n∧n≤9223372036854775807) (hm:many≤8) :
  aC Tryz.prog 108 [.int .i64 n,.int .i64 many] (.str (dV many N)) []:=by
 refine aC.aJ Tryz.func108 rfl (by decide) (by simp [Tryz.f108]) [.tmp 4] rfl fun w0 T0 _=>?_
 simp only [Tryz.f108,aB]
 (repeat' with_reducible first|intro _|exact dn|refine rn ?_|refine ra ?_ ?_)
 have hT:(aj (dV many N)).length=many:=by rw [eH,aP]
 refine aI.intro (fun i:Nat=>⟨28,[(11,.int .i64 i),(10,.int .i64 many),(5,.own 0),(1,.int .i64 many),(0,.int .i64 n)],[(0,.row 5 (.ints .u8 ((aj (dV many N)).take i++List.replicate (many - i) 0)))],1⟩) (fun i=>i≤many) (fun i=>many - i) 0 ?_ (Nat.zero_le _) fun i hi=>?_
 ·refine aO.ak rfl ?_ ?_<;>simp only [go_sem,Int.natCast_succ]
  all_goals rfl
 have htl:((aj (dV many N)).take i).length=i:=by rw [List.length_take,hT];omega
 by_cases hlt:i<many
 ·have f1:((i:Int)<(many:Int))=True:=eq_true (by omega)
  have hv:IntKind.u8.wrap (mO .i64 n (8*((many:Int) - 1 - (i:Int))))=(aj (dV many N)).getD i 0:=by
   rw [Rz hlt,show (many:Int) - 1 - (i:Int)=((many - 1 - i:Nat):Int) by omega]
   exact IC rfl hn (by omega)
  have hs:=qK (z:=0) (d:=0) hT hlt
  (repeat' with_reducible first|intro _|refine rz ?_|refine ra ?_ ?_|omega|simp only [go_sem,f1])
  refine bZ.at _ hv ?_
  (repeat' with_reducible first|intro _|refine rz ?_|refine ra ?_ ?_|omega|simp only [go_sem,htl])
  rw [hs]
  refine ⟨i+1,aO.ak rfl ?_ ?_,by omega,by omega⟩<;>simp only [go_sem,Int.natCast_succ]
 ·have f1:((i:Int)<(many:Int))=False:=eq_false (by omega)
  have e:i=many:=by omega
  subst e
  have hfull:(aj (dV i N)).take i=aj (dV i N):=List.take_of_length_le (by omega)
  have hbk:=jM (dV i N)
  (repeat' with_reducible first|intro _|refine rz ?_|refine ra ?_ ?_|omega|simp only [go_sem,f1])
  refine bf.auto 0 ?_ rfl ?_<;>simp only [go_sem,Int.natCast_succ,Post,hfull,hbk]
theorem bits_nat (a b:Nat) (ha:a<18446744073709551616) (hb:b<18446744073709551616):(BitVec.ofInt 64 (a:Int)).toNat=a∧(BitVec.ofInt 64 (b:Int)).toNat=b:=by
 rw [BitVec.ofInt_natCast,BitVec.toNat_ofNat,BitVec.ofInt_natCast,BitVec.toNat_ofNat]
 exact ⟨Nat.mod_eq_of_lt (by omega),Nat.mod_eq_of_lt (by omega)⟩
theorem Yh {a c:Nat} (ha:a<1099511627776) (hc:c<256):dh .or .i64 ((a*256:Nat):Int) (c:Int)=((a*256+c:Nat):Int):=by
 obtain ⟨e1,e2⟩:=bits_nat (a*256) c (by omega) (by omega)
 show IntKind.i64.wrap (((BitVec.ofInt 64 ((a*256:Nat):Int)) ||| (BitVec.ofInt 64 (c:Int))).toNat:Int)=_
 have h:=Nat.two_pow_add_eq_or_of_lt (i:=8) (b:=c) (by omega) a
 rw [BitVec.toNat_or,e1,e2,Nat.mul_comm a 256,←h]
 exact jY (jZ.2 (by omega))
theorem Xf {a c:Nat} (ha:a<18446744073709551616) (hc:c<256):dh .xor .u64 (a:Int) (c:Int)=((a ^^^ c:Nat):Int):=by
 obtain ⟨e1,e2⟩:=bits_nat a c ha (by omega)
 show IntKind.u64.wrap (((BitVec.ofInt 64 (a:Int)) ^^^ (BitVec.ofInt 64 (c:Int))).toNat:Int)=_
 have h:a ^^^ c<2 ^ 64:=Nat.xor_lt_two_pow (n:=64) (by omega) (by omega)
 rw [BitVec.toNat_xor,e1,e2]
 exact jY (lu.2 (by omega))
theorem aad (a:Nat):jV .i64 (a:Int) 8=((a*256:Nat):Int):=by
 unfold jV
 rw [show (2:Int) ^ (min (8:Int).toNat IntKind.i64.bits)=256 by rfl]
 omega
theorem Ua {s:Bytes} {i:Nat} (h:i<s.length):bV (s.take (i+1))=bV (s.take i)*256+(s.getD i 0).toNat:=by
 rw [List.take_succ_eq_append_getElem h,xX,getD_lt h]
theorem SN {s:Bytes} {i:Nat} (h:i<s.length):AP (s.take (i+1))=I9 (AP (s.take i)) (s.getD i 0):=by
 unfold AP
 rw [List.take_succ_eq_append_getElem h,List.foldl_append,getD_lt h,List.foldl_cons,List.foldl_nil]
set_option maxHeartbeats 2000000 in
theorem bg (s:Bytes) (hs:s.length≤4):aC Tryz.prog 65 [.str s] (.int .i64 (bV s)) []:=by
 refine aC.aJ Tryz.func65 rfl (by decide) (by simp [Tryz.f65]) [.tmp 2] rfl fun w0 T0 _=>?_
 simp only [Tryz.f65,aB]
 (repeat' with_reducible first|intro _|exact dn|refine rn ?_|refine ra ?_ ?_)
 refine aI.intro (fun i:Nat=>⟨19,[(7,.int .i64 i),(6,.int .i64 s.length),(3,.int .i64 (bV (s.take i))),(0,.str s)],[],0⟩) (fun i=>i≤s.length) (fun i=>s.length - i) 0 ?_ (Nat.zero_le _) fun i hi=>?_
 ·refine aO.ak rfl ?_ ?_<;>simp only [go_sem,Int.natCast_succ]
  all_goals rfl
 by_cases hlt:i<s.length
 ·have f1:((i:Int)<(s.length:Int))=True:=eq_true (by omega)
  have hv:=Ua hlt
  have hc:=(s.getD i 0).toNat_lt
  have hb:=nI (s.take i)
  have hp:(256:Nat) ^ (s.take i).length≤256 ^ 3:=Nat.pow_le_pow_right (by decide) (by rw [List.length_take];omega)
  rw [show (256:Nat) ^ 3=16777216 from rfl] at hp
  have hc:(s.getD i 0).toNat<256:=(s.getD i 0).toNat_lt
  have hor:=Yh (a:=bV (s.take i)) (c:=(s.getD i 0).toNat) (by omega) hc
  have h8:=aad (bV (s.take i))
  generalize bV (s.take i)=v at *
  (repeat' with_reducible first|intro _|refine rz ?_|refine ra ?_ ?_|omega|simp only [go_sem,f1])
  rw [h8]
  (repeat' with_reducible first|intro _|refine rz ?_|refine ra ?_ ?_|omega|simp only [go_sem,hor])
  refine ⟨i+1,aO.ak rfl ?_ ?_,by omega,by omega⟩<;>simp only [go_sem,Int.natCast_succ,hv,hor]
 ·have f1:((i:Int)<(s.length:Int))=False:=eq_false (by omega)
  have e:i=s.length:=by omega
  subst e
  rw [List.take_length]
  (repeat' with_reducible first|intro _|refine rz ?_|refine ra ?_ ?_|omega|simp only [go_sem,f1])
  refine bf.auto 0 ?_ rfl ?_<;>simp only [go_sem,Int.natCast_succ,Post]
set_option maxHeartbeats 2000000 in
theorem jE (s:Bytes) (hs:s.length≤200000000000000):aC Tryz.prog 26 [.str s] (.str (dX s)) []:=by
 refine aC.aJ Tryz.func26 rfl (by decide) (by simp [Tryz.f26]) [.tmp 2] rfl fun w0 T0 _=>?_
 simp only [Tryz.f26,aB]
 (repeat' with_reducible first|intro _|exact dn|refine rn ?_|refine ra ?_ ?_)
 refine aI.intro (fun i:Nat=>⟨38,[(9,.int .i64 i),(8,.int .i64 s.length),(3,.int .u64 (AP (s.take i))),(0,.str s)],[],0⟩) (fun i=>i≤s.length) (fun i=>s.length - i) 0 ?_ (Nat.zero_le _) fun i hi=>?_
 ·refine aO.ak rfl ?_ ?_<;>simp only [go_sem,Int.natCast_succ]
  all_goals rfl
 have hvl:=VQ (s.take i)
 by_cases hlt:i<s.length
 ·have f1:((i:Int)<(s.length:Int))=True:=eq_true (by omega)
  have hv:=SN hlt
  have hc:(s.getD i 0).toNat<256:=(s.getD i 0).toNat_lt
  have hx:=Xf hvl hc
  have hw:IntKind.u64.wrap (((AP (s.take i) ^^^ (s.getD i 0).toNat:Nat):Int)*1099511628211)=((I9 (AP (s.take i)) (s.getD i 0):Nat):Int):=by
   rw [IntKind.wrap_u64];unfold I9;omega
  generalize AP (s.take i)=v at *
  generalize I9 v (s.getD i 0)=u at *
  generalize v ^^^ (s.getD i 0).toNat=y at *
  (repeat' with_reducible first|intro _|refine rz ?_|refine ra ?_ ?_|omega|simp only [go_sem,f1,hx])
  refine bZ.at _ hw ?_
  (repeat' with_reducible first|intro _|exact dn|refine rn ?_|refine ra ?_ ?_)
  refine ⟨i+1,aO.ak rfl ?_ ?_,by omega,by omega⟩<;>simp only [go_sem,Int.natCast_succ,hv]
 ·have f1:((i:Int)<(s.length:Int))=False:=eq_false (by omega)
  have e:i=s.length:=by omega
  subst e
  rw [List.take_length] at *
  have hT:(aj (dX s)).length=8:=by rw [eH,rH]
  (repeat' with_reducible first|intro _|refine rz ?_|refine ra ?_ ?_|omega|simp only [go_sem,f1])
  refine aI.intro (fun i:Nat=>⟨38,[(23,.int .i64 i),(22,.int .i64 8),(5,.own 0),(3,.int .u64 (AP s))],[(0,.row 5 (.ints .u8 ((aj (dX s)).take i++List.replicate (8 - i) 0)))],1⟩) (fun i=>i≤8) (fun i=>8 - i) 0 ?_ (Nat.zero_le _) fun i hi=>?_
  ·refine aO.ak rfl ?_ ?_<;>simp only [go_sem,Int.natCast_succ]
   all_goals rfl
  have htl:((aj (dX s)).take i).length=i:=by rw [List.length_take,hT];omega
  by_cases hlt:i<8
  ·have f1:((i:Int)<8)=True:=eq_true (by omega)
   have hv:IntKind.u8.wrap (mO .u64 (AP s:Int) (8*(7 - (i:Int))))=(aj (dX s)).getD i 0:=by
    unfold dX
    rw [Rz hlt,show 7 - (i:Int)=((8 - 1 - i:Nat):Int) by omega]
    exact IC rfl (.inl rfl) (by omega)
   have hs:=qK (z:=0) (d:=0) hT hlt
   (repeat' with_reducible first|intro _|refine rz ?_|refine ra ?_ ?_|omega|simp only [go_sem,f1])
   refine bZ.at _ hv ?_
   (repeat' with_reducible first|intro _|refine rz ?_|refine ra ?_ ?_|omega|simp only [go_sem,htl])
   rw [hs]
   refine ⟨i+1,aO.ak rfl ?_ ?_,by omega,by omega⟩<;>simp only [go_sem,Int.natCast_succ]
  ·have f1:((i:Int)<8)=False:=eq_false (by omega)
   have e:i=8:=by omega
   subst e
   have hfull:(aj (dX s)).take 8=aj (dX s):=List.take_of_length_le (by omega)
   have hbk:=jM (dX s)
   (repeat' with_reducible first|intro _|refine rz ?_|refine ra ?_ ?_|omega|simp only [go_sem,f1])
   refine bf.auto 0 ?_ rfl ?_<;>simp only [go_sem,Int.natCast_succ,Post,hfull,hbk]
end Go.Fv.H
/- shrink.packed, unpacked, bitsOf: the walk. -/
namespace Go.Fv.H
open Go Go.Proofs
theorem Ea (a b:Nat) (ha:a<256) (hb:b<256):(BitVec.ofInt 8 (a:Int)).toNat=a∧(BitVec.ofInt 8 (b:Int)).toNat=b:=by
 rw [BitVec.ofInt_natCast,BitVec.toNat_ofNat,BitVec.ofInt_natCast,BitVec.toNat_ofNat]
 exact ⟨Nat.mod_eq_of_lt (by omega),Nat.mod_eq_of_lt (by omega)⟩
theorem or8 {a t:Nat} (ht:t<8) (hm:a%2 ^ (8 - t)=0) (hl:a+2 ^ (7 - t)<256):dh .or .u8 (a:Int) ((2 ^ (7 - t):Nat):Int)=((a+2 ^ (7 - t):Nat):Int):=by
 have hlt:2 ^ (7 - t)<2 ^ (8 - t):=Nat.pow_lt_pow_right (by decide) (by omega)
 have h:=Nat.two_pow_add_eq_or_of_lt hlt (a / 2 ^ (8 - t))
 have ha:2 ^ (8 - t)*(a / 2 ^ (8 - t))=a:=by have:=Nat.div_add_mod a (2 ^ (8 - t));omega
 rw [ha] at h
 obtain ⟨b,hb⟩:∃ b,2 ^ (7 - t)=b:=⟨_,rfl⟩
 rw [hb] at h hl ⊢
 obtain ⟨e1,e2⟩:=Ea a b (by omega) (by omega)
 show IntKind.u8.wrap (((BitVec.ofInt 8 (a:Int)) ||| (BitVec.ofInt 8 (b:Int))).toNat:Int)=_
 rw [BitVec.toNat_or,e1,e2,←h,nO]
 omega
theorem Yo {t:Nat} (ht:t<8):mO .u8 128 (t:Int)=((2 ^ (7 - t):Nat):Int):=by
 have hc:t=0∨t=1∨t=2∨t=3∨t=4∨t=5∨t=6∨t=7:=by omega
 rcases hc with rfl|rfl|rfl|rfl|rfl|rfl|rfl|rfl<;>rfl
set_option maxHeartbeats 4000000 in
theorem xZ (s:Bytes) (hs:s.length≤1000000000):aC Tryz.prog 152 [.str s] (.own 0) [(0,.row 5 (.ints .u8 (aj (mF s))))]:=by
 refine aC.aJ Tryz.func152 rfl (by decide) (by simp [Tryz.f152]) [.tmp 2] rfl fun w0 T0 _=>?_
 simp only [Tryz.f152,aB]
 have d0:((s.length:Int)+7).tdiv 8=(((s.length+7) / 8:Nat):Int):=by rw [Int.tdiv_eq_ediv_of_nonneg (by omega)];omega
 have hpk:mF s=JM ((s.length+7) / 8) s:=rfl
 rw [hpk]
 obtain ⟨n,hn⟩:∃ n,(s.length+7) / 8=n:=⟨_,rfl⟩
 rw [hn] at d0 ⊢
 have hz:aj (JM n [])=List.replicate n 0:=by
  unfold aj JM
  apply List.ext_getElem?
  intro j
  simp only [List.getElem?_map,List.getElem?_replicate]
  by_cases h:j<n
  ·rw [List.getElem?_range h,if_pos h]
   have e:pk [] j=0:=by
    have hb:∀ k,bt [] k=0:=fun k=>rfl
    unfold pk;simp only [hb]
   simp only [Option.map_some,e]
   rfl
  ·rw [List.getElem?_eq_none (by simp;omega),if_neg h];rfl
 (repeat' with_reducible first|intro _|refine rz ?_|refine ra ?_ ?_|omega|simp only [go_sem,d0])
 refine aI.intro (fun i:Nat=>⟨31,[(12,.int .i64 i),(11,.int .i64 s.length),(3,.own 0),(0,.str s)],[(0,.row 5 (.ints .u8 (aj (JM n (s.take i)))))],1⟩) (fun i=>i≤s.length) (fun i=>s.length - i) 0 ?_ (Nat.zero_le _) fun i hi=>?_
 ·refine aO.ak rfl ?_ ?_<;>simp only [go_sem,Int.natCast_succ,hz]
 by_cases hlt:i<s.length
 ·have f1:((i:Int)<(s.length:Int))=True:=eq_true (by omega)
  by_cases h49:s.getD i 0=49
  ·have f2:(((s.getD i 0).toNat:Int)=49)=True:=eq_true (by rw [h49];rfl)
   obtain ⟨p1,p2⟩:=OX hlt h49
   have hst:=Uj (n:=n) hlt h49
   have hlen:(aj (JM n (s.take i))).length=n:=by rw [eH,zN]
   have hin:i / 8<n:=by omega
   have hat:(aj (JM n (s.take i))).getD (i / 8) 0=((pk (s.take i) (i / 8):Nat):Int):=by rw [bytes_at (by rw [zN];exact hin),Ui _ hin]
   have hpl:=Ul (s.take (i+1)) (i / 8)
   have ho:=or8 (a:=pk (s.take i) (i / 8)) (t:=i%8) (Nat.mod_lt _ (by decide)) p2 (by omega)
   have hs8:=Yo (t:=i%8) (Nat.mod_lt _ (by decide))
   have d1:(i:Int).tdiv 8=((i / 8:Nat):Int):=by rw [Int.tdiv_eq_ediv_of_nonneg (by omega)];rfl
   have d2:(i:Int).tmod 8=((i%8:Nat):Int):=by rw [Int.tmod_eq_emod_of_nonneg (by omega)];rfl
   have hp128:(2:Nat) ^ (7 - i%8)≤128:=by
    have:(2:Nat) ^ (7 - i%8)≤2 ^ 7:=Nat.pow_le_pow_right (by decide) (by omega)
    exact this
   (repeat' with_reducible first|intro _|refine rz ?_|refine ra ?_ ?_|omega|simp only [go_sem,f1,f2])
   refine bC.lex [10] [] (by kernel_rfl) (by kernel_rfl) ?_
   (repeat' with_reducible first|intro _|refine rz ?_|refine ra ?_ ?_|omega|simp only [go_sem,d1,d2,hlen,hat,hs8,ho,hst])
   refine ⟨i+1,aO.ak rfl ?_ ?_,by omega,by omega⟩<;>simp only [go_sem,Int.natCast_succ]
  ·have f2:(((s.getD i 0).toNat:Int)=49)=False:=eq_false fun h=>h49 (UInt8.toNat_inj.1 (by show _=49;omega))
   have hst:=Uk (n:=n) hlt h49
   (repeat' with_reducible first|intro _|refine rz ?_|refine ra ?_ ?_|omega|simp only [go_sem,f1,f2])
   refine ⟨i+1,aO.ak rfl ?_ ?_,by omega,by omega⟩<;>simp only [go_sem,Int.natCast_succ,hst]
 ·have f1:((i:Int)<(s.length:Int))=False:=eq_false (by omega)
  have e:i=s.length:=by omega
  subst e
  rw [List.take_length]
  (repeat' with_reducible first|intro _|refine rz ?_|refine ra ?_ ?_|omega|simp only [go_sem,f1])
  refine bf.auto 1 ?_ rfl ?_<;>simp only [go_sem,Int.natCast_succ,Post]
theorem Zj {d:Bytes} {i:Nat} (h:i<8*d.length):(aj (qx d)).getD i 0=((48+(d.getD (i / 8) 0).toNat / 2 ^ (7 - i%8)%2:Nat):Int):=by
 rw [bytes_at (by unfold qx;simp;exact h)]
 unfold qx
 rw [List.getD_eq_getElem?_getD,List.getElem?_map,List.getElem?_range h]
 simp
 omega
theorem aaf {a t:Nat} (ht:t<8):mO .u8 (a:Int) (t:Int)=((a / 2 ^ t:Nat):Int):=by
 unfold mO
 have e:min (t:Int).toNat IntKind.u8.bits=t:=by show min t 8=t;omega
 rw [e,Int.fdiv_eq_ediv_of_nonneg _ (Int.le_of_lt (Int.pow_pos (by decide)))]
 rfl
theorem ZB {a:Nat} (ha:a<256):dh .and .u8 (a:Int) 1=((a%2:Nat):Int):=by
 obtain ⟨e1,e2⟩:=Ea a 1 ha (by decide)
 show IntKind.u8.wrap (((BitVec.ofInt 8 (a:Int)) &&& (BitVec.ofInt 8 ((1:Nat):Int))).toNat:Int)=_
 rw [BitVec.toNat_and,e1,e2,Nat.and_one_is_mod,nO]
 omega
set_option maxHeartbeats 4000000 in
theorem nN (d:Bytes) (hd:d.length≤1000000000):aC Tryz.prog 104 [.str d] (.str (qx d)) []:=by
 refine aC.aJ Tryz.func104 rfl (by decide) (by simp [Tryz.f104]) [.tmp 2] rfl fun w0 T0 _=>?_
 simp only [Tryz.f104,aB]
 have hup:=@Zj d
 have hul:(aj (qx d)).length=8*d.length:=by rw [eH];unfold qx;simp
 have hbk:=jM (qx d)
 have d0:8*(d.length:Int)=((8*d.length:Nat):Int):=by omega
 have hdiv:∀ i,i<8*d.length→i / 8<d.length:=fun i hi=>by omega
 obtain ⟨n,hn⟩:∃ n,8*d.length=n:=⟨_,rfl⟩
 rw [hn] at d0 hul hup hdiv
 (repeat' with_reducible first|intro _|refine rz ?_|refine ra ?_ ?_|omega|simp only [go_sem,d0])
 refine aI.intro (fun i:Nat=>⟨30,[(11,.int .i64 i),(10,.int .i64 n),(3,.own 0),(0,.str d)],[(0,.row 5 (.ints .u8 ((aj (qx d)).take i++List.replicate (n - i) 0)))],1⟩) (fun i=>i≤n) (fun i=>n - i) 0 ?_ (Nat.zero_le _) fun i hi=>?_
 ·refine aO.ak rfl ?_ ?_<;>simp only [go_sem,Int.natCast_succ]
  all_goals rfl
 have htl:((aj (qx d)).take i).length=i:=by rw [List.length_take,hul];omega
 by_cases hlt:i<n
 ·have f1:((i:Int)<(n:Int))=True:=eq_true (by omega)
  have hs:=qK (z:=0) (d:=0) hul hlt
  rw [hup hlt] at hs
  have d1:(i:Int).tdiv 8=((i / 8:Nat):Int):=by rw [Int.tdiv_eq_ediv_of_nonneg (by omega)];rfl
  have d2:(i:Int).tmod 8=((i%8:Nat):Int):=by rw [Int.tmod_eq_emod_of_nonneg (by omega)];rfl
  have d3:7 - ((i%8:Nat):Int)=((7 - i%8:Nat):Int):=by omega
  have hq:=hdiv i hlt
  have hc:(d.getD (i / 8) 0).toNat<256:=(d.getD (i / 8) 0).toNat_lt
  have h8:=aaf (a:=(d.getD (i / 8) 0).toNat) (t:=7 - i%8) (by omega)
  have hlt8:(d.getD (i / 8) 0).toNat / 2 ^ (7 - i%8)<256:=Nat.lt_of_le_of_lt (Nat.div_le_self _ _) hc
  have ha:=ZB hlt8
  have hv:(48:Int)+(((d.getD (i / 8) 0).toNat / 2 ^ (7 - i%8)%2:Nat):Int)=((48+(d.getD (i / 8) 0).toNat / 2 ^ (7 - i%8)%2:Nat):Int):=by omega
  (repeat' with_reducible first|intro _|refine rz ?_|refine ra ?_ ?_|omega|simp only [go_sem,f1,d1,d2,d3,h8,ha,hv])
  refine ⟨i+1,aO.ak rfl ?_ ?_,by omega,by omega⟩<;>simp only [go_sem,Int.natCast_succ,hs]
 ·have f1:((i:Int)<(n:Int))=False:=eq_false (by omega)
  have e:i=n:=by omega
  subst e
  have hfull:(aj (qx d)).take i=aj (qx d):=List.take_of_length_le (by omega)
  (repeat' with_reducible first|intro _|refine rz ?_|refine ra ?_ ?_|omega|simp only [go_sem,f1])
  refine bf.auto 0 ?_ rfl ?_<;>simp only [go_sem,Int.natCast_succ,Post,hfull,hbk]
def iV (p:List Bool):Bytes:=p.map fun b=>if b=true then 49 else 48
theorem jL (p:List Bool):(iV p).length=p.length:=by unfold iV;rw [List.length_map]
theorem RH {p:List Bool} {i:Nat} (h:i<p.length):(aj (iV p)).getD i 0=if p.getD i false=true then 49 else 48:=by
 rw [bytes_at (by rw [jL];exact h)]
 unfold iV
 rw [List.getD_eq_getElem?_getD,List.getElem?_map,List.getD_eq_getElem?_getD,List.getElem?_eq_getElem h]
 simp only [Option.map_some,Option.getD_some]
 split<;>rfl
set_option maxHeartbeats 4000000 in
theorem Pq (w h:Int) (p:List Bool) (hp:p.length≤1000000000):aC Tryz.prog 153 [.agg [.int .i64 w,.int .i64 h,.ro (.bools p)]] (.str (iV p)) []:=by
 refine aC.aJ Tryz.func153 rfl (by decide) (by simp [Tryz.f153]) [.tmp 2] rfl fun w0 T0 _=>?_
 simp only [Tryz.f153,aB]
 have hat:=@RH p
 have hul:(aj (iV p)).length=p.length:=by rw [eH,jL]
 have hbk:=jM (iV p)
 (repeat' with_reducible first|intro _|exact dn|refine rn ?_|refine ra ?_ ?_)
 refine aI.intro (fun i:Nat=>⟨28,[(13,.int .i64 i),(12,.int .i64 p.length),(11,.ro (.bools p)),(3,.own 1),(1,.ptr 0 0)],[(0,.box 24 [.int .i64 w,.int .i64 h,.ro (.bools p)]),(1,.row 5 (.ints .u8 ((aj (iV p)).take i++List.replicate (p.length - i) 0)))],2⟩) (fun i=>i≤p.length) (fun i=>p.length - i) 0 ?_ (Nat.zero_le _) fun i hi=>?_
 ·refine aO.ak rfl ?_ ?_<;>simp only [go_sem,Int.natCast_succ]
  all_goals rfl
 have htl:((aj (iV p)).take i).length=i:=by rw [List.length_take,hul];omega
 by_cases hlt:i<p.length
 ·have f1:((i:Int)<(p.length:Int))=True:=eq_true (by omega)
  have hs:=qK (z:=0) (d:=0) hul hlt
  rw [hat hlt] at hs
  cases hb:p.getD i false with
  | true=>
   rw [hb,if_pos rfl] at hs
   (repeat' with_reducible first|intro _|refine rz ?_|refine ra ?_ ?_|omega|simp only [go_sem,f1,htl,hb,List.set_set])
   refine ⟨i+1,aO.ak rfl ?_ ?_,by omega,by omega⟩<;>simp only [go_sem,Int.natCast_succ,hs]
  | false=>
   rw [hb,if_neg (by decide)] at hs
   (repeat' with_reducible first|intro _|refine rz ?_|refine ra ?_ ?_|omega|simp only [go_sem,f1,htl,hb])
   refine ⟨i+1,aO.ak rfl ?_ ?_,by omega,by omega⟩<;>simp only [go_sem,Int.natCast_succ,hs]
 ·have f1:((i:Int)<(p.length:Int))=False:=eq_false (by omega)
  have e:i=p.length:=by omega
  subst e
  have hfull:(aj (iV p)).take p.length=aj (iV p):=List.take_of_length_le (by omega)
  (repeat' with_reducible first|intro _|refine rz ?_|refine ra ?_ ?_|omega|simp only [go_sem,f1])
  refine bf.auto 0 ?_ rfl ?_<;>simp only [go_sem,Int.natCast_succ,Post,hfull,hbk]
end Go.Fv.H
/- Runs of a row: the walk. -/
namespace Go.Fv.H
open Go Go.Proofs
def kQ (out:List Int) (ink:Bool) (i:Nat) (p:Bool):List Int × Bool:=
 let out:=if i=0 then out++[0] else out
 let out:=if p=ink then out else out++[0]
 (out.set (out.length - 1) (out.getD (out.length - 1) 0+1),p)
def bP (row:List Bool):Nat→List Int × Bool
 | 0=>([],false)
 | i+1=>kQ (bP row i).1 (bP row i).2 i (row.getD i false)
theorem uN (row:List Bool):∀ i,(bP row i).1.length≤i+1∧(0<i→0<(bP row i).1.length)∧∀ x,x∈(bP row i).1→0≤x∧x≤i
 | 0=>by simp [bP]
 | i+1=>by
  obtain ⟨h1,h2,h3⟩:=uN row i
  simp only [bP,kQ]
  generalize hl:(if row.getD i false=(bP row i).2 then (if i=0 then (bP row i).1++[0] else (bP row i).1) else (if i=0 then (bP row i).1++[0] else (bP row i).1)++[0])=l
  have a:l.length≤i+2∧0<l.length∧∀ x,x∈l→0≤x∧x≤i:=by
   subst hl
   by_cases e:i=0
   ·subst e
    have z:(bP row 0).1=[]:=rfl
    simp only [z,if_true]
    split
    ·simp
    ·simp
   ·have:=h2 (by omega)
    simp only [if_neg e]
    split
    ·exact ⟨by omega,by omega,h3⟩
    ·simp only [List.length_append,List.length_cons,List.length_nil,List.mem_append,List.mem_singleton]
     refine ⟨by omega,by omega,?_⟩
     rintro x (hx|hx)
     ·exact h3 x hx
     ·omega
  obtain ⟨a1,a2,a3⟩:=a
  have hb:=Ov a3 (Int.le_refl 0) (by omega) (l.length - 1)
  refine ⟨by simp;omega,by simp;omega,fun x hx=>?_⟩
  rcases List.mem_or_eq_of_mem_set hx with hx|hx
  ·have:=a3 x hx;omega
  ·omega
set_option maxHeartbeats 4000000 in
theorem WS (row:List Bool) (h:row.length≤4000):aC Tryz.prog 155 [.ro (.bools row)] (.own 0) [(0,.row 3 (.ints .i64 (bP row row.length).1))]:=by
 refine aC.aJ Tryz.func155 rfl (by decide) (by simp [Tryz.f155]) [.tmp 2] rfl fun w0 T0 _=>?_
 simp only [Tryz.f155,aB]
 (repeat' with_reducible first|intro _|exact dn|refine rn ?_|refine ra ?_ ?_)
 refine aI.intro (fun i:Nat=>⟨36,[(7,.ro (.bools row)),(8,.int .i64 row.length),(9,.int .i64 i),(3,.own 0),(4,.bool (bP row i).2)],[(0,.row 3 (.ints .i64 (bP row i).1))],1⟩) (fun i=>i≤row.length) (fun i=>row.length - i) 0 ?_ (Nat.zero_le _) fun i hi=>?_
 ·refine aO.ak rfl ?_ ?_<;>simp only [go_sem,Int.natCast_succ,bP]
 obtain ⟨k1,k2,k3⟩:=uN row i
 by_cases hlt:i<row.length
 rotate_left
 ·have f1:((i:Int)<(row.length:Int))=False:=eq_false (by omega)
  have e:i=row.length:=by omega
  subst e
  (repeat' with_reducible first|intro _|refine rz ?_|refine ra ?_ ?_|omega|simp only [go_sem,f1])
  refine bf.auto 1 ?_ rfl ?_<;>simp only [go_sem,Int.natCast_succ,Post]
 have f1:((i:Int)<(row.length:Int))=True:=eq_true (by omega)
 have hnx:bP row (i+1)=kQ (bP row i).1 (bP row i).2 i (row.getD i false):=rfl
 by_cases h0:i=0
 ·subst h0
  have z:bP row 0=([],false):=rfl
  have g1:([0]:List Int).getD 0 0=0:=rfl
  have g2:([0,0]:List Int).getD 1 0=0:=rfl
  rw [z] at hnx ⊢
  cases hp:row.getD 0 false with
  | true=>
   rw [hp] at hnx
   have hnx:bP row 1=([0,1],true):=hnx
   (repeat' with_reducible first|intro _|refine rz ?_|refine ra ?_ ?_|omega|simp only [go_sem,f1,hp,g1,g2,Int.natCast_zero])
   refine ⟨1,aO.ak rfl ?_ ?_,by omega,by omega⟩<;>simp only [go_sem,Int.natCast_succ,hnx]
   all_goals first|rfl|omega
  | false=>
   rw [hp] at hnx
   have hnx:bP row 1=([1],false):=hnx
   (repeat' with_reducible first|intro _|refine rz ?_|refine ra ?_ ?_|omega|simp only [go_sem,f1,hp,g1,g2,Int.natCast_zero])
   refine ⟨1,aO.ak rfl ?_ ?_,by omega,by omega⟩<;>simp only [go_sem,Int.natCast_succ,hnx]
   all_goals first|rfl|omega
 have f0:((i:Int)=0)=False:=eq_false (by omega)
 have hl:=k2 (by omega)
 generalize hs:bP row i=st at *
 obtain ⟨l,ink⟩:=st
 dsimp only at *
 have hb:=Ov (l:=l) (B:=i) k3 (Int.le_refl 0) (by omega) (l.length - 1)
 have hix:((l.length:Int) - 1).toNat=l.length - 1:=by omega
 by_cases hp:row.getD i false=ink
 ·have hnx:bP row (i+1)=(l.set (l.length - 1) (l.getD (l.length - 1) 0+1),row.getD i false):=by rw [hnx];unfold kQ;rw [if_neg h0];dsimp only;rw [if_pos hp]
  have hp2:(¬row.getD i false=ink)=False:=eq_false fun q=>q hp
  (repeat' with_reducible first|intro _|refine rz ?_|refine ra ?_ ?_|omega|simp only [go_sem,f1,f0,hp,hix])
  refine ⟨i+1,aO.ak rfl ?_ ?_,by omega,by omega⟩<;>simp only [go_sem,Int.natCast_succ,hnx,hp]
 ·have hnx:bP row (i+1)=((l++[0]).set l.length 1,row.getD i false):=by
   rw [hnx];unfold kQ;rw [if_neg h0];dsimp only;rw [if_neg hp]
   have e1:(l++[(0:Int)]).length - 1=l.length:=by simp
   have e2:(l++[(0:Int)]).getD l.length 0=0:=by simp [List.getD]
   rw [e1,e2];rfl
  have hix2:((l.length+1:Nat):Int) - 1=(l.length:Int):=by omega
  have e2:(l++[(0:Int)]).getD l.length 0=0:=by simp [List.getD]
  (repeat' with_reducible first|intro _|refine rz ?_|refine ra ?_ ?_|omega|simp only [go_sem,f1,f0,hp,hix2,Int.toNat_natCast,e2])
  refine ⟨i+1,aO.ak rfl ?_ ?_,by omega,by omega⟩<;>simp only [go_sem,Int.natCast_succ,hnx]
end Go.Fv.H
/- Rows coded by the row above, in plain words. -/
namespace Go.Fv.H
open Go
def OY (r:List Bool) (i:Nat):Bool:=if i=0 then false else r.getD (i - 1) false
def dQ (r:List Bool) (i:Nat):Nat:=if h:i<r.length then (if r.getD i false=OY r i then dQ r (i+1) else i) else r.length
termination_by r.length - i
def gy (r:List Bool) (i:Nat) (c:Bool):Nat:=if dQ r i<r.length∧r.getD (dQ r i) false≠c then dQ r (dQ r i+1) else dQ r i
theorem Am {r:List Bool} {i:Nat} (h:i<r.length):dQ r i=if r.getD i false=OY r i then dQ r (i+1) else i:=by rw [dQ,dif_pos h]
theorem iP {r:List Bool} {i:Nat} (h:¬i<r.length):dQ r i=r.length:=by rw [dQ,dif_neg h]
theorem jC (r:List Bool) (i:Nat):OY r (i+1)=r.getD i false:=by unfold OY;rw [if_neg (by omega)];rfl
theorem gU (r:List Bool) (i:Nat):dQ r i≤r.length:=by
 by_cases h:i<r.length
 ·rw [Am h]
  split
  ·exact gU r (i+1)
  ·omega
 ·rw [iP h];exact Nat.le_refl _
termination_by r.length - i
theorem jl {r:List Bool} {i:Nat} (hi:i≤r.length):i≤dQ r i:=by
 by_cases h:i<r.length
 ·rw [Am h]
  split
  ·have:=jl (r:=r) (i:=i+1) (by omega);omega
  ·omega
 ·rw [iP h];omega
termination_by r.length - i
theorem Ap {r:List Bool} {i j:Nat} (h1:i≤j) (h2:j<dQ r i):r.getD j false=OY r i:=by
 by_cases h:i<r.length
 ·rw [Am h] at h2
  split at h2
  ·rename_i he
   by_cases e:j=i
   ·subst e;exact he
   ·have:=Ap (r:=r) (i:=i+1) (j:=j) (by omega) h2
    rw [this,jC,he]
  ·omega
 ·rw [iP h] at h2;omega
termination_by r.length - i
theorem nZ {r:List Bool} {i:Nat} (h2:dQ r i<r.length):r.getD (dQ r i) false=!OY r i:=by
 by_cases h:i<r.length
 ·rw [Am h] at h2 ⊢
  split
  ·rename_i he
   rw [if_pos he] at h2
   rw [nZ h2,jC,he]
  ·rename_i he
   generalize r.getD i false=a at he ⊢
   generalize OY r i=b at he ⊢
   cases a<;>cases b<;>simp_all
 ·rw [iP h] at h2;omega
termination_by r.length - i
theorem vM {r:List Bool} {i:Nat} (hi:i≤r.length) (c:Bool):i≤gy r i c∧gy r i c≤r.length:=by
 unfold gy
 have h1:=jl hi
 have h2:=gU r i
 split
 ·rename_i h
  have h3:=jl (r:=r) (i:=dQ r i+1) (by omega)
  exact ⟨by omega,gU _ _⟩
 ·exact ⟨h1,h2⟩
def gZ:Bytes:=[48,48,48,49]
def fP:Bytes:=[48,48,49]
def aQ:List Bytes:=[[48,48,48,48,48,49,48],[48,48,48,48,49,48],[48,49,48],[49],[48,49,49],[48,48,48,48,49,49],[48,48,48,48,48,49,49]]
structure LSt where
 c:Bytes
 p:Nat
 k:Bool
def bK (row above:List Bool) (p:Nat) (ink:Bool):LSt:=
 if dQ above (gy above p (!ink)+1)<dQ row p then ⟨gZ,dQ above (gy above p (!ink)+1)+1,ink⟩
 else if dQ row p≤gy above p (!ink)+3∧gy above p (!ink)≤dQ row p+3 then ⟨aQ.getD (dQ row p+3 - gy above p (!ink)) [],dQ row p+1,!ink⟩
 else ⟨fP++(gq (dQ row p - (p - 1)+1)++gq (dQ row (dQ row p+1) - dQ row p+1)),dQ row (dQ row p+1)+1,ink⟩
theorem jR {row above:List Bool} (hw:above.length=row.length) {p:Nat} (hp:p≤row.length) (ink:Bool):p<(bK row above p ink).p∧(bK row above p ink).p≤row.length+1:=by
 have h1:=jl hp
 have h2:=gU row p
 obtain ⟨b1,b2⟩:=vM (r:=above) (i:=p) (by omega) (!ink)
 have b3:=gU above (gy above p (!ink)+1)
 unfold bK
 split
 ·dsimp only
  by_cases h:gy above p (!ink)<above.length
  ·have:=jl (r:=above) (i:=gy above p (!ink)+1) (by omega);omega
  ·rw [iP (r:=above) (i:=gy above p (!ink)+1) (by omega)];omega
 ·split
  ·dsimp only;omega
  ·dsimp only
   have h3:=gU row (dQ row p+1)
   by_cases h:dQ row p<row.length
   ·have:=jl (r:=row) (i:=dQ row p+1) (by omega);omega
   ·rw [iP (r:=row) (i:=dQ row p+1) (by omega)];omega
def kU (row above:List Bool) (p:Nat) (ink:Bool):Bytes:=
 if h:p≤row.length then
  if h2:p<(bK row above p ink).p then (bK row above p ink).c++kU row above (bK row above p ink).p (bK row above p ink).k else []
 else []
termination_by row.length+1 - p
theorem lS {row above:List Bool} (hw:above.length=row.length) {p:Nat} (hp:p≤row.length) (ink:Bool):kU row above p ink=(bK row above p ink).c++kU row above (bK row above p ink).p (bK row above p ink).k:=by
 conv=>lhs;rw [kU]
 rw [dif_pos hp,dif_pos (jR hw hp ink).1]
theorem jv {row above:List Bool} {p:Nat} (hp:¬p≤row.length) (ink:Bool):kU row above p ink=[]:=by rw [kU,dif_neg hp]
def dZ (row above:List Bool):Bytes:=if row.length=0 then [] else kU row above 0 false
def codeOf (s:Bytes):Nat:=
 if gZ.isPrefixOf s=true then 0
 else if (aQ.getD 0 []).isPrefixOf s=true then 1
 else if (aQ.getD 1 []).isPrefixOf s=true then 2
 else if (aQ.getD 2 []).isPrefixOf s=true then 3
 else if (aQ.getD 3 []).isPrefixOf s=true then 4
 else if (aQ.getD 4 []).isPrefixOf s=true then 5
 else if (aQ.getD 5 []).isPrefixOf s=true then 6
 else if (aQ.getD 6 []).isPrefixOf s=true then 7
 else if fP.isPrefixOf s=true then 8 else 9
theorem IU (r:Bytes):codeOf (gZ++r)=0:=by rfl
theorem Ll (r:Bytes):codeOf (fP++r)=8:=by rfl
theorem IQ (k:Nat) (h:k≤6) (r:Bytes):codeOf (aQ.getD k []++r)=k+1:=by
 have:k=0∨k=1∨k=2∨k=3∨k=4∨k=5∨k=6:=by omega
 rcases this with rfl|rfl|rfl|rfl|rfl|rfl|rfl<;>rfl
structure XD where
 p:Nat
 k:Bool
 px:List Bool
 n:Nat
def yR (strict:Bool) (w:Nat) (s:Bytes) (p:Nat) (ink:Bool):Option XD:=
 match oM (s.drop 3) with
 | none=>none
 | some (m1,l1)=>match oM (s.drop (3+l1)) with
  | none=>none
  | some (m2,l2)=>
   if (strict=true→p≤p - 1+(m1 - 1))∧p - 1+(m1 - 1)+(m2 - 1)≤w∧p≤p - 1+(m1 - 1)+(m2 - 1) then
    some ⟨p - 1+(m1 - 1)+(m2 - 1)+1,ink,List.replicate (m1 - 1) ink++List.replicate (m2 - 1) (!ink),3+l1+l2⟩
   else none
def rdStep (strict:Bool) (above:List Bool) (s:Bytes) (p:Nat) (ink:Bool):Option XD:=
 if codeOf s=0 then some ⟨dQ above (gy above p (!ink)+1)+1,ink,List.replicate (dQ above (gy above p (!ink)+1) - (p - 1)) ink,4⟩
 else if codeOf s≤7 then
  (if p+4≤gy above p (!ink)+codeOf s∧gy above p (!ink)+codeOf s≤above.length+4 then
   some ⟨gy above p (!ink)+codeOf s - 4+1,!ink,List.replicate (gy above p (!ink)+codeOf s - 4 - (p - 1)) ink,(aQ.getD (codeOf s - 1) []).length⟩ else none)
 else if codeOf s=8 then yR strict above.length s p ink
 else none
end Go.Fv.H
