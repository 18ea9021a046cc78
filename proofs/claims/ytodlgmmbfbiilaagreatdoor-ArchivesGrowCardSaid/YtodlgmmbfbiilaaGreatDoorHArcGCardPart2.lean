/-
  A part of the proof of the claim: walks over the program's functions and the plain laws that these need. No condition of its own.
-/
import Derived.Test.YtodlgmmbfbiilaaGreatDoorHArcGCardPart1
import Derived.Test.YtodlgmmbfbiilaaGreatDoorFvPart10
set_option linter.unusedSimpArgs false
set_option linter.unusedVariables false
set_option linter.unnecessarySimpa false
set_option maxRecDepth 8000
/- Archives, in plain words: how they are made and read. -/
namespace Go.Fv.H
open Go Go.Proofs
theorem Yy {a b:Bytes} {n:Nat} (h:a.length=n):(a++b).take n=a:=by rw [←h,List.take_left]
structure Tk where
 (t:Bytes) (a:Nat) (sh:Bool)
def tk (s:Bytes) (a:Nat) (sh:Bool) (n:Nat):Tk:=
 if sh=true∨s.length<a+n then ⟨[],a,true⟩ else ⟨(s.drop a).take n,a+n,false⟩
theorem Bh (s:Bytes) (a:Nat) (sh:Bool) (n:Nat):(tk s a sh n).t.length≤n:=by
 unfold tk;split
 ·exact Nat.zero_le _
 ·rw [List.length_take];exact Nat.min_le_left _ _
theorem RH {s:Bytes} {a:Nat} (sh:Bool) (n:Nat) (h:a≤s.length):a≤(tk s a sh n).a∧(tk s a sh n).a≤s.length:=by
 unfold tk;split
 ·exact ⟨Nat.le_refl _,h⟩
 ·rename_i h2
  have:=(not_or.1 h2).2
  exact ⟨Nat.le_add_right _ _,by dsimp only;omega⟩
theorem IX (s:Bytes) (a n:Nat):(tk s a true n)=⟨[],a,true⟩:=by unfold tk;rw [if_pos (.inl rfl)]
theorem RJ {s:Bytes} {a n:Nat} {x t:Bytes} (ha:a≤s.length) (hs:s.drop a=x++t) (hn:x.length=n):tk s a false n=⟨x,a+n,false⟩∧s.drop (a+n)=t:=by
 have hl:(s.drop a).length=x.length+t.length:=by rw [hs,List.length_append]
 rw [List.length_drop] at hl
 constructor
 ·unfold tk
  by_cases h0:n=0
  ·have hx:x=[]:=List.eq_nil_of_length_eq_zero (by omega)
   subst hx
   rw [if_neg (by simp;omega),h0];simp
  ·rw [if_neg (by simp;omega),hs,←hn,List.take_left]
 ·rw [←List.drop_drop,hs,←hn,List.drop_left]
structure Wh where
 (n:Bytes) (k a:Nat) (sh:Bool)
def xQ (s:Bytes) (a:Nat) (sh:Bool):Wh:=
 let x:=tk s a sh 1
 let y:=tk s x.a x.sh (bY x.t)
 let z:=tk s y.a y.sh 4
 ⟨y.t,bY z.t,z.a,z.sh⟩
structure LS where
 (l:List (Bytes × Nat)) (a:Nat) (sh:Bool)
def ls (s:Bytes):Nat→LS
 | 0=>⟨[],6,false⟩
 | i+1=>⟨(ls s i).l++[((xQ s (ls s i).a (ls s i).sh).n,(xQ s (ls s i).a (ls s i).sh).k)],(xQ s (ls s i).a (ls s i).sh).a,(xQ s (ls s i).a (ls s i).sh).sh⟩
theorem num1 {s:Bytes} (h:s.length≤1):bY s<256:=by
 have:=vH s
 have:256 ^ s.length≤256 ^ 1:=Nat.pow_le_pow_right (by decide) h
 omega
theorem Vw {s:Bytes} (h:s.length≤2):bY s<65536:=by
 have:=vH s
 have:256 ^ s.length≤256 ^ 2:=Nat.pow_le_pow_right (by decide) h
 omega
theorem WO {s:Bytes} (h:s.length≤4):bY s<4294967296:=by
 have:=vH s
 have:256 ^ s.length≤256 ^ 4:=Nat.pow_le_pow_right (by decide) h
 omega
structure Wh.Ok (s:Bytes) (a:Nat) (e:Wh):Prop where
 n:e.n.length<256
 k:e.k<4294967296
 a0:a≤e.a
 a1:e.a≤s.length
theorem Py {s:Bytes} {a:Nat} (sh:Bool) (h:a≤s.length):Wh.Ok s a (xQ s a sh):=by
 have h1:=RH sh 1 h
 have h2:=RH (tk s a sh 1).sh (bY (tk s a sh 1).t) h1.2
 have h3:=RH (tk s (tk s a sh 1).a (tk s a sh 1).sh (bY (tk s a sh 1).t)).sh 4 h2.2
 have n1:=num1 (Bh s a sh 1)
 refine ⟨Nat.lt_of_le_of_lt (Bh _ _ _ _) n1,WO (Bh _ _ _ _),?_,h3.2⟩
 exact Nat.le_trans h1.1 (Nat.le_trans h2.1 h3.1)
theorem Vj (s:Bytes) (a:Nat):(xQ s a true).sh=true:=by unfold xQ;simp only [IX]
def dG (l:List (Bytes × Nat)):Nat:=(l.map (·.2)).sum
theorem xA (l:List (Bytes × Nat)) (x:Bytes × Nat):dG (l++[x])=dG l+x.2:=by unfold dG;simp
structure LS.Ok (s:Bytes) (i:Nat) (q:LS):Prop where
 len:q.l.length=i
 k:dG q.l≤i*4294967296
 a0:6≤q.a
 a1:q.a≤s.length
theorem MH {s:Bytes} (h:6≤s.length):∀ i,LS.Ok s i (ls s i)
 | 0=>⟨rfl,Nat.zero_le _,Nat.le_refl _,h⟩
 | i+1=>by
  have ih:=MH h i
  have e:=Py (ls s i).sh ih.a1
  refine ⟨?_,?_,Nat.le_trans ih.a0 e.a0,e.a1⟩
  ·show (_++[_]).length=_
   rw [List.length_append,ih.len];rfl
  ·show dG (_++[_])≤_
   rw [xA]
   have:=e.k
   have:=ih.k
   dsimp only
   omega
theorem Qe {s:Bytes} {i:Nat} (h:(ls s i).sh=true):∀ j,(ls s (i+j)).sh=true
 | 0=>h
 | j+1=>by
  have ih:=Qe h j
  show (xQ s (ls s (i+j)).a (ls s (i+j)).sh).sh=true
  rw [ih,Vj]
structure En where
 (n:Bytes) (a k:Nat)
def En.av (x:En):List AV:=[.str x.n,.int .i64 x.a,.int .i64 x.k]
def En.zero:En:=⟨[],0,0⟩
abbrev Jd (l:List En):aG:=.objs 3 (l.map En.av)
instance:CW En.av:=⟨fun _=>rfl⟩
theorem qW (l:List En) {i:Nat} (h:i<l.length):(l.map En.av).getD i []=[.str (l.getD i En.zero).n,.int .i64 (l.getD i En.zero).a,.int .i64 (l.getD i En.zero).k]:=by
 simp [List.getD_eq_getElem?_getD,h,En.av]
def dV:List (Bytes × Nat)→Nat→List En
 | [],_=>[]
 | x::l,a=>⟨x.1,a,x.2⟩::dV l (a+x.2)
theorem dN:∀ (l:List (Bytes × Nat)) (a:Nat),(dV l a).length=l.length
 | [],_=>rfl
 | x::l,a=>by simp [dV,dN l]
theorem Df (x:Bytes × Nat):∀ (l:List (Bytes × Nat)) (a:Nat),dV (l++[x]) a=dV l a++[⟨x.1,a+dG l,x.2⟩]
 | [],a=>rfl
 | y::l,a=>by
  show _::dV (l++[x]) (a+y.2)=_::_
  rw [Df x l]
  have e:a+y.2+dG l=a+dG (y::l):=by unfold dG;simp;omega
  rw [e];rfl
theorem LD (d:Nat):∀ (l:List (Bytes × Nat)) (a:Nat) (i:Nat),i<l.length →
  (dV l (a+d)).getD i En.zero=⟨((dV l a).getD i En.zero).n,((dV l a).getD i En.zero).a+d,((dV l a).getD i En.zero).k⟩
 | x::l,a,0,_=>rfl
 | x::l,a,i+1,h=>by
  have e:a+d+x.2=a+x.2+d:=by omega
  show (dV l (a+d+x.2)).getD i En.zero=_
  rw [e]
  exact LD d l (a+x.2) i (by simpa using h)
theorem qV:∀ (l:List (Bytes × Nat)) (a:Nat),(dV l a).map En.n=l.map Prod.fst
 | [],_=>rfl
 | x::l,a=>by simp [dV,qV l]
theorem EF:∀ (l:List (Bytes × Nat)) (a:Nat) (x:En),x∈dV l a→a≤x.a∧x.a+x.k≤a+dG l
 | y::l,a,x,h=>by
  have hs:dG (y::l)=y.2+dG l:=by unfold dG;simp
  rcases List.mem_cons.1 h with rfl|h
  ·dsimp only;omega
  ·have:=EF l (a+y.2) x h
   omega
def rX (l:List Bytes):Nat→Int
 | 0=>0
 | i+1=>if rX l i≠0 then rX l i else if dJ (l.getD i [])=true then (if l.getD i []∈l.take i then 6 else 0) else 5
theorem Qs {l:List Bytes} {i:Nat} (h:rX l i≠0):∀ j,rX l (i+j)=rX l i
 | 0=>rfl
 | j+1=>by
  have ih:=Qs h j
  show (if rX l (i+j)≠0 then rX l (i+j) else _)=_
  rw [ih,if_pos h]
theorem JU {l:List Bytes} {i n:Nat} (h:rX l i≠0) (hn:i≤n):rX l n=rX l i:=by
 have:=Qs h (n - i)
 rwa [show i+(n - i)=n by omega] at this
theorem Ig {l:List Bytes} (hn:∀ x,x∈l→dJ x=true) (hd:l.Nodup):∀ i,i≤l.length→rX l i=0
 | 0,_=>rfl
 | i+1,h=>by
  have hi:i<l.length:=by omega
  have e:l.getD i []=l[i]:=by simp [List.getD_eq_getElem?_getD,hi]
  have hni:l[i]∉l.take i:=by
   intro hm
   have hd2:=hd
   rw [←List.take_append_drop i l,List.nodup_append] at hd2
   exact hd2.2.2 _ hm l[i] (by rw [List.drop_eq_getElem_cons hi];exact List.mem_cons_self) rfl
  show (if rX l i≠0 then rX l i else _)=0
  rw [Ig hn hd i (by omega),if_neg (by simp),e,if_pos (hn _ (List.getElem_mem hi)),if_neg hni]
def qp:Bytes:=[70,66,65,49]
def UF (s:Bytes):Nat:=bY ((s.drop 4).take 2)
def qo (s:Bytes):LS:=ls s (UF s)
def bF (s:Bytes):List En × Int:=
 if 4194304<s.length then ([],4)
 else if s.length<6∨s.take 4≠qp then ([],8)
 else if (qo s).sh=true then ([],8)
 else if (qo s).a+dG (qo s).l+8≠s.length then ([],8)
 else if jc (s.take (qo s).a)≠s.drop ((qo s).a+dG (qo s).l) then ([],14)
 else if rX ((qo s).l.map Prod.fst) (qo s).l.length≠0 then ([],rX ((qo s).l.map Prod.fst) (qo s).l.length)
 else (dV (qo s).l (qo s).a,0)
structure Ep (s:Bytes):Prop where
 len:s.length≤4194304
 six:6≤s.length
 mag:s.take 4=qp
 sh:(qo s).sh=false
 sum:(qo s).a+dG (qo s).l+8=s.length
 chk:jc (s.take (qo s).a)=s.drop ((qo s).a+dG (qo s).l)
 nm:rX ((qo s).l.map Prod.fst) (qo s).l.length=0
theorem jL {s:Bytes} (h:Ep s):bF s=(dV (qo s).l (qo s).a,0):=by
 obtain ⟨h1,h2,h3,h4,h5,h6,h7⟩:=h
 unfold bF
 rw [if_neg (by omega),if_neg (by rw [h3];simp;omega),if_neg (by rw [h4];decide),if_neg (by omega),if_neg (fun h=>h h6),if_neg (fun h=>h h7)]
theorem uX {s:Bytes} (h:(bF s).2=0):Ep s:=by
 unfold bF at h
 split at h
 ·cases h
 ·split at h
  ·cases h
  ·split at h
   ·cases h
   ·split at h
    ·cases h
    ·split at h
     ·cases h
     ·split at h
      ·rename_i h7;exact absurd h h7
      ·rename_i h1 h2 h3 h4 h5 h6
       have h2:=not_or.1 h2
       exact ⟨by omega,by omega,Classical.not_not.1 h2.2,by simpa using h3,by omega,Classical.not_not.1 h5,Classical.not_not.1 h6⟩
theorem Hy {s:Bytes} (h:(bF s).2≠0):(bF s).1=[]:=by
 by_cases h0:Ep s
 ·exact absurd (by rw [jL h0]) h
 ·unfold bF
  split
  ·rfl
  ·split
   ·rfl
   ·split
    ·rfl
    ·split
     ·rfl
     ·split
      ·rfl
      ·split
       ·rfl
       ·rename_i h1 h2 h3 h4 h5 h6
        exfalso
        apply h0
        have h2:=not_or.1 h2
        exact ⟨by omega,by omega,Classical.not_not.1 h2.2,by simpa using h3,by omega,Classical.not_not.1 h5,Classical.not_not.1 h6⟩
theorem Aj {s:Bytes} {x:En} (h:x∈(bF s).1):x.a+x.k+8≤s.length∧s.length≤4194304:=by
 by_cases h0:(bF s).2=0
 ·have k:=uX h0
  rw [jL k] at h
  have:=EF _ _ _ h
  have:=k.sum
  have:=k.len
  omega
 ·rw [Hy h0] at h;cases h
theorem wQ (s:Bytes):(bF s).1.length≤65535:=by
 by_cases h0:(bF s).2=0
 ·have k:=uX h0
  rw [jL k]
  dsimp only
  rw [dN]
  have:=(MH k.six (UF s)).len
  show (ls s (UF s)).l.length≤_
  rw [this]
  have:=Vw (s:=(s.drop 4).take 2) (List.length_take_le _ _)
  unfold UF;omega
 ·rw [Hy h0];exact Nat.zero_le _
def jJ (x:Bytes × Bytes):Bytes:=bP 1 x.1.length++(x.1++bP 4 x.2.length)
def hdB (l:List (Bytes × Bytes)):Bytes:=qp++(bP 2 l.length++l.flatMap jJ)
def dL (l:List (Bytes × Bytes)):Bytes:=l.flatMap Prod.snd
def iR (l:List (Bytes × Bytes)):Bytes:=hdB l++(dL l++jc (hdB l))
theorem GV (x:Bytes × Bytes):(jJ x).length=5+x.1.length:=by unfold jJ;simp only [List.length_append,aS];omega
theorem LZ (l:List (Bytes × Bytes)):(hdB l).length=6+(l.flatMap jJ).length:=by unfold hdB;simp only [List.length_append,aS];show 4+_=_;omega
theorem zF (l:List (Bytes × Bytes)):(iR l).length=(hdB l).length+(dL l).length+8:=by unfold iR;simp only [List.length_append,mJ];omega
theorem wH (l:List (Bytes × Bytes)) (x:Bytes × Bytes):dL (l++[x])=dL l++x.2:=by unfold dL;simp
theorem Gu (l:List (Bytes × Bytes)):(dL l).length=dG (l.map fun x=>(x.1,x.2.length)):=by
 unfold dL dG
 rw [List.length_flatMap,List.map_map];rfl
theorem Tj {s:Bytes} {a:Nat} {x:Bytes × Bytes} {t:Bytes} (ha:a≤s.length) (hs:s.drop a=jJ x++t) (hn:x.1.length<256) (hk:x.2.length<4294967296) :
  xQ s a false=⟨x.1,x.2.length,a+(jJ x).length,false⟩∧s.drop (a+(jJ x).length)=t:=by
 unfold jJ at hs
 rw [List.append_assoc,List.append_assoc] at hs
 have hll:=congrArg List.length hs
 simp only [List.length_append,List.length_drop,aS] at hll
 obtain ⟨t1,d1⟩:=RJ ha hs (aS _ _)
 obtain ⟨t2,d2⟩:=RJ (by omega) d1 rfl
 obtain ⟨t3,d3⟩:=RJ (by omega) d2 (aS _ _)
 have n1:bY (bP 1 x.1.length)=x.1.length:=by rw [y9,Nat.mod_eq_of_lt (by omega)]
 have n3:bY (bP 4 x.2.length)=x.2.length:=by rw [y9,Nat.mod_eq_of_lt (by omega)]
 have hl:=GV x
 have ha:a+(jJ x).length=a+1+x.1.length+4:=by omega
 rw [ha]
 refine ⟨?_,d3⟩
 unfold xQ
 simp only [t1,n1,t2,t3,n3]
structure KU (l:List (Bytes × Bytes)):Prop where
 many:l.length≤65535
 name:∀ x,x∈l→dJ x.1=true
 nodup:(l.map Prod.fst).Nodup
 long:(iR l).length≤4194304
theorem lZ {n:Bytes} (h:dJ n=true):1≤n.length∧n.length≤40:=by
 unfold dJ at h
 simp only [Bool.and_eq_true,decide_eq_true_eq] at h
 obtain ⟨⟨⟨h1,h2⟩,_⟩,_⟩:=h
 have:=List.length_pos_iff.2 h1
 omega
theorem SV {l:List (Bytes × Bytes)} {x:Bytes × Bytes} (h:x∈l):x.2.length≤(dL l).length:=by
 unfold dL
 induction l with
 | nil=>cases h
 | cons y l ih=>
  rw [List.flatMap_cons,List.length_append]
  rcases List.mem_cons.1 h with rfl|h
  ·omega
  ·have:=ih h;omega
theorem Qd {l:List (Bytes × Bytes)} (h:KU l) (T:Bytes):∀ i,i≤l.length →
  ls (hdB l++T) i=⟨(l.take i).map (fun x=>(x.1,x.2.length)),6+((l.take i).flatMap jJ).length,false⟩∧(hdB l++T).drop (6+((l.take i).flatMap jJ).length)=(l.drop i).flatMap jJ++T
 | 0,_=>by
  refine ⟨rfl,?_⟩
  unfold hdB
  have e:(qp++(bP 2 l.length++l.flatMap jJ)++T)=(qp++bP 2 l.length)++(l.flatMap jJ++T):=by simp only [List.append_assoc]
  have hl:(qp++bP 2 l.length).length=6:=by rw [List.length_append,aS];rfl
  rw [e]
  show List.drop 6 _=_
  rw [←hl,List.drop_left];rfl
 | i+1,hi=>by
  obtain ⟨h1,h2⟩:=Qd h T i (by omega)
  have hil:i<l.length:=by omega
  have hx:l[i]∈l:=List.getElem_mem hil
  have hsp:(l.drop i).flatMap jJ=jJ l[i]++(l.drop (i+1)).flatMap jJ:=by
   rw [List.drop_eq_getElem_cons hil,List.flatMap_cons]
  rw [hsp,List.append_assoc] at h2
  have hnl:=lZ (h.name _ hx)
  have hcl:=SV hx
  have hal:=zF l
  have hall:=h.long
  have hdl:=congrArg List.length h2
  have hel:=GV l[i]
  simp only [List.length_append,List.length_drop,hel] at hdl
  obtain ⟨e,d⟩:=Tj (by simp only [List.length_append];omega) h2 (by omega) (by omega)
  have htk:l.take (i+1)=l.take i++[l[i]]:=List.take_succ_eq_append_getElem hil
  have hfl:((l.take (i+1)).flatMap jJ).length=((l.take i).flatMap jJ).length+(jJ l[i]).length:=by
   rw [htk,List.flatMap_append,List.length_append];simp
  rw [hfl,←Nat.add_assoc]
  refine ⟨?_,d⟩
  show LS.mk _ _ _=_
  rw [h1,e,htk,List.map_append]
  rfl
theorem Dy {l:List (Bytes × Bytes)} (h:KU l):qo (iR l)=⟨l.map (fun x=>(x.1,x.2.length)),(hdB l).length,false⟩∧Ep (iR l):=by
 have hN:UF (iR l)=l.length:=by
  unfold UF iR hdB
  have e:qp++(bP 2 l.length++l.flatMap jJ)++(dL l++jc (qp++(bP 2 l.length++l.flatMap jJ)))=qp++(bP 2 l.length++(l.flatMap jJ++(dL l++jc (qp++(bP 2 l.length++l.flatMap jJ))))):=by simp only [List.append_assoc]
  rw [e,show (4:Nat)=qp.length from rfl,List.drop_left,Yy (aS _ _),y9,Nat.mod_eq_of_lt (by have:=h.many;omega)]
 have hk:=(Qd h (dL l++jc (hdB l)) l.length (Nat.le_refl _)).1
 rw [List.take_length] at hk
 have hO:qo (iR l)=⟨l.map (fun x=>(x.1,x.2.length)),(hdB l).length,false⟩:=by
  unfold qo
  rw [hN,LZ]
  exact hk
 have hl:=zF l
 have hl2:=LZ l
 refine ⟨hO,h.long,by omega,?_,by rw [hO],?_,?_,?_⟩
 ·unfold iR hdB
  rw [List.append_assoc,show (4:Nat)=qp.length from rfl,List.take_left]
 ·rw [hO,hl,Gu]
 ·rw [hO]
  dsimp only
  rw [←Gu]
  unfold iR
  rw [List.take_left,←List.drop_drop,List.drop_left,List.drop_left]
 ·rw [hO]
  dsimp only
  have e:(l.map fun x=>(x.1,x.2.length)).map Prod.fst=l.map Prod.fst:=by rw [List.map_map];rfl
  rw [e]
  refine Ig ?_ h.nodup _ (by simp)
  intro n hn
  obtain ⟨x,hx,rfl⟩:=List.mem_map.1 hn
  exact h.name x hx
theorem OW {l:List (Bytes × Bytes)} {i:Nat} (hi:i<l.length) :
  (dV (l.map fun x=>(x.1,x.2.length)) (hdB l).length).getD i En.zero=⟨(l.getD i ([],[])).1,(hdB l).length+(dL (l.take i)).length,(l.getD i ([],[])).2.length⟩ ∧
  ((iR l).drop ((hdB l).length+(dL (l.take i)).length)).take (l.getD i ([],[])).2.length=(l.getD i ([],[])).2:=by
 have key:∀ (m:List (Bytes × Bytes)) (a i:Nat),i<m.length→(dV (m.map fun x=>(x.1,x.2.length)) a).getD i En.zero=⟨(m.getD i ([],[])).1,a+(dL (m.take i)).length,(m.getD i ([],[])).2.length⟩:=by
  intro m
  induction m with
  | nil=>intro a i h;cases h
  | cons y m ih=>
   intro a i h
   cases i with
   | zero=>rfl
   | succ i=>
    have:=ih (a+y.2.length) i (by simpa using h)
    have e:(dL ((y::m).take (i+1))).length=y.2.length+(dL (m.take i)).length:=by
     unfold dL;rw [List.take_succ_cons,List.flatMap_cons,List.length_append]
    rw [e,←Nat.add_assoc]
    exact this
 refine ⟨key l _ i hi,?_⟩
 have e:l.getD i ([],[])=l[i]:=by simp [List.getD_eq_getElem?_getD,hi]
 rw [e]
 unfold iR
 rw [←List.drop_drop,List.drop_left]
 have hsp:dL l=dL (l.take i)++(l[i].2++dL (l.drop (i+1))):=by
  unfold dL
  conv=>lhs;rw [←List.take_append_drop i l,List.flatMap_append,List.drop_eq_getElem_cons hi,List.flatMap_cons]
 rw [hsp,List.append_assoc,List.drop_left,List.append_assoc,List.take_left]
end Go.Fv.H
/- Numbers in bits, in plain words. -/
namespace Go.Fv.H
open Go
def sZ (n:Nat):UInt8:=if n%2=1 then 49 else 48
def jF (n:Nat):Bytes:=if h:n<2 then [sZ n] else jF (n / 2)++[sZ n]
termination_by n
decreasing_by omega
def eH (n:Nat):Bytes:=List.replicate ((jF n).length - 1) 48++jF n
def pI (l:Bytes):Nat:=l.foldl (fun a c=>2*a+(c.toNat - 48)) 0
def jr (c:UInt8):Bool:=decide (c=48∨c=49)
def VU (c:UInt8):Bool:=decide (c=48)
def kM (s:Bytes):Nat:=(s.takeWhile VU).length
def Ug (s:Bytes):Option (Nat × Nat):=
 if kM s≤20∧2*kM s+1≤s.length∧((s.drop (kM s)).take (kM s+1)).all jr=true∧pI ((s.drop (kM s)).take (kM s+1))≤1048576 then
  some (pI ((s.drop (kM s)).take (kM s+1)),2*kM s+1) else none
theorem qP {n:Nat} (h:n<2):jF n=[sZ n]:=by rw [jF,dif_pos h]
theorem uy {n:Nat} (h:¬n<2):jF n=jF (n / 2)++[sZ n]:=by rw [jF,dif_neg h]
theorem Ls (n:Nat):jr (sZ n)=true:=by unfold sZ;split<;>decide
theorem OE (l:Bytes) (c:UInt8):pI (l++[c])=2*pI l+(c.toNat - 48):=by unfold pI;rw [List.foldl_append];rfl
theorem O4:∀ n:Nat,(jF n).all jr=true
 | n=>by
  by_cases h:n<2
  ·rw [qP h];simp [Ls]
  ·rw [uy h,List.all_append,O4 (n / 2)];simp [Ls]
termination_by n=>n
theorem uz:∀ (k n:Nat),n<2 ^ (k+1)→(jF n).length≤k+1
 | 0,n,h=>by rw [qP (by simpa using h)];exact Nat.le_refl _
 | k+1,n,h=>by
  by_cases h2:n<2
  ·rw [qP h2];simp
  ·rw [uy h2,List.length_append]
   have:=uz k (n / 2) (by rw [Nat.pow_succ] at h;omega)
   simp only [List.length_singleton];omega
theorem uD (n:Nat):1≤(jF n).length:=by
 by_cases h:n<2
 ·rw [qP h];exact Nat.le_refl _
 ·rw [uy h,List.length_append];simp
theorem EG (n:Nat):(eH n).length=2*(jF n).length - 1:=by
 have:=uD n
 unfold eH
 rw [List.length_append,List.length_replicate];omega
end Go.Fv.H
/- Bits packed in bytes, in plain words. -/
namespace Go.Fv.H
open Go
def bt (s:Bytes) (k:Nat):Nat:=if s.getD k 0=49 then 1 else 0
def pk (s:Bytes) (j:Nat):Nat:=bt s (8*j)*128+bt s (8*j+1)*64+bt s (8*j+2)*32+bt s (8*j+3)*16+bt s (8*j+4)*8+bt s (8*j+5)*4+bt s (8*j+6)*2+bt s (8*j+7)
def yM (n:Nat) (s:Bytes):Bytes:=(List.range n).map fun j=>UInt8.ofNat (pk s j)
def l9 (s:Bytes):Bytes:=yM ((s.length+7) / 8) s
def XF (d:Bytes):Bytes:=(List.range (8*d.length)).map fun i=>UInt8.ofNat (48+(d.getD (i / 8) 0).toNat / 2 ^ (7 - i%8)%2)
theorem bt_le (s:Bytes) (k:Nat):bt s k≤1:=by unfold bt;split<;>omega
theorem Iu (s:Bytes) (j:Nat):pk s j<256:=by
 have h0:=bt_le s (8*j)
 have h1:=bt_le s (8*j+1)
 have h2:=bt_le s (8*j+2)
 have h3:=bt_le s (8*j+3)
 have h4:=bt_le s (8*j+4)
 have h5:=bt_le s (8*j+5)
 have h6:=bt_le s (8*j+6)
 have h7:=bt_le s (8*j+7)
 unfold pk;omega
theorem U9 {s:Bytes} {k:Nat} (h:s.getD k 0=49):bt s k=1:=if_pos h
theorem jU {s:Bytes} {i k:Nat} (h:k≠i):bt (s.take (i+1)) k=bt (s.take i) k:=by
 unfold bt
 have e:(s.take (i+1)).getD k 0=(s.take i).getD k 0:=by
  rw [List.getD_eq_getElem?_getD,List.getD_eq_getElem?_getD,List.getElem?_take,List.getElem?_take]
  by_cases h1:k<i
  ·rw [if_pos h1,if_pos (by omega)]
  ·rw [if_neg h1,if_neg (by omega)]
 rw [e]
theorem O9 (s:Bytes) (i:Nat):bt (s.take i) i=0:=by
 unfold bt
 have e:(s.take i).getD i 0=0:=by rw [List.getD_eq_getElem?_getD,List.getElem?_take,if_neg (by omega)];rfl
 rw [e];rfl
theorem Pg {s:Bytes} {i:Nat} (hi:i<s.length):bt (s.take (i+1)) i=bt s i:=by
 unfold bt
 have e:(s.take (i+1)).getD i 0=s.getD i 0:=by rw [List.getD_eq_getElem?_getD,List.getElem?_take,if_pos (by omega),List.getD_eq_getElem?_getD]
 rw [e]
theorem TW {s:Bytes} {i j:Nat} (h:j≠i / 8):pk (s.take (i+1)) j=pk (s.take i) j:=by
 unfold pk
 rw [jU (k:=8*j) (by omega),jU (k:=8*j+1) (by omega),jU (k:=8*j+2) (by omega),jU (k:=8*j+3) (by omega),jU (k:=8*j+4) (by omega),jU (k:=8*j+5) (by omega),jU (k:=8*j+6) (by omega),jU (k:=8*j+7) (by omega)]
theorem TY {s:Bytes} {i:Nat} (hi:i<s.length) (h:s.getD i 0≠49) (j:Nat):pk (s.take (i+1)) j=pk (s.take i) j:=by
 have key:∀ k,bt (s.take (i+1)) k=bt (s.take i) k:=fun k=>by
  by_cases hk:k=i
  ·subst hk;rw [O9,Pg hi];exact if_neg h
  ·exact jU hk
 unfold pk
 simp only [key]
theorem MS {s:Bytes} {i:Nat} (hi:i<s.length) (h49:s.getD i 0=49):pk (s.take (i+1)) (i / 8)=pk (s.take i) (i / 8)+2 ^ (7 - i%8)∧pk (s.take i) (i / 8)%2 ^ (8 - i%8)=0:=by
 obtain ⟨j,hj⟩:∃ j,i / 8=j:=⟨_,rfl⟩
 obtain ⟨t,ht⟩:∃ t,i%8=t:=⟨_,rfl⟩
 have e:i=8*j+t:=by omega
 rw [hj,ht]
 subst e
 have htl:t<8:=by omega
 clear hj ht
 have hz:∀ u,t≤u→bt (s.take (8*j+t)) (8*j+u)=0:=fun u hu=>by
  unfold bt
  have e:(s.take (8*j+t)).getD (8*j+u) 0=0:=by rw [List.getD_eq_getElem?_getD,List.getElem?_take,if_neg (by omega)];rfl
  rw [e];rfl
 have hz0:t=0→bt (s.take (8*j+t)) (8*j)=0:=fun h=>hz 0 (by omega)
 have hc:t=0∨t=1∨t=2∨t=3∨t=4∨t=5∨t=6∨t=7:=by omega
 have n1:=@jU s (8*j+t) (8*j)
 have n2:=@jU s (8*j+t) (8*j+1)
 have n3:=@jU s (8*j+t) (8*j+2)
 have n4:=@jU s (8*j+t) (8*j+3)
 have n5:=@jU s (8*j+t) (8*j+4)
 have n6:=@jU s (8*j+t) (8*j+5)
 have n7:=@jU s (8*j+t) (8*j+6)
 have n8:=@jU s (8*j+t) (8*j+7)
 have a0:=O9 s (8*j+t)
 have a1:=Pg hi
 rw [U9 h49] at a1
 have z1:=hz 1
 have z2:=hz 2
 have z3:=hz 3
 have z4:=hz 4
 have z5:=hz 5
 have z6:=hz 6
 have z7:=hz 7
 clear hz
 unfold pk
 rcases hc with rfl|rfl|rfl|rfl|rfl|rfl|rfl|rfl
 all_goals simp only [Nat.add_zero,Nat.reduceSub,Nat.reducePow] at *
 all_goals omega
theorem zf (n:Nat) (s:Bytes):(yM n s).length=n:=by unfold yM;simp
theorem Vz {n j:Nat} (s:Bytes) (h:j<n):((yM n s).getD j 0).toNat=pk s j:=by
 unfold yM
 rw [List.getD_eq_getElem?_getD,List.getElem?_map,List.getElem?_range h]
 have:=Iu s j
 simp
 omega
theorem QM {n:Nat} {s:Bytes} {i:Nat} (hi:i<s.length) (h:s.getD i 0≠49):yM n (s.take (i+1))=yM n (s.take i):=by
 unfold yM;simp only [TY hi h]
theorem QK {n:Nat} {s:Bytes} {i:Nat} (hi:i<s.length) (h:s.getD i 0=49):(aj (yM n (s.take i))).set (i / 8) ((pk (s.take i) (i / 8)+2 ^ (7 - i%8):Nat):Int)=aj (yM n (s.take (i+1))):=by
 unfold aj yM
 apply List.ext_getElem?
 intro j
 rw [List.getElem?_set]
 simp only [List.length_map,List.length_range,List.getElem?_map]
 by_cases hj:i / 8=j
 ·subst hj
  rw [if_pos rfl]
  by_cases hn:i / 8<n
  ·rw [if_pos hn,List.getElem?_range hn,←(MS hi h).1]
   have:=Iu (s.take (i+1)) (i / 8)
   simp
   omega
  ·rw [if_neg hn,List.getElem?_eq_none (by simp;omega)];rfl
 ·rw [if_neg hj]
  by_cases hn:j<n
  ·rw [List.getElem?_range hn]
   simp only [Option.map_some,TW (s:=s) (i:=i) (j:=j) (fun e=>hj e.symm)]
  ·rw [List.getElem?_eq_none (by simp;omega)];rfl
end Go.Fv.H
/- Bytes of numbers, sums of bytes: the walk. -/
namespace Go.Fv.H
open Go Go.Proofs
theorem nM {α:Type} {T:List α} {i n:Nat} {z d:α} (hn:T.length=n) (hi:i<n):(T.take i++List.replicate (n - i) z).set i (T.getD i d)=T.take (i+1)++List.replicate (n - (i+1)) z:=by
 subst hn
 have hl:(T.take i).length=i:=by rw [List.length_take];omega
 have e:T.length - i=(T.length - (i+1))+1:=by omega
 rw [List.set_append_right _ _ (by omega),hl,Nat.sub_self,e,List.replicate_succ,List.set_cons_zero,List.take_succ_eq_append_getElem hi,getD_lt hi,List.append_assoc]
 rfl
theorem cZ (l:Bytes):(aj l).length=l.length:=by unfold aj;rw [List.length_map]
theorem bytes_at {b:Bytes} {i:Nat} (h:i<b.length):(aj b).getD i 0=((b.getD i 0).toNat:Int):=by
 unfold aj
 simp [List.getD,h]
theorem iw (l:Bytes):(aj l).map (fun n=>UInt8.ofNat n.toNat)=l:=by
 unfold aj
 rw [List.map_map]
 conv=>rhs;rw [←List.map_id l]
 apply List.map_congr_left
 intro c _
 simp
theorem kS (x:Int):IntKind.u8.wrap x=x%256:=by simp [IntKind.wrap,IntKind.signed,IntKind.bits]
theorem zI {k:IntKind} (hk:k.bits=64) {n:Int} {N j:Nat} (hn:n=N∨n=(N:Int) - 18446744073709551616) (hj:j≤7):IntKind.u8.wrap (lF k n (8*(j:Int)))=((N / 256 ^ j%256:Nat):Int):=by
 have hc:j=0∨j=1∨j=2∨j=3∨j=4∨j=5∨j=6∨j=7:=by omega
 rcases hc with rfl|rfl|rfl|rfl|rfl|rfl|rfl|rfl
 ·unfold lF
  rw [hk,show (2:Int) ^ (min (8*((0:Nat):Int)).toNat 64)=1 by rfl,Int.fdiv_eq_ediv_of_nonneg _ (by decide),kS,show (256:Nat) ^ 0=1 by rfl]
  omega
 ·unfold lF
  rw [hk,show (2:Int) ^ (min (8*((1:Nat):Int)).toNat 64)=256 by rfl,Int.fdiv_eq_ediv_of_nonneg _ (by decide),kS,show (256:Nat) ^ 1=256 by rfl]
  omega
 ·unfold lF
  rw [hk,show (2:Int) ^ (min (8*((2:Nat):Int)).toNat 64)=65536 by rfl,Int.fdiv_eq_ediv_of_nonneg _ (by decide),kS,show (256:Nat) ^ 2=65536 by rfl]
  omega
 ·unfold lF
  rw [hk,show (2:Int) ^ (min (8*((3:Nat):Int)).toNat 64)=16777216 by rfl,Int.fdiv_eq_ediv_of_nonneg _ (by decide),kS,show (256:Nat) ^ 3=16777216 by rfl]
  omega
 ·unfold lF
  rw [hk,show (2:Int) ^ (min (8*((4:Nat):Int)).toNat 64)=4294967296 by rfl,Int.fdiv_eq_ediv_of_nonneg _ (by decide),kS,show (256:Nat) ^ 4=4294967296 by rfl]
  omega
 ·unfold lF
  rw [hk,show (2:Int) ^ (min (8*((5:Nat):Int)).toNat 64)=1099511627776 by rfl,Int.fdiv_eq_ediv_of_nonneg _ (by decide),kS,show (256:Nat) ^ 5=1099511627776 by rfl]
  omega
 ·unfold lF
  rw [hk,show (2:Int) ^ (min (8*((6:Nat):Int)).toNat 64)=281474976710656 by rfl,Int.fdiv_eq_ediv_of_nonneg _ (by decide),kS,show (256:Nat) ^ 6=281474976710656 by rfl]
  omega
 ·unfold lF
  rw [hk,show (2:Int) ^ (min (8*((7:Nat):Int)).toNat 64)=72057594037927936 by rfl,Int.fdiv_eq_ediv_of_nonneg _ (by decide),kS,show (256:Nat) ^ 7=72057594037927936 by rfl]
  omega
theorem Le {many N i:Nat} (h:i<many):(aj (bP many N)).getD i 0=((N / 256 ^ (many - 1 - i)%256:Nat):Int):=by
 rw [bytes_at (by rw [aS];exact h),U5 h]
set_option maxHeartbeats 2000000 in
theorem sU (n:Int) (N many:Nat) (hn:n=N∨n=(N:Int) - 18446744073709551616) (hN:N<18446744073709551616) (hb:-9223372036854775808≤n∧n≤9223372036854775807) (hm:many≤8) :
  aC Tryz.prog 108 [.int .i64 n,.int .i64 many] (.str (bP many N)) []:=by
 refine aC.aJ Tryz.func108 rfl (by decide) (by simp [Tryz.f108]) [.tmp 4] rfl fun w0 T0 _=>?_
 simp only [Tryz.f108,aB]
 (repeat' with_reducible first|intro _|exact dn|refine rn ?_|refine ra ?_ ?_)
 have hT:(aj (bP many N)).length=many:=by rw [cZ,aS]
 refine aH.intro (fun i:Nat=>⟨28,[(11,.int .i64 i),(10,.int .i64 many),(5,.own 0),(1,.int .i64 many),(0,.int .i64 n)],[(0,.row 5 (.ints .u8 ((aj (bP many N)).take i++List.replicate (many - i) 0)))],1⟩) (fun i=>i≤many) (fun i=>many - i) 0 ?_ (Nat.zero_le _) fun i hi=>?_
 ·refine aK.ak rfl ?_ ?_<;>simp only [go_sem,Int.natCast_succ]
  all_goals rfl
 have htl:((aj (bP many N)).take i).length=i:=by rw [List.length_take,hT];omega
 by_cases hlt:i<many
 ·have f1:((i:Int)<(many:Int))=True:=eq_true (by omega)
  have hv:IntKind.u8.wrap (lF .i64 n (8*((many:Int) - 1 - (i:Int))))=(aj (bP many N)).getD i 0:=by
   rw [Le hlt,show (many:Int) - 1 - (i:Int)=((many - 1 - i:Nat):Int) by omega]
   exact zI rfl hn (by omega)
  have hs:=nM (z:=0) (d:=0) hT hlt
  (repeat' with_reducible first|intro _|refine rz ?_|refine ra ?_ ?_|omega|simp only [go_sem,f1])
  refine bZ.at _ hv ?_
  (repeat' with_reducible first|intro _|refine rz ?_|refine ra ?_ ?_|omega|simp only [go_sem,htl])
  rw [hs]
  refine ⟨i+1,aK.ak rfl ?_ ?_,by omega,by omega⟩<;>simp only [go_sem,Int.natCast_succ]
 ·have f1:((i:Int)<(many:Int))=False:=eq_false (by omega)
  have e:i=many:=by omega
  subst e
  have hfull:(aj (bP i N)).take i=aj (bP i N):=List.take_of_length_le (by omega)
  have hbk:=iw (bP i N)
  (repeat' with_reducible first|intro _|refine rz ?_|refine ra ?_ ?_|omega|simp only [go_sem,f1])
  refine bg.auto 0 ?_ rfl ?_<;>simp only [go_sem,Int.natCast_succ,Post,hfull,hbk]
set_option maxHeartbeats 2000000 in
theorem nY (n:Int) (N many:Nat) (hn:n=N∨n=(N:Int) - 18446744073709551616) (hN:N<18446744073709551616) (hb:-9223372036854775808≤n∧n≤9223372036854775807) (hm:many≤8) :
  aC Tryz.prog 64 [.int .i64 n,.int .i64 many] (.str (bP many N)) []:=by
 refine aC.aJ Tryz.func64 rfl (by decide) (by simp [Tryz.f64]) [.tmp 4] rfl fun w0 T0 _=>?_
 simp only [Tryz.f64,aB]
 (repeat' with_reducible first|intro _|exact dn|refine rn ?_|refine ra ?_ ?_)
 have hT:(aj (bP many N)).length=many:=by rw [cZ,aS]
 refine aH.intro (fun i:Nat=>⟨28,[(11,.int .i64 i),(10,.int .i64 many),(5,.own 0),(1,.int .i64 many),(0,.int .i64 n)],[(0,.row 5 (.ints .u8 ((aj (bP many N)).take i++List.replicate (many - i) 0)))],1⟩) (fun i=>i≤many) (fun i=>many - i) 0 ?_ (Nat.zero_le _) fun i hi=>?_
 ·refine aK.ak rfl ?_ ?_<;>simp only [go_sem,Int.natCast_succ]
  all_goals rfl
 have htl:((aj (bP many N)).take i).length=i:=by rw [List.length_take,hT];omega
 by_cases hlt:i<many
 ·have f1:((i:Int)<(many:Int))=True:=eq_true (by omega)
  have hv:IntKind.u8.wrap (lF .i64 n (8*((many:Int) - 1 - (i:Int))))=(aj (bP many N)).getD i 0:=by
   rw [Le hlt,show (many:Int) - 1 - (i:Int)=((many - 1 - i:Nat):Int) by omega]
   exact zI rfl hn (by omega)
  have hs:=nM (z:=0) (d:=0) hT hlt
  (repeat' with_reducible first|intro _|refine rz ?_|refine ra ?_ ?_|omega|simp only [go_sem,f1])
  refine bZ.at _ hv ?_
  (repeat' with_reducible first|intro _|refine rz ?_|refine ra ?_ ?_|omega|simp only [go_sem,htl])
  rw [hs]
  refine ⟨i+1,aK.ak rfl ?_ ?_,by omega,by omega⟩<;>simp only [go_sem,Int.natCast_succ]
 ·have f1:((i:Int)<(many:Int))=False:=eq_false (by omega)
  have e:i=many:=by omega
  subst e
  have hfull:(aj (bP i N)).take i=aj (bP i N):=List.take_of_length_le (by omega)
  have hbk:=iw (bP i N)
  (repeat' with_reducible first|intro _|refine rz ?_|refine ra ?_ ?_|omega|simp only [go_sem,f1])
  refine bg.auto 0 ?_ rfl ?_<;>simp only [go_sem,Int.natCast_succ,Post,hfull,hbk]
theorem bits_nat (a b:Nat) (ha:a<18446744073709551616) (hb:b<18446744073709551616):(BitVec.ofInt 64 (a:Int)).toNat=a∧(BitVec.ofInt 64 (b:Int)).toNat=b:=by
 rw [BitVec.ofInt_natCast,BitVec.toNat_ofNat,BitVec.ofInt_natCast,BitVec.toNat_ofNat]
 exact ⟨Nat.mod_eq_of_lt (by omega),Nat.mod_eq_of_lt (by omega)⟩
theorem QA {a c:Nat} (ha:a<1099511627776) (hc:c<256):fV .or .i64 ((a*256:Nat):Int) (c:Int)=((a*256+c:Nat):Int):=by
 obtain ⟨e1,e2⟩:=bits_nat (a*256) c (by omega) (by omega)
 show IntKind.i64.wrap (((BitVec.ofInt 64 ((a*256:Nat):Int)) ||| (BitVec.ofInt 64 (c:Int))).toNat:Int)=_
 have h:=Nat.two_pow_add_eq_or_of_lt (i:=8) (b:=c) (by omega) a
 rw [BitVec.toNat_or,e1,e2,Nat.mul_comm a 256,←h]
 exact jQ (jl.2 (by omega))
theorem Nk {a c:Nat} (ha:a<18446744073709551616) (hc:c<256):fV .xor .u64 (a:Int) (c:Int)=((a ^^^ c:Nat):Int):=by
 obtain ⟨e1,e2⟩:=bits_nat a c ha (by omega)
 show IntKind.u64.wrap (((BitVec.ofInt 64 (a:Int)) ^^^ (BitVec.ofInt 64 (c:Int))).toNat:Int)=_
 have h:a ^^^ c<2 ^ 64:=Nat.xor_lt_two_pow (n:=64) (by omega) (by omega)
 rw [BitVec.toNat_xor,e1,e2]
 exact jQ (kT.2 (by omega))
theorem WY (a:Nat):qH .i64 (a:Int) 8=((a*256:Nat):Int):=by
 unfold qH
 rw [show (2:Int) ^ (min (8:Int).toNat IntKind.i64.bits)=256 by rfl]
 omega
theorem Ij {s:Bytes} {i:Nat} (h:i<s.length):bY (s.take (i+1))=bY (s.take i)*256+(s.getD i 0).toNat:=by
 rw [List.take_succ_eq_append_getElem h,wU,getD_lt h]
theorem GZ {s:Bytes} {i:Nat} (h:i<s.length):oG (s.take (i+1))=zV (oG (s.take i)) (s.getD i 0):=by
 unfold oG
 rw [List.take_succ_eq_append_getElem h,List.foldl_append,getD_lt h,List.foldl_cons,List.foldl_nil]
set_option maxHeartbeats 2000000 in
theorem zG (s:Bytes) (hs:s.length≤4):aC Tryz.prog 65 [.str s] (.int .i64 (bY s)) []:=by
 refine aC.aJ Tryz.func65 rfl (by decide) (by simp [Tryz.f65]) [.tmp 2] rfl fun w0 T0 _=>?_
 simp only [Tryz.f65,aB]
 (repeat' with_reducible first|intro _|exact dn|refine rn ?_|refine ra ?_ ?_)
 refine aH.intro (fun i:Nat=>⟨19,[(7,.int .i64 i),(6,.int .i64 s.length),(3,.int .i64 (bY (s.take i))),(0,.str s)],[],0⟩) (fun i=>i≤s.length) (fun i=>s.length - i) 0 ?_ (Nat.zero_le _) fun i hi=>?_
 ·refine aK.ak rfl ?_ ?_<;>simp only [go_sem,Int.natCast_succ]
  all_goals rfl
 by_cases hlt:i<s.length
 ·have f1:((i:Int)<(s.length:Int))=True:=eq_true (by omega)
  have hv:=Ij hlt
  have hc:=(s.getD i 0).toNat_lt
  have hb:=vH (s.take i)
  have hp:(256:Nat) ^ (s.take i).length≤256 ^ 3:=Nat.pow_le_pow_right (by decide) (by rw [List.length_take];omega)
  rw [show (256:Nat) ^ 3=16777216 from rfl] at hp
  have hc:(s.getD i 0).toNat<256:=(s.getD i 0).toNat_lt
  have hor:=QA (a:=bY (s.take i)) (c:=(s.getD i 0).toNat) (by omega) hc
  have h8:=WY (bY (s.take i))
  generalize bY (s.take i)=v at *
  (repeat' with_reducible first|intro _|refine rz ?_|refine ra ?_ ?_|omega|simp only [go_sem,f1])
  rw [h8]
  (repeat' with_reducible first|intro _|refine rz ?_|refine ra ?_ ?_|omega|simp only [go_sem,hor])
  refine ⟨i+1,aK.ak rfl ?_ ?_,by omega,by omega⟩<;>simp only [go_sem,Int.natCast_succ,hv,hor]
 ·have f1:((i:Int)<(s.length:Int))=False:=eq_false (by omega)
  have e:i=s.length:=by omega
  subst e
  rw [List.take_length]
  (repeat' with_reducible first|intro _|refine rz ?_|refine ra ?_ ?_|omega|simp only [go_sem,f1])
  refine bg.auto 0 ?_ rfl ?_<;>simp only [go_sem,Int.natCast_succ,Post]
set_option maxHeartbeats 2000000 in
theorem Bf (s:Bytes) (hs:s.length≤200000000000000):aC Tryz.prog 26 [.str s] (.str (jc s)) []:=by
 refine aC.aJ Tryz.func26 rfl (by decide) (by simp [Tryz.f26]) [.tmp 2] rfl fun w0 T0 _=>?_
 simp only [Tryz.f26,aB]
 (repeat' with_reducible first|intro _|exact dn|refine rn ?_|refine ra ?_ ?_)
 refine aH.intro (fun i:Nat=>⟨38,[(9,.int .i64 i),(8,.int .i64 s.length),(3,.int .u64 (oG (s.take i))),(0,.str s)],[],0⟩) (fun i=>i≤s.length) (fun i=>s.length - i) 0 ?_ (Nat.zero_le _) fun i hi=>?_
 ·refine aK.ak rfl ?_ ?_<;>simp only [go_sem,Int.natCast_succ]
  all_goals rfl
 have hvl:=LQ (s.take i)
 by_cases hlt:i<s.length
 ·have f1:((i:Int)<(s.length:Int))=True:=eq_true (by omega)
  have hv:=GZ hlt
  have hc:(s.getD i 0).toNat<256:=(s.getD i 0).toNat_lt
  have hx:=Nk hvl hc
  have hw:IntKind.u64.wrap (((oG (s.take i) ^^^ (s.getD i 0).toNat:Nat):Int)*1099511628211)=((zV (oG (s.take i)) (s.getD i 0):Nat):Int):=by
   rw [IntKind.wrap_u64];unfold zV;omega
  generalize oG (s.take i)=v at *
  generalize zV v (s.getD i 0)=u at *
  generalize v ^^^ (s.getD i 0).toNat=y at *
  (repeat' with_reducible first|intro _|refine rz ?_|refine ra ?_ ?_|omega|simp only [go_sem,f1,hx])
  refine bZ.at _ hw ?_
  (repeat' with_reducible first|intro _|exact dn|refine rn ?_|refine ra ?_ ?_)
  refine ⟨i+1,aK.ak rfl ?_ ?_,by omega,by omega⟩<;>simp only [go_sem,Int.natCast_succ,hv]
 ·have f1:((i:Int)<(s.length:Int))=False:=eq_false (by omega)
  have e:i=s.length:=by omega
  subst e
  rw [List.take_length] at *
  have hT:(aj (jc s)).length=8:=by rw [cZ,mJ]
  (repeat' with_reducible first|intro _|refine rz ?_|refine ra ?_ ?_|omega|simp only [go_sem,f1])
  refine aH.intro (fun i:Nat=>⟨38,[(23,.int .i64 i),(22,.int .i64 8),(5,.own 0),(3,.int .u64 (oG s))],[(0,.row 5 (.ints .u8 ((aj (jc s)).take i++List.replicate (8 - i) 0)))],1⟩) (fun i=>i≤8) (fun i=>8 - i) 0 ?_ (Nat.zero_le _) fun i hi=>?_
  ·refine aK.ak rfl ?_ ?_<;>simp only [go_sem,Int.natCast_succ]
   all_goals rfl
  have htl:((aj (jc s)).take i).length=i:=by rw [List.length_take,hT];omega
  by_cases hlt:i<8
  ·have f1:((i:Int)<8)=True:=eq_true (by omega)
   have hv:IntKind.u8.wrap (lF .u64 (oG s:Int) (8*(7 - (i:Int))))=(aj (jc s)).getD i 0:=by
    unfold jc
    rw [Le hlt,show 7 - (i:Int)=((8 - 1 - i:Nat):Int) by omega]
    exact zI rfl (.inl rfl) (by omega)
   have hs:=nM (z:=0) (d:=0) hT hlt
   (repeat' with_reducible first|intro _|refine rz ?_|refine ra ?_ ?_|omega|simp only [go_sem,f1])
   refine bZ.at _ hv ?_
   (repeat' with_reducible first|intro _|refine rz ?_|refine ra ?_ ?_|omega|simp only [go_sem,htl])
   rw [hs]
   refine ⟨i+1,aK.ak rfl ?_ ?_,by omega,by omega⟩<;>simp only [go_sem,Int.natCast_succ]
  ·have f1:((i:Int)<8)=False:=eq_false (by omega)
   have e:i=8:=by omega
   subst e
   have hfull:(aj (jc s)).take 8=aj (jc s):=List.take_of_length_le (by omega)
   have hbk:=iw (jc s)
   (repeat' with_reducible first|intro _|refine rz ?_|refine ra ?_ ?_|omega|simp only [go_sem,f1])
   refine bg.auto 0 ?_ rfl ?_<;>simp only [go_sem,Int.natCast_succ,Post,hfull,hbk]
set_option maxHeartbeats 2000000 in
theorem wV (s:Bytes) (hs:s.length≤4):aC Tryz.prog 71 [.str s] (.int .i64 (bY s)) []:=by
 refine aC.aJ Tryz.func71 rfl (by decide) (by simp [Tryz.f71]) [.tmp 2] rfl fun w0 T0 _=>?_
 simp only [Tryz.f71,aB]
 (repeat' with_reducible first|intro _|exact dn|refine rn ?_|refine ra ?_ ?_)
 refine aH.intro (fun i:Nat=>⟨19,[(7,.int .i64 i),(6,.int .i64 s.length),(3,.int .i64 (bY (s.take i))),(0,.str s)],[],0⟩) (fun i=>i≤s.length) (fun i=>s.length - i) 0 ?_ (Nat.zero_le _) fun i hi=>?_
 ·refine aK.ak rfl ?_ ?_<;>simp only [go_sem,Int.natCast_succ]
  all_goals rfl
 by_cases hlt:i<s.length
 ·have f1:((i:Int)<(s.length:Int))=True:=eq_true (by omega)
  have hv:=Ij hlt
  have hc:=(s.getD i 0).toNat_lt
  have hb:=vH (s.take i)
  have hp:(256:Nat) ^ (s.take i).length≤256 ^ 3:=Nat.pow_le_pow_right (by decide) (by rw [List.length_take];omega)
  rw [show (256:Nat) ^ 3=16777216 from rfl] at hp
  have hc:(s.getD i 0).toNat<256:=(s.getD i 0).toNat_lt
  have hor:=QA (a:=bY (s.take i)) (c:=(s.getD i 0).toNat) (by omega) hc
  have h8:=WY (bY (s.take i))
  generalize bY (s.take i)=v at *
  (repeat' with_reducible first|intro _|refine rz ?_|refine ra ?_ ?_|omega|simp only [go_sem,f1])
  rw [h8]
  (repeat' with_reducible first|intro _|refine rz ?_|refine ra ?_ ?_|omega|simp only [go_sem,hor])
  refine ⟨i+1,aK.ak rfl ?_ ?_,by omega,by omega⟩<;>simp only [go_sem,Int.natCast_succ,hv,hor]
 ·have f1:((i:Int)<(s.length:Int))=False:=eq_false (by omega)
  have e:i=s.length:=by omega
  subst e
  rw [List.take_length]
  (repeat' with_reducible first|intro _|refine rz ?_|refine ra ?_ ?_|omega|simp only [go_sem,f1])
  refine bg.auto 0 ?_ rfl ?_<;>simp only [go_sem,Int.natCast_succ,Post]
set_option maxHeartbeats 2000000 in
theorem qC (s:Bytes) (hs:s.length≤200000000000000):aC Tryz.prog 14 [.str s] (.str (jc s)) []:=by
 refine aC.aJ Tryz.func14 rfl (by decide) (by simp [Tryz.f14]) [.tmp 2] rfl fun w0 T0 _=>?_
 simp only [Tryz.f14,aB]
 (repeat' with_reducible first|intro _|exact dn|refine rn ?_|refine ra ?_ ?_)
 refine aH.intro (fun i:Nat=>⟨21,[(7,.int .i64 i),(6,.int .i64 s.length),(3,.int .u64 (oG (s.take i))),(0,.str s)],[],0⟩) (fun i=>i≤s.length) (fun i=>s.length - i) 0 ?_ (Nat.zero_le _) fun i hi=>?_
 ·refine aK.ak rfl ?_ ?_<;>simp only [go_sem,Int.natCast_succ]
  all_goals rfl
 have hvl:=LQ (s.take i)
 by_cases hlt:i<s.length
 ·have f1:((i:Int)<(s.length:Int))=True:=eq_true (by omega)
  have hv:=GZ hlt
  have hc:(s.getD i 0).toNat<256:=(s.getD i 0).toNat_lt
  have hx:=Nk hvl hc
  have hw:IntKind.u64.wrap (((oG (s.take i) ^^^ (s.getD i 0).toNat:Nat):Int)*1099511628211)=((zV (oG (s.take i)) (s.getD i 0):Nat):Int):=by
   rw [IntKind.wrap_u64];unfold zV;omega
  generalize oG (s.take i)=v at *
  generalize zV v (s.getD i 0)=u at *
  generalize v ^^^ (s.getD i 0).toNat=y at *
  (repeat' with_reducible first|intro _|refine rz ?_|refine ra ?_ ?_|omega|simp only [go_sem,f1,hx])
  refine bZ.at _ hw ?_
  (repeat' with_reducible first|intro _|exact dn|refine rn ?_|refine ra ?_ ?_)
  refine ⟨i+1,aK.ak rfl ?_ ?_,by omega,by omega⟩<;>simp only [go_sem,Int.natCast_succ,hv]
 ·have f1:((i:Int)<(s.length:Int))=False:=eq_false (by omega)
  have e:i=s.length:=by omega
  subst e
  rw [List.take_length] at *
  have hw:∃ n:Int,n=IntKind.i64.wrap (oG s:Int)∧(n=(oG s:Int)∨n=(oG s:Int) - 18446744073709551616)∧-9223372036854775808≤n∧n≤9223372036854775807:=by
   refine ⟨_,rfl,?_⟩
   rw [IntKind.wrap_i64]
   omega
  obtain ⟨n,hn,hn2,hn3⟩:=hw
  have kb:=nY n (oG s) 8 hn2 hvl hn3 (Nat.le_refl _)
  rw [show ((8:Nat):Int)=8 from rfl] at kb
  (repeat' with_reducible first|intro _|refine rz ?_|refine ra ?_ ?_|omega|simp only [go_sem,f1])
  refine bZ.at n hn.symm ?_
  refine ah.k kb ?_
  (repeat' with_reducible first|intro _|exact dn|refine rn ?_|refine ra ?_ ?_)
  refine bg.auto 0 ?_ rfl ?_<;>simp only [go_sem,Int.natCast_succ,Post,jc]
end Go.Fv.H
/- shrink.packed, unpacked, bitsOf: the walk. -/
namespace Go.Fv.H
open Go Go.Proofs
theorem Ns (a b:Nat) (ha:a<256) (hb:b<256):(BitVec.ofInt 8 (a:Int)).toNat=a∧(BitVec.ofInt 8 (b:Int)).toNat=b:=by
 rw [BitVec.ofInt_natCast,BitVec.toNat_ofNat,BitVec.ofInt_natCast,BitVec.toNat_ofNat]
 exact ⟨Nat.mod_eq_of_lt (by omega),Nat.mod_eq_of_lt (by omega)⟩
theorem Yx {a t:Nat} (ht:t<8) (hm:a%2 ^ (8 - t)=0) (hl:a+2 ^ (7 - t)<256):fV .or .u8 (a:Int) ((2 ^ (7 - t):Nat):Int)=((a+2 ^ (7 - t):Nat):Int):=by
 have hlt:2 ^ (7 - t)<2 ^ (8 - t):=Nat.pow_lt_pow_right (by decide) (by omega)
 have h:=Nat.two_pow_add_eq_or_of_lt hlt (a / 2 ^ (8 - t))
 have ha:2 ^ (8 - t)*(a / 2 ^ (8 - t))=a:=by have:=Nat.div_add_mod a (2 ^ (8 - t));omega
 rw [ha] at h
 obtain ⟨b,hb⟩:∃ b,2 ^ (7 - t)=b:=⟨_,rfl⟩
 rw [hb] at h hl ⊢
 obtain ⟨e1,e2⟩:=Ns a b (by omega) (by omega)
 show IntKind.u8.wrap (((BitVec.ofInt 8 (a:Int)) ||| (BitVec.ofInt 8 (b:Int))).toNat:Int)=_
 rw [BitVec.toNat_or,e1,e2,←h,kS]
 omega
theorem VI {t:Nat} (ht:t<8):lF .u8 128 (t:Int)=((2 ^ (7 - t):Nat):Int):=by
 have hc:t=0∨t=1∨t=2∨t=3∨t=4∨t=5∨t=6∨t=7:=by omega
 rcases hc with rfl|rfl|rfl|rfl|rfl|rfl|rfl|rfl<;>rfl
set_option maxHeartbeats 4000000 in
theorem wX (s:Bytes) (hs:s.length≤1000000000):aC Tryz.prog 152 [.str s] (.own 0) [(0,.row 5 (.ints .u8 (aj (l9 s))))]:=by
 refine aC.aJ Tryz.func152 rfl (by decide) (by simp [Tryz.f152]) [.tmp 2] rfl fun w0 T0 _=>?_
 simp only [Tryz.f152,aB]
 have d0:((s.length:Int)+7).tdiv 8=(((s.length+7) / 8:Nat):Int):=by rw [Int.tdiv_eq_ediv_of_nonneg (by omega)];omega
 have hpk:l9 s=yM ((s.length+7) / 8) s:=rfl
 rw [hpk]
 obtain ⟨n,hn⟩:∃ n,(s.length+7) / 8=n:=⟨_,rfl⟩
 rw [hn] at d0 ⊢
 have hz:aj (yM n [])=List.replicate n 0:=by
  unfold aj yM
  apply List.ext_getElem?
  intro j
  simp only [List.getElem?_map,List.getElem?_replicate]
  by_cases h:j<n
  ·rw [List.getElem?_range h,if_pos h]
   have e:pk [] j=0:=by
    have hb:∀ k,bt [] k=0:=fun k=>rfl
    unfold pk;simp only [hb]
   simp only [Option.map_some,e]
   rfl
  ·rw [List.getElem?_eq_none (by simp;omega),if_neg h];rfl
 (repeat' with_reducible first|intro _|refine rz ?_|refine ra ?_ ?_|omega|simp only [go_sem,d0])
 refine aH.intro (fun i:Nat=>⟨31,[(12,.int .i64 i),(11,.int .i64 s.length),(3,.own 0),(0,.str s)],[(0,.row 5 (.ints .u8 (aj (yM n (s.take i)))))],1⟩) (fun i=>i≤s.length) (fun i=>s.length - i) 0 ?_ (Nat.zero_le _) fun i hi=>?_
 ·refine aK.ak rfl ?_ ?_<;>simp only [go_sem,Int.natCast_succ,hz]
 by_cases hlt:i<s.length
 ·have f1:((i:Int)<(s.length:Int))=True:=eq_true (by omega)
  by_cases h49:s.getD i 0=49
  ·have f2:(((s.getD i 0).toNat:Int)=49)=True:=eq_true (by rw [h49];rfl)
   obtain ⟨p1,p2⟩:=MS hlt h49
   have hst:=QK (n:=n) hlt h49
   have hlen:(aj (yM n (s.take i))).length=n:=by rw [cZ,zf]
   have hin:i / 8<n:=by omega
   have hat:(aj (yM n (s.take i))).getD (i / 8) 0=((pk (s.take i) (i / 8):Nat):Int):=by rw [bytes_at (by rw [zf];exact hin),Vz _ hin]
   have hpl:=Iu (s.take (i+1)) (i / 8)
   have ho:=Yx (a:=pk (s.take i) (i / 8)) (t:=i%8) (Nat.mod_lt _ (by decide)) p2 (by omega)
   have hs8:=VI (t:=i%8) (Nat.mod_lt _ (by decide))
   have d1:(i:Int).tdiv 8=((i / 8:Nat):Int):=by rw [Int.tdiv_eq_ediv_of_nonneg (by omega)];rfl
   have d2:(i:Int).tmod 8=((i%8:Nat):Int):=by rw [Int.tmod_eq_emod_of_nonneg (by omega)];rfl
   have hp128:(2:Nat) ^ (7 - i%8)≤128:=by
    have:(2:Nat) ^ (7 - i%8)≤2 ^ 7:=Nat.pow_le_pow_right (by decide) (by omega)
    exact this
   (repeat' with_reducible first|intro _|refine rz ?_|refine ra ?_ ?_|omega|simp only [go_sem,f1,f2])
   refine bC.lex [10] [] (by kernel_rfl) (by kernel_rfl) ?_
   (repeat' with_reducible first|intro _|refine rz ?_|refine ra ?_ ?_|omega|simp only [go_sem,d1,d2,hlen,hat,hs8,ho,hst])
   refine ⟨i+1,aK.ak rfl ?_ ?_,by omega,by omega⟩<;>simp only [go_sem,Int.natCast_succ]
  ·have f2:(((s.getD i 0).toNat:Int)=49)=False:=eq_false fun h=>h49 (UInt8.toNat_inj.1 (by show _=49;omega))
   have hst:=QM (n:=n) hlt h49
   (repeat' with_reducible first|intro _|refine rz ?_|refine ra ?_ ?_|omega|simp only [go_sem,f1,f2])
   refine ⟨i+1,aK.ak rfl ?_ ?_,by omega,by omega⟩<;>simp only [go_sem,Int.natCast_succ,hst]
 ·have f1:((i:Int)<(s.length:Int))=False:=eq_false (by omega)
  have e:i=s.length:=by omega
  subst e
  rw [List.take_length]
  (repeat' with_reducible first|intro _|refine rz ?_|refine ra ?_ ?_|omega|simp only [go_sem,f1])
  refine bg.auto 1 ?_ rfl ?_<;>simp only [go_sem,Int.natCast_succ,Post]
def fO (p:List Bool):Bytes:=p.map fun b=>if b=true then 49 else 48
theorem jI (p:List Bool):(fO p).length=p.length:=by unfold fO;rw [List.length_map]
theorem O7 {p:List Bool} {i:Nat} (h:i<p.length):(aj (fO p)).getD i 0=if p.getD i false=true then 49 else 48:=by
 rw [bytes_at (by rw [jI];exact h)]
 unfold fO
 rw [List.getD_eq_getElem?_getD,List.getElem?_map,List.getD_eq_getElem?_getD,List.getElem?_eq_getElem h]
 simp only [Option.map_some,Option.getD_some]
 split<;>rfl
set_option maxHeartbeats 4000000 in
theorem Nu (w h:Int) (p:List Bool) (hp:p.length≤1000000000):aC Tryz.prog 153 [.agg [.int .i64 w,.int .i64 h,.ro (.bools p)]] (.str (fO p)) []:=by
 refine aC.aJ Tryz.func153 rfl (by decide) (by simp [Tryz.f153]) [.tmp 2] rfl fun w0 T0 _=>?_
 simp only [Tryz.f153,aB]
 have hat:=@O7 p
 have hul:(aj (fO p)).length=p.length:=by rw [cZ,jI]
 have hbk:=iw (fO p)
 (repeat' with_reducible first|intro _|exact dn|refine rn ?_|refine ra ?_ ?_)
 refine aH.intro (fun i:Nat=>⟨28,[(13,.int .i64 i),(12,.int .i64 p.length),(11,.ro (.bools p)),(3,.own 1),(1,.ptr 0 0)],[(0,.box 24 [.int .i64 w,.int .i64 h,.ro (.bools p)]),(1,.row 5 (.ints .u8 ((aj (fO p)).take i++List.replicate (p.length - i) 0)))],2⟩) (fun i=>i≤p.length) (fun i=>p.length - i) 0 ?_ (Nat.zero_le _) fun i hi=>?_
 ·refine aK.ak rfl ?_ ?_<;>simp only [go_sem,Int.natCast_succ]
  all_goals rfl
 have htl:((aj (fO p)).take i).length=i:=by rw [List.length_take,hul];omega
 by_cases hlt:i<p.length
 ·have f1:((i:Int)<(p.length:Int))=True:=eq_true (by omega)
  have hs:=nM (z:=0) (d:=0) hul hlt
  rw [hat hlt] at hs
  cases hb:p.getD i false with
  | true=>
   rw [hb,if_pos rfl] at hs
   (repeat' with_reducible first|intro _|refine rz ?_|refine ra ?_ ?_|omega|simp only [go_sem,f1,htl,hb,List.set_set])
   refine ⟨i+1,aK.ak rfl ?_ ?_,by omega,by omega⟩<;>simp only [go_sem,Int.natCast_succ,hs]
  | false=>
   rw [hb,if_neg (by decide)] at hs
   (repeat' with_reducible first|intro _|refine rz ?_|refine ra ?_ ?_|omega|simp only [go_sem,f1,htl,hb])
   refine ⟨i+1,aK.ak rfl ?_ ?_,by omega,by omega⟩<;>simp only [go_sem,Int.natCast_succ,hs]
 ·have f1:((i:Int)<(p.length:Int))=False:=eq_false (by omega)
  have e:i=p.length:=by omega
  subst e
  have hfull:(aj (fO p)).take p.length=aj (fO p):=List.take_of_length_le (by omega)
  (repeat' with_reducible first|intro _|refine rz ?_|refine ra ?_ ?_|omega|simp only [go_sem,f1])
  refine bg.auto 0 ?_ rfl ?_<;>simp only [go_sem,Int.natCast_succ,Post,hfull,hbk]
end Go.Fv.H
/- Runs of a row: the walk. -/
namespace Go.Fv.H
open Go Go.Proofs
def iI (out:List Int) (ink:Bool) (i:Nat) (p:Bool):List Int × Bool:=
 let out:=if i=0 then out++[0] else out
 let out:=if p=ink then out else out++[0]
 (out.set (out.length - 1) (out.getD (out.length - 1) 0+1),p)
def aW (row:List Bool):Nat→List Int × Bool
 | 0=>([],false)
 | i+1=>iI (aW row i).1 (aW row i).2 i (row.getD i false)
theorem oQ (row:List Bool):∀ i,(aW row i).1.length≤i+1∧(0<i→0<(aW row i).1.length)∧∀ x,x∈(aW row i).1→0≤x∧x≤i
 | 0=>by simp [aW]
 | i+1=>by
  obtain ⟨h1,h2,h3⟩:=oQ row i
  simp only [aW,iI]
  generalize hl:(if row.getD i false=(aW row i).2 then (if i=0 then (aW row i).1++[0] else (aW row i).1) else (if i=0 then (aW row i).1++[0] else (aW row i).1)++[0])=l
  have a:l.length≤i+2∧0<l.length∧∀ x,x∈l→0≤x∧x≤i:=by
   subst hl
   by_cases e:i=0
   ·subst e
    have z:(aW row 0).1=[]:=rfl
    simp only [z,if_true]
    split
    ·simp
    ·simp
   ·have:=h2 (by omega)
    simp only [if_neg e]
    split
    ·exact ⟨by omega,by omega,h3⟩
    ·simp only [List.length_append,List.length_cons,List.length_nil,List.mem_append,List.mem_singleton]
     refine ⟨by omega,by omega,?_⟩
     rintro x (hx|hx)
     ·exact h3 x hx
     ·omega
  obtain ⟨a1,a2,a3⟩:=a
  have hb:=EI a3 (Int.le_refl 0) (by omega) (l.length - 1)
  refine ⟨by simp;omega,by simp;omega,fun x hx=>?_⟩
  rcases List.mem_or_eq_of_mem_set hx with hx|hx
  ·have:=a3 x hx;omega
  ·omega
set_option maxHeartbeats 4000000 in
theorem Ul (row:List Bool) (h:row.length≤4000):aC Tryz.prog 155 [.ro (.bools row)] (.own 0) [(0,.row 3 (.ints .i64 (aW row row.length).1))]:=by
 refine aC.aJ Tryz.func155 rfl (by decide) (by simp [Tryz.f155]) [.tmp 2] rfl fun w0 T0 _=>?_
 simp only [Tryz.f155,aB]
 (repeat' with_reducible first|intro _|exact dn|refine rn ?_|refine ra ?_ ?_)
 refine aH.intro (fun i:Nat=>⟨36,[(7,.ro (.bools row)),(8,.int .i64 row.length),(9,.int .i64 i),(3,.own 0),(4,.bool (aW row i).2)],[(0,.row 3 (.ints .i64 (aW row i).1))],1⟩) (fun i=>i≤row.length) (fun i=>row.length - i) 0 ?_ (Nat.zero_le _) fun i hi=>?_
 ·refine aK.ak rfl ?_ ?_<;>simp only [go_sem,Int.natCast_succ,aW]
 obtain ⟨k1,k2,k3⟩:=oQ row i
 by_cases hlt:i<row.length
 rotate_left
 ·have f1:((i:Int)<(row.length:Int))=False:=eq_false (by omega)
  have e:i=row.length:=by omega
  subst e
  (repeat' with_reducible first|intro _|refine rz ?_|refine ra ?_ ?_|omega|simp only [go_sem,f1])
  refine bg.auto 1 ?_ rfl ?_<;>simp only [go_sem,Int.natCast_succ,Post]
 have f1:((i:Int)<(row.length:Int))=True:=eq_true (by omega)
 have hnx:aW row (i+1)=iI (aW row i).1 (aW row i).2 i (row.getD i false):=rfl
 by_cases h0:i=0
 ·subst h0
  have z:aW row 0=([],false):=rfl
  have g1:([0]:List Int).getD 0 0=0:=rfl
  have g2:([0,0]:List Int).getD 1 0=0:=rfl
  rw [z] at hnx ⊢
  cases hp:row.getD 0 false with
  | true=>
   rw [hp] at hnx
   have hnx:aW row 1=([0,1],true):=hnx
   (repeat' with_reducible first|intro _|refine rz ?_|refine ra ?_ ?_|omega|simp only [go_sem,f1,hp,g1,g2,Int.natCast_zero])
   refine ⟨1,aK.ak rfl ?_ ?_,by omega,by omega⟩<;>simp only [go_sem,Int.natCast_succ,hnx]
   all_goals first|rfl|omega
  | false=>
   rw [hp] at hnx
   have hnx:aW row 1=([1],false):=hnx
   (repeat' with_reducible first|intro _|refine rz ?_|refine ra ?_ ?_|omega|simp only [go_sem,f1,hp,g1,g2,Int.natCast_zero])
   refine ⟨1,aK.ak rfl ?_ ?_,by omega,by omega⟩<;>simp only [go_sem,Int.natCast_succ,hnx]
   all_goals first|rfl|omega
 have f0:((i:Int)=0)=False:=eq_false (by omega)
 have hl:=k2 (by omega)
 generalize hs:aW row i=st at *
 obtain ⟨l,ink⟩:=st
 dsimp only at *
 have hb:=EI (l:=l) (B:=i) k3 (Int.le_refl 0) (by omega) (l.length - 1)
 have hix:((l.length:Int) - 1).toNat=l.length - 1:=by omega
 by_cases hp:row.getD i false=ink
 ·have hnx:aW row (i+1)=(l.set (l.length - 1) (l.getD (l.length - 1) 0+1),row.getD i false):=by rw [hnx];unfold iI;rw [if_neg h0];dsimp only;rw [if_pos hp]
  have hp2:(¬row.getD i false=ink)=False:=eq_false fun q=>q hp
  (repeat' with_reducible first|intro _|refine rz ?_|refine ra ?_ ?_|omega|simp only [go_sem,f1,f0,hp,hix])
  refine ⟨i+1,aK.ak rfl ?_ ?_,by omega,by omega⟩<;>simp only [go_sem,Int.natCast_succ,hnx,hp]
 ·have hnx:aW row (i+1)=((l++[0]).set l.length 1,row.getD i false):=by
   rw [hnx];unfold iI;rw [if_neg h0];dsimp only;rw [if_neg hp]
   have e1:(l++[(0:Int)]).length - 1=l.length:=by simp
   have e2:(l++[(0:Int)]).getD l.length 0=0:=by simp [List.getD]
   rw [e1,e2];rfl
  have hix2:((l.length+1:Nat):Int) - 1=(l.length:Int):=by omega
  have e2:(l++[(0:Int)]).getD l.length 0=0:=by simp [List.getD]
  (repeat' with_reducible first|intro _|refine rz ?_|refine ra ?_ ?_|omega|simp only [go_sem,f1,f0,hp,hix2,Int.toNat_natCast,e2])
  refine ⟨i+1,aK.ak rfl ?_ ?_,by omega,by omega⟩<;>simp only [go_sem,Int.natCast_succ,hnx]
set_option maxHeartbeats 4000000 in
theorem Ko (row:List Bool) (h:row.length≤4000):aC Tryz.prog 58 [.ro (.bools row)] (.own 0) [(0,.row 3 (.ints .i64 (aW row row.length).1))]:=by
 refine aC.aJ Tryz.func58 rfl (by decide) (by simp [Tryz.f58]) [.tmp 2] rfl fun w0 T0 _=>?_
 simp only [Tryz.f58,aB]
 (repeat' with_reducible first|intro _|exact dn|refine rn ?_|refine ra ?_ ?_)
 refine aH.intro (fun i:Nat=>⟨34,[(7,.ro (.bools row)),(8,.int .i64 row.length),(9,.int .i64 i),(3,.own 0),(4,.bool (aW row i).2)],[(0,.row 3 (.ints .i64 (aW row i).1))],1⟩) (fun i=>i≤row.length) (fun i=>row.length - i) 0 ?_ (Nat.zero_le _) fun i hi=>?_
 ·refine aK.ak rfl ?_ ?_<;>simp only [go_sem,Int.natCast_succ,aW]
 obtain ⟨k1,k2,k3⟩:=oQ row i
 by_cases hlt:i<row.length
 rotate_left
 ·have f1:((i:Int)<(row.length:Int))=False:=eq_false (by omega)
  have e:i=row.length:=by omega
  subst e
  (repeat' with_reducible first|intro _|refine rz ?_|refine ra ?_ ?_|omega|simp only [go_sem,f1])
  refine bg.auto 1 ?_ rfl ?_<;>simp only [go_sem,Int.natCast_succ,Post]
 have f1:((i:Int)<(row.length:Int))=True:=eq_true (by omega)
 have hnx:aW row (i+1)=iI (aW row i).1 (aW row i).2 i (row.getD i false):=rfl
 by_cases h0:i=0
 ·subst h0
  have z:aW row 0=([],false):=rfl
  have g1:([0]:List Int).getD 0 0=0:=rfl
  have g2:([0,0]:List Int).getD 1 0=0:=rfl
  rw [z] at hnx ⊢
  cases hp:row.getD 0 false with
  | true=>
   rw [hp] at hnx
   have hnx:aW row 1=([0,1],true):=hnx
   (repeat' with_reducible first|intro _|refine rz ?_|refine ra ?_ ?_|omega|simp only [go_sem,f1,hp,g1,g2,Int.natCast_zero])
   refine ⟨1,aK.ak rfl ?_ ?_,by omega,by omega⟩<;>simp only [go_sem,Int.natCast_succ,hnx]
   all_goals first|rfl|omega
  | false=>
   rw [hp] at hnx
   have hnx:aW row 1=([1],false):=hnx
   (repeat' with_reducible first|intro _|refine rz ?_|refine ra ?_ ?_|omega|simp only [go_sem,f1,hp,g1,g2,Int.natCast_zero])
   refine ⟨1,aK.ak rfl ?_ ?_,by omega,by omega⟩<;>simp only [go_sem,Int.natCast_succ,hnx]
   all_goals first|rfl|omega
 have f0:((i:Int)=0)=False:=eq_false (by omega)
 have hl:=k2 (by omega)
 generalize hs:aW row i=st at *
 obtain ⟨l,ink⟩:=st
 dsimp only at *
 have hb:=EI (l:=l) (B:=i) k3 (Int.le_refl 0) (by omega) (l.length - 1)
 have hix:((l.length:Int) - 1).toNat=l.length - 1:=by omega
 by_cases hp:row.getD i false=ink
 ·have hnx:aW row (i+1)=(l.set (l.length - 1) (l.getD (l.length - 1) 0+1),row.getD i false):=by rw [hnx];unfold iI;rw [if_neg h0];dsimp only;rw [if_pos hp]
  have hp2:(¬row.getD i false=ink)=False:=eq_false fun q=>q hp
  (repeat' with_reducible first|intro _|refine rz ?_|refine ra ?_ ?_|omega|simp only [go_sem,f1,f0,hp,hix])
  refine ⟨i+1,aK.ak rfl ?_ ?_,by omega,by omega⟩<;>simp only [go_sem,Int.natCast_succ,hnx,hp]
 ·have hnx:aW row (i+1)=((l++[0]).set l.length 1,row.getD i false):=by
   rw [hnx];unfold iI;rw [if_neg h0];dsimp only;rw [if_neg hp]
   have e1:(l++[(0:Int)]).length - 1=l.length:=by simp
   have e2:(l++[(0:Int)]).getD l.length 0=0:=by simp [List.getD]
   rw [e1,e2];rfl
  have hix2:((l.length+1:Nat):Int) - 1=(l.length:Int):=by omega
  have e2:(l++[(0:Int)]).getD l.length 0=0:=by simp [List.getD]
  (repeat' with_reducible first|intro _|refine rz ?_|refine ra ?_ ?_|omega|simp only [go_sem,f1,f0,hp,hix2,Int.toNat_natCast,e2])
  refine ⟨i+1,aK.ak rfl ?_ ?_,by omega,by omega⟩<;>simp only [go_sem,Int.natCast_succ,hnx]
end Go.Fv.H
