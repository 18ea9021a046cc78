/-
  A part of the proof of the claim: walks over the program's functions and the plain laws that these need. No condition of its own.
-/
import Derived.Test.YtfhmmlobedilnaaGreatDoorFvPart10
import Derived.Test.YtfhmmlobedilnaaGreatDoorEMpCardPart1
import Derived.Lib.AtoiAll
import Derived.Lib.ItoaNum
import Derived.Test.YtfhmmlobedilnaaGreatDoorFvPart12
import Derived.Shelf.Strconv.Itoa3
import Derived.Lib.ItoaLen
import Derived.Test.YtfhmmlobedilnaaGreatDoorFvPart5
import Derived.Shelf.Strings.BuilderX
import Derived.Shelf.RegionOpenPlain
import Derived.Lib.Builder
import Derived.Lib.Walk
import Derived.WalkKit
import Derived.Laws.Externs
import Derived.Test.YtfhmmlobedilnaaGreatDoorFvPart11
import Derived.Shelf.Small.Strs
set_option linter.unusedSimpArgs false
set_option linter.unusedVariables false
set_option linter.unnecessarySimpa false
set_option maxRecDepth 8000
/- Distances of words: what the table, the script and their references compute, in plain words. -/
namespace Go.Fv.E
open Go
structure Mx where
 f:List UInt8
 t:List UInt8
 c:Int
deriving DecidableEq
structure Sw where
 o:List UInt8
 n:List UInt8
 c:Int
deriving DecidableEq
structure St where
 a:Nat
 b:Nat
 c:Int
deriving DecidableEq
structure Hg (sw:List Sw):Prop where
 o:∀ s,s∈sw→s.o≠[]
 n:∀ s,s∈sw→s.n≠[]
 ne:∀ s,s∈sw→s.o≠s.n
 c0:∀ s,s∈sw→0≤s.c
 c1:∀ s,s∈sw→s.c≤100
 sy:∀ s,s∈sw→(⟨s.n,s.o,s.c⟩:Sw)∈sw
def KW (sw:List Sw) (x y:List UInt8):List St:=(sw.filter fun s=>s.o.isPrefixOf x && s.n.isPrefixOf y).map fun s=>⟨s.o.length,s.n.length,s.c⟩
def steps (sw:List Sw) (x y:List UInt8):List St:=
 (if x≠[]∧y≠[]∧x.headD 0=y.headD 0 then [⟨1,1,0⟩] else [])++KW sw x y++(if x≠[]∧y≠[] then [⟨1,1,100⟩] else [])++(if x≠[] then [⟨1,0,100⟩] else [])++(if y≠[] then [⟨0,1,100⟩] else [])
def minL:List Int→Int
 | []=>0
 | [x]=>x
 | x::y::l=>min x (minL (y::l))
def Lr (sw:List Sw):Nat→List UInt8→List UInt8→Int
 | 0,_,_=>0
 | k+1,x,y=>minL ((steps sw x y).map fun s=>s.c+Lr sw k (x.drop s.a) (y.drop s.b))
def dist (sw:List Sw) (x y:List UInt8):Int:=Lr sw (x.length+y.length) x y
section
variable {sw:List Sw} (hg:Hg sw)
include hg
end
def pick (sw:List Sw) (x y:List UInt8):St:=((steps sw x y).find? fun s=>decide (s.c+dist sw (x.drop s.a) (y.drop s.b)=dist sw x y)).getD ⟨0,1,100⟩
section
variable {sw:List Sw} (hg:Hg sw)
include hg
end
end Go.Fv.E
/- Lists of mixes: what is wrong with them, in plain words. -/
namespace Go.Fv.E
open Go
def cu (s:List UInt8):Bool:=decide (1≤s.length) && decide (s.length≤3)
abbrev Key:=List UInt8 × List UInt8
def Mx.key (m:Mx):Key:=(m.f,m.t)
def vZ (seen:List Key) (m:Mx):Int:=
 if cu m.f=false∨cu m.t=false∨m.f=m.t then 2 else if m.c<0∨100<m.c then 3 else if m.key∈seen then 6 else 0
def oq (seen:List Key):List Mx→Int
 | []=>0
 | m::l=>if vZ seen m=0 then oq (seen++[m.key]) l else vZ seen m
def bH (l:List Mx):Int:=if 200<l.length then 4 else oq [] l
theorem Gz {seen:List Key} {m:Mx} (h:vZ seen m=0):cu m.f=true∧cu m.t=true∧m.f≠m.t∧0≤m.c∧m.c≤100∧m.key∉seen:=by
 unfold vZ at h
 split at h
 ·omega
 ·rename_i h1
  split at h
  ·omega
  ·rename_i h2
   split at h
   ·omega
   ·rename_i h3
    simp only [not_or,Bool.not_eq_false] at h1
    exact ⟨h1.1,h1.2.1,h1.2.2,by omega,by omega,h3⟩
theorem wu:∀ {l:List Mx} {seen:List Key},oq seen l=0→∀ m,m∈l→cu m.f=true∧cu m.t=true∧m.f≠m.t∧0≤m.c∧m.c≤100
 | x::l,seen,h,m,hm=>by
  simp only [oq] at h
  split at h
  ·rename_i h1
   cases List.mem_cons.1 hm with
   | inl e=>subst e;have:=Gz h1;exact ⟨this.1,this.2.1,this.2.2.1,this.2.2.2.1,this.2.2.2.2.1⟩
   | inr e=>exact wu h m e
  ·rename_i h1;exact absurd h h1
theorem lZ {l:List Mx} (h:bH l=0):l.length≤200∧∀ m,m∈l→cu m.f=true∧cu m.t=true∧m.f≠m.t∧0≤m.c∧m.c≤100:=by
 unfold bH at h
 split at h
 ·omega
 ·rename_i h1;exact ⟨by omega,wu h⟩
theorem FQ {s:List UInt8} (h:cu s=true):s≠[]:=by
 rintro rfl;simp [cu] at h
theorem qo {s:List UInt8} (h:cu s=true):1≤s.length∧s.length≤3:=by simpa [cu] using h
def l7 (acc:List Mx):List Mx→List Mx
 | []=>acc
 | m::l=>l7 (if bH (acc++[m])=0 then acc++[m] else acc) l
end Go.Fv.E
/- Tokens of a text: what Split and its reference compute, in plain words. -/
namespace Go.Fv.E
open Go
abbrev Bytes:=List UInt8
end Go.Fv.E
/- Texts cut at a byte. -/
namespace Go.Fv.E
open Go Go.Proofs
def fZ (c:UInt8) (s:Bytes):Bytes:=s.takeWhile fun x=>decide (x≠c)
def lD (c:UInt8) (s:Bytes):Bytes:=s.dropWhile fun x=>decide (x≠c)
theorem eF (c:UInt8) (s:Bytes):fZ c s++lD c s=s:=List.takeWhile_append_dropWhile
theorem LX (c:UInt8) (s:Bytes):(lD c s).length≤s.length:=by
 have:=congrArg List.length (eF c s);rw [List.length_append] at this;omega
theorem H8 (c:UInt8) (s:Bytes):c∉fZ c s:=by
 unfold fZ
 induction s with
 | nil=>simp
 | cons x s ih=>
  rw [List.takeWhile_cons]
  split
  ·rename_i h
   intro hm
   rcases List.mem_cons.1 hm with e|hm
   ·subst e;simp at h
   ·exact ih hm
  ·simp
theorem qW (c:UInt8) (s:Bytes):lD c s=[]∨∃ t,lD c s=c::t:=by
 cases h:lD c s with
 | nil=>exact .inl rfl
 | cons x t=>
  refine .inr ⟨t,?_⟩
  have hd:=List.head?_dropWhile_not (fun x=>decide (x≠c)) s
  unfold lD at h
  rw [h] at hd
  simp at hd
  rw [hd]
theorem EW {c:UInt8} {a:Bytes} (h:c∉a) (b:Bytes):fZ c (a++c::b)=a∧lD c (a++c::b)=c::b:=by
 unfold fZ lD
 induction a with
 | nil=>simp
 | cons x a ih=>
  have hx:x≠c:=fun e=>h (by simp [e])
  have ha:c∉a:=fun e=>h (.tail _ e)
  obtain ⟨i1,i2⟩:=ih ha
  constructor
  ·rw [List.cons_append,List.takeWhile_cons,if_pos (by simpa using hx),i1]
  ·rw [List.cons_append,List.dropWhile_cons,if_pos (by simpa using hx),i2]
theorem zn {c:UInt8} {a:Bytes} (h:c∉a):fZ c a=a∧lD c a=[]:=by
 unfold fZ lD
 induction a with
 | nil=>simp
 | cons x a ih=>
  have hx:x≠c:=fun e=>h (by simp [e])
  obtain ⟨i1,i2⟩:=ih fun e=>h (.tail _ e)
  constructor
  ·rw [List.takeWhile_cons,if_pos (by simpa using hx),i1]
  ·rw [List.dropWhile_cons,if_pos (by simpa using hx),i2]
theorem LY {c:UInt8} {s t:Bytes} {x:UInt8} (h:lD c s=x::t):t.length<s.length:=by
 have:=LX c s;rw [h,List.length_cons] at this;omega
theorem H7 (c x:UInt8) (s:Bytes):fZ c (x::s)=if x=c then [] else x::fZ c s:=by
 unfold fZ
 rw [List.takeWhile_cons]
 by_cases h:x=c<;>simp [h]
theorem qg (c:UInt8) (s:Bytes):c∈s↔lD c s≠[]:=by
 constructor
 ·intro h e
  have h1:=eF c s
  rw [e,List.append_nil] at h1
  rw [←h1] at h
  exact H8 c s h
 ·intro h
  rcases qW c s with e|⟨t,e⟩
  ·exact absurd e h
  ·rw [←eF c s,e];simp
def rM (c:UInt8):Nat→Bytes→List Bytes
 | 0,s=>[s]
 | n+1,s=>fZ c s::rM c n ((lD c s).drop 1)
def nX (c:UInt8) (s:Bytes):List Bytes:=rM c (s.count c) s
theorem Cc (c:UInt8):∀ (n:Nat) (s:Bytes),(rM c n s).length=n+1
 | 0,_=>rfl
 | n+1,s=>by simp [rM,Cc c n]
theorem rC {c:UInt8} {s t:Bytes} {x:UInt8} (h:lD c s=x::t):s.count c=t.count c+1:=by
 rcases qW c s with e|⟨u,e⟩
 ·rw [e] at h;cases h
 ·rw [e] at h;cases h
  conv=>lhs;rw [←eF c s,e]
  rw [List.count_append,List.count_cons_self,List.count_eq_zero_of_not_mem (H8 c s)];omega
theorem rD {c:UInt8} {s:Bytes} (h:0<s.count c):∃ t,lD c s=c::t:=by
 rcases qW c s with e|h2
 ·exact absurd e ((qg c s).1 (List.count_pos_iff.1 h))
 ·exact h2
end Go.Fv.E
/- Mixes as a text: what is written, and how it is read. -/
namespace Go.Fv.E
open Go Go.Proofs
def vU (m:Mx):Bytes:=aY m.f++32::(aY m.t++32::Lib.itoa m.c)
def lF (m:Mx):Bytes:=aY m.f++[32]++aY m.t++[32]++Lib.itoa m.c++[10]
theorem MJ (m:Mx):lF m=vU m++[10]:=by simp [lF,vU,List.append_assoc]
def jD:Bytes→Option Bytes
 | []=>some []
 | c::s=>if c=92 then
   match s with
   | []=>none
   | d::t=>if d=115 then (jD t).map (32::·) else if d=110 then (jD t).map (10::·) else if d=92 then (jD t).map (92::·) else none
  else (jD s).map (c::·)
def uz (s:Bytes):Bytes × Bool:=match jD s with
 | some b=>(b,decide (s≠[]))
 | none=>([],false)
def CJ (s:Bytes):Option Int:=match Lib.atoiAll s with
 | .ok n=>if s.length≤3∧0≤n∧Lib.itoa n=s then some n else none
 | _=>none
def JK (s:Bytes):Option Mx:=match nX 32 s with
 | [a,b,c]=>if (uz a).2=true∧(uz b).2=true then (CJ c).map fun n=>⟨(uz a).1,(uz b).1,n⟩ else none
 | _=>none
def nY:Nat→Bytes→List Mx→Nat→List Mx × Int × Int
 | 0,_,acc,_=>(acc,0,0)
 | n+1,s,acc,i=>if s=[] then (acc,0,0) else match lD 10 s with
  | []=>([],i,8)
  | _::t=>match JK (fZ 10 s) with
   | none=>([],i,8)
   | some r=>nY n t (acc++[r]) (i+1)
theorem nO {c:UInt8} (h:c≠92) (s:Bytes):jD (c::s)=(jD s).map (c::·):=by
 rw [jD.eq_def]
 dsimp only
 rw [if_neg h]
theorem FZ:jD [92]=none:=by simp [jD]
theorem qy (s:Bytes):jD (92::115::s)=(jD s).map (32::·):=by simp [jD]
theorem qA (s:Bytes):jD (92::110::s)=(jD s).map (10::·):=by simp [jD]
theorem qB (s:Bytes):jD (92::92::s)=(jD s).map (92::·):=by simp [jD]
theorem Ad {d:UInt8} (h1:d≠115) (h2:d≠110) (h3:d≠92) (s:Bytes):jD (92::d::s)=none:=by
 simp [jD,h1,h2,h3]
theorem F5:∀ s:Bytes,jD (aY s)=some s
 | []=>by simp [aY,jD]
 | c::s=>by
  have ih:=F5 s
  show jD (lM c++aY s)=_
  have key:∀ k:UInt8,c.toNat=k.toNat→c=k:=fun k h=>UInt8.toNat_inj.1 h
  unfold lM
  by_cases h1:c.toNat=10
  ·rw [if_pos h1,key 10 h1]
   show jD (92::110::aY s)=_
   rw [qA,ih];rfl
  by_cases h2:c.toNat=32
  ·rw [if_neg h1,if_pos h2,key 32 h2]
   show jD (92::115::aY s)=_
   rw [qy,ih];rfl
  by_cases h3:c.toNat=92
  ·rw [if_neg h1,if_neg h2,if_pos h3,key 92 h3]
   show jD (92::92::aY s)=_
   rw [qB,ih];rfl
  rw [if_neg h1,if_neg h2,if_neg h3]
  show jD (c::aY s)=_
  rw [nO (fun e=>h3 (by rw [e];rfl)),ih];rfl
theorem zB (c:UInt8):(10:UInt8)∉lM c∧(32:UInt8)∉lM c∧lM c≠[]:=by
 unfold lM
 split
 ·decide
 ·rename_i h1
  split
  ·decide
  ·rename_i h2
   split
   ·decide
   ·refine ⟨fun h=>h1 ?_,fun h=>h2 ?_,by simp⟩<;>rw [←List.mem_singleton.1 h]<;>rfl
theorem ug (s:Bytes):(10:UInt8)∉aY s∧(32:UInt8)∉aY s:=by
 unfold aY
 constructor<;>intro h<;>obtain ⟨c,_,h⟩:=List.mem_flatMap.1 h
 ·exact (zB c).1 h
 ·exact (zB c).2.1 h
theorem Kv {s:Bytes} (h:s≠[]):aY s≠[]:=by
 cases s with
 | nil=>exact absurd rfl h
 | cons c s=>
  intro e
  exact (zB c).2.2 (List.append_eq_nil_iff.1 (show lM c++aY s=[] from e)).1
theorem F6 {s:Bytes} (h:s≠[]):uz (aY s)=(s,true):=by
 unfold uz
 rw [F5]
 simp [Kv h]
theorem DX:∀ n:Fin 101,Lib.atoiAll (Lib.itoa (n.val:Int))=.ok (n.val:Int)∧(Lib.itoa (n.val:Int)).length≤3∧(10:UInt8)∉Lib.itoa (n.val:Int)∧(32:UInt8)∉Lib.itoa (n.val:Int):=by decide +kernel
theorem pK {c:Int} (h0:0≤c) (h1:c≤100):CJ (Lib.itoa c)=some c∧(10:UInt8)∉Lib.itoa c∧(32:UInt8)∉Lib.itoa c∧(Lib.itoa c).length≤3:=by
 obtain ⟨n,rfl⟩:∃ n:Nat,c=n:=⟨c.toNat,by omega⟩
 obtain ⟨a1,a2,a3,a4⟩:=DX ⟨n,by omega⟩
 refine ⟨?_,a3,a4,a2⟩
 unfold CJ
 dsimp only at a1 a2
 rw [a1]
 dsimp only
 rw [if_pos ⟨a2,h0,rfl⟩]
theorem KI {c:UInt8} {a:Bytes} (h:c∉a):nX c a=[a]:=by
 unfold nX
 rw [List.count_eq_zero_of_not_mem h];rfl
theorem FD {c:UInt8} {a:Bytes} (h:c∉a) (b:Bytes):nX c (a++c::b)=a::nX c b:=by
 unfold nX
 rw [List.count_append,List.count_cons_self,List.count_eq_zero_of_not_mem h,Nat.zero_add]
 show fZ c _::rM c _ ((lD c _).drop 1)=_
 obtain ⟨h1,h2⟩:=EW h b
 rw [h1,h2];rfl
def NW (m:Mx):Prop:=m.f≠[]∧m.t≠[]∧0≤m.c∧m.c≤100
theorem Jr (m:Mx) (h:NW m):JK (vU m)=some m:=by
 obtain ⟨h1,h2,h3,h4⟩:=h
 obtain ⟨c1,_,c2,_⟩:=pK h3 h4
 unfold JK vU
 rw [FD (ug m.f).2,FD (ug m.t).2,KI c2]
 dsimp only
 rw [F6 h1,F6 h2,if_pos ⟨rfl,rfl⟩,c1]
 rfl
theorem IY (m:Mx) (h:NW m):(10:UInt8)∉vU m:=by
 obtain ⟨h1,h2,h3,h4⟩:=h
 have h5:=(pK h3 h4).2.1
 unfold vU
 simp only [List.mem_append,List.mem_cons,not_or]
 exact ⟨(ug m.f).1,by decide,(ug m.t).1,by decide,h5⟩
theorem CU:∀ (l:List Mx) (n:Nat) (acc:List Mx) (i:Nat),(∀ r,r∈l→NW r)→l.length<n→nY n (l.flatMap lF) acc i=(acc++l,0,0)
 | [],0,acc,i,_,h=>absurd h (by omega)
 | [],n+1,acc,i,_,_=>by simp [nY]
 | r::l,0,_,_,_,h=>absurd h (by omega)
 | r::l,n+1,acc,i,hr,h=>by
  have h1:=hr r (.head _)
  have e:(r::l).flatMap lF=vU r++10::l.flatMap lF:=by
   rw [List.flatMap_cons,MJ];simp
  unfold nY
  rw [e]
  obtain ⟨b1,b2⟩:=EW (IY r h1) (l.flatMap lF)
  rw [b1,b2,Jr r h1,if_neg (by simp)]
  dsimp only
  rw [CU l n _ _ (fun q hq=>hr q (.tail _ hq)) (by rw [List.length_cons] at h;omega)]
  simp
theorem wC:∀ (n m:Nat) (s:Bytes) (acc:List Mx) (i:Nat),s.length<n→s.length<m→nY n s acc i=nY m s acc i
 | 0,_,s,_,_,h,_=>absurd h (by omega)
 | _,0,s,_,_,_,h=>absurd h (by omega)
 | n+1,m+1,s,acc,i,h1,h2=>by
  unfold nY
  cases h:lD 10 s with
  | nil=>rfl
  | cons x t=>
   have:=LY h
   dsimp only
   cases JK (fZ 10 s) with
   | none=>rfl
   | some r=>dsimp only;rw [wC n m t _ _ (by omega) (by omega)]
theorem wE (n:Nat) (s:Bytes) (acc:List Mx) (i:Nat) (h:s≠[]):nY (n+1) s acc i=if 10∈s then (match JK (fZ 10 s) with|some r=>nY n ((lD 10 s).drop 1) (acc++[r]) (i+1)|none=>([],(i:Int),8)) else ([],(i:Int),8):=by
 conv=>lhs;unfold nY
 rw [if_neg h]
 have hm:=qg 10 s
 cases h2:lD 10 s with
 | nil=>
  rw [h2] at hm
  rw [if_neg (fun e=>hm.1 e rfl)]
 | cons x t=>
  have hm:10∈s:=hm.2 (by rw [h2];simp)
  rw [if_pos hm]
  dsimp only
  cases JK (fZ 10 s)<;>rfl
def yR (s:Bytes):List Mx × Int × Int:=if 1048576<s.length then ([],0,4) else
 if (nY (s.length+1) s [] 0).2.2≠0 then nY (s.length+1) s [] 0 else
 if bH (nY (s.length+1) s [] 0).1≠0 then ([],0,bH (nY (s.length+1) s [] 0).1) else ((nY (s.length+1) s [] 0).1,0,0)
theorem nG (s:Bytes):(aY s).length≤2*s.length:=by
 induction s with
 | nil=>simp [aY]
 | cons c s ih=>
  show (lM c++aY s).length≤_
  have:(lM c).length≤2:=by
   unfold lM
   (repeat' split)<;>simp
  rw [List.length_append,List.length_cons];omega
theorem Jk {m:Mx} (h1:m.f.length≤3) (h2:m.t.length≤3) (h3:0≤m.c) (h4:m.c≤100):3≤(lF m).length∧(lF m).length≤18:=by
 have a:=nG m.f
 have b:=nG m.t
 have c:=(pK h3 h4).2.2.2
 unfold lF
 simp only [List.length_append,List.length_cons,List.length_nil]
 omega
theorem MH {l:List Mx} (h:bH l=0):∀ r,r∈l→NW r:=fun r hr=>by
 obtain ⟨h1,h2,h3,h4,h5⟩:=(lZ h).2 r hr
 exact ⟨FQ h1,FQ h2,h4,h5⟩
theorem zQ {l:List Mx} (h:bH l=0):l.length≤200∧(l.flatMap lF).length≤18*l.length∧l.length≤(l.flatMap lF).length:=by
 obtain ⟨h0,h1⟩:=lZ h
 refine ⟨h0,?_⟩
 clear h h0
 induction l with
 | nil=>simp
 | cons m l ih=>
  obtain ⟨a,b,_,c,d⟩:=h1 m (.head _)
  have:=Jk (qo a).2 (qo b).2 c d
  have:=ih fun r hr=>h1 r (.tail _ hr)
  rw [List.flatMap_cons,List.length_append,List.length_cons]
  omega
theorem Ji {l:List Mx} (h:bH l=0):yR (l.flatMap lF)=(l,0,0):=by
 obtain ⟨h0,h1,h2⟩:=zQ h
 unfold yR
 rw [if_neg (by omega),CU l _ _ _ (MH h) (by omega)]
 simp [h]
def Mx.av (m:Mx):List AV:=[.str m.f,.str m.t,.int .i64 m.c]
def Mx.zero:Mx:=⟨[],[],0⟩
def aX (l:List Mx):au:=.objs 3 (l.map Mx.av)
theorem kS (l:List Mx) {i:Nat} (h:i<l.length):(l.map Mx.av).getD i []=[.str (l.getD i Mx.zero).f,.str (l.getD i Mx.zero).t,.int .i64 (l.getD i Mx.zero).c]:=by
 rw [getD_lt (by simpa using h),getD_lt h,List.getElem_map];rfl
theorem laidOut:laidOutB Tryz.prog=true:=by kernel_rfl
theorem MF:Maps.Keyed Tryz.prog 59:=Eb laidOut (of_decide_eq_true (by kernel_rfl)) (by kernel_rfl) (by rw [Tryz.underlying59])
theorem Lu (k:Key):oJ Tryz.prog 59 (key2 k):=oJ.NT Tryz.underlying59 Tryz.underlying9 (by kernel_rfl) c59 c9 (of_decide_eq_true (by kernel_rfl)) k.1 k.2
theorem MC (l:List Key):uK Tryz.prog 59 (l.map key2):=F8 Lu l
theorem FT (s:List UInt8):aU Tryz.prog 27 [.str s] (.bool (cu s)) []:=by
 have e:cu s=decide (1≤(s.length:Int)∧(s.length:Int)≤3):=by
  unfold cu
  rw [←Bool.decide_and];congr 1;apply propext;omega
 rw [e]
 refine aU.bT Tryz.func27 rfl (by decide) (by simp [Tryz.f27]) [.tmp 2] rfl fun w0 T0 _=>?_
 simp only [Tryz.f27,aI]
 (repeat' with_reducible first|intro _|exact dn|refine rn ?_|refine ra ?_ ?_)
 refine dJ.auto 0 ?_ rfl ?_<;>simp only [go_sem,Int.natCast_succ,Post]
def dA (l:List Mx) (i:Nat):List Key:=(l.take i).map Mx.key
theorem wI (l:List Mx) {i:Nat} (h:i<l.length):dA l (i+1)=dA l i++[(l.getD i Mx.zero).key]:=by
 unfold dA
 rw [List.take_succ_eq_append_getElem h,List.map_append,getD_lt h];rfl
theorem wo (l:List Mx) {i:Nat} (h:i<l.length) (s:List Key):oq s (l.drop i)=if vZ s (l.getD i Mx.zero)=0 then oq (s++[(l.getD i Mx.zero).key]) (l.drop (i+1)) else vZ s (l.getD i Mx.zero):=by
 rw [List.drop_eq_getElem_cons h,getD_lt h];rfl
theorem II {α:Type} [DecidableEq α] {l:List α} {x:α} (h:x∉l):IG l x=l++[x]:=if_neg h
set_option maxHeartbeats 4000000 in
theorem og (l:List Mx):aU Tryz.prog 14 [.ro (aX l)] (.int .i64 (bH l)) []:=by
 unfold bH
 refine aU.bT Tryz.func14 rfl (by decide) (by simp [Tryz.f14]) [.tmp 2] rfl fun w0 T0 _=>?_
 simp only [Tryz.f14,aI]
 (repeat' with_reducible first|intro _|refine rz ?_|refine ra ?_ ?_|omega|simp only [go_sem,List.length_map,aX])
 ·refine dJ.auto 0 ?_ rfl ?_<;>simp only [go_sem,Int.natCast_succ,Post]
  rw [if_pos (by omega)]
 rw [if_neg (by omega)]
 refine bM.intro (fun i:Nat=>⟨59,[(14,.int .i64 i),(13,.int .i64 l.length),(12,.ro (aX l)),(3,.own 0),(4,.fn 27 [])],[(0,.map ((dA l i).map key2) ((dA l i).map fun _=>.bool true))],1⟩) (fun i=>i≤l.length∧oq (dA l i) (l.drop i)=oq [] l) (fun i=>l.length - i) 0 ?_ ⟨Nat.zero_le _,rfl⟩ fun i hi=>?_
 ·refine dB.bJ rfl ?_ ?_<;>simp only [go_sem,Int.natCast_succ,dA,aX]
 by_cases hlt:i<l.length
 ·have he:=kS l hlt
  have hs:=wI l hlt
  have hd:=wo l hlt (dA l i)
  generalize l.getD i Mx.zero=m at *
  have k1:=FT m.f
  have k2:=FT m.t
  have kk:oJ Tryz.prog 59 (.agg [.str m.f,.str m.t]):=Lu m.key
  have ks:=MC (dA l i)
  have hE:vZ (dA l i) m=if cu m.f=false∨cu m.t=false∨m.f=m.t then 2 else if m.c<0∨100<m.c then 3 else if m.key∈dA l i then 6 else 0:=rfl
  have e3:tN ((dA l i).map key2) ((dA l i).map fun _=>.bool true) (.agg [.str m.f,.str m.t])=decide (m.key∈dA l i):=(Iz D5 (dA l i) m.key).trans (by congr)
  have e4:kY ((dA l i).map key2) (.agg [.str m.f,.str m.t])=_:=G8 D5 (dA l i) m.key
  have e5:yZ ((dA l i).map key2) ((dA l i).map fun _=>.bool true) (.agg [.str m.f,.str m.t]) (.bool true)=_:=G9 D5 (dA l i) m.key
  generalize cu m.f=p at *
  generalize cu m.t=q at *
  (repeat' with_reducible first|intro _|refine rz ?_|refine ra ?_ ?_|omega|simp only [go_sem,dR,he,aX,List.length_map])
  refine ah.k k1 ?_
  cases p with
  | false=>
   (repeat' with_reducible first|intro _|exact dn|refine rn ?_|refine ra ?_ ?_)
   refine dJ.auto 0 ?_ rfl ?_<;>simp only [go_sem,Int.natCast_succ,Post]
   rw [←hi.2,hd,hE];simp
  | true=>
   (repeat' with_reducible first|intro _|exact dn|refine rn ?_|refine ra ?_ ?_)
   refine ah.k k2 ?_
   cases q with
   | false=>
    (repeat' with_reducible first|intro _|exact dn|refine rn ?_|refine ra ?_ ?_)
    refine dJ.auto 0 ?_ rfl ?_<;>simp only [go_sem,Int.natCast_succ,Post]
    rw [←hi.2,hd,hE];simp
   | true=>
    (repeat' with_reducible first|intro _|refine rz ?_|refine ra ?_ ?_|omega|simp only [go_sem,e3,e4,e5,EP,eq_true kk,eq_true ks,eq_true MF])
    ·rename_i h1
     refine dJ.auto 0 ?_ rfl ?_<;>simp only [go_sem,Int.natCast_succ,Post]
     rw [←hi.2,hd,hE];simp [h1]
    ·rename_i h1 _ h2
     refine dJ.auto 0 ?_ rfl ?_<;>simp only [go_sem,Int.natCast_succ,Post]
     rw [←hi.2,hd,hE];simp [h1,h2]
    ·rename_i h1 _ h2 h3
     refine dJ.auto 0 ?_ rfl ?_<;>simp only [go_sem,Int.natCast_succ,Post]
     rw [←hi.2,hd,hE];simp [h1,h2,h3]
    ·rename_i h1 _ h2 h3
     have h0:vZ (dA l i) m=0:=by rw [hE];simp [h1,h2,h3]
     rw [if_pos h0,hi.2] at hd
     refine ⟨i+1,dB.bJ rfl ?_ ?_,⟨by omega,by rw [hs];exact hd.symm⟩,by omega⟩<;>simp only [go_sem,Int.natCast_succ,hs,II h3,aX]
 ·have e:i=l.length:=by omega
  have h0:=hi.2
  rw [e,List.drop_length] at h0
  (repeat' with_reducible first|intro _|refine rz ?_|refine ra ?_ ?_|omega|simp only [go_sem,aX,List.length_map])
  refine dJ.auto 0 ?_ rfl ?_<;>simp only [go_sem,Int.natCast_succ,Post]
  rw [←h0];rfl
end Go.Fv.E
/- strconv.Itoa of any number, by the contract of the shelf. -/
namespace Go.Proofs
open Go.Shelf
def Tryz.zG:Go.Shelf.Ren:=⟨fun|171=>18|243=>31|246=>48|283=>69|284=>70|285=>71|286=>72|129=>92|317=>91|318=>93|319=>94|320=>95|337=>110|338=>111|n=>n,fun|3=>3|9=>9|2=>2|4=>4|171=>120|0=>0|53=>121|37=>41|5=>5|173=>124|212=>150|51=>63|20=>20|213=>151|46=>127|232=>179|233=>180|n=>n,fun|17=>3|18=>6|19=>7|n=>n⟩
theorem Tryz.laysM171:Go.Proofs.LaysM.n171 Tryz.prog Tryz.zG:={
 mixed:=by kernel_rfl
 f129:=Tryz.func92.trans (congrArg some (by kernel_rfl))
 f171:=Tryz.func18.trans (congrArg some (by kernel_rfl))
 f243:=Tryz.func31.trans (congrArg some (by kernel_rfl))
 f246:=Tryz.func48.trans (congrArg some (by kernel_rfl))
 f283:=Tryz.func69.trans (congrArg some (by kernel_rfl))
 f284:=Tryz.func70.trans (congrArg some (by kernel_rfl))
 f285:=Tryz.func71.trans (congrArg some (by kernel_rfl))
 f286:=Tryz.func72.trans (congrArg some (by kernel_rfl))
 f317:=Tryz.func91.trans (congrArg some (by kernel_rfl))
 f318:=Tryz.func93.trans (congrArg some (by kernel_rfl))
 f319:=Tryz.func94.trans (congrArg some (by kernel_rfl))
 f320:=Tryz.func95.trans (congrArg some (by kernel_rfl))
 f337:=Tryz.func110.trans (congrArg some (by kernel_rfl))
 f338:=Tryz.func111.trans (congrArg some (by kernel_rfl))
 t0:=Tryz.underlying0
 a0:=Tryz.isAgg0
 z0:=Tryz.sizeOf0
 v0:=Tryz.zeroValue0
 t2:=Tryz.underlying2
 a2:=Tryz.isAgg2
 z2:=Tryz.sizeOf2
 v2:=Tryz.zeroValue2
 t3:=Tryz.underlying3
 a3:=Tryz.isAgg3
 z3:=Tryz.sizeOf3
 v3:=Tryz.zeroValue3
 t4:=Tryz.underlying4
 a4:=Tryz.isAgg4
 z4:=Tryz.sizeOf4
 v4:=Tryz.zeroValue4
 t5:=Tryz.underlying5
 a5:=Tryz.isAgg5
 z5:=Tryz.sizeOf5
 v5:=Tryz.zeroValue5
 t9:=Tryz.underlying9
 a9:=Tryz.isAgg9
 z9:=Tryz.sizeOf9
 v9:=Tryz.zeroValue9
 t20:=Tryz.underlying20
 a20:=Tryz.isAgg20
 z20:=Tryz.sizeOf20
 v20:=Tryz.zeroValue20
 t37:=Tryz.underlying41
 a37:=Tryz.isAgg41
 z37:=Tryz.sizeOf41
 v37:=Tryz.zeroValue41
 t46:=Tryz.underlying127
 a46:=Tryz.isAgg127
 z46:=Tryz.sizeOf127
 v46:=Tryz.zeroValue127
 t51:=Tryz.underlying63
 a51:=Tryz.isAgg63
 z51:=Tryz.sizeOf63
 v51:=Tryz.zeroValue63
 t53:=Tryz.underlying121
 a53:=Tryz.isAgg121
 z53:=Tryz.sizeOf121
 v53:=Tryz.zeroValue121
 t171:=Tryz.underlying120
 a171:=Tryz.isAgg120
 z171:=Tryz.sizeOf120
 v171:=Tryz.zeroValue120
 t173:=Tryz.underlying124
 a173:=Tryz.isAgg124
 z173:=Tryz.sizeOf124
 v173:=Tryz.zeroValue124
 t212:=Tryz.underlying150
 a212:=Tryz.isAgg150
 z212:=Tryz.sizeOf150
 v212:=Tryz.zeroValue150
 t213:=Tryz.underlying151
 a213:=Tryz.isAgg151
 z213:=Tryz.sizeOf151
 t232:=Tryz.underlying179
 a232:=Tryz.isAgg179
 z232:=Tryz.sizeOf179
 v232:=Tryz.zeroValue179
 t233:=Tryz.underlying180
 a233:=Tryz.isAgg180
 z233:=Tryz.sizeOf180
 v233:=Tryz.zeroValue180
 g17:=by kernel_rfl
 g18:=by kernel_rfl
 g19:=by kernel_rfl
 i0:=by kernel_rfl
 i2:=by kernel_rfl
 i3:=by kernel_rfl
 i4:=by kernel_rfl
 i5:=by kernel_rfl
 i9:=by kernel_rfl
 i20:=by kernel_rfl
 i37:=by kernel_rfl
 i46:=by kernel_rfl
 i51:=by kernel_rfl
 i53:=by kernel_rfl
 i171:=by kernel_rfl
 i173:=by kernel_rfl
 i212:=by kernel_rfl
 i232:=by kernel_rfl
 i233:=by kernel_rfl
 m17:=by kernel_rfl
 m18:=by kernel_rfl
 m19:=by kernel_rfl }
end Go.Proofs
namespace Go.Fv.E
open Go Go.Proofs
theorem Jj {P:Program} {w:World} {g:Nat} (hw:lH P w) (hg:IC P g=some .pow) (hn:P.globalNamed "internal/strconv.uint64pow10" = some g):Lib.TabIs P w "internal/strconv.uint64pow10" .u64 Lib.pow10Tab:=by
 obtain ⟨ob,hh,t,rfl⟩:=hw g _ hg
 unfold Lib.TabIs World.var?
 rw [hn]
 simp only [Option.bind_some,hh]
theorem uo (n:Int) (h0:-9223372036854775808≤n) (h1:n≤9223372036854775807):aU Tryz.prog 18 [.int .i64 n] (.str (Lib.itoa n)) []:=by
 refine ⟨⟨_,Tryz.func18,by kernel_rfl,by kernel_rfl⟩,fun w T vals hg hv=>?_⟩
 cases hv with
 | cons _ _ _ _ h1 hv=>
  cases hv
  cases h1 with
  | int _ _ e1=>
   have L:=Tryz.laysM171
   have htab:=Jj hg (g:=3) (by kernel_rfl) (by kernel_rfl)
   refine (Any.strconv_Itoa L n h0 (by assumption) w htab).mono ?_
   rintro e w' ⟨rfl,k,os,rfl⟩
   refine ⟨_,rfl,?_,fun _=>undef,0,?_,?_,?_⟩
   ·refine ⟨rfl,rfl,rfl,?_,trivial,fun b hb=>?_⟩
    ·show w.heap.size≤(w.heap++os).size
     rw [Array.size_append];omega
    ·show (w.heap++os)[b]?=_
     exact Array.getElem?_append_left hb
   ·refine .str _ ?_
    have:=Lib.itoa_length_le n h0 (by assumption)
    have e:maxLen=9223372036854775807:=rfl
    omega
   ·intro i it h;cases h
   ·intro i j it jt b h;cases h
end Go.Fv.E
/- mixWord, and the reference's text of mixes. -/
namespace Go.Fv.E
open Go Go.Proofs
theorem wz (s:Bytes) (hs:s.length≤3):aU Tryz.prog 24 [.str s] (.str (aY s)) []:=by
 have k:=kX s hs
 have kn:=l9
 refine aU.bT Tryz.func24 rfl (by decide) (by simp [Tryz.f24]) [.tmp 2] rfl fun w0 T0 _=>?_
 simp only [Tryz.f24,aI]
 unfold nK MS at *
 unfold rO at *
 (repeat' with_reducible first|intro _|exact dn|refine rn ?_|refine ra ?_ ?_)
 refine ah.o kn 2 ?_
 (repeat' with_reducible first|intro _|exact dn|refine rn ?_|refine ra ?_ ?_)
 refine ah.i [1,2] k 7 ?_ (hNr:=by simp [dw,Item.below,Fv.below,aA,aW,aC])
 (repeat' with_reducible first|intro _|exact dn|refine rn ?_|refine ra ?_ ?_)
 refine dJ.auto 0 ?_ rfl ?_<;>simp only [go_sem,Int.natCast_succ,Post]
 all_goals trace_state
theorem CX (l:List Mx) {i:Nat} (h:i<l.length):(l.take (i+1)).flatMap lF=(l.take i).flatMap lF++lF (l.getD i Mx.zero):=by
 rw [List.take_succ_eq_append_getElem h,List.flatMap_append,getD_lt h];simp
theorem NK {l:List Mx} (h:bH l=0) {i:Nat} (hi:i<l.length):(l.getD i Mx.zero).f.length≤3∧(l.getD i Mx.zero).t.length≤3∧0≤(l.getD i Mx.zero).c∧(l.getD i Mx.zero).c≤100:=by
 rw [getD_lt hi]
 obtain ⟨h1,h2,_,h4,h5⟩:=(lZ h).2 _ (List.getElem_mem hi)
 exact ⟨(qo h1).2,(qo h2).2,h4,h5⟩
set_option maxHeartbeats 4000000 in
theorem xE (l:List Mx) (h:bH l=0):aU Tryz.prog 9 [.ro (aX l)] (.str (l.flatMap lF)) []:=by
 obtain ⟨hl,hln,_⟩:=zQ h
 refine aU.bT Tryz.func9 rfl (by decide) (by simp [Tryz.f9]) [.tmp 2] rfl fun w0 T0 _=>?_
 simp only [Tryz.f9,aI]
 (repeat' with_reducible first|intro _|refine rz ?_|refine ra ?_ ?_|omega|simp only [go_sem,aX,List.length_map])
 refine bM.intro (fun i:Nat=>⟨30,[(8,.int .i64 i),(7,.int .i64 l.length),(6,.ro (aX l)),(3,.str ((l.take i).flatMap lF))],[],0⟩) (fun i=>i≤l.length) (fun i=>l.length - i) 0 ?_ (Nat.zero_le _) fun i hi=>?_
 ·refine dB.bJ rfl ?_ ?_<;>simp only [go_sem,Int.natCast_succ,aX,List.flatMap_nil]
 by_cases hlt:i<l.length
 case neg=>
  have e:i=l.length:=by omega
  subst e
  have f1:((l.length:Int)<(l.length:Int))=False:=eq_false (by omega)
  rw [List.take_length]
  (repeat' with_reducible first|intro _|refine rz ?_|refine ra ?_ ?_|omega|simp only [go_sem,f1])
  refine dJ.auto 0 ?_ rfl ?_<;>simp only [go_sem,Int.natCast_succ,Post]
 have he:=kS l hlt
 obtain ⟨m1,m2,m3,m4⟩:=NK h hlt
 have ht:=CX l hlt
 have hj:∃ j:Nat,(i:Int)+1=j∧j=i+1:=⟨i+1,by omega,rfl⟩
 have f1:((i:Int)<(l.length:Int))=True:=eq_true (by omega)
 generalize l.getD i Mx.zero=m at *
 have k1:=wz m.f m1
 have k2:=wz m.t m2
 have k3:=uo m.c (by omega) (by omega)
 have e1:=nG m.f
 have e2:=nG m.t
 have e3:=(pK m3 m4).2.2.2
 have e4:((l.take i).flatMap lF).length≤(l.flatMap lF).length:=by
  conv=>rhs;rw [←List.take_append_drop i l]
  rw [List.flatMap_append,List.length_append];omega
 (repeat' with_reducible first|intro _|refine rz ?_|refine ra ?_ ?_|omega|simp only [go_sem,f1,aX,List.length_map,dR,he])
 refine aZ.lex [] [] (by kernel_rfl) (by kernel_rfl) ?_
 (repeat' with_reducible first|intro _|exact dn|refine rn ?_|refine ra ?_ ?_)
 (refine QV.intro (.str (aY m.f)) ?_ ?_;focus ((repeat' with_reducible first|intro _|exact dn|refine rn ?_|refine ra ?_ ?_);refine ah.k (k1) ?_;(repeat' with_reducible first|intro _|exact dn|refine rn ?_|refine ra ?_ ?_)))
 (repeat' with_reducible first|intro _|exact dn|refine rn ?_|refine ra ?_ ?_)
 (refine QV.intro (.str (aY m.t)) ?_ ?_;focus ((repeat' with_reducible first|intro _|exact dn|refine rn ?_|refine ra ?_ ?_);refine ah.k (k2) ?_;(repeat' with_reducible first|intro _|exact dn|refine rn ?_|refine ra ?_ ?_)))
 (repeat' with_reducible first|intro _|exact dn|refine rn ?_|refine ra ?_ ?_)
 (refine QV.intro (.str (Lib.itoa m.c)) ?_ ?_;focus ((repeat' with_reducible first|intro _|exact dn|refine rn ?_|refine ra ?_ ?_);refine ah.k (k3) ?_;(repeat' with_reducible first|intro _|exact dn|refine rn ?_|refine ra ?_ ?_)))
 (repeat' with_reducible first|intro _|exact dn|refine rn ?_|refine ra ?_ ?_)
 refine ⟨i+1,dB.bJ rfl ?_ ?_,by omega,by omega⟩<;>simp only [go_sem,Int.natCast_succ,ht,lF,List.append_assoc]
 all_goals rfl
end Go.Fv.E
/- A text is one word just where its tokens are that word alone; small letters. -/
namespace Go.Fv.E
open Go
end Go.Fv.E
/- Small letters: the bytes on the way. -/
namespace Go.Fv.E
open Go Go.Proofs
theorem kG (l:List UInt8):(aH l).length=l.length:=by simp [aH]
theorem jL (l:List UInt8):bytesOf (aH l)=l:=by
 unfold bytesOf aH
 rw [List.map_map]
 conv=>rhs;rw [←List.map_id l]
 refine List.map_congr_left fun b _=>?_
 simp
end Go.Fv.E
/- strings.Builder: copyCheck at this program. -/
namespace Go.Fv.E
open Go Go.Proofs Go.RowKit
theorem zX (w:World) (g:Nat) (a b v:Value) (t:TypeId) (h:w.heap[g]?=some (.cells #[a,b] t (0,0))):(w.setCell ⟨g,0,none⟩ v).heap[g]?=some (.cells #[v,b] t (0,0)):=by
 unfold World.setCell
 simp [h,Array.getElem?_modify]
theorem wJ (w:World) (g k:Nat) (v:Value) (h:k≠g):(w.setCell ⟨g,0,none⟩ v).heap[k]?=w.heap[k]?:=by
 unfold World.setCell
 simp only [Array.getElem?_modify]
 rw [if_neg (fun e=>h e.symm)]
theorem LH:(Tryz.prog.info? 43).map (·.size)=some 2:=by kernel_rfl
theorem NJ:liesAt Tryz.prog Tryz.prog.depth 43 (2 / Tryz.prog.cellsOf 43) 0 43 1=true:=by kernel_rfl
theorem OV:Tryz.f28.ntmps=20:=rfl
set_option maxHeartbeats 1000000 in
set_option maxRecDepth 100000 in
theorem Ic (b:Nat) (w:World) (h0:w.cell? ⟨b,0,none⟩=some (.pointer (some ⟨b,0,none⟩))) :
  Calls Tryz.prog 28 #[.pointer (some ⟨b,0,none⟩)] w fun e w'=>e=.returned (.tuple #[])∧w'=w:=by
 have t70:=Tryz.underlying40
 have t72:=Tryz.underlying43
 have a72:=Tryz.isAgg43
 have z72:=Tryz.sizeOf43
 have a70:=Tryz.isAgg40
 have z70:=Tryz.sizeOf40
 have hf:=Tryz.func28
 have mixed:Tryz.prog.follows .mixedOrders=true:=by kernel_rfl
 obtain ⟨j,hj,hjs⟩:=Option.map_eq_some_iff.1 LH
 have u70:=run_underlying t70
 have u72:=run_underlying t72
 have hn:=OV
 generalize Tryz.prog=P at *
 go_enter hf,hn
 go_wp2
 rw [Lib.run_neq_ptr_same w _ t70 hj]
 go_wp2
 go_end0
 exact ⟨rfl,rfl⟩
set_option maxHeartbeats 1000000 in
set_option maxRecDepth 100000 in
theorem Gg (b:Nat) (w:World) (h0:w.cell? ⟨b,0,none⟩=some (.pointer none)) (hsh:w.shape? b=some (43,2)) (hfz:w.frozen? ⟨b,0,none⟩=false) :
  Calls Tryz.prog 28 #[.pointer (some ⟨b,0,none⟩)] w fun e w'=>e=.returned (.tuple #[])∧w'=w.setCell ⟨b,0,none⟩ (.pointer (some ⟨b,0,none⟩)):=by
 have t70:=Tryz.underlying40
 have t72:=Tryz.underlying43
 have t164:=Tryz.underlying88
 have a72:=Tryz.isAgg43
 have z72:=Tryz.sizeOf43
 have a70:=Tryz.isAgg40
 have z70:=Tryz.sizeOf40
 have hf:=Tryz.func28
 have hx:=Tryz.func44
 have mixed:Tryz.prog.follows .mixedOrders=true:=by kernel_rfl
 obtain ⟨j,hj,hjs⟩:=Option.map_eq_some_iff.1 LH
 have hlies:=NJ
 have u70:=run_underlying t70
 have u72:=run_underlying t72
 have hn:=OV
 generalize Tryz.prog=P at *
 go_enter hf,hn
 go_wp2
 rw [Lib.run_to_unsafe w ⟨b,0,none⟩ t70 t164 hj (by rw [hjs];decide) hsh (Nat.zero_lt_succ 1)]
 simp only [Result.andThen]
 rw [Oper.upon_value]
 go_wp2
 rw [run_callFunc_extern hx (by kernel_rfl) (by kernel_rfl) (by kernel_rfl) (e:=Extern.AbiNoEscape.same) (by kernel_rfl)]
 rw [Lib.run_noEscape]
 simp only [Result.andThen]
 rw [Oper.upon_value]
 go_wp2
 rw [Lib.run_from_unsafe w ⟨b,0,none⟩ t164 t70 hj hsh hlies]
 simp only [Result.andThen]
 rw [Oper.upon_value]
 go_wp2
 go_end0
 exact ⟨rfl,rfl⟩
end Go.Fv.E
/- strings.Builder: what its methods do to a caller's builder. -/
namespace Go.Fv.E
open Go Go.Proofs
theorem Ot {a it:Item} {i:Nat} (h:lk [(0,a)] i=some it):i=0∧it=a:=by
 simp only [lk] at h
 split at h
 ·rename_i e;exact ⟨e.symm,(Option.some.inj h).symm⟩
 ·cases h
theorem Py {a b it:Item} {i:Nat} (h:lk [(0,a),(1,b)] i=some it):(i=0∧it=a)∨(i=1∧it=b):=by
 simp only [lk] at h
 split at h
 ·rename_i e;exact .inl ⟨e.symm,(Option.some.inj h).symm⟩
 ·split at h
  ·rename_i e;exact .inr ⟨e.symm,(Option.some.inj h).symm⟩
  ·cases h
theorem zx:fV Tryz.prog 28 [.ptr 0 0] [(0,.box 43 [.raw (.pointer none),.nilS])] 1 (.tup []) [(0,.box 43 [.ptr 0 0,.nilS])]:=by
 refine ⟨⟨_,Tryz.func28,by kernel_rfl,by kernel_rfl⟩,fun w T g m0 vals ⟨hrow,_,hd⟩ hgl hng hv=>?_⟩
 obtain ⟨_,g0,vs,hm,hO,hl,hh⟩:=hrow 0 _ rfl
 cases hv with
 | cons _ v0 _ vs0 h0 hvs=>
 cases hvs
 cases h0 with
 | ptr _ _ gp hi hg=>
 have hg:blk (m0 0)=some gp:=hg
 rw [hm] at hg
 cases hg
 cases hl with
 | cons _ a _ _ ha _ hl=>
 cases ha
 cases hl with
 | cons _ b _ _ hb _ hl=>
 cases hb
 cases hl
 have hh':w.heap[g0]?=some (.cells #[.pointer none,.slice none 0 0] 43 (0,0)):=hh
 refine (Gg g0 w (by simp [World.cell?,hh']) (by simp [World.shape?,hh']) (by simp [World.frozen?,hh'])).mono ?_
 rintro e w' ⟨rfl,rfl⟩
 refine ⟨_,rfl,⟨rfl,rfl,rfl,by simp [World.setCell],trivial,fun k hk hn=>wJ w g0 k _ fun e=>hn (e▸hO)⟩,m0,1,fun _ _=>rfl,Nat.le_refl _,.tup [] [] .nil,fun i it hi=>?_,fun i j it jt b hi hj _ _=>?_⟩
 ·obtain ⟨rfl,rfl⟩:=Ot hi
  refine ⟨Nat.one_pos,g0,[.pointer (some ⟨g0,0,none⟩),.slice none 0 0],hm,.inr ⟨hO,.inr hO⟩,?_,zX w g0 _ _ _ _ hh'⟩
  exact .cons _ _ _ _ (.ptr 0 0 g0 Nat.one_pos (by show blk (m0 0)=some g0;rw [hm];rfl)) rfl (.cons _ _ _ _ .nilS rfl .nil)
 ·rw [(Ot hi).1,(Ot hj).1]
theorem BA (e:TypeId) (l:List Int):fV Tryz.prog 28 [.ptr 0 0] [(0,.box 43 [.ptr 0 0,.own 1]),(1,.row e (.ints .u8 l))] 2 (.tup []) [(0,.box 43 [.ptr 0 0,.own 1]),(1,.row e (.ints .u8 l))]:=by
 refine ⟨⟨_,Tryz.func28,by kernel_rfl,by kernel_rfl⟩,fun w T g m0 vals ⟨hrow,hsep,hd⟩ hgl hng hv=>?_⟩
 obtain ⟨_,g0,vs,hm,hO,hl,hh⟩:=hrow 0 _ rfl
 obtain ⟨_,n,cells,hr,hn,how,hO2⟩:=hrow 1 _ rfl
 cases hv with
 | cons _ v0 _ vs0 h0 hvs=>
 cases hvs
 cases h0 with
 | ptr _ _ gp hi hg=>
 have hg:blk (m0 0)=some gp:=hg
 rw [hm] at hg
 cases hg
 cases hl with
 | cons _ a _ _ ha _ hl=>
 cases ha with
 | ptr _ _ ga _ hga=>
 have hga:blk (m0 0)=some ga:=hga
 rw [hm] at hga
 cases hga
 cases hl with
 | cons _ b _ _ hb hb1 hl=>
 cases hl
 have hh':w.heap[g0]?=some (.cells #[.pointer (some ⟨g0,0,none⟩),b] 43 (0,0)):=hh
 refine (Ic g0 w (by simp [World.cell?,hh'])).mono ?_
 rintro e w' ⟨rfl,rfl⟩
 refine ⟨_,rfl,aK.refl _ _,m0,2,fun _ _=>rfl,Nat.le_refl _,.tup [] [] .nil,fun i it hi=>?_,fun i j it jt b hi hj h1 h2=>?_⟩
 ·rcases Py hi with ⟨rfl,rfl⟩|⟨rfl,rfl⟩
  ·refine ⟨by decide,g0,[.pointer (some ⟨g0,0,none⟩),b],hm,.inr ⟨hO,.inr hO⟩,?_,hh'⟩
   cases hb with
   | own _ h5 h6=>exact .cons _ _ _ _ (.ptr 0 0 g0 (show 0<2 by decide) (by show blk (m0 0)=some g0;rw [hm];rfl)) rfl (.cons _ _ _ _ (.own 1 (show 1<2 by decide) h6) hb1 .nil)
  ·refine ⟨by decide,n,cells,?_,hn,how,fun b hb=>.inr ⟨hO2 b hb,.inr (hO2 b hb)⟩⟩
   cases hr with
   | ints _ _ h7=>exact .ints _ _ h7
 ·exact hsep i j it jt b hi hj h1 h2
theorem Lp {a b:Item}:∀ j,j<2→∃ it,lk [(0,a),(1,b)] j=some it:=fun j hj=>by
 have:j=0∨j=1:=by omega
 rcases this with rfl|rfl
 ·exact ⟨a,rfl⟩
 ·exact ⟨b,rfl⟩
theorem Lm {a:Item}:∀ j,j<1→∃ it,lk [(0,a)] j=some it:=fun j hj=>by
 obtain rfl:j=0:=by omega
 exact ⟨a,rfl⟩
set_option maxHeartbeats 2000000 in
theorem yg (s:List UInt8) (hs:s.length≤100000000000):fV Tryz.prog 16 [.ptr 0 0,.str s] [(0,.box 43 [.raw (.pointer none),.nilS])] 1 (.tup [.int .i64 s.length,.raw .nilIface]) [(0,.box 43 [.ptr 0 0,.own 1]),(1,.row 5 (.ints .u8 (aH s)))]:=by
 have k:=zx
 refine fV.bT Tryz.func16 rfl (by decide) (by simp [Tryz.f16]) Lm [.tmp 4,.tmp 5] rfl fun w0 T0 _=>?_
 simp only [Tryz.f16,aI]
 (repeat' with_reducible first|intro _|exact dn|refine rn ?_|refine ra ?_ ?_)
 refine ah.i [0] k 1 ?_
 (repeat' with_reducible first|intro _|refine rz ?_|refine ra ?_ ?_|omega|simp only [go_sem,S.KD,lW,jg,zy,Item.ren,ren,dh,List.getElem?_cons_zero,List.getElem?_cons_succ,List.getElem?_nil,List.filter])
 refine jd.of [(1,2)] 3 (by decide) (by decide) ?_ rfl ?_<;>simp only [go_sem,Int.natCast_succ,aH]
set_option maxHeartbeats 2000000 in
theorem AY (b s:List UInt8) (hb:b.length≤100000000000) (hs:s.length≤10000000000):fV Tryz.prog 16 [.ptr 0 0,.str s] [(0,.box 43 [.ptr 0 0,.own 1]),(1,.row 5 (.ints .u8 (aH b)))] 2 (.tup [.int .i64 s.length,.raw .nilIface]) [(0,.box 43 [.ptr 0 0,.own 2]),(2,.row 5 (.ints .u8 (aH (b++s))))]:=by
 have k:=BA 5 (aH b)
 have hbl:=kG b
 have he:aH (b++s)=aH b++s.map (fun b=>(b.toNat:Int)):=by unfold aH;rw [List.map_append]
 generalize aH b=B at *
 generalize aH (b++s)=C at *
 refine fV.bT Tryz.func16 rfl (by decide) (by simp [Tryz.f16]) Lp [.tmp 4,.tmp 5] rfl fun w0 T0 _=>?_
 simp only [Tryz.f16,aI]
 (repeat' with_reducible first|intro _|exact dn|refine rn ?_|refine ra ?_ ?_)
 refine ah.i [0,1] k 2 ?_
 (repeat' with_reducible first|intro _|exact dn|refine rn ?_|refine ra ?_ ?_)
 refine jd.of [(2,2)] 3 (by decide) (by decide) ?_ rfl ?_<;>simp only [go_sem,Int.natCast_succ,he]
set_option maxHeartbeats 2000000 in
theorem wL:fV Tryz.prog 19 [.ptr 0 0] [(0,.box 43 [.raw (.pointer none),.nilS])] 1 (.str []) []:=by
 refine fV.bT Tryz.func19 rfl (by decide) (by simp [Tryz.f19]) Lm [.tmp 2] rfl fun w0 T0 _=>?_
 simp only [Tryz.f19,aI]
 (repeat' with_reducible first|intro _|exact dn|refine rn ?_|refine ra ?_ ?_)
 refine aZ.lex [] [] (by kernel_rfl) (by kernel_rfl) ?_
 (repeat' with_reducible first|intro _|exact dn|refine rn ?_|refine ra ?_ ?_)
 refine QV.intro (.raw (.pointer none)) ?_ ?_
 ·(repeat' with_reducible first|intro _|exact dn|refine rn ?_|refine ra ?_ ?_)
 (repeat' with_reducible first|intro _|exact dn|refine rn ?_|refine ra ?_ ?_)
 refine QV.intro (.str []) ?_ ?_
 ·(repeat' with_reducible first|intro _|exact dn|refine rn ?_|refine ra ?_ ?_)
 (repeat' with_reducible first|intro _|exact dn|refine rn ?_|refine ra ?_ ?_)
 refine jd.auto 1 (Nat.le_refl 1) ?_ rfl ?_<;>simp only [go_sem,Int.natCast_succ]
set_option maxHeartbeats 2000000 in
theorem xH (b:List UInt8) (hb:0<b.length):fV Tryz.prog 19 [.ptr 0 0] [(0,.box 43 [.ptr 0 0,.own 1]),(1,.row 5 (.ints .u8 (aH b)))] 2 (.str b) []:=by
 have hbl:=kG b
 have hz:((aH b).map fun n=>UInt8.ofNat n.toNat)=b:=jL b
 have hne:aH b≠[]:=fun e=>by rw [e] at hbl;simp at hbl;omega
 generalize aH b=B at *
 refine fV.bT Tryz.func19 rfl (by decide) (by simp [Tryz.f19]) Lp [.tmp 2] rfl fun w0 T0 _=>?_
 simp only [Tryz.f19,aI]
 (repeat' with_reducible first|intro _|exact dn|refine rn ?_|refine ra ?_ ?_)
 refine aZ.lex [10] [] (by kernel_rfl) (by kernel_rfl) ?_
 (repeat' with_reducible first|intro _|refine rz ?_|refine ra ?_ ?_|omega|simp only [go_sem,hne,hbl,hz])
 refine QV.intro (.elt 1 1 0 0) ?_ ?_
 ·(repeat' with_reducible first|intro _|refine rz ?_|refine ra ?_ ?_|omega|simp only [go_sem,hne,hbl,hz])
 (repeat' with_reducible first|intro _|refine rz ?_|refine ra ?_ ?_|omega|simp only [go_sem,hne,hbl,hz])
 trace_state
 refine QE.intro (.str b) [(2,.row 5 (.ints .u8 [])),(0,.box 43 [.ptr 0 0,.own 1])] 3 ?_ ?_
 ·(repeat' with_reducible first|intro _|refine rz ?_|refine ra ?_ ?_|omega|simp only [go_sem,hne,hbl,hz])
 (repeat' with_reducible first|intro _|refine rz ?_|refine ra ?_ ?_|omega|simp only [go_sem,hne,hbl,hz])
 refine jd.auto 2 (Nat.le_refl 2) ?_ rfl ?_<;>simp only [go_sem,Int.natCast_succ]
end Go.Fv.E
/- Print of mixes. -/
namespace Go.Fv.E
open Go Go.Proofs
def Ov (l:List Mx):Bytes:=if bH l=0 then l.flatMap lF else []
def Ou (l:List Mx) (i:Nat):Go.Fv.S:=if i=0 then ⟨41,[(0,.ro (aX l)),(16,.ro (aX l)),(17,.int .i64 l.length),(18,.int .i64 i),(5,.ptr 0 0),(6,.ptr 2 0)],nK 0++[(2,.box 43 [.raw (.pointer none),.nilS])],3⟩
 else ⟨41,[(0,.ro (aX l)),(16,.ro (aX l)),(17,.int .i64 l.length),(18,.int .i64 i),(5,.ptr 0 0),(6,.ptr 6 0)],Ey++[(6,.box 43 [.ptr 6 0,.own 7]),(7,.row 5 (.ints .u8 (aH ((l.take i).flatMap lF))))],8⟩
theorem MI (l:List Mx) {i:Nat} (h:i=0):Ou l i=⟨41,[(0,.ro (aX l)),(16,.ro (aX l)),(17,.int .i64 l.length),(18,.int .i64 i),(5,.ptr 0 0),(6,.ptr 2 0)],nK 0++[(2,.box 43 [.raw (.pointer none),.nilS])],3⟩:=if_pos h
theorem KN (l:List Mx) {i:Nat} (h:¬i=0):Ou l i=⟨41,[(0,.ro (aX l)),(16,.ro (aX l)),(17,.int .i64 l.length),(18,.int .i64 i),(5,.ptr 0 0),(6,.ptr 6 0)],Ey++[(6,.box 43 [.ptr 6 0,.own 7]),(7,.row 5 (.ints .u8 (aH ((l.take i).flatMap lF))))],8⟩:=if_neg h
set_option maxHeartbeats 4000000 in
theorem Jm (l:List Mx):aU Tryz.prog 6 [.ro (aX l)] (.tup [.str (Ov l),.int .i64 (bH l)]) []:=by
 have k0:=og l
 unfold Ov
 refine aU.bT Tryz.func6 rfl (by decide) (by simp [Tryz.f6]) [.tmp 2,.tmp 3] rfl fun w0 T0 _=>?_
 simp only [Tryz.f6,aI]
 by_cases h:bH l=0
 case neg=>
  have g0:(bH l=0)=False:=eq_false h
  rw [if_neg h]
  (repeat' with_reducible first|intro _|exact dn|refine rn ?_|refine ra ?_ ?_)
  refine ah.k k0 ?_
  (repeat' with_reducible first|intro _|refine rz ?_|refine ra ?_ ?_|omega|simp only [go_sem,g0])
  refine dJ.auto 0 ?_ rfl ?_<;>simp only [go_sem,Int.natCast_succ,Post]
 obtain ⟨hl,hln,hln2⟩:=zQ h
 have kn:=l9
 rw [if_pos h]
 rw [h] at k0 ⊢
 unfold nK rO at kn
 (repeat' with_reducible first|intro _|exact dn|refine rn ?_|refine ra ?_ ?_)
 refine ah.k k0 ?_
 (repeat' with_reducible first|intro _|exact dn|refine rn ?_|refine ra ?_ ?_)
 refine ah.o kn 2 ?_
 (repeat' with_reducible first|intro _|refine rz ?_|refine ra ?_ ?_|omega|simp only [go_sem,aX,List.length_map])
 refine bM.intro (Ou l) (fun i=>i≤l.length) (fun i=>l.length - i) 0 ?_ (Nat.zero_le _) fun i hi=>?_
 ·rw [MI l rfl]
  refine dB.of [(0,1),(1,2),(2,3)] rfl (Nat.zero_le _) (fun x hx=>by simp at hx;rcases hx with rfl|rfl|rfl<;>decide) ?_ ?_<;>simp only [go_sem,Int.natCast_succ,aX,nK,rO]
  all_goals trace_state
 by_cases hlt:i<l.length
 case neg=>
  have e:i=l.length:=by omega
  have f1:((i:Int)<(l.length:Int))=False:=eq_false (by omega)
  by_cases hz:i=0
  ·have e2:l=[]:=List.eq_nil_of_length_eq_zero (by omega)
   rw [MI l hz,e2]
   subst hz
   unfold nK
   (repeat' with_reducible first|intro _|refine rz ?_|refine ra ?_ ?_|omega|simp only [go_sem,f1])
   refine ah.i [2] wL 2 ?_
   (repeat' with_reducible first|intro _|exact dn|refine rn ?_|refine ra ?_ ?_)
   refine dJ.auto 0 ?_ rfl ?_<;>simp only [go_sem,Int.natCast_succ,Post,List.flatMap_nil]
  ·have hpos:0<(l.flatMap lF).length:=by omega
   rw [KN l hz,e,List.take_length]
   have k:=xH _ hpos
   generalize l.flatMap lF=B at *
   rw [e] at f1
   unfold Ey
   (repeat' with_reducible first|intro _|refine rz ?_|refine ra ?_ ?_|omega|simp only [go_sem,f1])
   refine ah.i [6,7] k 3 ?_
   (repeat' with_reducible first|intro _|exact dn|refine rn ?_|refine ra ?_ ?_)
   refine dJ.auto 0 ?_ rfl ?_<;>simp only [go_sem,Int.natCast_succ,Post]
 have he:=kS l hlt
 obtain ⟨m1,m2,m3,m4⟩:=NK h hlt
 have ht:=CX l hlt
 have hj:∃ j:Nat,(i:Int)+1=j∧j=i+1:=⟨i+1,by omega,rfl⟩
 have f1:((i:Int)<(l.length:Int))=True:=eq_true (by omega)
 have e4:((l.take i).flatMap lF).length≤(l.flatMap lF).length:=by
  conv=>rhs;rw [←List.take_append_drop i l]
  rw [List.flatMap_append,List.length_append];omega
 have e5:=Jk m1 m2 m3 m4
 generalize l.getD i Mx.zero=m at *
 have k2:=mG m.t m2
 have k3:=uo m.c (by omega) (by omega)
 have e1:=nG m.f
 have e2:=nG m.t
 have e3:=(pK m3 m4).2.2.2
 have kw1:=yg (lF m) (by omega)
 have kw2:=AY ((l.take i).flatMap lF) (lF m) (by omega) (by omega)
 by_cases hz:i=0
 ·have k1:=kX m.f m1
  rw [MI l hz]
  unfold nK at *
  unfold MS at *
  unfold Ey at k2
  (repeat' with_reducible first|intro _|refine rz ?_|refine ra ?_ ?_|omega|simp only [go_sem,f1,aX,List.length_map,dR,he])
  refine aZ.lex [3,8,16] [(4,[2]),(5,[0]),(6,[0]),(7,[0]),(11,[0,1]),(12,[0,1])] (by kernel_rfl) (by kernel_rfl) ?_
  (repeat' with_reducible first|intro _|exact dn|refine rn ?_|refine ra ?_ ?_)
  refine QE.intro _ _ _ (by
   (repeat' with_reducible first|intro _|exact dn|refine rn ?_|refine ra ?_ ?_)
   refine ah.i [0,1] k1 7 ?_ (hNr:=by simp [dw,Item.below,Fv.below,aA,aW,aC])
   exact ⟨rfl,rfl,rfl⟩) ?_
  (repeat' with_reducible first|intro _|refine rz ?_|refine ra ?_ ?_|omega|simp only [go_sem,aT])
  refine QE.intro _ _ _ (by
   (repeat' with_reducible first|intro _|refine rz ?_|refine ra ?_ ?_|omega|simp only [go_sem,aT])
   refine ah.i [0,4,5,6,7,8] k2 6 ?_ (hcov:=EY) (h0:=by simp [Ey,fP,jg,lk,Item.ren,Item.below,ren,dh,aA,Fv.below,iT,aW,aT,aC]) (hNr:=by simp [Ey,dw,Item.below,Fv.below,aA,aW,aC])
   exact ⟨rfl,rfl,rfl⟩) ?_
  (repeat' with_reducible first|intro _|refine rz ?_|refine ra ?_ ?_|omega|simp only [go_sem,aT,Ey])
  (refine QV.intro (.str (Lib.itoa m.c)) ?_ ?_;focus ((repeat' with_reducible first|intro _|exact dn|refine rn ?_|refine ra ?_ ?_);refine ah.k (k3) ?_;(repeat' with_reducible first|intro _|exact dn|refine rn ?_|refine ra ?_ ?_)))
  (repeat' with_reducible first|intro _|refine rz ?_|refine ra ?_ ?_|omega|simp only [go_sem,aT])
  unfold lF at kw1
  refine QE.intro _ _ _ (by
   (repeat' with_reducible first|intro _|exact dn|refine rn ?_|refine ra ?_ ?_)
   refine ah.i [2] kw1 2 ?_
   exact ⟨rfl,rfl,rfl⟩) ?_
  (repeat' with_reducible first|intro _|exact dn|refine rn ?_|refine ra ?_ ?_)
  refine ⟨i+1,?_,by omega,by omega⟩
  rw [KN l (by omega),ht,hz,List.take_zero,List.flatMap_nil,List.nil_append]
  refine dB.of [(1,4),(2,5),(3,6),(4,7),(5,8),(6,2),(7,9)] rfl (Nat.zero_le _) (fun x hx=>by simp at hx;rcases hx with rfl|rfl|rfl|rfl|rfl|rfl|rfl<;>decide) ?_ ?_<;>simp only [go_sem,Int.natCast_succ,aX,Ey,aT,aC,lF]
  all_goals trace_state
 ·have k1:=mG m.f m1
  rw [KN l hz]
  generalize (l.take i).flatMap lF=B at *
  (repeat' with_reducible first|intro _|refine rz ?_|refine ra ?_ ?_|omega|simp only [go_sem,f1,aX,List.length_map,dR,he])
  refine aZ.lex [3,8,16] [(4,[2]),(5,[0]),(6,[0]),(7,[0]),(11,[0,1]),(12,[0,1])] (by kernel_rfl) (by kernel_rfl) ?_
  (repeat' with_reducible first|intro _|exact dn|refine rn ?_|refine ra ?_ ?_)
  unfold Ey at *
  refine QE.intro _ _ _ (by
   (repeat' with_reducible first|intro _|exact dn|refine rn ?_|refine ra ?_ ?_)
   refine ah.i [0,1,2,3,4,5] k1 6 ?_ (hcov:=EY) (h0:=by simp [fP,jg,lk,Item.ren,Item.below,ren,dh,aA,Fv.below,iT,aW,aT,aC]) (hNr:=by simp [dw,Item.below,Fv.below,aA,aW,aC])
   exact ⟨rfl,rfl,rfl⟩) ?_
  (repeat' with_reducible first|intro _|refine rz ?_|refine ra ?_ ?_|omega|simp only [go_sem,aT])
  refine QE.intro _ _ _ (by
   (repeat' with_reducible first|intro _|refine rz ?_|refine ra ?_ ?_|omega|simp only [go_sem,aT])
   refine ah.i [0,1,2,3,4,5] k2 6 ?_ (hcov:=EY) (h0:=by simp [fP,jg,lk,Item.ren,Item.below,ren,dh,aA,Fv.below,iT,aW,aT,aC]) (hNr:=by simp [dw,Item.below,Fv.below,aA,aW,aC])
   exact ⟨rfl,rfl,rfl⟩) ?_
  (repeat' with_reducible first|intro _|refine rz ?_|refine ra ?_ ?_|omega|simp only [go_sem,aT])
  (refine QV.intro (.str (Lib.itoa m.c)) ?_ ?_;focus ((repeat' with_reducible first|intro _|exact dn|refine rn ?_|refine ra ?_ ?_);refine ah.k (k3) ?_;(repeat' with_reducible first|intro _|exact dn|refine rn ?_|refine ra ?_ ?_)))
  (repeat' with_reducible first|intro _|refine rz ?_|refine ra ?_ ?_|omega|simp only [go_sem,aT])
  unfold lF at kw2
  refine QE.intro _ _ _ (by
   (repeat' with_reducible first|intro _|exact dn|refine rn ?_|refine ra ?_ ?_)
   refine ah.i [6,7] kw2 3 ?_
   exact ⟨rfl,rfl,rfl⟩) ?_
  (repeat' with_reducible first|intro _|exact dn|refine rn ?_|refine ra ?_ ?_)
  refine ⟨i+1,?_,by omega,by omega⟩
  rw [KN l (by omega),ht]
  refine dB.of [(7,9)] rfl (Nat.zero_le _) (fun x hx=>by simp at hx;rcases hx with rfl|rfl|rfl|rfl|rfl|rfl|rfl<;>decide) ?_ ?_<;>simp only [go_sem,Int.natCast_succ,aX,Ey,aT,aC,lF]
  all_goals trace_state
end Go.Fv.E
/- strings.IndexByte by the shelf. -/
namespace Go.Proofs
open Go.Shelf
def Tryz.BP:Go.Shelf.Ren:=⟨fun|137=>34|217=>53|266=>78|n=>n,fun|9=>9|5=>5|3=>3|n=>n,fun|n=>n⟩
theorem Tryz.lays137:Go.Proofs.Lays.n137 Tryz.prog Tryz.BP:={
 mixed:=by kernel_rfl
 f137:=Tryz.func34.trans (congrArg some (by kernel_rfl))
 f217:=Tryz.func53.trans (congrArg some (by kernel_rfl))
 f266:=Tryz.func78.trans (congrArg some (by kernel_rfl))
 t3:=Tryz.underlying3
 a3:=Tryz.isAgg3
 z3:=Tryz.sizeOf3
 v3:=Tryz.zeroValue3
 t5:=Tryz.underlying5
 a5:=Tryz.isAgg5
 z5:=Tryz.sizeOf5
 v5:=Tryz.zeroValue5
 t9:=Tryz.underlying9
 a9:=Tryz.isAgg9
 z9:=Tryz.sizeOf9
 v9:=Tryz.zeroValue9 }
end Go.Proofs
namespace Go.Fv.E
open Go Go.Proofs
theorem IJ (c:UInt8):∀ s:Bytes,-1≤Lib.indexByte s c∧Lib.indexByte s c<(s.length:Int)+1 - 1+(if s=[] then 1 else 0)
 | []=>⟨Int.le_refl _,by show (-1:Int)<_;simp⟩
 | b::l=>by
  have ih:=IJ c l
  unfold Lib.indexByte
  rw [if_neg (by simp:¬(b::l)=[])]
  have hl:((b::l).length:Int)=(l.length:Int)+1:=by simp
  split
  ·omega
  ·split
   ·omega
   ·rename_i h
    have h2:Lib.indexByte l c≠-1:=by simpa using h
    by_cases he:l=[]
    ·subst he;exact absurd rfl h2
    ·rw [if_neg he] at ih;omega
theorem pY (s:Bytes) (c:UInt8) (hs:s.length≤9223372036854775807):aU Tryz.prog 34 [.str s,.int .u8 c.toNat] (.int .i64 (Lib.indexByte s c)) []:=by
 refine ⟨⟨_,Tryz.func34,by kernel_rfl,by kernel_rfl⟩,fun w T vals hg hv=>?_⟩
 cases hv with
 | cons _ _ _ _ h1 hv=>cases hv with
  | cons _ _ _ _ h2 hv=>
   cases hv
   cases h1 with
   | str _ e1=>cases h2 with
    | int _ _ e2=>
     have L:=Tryz.lays137
     refine (Any.strings_IndexByte L ⟨s.toArray⟩ c.toNat w).mono ?_
     rintro e w' ⟨rfl,rfl⟩
     refine ⟨_,rfl,gy.refl _ _,fun _=>undef,0,?_,?_,?_⟩
     ·have e3:(c.toNat:Int).toNat.toUInt8=c:=by simp
      rw [e3]
      have hb:=IJ c s
      have e1':s.length≤9223372036854775807:=hs
      refine .int _ _ (eY.2 ?_)
      split at hb<;>omega
     ·intro i it h;cases h
     ·intro i j it jt b h;cases h
end Go.Fv.E
/- Parts of a mix, read: unescaped and unmix. -/
namespace Go.Fv.E
open Go Go.Proofs
theorem KY:∀ {s:Bytes},jD s=some []→s=[]
 | [],_=>rfl
 | c::s,h=>by
  exfalso
  by_cases hc:c=92
  ·subst hc
   cases s with
   | nil=>cases h
   | cons d t=>
    by_cases h1:d=115
    ·subst h1;rw [qy] at h;cases hu:jD t<;>rw [hu] at h<;>cases h
    by_cases h2:d=110
    ·subst h2;rw [qA] at h;cases hu:jD t<;>rw [hu] at h<;>cases h
    by_cases h3:d=92
    ·subst h3;rw [qB] at h;cases hu:jD t<;>rw [hu] at h<;>cases h
    rw [Ad h1 h2 h3] at h;cases h
  ·rw [nO hc] at h;cases hu:jD s<;>rw [hu] at h<;>cases h
theorem iw (acc:Bytes) (c:UInt8) (o:Option Bytes):(o.map (c::·)).map (acc++·)=o.map ((acc++[c])++·):=by
 cases o<;>simp
theorem yt {s:Bytes} {i:Nat} (h:i<s.length):s.drop i=s.getD i 0::s.drop (i+1):=by
 rw [List.drop_eq_getElem_cons h,getD_lt h]
theorem OT (a b c d:UInt8):Lib.indexByte [a,b,c] d=if d=a then 0 else if d=b then 1 else if d=c then 2 else -1:=by
 have e:∀ x:UInt8,(x == d)=decide (d=x):=fun x=>by
  rw [Bool.eq_iff_iff,beq_iff_eq,decide_eq_true_eq];exact eq_comm
 simp only [Lib.indexByte,e,decide_eq_true_eq]
 (repeat' split)<;>first|rfl|simp_all
theorem JH {s b:Bytes} (h:jD s=some b):uz s=(b,decide (0<b.length)):=by
 unfold uz
 rw [h]
 dsimp only
 refine congrArg (Prod.mk b) (decide_eq_decide.2 ?_)
 rw [List.length_pos_iff]
 constructor
 ·rintro h1 rfl;exact h1 (KY h)
 ·rintro h1 rfl;rw [show jD []=some [] from rfl] at h;cases h;exact h1 rfl
theorem qE {s:Bytes} (h:jD s=none):uz s=([],false):=by unfold uz;rw [h]
theorem gV (a:Bytes) (c:UInt8):aH (a++[c])=aH a++[(c.toNat:Int)]:=by unfold aH;rw [List.map_append];rfl
set_option maxHeartbeats 4000000 in
theorem qC (s:Bytes) (hs:s.length≤2000000):aU Tryz.prog 22 [.str s] (.tup [.str (uz s).1,.bool (uz s).2]) []:=by
 refine aU.bT Tryz.func22 rfl (by decide) (by simp [Tryz.f22]) [.tmp 2,.tmp 3] rfl fun w0 T0 _=>?_
 simp only [Tryz.f22,aI]
 (repeat' with_reducible first|intro _|exact dn|refine rn ?_|refine ra ?_ ?_)
 refine bM.intro (fun x:Nat × Bytes=>⟨42,[(0,.str s),(4,.own 0),(5,.int .i64 x.1)],[(0,.row 5 (.ints .u8 (aH x.2)))],1⟩) (fun x=>x.1≤s.length∧x.2.length≤x.1∧(jD (s.drop x.1)).map (x.2++·)=jD s) (fun x=>s.length - x.1) (0,[]) ?_ ⟨Nat.zero_le _,Nat.le_refl _,by simp⟩ fun x hI=>?_
 ·refine dB.bJ rfl ?_ ?_<;>simp only [go_sem,Int.natCast_succ,aH]
 obtain ⟨i,acc⟩:=x
 dsimp only at hI
 obtain ⟨hi,hl,hI⟩:=hI
 have hbl:=kG acc
 by_cases hlt:i<s.length
 case neg=>
  have e:i=s.length:=by omega
  subst e
  rw [List.drop_length] at hI
  have hu:jD s=some acc:=by rw [←hI];simp [jD]
  rw [JH hu]
  have hz:=jL acc
  (repeat' with_reducible first|intro _|refine rz ?_|refine ra ?_ ?_|omega|simp only [go_sem,hbl])
  refine dJ.auto 0 ?_ rfl ?_<;>simp only [go_sem,Int.natCast_succ,Post]
  exact ⟨hz,by simp⟩
 rw [yt hlt] at hI
 have hc:=(s.getD i 0).toNat_lt
 have hcI:s.getD i 0=92↔((s.getD i 0).toNat:Int)=92:=⟨fun e=>by rw [e];rfl,fun e=>by
  rw [←UInt8.toNat_inj];show _=92;omega⟩
 have f1:((i:Int)<(s.length:Int))=True:=eq_true (by omega)
 generalize hcd:s.getD i 0=c at *
 by_cases h92:c=92
 case neg=>
  have f2:((c.toNat:Int)=92)=False:=eq_false fun e=>h92 (hcI.2 e)
  rw [nO h92,iw] at hI
  have hsn:=gV acc c
  (repeat' with_reducible first|intro _|refine rz ?_|refine ra ?_ ?_|omega|simp only [go_sem,f1,hcd,f2,hbl])
  refine ⟨(i+1,acc++[c]),dB.bJ rfl ?_ ?_,⟨by omega,by simp;omega,hI⟩,by dsimp only;omega⟩<;>simp only [go_sem,Int.natCast_succ,hsn]
  all_goals trace_state
 subst h92
 by_cases hlt2:i+1<s.length
 case neg=>
  have e:s.drop (i+1)=[]:=List.drop_eq_nil_of_le (by omega)
  rw [e,FZ] at hI
  rw [qE hI.symm]
  have f2:((i:Int)+1=(s.length:Int))=True:=eq_true (by omega)
  (repeat' with_reducible first|intro _|refine rz ?_|refine ra ?_ ?_|omega|simp only [go_sem,f1,hcd,f2])
  refine dJ.auto 0 ?_ rfl ?_<;>simp only [go_sem,Int.natCast_succ,Post]
  all_goals trace_state
 have f2:((i:Int)+1=(s.length:Int))=False:=eq_false (by omega)
 rw [yt hlt2] at hI
 have k:=pY [115,110,92] (s.getD (i+1) 0) (by simp)
 rw [OT] at k
 have hj:(i:Int)+1=((i+1:Nat):Int):=by omega
 have hj2:((i:Int)+1).toNat=i+1:=by omega
 have f3:((((i+1:Nat):Int))<(s.length:Int))=True:=eq_true (by omega)
 generalize hdd:s.getD (i+1) 0=d at *
 by_cases h1:d=115
 ·subst h1
  rw [if_pos rfl,show (((115:UInt8).toNat:Nat):Int)=115 from rfl] at k
  rw [qy,iw] at hI
  have hsn:=gV acc 32
  (repeat' with_reducible first|intro _|refine rz ?_|refine ra ?_ ?_|omega|simp only [go_sem,f1,hcd,f2,hj2,hdd])
  refine ah.k k ?_
  (repeat' with_reducible first|intro _|refine rz ?_|refine ra ?_ ?_|omega|simp only [go_sem,hbl])
  refine ⟨(i+2,acc++[32]),dB.bJ rfl ?_ ?_,⟨by omega,by simp;omega,hI⟩,by dsimp only;omega⟩<;>simp only [go_sem,Int.natCast_succ,hsn]
  all_goals rfl
 rw [if_neg h1] at k
 by_cases h2:d=110
 ·subst h2
  rw [if_pos rfl,show (((110:UInt8).toNat:Nat):Int)=110 from rfl] at k
  rw [qA,iw] at hI
  have hsn:=gV acc 10
  (repeat' with_reducible first|intro _|refine rz ?_|refine ra ?_ ?_|omega|simp only [go_sem,f1,hcd,f2,hj2,hdd])
  refine ah.k k ?_
  (repeat' with_reducible first|intro _|refine rz ?_|refine ra ?_ ?_|omega|simp only [go_sem,hbl])
  refine ⟨(i+2,acc++[10]),dB.bJ rfl ?_ ?_,⟨by omega,by simp;omega,hI⟩,by dsimp only;omega⟩<;>simp only [go_sem,Int.natCast_succ,hsn]
  all_goals rfl
 rw [if_neg h2] at k
 by_cases h3:d=92
 ·subst h3
  rw [if_pos rfl,show (((92:UInt8).toNat:Nat):Int)=92 from rfl] at k
  rw [qB,iw] at hI
  have hsn:=gV acc 92
  (repeat' with_reducible first|intro _|refine rz ?_|refine ra ?_ ?_|omega|simp only [go_sem,f1,hcd,f2,hj2,hdd])
  refine ah.k k ?_
  (repeat' with_reducible first|intro _|refine rz ?_|refine ra ?_ ?_|omega|simp only [go_sem,hbl])
  refine ⟨(i+2,acc++[92]),dB.bJ rfl ?_ ?_,⟨by omega,by simp;omega,hI⟩,by dsimp only;omega⟩<;>simp only [go_sem,Int.natCast_succ,hsn]
  all_goals rfl
 rw [if_neg h3] at k
 rw [Ad h1 h2 h3] at hI
 rw [qE hI.symm]
 (repeat' with_reducible first|intro _|refine rz ?_|refine ra ?_ ?_|omega|simp only [go_sem,f1,hcd,f2,hj2,hdd])
 refine ah.k k ?_
 (repeat' with_reducible first|intro _|exact dn|refine rn ?_|refine ra ?_ ?_)
 refine dJ.auto 0 ?_ rfl ?_<;>simp only [go_sem,Int.natCast_succ,Post]
 all_goals trace_state
end Go.Fv.E
