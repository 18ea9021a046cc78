/-
  A part of the proof of the claim: walks over the program's functions and the plain laws that these need. No condition of its own.
-/
import Derived.Test.YtbdhkdcppljmnaaDoorRRpCardPart2
import Derived.Test.YtbdhkdcppljmnaaDoorRRpCardPart1
import Derived.Test.YtbdhkdcppljmnaaDoorFvPart10
import Derived.Shelf.Strings.BuilderX
import Derived.Shelf.RegionOpenPlain
import Derived.Lib.Builder
import Derived.Lib.Walk
import Derived.WalkKit
import Derived.Laws.Externs
import Derived.Test.YtbdhkdcppljmnaaDoorFvPart11
import Derived.Lib.MakeNoZero
set_option linter.unusedSimpArgs false
set_option linter.unusedVariables false
set_option linter.unnecessarySimpa false
set_option maxRecDepth 8000
/- The reference's RulesError. -/
namespace Go.Fv.R
open Go Go.Proofs
theorem Iq (l:List (List UInt8)) {i:Nat} (h:i<l.length):(l.take (i+1)).all dJ=((l.take i).all dJ && dJ (l.getD i [])):=by
 rw [List.take_succ_eq_append_getElem h,List.all_append,getD_lt h];simp
set_option maxHeartbeats 8000000 in
theorem iJ (l:List Ru) (hW:dF l):aC Tryd.prog 12 [.ro (iC l)] (.int .i64 (bn l)) []:=by
 unfold bn
 refine aC.aO Tryd.func12 rfl (by decide) (by simp [Tryd.f12]) [.tmp 2] rfl fun w0 T0 _=>?_
 simp only [Tryd.f12,aB]
 (repeat' with_reducible first|intro _|refine rz ?_|refine ra ?_ ?_|omega|simp only [go_sem,List.length_map])
 ·refine aZ.auto 0 ?_ rfl ?_<;>simp only [go_sem,Int.natCast_succ,Post]
  rw [if_pos (by omega)]
 rw [if_neg (by omega)]
 refine aU.intro (fun i:Nat=>⟨72,[(11,.ro (iC l)),(12,.int .i64 l.length),(13,.int .i64 i)],[],0⟩) (fun i=>i≤l.length∧aG ((l.drop i).map dY)=aG (l.map dY)) (fun i=>l.length - i) 0 ?_ ⟨Nat.zero_le _,rfl⟩ fun i hI=>?_
 ·refine bC.aA rfl ?_ ?_<;>simp only [go_sem,Int.natCast_succ]
 obtain ⟨hi,hI⟩:=hI
 by_cases hlt:i<l.length
 ·have he:=oI l hlt
  have hw:=hW i hlt
  rw [mJ l hlt] at hI
  generalize l.getD i Ru.zero=r at *
  have k1:=Jc r.kind
  have k3:=Gf r.code
  have hE:dY r=aG [if eH r.kind=true then 0 else 5,if 20<r.words.length then 4 else 0,if r.words.all dJ=true then 0 else 2,if codeOk r.code=true then 0 else 2,if r.words=[]∧r.code=[] then 9 else 0]:=rfl
  have hwl:r.words=[]↔(r.words.length:Int)=0:=by rw [←List.length_eq_zero_iff];omega
  generalize eH r.kind=p1 at *
  generalize codeOk r.code=p3 at *
  have w1:=lN (!p1) 5
  have e1:(if (!p1)=true then (5:Int) else 0)=if p1=true then 0 else 5:=by cases p1<;>rfl
  have w2:=lN (decide (20<(r.words.length:Int))) 4
  have e2:(if decide (20<(r.words.length:Int))=true then (4:Int) else 0)=if 20<r.words.length then 4 else 0:=by
   simp only [decide_eq_true_eq];congr 1;apply propext;omega
  rw [e1] at w1
  rw [e2] at w2
  generalize (if p1=true then (0:Int) else 5)=a at *
  generalize (if 20<r.words.length then (4:Int) else 0)=b at *
  have f1:=mM [a,b] (by simp)
  (repeat' with_reducible first|intro _|refine rz ?_|refine ra ?_ ?_|omega|simp only [go_sem,he,List.length_map])
  refine dN.lex [10] [] (by kernel_rfl) (by kernel_rfl) ?_
  (repeat' with_reducible first|intro _|exact dn|refine rn ?_|refine ra ?_ ?_)
  (refine QV.intro (.bool p1) ?_ ?_;focus ((repeat' with_reducible first|intro _|exact dn|refine rn ?_|refine ra ?_ ?_);refine ah.k (k1) ?_;(repeat' with_reducible first|intro _|exact dn|refine rn ?_|refine ra ?_ ?_)))
  (repeat' with_reducible first|intro _|exact dn|refine rn ?_|refine ra ?_ ?_)
  (refine QV.intro (.int .i64 a) ?_ ?_;focus ((repeat' with_reducible first|intro _|exact dn|refine rn ?_|refine ra ?_ ?_);refine ah.k (w1) ?_;(repeat' with_reducible first|intro _|exact dn|refine rn ?_|refine ra ?_ ?_)))
  (repeat' with_reducible first|intro _|exact dn|refine rn ?_|refine ra ?_ ?_)
  (refine QV.intro (.int .i64 b) ?_ ?_;focus ((repeat' with_reducible first|intro _|exact dn|refine rn ?_|refine ra ?_ ?_);refine ah.k (w2) ?_;(repeat' with_reducible first|intro _|exact dn|refine rn ?_|refine ra ?_ ?_)))
  (repeat' with_reducible first|intro _|exact dn|refine rn ?_|refine ra ?_ ?_)
  (refine QV.intro (.int .i64 (aG [a,b])) ?_ ?_;focus ((repeat' with_reducible first|intro _|exact dn|refine rn ?_|refine ra ?_ ?_);refine ah.k (f1) ?_;(repeat' with_reducible first|intro _|exact dn|refine rn ?_|refine ra ?_ ?_)))
  (repeat' with_reducible first|intro _|exact dn|refine rn ?_|refine ra ?_ ?_)
  refine aU.intro (fun j:Nat=>⟨72,[(4,.ptr 0 0),(5,.int .i64 (aG [aG [a,b],if (r.words.take j).all dJ=true then 0 else 2])),(30,.ro (.strs r.words)),(31,.int .i64 r.words.length),(32,.int .i64 j),(11,.ro (iC l)),(12,.int .i64 l.length),(13,.int .i64 i)],[(0,.box 36 [.str r.kind,.ro (.strs r.words),.str r.code])],1⟩) (fun j=>j≤r.words.length) (fun j=>r.words.length - j) 0 ?_ (Nat.zero_le _) fun j hj=>?_
  ·refine bC.aA rfl ?_ ?_<;>simp only [go_sem,Int.natCast_succ,List.all_nil,reduceIte]
   simp only [aG];(repeat' split)<;>first|rfl|omega
  generalize hq:(r.words.take j).all dJ=q
  by_cases hjl:j<r.words.length
  ·have hall:=Iq r.words hjl
   have hwj:=hw (r.words.getD j []) (by rw [getD_lt hjl];exact List.getElem_mem hjl)
   rw [hq] at hall
   have g1:=BH (r.words.getD j []) (by omega)
   have g2:=EC (r.words.getD j [])
   have hwo:dJ (r.words.getD j [])=(eG (r.words.getD j []) && decide (nM (r.words.getD j [])=r.words.getD j [])):=rfl
   (repeat' with_reducible first|intro _|exact dn|refine rn ?_|refine ra ?_ ?_)
   refine ah.k g1 ?_
   cases hd:eG (r.words.getD j []) with
   | false=>
    rw [hd,Bool.false_and] at hwo
    rw [hwo,Bool.and_false] at hall
    (repeat' with_reducible first|intro _|refine rz ?_|refine ra ?_ ?_|omega|simp only [go_sem,hd])
    refine ah.k (lN true 2) ?_
    (repeat' with_reducible first|intro _|exact dn|refine rn ?_|refine ra ?_ ?_)
    refine ah.k (mM [aG [aG [a,b],if q=true then 0 else 2],2] (by simp)) ?_
    (repeat' with_reducible first|intro _|exact dn|refine rn ?_|refine ra ?_ ?_)
    refine ⟨j+1,bC.aA rfl ?_ ?_,by omega,by omega⟩<;>simp only [go_sem,Int.natCast_succ,hall]
    cases q<;>simp only [aG,Bool.false_eq_true,reduceIte]<;>(repeat' split)<;>first|rfl|omega
   | true=>
    rw [hd,Bool.true_and] at hwo
    (repeat' with_reducible first|intro _|refine rz ?_|refine ra ?_ ?_|omega|simp only [go_sem,hd])
    refine ah.k g2 ?_
    generalize nM (r.words.getD j [])=sm at *
    generalize r.words.getD j []=w at *
    by_cases hs:sm=w
    ·rw [hwo,decide_eq_true hs,Bool.and_true] at hall
     (repeat' with_reducible first|intro _|refine rz ?_|refine ra ?_ ?_|omega|simp only [go_sem,hs])
     refine ah.k (lN false 2) ?_
     (repeat' with_reducible first|intro _|exact dn|refine rn ?_|refine ra ?_ ?_)
     refine ah.k (mM [aG [aG [a,b],if q=true then 0 else 2],0] (by simp)) ?_
     (repeat' with_reducible first|intro _|exact dn|refine rn ?_|refine ra ?_ ?_)
     refine ⟨j+1,bC.aA rfl ?_ ?_,by omega,by omega⟩<;>simp only [go_sem,Int.natCast_succ,hall]
     cases q<;>simp only [aG,Bool.false_eq_true,reduceIte]<;>(repeat' split)<;>first|rfl|omega
    ·rw [hwo,decide_eq_false hs,Bool.and_false] at hall
     (repeat' with_reducible first|intro _|refine rz ?_|refine ra ?_ ?_|omega|simp only [go_sem,hs])
     refine ah.k (lN true 2) ?_
     (repeat' with_reducible first|intro _|exact dn|refine rn ?_|refine ra ?_ ?_)
     refine ah.k (mM [aG [aG [a,b],if q=true then 0 else 2],2] (by simp)) ?_
     (repeat' with_reducible first|intro _|exact dn|refine rn ?_|refine ra ?_ ?_)
     refine ⟨j+1,bC.aA rfl ?_ ?_,by omega,by omega⟩<;>simp only [go_sem,Int.natCast_succ,hall]
     cases q<;>simp only [aG,Bool.false_eq_true,reduceIte]<;>(repeat' split)<;>first|rfl|omega
  ·have e:j=r.words.length:=by omega
   subst e
   rw [List.take_length] at hq
   rw [hq] at hE
   have w3:=lN (!p3) 2
   have e3:(if (!p3)=true then (2:Int) else 0)=if p3=true then 0 else 2:=by cases p3<;>rfl
   have w4:=lN (decide ((r.words.length:Int)=0∧r.code=[])) 9
   have e4:(if decide ((r.words.length:Int)=0∧r.code=[])=true then (9:Int) else 0)=if r.words=[]∧r.code=[] then 9 else 0:=by
    simp only [decide_eq_true_eq,hwl]
   rw [e3] at w3
   rw [e4] at w4
   generalize (if p3=true then (0:Int) else 2)=c at *
   generalize (if q=true then (0:Int) else 2)=d at *
   generalize (if r.words=[]∧r.code=[] then (9:Int) else 0)=g at *
   have f2:=mM [aG [aG [a,b],d],c,g] (by simp)
   have hF:aG [aG [aG [a,b],d],c,g]=dY r:=by
    rw [hE];simp only [aG];(repeat' split)<;>first|rfl|omega
   rw [hF] at f2
   (repeat' with_reducible first|intro _|exact dn|refine rn ?_|refine ra ?_ ?_)
   refine dN.lex [16] [] (by kernel_rfl) (by kernel_rfl) ?_
   (repeat' with_reducible first|intro _|exact dn|refine rn ?_|refine ra ?_ ?_)
   (refine QV.intro (.bool p3) ?_ ?_;focus ((repeat' with_reducible first|intro _|exact dn|refine rn ?_|refine ra ?_ ?_);refine ah.k (k3) ?_;(repeat' with_reducible first|intro _|exact dn|refine rn ?_|refine ra ?_ ?_)))
   (repeat' with_reducible first|intro _|exact dn|refine rn ?_|refine ra ?_ ?_)
   (refine QV.intro (.int .i64 c) ?_ ?_;focus ((repeat' with_reducible first|intro _|exact dn|refine rn ?_|refine ra ?_ ?_);refine ah.k (w3) ?_;(repeat' with_reducible first|intro _|exact dn|refine rn ?_|refine ra ?_ ?_)))
   (repeat' with_reducible first|intro _|exact dn|refine rn ?_|refine ra ?_ ?_)
   (refine QV.intro (.int .i64 g) ?_ ?_;focus ((repeat' with_reducible first|intro _|exact dn|refine rn ?_|refine ra ?_ ?_);refine ah.k (w4) ?_;(repeat' with_reducible first|intro _|exact dn|refine rn ?_|refine ra ?_ ?_)))
   (repeat' with_reducible first|intro _|exact dn|refine rn ?_|refine ra ?_ ?_)
   (refine QV.intro (.int .i64 (dY r)) ?_ ?_;focus ((repeat' with_reducible first|intro _|exact dn|refine rn ?_|refine ra ?_ ?_);refine ah.k (f2) ?_;(repeat' with_reducible first|intro _|exact dn|refine rn ?_|refine ra ?_ ?_)))
   (repeat' with_reducible first|intro _|exact dn|refine rn ?_|refine ra ?_ ?_)
   ·rename_i h1
    rw [if_neg h1] at hI
    refine aZ.auto 0 ?_ rfl ?_<;>simp only [go_sem,Int.natCast_succ,Post,hI]
   ·rename_i h1
    rw [if_pos (by omega)] at hI
    refine ⟨i+1,bC.aA rfl ?_ ?_,⟨by omega,hI⟩,by omega⟩<;>simp only [go_sem,Int.natCast_succ]
 ·have e:i=l.length:=by omega
  subst e
  rw [List.drop_length] at hI
  (repeat' with_reducible first|intro _|refine rz ?_|refine ra ?_ ?_|omega|simp only [go_sem,List.length_map])
  refine aZ.auto 0 ?_ rfl ?_<;>simp only [go_sem,Int.natCast_succ,Post]
  all_goals rw [←hI];rfl
end Go.Fv.R
/- The right ones of the first sheets. -/
namespace Go.Fv.R
open Go Go.Proofs
theorem jX:∀ {l:List Int},aG l=0→∀ x,x∈l→x=0
 | y::l,h,x,hx=>by
  simp only [aG] at h
  split at h
  ·rename_i h1
   cases List.mem_cons.1 hx with
   | inl e=>subst e;exact h1
   | inr e=>exact jX h x e
  ·rename_i h1;exact absurd h h1
end Go.Fv.R
/- The law KindsMatch. -/
namespace Go.Fv.R
open Go Go.Proofs
def jY (l:List Ru) (i:Nat):List Ru:=(l.take i).filter fun r=>decide (bn [r]=0)
theorem DW (l:List Ru) {i:Nat} (h:i<l.length):jY l (i+1)=if bn [l.getD i Ru.zero]=0 then jY l i++[l.getD i Ru.zero] else jY l i:=by
 unfold jY
 rw [List.take_succ_eq_append_getElem h,List.filter_append,getD_lt h]
 split
 ·rename_i h1;simp [h1]
 ·rename_i h1;simp [h1]
theorem dS {l:List Ru}:dF l↔∀ r,r∈l→∀ w,w∈r.words→w.length≤1048576:=by
 constructor
 ·intro h r hr w hw
  obtain ⟨i,hi,rfl⟩:=List.getElem_of_mem hr
  exact h i hi w (by rw [getD_lt hi];exact hw)
 ·intro h i hi w hw
  rw [getD_lt hi] at hw
  exact h _ (List.getElem_mem hi) w hw
theorem uO {l k:List Ru} (h:dF l) (hs:∀ r,r∈k→r∈l):dF k:=
 dS.2 fun r hr=>dS.1 h r (hs r hr)
theorem IZ (l:List Ru):∀ r,r∈keepR l→r∈l:=fun r hr=>List.mem_of_mem_take (List.mem_filter.1 hr).1
set_option maxHeartbeats 4000000 in
theorem Lj (l:List Ru) (hW:dF l):aC Tryd.prog 5 [.ro (iC l)] (.own 0) [(0,.row 36 (iC (keepR l)))]:=by
 have hk:keepR l=jY (l.take 10) (l.take 10).length:=by unfold keepR jY;rw [List.take_length]
 rw [hk]
 have hl20:(l.take 10).length=min l.length 10:=by simp [Nat.min_comm]
 have hsub:List.take (min l.length 10 - 0) (l.map Ru.av)=(l.take 10).map Ru.av:=by
  simp only [←List.map_take,Nat.sub_zero]
  rcases Nat.le_total l.length 10 with h|h
  ·rw [Nat.min_eq_left h,List.take_of_length_le (Nat.le_refl _),List.take_of_length_le h]
  ·rw [Nat.min_eq_right h]
 have hlen:∀ i,(jY (l.take 10) i).length≤10:=fun i=>by
  unfold jY
  refine Nat.le_trans (List.length_filter_le _ _) ?_
  simp;omega
 have hmin:min (l.length:Int) 10=((min l.length 10:Nat):Int):=by omega
 have hWq:dF (l.take 10):=uO hW fun r hr=>List.mem_of_mem_take hr
 generalize l.take 10=q at *
 refine aC.aO Tryd.func5 rfl (by decide) (by simp [Tryd.f5]) [.tmp 2] rfl fun w0 T0 _=>?_
 simp only [Tryd.f5,aB]
 (repeat' with_reducible first|intro _|refine rz ?_|refine ra ?_ ?_|omega|simp only [go_sem,KC,hmin,Int.toNat_natCast,hsub,List.length_map])
 refine aU.intro (fun i:Nat=>⟨26,[(12,.int .i64 i),(11,.int .i64 q.length),(10,.ro (iC q)),(3,.own 0)],[(0,.row 36 (iC (jY q i)))],1⟩) (fun i=>i≤q.length) (fun i=>q.length - i) 0 ?_ (Nat.zero_le _) fun i hi=>?_
 ·refine bC.aA rfl ?_ ?_<;>simp only [go_sem,Int.natCast_succ,jY,List.map_nil,List.filter_nil,List.length_map]
 by_cases hlt:i<q.length
 ·have he:=oI q hlt
  have hs:=DW q hlt
  have hn:=hlen i
  have hx:=hWq i hlt
  generalize q.getD i Ru.zero=x at *
  have k2:=iJ [x] (dS.2 fun r hr=>by rw [List.mem_singleton] at hr;subst hr;exact hx)
  generalize bn [x]=e at *
  unfold iC at k2
  rw [List.map_cons,List.map_nil,show x.av=[.str x.kind,.ro (.strs x.words),.str x.code] from rfl] at k2
  (repeat' with_reducible first|intro _|refine rz ?_|refine ra ?_ ?_|omega|simp only [go_sem,eu,he])
  refine ah.k k2 ?_
  (repeat' with_reducible first|intro _|exact dn|refine rn ?_|refine ra ?_ ?_)
  ·rename_i h1
   rw [if_pos h1] at hs
   refine ⟨i+1,bC.aA rfl ?_ ?_,by omega,by omega⟩<;>simp only [go_sem,Int.natCast_succ,hs]
   all_goals simp [Ru.av]
  ·rename_i h1
   rw [if_neg h1] at hs
   refine ⟨i+1,bC.aA rfl ?_ ?_,by omega,by omega⟩<;>simp only [go_sem,Int.natCast_succ,hs]
 ·(repeat' with_reducible first|intro _|exact dn|refine rn ?_|refine ra ?_ ?_)
  have e:i=q.length:=by omega
  subst e
  refine aZ.auto 1 ?_ rfl ?_<;>simp only [go_sem,Int.natCast_succ,Post]
end Go.Fv.R
/- Rules as a text: what is written, and how it is read. -/
namespace Go.Fv.R
open Go Go.Proofs
def cZ (c:UInt8) (s:Bytes):Bytes:=s.takeWhile fun x=>decide (x≠c)
def fE (c:UInt8) (s:Bytes):Bytes:=s.dropWhile fun x=>decide (x≠c)
theorem dW (c:UInt8) (s:Bytes):cZ c s++fE c s=s:=List.takeWhile_append_dropWhile
theorem wE (c:UInt8) (s:Bytes):(fE c s).length≤s.length:=by
 have:=congrArg List.length (dW c s);rw [List.length_append] at this;omega
theorem Fh (c:UInt8) (s:Bytes):c∉cZ c s:=by
 unfold cZ
 induction s with
 | nil=>simp
 | cons x s ih=>
  rw [List.takeWhile_cons]
  split
  ·rename_i h
   intro hm
   rcases List.mem_cons.1 hm with e|hm
   ·subst e;simp at h
   ·exact ih hm
  ·simp
theorem nX (c:UInt8) (s:Bytes):fE c s=[]∨∃ t,fE c s=c::t:=by
 cases h:fE c s with
 | nil=>exact .inl rfl
 | cons x t=>
  refine .inr ⟨t,?_⟩
  have hd:=List.head?_dropWhile_not (fun x=>decide (x≠c)) s
  unfold fE at h
  rw [h] at hd
  simp at hd
  rw [hd]
theorem vG {c:UInt8} {a:Bytes} (h:c∉a) (b:Bytes):cZ c (a++c::b)=a∧fE c (a++c::b)=c::b:=by
 unfold cZ fE
 induction a with
 | nil=>simp
 | cons x a ih=>
  have hx:x≠c:=fun e=>h (by simp [e])
  have ha:c∉a:=fun e=>h (.tail _ e)
  obtain ⟨i1,i2⟩:=ih ha
  constructor
  ·rw [List.cons_append,List.takeWhile_cons,if_pos (by simpa using hx),i1]
  ·rw [List.cons_append,List.dropWhile_cons,if_pos (by simpa using hx),i2]
theorem GV {c:UInt8} {a:Bytes} (h:c∉a):cZ c a=a∧fE c a=[]:=by
 unfold cZ fE
 induction a with
 | nil=>simp
 | cons x a ih=>
  have hx:x≠c:=fun e=>h (by simp [e])
  obtain ⟨i1,i2⟩:=ih fun e=>h (.tail _ e)
  constructor
  ·rw [List.takeWhile_cons,if_pos (by simpa using hx),i1]
  ·rw [List.dropWhile_cons,if_pos (by simpa using hx),i2]
def bG:Bytes:=[99,111,100,101]
def NU:Nat→Bytes→List Bytes→Option (List Bytes × Bytes)
 | 0,_,_=>none
 | n+1,s,acc=>
  if cZ 32 s=bG then (match fE 32 s with
   | _::c=>if c=[] then none else some (acc,c)
   | []=>none)
  else if cZ 32 s=[] then none
  else match fE 32 s with
   | _::t=>NU n t (acc++[cZ 32 s])
   | []=>some (acc++[cZ 32 s],[])
theorem pU {c:UInt8} {s t:Bytes} {x:UInt8} (h:fE c s=x::t):t.length<s.length:=by
 have:=wE c s;rw [h,List.length_cons] at this;omega
theorem EZ:∀ (n m:Nat) (s:Bytes) (acc:List Bytes),s.length<n→s.length<m→NU n s acc=NU m s acc
 | 0,_,s,_,h,_=>absurd h (by omega)
 | _,0,s,_,_,h=>absurd h (by omega)
 | n+1,m+1,s,acc,h1,h2=>by
  unfold NU
  cases h:fE 32 s with
  | nil=>rfl
  | cons x t=>
   have:=pU h
   dsimp only
   rw [EZ n m t _ (by omega) (by omega)]
def CV (s:Bytes) (acc:List Bytes):Option (List Bytes × Bytes):=NU (s.length+1) s acc
theorem vX (s:Bytes) (acc:List Bytes):CV s acc=if cZ 32 s=bG then (match fE 32 s with
   | _::c=>if c=[] then none else some (acc,c)
   | []=>none)
  else if cZ 32 s=[] then none
  else match fE 32 s with
   | _::t=>CV t (acc++[cZ 32 s])
   | []=>some (acc++[cZ 32 s],[]):=by
 unfold CV
 conv=>lhs;unfold NU
 cases h:fE 32 s with
 | nil=>rfl
 | cons x t=>
  have:=pU h
  dsimp only
  rw [EZ s.length (t.length+1) t _ (by omega) (by omega)]
def sp1:Bytes→Option Bytes
 | _::y::m=>if y=32 then some m else none
 | _=>none
def LW (s:Bytes):Option Ru:=match sp1 (fE 58 s) with
 | some m=>if cZ 58 s=[]∨32∈cZ 58 s then none else (CV m []).map fun p=>⟨cZ 58 s,p.1,p.2⟩
 | none=>none
def oZ:Nat→Bytes→List Ru→Nat→List Ru × Int × Int
 | 0,_,acc,_=>(acc,0,0)
 | n+1,s,acc,i=>if s=[] then (acc,0,0) else match fE 10 s with
  | []=>([],i,8)
  | _::t=>match LW (cZ 10 s) with
   | none=>([],i,8)
   | some r=>oZ n t (acc++[r]) (i+1)
/-! ### What is written -/
def lS (r:Ru):Bytes:=r.kind++[58]++(r.words.flatMap fun w=>32::w)++(if r.code=[] then [] else 32::bG++32::r.code)++[10]
def kQ (ws:List Bytes) (code:Bytes):Bytes:=(ws.flatMap fun w=>32::w)++(if code=[] then [] else 32::bG++32::code)
def P9 (w:Bytes):Prop:=w≠[]∧32∉w∧10∉w∧w≠bG
theorem Ag:∀ (ws:List Bytes) (code:Bytes) (acc:List Bytes),(∀ w,w∈ws→P9 w)→(ws≠[]∨code≠[])→∃ m,kQ ws code=32::m∧CV m acc=some (acc++ws,code)
 | [],code,acc,_,h=>by
  have hc:code≠[]:=h.elim (fun h=>absurd rfl h) id
  refine ⟨bG++32::code,by simp [kQ,hc],?_⟩
  rw [vX]
  obtain ⟨h1,h2⟩:=vG (c:=32) (a:=bG) (by decide) code
  rw [h1,h2,if_pos rfl]
  simp [hc]
 | w::ws,code,acc,hw,_=>by
  obtain ⟨w1,w2,w3,w4⟩:=hw w (.head _)
  by_cases he:ws=[]∧code=[]
  ·obtain ⟨rfl,rfl⟩:=he
   refine ⟨w,by simp [kQ],?_⟩
   rw [vX]
   obtain ⟨h1,h2⟩:=GV w2
   rw [h1,h2,if_neg w4,if_neg w1]
  ·have hne:ws≠[]∨code≠[]:=by
    by_cases e:ws=[]
    ·exact .inr fun e2=>he ⟨e,e2⟩
    ·exact .inl e
   obtain ⟨m,hm1,hm2⟩:=Ag ws code (acc++[w]) (fun v hv=>hw v (.tail _ hv)) hne
   refine ⟨w++32::m,?_,?_⟩
   ·have e:kQ (w::ws) code=32::w++kQ ws code:=by simp [kQ,List.append_assoc]
    rw [e,hm1];rfl
   ·rw [vX]
    obtain ⟨h1,h2⟩:=vG w2 m
    rw [h1,h2,if_neg w4,if_neg w1]
    dsimp only
    rw [hm2,List.append_assoc];rfl
structure Pm (r:Ru):Prop where
 kind:r.kind≠[]∧58∉r.kind∧32∉r.kind∧10∉r.kind
 words:∀ w,w∈r.words→P9 w
 code:10∉r.code
 some:r.words≠[]∨r.code≠[]
theorem OD (r:Ru):lS r=(r.kind++58::kQ r.words r.code)++[10]:=by
 simp [lS,kQ,List.append_assoc]
theorem KW (r:Ru) (h:Pm r):LW (r.kind++58::kQ r.words r.code)=some r:=by
 obtain ⟨m,h1,h2⟩:=Ag r.words r.code [] h.words h.some
 obtain ⟨b1,b2⟩:=vG h.kind.2.1 (kQ r.words r.code)
 unfold LW
 rw [b2,h1,show sp1 (58::32::m)=some m from rfl]
 rw [h1] at b1
 rw [b1]
 show (if r.kind=[]∨32∈r.kind then none else Option.map (fun p=>(⟨r.kind,p.1,p.2⟩:Ru)) (CV m []))=some r
 rw [if_neg (fun e=>e.elim h.kind.1 h.kind.2.2.1),h2]
 rfl
theorem Nl (r:Ru) (h:Pm r):(10:UInt8)∉r.kind++58::kQ r.words r.code:=by
 intro hm
 rcases List.mem_append.1 hm with hm|hm
 ·exact h.kind.2.2.2 hm
 ·rcases List.mem_cons.1 hm with hm|hm
  ·cases hm
  ·unfold kQ at hm
   rcases List.mem_append.1 hm with hm|hm
   ·obtain ⟨w,hw,hm⟩:=List.mem_flatMap.1 hm
    rcases List.mem_cons.1 hm with hm|hm
    ·cases hm
    ·exact (h.words w hw).2.2.1 hm
   ·split at hm
    ·cases hm
    ·rcases List.mem_append.1 hm with hm|hm
     ·revert hm;decide
     ·rcases List.mem_cons.1 hm with hm|hm
      ·cases hm
      ·exact h.code hm
theorem Ew:∀ (l:List Ru) (n:Nat) (acc:List Ru) (i:Nat),(∀ r,r∈l→Pm r)→l.length<n→oZ n (l.flatMap lS) acc i=(acc++l,0,0)
 | [],0,acc,i,_,h=>absurd h (by omega)
 | [],n+1,acc,i,_,_=>by simp [oZ]
 | r::l,0,_,_,_,h=>absurd h (by omega)
 | r::l,n+1,acc,i,hr,h=>by
  have h1:=hr r (.head _)
  have e:(r::l).flatMap lS=(r.kind++58::kQ r.words r.code)++10::l.flatMap lS:=by
   rw [List.flatMap_cons,OD];simp
  unfold oZ
  rw [e]
  obtain ⟨b1,b2⟩:=vG (Nl r h1) (l.flatMap lS)
  rw [b1,b2,KW r h1,if_neg (by simp)]
  dsimp only
  rw [Ew l n _ _ (fun q hq=>hr q (.tail _ hq)) (by rw [List.length_cons] at h;omega)]
  simp
end Go.Fv.R
/- slices.Contains of texts. -/
namespace Go.Fv.R
open Go Go.Proofs
theorem AQ (n:Bytes) (l:List Bytes) (i:Nat):(0≤firstAt (fun x=>decide (n=x)) l i)↔n∈l:=by
 rw [mG]
 simp
set_option maxHeartbeats 1000000 in
theorem IX (l:List Bytes) (n:Bytes):aC Tryd.prog 36 [.ro (.strs l),.str n] (.int .i64 (firstAt (fun x=>decide (n=x)) l 0)) []:=by
 refine aC.aO Tryd.func36 rfl (by decide) (by simp [Tryd.f36]) [.tmp 4] rfl fun w0 T0 _=>?_
 simp only [Tryd.f36,aB]
 (repeat' with_reducible first|intro _|exact dn|refine rn ?_|refine ra ?_ ?_)
 refine aU.intro (fun i:Nat=>⟨19,[(0,.ro (.strs l)),(1,.str n),(7,.int .i64 l.length),(8,.int .i64 i)],[],0⟩) (fun i=>i≤l.length∧firstAt (fun x=>decide (n=x)) (l.drop i) i=firstAt (fun x=>decide (n=x)) l 0) (fun i=>l.length - i) 0 ?_ ⟨Nat.zero_le _,rfl⟩ fun i hI=>?_
 ·refine bC.aA rfl ?_ ?_<;>simp only [go_sem,Int.natCast_succ]
 obtain ⟨hl,hI⟩:=hI
 by_cases hlt:i<l.length
 ·rw [qI l [] hlt,firstAt] at hI
  by_cases he:n=l.getD i []
  ·rw [if_pos (decide_eq_true he)] at hI
   (repeat' with_reducible first|intro _|refine rz ?_|refine ra ?_ ?_|omega|simp only [go_sem,eu,←he])
   refine aZ.auto 0 ?_ rfl ?_<;>simp only [go_sem,Int.natCast_succ,Post,hI]
  ·rw [if_neg (by simpa using he)] at hI
   (repeat' with_reducible first|intro _|refine rz ?_|refine ra ?_ ?_|omega|simp only [go_sem,eu,he])
   refine ⟨i+1,bC.aA rfl ?_ ?_,⟨by omega,hI⟩,by omega⟩<;>simp only [go_sem,Int.natCast_succ]
 ·have e:i=l.length:=by omega
  subst e
  rw [List.drop_length] at hI
  (repeat' with_reducible first|intro _|exact dn|refine rn ?_|refine ra ?_ ?_)
  refine aZ.auto 0 ?_ rfl ?_<;>simp only [go_sem,Int.natCast_succ,Post]
  rw [←hI];rfl
theorem qF (l:List Bytes) (n:Bytes):aC Tryd.prog 14 [.ro (.strs l),.str n] (.bool (decide (n∈l))) []:=by
 have k:=IX l n
 have hm:=AQ n l 0
 have e:decide (n∈l)=decide (0≤firstAt (fun x=>decide (n=x)) l 0):=by rw [Bool.eq_iff_iff,decide_eq_true_eq,decide_eq_true_eq,hm]
 rw [e]
 refine aC.aO Tryd.func14 rfl (by decide) (by simp [Tryd.f14]) [.tmp 4] rfl fun w0 T0 _=>?_
 simp only [Tryd.f14,aB]
 (repeat' with_reducible first|intro _|exact dn|refine rn ?_|refine ra ?_ ?_)
 refine ah.k k ?_
 (repeat' with_reducible first|intro _|exact dn|refine rn ?_|refine ra ?_ ?_)
 refine aZ.auto 0 ?_ rfl ?_<;>simp only [go_sem,Int.natCast_succ,Post]
end Go.Fv.R
/- strings.Builder: copyCheck at this program. -/
namespace Go.Fv.R
open Go Go.Proofs Go.RowKit
theorem BL (w:World) (g:Nat) (a b v:Value) (t:TypeId) (h:w.heap[g]?=some (.cells #[a,b] t (0,0))):(w.setCell ⟨g,0,none⟩ v).heap[g]?=some (.cells #[v,b] t (0,0)):=by
 unfold World.setCell
 simp [h,Array.getElem?_modify]
theorem xQ (w:World) (g k:Nat) (v:Value) (h:k≠g):(w.setCell ⟨g,0,none⟩ v).heap[k]?=w.heap[k]?:=by
 unfold World.setCell
 simp only [Array.getElem?_modify]
 rw [if_neg (fun e=>h e.symm)]
theorem Oh:(Tryd.prog.info? 41).map (·.size)=some 2:=by kernel_rfl
theorem Pz:liesAt Tryd.prog Tryd.prog.depth 41 (2 / Tryd.prog.cellsOf 41) 0 41 1=true:=by kernel_rfl
theorem QH:Tryd.f37.ntmps=20:=rfl
set_option maxHeartbeats 1000000 in
set_option maxRecDepth 100000 in
theorem JL (b:Nat) (w:World) (h0:w.cell? ⟨b,0,none⟩=some (.pointer (some ⟨b,0,none⟩))) :
  Calls Tryd.prog 37 #[.pointer (some ⟨b,0,none⟩)] w fun e w'=>e=.returned (.tuple #[])∧w'=w:=by
 have t70:=Tryd.underlying38
 have t72:=Tryd.underlying41
 have a72:=Tryd.isAgg41
 have z72:=Tryd.sizeOf41
 have a70:=Tryd.isAgg38
 have z70:=Tryd.sizeOf38
 have hf:=Tryd.func37
 have mixed:Tryd.prog.follows .mixedOrders=true:=by kernel_rfl
 obtain ⟨j,hj,hjs⟩:=Option.map_eq_some_iff.1 Oh
 have u70:=run_underlying t70
 have u72:=run_underlying t72
 have hn:=QH
 generalize Tryd.prog=P at *
 go_enter hf,hn
 go_wp2
 rw [Lib.run_neq_ptr_same w _ t70 hj]
 go_wp2
 go_end0
 exact ⟨rfl,rfl⟩
set_option maxHeartbeats 1000000 in
set_option maxRecDepth 100000 in
theorem Iw (b:Nat) (w:World) (h0:w.cell? ⟨b,0,none⟩=some (.pointer none)) (hsh:w.shape? b=some (41,2)) (hfz:w.frozen? ⟨b,0,none⟩=false) :
  Calls Tryd.prog 37 #[.pointer (some ⟨b,0,none⟩)] w fun e w'=>e=.returned (.tuple #[])∧w'=w.setCell ⟨b,0,none⟩ (.pointer (some ⟨b,0,none⟩)):=by
 have t70:=Tryd.underlying38
 have t72:=Tryd.underlying41
 have t164:=Tryd.underlying84
 have a72:=Tryd.isAgg41
 have z72:=Tryd.sizeOf41
 have a70:=Tryd.isAgg38
 have z70:=Tryd.sizeOf38
 have hf:=Tryd.func37
 have hx:=Tryd.func56
 have mixed:Tryd.prog.follows .mixedOrders=true:=by kernel_rfl
 obtain ⟨j,hj,hjs⟩:=Option.map_eq_some_iff.1 Oh
 have hlies:=Pz
 have u70:=run_underlying t70
 have u72:=run_underlying t72
 have hn:=QH
 generalize Tryd.prog=P at *
 go_enter hf,hn
 go_wp2
 rw [Lib.run_to_unsafe w ⟨b,0,none⟩ t70 t164 hj (by rw [hjs];decide) hsh (Nat.zero_lt_succ 1)]
 simp only [Result.andThen]
 rw [Oper.upon_value]
 go_wp2
 rw [run_callFunc_extern hx (by kernel_rfl) (by kernel_rfl) (by kernel_rfl) (e:=Extern.AbiNoEscape.same) (by kernel_rfl)]
 rw [Lib.run_noEscape]
 simp only [Result.andThen]
 rw [Oper.upon_value]
 go_wp2
 rw [Lib.run_from_unsafe w ⟨b,0,none⟩ t164 t70 hj hsh hlies]
 simp only [Result.andThen]
 rw [Oper.upon_value]
 go_wp2
 go_end0
 exact ⟨rfl,rfl⟩
end Go.Fv.R
/- strings.Builder: what its methods do to a caller's builder. -/
namespace Go.Fv.R
open Go Go.Proofs
theorem Qo {a it:Item} {i:Nat} (h:lk [(0,a)] i=some it):i=0∧it=a:=by
 simp only [lk] at h
 split at h
 ·rename_i e;exact ⟨e.symm,(Option.some.inj h).symm⟩
 ·cases h
theorem P6 {a b it:Item} {i:Nat} (h:lk [(0,a),(1,b)] i=some it):(i=0∧it=a)∨(i=1∧it=b):=by
 simp only [lk] at h
 split at h
 ·rename_i e;exact .inl ⟨e.symm,(Option.some.inj h).symm⟩
 ·split at h
  ·rename_i e;exact .inr ⟨e.symm,(Option.some.inj h).symm⟩
  ·cases h
theorem qG:jv Tryd.prog 37 [.ptr 0 0] [(0,.box 41 [.raw (.pointer none),.nilS])] 1 (.tup []) [(0,.box 41 [.ptr 0 0,.nilS])]:=by
 refine ⟨⟨_,Tryd.func37,by kernel_rfl,by kernel_rfl⟩,fun w T g m0 vals ⟨hrow,_,hd⟩ hgl hng hv=>?_⟩
 obtain ⟨_,g0,vs,hm,hO,hl,hh⟩:=hrow 0 _ rfl
 cases hv with
 | cons _ v0 _ vs0 h0 hvs=>
 cases hvs
 cases h0 with
 | ptr _ _ gp hi hg=>
 have hg:blk (m0 0)=some gp:=hg
 rw [hm] at hg
 cases hg
 cases hl with
 | cons _ a _ _ ha _ hl=>
 cases ha
 cases hl with
 | cons _ b _ _ hb _ hl=>
 cases hb
 cases hl
 have hh':w.heap[g0]?=some (.cells #[.pointer none,.slice none 0 0] 41 (0,0)):=hh
 refine (Iw g0 w (by simp [World.cell?,hh']) (by simp [World.shape?,hh']) (by simp [World.frozen?,hh'])).mono ?_
 rintro e w' ⟨rfl,rfl⟩
 refine ⟨_,rfl,⟨rfl,rfl,rfl,by simp [World.setCell],trivial,fun k hk hn=>xQ w g0 k _ fun e=>hn (e▸hO)⟩,m0,1,fun _ _=>rfl,Nat.le_refl _,.tup [] [] .nil,fun i it hi=>?_,fun i j it jt b hi hj _ _=>?_⟩
 ·obtain ⟨rfl,rfl⟩:=Qo hi
  refine ⟨Nat.one_pos,g0,[.pointer (some ⟨g0,0,none⟩),.slice none 0 0],hm,.inr ⟨hO,.inr hO⟩,?_,BL w g0 _ _ _ _ hh'⟩
  exact .cons _ _ _ _ (.ptr 0 0 g0 Nat.one_pos (by show blk (m0 0)=some g0;rw [hm];rfl)) rfl (.cons _ _ _ _ .nilS rfl .nil)
 ·rw [(Qo hi).1,(Qo hj).1]
theorem Dx (e:TypeId) (l:List Int):jv Tryd.prog 37 [.ptr 0 0] [(0,.box 41 [.ptr 0 0,.own 1]),(1,.row e (.ints .u8 l))] 2 (.tup []) [(0,.box 41 [.ptr 0 0,.own 1]),(1,.row e (.ints .u8 l))]:=by
 refine ⟨⟨_,Tryd.func37,by kernel_rfl,by kernel_rfl⟩,fun w T g m0 vals ⟨hrow,hsep,hd⟩ hgl hng hv=>?_⟩
 obtain ⟨_,g0,vs,hm,hO,hl,hh⟩:=hrow 0 _ rfl
 obtain ⟨_,n,cells,hr,hn,how,hO2⟩:=hrow 1 _ rfl
 cases hv with
 | cons _ v0 _ vs0 h0 hvs=>
 cases hvs
 cases h0 with
 | ptr _ _ gp hi hg=>
 have hg:blk (m0 0)=some gp:=hg
 rw [hm] at hg
 cases hg
 cases hl with
 | cons _ a _ _ ha _ hl=>
 cases ha with
 | ptr _ _ ga _ hga=>
 have hga:blk (m0 0)=some ga:=hga
 rw [hm] at hga
 cases hga
 cases hl with
 | cons _ b _ _ hb hb1 hl=>
 cases hl
 have hh':w.heap[g0]?=some (.cells #[.pointer (some ⟨g0,0,none⟩),b] 41 (0,0)):=hh
 refine (JL g0 w (by simp [World.cell?,hh'])).mono ?_
 rintro e w' ⟨rfl,rfl⟩
 refine ⟨_,rfl,aP.refl _ _,m0,2,fun _ _=>rfl,Nat.le_refl _,.tup [] [] .nil,fun i it hi=>?_,fun i j it jt b hi hj h1 h2=>?_⟩
 ·rcases P6 hi with ⟨rfl,rfl⟩|⟨rfl,rfl⟩
  ·refine ⟨by decide,g0,[.pointer (some ⟨g0,0,none⟩),b],hm,.inr ⟨hO,.inr hO⟩,?_,hh'⟩
   cases hb with
   | own _ h5 h6=>exact .cons _ _ _ _ (.ptr 0 0 g0 (show 0<2 by decide) (by show blk (m0 0)=some g0;rw [hm];rfl)) rfl (.cons _ _ _ _ (.own 1 (show 1<2 by decide) h6) hb1 .nil)
  ·refine ⟨by decide,n,cells,?_,hn,how,fun b hb=>.inr ⟨hO2 b hb,.inr (hO2 b hb)⟩⟩
   cases hr with
   | ints _ _ h7=>exact .ints _ _ h7
 ·exact hsep i j it jt b hi hj h1 h2
theorem N7 {a b:Item}:∀ j,j<2→∃ it,lk [(0,a),(1,b)] j=some it:=fun j hj=>by
 have:j=0∨j=1:=by omega
 rcases this with rfl|rfl
 ·exact ⟨a,rfl⟩
 ·exact ⟨b,rfl⟩
theorem JO {a:Item}:∀ j,j<1→∃ it,lk [(0,a)] j=some it:=fun j hj=>by
 obtain rfl:j=0:=by omega
 exact ⟨a,rfl⟩
set_option maxHeartbeats 2000000 in
theorem zl (s:List UInt8) (hs:s.length≤100000000000):jv Tryd.prog 15 [.ptr 0 0,.str s] [(0,.box 41 [.raw (.pointer none),.nilS])] 1 (.tup [.int .i64 s.length,.raw .nilIface]) [(0,.box 41 [.ptr 0 0,.own 1]),(1,.row 5 (.ints .u8 (aJ s)))]:=by
 have k:=qG
 refine jv.aO Tryd.func15 rfl (by decide) (by simp [Tryd.f15]) JO [.tmp 4,.tmp 5] rfl fun w0 T0 _=>?_
 simp only [Tryd.f15,aB]
 (repeat' with_reducible first|intro _|exact dn|refine rn ?_|refine ra ?_ ?_)
 refine ah.i [0] k 1 ?_
 (repeat' with_reducible first|intro _|refine rz ?_|refine ra ?_ ?_|omega|simp only [go_sem,S.FP,gK,iw,pX,Item.ren,ren,dw,List.getElem?_cons_zero,List.getElem?_cons_succ,List.getElem?_nil,List.filter])
 refine jA.of [(1,2)] 3 (by decide) (by decide) ?_ rfl ?_<;>simp only [go_sem,Int.natCast_succ,aJ]
set_option maxHeartbeats 2000000 in
theorem dH (b s:List UInt8) (hb:b.length≤100000000000) (hs:s.length≤10000000000):jv Tryd.prog 15 [.ptr 0 0,.str s] [(0,.box 41 [.ptr 0 0,.own 1]),(1,.row 5 (.ints .u8 (aJ b)))] 2 (.tup [.int .i64 s.length,.raw .nilIface]) [(0,.box 41 [.ptr 0 0,.own 2]),(2,.row 5 (.ints .u8 (aJ (b++s))))]:=by
 have k:=Dx 5 (aJ b)
 have hbl:=jg b
 have he:aJ (b++s)=aJ b++s.map (fun b=>(b.toNat:Int)):=by unfold aJ;rw [List.map_append]
 generalize aJ b=B at *
 generalize aJ (b++s)=C at *
 refine jv.aO Tryd.func15 rfl (by decide) (by simp [Tryd.f15]) N7 [.tmp 4,.tmp 5] rfl fun w0 T0 _=>?_
 simp only [Tryd.f15,aB]
 (repeat' with_reducible first|intro _|exact dn|refine rn ?_|refine ra ?_ ?_)
 refine ah.i [0,1] k 2 ?_
 (repeat' with_reducible first|intro _|exact dn|refine rn ?_|refine ra ?_ ?_)
 refine jA.of [(2,2)] 3 (by decide) (by decide) ?_ rfl ?_<;>simp only [go_sem,Int.natCast_succ,he]
set_option maxHeartbeats 2000000 in
theorem xW:jv Tryd.prog 16 [.ptr 0 0] [(0,.box 41 [.raw (.pointer none),.nilS])] 1 (.str []) []:=by
 refine jv.aO Tryd.func16 rfl (by decide) (by simp [Tryd.f16]) JO [.tmp 2] rfl fun w0 T0 _=>?_
 simp only [Tryd.f16,aB]
 (repeat' with_reducible first|intro _|exact dn|refine rn ?_|refine ra ?_ ?_)
 refine dN.lex [] [] (by kernel_rfl) (by kernel_rfl) ?_
 (repeat' with_reducible first|intro _|exact dn|refine rn ?_|refine ra ?_ ?_)
 refine QV.intro (.raw (.pointer none)) ?_ ?_
 ·(repeat' with_reducible first|intro _|exact dn|refine rn ?_|refine ra ?_ ?_)
 (repeat' with_reducible first|intro _|exact dn|refine rn ?_|refine ra ?_ ?_)
 refine QV.intro (.str []) ?_ ?_
 ·(repeat' with_reducible first|intro _|exact dn|refine rn ?_|refine ra ?_ ?_)
 (repeat' with_reducible first|intro _|exact dn|refine rn ?_|refine ra ?_ ?_)
 refine jA.auto 1 (Nat.le_refl 1) ?_ rfl ?_<;>simp only [go_sem,Int.natCast_succ]
set_option maxHeartbeats 2000000 in
theorem pI (b:List UInt8) (hb:0<b.length):jv Tryd.prog 16 [.ptr 0 0] [(0,.box 41 [.ptr 0 0,.own 1]),(1,.row 5 (.ints .u8 (aJ b)))] 2 (.str b) []:=by
 have hbl:=jg b
 have hz:((aJ b).map fun n=>UInt8.ofNat n.toNat)=b:=kE b
 have hne:aJ b≠[]:=fun e=>by rw [e] at hbl;simp at hbl;omega
 generalize aJ b=B at *
 refine jv.aO Tryd.func16 rfl (by decide) (by simp [Tryd.f16]) N7 [.tmp 2] rfl fun w0 T0 _=>?_
 simp only [Tryd.f16,aB]
 (repeat' with_reducible first|intro _|exact dn|refine rn ?_|refine ra ?_ ?_)
 refine dN.lex [10] [] (by kernel_rfl) (by kernel_rfl) ?_
 (repeat' with_reducible first|intro _|refine rz ?_|refine ra ?_ ?_|omega|simp only [go_sem,hne,hbl,hz])
 refine QV.intro (.elt 1 1 0 0) ?_ ?_
 ·(repeat' with_reducible first|intro _|refine rz ?_|refine ra ?_ ?_|omega|simp only [go_sem,hne,hbl,hz])
 (repeat' with_reducible first|intro _|refine rz ?_|refine ra ?_ ?_|omega|simp only [go_sem,hne,hbl,hz])
 trace_state
 refine QE.intro (.str b) [(2,.row 5 (.ints .u8 [])),(0,.box 41 [.ptr 0 0,.own 1])] 3 ?_ ?_
 ·(repeat' with_reducible first|intro _|refine rz ?_|refine ra ?_ ?_|omega|simp only [go_sem,hne,hbl,hz])
 (repeat' with_reducible first|intro _|refine rz ?_|refine ra ?_ ?_|omega|simp only [go_sem,hne,hbl,hz])
 refine jA.auto 2 (Nat.le_refl 2) ?_ rfl ?_<;>simp only [go_sem,Int.natCast_succ]
end Go.Fv.R
/- strings.Builder: Grow at a fresh builder. -/
namespace Go.Fv.R
open Go Go.Proofs Go.RowKit
theorem Rh:Tryd.f57.ntmps=30:=rfl
theorem OO:(Tryd.prog.info? 5).map (·.size)=some 1:=by kernel_rfl
set_option maxHeartbeats 2000000 in
set_option maxRecDepth 1000000 in
theorem IQ (b n:Nat) (w:World) (hbk:w.heap[b]?=some (.cells #[.pointer (some ⟨b,0,none⟩),.slice none 0 0] 41 (0,0))) (hn:n≤281474976710656) :
  Calls Tryd.prog 57 #[.pointer (some ⟨b,0,none⟩),.int .i64 n] w fun e w'=>e=.returned (.tuple #[])∧∃ cs:Array Value,n≤cs.size∧cs.size≤maxLen ∧
   w'=((w.setCell ⟨b,1,none⟩ (.slice (some ⟨w.heap.size,0,none⟩) 0 cs.size)).alloc (.cells cs 5)).drew.drew.drew:=by
 obtain ⟨cs,hrun,hle,hmax⟩:=Lib.run_makeNoZero (P:=Tryd.prog) w.drew #[3] 39 5 Tryd.underlying39 n hn
 have hw:IntKind.i64.wrap (IntKind.i64.wrap 0+(n:Int))=n:=by
  rw [IntKind.wrap_i64,IntKind.wrap_i64]
  omega
 have hcall:(callFunc 73 #[.int .i64 (IntKind.i64.wrap (IntKind.i64.wrap 0+(n:Int)))]).run Tryd.prog w.drew=.ok (.value (.slice (some ⟨w.drew.heap.size,0,none⟩) n cs.size)) (w.drew.drew.drew.alloc (.cells cs 5)):=by
  rw [hw,run_callFunc_extern Tryd.func73 (by kernel_rfl) (by kernel_rfl) (by kernel_rfl) (e:=Extern.BytealgMakeNoZero.makeNoZero #[3] #[39]) (by kernel_rfl),hrun]
  rfl
 have hlt:b<w.heap.size:=by
  rcases Nat.lt_or_ge b w.heap.size with h'|h'
  ·exact h'
  ·simp [Array.getElem?_eq_none h'] at hbk
 have c1:w.drew.cell? ⟨b,1,none⟩=some (.slice none 0 0):=by
  have:w.drew.heap[b]?=_:=hbk
  rw [Lib.cell_of_heap this];rfl
 have c2:(w.alloc (.cells cs 5)).cell? ⟨b,1,none⟩=some (.slice none 0 0):=by
  have:(w.alloc (.cells cs 5)).heap[b]?=_:=(Lib.alloc_old w _ b hlt).trans hbk
  rw [Lib.cell_of_heap this];rfl
 have f2:(w.alloc (.cells cs 5)).frozen? ⟨b,1,none⟩=false:=by
  exact Lib.frozen_of_heap ((Lib.alloc_old w _ b hlt).trans hbk) 1
 have hcopy:∀ W:World,(Builtin.copy_ #[39,39] 3 #[.slice (some ⟨w.heap.size,0,none⟩) 0 cs.size,.slice none 0 0]).run Tryd.prog W=.ok (goInt 0) W:=
  fun W=>run_copy_none W 39 39 3 5 _ _ 0 cs.size 0 0 Tryd.underlying39 OO rfl
 clear hw
 have t70:=Tryd.underlying38
 have t72:=Tryd.underlying41
 have a72:=Tryd.isAgg41
 have z72:=Tryd.sizeOf41
 have a70:=Tryd.isAgg38
 have z70:=Tryd.sizeOf38
 have t37:=Tryd.underlying39
 have a37:=Tryd.isAgg39
 have z37:=Tryd.sizeOf39
 have t3:=Tryd.underlying3
 have a3:=Tryd.isAgg3
 have z3:=Tryd.sizeOf3
 have t5:=Tryd.underlying5
 have a5:=Tryd.isAgg5
 have z5:=Tryd.sizeOf5
 have hf:=Tryd.func57
 have mixed:Tryd.prog.follows .mixedOrders=true:=by kernel_rfl
 have u70:=run_underlying t70
 have u72:=run_underlying t72
 have u37:=run_underlying t37
 have u3:=run_underlying t3
 have u5:=run_underlying t5
 have hm1:=hmax
 have hnt:=Rh
 generalize Tryd.prog=P at *
 go_enter hf,hnt
 go_wp2
 go_region_o
 all_goals (go_wp2;go_end0;exact ⟨rfl,cs,hle,hm1 (by unfold maxLen;omega),rfl⟩)
end Go.Fv.R
/- strings.Builder: Grow of a fresh builder, for a caller. -/
namespace Go.Fv.R
open Go Go.Proofs Go.RowKit
theorem Lp (w:World) (g:Nat) (a b v:Value) (t:TypeId) (h:w.heap[g]?=some (.cells #[a,b] t (0,0))):(w.setCell ⟨g,1,none⟩ v).heap[g]?=some (.cells #[a,v] t (0,0)):=by
 unfold World.setCell
 simp [h,Array.getElem?_modify]
theorem xP (w:World) (g k:Nat) (v:Value) (h:k≠g):(w.setCell ⟨g,1,none⟩ v).heap[k]?=w.heap[k]?:=by
 unfold World.setCell
 simp only [Array.getElem?_modify]
 rw [if_neg (fun e=>h e.symm)]
theorem Nc (n:Nat) (hn:n≤281474976710656):jv Tryd.prog 57 [.ptr 0 0,.int .i64 n] [(0,.box 41 [.ptr 0 0,.nilS])] 1 (.tup []) [(0,.box 41 [.ptr 0 0,.own 1]),(1,.row 5 (.ints .u8 []))]:=by
 refine ⟨⟨_,Tryd.func57,by kernel_rfl,by kernel_rfl⟩,fun w T g m0 vals ⟨hrow,_,hd⟩ hgl hng hv=>?_⟩
 obtain ⟨_,g0,vs,hm,hO,hl,hh⟩:=hrow 0 _ rfl
 cases hv with
 | cons _ v0 _ vs0 h0 hvs=>
 cases hvs with
 | cons _ v1 _ vs1 h1 hvs=>
 cases hvs
 cases h1
 cases h0 with
 | ptr _ _ gp hi hg=>
 have hg:blk (m0 0)=some gp:=hg
 rw [hm] at hg
 cases hg
 cases hl with
 | cons _ a _ _ ha _ hl=>
 cases ha with
 | ptr _ _ ga _ hga=>
 have hga:blk (m0 0)=some ga:=hga
 rw [hm] at hga
 cases hga
 cases hl with
 | cons _ b _ _ hb _ hl=>
 cases hb
 cases hl
 have hh':w.heap[g0]?=some (.cells #[.pointer (some ⟨g0,0,none⟩),.slice none 0 0] 41 (0,0)):=hh
 have hlt:g0<w.heap.size:=(Array.getElem?_eq_some_iff.1 hh').1
 refine (IQ g0 n w hh' hn).mono ?_
 rintro e w' ⟨rfl,cs,hc1,hc2,rfl⟩
 have hsz:(w.setCell ⟨g0,1,none⟩ (.slice (some ⟨w.heap.size,0,none⟩) 0 cs.size)).heap.size=w.heap.size:=by simp [World.setCell]
 have hat:∀ k,k<w.heap.size→(((w.setCell ⟨g0,1,none⟩ (.slice (some ⟨w.heap.size,0,none⟩) 0 cs.size)).alloc (.cells cs 5)).drew.drew.drew).heap[k]?=(w.setCell ⟨g0,1,none⟩ (.slice (some ⟨w.heap.size,0,none⟩) 0 cs.size)).heap[k]?:=
  fun k hk=>Below.heap_alloc _ _ k (by rw [hsz];exact hk)
 have hnew:(((w.setCell ⟨g0,1,none⟩ (.slice (some ⟨w.heap.size,0,none⟩) 0 cs.size)).alloc (.cells cs 5)).drew.drew.drew).heap[w.heap.size]?=some (.cells cs 5):=by
  have:=heap_alloc_new (w.setCell ⟨g0,1,none⟩ (.slice (some ⟨w.heap.size,0,none⟩) 0 cs.size)) (.cells cs 5)
  rw [hsz] at this
  exact this
 have hm0:Fv.upd m0 1 (.slice (some ⟨w.heap.size,0,none⟩) 0 cs.size) 0=m0 0:=by rfl
 have hm1:Fv.upd m0 1 (.slice (some ⟨w.heap.size,0,none⟩) 0 cs.size) 1=.slice (some ⟨w.heap.size,0,none⟩) 0 cs.size:=by rfl
 refine ⟨_,rfl,⟨rfl,rfl,rfl,?_,?_,fun k hk hn=>?_⟩,Fv.upd m0 1 (.slice (some ⟨w.heap.size,0,none⟩) 0 cs.size),2,fun i hi=>?_,by decide,.tup [] [] .nil,fun i it hi=>?_,fun i j it jt b hi hj h1 h2=>?_⟩
 ·show w.heap.size≤((w.setCell _ _).heap.push _).size
  rw [Array.size_push,hsz];exact Nat.le_succ _
 ·trivial
 ·rw [hat k hk];exact xP w g0 k _ fun e=>hn (e▸hO)
 ·obtain rfl:i=0:=by omega
  exact hm0
 ·rcases P6 hi with ⟨rfl,rfl⟩|⟨rfl,rfl⟩
  ·refine ⟨by decide,g0,[.pointer (some ⟨g0,0,none⟩),.slice (some ⟨w.heap.size,0,none⟩) 0 cs.size],by rw [hm0,hm],.inr ⟨hO,.inr hO⟩,?_,?_⟩
   ·exact .cons _ _ _ _ (.ptr 0 0 g0 (show 0<2 by decide) (by show blk (Fv.upd m0 1 (.slice (some ⟨w.heap.size,0,none⟩) 0 cs.size) 0)=some g0;rw [hm0,hm];rfl)) rfl (.cons _ _ _ _ (.own 1 (show 1<2 by decide) rfl) rfl .nil)
   ·rw [hat g0 hlt]
    exact Lp w g0 _ _ _ _ hh'
  ·refine ⟨by decide,0,[],.ints _ _ (fun x hx=>by cases hx),rfl,?_,fun b hb=>?_⟩
   ·rw [hm1]
    exact ⟨by simp,.inr ⟨_,_,cs,(0,0),rfl,.inl rfl,hnew,Nat.zero_le _,hc2,(Nat.mul_one _).symm,rfl⟩⟩
   ·rw [hm1] at hb
    cases hb
    exact .inl (Nat.le_refl _)
 ·have hne:g0≠w.heap.size:=by omega
  rcases P6 hi with ⟨rfl,rfl⟩|⟨rfl,rfl⟩<;>rcases P6 hj with ⟨rfl,rfl⟩|⟨rfl,rfl⟩
  ·rfl
  ·rw [hm0,hm] at h1;rw [hm1] at h2;cases h1;cases h2;exact absurd rfl hne
  ·rw [hm0,hm] at h2;rw [hm1] at h1;cases h1;cases h2;exact absurd rfl hne
  ·rfl
set_option maxHeartbeats 4000000 in
theorem LZ (n:Nat) (h0:1≤n) (hn:n≤281474976710656):jv Tryd.prog 38 [.ptr 0 0,.int .i64 n] [(0,.box 41 [.raw (.pointer none),.nilS])] 1 (.tup []) [(0,.box 41 [.ptr 0 0,.own 1]),(1,.row 5 (.ints .u8 []))]:=by
 have k:=qG
 have k2:=Nc n hn
 refine jv.aO Tryd.func38 rfl (by decide) (by simp [Tryd.f38]) JO [] rfl fun w0 T0 _=>?_
 simp only [Tryd.f38,aB]
 (repeat' with_reducible first|intro _|exact dn|refine rn ?_|refine ra ?_ ?_)
 refine ah.i [0] k 1 ?_
 (repeat' with_reducible first|intro _|refine rz ?_|refine ra ?_ ?_|omega|simp only [go_sem,S.FP,gK,iw,pX,Item.ren,ren,dw,List.getElem?_cons_zero,List.getElem?_cons_succ,List.getElem?_nil,List.filter])
 refine dN.lex [] [] (by kernel_rfl) (by kernel_rfl) ?_
 (repeat' with_reducible first|intro _|exact dn|refine rn ?_|refine ra ?_ ?_)
 refine QV.intro (.int .i64 0) ?_ ?_
 ·(repeat' with_reducible first|intro _|exact dn|refine rn ?_|refine ra ?_ ?_)
 (repeat' with_reducible first|intro _|exact dn|refine rn ?_|refine ra ?_ ?_)
 refine ah.i [0] k2 2 ?_
 (repeat' with_reducible first|intro _|exact dn|refine rn ?_|refine ra ?_ ?_)
 refine jA.of [(1,1)] 2 (by decide) (by decide) ?_ rfl ?_<;>simp only [go_sem,Int.natCast_succ]
end Go.Fv.R
/- strings.Join with a space between. -/
namespace Go.Fv.R
open Go Go.Proofs
theorem IG (l:List Bytes) {i:Nat} (h:i<l.length):(l.take (i+1)).flatten=(l.take i).flatten++l.getD i []:=by
 rw [List.take_succ_eq_append_getElem h,List.flatten_append,getD_lt h];simp
theorem Hg (l:List Bytes) (i:Nat):(l.take i).flatten.length≤l.flatten.length:=by
 conv=>rhs;rw [←List.take_append_drop i l]
 rw [List.flatten_append,List.length_append];omega
def nN (l:List Bytes):Bytes:=l.flatMap fun w=>32::w
theorem EI (l:List Bytes) {i:Nat} (h:i<l.length):nN (l.take (i+1))=nN (l.take i)++32::l.getD i []:=by
 unfold nN
 rw [List.take_succ_eq_append_getElem h,List.flatMap_append,getD_lt h];simp
theorem oJ (l:List Bytes):(nN l).length=l.flatten.length+l.length:=by
 unfold nN
 induction l with
 | nil=>rfl
 | cons x l ih=>rw [List.flatMap_cons,List.length_append,ih];simp;omega
theorem LG (l:List Bytes) (i:Nat):(nN (l.take i)).length≤(nN l).length:=by
 rw [oJ,oJ]
 have:=Hg l i
 rw [List.length_take];omega
def joinL:List Bytes→Bytes
 | []=>[]
 | x::l=>x++nN l
set_option maxHeartbeats 4000000 in
theorem DV (l:List Bytes) (hl:l.flatten.length≤1000000000) (hL:l.length≤1000000000):aC Tryd.prog 17 [.ro (.strs l),.str [32]] (.str (joinL l)) []:=by
 refine aC.aO Tryd.func17 rfl (by decide) (by simp [Tryd.f17]) [.tmp 4] rfl fun w0 T0 _=>?_
 simp only [Tryd.f17,aB]
 by_cases h0:l.length=0
 ·have f0:((l.length:Int)=0)=True:=eq_true (by omega)
  have e:l=[]:=List.eq_nil_of_length_eq_zero h0
  (repeat' with_reducible first|intro _|refine rz ?_|refine ra ?_ ?_|omega|simp only [go_sem,f0])
  refine aZ.auto 0 ?_ rfl ?_<;>simp only [go_sem,Int.natCast_succ,Post]
  rw [e];rfl
 have f0:((l.length:Int)=0)=False:=eq_false (by omega)
 by_cases h1:l.length=1
 ·have f1:((l.length:Int)=1)=True:=eq_true (by omega)
  obtain ⟨x,rfl⟩:∃ x,l=[x]:=List.length_eq_one_iff.1 h1
  (repeat' with_reducible first|intro _|refine rz ?_|refine ra ?_ ?_|omega|simp only [go_sem,f0,f1])
  refine aZ.auto 0 ?_ rfl ?_<;>simp only [go_sem,Int.natCast_succ,Post]
  all_goals first|rfl|simp [joinL,nN]
 have f1:((l.length:Int)=1)=False:=eq_false (by omega)
 have hq1:(2:Int)≤(9223372036854775807:Int).tdiv ((l.length:Int) - 1):=by
  rw [Int.tdiv_eq_ediv_of_nonneg (by omega)]
  exact (Int.le_ediv_iff_mul_le (by omega)).2 (by omega)
 have hq2:(9223372036854775807:Int).tdiv ((l.length:Int) - 1)≤9223372036854775807:=by
  rw [Int.tdiv_eq_ediv_of_nonneg (by omega)]
  exact Int.ediv_le_self _ (by omega)
 (repeat' with_reducible first|intro _|refine rz ?_|refine ra ?_ ?_|omega|simp only [go_sem,f0,f1])
 generalize (9223372036854775807:Int).tdiv ((l.length:Int) - 1)=q at *
 have f2:(q≤1)=False:=eq_false (by omega)
 (repeat' with_reducible first|intro _|refine rz ?_|refine ra ?_ ?_|omega|simp only [go_sem,f0,f1,f2])
 refine aU.intro (fun i:Nat=>⟨75,[(41,.int .i64 i),(40,.int .i64 l.length),(39,.ro (.strs l)),(5,.int .i64 ((l.length - 1+(l.take i).flatten.length:Nat))),(1,.str [32]),(0,.ro (.strs l))],[],0⟩) (fun i=>i≤l.length) (fun i=>l.length - i) 0 ?_ (Nat.zero_le _) fun i hi=>?_
 ·refine bC.aA rfl ?_ ?_<;>simp only [go_sem,Int.natCast_succ]
  all_goals (show (0:Int)+1*((l.length:Int) - 1)=((l.length - 1+0:Nat):Int);omega)
 by_cases hlt:i<l.length
 ·have f7:((i:Int)<(l.length:Int))=True:=eq_true (by omega)
  have hst:=congrArg List.length (IG l hlt)
  have hle:=Hg l (i+1)
  rw [List.length_append] at hst
  generalize hx:l.getD i []=x at *
  generalize hA:(l.take i).flatten.length=A at *
  generalize hA2:(l.take (i+1)).flatten.length=A2 at *
  have hAA:(A:Int)+(x.length:Int)=(A2:Int):=by omega
  have f8:((9223372036854775807:Int) - ((l.length - 1+A:Nat):Int)<(x.length:Int))=False:=eq_false (by omega)
  (repeat' with_reducible first|intro _|refine rz ?_|refine ra ?_ ?_|omega|simp only [go_sem,f7,eu,hx,f8,hAA])
  refine ⟨i+1,bC.aA rfl ?_ ?_,by omega,by omega⟩<;>simp only [go_sem,Int.natCast_succ,hA2]
  all_goals omega
 have e:i=l.length:=by omega
 subst e
 have f7:((l.length:Int)<(l.length:Int))=False:=eq_false (by omega)
 rw [List.take_length]
 obtain ⟨z,m,rfl⟩:∃ z m,l=z::m:=by
  cases l with
  | nil=>simp at h0
  | cons x l=>exact ⟨x,l,rfl⟩
 have hfl:(z::m).flatten=z++m.flatten:=List.flatten_cons
 have hfl2:=congrArg List.length hfl
 rw [List.length_append] at hfl2
 have hml:(z::m).length=m.length+1:=rfl
 have kg:=LZ ((z::m).length - 1+(z::m).flatten.length) (by omega) (by omega)
 have k1:=dH [] z (by simp) (by omega)
 rw [List.nil_append,show aJ []=[] from rfl] at k1
 have hz:(z::m).getD 0 []=z:=rfl
 have htd:((z::m).drop 1).take ((z::m).length - 1)=m:=by rw [List.length_cons,Nat.add_sub_cancel];exact List.take_of_length_le (Nat.le_refl _)
 have hsl:=oJ m
 have hle:=LG m
 have hjl:joinL (z::m)=z++nN m:=rfl
 generalize hF:(z::m).flatten.length=Fl at *
 generalize hJ:joinL (z::m)=J at *
 generalize hZ:z::m=Z at *
 (repeat' with_reducible first|intro _|refine rz ?_|refine ra ?_ ?_|omega|simp only [go_sem,f7])
 refine ah.i [0] kg 2 ?_
 (repeat' with_reducible first|intro _|refine rz ?_|refine ra ?_ ?_|omega|simp only [go_sem,eu,hz])
 refine ah.i [0,1] k1 3 ?_
 (repeat' with_reducible first|intro _|refine rz ?_|refine ra ?_ ?_|omega|simp only [go_sem,htd])
 refine aU.intro (fun i:Nat=>⟨75,[(65,.int .i64 i),(64,.int .i64 m.length),(63,.ro (.strs m)),(8,.ptr 0 0),(1,.str [32])],[(0,.box 41 [.ptr 0 0,.own 1]),(1,.row 5 (.ints .u8 (aJ (z++nN (m.take i)))))],2⟩) (fun i=>i≤m.length) (fun i=>m.length - i) 0 ?_ (Nat.zero_le _) fun i hi=>?_
 ·refine bC.aA rfl ?_ ?_<;>simp only [go_sem,Int.natCast_succ]
  all_goals (show aJ z=aJ (z++[]);rw [List.append_nil])
 have hlei:=hle i
 by_cases hlt:i<m.length
 ·have f8:((i:Int)<(m.length:Int))=True:=eq_true (by omega)
  have hst:=EI m hlt
  have hle2:=hle (i+1)
  have hst2:=congrArg List.length hst
  rw [List.length_append,List.length_cons] at hst2
  have k2:=dH (z++nN (m.take i)) [32] (by rw [List.length_append];omega) (by simp)
  have k3:=dH (z++nN (m.take i)++[32]) (m.getD i []) (by simp only [List.length_append,List.length_cons,List.length_nil];omega) (by omega)
  have e3:z++nN (m.take i)++[32]++m.getD i []=z++nN (m.take (i+1)):=by rw [hst];simp [List.append_assoc]
  rw [e3] at k3
  generalize hx:m.getD i []=x at *
  (repeat' with_reducible first|intro _|refine rz ?_|refine ra ?_ ?_|omega|simp only [go_sem,f8,eu,hx])
  refine ah.i [0,1] k2 3 ?_
  (repeat' with_reducible first|intro _|exact dn|refine rn ?_|refine ra ?_ ?_)
  refine ah.i [0,2] k3 3 ?_
  (repeat' with_reducible first|intro _|exact dn|refine rn ?_|refine ra ?_ ?_)
  refine ⟨i+1,bC.aA rfl ?_ ?_,by omega,by omega⟩<;>simp only [go_sem,Int.natCast_succ]
 have e:i=m.length:=by omega
 subst e
 have f8:((m.length:Int)<(m.length:Int))=False:=eq_false (by omega)
 rw [List.take_length]
 have hm1:1≤m.length:=by omega
 have k4:=pI (z++nN m) (by rw [List.length_append];omega)
 rw [←hjl] at k4 ⊢
 (repeat' with_reducible first|intro _|refine rz ?_|refine ra ?_ ?_|omega|simp only [go_sem,f8])
 refine ah.i [0,1] k4 2 ?_
 (repeat' with_reducible first|intro _|exact dn|refine rn ?_|refine ra ?_ ?_)
 refine aZ.auto 0 ?_ rfl ?_<;>simp only [go_sem,Int.natCast_succ,Post]
end Go.Fv.R
