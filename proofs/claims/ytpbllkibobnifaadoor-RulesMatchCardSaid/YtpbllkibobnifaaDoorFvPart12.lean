/-
  A part of the proof of the claim: walks over the program's functions and the plain laws that these need. No condition of its own.
-/
import Derived.Test.YtpbllkibobnifaaDoorFvPart11
import Derived.Test.YtpbllkibobnifaaDoorFvPart9
import Derived.Shelf.SortM.Plain
import Derived.Shelf.SortM.SortNone
set_option linter.unusedSectionVars false
set_option linter.unusedVariables false
set_option linter.unusedSimpArgs false
set_option linter.unnecessarySimpa false
/-
 The set by which states are held against one another.
-/
namespace Go.Fv
theorem Ja (p:Nat→Nat) (x:AV):∀ n:Nat,bZ p (List.replicate n x)=List.replicate n (ren p x)
 | 0=>rfl
 | n+1=>by simp only [List.replicate_succ,bZ];rw [Ja p x n]
theorem Aa {N:Nat} {x:AV} (h:below N x=true):∀ n:Nat,aQ N (List.replicate n x)=true
 | 0=>rfl
 | n+1=>by simp only [List.replicate_succ,aQ,h,Bool.true_and];exact Aa h n
theorem Ea {x:AV} (h:bW x=true):∀ n:Nat,bT (List.replicate n x)=true
 | 0=>rfl
 | n+1=>by simp only [List.replicate_succ,bT,h,Bool.true_and];exact Ea h n
theorem Uo {x:AV} (h:bW x=true) (n:Nat) (y:List AV):IL (List.replicate n x) y=[]:=mG _ y (Ea h n)
theorem Hy (N n:Nat) (b:Bool):aQ N (List.replicate n (AV.bool b))=true:=Aa rfl n
theorem Rf (n:Nat) (b:Bool) (y:List AV):IL (List.replicate n (AV.bool b)) y=[]:=Uo rfl n y
attribute [go_sem] Rh Q9 D8 xW RF V5 IQ kW qL bU D9 Ns FI mkItem mkV IL pm Item.below AV.own.injEq AV.str.injEq AV.ro.injEq AV.agg.injEq AV.tup.injEq List.cons.injEq Option.some.injEq Item.row.injEq Item.box.injEq aF.ints.injEq aF.bools.injEq aF.strs.injEq aF.objs.injEq Nat.succ_ne_self Ja Hy Rf Qz
attribute [go_sem] o8 I9 Ny
end Go.Fv
/-
 Calls into the callee's code: what it writes into memory that the caller owns is seen by the caller.
-/
namespace Go.Fv
open Go.RowKit
def SV (P:Program) (res:List ResultVar) (s:S) (K:AV→S→Prop):Exit→S→Prop
 | .normal,s1=>xW P s1 res (fun vs=>K (kW vs) { s with rows:=s1.rows,next:=s1.next })
 | .ret,s1=>xW P s1 res (fun vs=>K (kW vs) { s with rows:=s1.rows,next:=s1.next })
 | _,_=>False
section
variable {P:Program} {w0:World} {T0:Bs}
theorem aj.inl {f:Nat} {fn:Func} {c:Code} {args:List AV} {s:S} {K:AV→S→Prop} (hf:P.funcs[f]?=some fn) (hb:fn.body=some c)
  (hnm:(fn.name == "runtime.NumGoroutine")=false) (hn:args.length≤fn.ntmps) (res:List ResultVar) (hres:fn.results=res.toArray)
  (h:kR P w0 T0 s.next c ⟨fn.ntmps,aK 0 args,s.rows,s.next⟩ (SV P res s K)):@aj P w0 T0 f args s ⟨K⟩:=by
 refine ⟨⟨fn,hf,by rw [hb];rfl,hnm⟩,fun H a w m vals hm hv=>?_⟩
 refine calls_of_wp hf hb ?_
 have hlen:=hv.length
 have hE:∀ p,p∈(s.env.map fun p=>(s.get p.1,a.tmps.getD p.1 undef))++H→Rv (aA T0 w0.heap.size m s w) p.1 p.2:=by
  intro p hp
  rcases List.mem_append.1 hp with hp|hp
  ·obtain ⟨q,_,rfl⟩:=List.mem_map.1 hp
   show Rv _ (s.get q.1) _
   unfold S.get
   cases hl:lk s.env q.1 with
   | none=>exact .dead _
   | some y=>exact hm.env q.1 y hl
  ·exact hm.held p hp
 have hrep:bC w0 T0 ((s.env.map fun p=>(s.get p.1,a.tmps.getD p.1 undef))++H) ⟨fn.ntmps,aK 0 args,s.rows,s.next⟩ { tmps:=vals.toArray++Array.replicate (fn.ntmps - vals.toArray.size) undef,defers:=[] } w m:=
  {size:=by simp;omega,nodef:=rfl,below:=hm.below,
   env:=by
    intro r v hr
    obtain ⟨u,h1,h2⟩:=rX 0 [] rfl hv r v hr
    have e:((vals.toArray++Array.replicate (fn.ntmps - vals.toArray.size) undef).getD r undef)=u:=by
     have h1':vals[r]?=some u:=by simpa using h1
     have hlt:r<vals.length:=(List.getElem?_eq_some_iff.1 h1').1
     rw [Array.getD_eq_getD_getElem?,Array.getElem?_append_left (by simpa using hlt)]
     simp [h1']
    rw [e];exact h2,
   held:=hE,rows:=hm.rows,sep:=hm.sep }
 refine wp_mono (h _ _ w (fun p hp=>(hE p hp).ids) ⟨m,hrep⟩) ?_
 rintro e a1 w1 ⟨s1,hq,m1,hm1⟩
 have fin:xW P s1 res (fun vs=>K (kW vs) { s with rows:=s1.rows,next:=s1.next })→a1.defers=[]∧∃ v,(results fn a1.tmps).run P w1=.ok v w1∧∃ v',Ending.returned v=.returned v'∧∃ r s',K r s'∧Rep w0 T0 ((r,v')::H) s' a w1:=by
  intro hk
  obtain ⟨l,vs,hk,hr,hvs⟩:=rF hm1 hk
  have hrv:Rv (aA T0 w0.heap.size m1 s1 w1) (kW l) (LD vs):=by
   cases hvs with
   | nil=>exact .tup _ _ .nil
   | cons x v l us hx ht=>
    cases ht with
    | nil=>exact hx
    | cons x' v' l' us' hx' ht'=>exact .tup _ _ (.cons _ _ _ _ hx (.cons _ _ _ _ hx' ht'))
  refine ⟨hm1.nodef,_,lG hres a1.tmps hr,_,rfl,_,_,hk,m1,?_⟩
  exact
     {size:=hm.size,nodef:=hm.nodef,below:=hm1.below,
      env:=by
       intro r v hv
       have hmem:(s.get r,a.tmps.getD r undef)∈(s.env.map fun p=>(s.get p.1,a.tmps.getD p.1 undef))++H:=
        List.mem_append.2 (.inl (List.mem_map.2 ⟨(r,v),dM hv,rfl⟩))
       have:=hm1.held _ hmem
       have e:s.get r=v:=by unfold S.get;rw [show lk s.env r=some v from hv]
       rw [e] at this;exact this,
      held:=by
       intro p hp
       cases List.mem_cons.1 hp with
       | inl e=>subst e;exact hrv
       | inr e=>exact hm1.held p (List.mem_append.2 (.inr e)),
      rows:=hm1.rows,sep:=hm1.sep }
 cases e with
 | normal=>exact fin hq
 | ret=>exact fin hq
 | _=>exact hq.elim
end
end Go.Fv
/-
 Contracts of functions that are given memory, which they turn and hand back.
-/
namespace Go.Fv
open Go.RowKit
def EJ (w:World) (T g:Nat→Prop) (m0:Nat→Value) (k:Nat) (rows0:List (Nat × Item)):Prop:=
 (∀ i it,lk rows0 i=some it→i<k∧bD ⟨w,T,m0,k⟩ g (m0 i) it) ∧
 (∀ i j it jt b,lk rows0 i=some it→lk rows0 j=some jt→blk (m0 i)=some b→blk (m0 j)=some b→i=j) ∧
 (∀ b,T b→¬g b)
def dD (P:Program) (f:Nat) (args:List AV) (rows0:List (Nat × Item)) (k:Nat) (out:AV) (rows:List (Nat × Item)):Prop:=
 Enter P f∧∀ (w:World) (T g:Nat→Prop) (m0:Nat→Value) (vals:List Value),EJ w T g m0 k rows0→kX P w→(∀ (b:Nat) (q:GK),Ub P b=some q→¬g b)→dH ⟨w,T,m0,k⟩ args vals →
  Calls P f vals.toArray w fun e w'=>∃ v,e=.returned v∧bK g w w'∧∃ m N,(∀ i,i<k→m i=m0 i)∧k≤N ∧
   Rv ⟨w',allow ⟨fun b=>T b∨g b,g⟩ w.heap.size m rows,m,N⟩ out v ∧
   (∀ i it,lk rows i=some it→i<N∧bD ⟨w',allow ⟨fun b=>T b∨g b,g⟩ w.heap.size m rows,m,N⟩ (ownB ⟨fun b=>T b∨g b,g⟩ w.heap.size) (m i) it) ∧
   (∀ i j it jt b,lk rows i=some it→lk rows j=some jt→blk (m i)=some b→blk (m j)=some b→i=j)
section
variable {P:Program} {w0:World} {T0:Bs}
def dN (P:Program) (w0:World) (T0:Bs) (k:Nat) (res:List ResultVar) (out:AV) (rows:List (Nat × Item)) (s:S):Prop:=
 ∀ (H:List (AV × Value)) (a:Act) (w:World),zS k H→Rep w0 T0 H s a w→∃ v,(∀ (fn:Func),fn.results=res.toArray→(results fn a.tmps).run P w=.ok v w) ∧
  ∃ m N,k≤N∧(∀ p,p∈H→Rv ⟨w,allow T0 w0.heap.size m rows,m,N⟩ p.1 p.2)∧Rv ⟨w,allow T0 w0.heap.size m rows,m,N⟩ out v ∧
   (∀ i it,lk rows i=some it→i<N∧bD ⟨w,allow T0 w0.heap.size m rows,m,N⟩ (ownB T0 w0.heap.size) (m i) it) ∧
   (∀ i j it jt b,lk rows i=some it→lk rows j=some jt→blk (m i)=some b→blk (m j)=some b→i=j)
def UY (P:Program) (w0:World) (T0:Bs) (k:Nat) (res:List ResultVar) (out:AV) (rows:List (Nat × Item)):Exit→S→Prop
 | .normal,s=>dN P w0 T0 k res out rows s
 | .ret,s=>dN P w0 T0 k res out rows s
 | _,_=>False
@[congr] theorem Vx {k:Nat} {res:List ResultVar} {out:AV} {rows:List (Nat × Item)} {s s':S} (h:s=s'):dN P w0 T0 k res out rows s=dN P w0 T0 k res out rows s':=by rw [h]
theorem dN.of {k:Nat} (l:List (Nat × Nat)) (N:Nat) (hl:∀ x,x∈l→k≤x.1) (hk:k≤N) {res:List ResultVar} {out:AV} {rows:List (Nat × Item)} {s:S} (h:xW P s res (fun vs=>kW vs=ren (pm l) out)) (hb:Fv.below N out=true) (hr:bU (pm l) s.rows N rows):dN P w0 T0 k res out rows s:=by
 rintro H a w hH ⟨m,hm⟩
 obtain ⟨vs,us,he,hrun,hvs⟩:=rF hm h
 have hlow:∀ i,i<k→pm l i=i:=by
  intro i hi
  unfold pm
  cases h:lk l i with
  | none=>rfl
  | some j=>have:=hl _ (dM h);simp at this;omega
 have hrv:Rv (aA T0 w0.heap.size m s w) (kW vs) (LD us):=by
  cases hvs with
  | nil=>exact .tup _ _ .nil
  | cons x v l us hx ht=>
   cases ht with
   | nil=>exact hx
   | cons x' v' l' us' hx' ht'=>exact .tup _ _ (.cons _ _ _ _ hx (.cons _ _ _ _ hx' ht'))
 have hren:kK (pm l) (aA T0 w0.heap.size m s w) ⟨w,allow T0 w0.heap.size (fun i=>m (pm l i)) rows,fun i=>m (pm l i),N⟩:=
  {m:=fun _ _=>rfl,
   t:=by
    intro b ⟨h1,h2⟩ _
    refine ⟨⟨h1,fun i it hi e=>?_⟩,rfl⟩
    obtain ⟨_,h3,_⟩:=dU hr i it (dM hi)
    exact h2 _ _ h3 e }
 refine ⟨_,fun fn hf=>lG hf a.tmps hrun,fun i=>m (pm l i),N,hk,fun p hp=>?_,Rv.ren hren out hb (by rw [←he];exact hrv),fun i it hi=>?_,fun i j it jt b hi hj hbi hbj=>?_⟩
 ·have h1:=hH p hp
  refine Rv.ren hren p.1 (below_le hk _ h1) ?_
  rw [gQ hlow _ h1];exact hm.held p hp
 ·obtain ⟨h1,h2,h3⟩:=dU hr i it (dM hi)
  exact ⟨h1,bD.ren hren rfl h3 (hm.rows _ _ h2).2⟩
 ·obtain ⟨_,h2,_⟩:=dU hr i it (dM hi)
  obtain ⟨_,h2',_⟩:=dU hr j jt (dM hj)
  exact sK hr i j it jt (dM hi) (dM hj) (hm.sep _ _ _ _ b h2 h2' hbi hbj)
theorem dN.auto {k:Nat} (N:Nat) (hk:k≤N) {res:List ResultVar} {out:AV} {rows:List (Nat × Item)} {s:S} (h:xW P s res (fun vs=>kW vs=ren (pm (aI k (IQ s res out rows))) out)) (hb:Fv.below N out=true) (hr:bU (pm (aI k (IQ s res out rows))) s.rows N rows):dN P w0 T0 k res out rows s:=
 dN.of _ N (vN k _) hk h hb hr
theorem bD.oneCell {c:Ctx} {O:Nat→Prop} {v:Value} {it:Item} (h:bD c O v it):v.oneCell'=true:=by
 cases it with
 | row e r=>
  obtain ⟨n,cells,_,_,ho,_⟩:=h
  rcases ho.2 with ⟨rfl,_⟩|⟨g,cap,cur,fz,rfl,_⟩<;>rfl
 | box e cs=>obtain ⟨g,vs,rfl,_⟩:=h;rfl
 | map ks vs=>obtain ⟨g,es,clock,rfl,_⟩:=h;rfl
 | iter mp since seen=>obtain ⟨g,q,sn,last,rfl,_⟩:=h;rfl
 | siter t pos=>obtain ⟨g,rfl,_⟩:=h;rfl
theorem dD.of_run {f:Nat} {fn:Func} {c:Code} {args:List AV} {rows0:List (Nat × Item)} {k:Nat} {out:AV} {rows:List (Nat × Item)} (hf:P.funcs[f]?=some fn) (hb:fn.body=some c)
  (hnm:(fn.name == "runtime.NumGoroutine")=false) (hn:args.length≤fn.ntmps) (hcov:∀ j,j<k→∃ it,lk rows0 j=some it) (res:List ResultVar) (hres:fn.results=res.toArray)
  (h:∀ (w0:World) (T0:Bs) [qB P w0 T0],kR P w0 T0 k c ⟨fn.ntmps,aK 0 args,rows0,k⟩ (UY P w0 T0 k res out rows)):dD P f args rows0 k out rows:=by
 refine ⟨⟨fn,hf,by rw [hb];rfl,hnm⟩,fun w T g m0 vals hG hgl hgg hv=>?_⟩
 haveI:qB P w ⟨fun b=>T b∨g b,g⟩:=⟨hgl,fun b q hq h=>hgg b q hq h.1⟩
 obtain ⟨hrows,hsep,hTg⟩:=hG
 refine calls_of_wp hf hb ?_
 have hlen:=hv.length
 have hle:dK (⟨w,T,m0,k⟩:Ctx) (aA ⟨fun b=>T b∨g b,g⟩ w.heap.size m0 ⟨fn.ntmps,aK 0 args,rows0,k⟩ w):=
  ⟨Nat.le_refl _,fun _ _=>rfl,fun b hb _=>⟨⟨.inr (.inl hb),fun i it hi e=>hTg b hb ((hrows i it hi).2.blk b e).1⟩,rfl⟩⟩
 have hrep:bC w ⟨fun b=>T b∨g b,g⟩ (rows0.map fun p=>(.own p.1,m0 p.1)) ⟨fn.ntmps,aK 0 args,rows0,k⟩ { tmps:=vals.toArray++Array.replicate (fn.ntmps - vals.toArray.size) undef,defers:=[] } w m0:=
  {size:=by simp;omega,nodef:=rfl,below:=bK.refl _ _,
   env:=by
    intro r v hr
    obtain ⟨u,h1,h2⟩:=rX 0 [] rfl hv r v hr
    have e:((vals.toArray++Array.replicate (fn.ntmps - vals.toArray.size) undef).getD r undef)=u:=by
     have h1':vals[r]?=some u:=by simpa using h1
     have hlt:r<vals.length:=(List.getElem?_eq_some_iff.1 h1').1
     rw [Array.getD_eq_getD_getElem?,Array.getElem?_append_left (by simpa using hlt)]
     simp [h1']
    rw [e];exact h2.mono hle,
   held:=by
    intro p hp
    obtain ⟨q,hq,rfl⟩:=List.mem_map.1 hp
    obtain ⟨it,hit⟩:=Nk hq
    obtain ⟨h1,h2⟩:=hrows _ _ hit
    exact .own q.1 h1 h2.oneCell,
   rows:=fun i it hi=>⟨(hrows i it hi).1,(((hrows i it hi).2).mono hle fun _ _=>rfl).own fun b hb=>.inr ⟨hb,.inr hb⟩⟩,sep:=hsep }
 have hH:zS k (rows0.map fun p=>(AV.own p.1,m0 p.1)):=by
  intro p hp
  exact (hrep.held p hp).ids
 refine wp_mono (h w _ _ _ w hH ⟨_,hrep⟩) ?_
 rintro e a w' ⟨s',hq,hr⟩
 have fin:dN P w ⟨fun b=>T b∨g b,g⟩ k res out rows s'→a.defers=[]∧∃ v,(results fn a.tmps).run P w'=.ok v w'∧∃ v',Ending.returned v=.returned v'∧bK g w w'∧∃ m N,(∀ i,i<k→m i=m0 i)∧k≤N ∧
   Rv ⟨w',allow ⟨fun b=>T b∨g b,g⟩ w.heap.size m rows,m,N⟩ out v' ∧
   (∀ i it,lk rows i=some it→i<N∧bD ⟨w',allow ⟨fun b=>T b∨g b,g⟩ w.heap.size m rows,m,N⟩ (ownB ⟨fun b=>T b∨g b,g⟩ w.heap.size) (m i) it) ∧
   (∀ i j it jt b,lk rows i=some it→lk rows j=some jt→blk (m i)=some b→blk (m j)=some b→i=j):=by
  intro hret
  obtain ⟨v,hv,m,N,hkN,hheld,hout,hit,hsp⟩:=hret _ a w' hH hr
  obtain ⟨m',hm⟩:=hr
  refine ⟨hm.nodef,v,hv fn hres,v,rfl,hm.below.mono fun b hb=>hb.1,m,N,fun i hi=>?_,hkN,hout,hit,hsp⟩
  obtain ⟨it,hi'⟩:=hcov i hi
  have:=hheld (.own i,m0 i) (List.mem_map.2 ⟨(i,it),dM hi',rfl⟩)
  generalize hmi:m0 i=mi at this
  cases this
  rfl
 cases e with
 | normal=>exact fin hq
 | ret=>exact fin hq
 | _=>exact hq.elim
theorem dD.aY {f:Nat} {fn:Func} {c:Code} {args:List AV} {rows0:List (Nat × Item)} {k:Nat} {out:AV} {rows:List (Nat × Item)} (hf:P.funcs[f]?=some fn) (hb:fn.body=some c)
  (hnm:(fn.name == "runtime.NumGoroutine")=false) (hn:args.length≤fn.ntmps) (hcov:∀ j,j<k→∃ it,lk rows0 j=some it) (res:List ResultVar) (hres:fn.results=res.toArray)
  (h:∀ (w0:World) (T0:Bs) [qB P w0 T0],iI P w0 T0 k c (UY P w0 T0 k res out rows) ⟨fn.ntmps,aK 0 args,rows0,k⟩):dD P f args rows0 k out rows:=
 .of_run hf hb hnm hn hcov res hres fun w0 T0=>.of (h w0 T0)
/-! ### The call -/
def bV (ids:List Nat) (next:Nat) (j:Nat):Nat:=match ids[j]? with|some i=>i|none=>next+(j - ids.length)
def aW (p:Nat→Nat):List (Nat × Item)→List (Nat × Item)
 | []=>[]
 |(i,it)::l=>(p i,it.ren p)::aW p l
def dF {α:Type}:List (Nat × α)→List Nat→List (Nat × α)
 | l,[]=>l
 | l,i::is=>dF (del l i) is
theorem Nj {α:Type}:∀ (is:List Nat) (l:List (Nat × α)) (j:Nat),lk (dF l is) j=if j∈is then none else lk l j
 | [],l,j=>by simp [dF]
 | i::is,l,j=>by
  simp only [dF]
  rw [Nj is,mD]
  by_cases h1:j∈is
  ·simp [h1]
  ·by_cases h2:j=i<;>simp [h1,h2]
def S.je (s:S) (ids:List Nat) (N:Nat) (rows:List (Nat × Item)):S:={ s with rows:=aW (bV ids s.next) rows++dF s.rows ids,next:=s.next+(N - ids.length) }
theorem wu {p:Nat→Nat} {S:Nat→Prop} (hp:∀ i j,S i→S j→p i=p j→i=j):∀ {l:List (Nat × Item)},(∀ x,x∈l→S x.1)→∀ {i:Nat} {it:Item},lk (aW p l) i=some it→∃ j jt,i=p j∧lk l j=some jt∧it=jt.ren p
 |(j,jt)::l,hS,i,it,h=>by
  simp only [aW,lk] at h
  split at h
  ·rename_i e;cases h;exact ⟨j,jt,e.symm,by simp [lk],rfl⟩
  ·rename_i e
   obtain ⟨q,qt,h1,h2,h3⟩:=wu hp (fun x hx=>hS x (.tail _ hx)) h
   refine ⟨q,qt,h1,?_,h3⟩
   simp only [lk];rw [if_neg (fun e'=>e (by rw [h1,e']))];exact h2
theorem OT:∀ {l:List Nat} {i j a:Nat},l.Nodup→l[i]?=some a→l[j]?=some a→i=j:=by
 intro l i j a hd hi hj
 exact (List.getElem?_inj (List.getElem?_eq_some_iff.1 hi).1 hd).1 (hi.trans hj.symm)
def XG (ids:List Nat) (next:Nat) (rows0:List (Nat × Item)) (m:Nat→Value) (b:Nat):Prop:=∃ j it,lk rows0 j=some it∧blk (m (bV ids next j))=some b
def Vq (w:World) (T g:Nat→Prop) (m0:Nat→Value) (k:Nat) (out:AV) (rows:List (Nat × Item)) (e:Ending) (w':World):Prop:=
 ∃ v,e=.returned v∧bK g w w'∧∃ m N,(∀ i,i<k→m i=m0 i)∧k≤N ∧
   Rv ⟨w',allow ⟨fun b=>T b∨g b,g⟩ w.heap.size m rows,m,N⟩ out v ∧
   (∀ i it,lk rows i=some it→i<N∧bD ⟨w',allow ⟨fun b=>T b∨g b,g⟩ w.heap.size m rows,m,N⟩ (ownB ⟨fun b=>T b∨g b,g⟩ w.heap.size) (m i) it) ∧
   (∀ i j it jt b,lk rows i=some it→lk rows j=some jt→blk (m i)=some b→blk (m j)=some b→i=j)
theorem aj.VP [hgb:qB P w0 T0] {f:Nat} {args:List AV} {rows0:List (Nat × Item)} {out:AV} {rows:List (Nat × Item)} {s:S} {K:AV→S→Prop} (ids:List Nat) (hE:Enter P f) (hd:ids.Nodup)
  (hcall:∀ (H:List (AV × Value)) (a:Act) (w:World) (m:Nat→Value) (vals:List Value),bC w0 T0 H s a w m→dH (aA T0 w0.heap.size m s w) args vals →
   EJ w (allow T0 w0.heap.size m s.rows) (XG ids s.next rows0 m) (fun j=>m (bV ids s.next j)) ids.length rows0→(∀ (b:Nat) (q:GK),Ub P b=some q→¬XG ids s.next rows0 m b) →
   Calls P f vals.toArray w (Vq w (allow T0 w0.heap.size m s.rows) (XG ids s.next rows0 m) (fun j=>m (bV ids s.next j)) ids.length out rows))
  (h0:bU (bV ids s.next) s.rows ids.length rows0) (hcov:∀ j,j<ids.length→∃ it,lk rows0 j=some it) (N:Nat) (hkN:ids.length≤N) (hN:Fv.below N out=true) (hNr:bn N rows)
  (hk:K (ren (bV ids s.next) out) (s.je ids N rows)):@aj P w0 T0 f args s ⟨K⟩:=by
 refine ⟨hE,fun H a w m vals hm hv=>?_⟩
 have hp1:∀ j,j<ids.length→∃ i,ids[j]?=some i∧bV ids s.next j=i:=fun j hj=>⟨ids[j],List.getElem?_eq_getElem hj,by simp [bV,List.getElem?_eq_getElem hj]⟩
 have hp2:∀ j,ids.length≤j→bV ids s.next j=s.next+(j - ids.length):=fun j hj=>by simp [bV,List.getElem?_eq_none hj]
 have h0':∀ j it,lk rows0 j=some it→j<ids.length∧lk s.rows (bV ids s.next j)=some (it.ren (bV ids s.next))∧it.below ids.length=true:=fun j it hj=>dU h0 j it (dM hj)
 have hmem:∀ i,i∈ids→∃ j it,j<ids.length∧bV ids s.next j=i∧lk rows0 j=some it:=by
  intro i hi
  obtain ⟨j,hj,e⟩:=List.getElem_of_mem hi
  obtain ⟨it,hit⟩:=hcov j hj
  exact ⟨j,it,hj,by simp [bV,List.getElem?_eq_getElem hj,e],hit⟩
 have hsrc:∀ j,j<ids.length→bV ids s.next j<s.next:=fun j hj=>by
  obtain ⟨it,hit⟩:=hcov j hj
  exact (hm.rows _ _ (h0' j it hit).2.1).1
 have hinj:∀ i j,bV ids s.next i=bV ids s.next j→i=j:=by
  intro i j e
  by_cases hi:i<ids.length<;>by_cases hj:j<ids.length
  ·obtain ⟨x,hx,ex⟩:=hp1 i hi
   obtain ⟨y,hy,ey⟩:=hp1 j hj
   rw [ex,ey] at e;subst e
   exact OT hd hx hy
  ·have:=hsrc i hi;rw [e,hp2 j (by omega)] at this;omega
  ·have:=hsrc j hj;rw [←e,hp2 i (by omega)] at this;omega
  ·rw [hp2 i (by omega),hp2 j (by omega)] at e;omega
 let T:Nat→Prop:=allow T0 w0.heap.size m s.rows
 let g:Nat→Prop:=fun b=>∃ j it,lk rows0 j=some it∧blk (m (bV ids s.next j))=some b
 let m0:Nat→Value:=fun j=>m (bV ids s.next j)
 have hctx:kK (bV ids s.next) (aA T0 w0.heap.size m s w) ⟨w,T,m0,ids.length⟩:=⟨fun _ _=>rfl,fun b hb _=>⟨hb,rfl⟩⟩
 have hown:∀ i it,lk s.rows i=some it→∀ b,blk (m i)=some b→ownB T0 w0.heap.size b∧b<w.heap.size:=fun i it hi b hb=>(hm.rows i it hi).2.blk b hb
 have hG:EJ w T g m0 ids.length rows0:=by
  refine ⟨fun j it hj=>?_,fun i j it jt b hi hj hbi hbj=>?_,fun b hb hg=>?_⟩
  ·obtain ⟨h1,h2,h3⟩:=h0' j it hj
   refine ⟨h1,(bD.ren hctx rfl h3 (hm.rows _ _ h2).2).VD fun b hb=>⟨j,it,hj,hb⟩⟩
  ·obtain ⟨_,h2,_⟩:=h0' i it hi
   obtain ⟨_,h2',_⟩:=h0' j jt hj
   exact hinj i j (hm.sep _ _ _ _ b h2 h2' hbi hbj)
  ·obtain ⟨j,it,hj,hbj⟩:=hg
   exact hb.2 _ _ (h0' j it hj).2.1 hbj
 have hgg:∀ (b:Nat) (q:GK),Ub P b=some q→¬g b:=by
  rintro b q hq ⟨j,it,hj,hb⟩
  obtain ⟨ob,hh,_⟩:=hgb.ok b q hq
  have hlt:=(Array.getElem?_eq_some_iff.1 hh).1
  rcases (hown _ _ (h0' j it hj).2.1 b hb).1 with h|h
  ·omega
  ·exact hgb.ng b q hq h
 refine (hcall H a w m vals hm hv hG hgg).mono ?_
 rintro e w' ⟨v,rfl,hbel,mo,No,hmo,hkNo,hout,hrows,hsep⟩
 refine ⟨v,rfl,_,_,hk,?_⟩
 have hgs:∀ b,g b→(∃ i it,lk s.rows i=some it∧blk (m i)=some b):=fun b ⟨j,it,hj,hb⟩=>⟨_,_,(h0' j it hj).2.1,hb⟩
 have hNr':=wG hNr
 have hitem:∀ i it,lk rows i=some it→bD ⟨w',allow ⟨fun b=>T b∨g b,g⟩ w.heap.size mo rows,mo,N⟩ (ownB ⟨fun b=>T b∨g b,g⟩ w.heap.size) (mo i) it:=fun i it hi=>((hrows i it hi).2).cut (hNr' i it hi).2
 let m2:Nat→Value:=fun i=>if i<s.next then m i else mo (ids.length+(i - s.next))
 have hm2:∀ i,i<s.next→m2 i=m i:=fun i hi=>if_pos hi
 have hm3:∀ j,m2 (bV ids s.next j)=mo j:=fun j=>by
  by_cases hj:j<ids.length
  ·rw [hm2 _ (hsrc j hj)];exact (hmo j hj).symm
  ·rw [hp2 j (by omega)]
   show (if s.next+(j - ids.length)<s.next then _ else _)=_
   rw [if_neg (by omega)];congr 1;omega
 have hlt:∀ i it,lk s.rows i=some it→i<s.next:=fun i it hi=>(hm.rows i it hi).1
 have hrest:∀ i it,lk (dF s.rows ids) i=some it→i∉ids∧lk s.rows i=some it:=by
  intro i it hi
  rw [Nj] at hi
  split at hi
  ·cases hi
  ·rename_i e;exact ⟨e,hi⟩
 have hcases:∀ i it,lk (s.je ids N rows).rows i=some it→(∃ j jt,i=bV ids s.next j∧lk rows j=some jt∧it=jt.ren (bV ids s.next))∨(i∉ids∧lk s.rows i=some it):=by
  intro i it hi
  have hi':lk (aW (bV ids s.next) rows++dF s.rows ids) i=some it:=hi
  rw [lN] at hi'
  cases hq:lk (aW (bV ids s.next) rows) i with
  | some y=>
   rw [hq] at hi';cases hi'
   exact .inl (wu (S:=fun _=>True) (fun i j _ _ e=>hinj i j e) (fun _ _=>trivial) hq)
  | none=>rw [hq] at hi';exact .inr (hrest i it hi')
 have hnotg:∀ i it,i∉ids→lk s.rows i=some it→∀ b,blk (m i)=some b→¬g b:=by
  rintro i it hni hi b hb ⟨j,jt,hj,hbj⟩
  obtain ⟨h1,h2,_⟩:=h0' j jt hj
  have:=hm.sep _ _ _ _ b hi h2 hb hbj
  obtain ⟨x,hx,ex⟩:=hp1 j h1
  exact hni (by rw [this,ex];exact List.mem_of_getElem? hx)
 have hnewB:∀ j jt,lk rows j=some jt→∀ b,blk (mo j)=some b→w.heap.size≤b∨g b:=fun j jt hj b hbl=>(((hrows j jt hj).2.blk b hbl).1).imp id (·.1)
 have hle:dK (aA T0 w0.heap.size m s w) (aA T0 w0.heap.size m2 (s.je ids N rows) w'):=by
  refine ⟨Nat.le_add_right _ _,hm2,?_⟩
  intro b hb hltb
  have hbg:¬g b:=fun hg=>by
   obtain ⟨i,it,hi,hbi⟩:=hgs b hg
   exact hb.2 i it hi hbi
  refine ⟨⟨hb.1,fun i it hi e=>?_⟩,hbel.block b hltb hbg⟩
  rcases hcases i it hi with ⟨j,jt,rfl,hj,_⟩|⟨hni,hi'⟩
  ·rw [hm3] at e
   rcases hnewB j jt hj b e with h|h
   ·have hlt2:b<w.heap.size:=hltb;omega
   ·exact hbg h
  ·rw [hm2 i (hlt i it hi')] at e;exact hb.2 i it hi' e
 have hsh:yj (bV ids s.next) (⟨w',allow ⟨fun b=>T b∨g b,g⟩ w.heap.size mo rows,mo,N⟩:Ctx) (aA T0 w0.heap.size m2 (s.je ids N rows) w'):=by
  refine ⟨fun i hi=>?_,fun i _=>hm3 i,?_⟩
  ·show bV ids s.next i<s.next+(N - ids.length)
   by_cases hj:i<ids.length
   ·have:=hsrc i hj;omega
   ·rw [hp2 i (by omega)];have:i<N:=hi;omega
  intro b ⟨h1,h2⟩ _
  have hlt0:=hm.lt
  have hb1:w0.heap.size≤b∨T0.a b:=by
   rcases h1 with h1|h1|h1
   ·exact .inl (by omega)
   ·exact h1.1
   ·obtain ⟨i,it,hi,hbi⟩:=hgs b h1
    exact ((hown i it hi b hbi).1).imp id (·.2)
  refine ⟨⟨hb1,fun i it hi e=>?_⟩,rfl⟩
  rcases hcases i it hi with ⟨j,jt,rfl,hj,_⟩|⟨hni,hi'⟩
  ·rw [hm3] at e;exact h2 j jt hj e
  ·rw [hm2 i (hlt i it hi')] at e
   rcases h1 with h1|h1|h1
   ·have:=(hown i it hi' b e).2;omega
   ·exact h1.2 i it hi' e
   ·exact hnotg i it hni hi' b e h1
 have hOO:∀ b,ownB ⟨fun b=>T b∨g b,g⟩ w.heap.size b→ownB T0 w0.heap.size b:=fun b hb=>by
  rcases hb with hb|hb
  ·exact .inl (Nat.le_trans hm.lt hb)
  ·obtain ⟨i,it,hi,hbi⟩:=hgs b hb.1
   exact (hown i it hi b hbi).1
 refine ⟨m2,bC.hold (s:=s.je ids N rows) ?_ ((hout.cut hN).shift hsh)⟩
 refine { size:=hm.size,nodef:=hm.nodef,below:=?_,env:=fun r u hu=>(hm.env r u hu).mono hle,held:=fun q hq=>(hm.held q hq).mono hle,rows:=?_,sep:=?_ }
 ·refine hm.below.step hbel.os hbel.tape hbel.output hbel.size (fun b hb hn=>hbel.block b (Nat.lt_of_lt_of_le hb hm.lt) fun hg=>?_) hbel.drawn
  obtain ⟨i,it,hi,hbi⟩:=hgs b hg
  rcases (hown i it hi b hbi).1 with h|h
  ·omega
  ·exact hn h
 ·intro i it hi
  rcases hcases i it hi with ⟨j,jt,rfl,hj,rfl⟩|⟨hni,hi'⟩
  ·refine ⟨hsh.n j (hNr' j jt hj).1,?_⟩
   rw [hm3]
   exact (hitem j jt hj).shift hsh rfl hOO
  ·have hl:=hlt i it hi'
   refine ⟨by show i<s.next+_;omega,?_⟩
   rw [hm2 i hl]
   exact ((hm.rows i it hi').2).mono hle fun b hbl=>hbel.block b ((hown i it hi' b hbl).2) (hnotg i it hni hi' b hbl)
 ·intro i j it jt b hi hj hbi hbj
  rcases hcases i it hi with ⟨i',it',rfl,hi',_⟩|⟨hni,hi'⟩<;>rcases hcases j jt hj with ⟨j',jt',rfl,hj',_⟩|⟨hnj,hj'⟩
  ·rw [hm3] at hbi hbj
   rw [hsep i' j' it' jt' b hi' hj' hbi hbj]
  ·rw [hm3] at hbi;rw [hm2 j (hlt j jt hj')] at hbj
   have h5:=(hown j jt hj' b hbj).2
   rcases hnewB i' it' hi' b hbi with h|h
   ·omega
   ·exact absurd h (hnotg j jt hnj hj' b hbj)
  ·rw [hm3] at hbj;rw [hm2 i (hlt i it hi')] at hbi
   have h5:=(hown i it hi' b hbi).2
   rcases hnewB j' jt' hj' b hbj with h|h
   ·omega
   ·exact absurd h (hnotg i it hni hi' b hbi)
  ·rw [hm2 i (hlt i it hi')] at hbi;rw [hm2 j (hlt j jt hj')] at hbj
   exact hm.sep i j it jt b hi' hj' hbi hbj
theorem aj.io [hgb:qB P w0 T0] {f:Nat} {args args':List AV} {rows0:List (Nat × Item)} {out:AV} {rows:List (Nat × Item)} {s:S} {K:AV→S→Prop} (ids:List Nat) (h:dD P f args' rows0 ids.length out rows) (hd:ids.Nodup)
  (ha:args=bZ (bV ids s.next) args') (hab:aQ ids.length args'=true) (h0:bU (bV ids s.next) s.rows ids.length rows0) (hcov:∀ j,j<ids.length→∃ it,lk rows0 j=some it) (N:Nat) (hkN:ids.length≤N) (hN:Fv.below N out=true) (hNr:bn N rows)
  (hk:K (ren (bV ids s.next) out) (s.je ids N rows)):@aj P w0 T0 f args s ⟨K⟩:=by
 subst ha
 exact aj.VP ids h.1 hd (fun H a w m vals hm hv hG hgg=>by
  have hctx:kK (bV ids s.next) (aA T0 w0.heap.size m s w) ⟨w,allow T0 w0.heap.size m s.rows,fun j=>m (bV ids s.next j),ids.length⟩:=⟨fun _ _=>rfl,fun b hb _=>⟨hb,rfl⟩⟩
  exact h.2 w _ _ _ vals hG (qB.at hm) hgg (dH.ren hctx args' hab hv)) h0 hcov N hkN hN hNr hk
theorem bD.jT {w:World} {T T':Nat→Prop} {m:Nat→Value} {N:Nat} {O:Nat→Prop} {v:Value} {it:Item} (ho:bD ⟨w,T,m,N⟩ O v it) (hn:dQ it=true):bD ⟨w,T',m,N⟩ O v it:=by
 cases it with
 | row e r=>obtain ⟨n,cells,hc,hq⟩:=ho;exact ⟨n,cells,hc.jT hn,hq⟩
 | box e cs=>obtain ⟨g,vs,hv',hg,hl,hq⟩:=ho;exact ⟨g,vs,hv',hg,hl.jT hn,hq⟩
 | map ks vs=>
  simp only [dQ,Bool.and_eq_true] at hn
  obtain ⟨g,es,clock,hv',hg,h1,h2,h3,h4,hq⟩:=ho;exact ⟨g,es,clock,hv',hg,h1.jT hn.1,h2.jT hn.2,h3,h4,hq⟩
 | iter mp since seen=>exact ho
 | siter t pos=>exact ho
end
end Go.Fv
/-
 What stands for families where they are lent; the end of a function whose results are only read.
-/
namespace Go.Fv
open Go.RowKit
/-! ### The same names -/
def MI (s:S) (N:Nat):List (Nat × AV)→Prop
 | []=>True
 |(r,v)::l=>(s.get r=v∧Fv.below N v=true)∧MI s N l
def F6 (rows:List (Nat × Item)) (N:Nat):List (Nat × Item)→Prop
 | []=>True
 |(i,it)::l=>(i<N∧lk rows i=some it∧it.below N=true)∧F6 rows N l
theorem Ib {s:S} {N:Nat}:∀ {l:List (Nat × AV)},MI s N l→qL id s N l
 | [],_=>trivial
 |(r,v)::l,h=>⟨⟨by rw [gQ (p:=id) (b0:=N) (fun _ _=>rfl) v h.1.2];exact h.1.1,h.1.2⟩,Ib h.2⟩
theorem En {rows:List (Nat × Item)} {N:Nat}:∀ {l:List (Nat × Item)},F6 rows N l→∀ i it,lk l i=some it→i<N∧lk rows i=some it∧it.below N=true
 |(j,jt)::l,h,i,it,hi=>by
  simp only [lk] at hi
  split at hi
  ·rename_i e;subst e;cases hi;exact h.1
  ·exact En h.2 i it hi
theorem aS.same {w0:World} {T0:Bs} {b0:Nat} {s s':S} (hn:s'.n=s.n) (hb:b0≤s'.next) (he:MI s s'.next s'.env) (hr:F6 s.rows s'.next s'.rows):aS w0 T0 b0 s s':=
 aS.Yr id hn hb (fun _ _=>rfl) (Ib he) (fun i it hi=>by
  obtain ⟨h1,h2,h3⟩:=En hr i it hi
  exact ⟨h1,by rw [Item.gQ (p:=id) (b0:=s'.next) (fun _ _=>rfl) it h3];exact h2,h3⟩) (fun i j _ _ _ _ e=>e)
attribute [go_sem] MI F6
section
variable {P:Program} {w0:World} {T0:Bs}
theorem eP.ro {res:List ResultVar} {out:AV} {s:S} (h:xW P s res (fun vs=>gX s.rows (kW vs) out)):eP P w0 T0 res out [] s:=by
 rintro a w ⟨m,hm⟩
 obtain ⟨vs,us,he,hrun,hvs⟩:=rF hm h
 have hrv:Rv (aA T0 w0.heap.size m s w) (kW vs) (LD us):=by
  cases hvs with
  | nil=>exact .tup _ _ .nil
  | cons x v l us hx ht=>
   cases ht with
   | nil=>exact hx
   | cons x' v' l' us' hx' ht'=>exact .tup _ _ (.cons _ _ _ _ hx (.cons _ _ _ _ hx' ht'))
 have hal:∀ b,ownB T0 w0.heap.size b→allow T0 w0.heap.size (fun _=>undef) [] b:=fun b hb=>⟨hb.imp id (·.2),fun i it hi=>by simp [lk] at hi⟩
 have hl:CJ w (aA T0 w0.heap.size m s w) s.rows (allow T0 w0.heap.size (fun _=>undef) []):=
  {hw:=rfl,t:=fun b hb=>⟨hb.1,fun i it hi=>by simp [lk] at hi⟩,
   own:=fun i e r hi=>by
    obtain ⟨n,cells,hc,hn,hq,hO⟩:=(hm.rows i _ hi).2
    exact ⟨fun b hb=>hal b (hO b hb),n,cells,hc,hn,hq⟩,
   box:=fun i e cs hi=>by
    obtain ⟨g,vs,hv,hg,hl,hh⟩:=(hm.rows i _ hi).2
    exact ⟨g,vs,hv,hal g hg,hl,hh⟩,
   map:=fun i ks vs hi=>by
    obtain ⟨g,es,clock,hv,hg,h1,h2,h3,h4,hh⟩:=(hm.rows i _ hi).2
    exact ⟨g,es,clock,hv,hal g hg,h1,h2,h3,h4,hh⟩ }
 refine ⟨_,fun fn hf=>lG hf a.tmps hrun,fun _=>undef,0,?_,fun i it hi=>by simp [lk] at hi,fun i j it jt b hi=>by simp [lk] at hi⟩
 generalize kW vs=x at he hrv
 generalize hus:LD us=u at hrv
 unfold gX at he
 split at he
 ·obtain ⟨l',ha,rfl⟩:=he
  cases hrv with
  | tup _ us' hv'=>exact .tup _ _ (oh hl _ ha hv')
 ·exact xu hl 6 _ he hrv
end
end Go.Fv
/-
 Steps of a walk that pay their side conditions by themselves.
-/
namespace Go.Fv
theorem aZ.g {p K:Prop} (k:K) (h:p:=by first|omega|(with_reducible refine aZ.intro ?_ ?_<;>omega)|(simp;done)|(simp;omega)):aZ p K:=⟨h,k⟩
theorem dh.g {e:Int} {K:Int→Prop} (kk:K e) (h1:-9223372036854775808≤e:=by omega) (h2:e≤9223372036854775807:=by omega):dh .i64 e K:=dh.i64 h1 h2 kk
theorem dh.h {e:Int} {K:Int→Prop} (kk:K e) (h1:0≤e:=by omega) (h2:e≤255:=by omega):dh .u8 e K:=dh.u8 h1 h2 kk
theorem Ite.t {p:Prop} [Decidable p] {x y:Prop} (k:p→x) (h:¬p→False:=by (intro _;omega)):@Ite (Decidable.decide p) ⟨x⟩ ⟨y⟩:=Ite.decide k fun h'=>(h h').elim
theorem Ite.f {p:Prop} [Decidable p] {x y:Prop} (k:¬p→y) (h:p→False:=by (intro _;omega)):@Ite (Decidable.decide p) ⟨x⟩ ⟨y⟩:=Ite.decide (fun h'=>(h h').elim) k
class Stp (p:Prop) (q:outParam Prop):Prop where
 go:q→p
instance {p K:Prop}:Stp (qA p K) (p→K):=⟨qA.intro⟩
instance {K:Int→Prop}:Stp (@JO .i64 ⟨K⟩) (∀ n,(-9223372036854775808≤n∧n≤9223372036854775807)→K n):=⟨JO.i64⟩
instance (priority:=900) {b:Bool} {x y:Prop}:Stp (@Ite b ⟨x⟩ ⟨y⟩) ((b=true→x)∧(b=false→y)):=⟨fun h=>Ite.bool h.1 h.2⟩
instance {p:Prop} [Decidable p] {x y:Prop}:Stp (@Ite (Decidable.decide p) ⟨x⟩ ⟨y⟩) ((p→x)∧(¬p→y)):=⟨fun h=>Ite.decide h.1 h.2⟩
theorem rs {p q:Prop} [h:Stp p q] (k:q):p:=h.go k
theorem rc {p K:Prop} (k:K) (h:p:=by first|omega|(with_reducible refine aZ.intro ?_ ?_<;>omega)|(simp;done)|(simp;omega)):aZ p K:=⟨h,k⟩
theorem rl {e:Int} {K:Int→Prop} (k:K e) (h1:-9223372036854775808≤e:=by omega) (h2:e≤9223372036854775807:=by omega):dh .i64 e K:=dh.i64 h1 h2 k
theorem rh {e:Int} {K:Int→Prop} (k:K e) (h1:0≤e:=by omega) (h2:e≤255:=by omega):dh .u8 e K:=dh.u8 h1 h2 k
theorem rt {p:Prop} [Decidable p] {x y:Prop} (k:p→x) (h:¬p→False:=by (intro _;omega)):@Ite (Decidable.decide p) ⟨x⟩ ⟨y⟩:=Ite.decide k fun h'=>(h h').elim
theorem rf {p:Prop} [Decidable p] {x y:Prop} (k:¬p→y) (h:p→False:=by (intro _;omega)):@Ite (Decidable.decide p) ⟨x⟩ ⟨y⟩:=Ite.decide (fun h'=>(h h').elim) k
theorem ru {k:IntKind} {e:Int} {K:Int→Prop} (kk:K e) (h:(k=.u64∧0≤e∧e≤18446744073709551615)∨(k=.u32∧0≤e∧e≤4294967295)∨(k=.i32∧-2147483648≤e∧e≤2147483647):=by
  first|(refine Or.inl ⟨rfl,?_,?_⟩<;>omega)|(refine Or.inr (Or.inl ⟨rfl,?_,?_⟩)<;>omega)|(refine Or.inr (Or.inr ⟨rfl,?_,?_⟩)<;>omega)):dh k e K:=by
 rcases h with ⟨rfl,h1,h2⟩|⟨rfl,h1,h2⟩|⟨rfl,h1,h2⟩
 ·exact dh.Fb (gJ.2 ⟨h1,h2⟩) kk
 ·exact dh.Fb (LX.2 ⟨h1,h2⟩) kk
 ·exact dh.Fb (EK.2 ⟨h1,h2⟩) kk
theorem rz {P Q:Prop} (q:Q) (h:Q→P:=by first|exact fun k=>rc k|exact fun k=>rl k|exact fun k=>rh k|exact fun k=>ru k|exact fun k=>rt k|exact fun k=>rf k|exact fun k=>rs k):P:=h q
theorem ry {P Q:Prop} (q:Q) (h:Q→P:=by first|exact fun k=>rc k|exact fun k=>rl k|exact fun k=>rh k|exact fun k=>rt k|exact fun k=>rf k|exact fun k=>rs k):P:=h q
structure Dn:Prop where
theorem dn:Dn:=⟨⟩
theorem rn {P Q:Prop} (q:Q) (h:Q→P:=by first|exact fun k=>rc k|exact fun k=>rl k|exact fun k=>rh k|exact fun k=>ru k|exact fun k=>rt k|exact fun k=>rf k|exact fun k=>rs k|(refine fun _:Dn=>?_;omega)|(intro q;simp (maxSteps:=1000000) only [go_sem];exact q)|(refine fun _:Dn=>?_;simp (maxSteps:=1000000) only [go_sem];done)):P:=h q
theorem ra {p q:Prop} (a:p) (b:q):p∧q:=⟨a,b⟩
theorem dh.at {k:IntKind} {e:Int} {K:Int→Prop} (m:Int) (h:k.wrap e=m) (kk:K m):dh k e K:=fun n hn _=>by rw [hn,h];exact kk
theorem aj.k {P:Program} {w0:World} {T0:Bs} [hG:qB P w0 T0] {f:Nat} {args args':List AV} {out:AV} {s:S} {K:AV→S→Prop} (h:aU P f args' out []) (hk:K (ren (fun j=>s.next+j) out) (s.after s.rows 0 []))
  (h1:iL out=true:=by rfl) (h2:Fv.below 0 out=true:=by rfl) (ha:aV s.rows args args':=by
   simp only [aG,aV,dI,bf,aH,List.drop_zero,lk,reduceIte,reduceCtorEq,Nat.reduceEqDiff,Option.some.injEq,Item.row.injEq,Item.box.injEq,AV.ro.injEq,exists_eq_left,exists_and_left,exists_eq_left',exists_eq_right,and_assoc,and_true,true_and,List.cons.injEq,exists_eq',exists_eq]) :
  @aj P w0 T0 f args s ⟨K⟩:=aj.fr (dW.dP h h1 rfl) ha 0 h2 trivial hk
theorem aj.f {P:Program} {w0:World} {T0:Bs} [hG:qB P w0 T0] {f:Nat} {args args':List AV} {out:AV} {rows:List (Nat × Item)} {s:S} {K:AV→S→Prop} (h:dW P f args' out rows) (N:Nat) (hk:K (ren (fun j=>s.next+j) out) (s.after s.rows N rows))
  (hN:Fv.below N out=true:=by rfl) (hNr:bn N rows:=by simp [bn,Item.below,Fv.below,aQ,ak]) (ha:aV s.rows args args':=by
   simp only [aG,aV,dI,bf,aH,List.drop_zero,lk,reduceIte,reduceCtorEq,Nat.reduceEqDiff,Option.some.injEq,Item.row.injEq,Item.box.injEq,AV.ro.injEq,exists_eq_left,exists_and_left,exists_eq_left',exists_eq_right,and_assoc,and_true,true_and,List.cons.injEq,exists_eq',exists_eq]) :
  @aj P w0 T0 f args s ⟨K⟩:=aj.fr h ha N hN hNr hk
theorem aj.o {P:Program} {w0:World} {T0:Bs} [hG:qB P w0 T0] {f:Nat} {args args':List AV} {out:AV} {rows:List (Nat × Item)} {s:S} {K:AV→S→Prop} (h:aU P f args' out rows) (N:Nat) (hk:K (ren (fun j=>s.next+j) out) (s.after s.rows N rows))
  (h1:iL out=true:=by rfl) (h2:dR rows=true:=by rfl) (hN:Fv.below N out=true:=by rfl) (hNr:bn N rows:=by simp [bn,Item.below,Fv.below,aQ,ak]) (ha:aV s.rows args args':=by
   simp only [aG,aV,dI,bf,aH,List.drop_zero,lk,reduceIte,reduceCtorEq,Nat.reduceEqDiff,Option.some.injEq,Item.row.injEq,Item.box.injEq,AV.ro.injEq,exists_eq_left,exists_and_left,exists_eq_left',exists_eq_right,and_assoc,and_true,true_and,List.cons.injEq,exists_eq',exists_eq]) :
  @aj P w0 T0 f args s ⟨K⟩:=aj.fr (dW.dP h h1 h2) ha N hN hNr hk
theorem YH {a:Item}:∀ j,j<1→∃ it,lk [(0,a)] j=some it:=fun j hj=>by
 obtain rfl:j=0:=by omega
 exact ⟨a,rfl⟩
theorem YI {a b:Item}:∀ j,j<2→∃ it,lk [(0,a),(1,b)] j=some it:=fun j hj=>by
 rcases j with _|_|j
 ·exact ⟨a,rfl⟩
 ·exact ⟨b,rfl⟩
 ·omega
theorem YJ {a b c:Item}:∀ j,j<3→∃ it,lk [(0,a),(1,b),(2,c)] j=some it:=fun j hj=>by
 rcases j with _|_|_|j
 ·exact ⟨a,rfl⟩
 ·exact ⟨b,rfl⟩
 ·exact ⟨c,rfl⟩
 ·omega
theorem YK {a b c d:Item}:∀ j,j<4→∃ it,lk [(0,a),(1,b),(2,c),(3,d)] j=some it:=fun j hj=>by
 rcases j with _|_|_|_|j
 ·exact ⟨a,rfl⟩
 ·exact ⟨b,rfl⟩
 ·exact ⟨c,rfl⟩
 ·exact ⟨d,rfl⟩
 ·omega
theorem aj.i {P:Program} {w0:World} {T0:Bs} [hgb:qB P w0 T0] {f:Nat} {args args':List AV} {rows0:List (Nat × Item)} {out:AV} {rows:List (Nat × Item)} {s:S} {K:AV→S→Prop} (ids:List Nat) (h:dD P f args' rows0 ids.length out rows) (N:Nat) (hk:K (ren (bV ids s.next) out) (s.je ids N rows))
  (hd:ids.Nodup:=by decide) (ha:args=bZ (bV ids s.next) args':=by simp [bZ,ren,bV]) (hab:aQ ids.length args'=true:=by rfl)
  (h0:bU (bV ids s.next) s.rows ids.length rows0:=by simp [bU,bV,lk,Item.ren,Item.below,ren,bZ,aQ,Fv.below,bg,ak])
  (hcov:∀ j,j<ids.length→∃ it,lk rows0 j=some it:=by first|exact YH|exact YI|exact YJ|exact YK) (hkN:ids.length≤N:=by decide) (hN:Fv.below N out=true:=by rfl) (hNr:bn N rows:=by simp [bn,Item.below,Fv.below,aQ,ak]) :
  @aj P w0 T0 f args s ⟨K⟩:=aj.io ids h hd ha hab h0 hcov N hkN hN hNr hk
attribute [go_sem] S.je aW bV dF bg ak List.getElem?_nil Nat.sub_self List.getElem?_cons_zero List.getElem?_cons_succ
attribute [go_sem ↓] reduceIte
attribute [go_sem] Fin.reduceNatAdd Fin.isValue UInt8.reduceAdd reduceDIte Nat.reduceEqDiff Int.reduceNegSucc Nat.reduceOr Fin.reduceGT Nat.reducePow Fin.reduceCastSucc Fin.reduceOr Nat.reduceGT Nat.reduceBneDiff Fin.reduceCastLT Fin.reduceNe Nat.reduceSubDiff Fin.reduceGE Nat.reduceMod Nat.reduceXor Int.reduceGE Int.reduceBmod UInt8.reduceOfNat Fin.reduceMod Int.reduceToNat Fin.reduceAddNat Fin.reduceXor Fin.reduceAnd Int.reduceEq Int.reduceFDiv Nat.reduceAnd Fin.reduceSubNat UInt8.reduceGT Fin.reduceFinMk Nat.reduceShiftRight Int.reduceNatCast Int.reduceGT Int.reducePow Nat.reduceGcd Nat.reduceAdd Nat.reduceBNe Int.reduceDiv Int.reduceMul reduceCtorEq Nat.reduceDvd Int.reduceBEq Nat.reduceBeqDiff Fin.reduceOfNat UInt8.reduceMod Int.reduceTMod Int.reduceOfNat UInt8.reduceToNat Nat.reduceShiftLeft Fin.reduceLast Nat.reduceLeDiff Fin.reduceShiftLeft Int.reduceNe UInt8.reduceGE Fin.reduceCastLE Int.reduceSub Fin.reduceLE Int.reduceAbs Fin.reduceCastAdd Int.reduceLT Fin.reducePred Int.reduceNatCast' Nat.reduceSub Fin.reduceRev Int.reduceNeg Fin.reduceLT Fin.reduceShiftRight Fin.reduceEq UInt8.reduceOfNatLT Fin.reduceAdd Fin.reduceBNe Nat.reduceDiv Int.reduceBNe Int.reduceDvd Nat.reduceMul Int.reduceAdd Nat.reduceBEq Nat.reduceSucc Fin.reduceDiv Fin.reduceMul Fin.reduceBEq Fin.reduceSucc UInt8.reduceLT Int.reduceTDiv Int.reduceFMod UInt8.reduceSub Int.reduceBdiv UInt8.reduceLE Nat.reduceLT Fin.reduceSub Int.reduceLE Int.reduceMod UInt8.reduceDiv UInt8.reduceMul
end Go.Fv
/-
 The library's sort of a row of ints or of strings, by the shelf's contracts, as a contract that writes the caller's memory.
-/
namespace Go.Fv
open Go.RowKit Go.Sort Go.Proofs Go.Shelf
theorem Jj {α:Type} [Inhabited α] (enc:α→Value) (w:World) (n g:Nat) (d:Array α) (os:Array Obj) {cur:Array Value} {e:TypeId} {fz:Nat × Nat} (hh:w.heap[g]?=some (.cells cur e fz)) :
  (grow (putRow enc (Sort.ahead w n) g 0 d) os).heap[g]?=some (.cells (putCells enc 0 d cur) e fz):=by
 have hlt:g<w.heap.size:=(Array.getElem?_eq_some_iff.1 hh).1
 show ((w.heap.modify g (onCells (putCells enc 0 d)))++os)[g]?=_
 rw [Array.getElem?_append_left (by simpa using hlt),Array.getElem?_modify,if_pos rfl,hh]
 rfl
theorem F9 {α:Type} [Inhabited α] (enc:α→Value) (w:World) (n g:Nat) (d:Array α) (os:Array Obj) {k:Nat} (hk:k<w.heap.size) (hne:¬g=k) :
  (grow (putRow enc (Sort.ahead w n) g 0 d) os).heap[k]?=w.heap[k]?:=by
 show ((w.heap.modify g (onCells (putCells enc 0 d)))++os)[k]?=_
 rw [Array.getElem?_append_left (by simpa using hk),Array.getElem?_modify,if_neg hne]
theorem tN {α:Type} [Inhabited α] (enc:α→Value) (d:Array α) (c:Array Value):(putCells enc 0 d c).size=c.size:=by simp [putCells]
theorem CV {α:Type} [Inhabited α] (enc:α→Value) (l:List α) (c:Array Value) (n:Nat) (hn:l.length=n) (hc:n≤c.size):(putCells enc 0 l.toArray c).toList.take n=l.map enc:=by
 apply List.ext_getElem?
 intro j
 by_cases hj:j<n
 ·rw [List.getElem?_take_of_lt hj,List.getElem?_map]
  have h1:j<c.size:=by omega
  have h2:j<l.length:=by omega
  have h3:(putCells enc 0 l.toArray c)[j]?=some (enc l.toArray[j]!):=by
   simp only [putCells,Array.getElem?_mapIdx,Array.getElem?_eq_getElem h1,Option.map_some]
   rw [if_pos ⟨Nat.zero_le _,by simpa using h2⟩,Nat.sub_zero]
  rw [Array.getElem?_toList,h3]
  simp [h2]
 ·rw [List.getElem?_eq_none (by simp;omega),List.getElem?_eq_none (by simp;omega)]
section
variable {P:Program}
theorem dD.place {α:Type} [Inhabited α] (enc:α→Value) {f:Nat} (hE:Enter P f) (e:TypeId) (r r':aF) (l l':List α) (hll:l'.length=l.length)
  (hr1:r.sz=1) (hr2:r'.sz=1) (hrl:r.len=l.length) (hrl':r'.len=l.length)
  (hdown:∀ c cells,bP c r cells→cells=l.map enc) (hup:∀ c c' cells,bP c r cells→bP c' r' (l'.map enc))
  (hrun:∀ (w:World) (g cap:Nat),Holds enc w g 0 l.toArray→g<w.heap.size→Calls P f #[.slice (some ⟨g,0,none⟩) l.length cap] w fun x w'=>x=.returned (.tuple #[])∧∃ n os,w'=grow (putRow enc (Sort.ahead w n) g 0 l'.toArray) os)
  (hnone:∀ (w:World) (p:Option Addr) (cap:Nat),Calls P f #[.slice p 0 cap] w fun x w'=>x=.returned (.tuple #[])∧w'=w) :
  dD P f [.own 0] [(0,.row e r)] 1 (.tup []) [(0,.row e r')]:=by
 refine ⟨hE,fun w T g m0 vals ⟨hrow,_,hd⟩ hgl hng hv=>?_⟩
 obtain ⟨_,n,cells,hr,hn,⟨hlen,hcase⟩,hO⟩:=hrow 0 _ rfl
 have hcells:=hdown _ _ hr
 subst hcells
 rw [hrl] at hn
 subst hn
 cases hv with
 | cons _ v0 _ vs h0 hvs=>
 cases hvs
 cases h0 with
 | own _ hi h1=>
 rw [hr1] at hcase
 have none_case:l.length=0→∀ p cap,m0 0=.slice p 0 cap→Calls P f [m0 0].toArray w fun e_1 w'=>∃ v,e_1=.returned v∧bK g w w'∧∃ m N,(∀ i,i<1→m i=m0 i)∧1≤N ∧
   Rv ⟨w',allow ⟨fun b=>T b∨g b,g⟩ w.heap.size m [(0,.row e r')],m,N⟩ (.tup []) v ∧
   (∀ i it,lk [(0,Item.row e r')] i=some it→i<N∧bD ⟨w',allow ⟨fun b=>T b∨g b,g⟩ w.heap.size m [(0,.row e r')],m,N⟩ (ownB ⟨fun b=>T b∨g b,g⟩ w.heap.size) (m i) it) ∧
   (∀ i j it jt b,lk [(0,Item.row e r')] i=some it→lk [(0,Item.row e r')] j=some jt→blk (m i)=some b→blk (m j)=some b→i=j):=by
  intro h00 p cap hm
  rw [show [m0 0].toArray=#[m0 0] from rfl,hm]
  refine (hnone w p cap).mono ?_
  rintro x w' ⟨rfl,rfl⟩
  have hl'0:l'=[]:=List.eq_nil_of_length_eq_zero (by omega)
  refine ⟨_,rfl,bK.refl _ _,m0,1,fun _ _=>rfl,Nat.le_refl _,.tup [] [] .nil,?_,?_⟩
  ·intro i it hi
   have hi0:i=0:=by
    simp only [lk] at hi
    split at hi
    ·rename_i h;exact h.symm
    ·cases hi
   subst hi0
   have:it=Item.row e r':=by simp [lk] at hi;exact hi.symm
   subst this
   have hr':=hup _ ⟨w',allow ⟨fun b=>T b∨g b,g⟩ w'.heap.size m0 [(0,.row e r')],m0,1⟩ _ hr
   rw [hl'0] at hr'
   refine ⟨by omega,0,[],hr',by omega,?_,fun b hb=>.inr ⟨hO b hb,.inr (hO b hb)⟩⟩
   rcases hcase with ⟨hv,_⟩|⟨g0,cap',cur,fz,hv,hMk,hh,hnc,hcm,hcs,htk⟩
   ·exact ⟨by simp,.inl ⟨hv,rfl⟩⟩
   ·refine ⟨by simp,.inr ⟨g0,cap',cur,fz,by rw [hv,h00],hMk,hh,by omega,hcm,by rw [hcs,hr2],by simp⟩⟩
  ·intro i j it jt b hi hj _ _
   have aux:∀ q x,lk [(0,Item.row e r')] q=some x→q=0:=by
    intro q x hq
    simp only [lk] at hq
    split at hq
    ·rename_i h;exact h.symm
    ·cases hq
   rw [aux i it hi,aux j jt hj]
 rcases hcase with ⟨hv,h00⟩|⟨g0,cap,cur,fz,hv,hMk,hh,hnc,hcm,hcs,htk⟩
 ·exact none_case h00 _ _ hv
 ·by_cases h00:l.length=0
  ·exact none_case h00 _ cap (by rw [hv,h00])
  rw [Nat.mul_one] at hcs htk
  have hlt:g0<w.heap.size:=(Array.getElem?_eq_some_iff.1 hh).1
  have hcell:∀ j,j<l.length→cur[j]?=some (enc l.toArray[j]!):=by
   intro j hj
   have h1:(cur.toList.take l.length)[j]?=(l.map enc)[j]?:=by rw [htk]
   rw [List.getElem?_take_of_lt hj,List.getElem?_map,Array.getElem?_toList] at h1
   rw [h1];simp [hj]
  have hH:Holds enc w g0 0 l.toArray:=by
   intro j hj
   have hj':j<l.length:=by simpa using hj
   constructor
   ·simp [World.cell?,hh,hcell j hj']
   ·simp only [World.frozen?,hh]
    rcases hMk.w with rfl|hMk
    ·simp
    ·obtain ⟨lo,hi⟩:=fz
     have:cur.size≤lo:=hMk
     simp;omega
  rw [show [m0 0].toArray=#[m0 0] from rfl,hv]
  refine (hrun w g0 cap hH hlt).mono ?_
  rintro x w' ⟨rfl,nn,os,rfl⟩
  have hgO:=hO g0 (by rw [hv];rfl)
  have hnh:=Jj enc w nn g0 l'.toArray os hh
  refine ⟨_,rfl,⟨rfl,rfl,rfl,by simp,trivial,fun k hk hng'=>F9 enc w nn g0 _ os hk fun e=>hng' (e▸hgO)⟩,m0,1,fun _ _=>rfl,Nat.le_refl _,.tup [] [] .nil,?_,?_⟩
  ·intro i it hi
   have hi0:i=0:=by
    simp only [lk] at hi
    split at hi
    ·rename_i h;exact h.symm
    ·cases hi
   subst hi0
   have:it=Item.row e r':=by simp [lk] at hi;exact hi.symm
   subst this
   have hr':=hup _ ⟨grow (putRow enc (Sort.ahead w nn) g0 0 l'.toArray) os,allow ⟨fun b=>T b∨g b,g⟩ w.heap.size m0 [(0,.row e r')],m0,1⟩ _ hr
   refine ⟨by omega,l.length,l'.map enc,hr',hrl',?_,fun b hb=>.inr ⟨hO b hb,.inr (hO b hb)⟩⟩
   rw [hr2]
   refine ⟨by simp [hll],.inr ⟨g0,cap,_,fz,hv,by rw [tN];exact hMk,hnh,hnc,hcm,by rw [tN,hcs,Nat.mul_one],?_⟩⟩
   rw [Nat.mul_one]
   exact CV enc l' cur _ hll (by omega)
  ·intro i j it jt b hi hj _ _
   have aux:∀ q x,lk [(0,Item.row e r')] q=some x→q=0:=by
    intro q x hq
    simp only [lk] at hq
    split at hq
    ·rename_i h;exact h.symm
    ·cases hq
   rw [aux i it hi,aux j jt hj]
end
end Go.Fv
/-
 A family of owned rows becomes data: rows of rows that are done.
-/
namespace Go.Fv
theorem yS:∀ (L:List Item) (b i:Nat) (x:Item),L.length+b≤i→put (jG b L) i x=jG b L
 | [],_,_,_,_=>rfl
 | y::L,b,i,x,h=>by
  rw [List.length_cons] at h
  simp only [jG,put]
  rw [if_neg (by omega),yS L (b+1) i x (by omega)]
theorem V4:∀ x:AV,ren id x=x:=fun x=>by
 have hb:∃ n,below n x=true:=below_ex x
 obtain ⟨n,hn⟩:=hb
 exact gQ (b0:=n) (fun _ _=>rfl) x hn
where
 below_ex:∀ x:AV,∃ n,below n x=true:=fun x=>belowEx x
 belowEx:∀ x:AV,∃ n,below n x=true
  | .own i=>⟨i+1,by simp [below]⟩
  | .ptr i _=>⟨i+1,by simp [below]⟩
  | .elt i _ _ _=>⟨i+1,by simp [below]⟩
  | .pre i _=>⟨i+1,by simp [below]⟩
  | .suf i _ _ _=>⟨i+1,by simp [below]⟩
  | .agg cs=>belowExL cs
  | .tup cs=>belowExL cs
  | .fn _ cs=>belowExL cs
  | .cell _=>⟨0,rfl⟩
  | .dead=>⟨0,rfl⟩
  | .nilS=>⟨0,rfl⟩
  | .bool _=>⟨0,rfl⟩
  | .int _ _=>⟨0,rfl⟩
  | .str _=>⟨0,rfl⟩
  | .ro _=>⟨0,rfl⟩
  | .raw _=>⟨0,rfl⟩
  | .opt _ v=>belowEx v
  | .ifc _ v=>belowEx v
  | .bm _ v=>belowEx v
  | .mp _ _=>⟨0,rfl⟩
 belowExL:∀ l:List AV,∃ n,aQ n l=true
  | []=>⟨0,rfl⟩
  | x::l=>by
   obtain ⟨a,ha⟩:=belowEx x
   obtain ⟨c,hc⟩:=belowExL l
   exact ⟨max a c,by simp only [aQ];rw [below_le (Nat.le_max_left a c) x ha,iy (Nat.le_max_right a c) l hc];rfl⟩
theorem Ic {p:Nat→Nat} {s:S} {N:Nat}:∀ {l:List (Nat × AV)},(∀ x,x∈l→s.get x.1=ren p x.2∧Fv.below N x.2=true)→qL p s N l
 | [],_=>trivial
 |(r,v)::l,h=>⟨h (r,v) (.head _),Ic fun x hx=>h x (.tail _ hx)⟩
theorem NP {p:Nat→Nat} {rows:List (Nat × Item)} {N:Nat}:∀ {l:List (Nat × Item)},(∀ x,x∈l→lk rows (p x.1)=some (x.2.ren p)∧x.2.below N=true)→Gi p rows N l
 | [],_=>trivial
 |(r,v)::l,h=>⟨h (r,v) (.head _),NP fun x hx=>h x (.tail _ hx)⟩
theorem TT (k:Nat) (q:aF) (b:Nat) (hb:b≤k) (it:Item) (h:it.below b=true):Qw k q it=it:=by
 cases it with
 | row e r=>
  cases r with
  | objs sz l=>
   simp only [Qw,TU]
   congr 2
   conv=>rhs;rw [←List.map_id l]
   refine List.map_congr_left fun x hx=>nC k q b hb x ?_
   simp only [Item.below,jh,List.all_eq_true] at h
   exact h x hx
  | _=>rfl
 | box e cs=>simp only [Qw];rw [nC k q b hb cs h]
 | map ks vs=>
  simp only [Item.below,Bool.and_eq_true] at h
  simp only [Qw];rw [nC k q b hb ks h.1,nC k q b hb vs h.2]
 | iter _ _ _=>rfl
 | siter _ _=>rfl
theorem Item.Nz {n:Nat} (it:Item) (h:it.below n=true):it.ren id=it:=Item.gQ (b0:=n) (fun _ _=>rfl) it h
section
variable {w0:World} {T0:Bs} {b0:Nat}
end
end Go.Fv
