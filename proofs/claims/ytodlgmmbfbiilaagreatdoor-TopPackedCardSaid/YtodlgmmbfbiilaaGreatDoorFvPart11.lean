/-
  A part of the proof of the claim: walks over the program's functions and the plain laws that these need. No condition of its own.
-/
import Derived.Test.YtodlgmmbfbiilaaGreatDoorFvPart10
import Derived.Test.YtodlgmmbfbiilaaGreatDoorFvPart8
import Derived.Test.YtodlgmmbfbiilaaGreatDoorFvPart6
import Derived.Shelf.Vars
import Derived.Handed
import Derived.LaidSub
import Derived.Lib.LaidTab
import Derived.Shelf.SortM.Plain
import Derived.Shelf.SortM.SortNone
set_option linter.unusedSectionVars false
set_option linter.unusedVariables false
set_option linter.unusedSimpArgs false
set_option linter.unnecessarySimpa false
/-
 Contracts of functions that are given memory, which they turn and hand back.
-/
namespace Go.Fv
open Go.RowKit
def Fz (w:World) (T g:Nat→Prop) (m0:Nat→Value) (k:Nat) (rows0:List (Nat × Item)):Prop:=
 (∀ i it,lk rows0 i=some it→i<k∧aS ⟨w,T,m0,k⟩ g (m0 i) it) ∧
 (∀ i j it jt b,lk rows0 i=some it→lk rows0 j=some jt→blk (m0 i)=some b→blk (m0 j)=some b→i=j) ∧
 (∀ b,T b→¬g b)
def iC (P:Program) (f:Nat) (args:List AV) (rows0:List (Nat × Item)) (k:Nat) (out:AV) (rows:List (Nat × Item)):Prop:=
 Enter P f∧∀ (w:World) (T g:Nat→Prop) (m0:Nat→Value) (vals:List Value),Fz w T g m0 k rows0→tJ P w→(∀ (b:Nat) (q:GK),U7 P b=some q→¬g b)→cO ⟨w,T,m0,k⟩ args vals →
  Calls P f vals.toArray w fun e w'=>∃ v,e=.returned v∧aZ g w w'∧∃ m N,(∀ i,i<k→m i=m0 i)∧k≤N ∧
   Rv ⟨w',allow ⟨fun b=>T b∨g b,g⟩ w.heap.size m rows,m,N⟩ out v ∧
   (∀ i it,lk rows i=some it→i<N∧aS ⟨w',allow ⟨fun b=>T b∨g b,g⟩ w.heap.size m rows,m,N⟩ (ownB ⟨fun b=>T b∨g b,g⟩ w.heap.size) (m i) it) ∧
   (∀ i j it jt b,lk rows i=some it→lk rows j=some jt→blk (m i)=some b→blk (m j)=some b→i=j)
section
variable {P:Program} {w0:World} {T0:Bs}
def kT (P:Program) (w0:World) (T0:Bs) (k:Nat) (res:List ResultVar) (out:AV) (rows:List (Nat × Item)) (s:S):Prop:=
 ∀ (H:List (AV × Value)) (a:Act) (w:World),Ac k H→Rep w0 T0 H s a w→∃ v,(∀ (fn:Func),fn.results=res.toArray→(results fn a.tmps).run P w=.ok v w) ∧
  ∃ m N,k≤N∧(∀ p,p∈H→Rv ⟨w,allow T0 w0.heap.size m rows,m,N⟩ p.1 p.2)∧Rv ⟨w,allow T0 w0.heap.size m rows,m,N⟩ out v ∧
   (∀ i it,lk rows i=some it→i<N∧aS ⟨w,allow T0 w0.heap.size m rows,m,N⟩ (ownB T0 w0.heap.size) (m i) it) ∧
   (∀ i j it jt b,lk rows i=some it→lk rows j=some jt→blk (m i)=some b→blk (m j)=some b→i=j)
def Xh (P:Program) (w0:World) (T0:Bs) (k:Nat) (res:List ResultVar) (out:AV) (rows:List (Nat × Item)):Exit→S→Prop
 | .normal,s=>kT P w0 T0 k res out rows s
 | .ret,s=>kT P w0 T0 k res out rows s
 | _,_=>False
@[congr] theorem XE {k:Nat} {res:List ResultVar} {out:AV} {rows:List (Nat × Item)} {s s':S} (h:s=s'):kT P w0 T0 k res out rows s=kT P w0 T0 k res out rows s':=by rw [h]
theorem kT.of {k:Nat} (l:List (Nat × Nat)) (N:Nat) (hl:∀ x,x∈l→k≤x.1) (hk:k≤N) {res:List ResultVar} {out:AV} {rows:List (Nat × Item)} {s:S} (h:yg P s res (fun vs=>lg vs=ren (pm l) out)) (hb:Fv.below N out=true) (hr:mQ (pm l) s.rows N rows):kT P w0 T0 k res out rows s:=by
 rintro H a w hH ⟨m,hm⟩
 obtain ⟨vs,us,he,hrun,hvs⟩:=rE hm h
 have hlow:∀ i,i<k→pm l i=i:=by
  intro i hi
  unfold pm
  cases h:lk l i with
  | none=>rfl
  | some j=>have:=hl _ (dI h);simp at this;omega
 have hrv:Rv (au T0 w0.heap.size m s w) (lg vs) (Ns us):=by
  cases hvs with
  | nil=>exact .tup _ _ .nil
  | cons x v l us hx ht=>
   cases ht with
   | nil=>exact hx
   | cons x' v' l' us' hx' ht'=>exact .tup _ _ (.cons _ _ _ _ hx (.cons _ _ _ _ hx' ht'))
 have hren:kS (pm l) (au T0 w0.heap.size m s w) ⟨w,allow T0 w0.heap.size (fun i=>m (pm l i)) rows,fun i=>m (pm l i),N⟩:=
  {m:=fun _ _=>rfl,
   t:=by
    intro b ⟨h1,h2⟩ _
    refine ⟨⟨h1,fun i it hi e=>?_⟩,rfl⟩
    obtain ⟨_,h3,_⟩:=dM hr i it (dI hi)
    exact h2 _ _ h3 e }
 refine ⟨_,fun fn hf=>lJ hf a.tmps hrun,fun i=>m (pm l i),N,hk,fun p hp=>?_,Rv.ren hren out hb (by rw [←he];exact hrv),fun i it hi=>?_,fun i j it jt b hi hj hbi hbj=>?_⟩
 ·have h1:=hH p hp
  refine Rv.ren hren p.1 (below_le hk _ h1) ?_
  rw [kE hlow _ h1];exact hm.held p hp
 ·obtain ⟨h1,h2,h3⟩:=dM hr i it (dI hi)
  exact ⟨h1,aS.ren hren rfl h3 (hm.rows _ _ h2).2⟩
 ·obtain ⟨_,h2,_⟩:=dM hr i it (dI hi)
  obtain ⟨_,h2',_⟩:=dM hr j jt (dI hj)
  exact sZ hr i j it jt (dI hi) (dI hj) (hm.sep _ _ _ _ b h2 h2' hbi hbj)
theorem kT.auto {k:Nat} (N:Nat) (hk:k≤N) {res:List ResultVar} {out:AV} {rows:List (Nat × Item)} {s:S} (h:yg P s res (fun vs=>lg vs=ren (pm (gV k (Jz s res out rows))) out)) (hb:Fv.below N out=true) (hr:mQ (pm (gV k (Jz s res out rows))) s.rows N rows):kT P w0 T0 k res out rows s:=
 kT.of _ N (vU k _) hk h hb hr
theorem aS.oneCell {c:Ctx} {O:Nat→Prop} {v:Value} {it:Item} (h:aS c O v it):v.oneCell'=true:=by
 cases it with
 | row e r=>
  obtain ⟨n,cells,_,_,ho,_⟩:=h
  rcases ho.2 with ⟨rfl,_⟩|⟨g,cap,cur,fz,rfl,_⟩<;>rfl
 | box e cs=>obtain ⟨g,vs,rfl,_⟩:=h;rfl
 | map ks vs=>obtain ⟨g,es,clock,rfl,_⟩:=h;rfl
 | iter mp since seen=>obtain ⟨g,q,sn,last,rfl,_⟩:=h;rfl
 | siter t pos=>obtain ⟨g,rfl,_⟩:=h;rfl
theorem iC.of_run {f:Nat} {fn:Func} {c:Code} {args:List AV} {rows0:List (Nat × Item)} {k:Nat} {out:AV} {rows:List (Nat × Item)} (hf:P.funcs[f]?=some fn) (hb:fn.body=some c)
  (hnm:(fn.name == "runtime.NumGoroutine")=false) (hn:args.length≤fn.ntmps) (hcov:∀ j,j<k→∃ it,lk rows0 j=some it) (res:List ResultVar) (hres:fn.results=res.toArray)
  (h:∀ (w0:World) (T0:Bs) [rQ P w0 T0],jh P w0 T0 k c ⟨fn.ntmps,aB 0 args,rows0,k⟩ (Xh P w0 T0 k res out rows)):iC P f args rows0 k out rows:=by
 refine ⟨⟨fn,hf,by rw [hb];rfl,hnm⟩,fun w T g m0 vals hG hgl hgg hv=>?_⟩
 haveI:rQ P w ⟨fun b=>T b∨g b,g⟩:=⟨hgl,fun b q hq h=>hgg b q hq h.1⟩
 obtain ⟨hrows,hsep,hTg⟩:=hG
 refine calls_of_wp hf hb ?_
 have hlen:=hv.length
 have hle:cZ (⟨w,T,m0,k⟩:Ctx) (au ⟨fun b=>T b∨g b,g⟩ w.heap.size m0 ⟨fn.ntmps,aB 0 args,rows0,k⟩ w):=
  ⟨Nat.le_refl _,fun _ _=>rfl,fun b hb _=>⟨⟨.inr (.inl hb),fun i it hi e=>hTg b hb ((hrows i it hi).2.blk b e).1⟩,rfl⟩⟩
 have hrep:aV w ⟨fun b=>T b∨g b,g⟩ (rows0.map fun p=>(.own p.1,m0 p.1)) ⟨fn.ntmps,aB 0 args,rows0,k⟩ { tmps:=vals.toArray++Array.replicate (fn.ntmps - vals.toArray.size) undef,defers:=[] } w m0:=
  {size:=by simp;omega,nodef:=rfl,below:=aZ.refl _ _,
   env:=by
    intro r v hr
    obtain ⟨u,h1,h2⟩:=rW 0 [] rfl hv r v hr
    have e:((vals.toArray++Array.replicate (fn.ntmps - vals.toArray.size) undef).getD r undef)=u:=by
     have h1':vals[r]?=some u:=by simpa using h1
     have hlt:r<vals.length:=(List.getElem?_eq_some_iff.1 h1').1
     rw [Array.getD_eq_getD_getElem?,Array.getElem?_append_left (by simpa using hlt)]
     simp [h1']
    rw [e];exact h2.mono hle,
   held:=by
    intro p hp
    obtain ⟨q,hq,rfl⟩:=List.mem_map.1 hp
    obtain ⟨it,hit⟩:=OH hq
    obtain ⟨h1,h2⟩:=hrows _ _ hit
    exact .own q.1 h1 h2.oneCell,
   rows:=fun i it hi=>⟨(hrows i it hi).1,(((hrows i it hi).2).mono hle fun _ _=>rfl).own fun b hb=>.inr ⟨hb,.inr hb⟩⟩,sep:=hsep }
 have hH:Ac k (rows0.map fun p=>(AV.own p.1,m0 p.1)):=by
  intro p hp
  exact (hrep.held p hp).ids
 refine wp_mono (h w _ _ _ w hH ⟨_,hrep⟩) ?_
 rintro e a w' ⟨s',hq,hr⟩
 have fin:kT P w ⟨fun b=>T b∨g b,g⟩ k res out rows s'→a.defers=[]∧∃ v,(results fn a.tmps).run P w'=.ok v w'∧∃ v',Ending.returned v=.returned v'∧aZ g w w'∧∃ m N,(∀ i,i<k→m i=m0 i)∧k≤N ∧
   Rv ⟨w',allow ⟨fun b=>T b∨g b,g⟩ w.heap.size m rows,m,N⟩ out v' ∧
   (∀ i it,lk rows i=some it→i<N∧aS ⟨w',allow ⟨fun b=>T b∨g b,g⟩ w.heap.size m rows,m,N⟩ (ownB ⟨fun b=>T b∨g b,g⟩ w.heap.size) (m i) it) ∧
   (∀ i j it jt b,lk rows i=some it→lk rows j=some jt→blk (m i)=some b→blk (m j)=some b→i=j):=by
  intro hret
  obtain ⟨v,hv,m,N,hkN,hheld,hout,hit,hsp⟩:=hret _ a w' hH hr
  obtain ⟨m',hm⟩:=hr
  refine ⟨hm.nodef,v,hv fn hres,v,rfl,hm.below.mono fun b hb=>hb.1,m,N,fun i hi=>?_,hkN,hout,hit,hsp⟩
  obtain ⟨it,hi'⟩:=hcov i hi
  have:=hheld (.own i,m0 i) (List.mem_map.2 ⟨(i,it),dI hi',rfl⟩)
  generalize hmi:m0 i=mi at this
  cases this
  rfl
 cases e with
 | normal=>exact fin hq
 | ret=>exact fin hq
 | _=>exact hq.elim
theorem iC.aJ {f:Nat} {fn:Func} {c:Code} {args:List AV} {rows0:List (Nat × Item)} {k:Nat} {out:AV} {rows:List (Nat × Item)} (hf:P.funcs[f]?=some fn) (hb:fn.body=some c)
  (hnm:(fn.name == "runtime.NumGoroutine")=false) (hn:args.length≤fn.ntmps) (hcov:∀ j,j<k→∃ it,lk rows0 j=some it) (res:List ResultVar) (hres:fn.results=res.toArray)
  (h:∀ (w0:World) (T0:Bs) [rQ P w0 T0],iR P w0 T0 k c (Xh P w0 T0 k res out rows) ⟨fn.ntmps,aB 0 args,rows0,k⟩):iC P f args rows0 k out rows:=
 .of_run hf hb hnm hn hcov res hres fun w0 T0=>.of (h w0 T0)
/-! ### The call -/
def pK (ids:List Nat) (next:Nat) (j:Nat):Nat:=match ids[j]? with|some i=>i|none=>next+(j - ids.length)
def qU (p:Nat→Nat):List (Nat × Item)→List (Nat × Item)
 | []=>[]
 |(i,it)::l=>(p i,it.ren p)::qU p l
def FZ {α:Type}:List (Nat × α)→List Nat→List (Nat × α)
 | l,[]=>l
 | l,i::is=>FZ (del l i) is
theorem OG {α:Type}:∀ (is:List Nat) (l:List (Nat × α)) (j:Nat),lk (FZ l is) j=if j∈is then none else lk l j
 | [],l,j=>by simp [FZ]
 | i::is,l,j=>by
  simp only [FZ]
  rw [OG is,pW]
  by_cases h1:j∈is
  ·simp [h1]
  ·by_cases h2:j=i<;>simp [h1,h2]
def S.V9 (s:S) (ids:List Nat) (N:Nat) (rows:List (Nat × Item)):S:={ s with rows:=qU (pK ids s.next) rows++FZ s.rows ids,next:=s.next+(N - ids.length) }
theorem vZ {p:Nat→Nat} {S:Nat→Prop} (hp:∀ i j,S i→S j→p i=p j→i=j):∀ {l:List (Nat × Item)},(∀ x,x∈l→S x.1)→∀ {i:Nat} {it:Item},lk (qU p l) i=some it→∃ j jt,i=p j∧lk l j=some jt∧it=jt.ren p
 |(j,jt)::l,hS,i,it,h=>by
  simp only [qU,lk] at h
  split at h
  ·rename_i e;cases h;exact ⟨j,jt,e.symm,by simp [lk],rfl⟩
  ·rename_i e
   obtain ⟨q,qt,h1,h2,h3⟩:=vZ hp (fun x hx=>hS x (.tail _ hx)) h
   refine ⟨q,qt,h1,?_,h3⟩
   simp only [lk];rw [if_neg (fun e'=>e (by rw [h1,e']))];exact h2
theorem Ql:∀ {l:List Nat} {i j a:Nat},l.Nodup→l[i]?=some a→l[j]?=some a→i=j:=by
 intro l i j a hd hi hj
 exact (List.getElem?_inj (List.getElem?_eq_some_iff.1 hi).1 hd).1 (hi.trans hj.symm)
def ZO (ids:List Nat) (next:Nat) (rows0:List (Nat × Item)) (m:Nat→Value) (b:Nat):Prop:=∃ j it,lk rows0 j=some it∧blk (m (pK ids next j))=some b
def Xz (w:World) (T g:Nat→Prop) (m0:Nat→Value) (k:Nat) (out:AV) (rows:List (Nat × Item)) (e:Ending) (w':World):Prop:=
 ∃ v,e=.returned v∧aZ g w w'∧∃ m N,(∀ i,i<k→m i=m0 i)∧k≤N ∧
   Rv ⟨w',allow ⟨fun b=>T b∨g b,g⟩ w.heap.size m rows,m,N⟩ out v ∧
   (∀ i it,lk rows i=some it→i<N∧aS ⟨w',allow ⟨fun b=>T b∨g b,g⟩ w.heap.size m rows,m,N⟩ (ownB ⟨fun b=>T b∨g b,g⟩ w.heap.size) (m i) it) ∧
   (∀ i j it jt b,lk rows i=some it→lk rows j=some jt→blk (m i)=some b→blk (m j)=some b→i=j)
theorem ah.X9 [hgb:rQ P w0 T0] {f:Nat} {args:List AV} {rows0:List (Nat × Item)} {out:AV} {rows:List (Nat × Item)} {s:S} {K:AV→S→Prop} (ids:List Nat) (hE:Enter P f) (hd:ids.Nodup)
  (hcall:∀ (H:List (AV × Value)) (a:Act) (w:World) (m:Nat→Value) (vals:List Value),aV w0 T0 H s a w m→cO (au T0 w0.heap.size m s w) args vals →
   Fz w (allow T0 w0.heap.size m s.rows) (ZO ids s.next rows0 m) (fun j=>m (pK ids s.next j)) ids.length rows0→(∀ (b:Nat) (q:GK),U7 P b=some q→¬ZO ids s.next rows0 m b) →
   Calls P f vals.toArray w (Xz w (allow T0 w0.heap.size m s.rows) (ZO ids s.next rows0 m) (fun j=>m (pK ids s.next j)) ids.length out rows))
  (h0:mQ (pK ids s.next) s.rows ids.length rows0) (hcov:∀ j,j<ids.length→∃ it,lk rows0 j=some it) (N:Nat) (hkN:ids.length≤N) (hN:Fv.below N out=true) (hNr:iq N rows)
  (hk:K (ren (pK ids s.next) out) (s.V9 ids N rows)):@ah P w0 T0 f args s ⟨K⟩:=by
 refine ⟨hE,fun H a w m vals hm hv=>?_⟩
 have hp1:∀ j,j<ids.length→∃ i,ids[j]?=some i∧pK ids s.next j=i:=fun j hj=>⟨ids[j],List.getElem?_eq_getElem hj,by simp [pK,List.getElem?_eq_getElem hj]⟩
 have hp2:∀ j,ids.length≤j→pK ids s.next j=s.next+(j - ids.length):=fun j hj=>by simp [pK,List.getElem?_eq_none hj]
 have h0':∀ j it,lk rows0 j=some it→j<ids.length∧lk s.rows (pK ids s.next j)=some (it.ren (pK ids s.next))∧it.below ids.length=true:=fun j it hj=>dM h0 j it (dI hj)
 have hmem:∀ i,i∈ids→∃ j it,j<ids.length∧pK ids s.next j=i∧lk rows0 j=some it:=by
  intro i hi
  obtain ⟨j,hj,e⟩:=List.getElem_of_mem hi
  obtain ⟨it,hit⟩:=hcov j hj
  exact ⟨j,it,hj,by simp [pK,List.getElem?_eq_getElem hj,e],hit⟩
 have hsrc:∀ j,j<ids.length→pK ids s.next j<s.next:=fun j hj=>by
  obtain ⟨it,hit⟩:=hcov j hj
  exact (hm.rows _ _ (h0' j it hit).2.1).1
 have hinj:∀ i j,pK ids s.next i=pK ids s.next j→i=j:=by
  intro i j e
  by_cases hi:i<ids.length<;>by_cases hj:j<ids.length
  ·obtain ⟨x,hx,ex⟩:=hp1 i hi
   obtain ⟨y,hy,ey⟩:=hp1 j hj
   rw [ex,ey] at e;subst e
   exact Ql hd hx hy
  ·have:=hsrc i hi;rw [e,hp2 j (by omega)] at this;omega
  ·have:=hsrc j hj;rw [←e,hp2 i (by omega)] at this;omega
  ·rw [hp2 i (by omega),hp2 j (by omega)] at e;omega
 let T:Nat→Prop:=allow T0 w0.heap.size m s.rows
 let g:Nat→Prop:=fun b=>∃ j it,lk rows0 j=some it∧blk (m (pK ids s.next j))=some b
 let m0:Nat→Value:=fun j=>m (pK ids s.next j)
 have hctx:kS (pK ids s.next) (au T0 w0.heap.size m s w) ⟨w,T,m0,ids.length⟩:=⟨fun _ _=>rfl,fun b hb _=>⟨hb,rfl⟩⟩
 have hown:∀ i it,lk s.rows i=some it→∀ b,blk (m i)=some b→ownB T0 w0.heap.size b∧b<w.heap.size:=fun i it hi b hb=>(hm.rows i it hi).2.blk b hb
 have hG:Fz w T g m0 ids.length rows0:=by
  refine ⟨fun j it hj=>?_,fun i j it jt b hi hj hbi hbj=>?_,fun b hb hg=>?_⟩
  ·obtain ⟨h1,h2,h3⟩:=h0' j it hj
   refine ⟨h1,(aS.ren hctx rfl h3 (hm.rows _ _ h2).2).XI fun b hb=>⟨j,it,hj,hb⟩⟩
  ·obtain ⟨_,h2,_⟩:=h0' i it hi
   obtain ⟨_,h2',_⟩:=h0' j jt hj
   exact hinj i j (hm.sep _ _ _ _ b h2 h2' hbi hbj)
  ·obtain ⟨j,it,hj,hbj⟩:=hg
   exact hb.2 _ _ (h0' j it hj).2.1 hbj
 have hgg:∀ (b:Nat) (q:GK),U7 P b=some q→¬g b:=by
  rintro b q hq ⟨j,it,hj,hb⟩
  obtain ⟨ob,hh,_⟩:=hgb.ok b q hq
  have hlt:=(Array.getElem?_eq_some_iff.1 hh).1
  rcases (hown _ _ (h0' j it hj).2.1 b hb).1 with h|h
  ·omega
  ·exact hgb.ng b q hq h
 refine (hcall H a w m vals hm hv hG hgg).mono ?_
 rintro e w' ⟨v,rfl,hbel,mo,No,hmo,hkNo,hout,hrows,hsep⟩
 refine ⟨v,rfl,_,_,hk,?_⟩
 have hgs:∀ b,g b→(∃ i it,lk s.rows i=some it∧blk (m i)=some b):=fun b ⟨j,it,hj,hb⟩=>⟨_,_,(h0' j it hj).2.1,hb⟩
 have hNr':=wI hNr
 have hitem:∀ i it,lk rows i=some it→aS ⟨w',allow ⟨fun b=>T b∨g b,g⟩ w.heap.size mo rows,mo,N⟩ (ownB ⟨fun b=>T b∨g b,g⟩ w.heap.size) (mo i) it:=fun i it hi=>((hrows i it hi).2).cut (hNr' i it hi).2
 let m2:Nat→Value:=fun i=>if i<s.next then m i else mo (ids.length+(i - s.next))
 have hm2:∀ i,i<s.next→m2 i=m i:=fun i hi=>if_pos hi
 have hm3:∀ j,m2 (pK ids s.next j)=mo j:=fun j=>by
  by_cases hj:j<ids.length
  ·rw [hm2 _ (hsrc j hj)];exact (hmo j hj).symm
  ·rw [hp2 j (by omega)]
   show (if s.next+(j - ids.length)<s.next then _ else _)=_
   rw [if_neg (by omega)];congr 1;omega
 have hlt:∀ i it,lk s.rows i=some it→i<s.next:=fun i it hi=>(hm.rows i it hi).1
 have hrest:∀ i it,lk (FZ s.rows ids) i=some it→i∉ids∧lk s.rows i=some it:=by
  intro i it hi
  rw [OG] at hi
  split at hi
  ·cases hi
  ·rename_i e;exact ⟨e,hi⟩
 have hcases:∀ i it,lk (s.V9 ids N rows).rows i=some it→(∃ j jt,i=pK ids s.next j∧lk rows j=some jt∧it=jt.ren (pK ids s.next))∨(i∉ids∧lk s.rows i=some it):=by
  intro i it hi
  have hi':lk (qU (pK ids s.next) rows++FZ s.rows ids) i=some it:=hi
  rw [xU] at hi'
  cases hq:lk (qU (pK ids s.next) rows) i with
  | some y=>
   rw [hq] at hi';cases hi'
   exact .inl (vZ (S:=fun _=>True) (fun i j _ _ e=>hinj i j e) (fun _ _=>trivial) hq)
  | none=>rw [hq] at hi';exact .inr (hrest i it hi')
 have hnotg:∀ i it,i∉ids→lk s.rows i=some it→∀ b,blk (m i)=some b→¬g b:=by
  rintro i it hni hi b hb ⟨j,jt,hj,hbj⟩
  obtain ⟨h1,h2,_⟩:=h0' j jt hj
  have:=hm.sep _ _ _ _ b hi h2 hb hbj
  obtain ⟨x,hx,ex⟩:=hp1 j h1
  exact hni (by rw [this,ex];exact List.mem_of_getElem? hx)
 have hnewB:∀ j jt,lk rows j=some jt→∀ b,blk (mo j)=some b→w.heap.size≤b∨g b:=fun j jt hj b hbl=>(((hrows j jt hj).2.blk b hbl).1).imp id (·.1)
 have hle:cZ (au T0 w0.heap.size m s w) (au T0 w0.heap.size m2 (s.V9 ids N rows) w'):=by
  refine ⟨Nat.le_add_right _ _,hm2,?_⟩
  intro b hb hltb
  have hbg:¬g b:=fun hg=>by
   obtain ⟨i,it,hi,hbi⟩:=hgs b hg
   exact hb.2 i it hi hbi
  refine ⟨⟨hb.1,fun i it hi e=>?_⟩,hbel.block b hltb hbg⟩
  rcases hcases i it hi with ⟨j,jt,rfl,hj,_⟩|⟨hni,hi'⟩
  ·rw [hm3] at e
   rcases hnewB j jt hj b e with h|h
   ·have hlt2:b<w.heap.size:=hltb;omega
   ·exact hbg h
  ·rw [hm2 i (hlt i it hi')] at e;exact hb.2 i it hi' e
 have hsh:yI (pK ids s.next) (⟨w',allow ⟨fun b=>T b∨g b,g⟩ w.heap.size mo rows,mo,N⟩:Ctx) (au T0 w0.heap.size m2 (s.V9 ids N rows) w'):=by
  refine ⟨fun i hi=>?_,fun i _=>hm3 i,?_⟩
  ·show pK ids s.next i<s.next+(N - ids.length)
   by_cases hj:i<ids.length
   ·have:=hsrc i hj;omega
   ·rw [hp2 i (by omega)];have:i<N:=hi;omega
  intro b ⟨h1,h2⟩ _
  have hlt0:=hm.lt
  have hb1:w0.heap.size≤b∨T0.a b:=by
   rcases h1 with h1|h1|h1
   ·exact .inl (by omega)
   ·exact h1.1
   ·obtain ⟨i,it,hi,hbi⟩:=hgs b h1
    exact ((hown i it hi b hbi).1).imp id (·.2)
  refine ⟨⟨hb1,fun i it hi e=>?_⟩,rfl⟩
  rcases hcases i it hi with ⟨j,jt,rfl,hj,_⟩|⟨hni,hi'⟩
  ·rw [hm3] at e;exact h2 j jt hj e
  ·rw [hm2 i (hlt i it hi')] at e
   rcases h1 with h1|h1|h1
   ·have:=(hown i it hi' b e).2;omega
   ·exact h1.2 i it hi' e
   ·exact hnotg i it hni hi' b e h1
 have hOO:∀ b,ownB ⟨fun b=>T b∨g b,g⟩ w.heap.size b→ownB T0 w0.heap.size b:=fun b hb=>by
  rcases hb with hb|hb
  ·exact .inl (Nat.le_trans hm.lt hb)
  ·obtain ⟨i,it,hi,hbi⟩:=hgs b hb.1
   exact (hown i it hi b hbi).1
 refine ⟨m2,aV.hold (s:=s.V9 ids N rows) ?_ ((hout.cut hN).shift hsh)⟩
 refine { size:=hm.size,nodef:=hm.nodef,below:=?_,env:=fun r u hu=>(hm.env r u hu).mono hle,held:=fun q hq=>(hm.held q hq).mono hle,rows:=?_,sep:=?_ }
 ·refine hm.below.step hbel.os hbel.tape hbel.output hbel.size (fun b hb hn=>hbel.block b (Nat.lt_of_lt_of_le hb hm.lt) fun hg=>?_) hbel.drawn
  obtain ⟨i,it,hi,hbi⟩:=hgs b hg
  rcases (hown i it hi b hbi).1 with h|h
  ·omega
  ·exact hn h
 ·intro i it hi
  rcases hcases i it hi with ⟨j,jt,rfl,hj,rfl⟩|⟨hni,hi'⟩
  ·refine ⟨hsh.n j (hNr' j jt hj).1,?_⟩
   rw [hm3]
   exact (hitem j jt hj).shift hsh rfl hOO
  ·have hl:=hlt i it hi'
   refine ⟨by show i<s.next+_;omega,?_⟩
   rw [hm2 i hl]
   exact ((hm.rows i it hi').2).mono hle fun b hbl=>hbel.block b ((hown i it hi' b hbl).2) (hnotg i it hni hi' b hbl)
 ·intro i j it jt b hi hj hbi hbj
  rcases hcases i it hi with ⟨i',it',rfl,hi',_⟩|⟨hni,hi'⟩<;>rcases hcases j jt hj with ⟨j',jt',rfl,hj',_⟩|⟨hnj,hj'⟩
  ·rw [hm3] at hbi hbj
   rw [hsep i' j' it' jt' b hi' hj' hbi hbj]
  ·rw [hm3] at hbi;rw [hm2 j (hlt j jt hj')] at hbj
   have h5:=(hown j jt hj' b hbj).2
   rcases hnewB i' it' hi' b hbi with h|h
   ·omega
   ·exact absurd h (hnotg j jt hnj hj' b hbj)
  ·rw [hm3] at hbj;rw [hm2 i (hlt i it hi')] at hbi
   have h5:=(hown i it hi' b hbi).2
   rcases hnewB j' jt' hj' b hbj with h|h
   ·omega
   ·exact absurd h (hnotg i it hni hi' b hbi)
  ·rw [hm2 i (hlt i it hi')] at hbi;rw [hm2 j (hlt j jt hj')] at hbj
   exact hm.sep i j it jt b hi' hj' hbi hbj
theorem ah.io [hgb:rQ P w0 T0] {f:Nat} {args args':List AV} {rows0:List (Nat × Item)} {out:AV} {rows:List (Nat × Item)} {s:S} {K:AV→S→Prop} (ids:List Nat) (h:iC P f args' rows0 ids.length out rows) (hd:ids.Nodup)
  (ha:args=gG (pK ids s.next) args') (hab:aK ids.length args'=true) (h0:mQ (pK ids s.next) s.rows ids.length rows0) (hcov:∀ j,j<ids.length→∃ it,lk rows0 j=some it) (N:Nat) (hkN:ids.length≤N) (hN:Fv.below N out=true) (hNr:iq N rows)
  (hk:K (ren (pK ids s.next) out) (s.V9 ids N rows)):@ah P w0 T0 f args s ⟨K⟩:=by
 subst ha
 exact ah.X9 ids h.1 hd (fun H a w m vals hm hv hG hgg=>by
  have hctx:kS (pK ids s.next) (au T0 w0.heap.size m s w) ⟨w,allow T0 w0.heap.size m s.rows,fun j=>m (pK ids s.next j),ids.length⟩:=⟨fun _ _=>rfl,fun b hb _=>⟨hb,rfl⟩⟩
  exact h.2 w _ _ _ vals hG (rQ.at hm) hgg (cO.ren hctx args' hab hv)) h0 hcov N hkN hN hNr hk
theorem aS.lD {w:World} {T T':Nat→Prop} {m:Nat→Value} {N:Nat} {O:Nat→Prop} {v:Value} {it:Item} (ho:aS ⟨w,T,m,N⟩ O v it) (hn:jy it=true):aS ⟨w,T',m,N⟩ O v it:=by
 cases it with
 | row e r=>obtain ⟨n,cells,hc,hq⟩:=ho;exact ⟨n,cells,hc.lD hn,hq⟩
 | box e cs=>obtain ⟨g,vs,hv',hg,hl,hq⟩:=ho;exact ⟨g,vs,hv',hg,hl.lD hn,hq⟩
 | map ks vs=>
  simp only [jy,Bool.and_eq_true] at hn
  obtain ⟨g,es,clock,hv',hg,h1,h2,h3,h4,hq⟩:=ho;exact ⟨g,es,clock,hv',hg,h1.lD hn.1,h2.lD hn.2,h3,h4,hq⟩
 | iter mp since seen=>exact ho
 | siter t pos=>exact ho
end
end Go.Fv
/-
 What stands for families where they are lent; the end of a function whose results are only read.
-/
namespace Go.Fv
open Go.RowKit
/-! ### The same names -/
def Oj (s:S) (N:Nat):List (Nat × AV)→Prop
 | []=>True
 |(r,v)::l=>(s.get r=v∧Fv.below N v=true)∧Oj s N l
def GN (rows:List (Nat × Item)) (N:Nat):List (Nat × Item)→Prop
 | []=>True
 |(i,it)::l=>(i<N∧lk rows i=some it∧it.below N=true)∧GN rows N l
theorem I7 {s:S} {N:Nat}:∀ {l:List (Nat × AV)},Oj s N l→yQ id s N l
 | [],_=>trivial
 |(r,v)::l,h=>⟨⟨by rw [kE (p:=id) (b0:=N) (fun _ _=>rfl) v h.1.2];exact h.1.1,h.1.2⟩,I7 h.2⟩
theorem EY {rows:List (Nat × Item)} {N:Nat}:∀ {l:List (Nat × Item)},GN rows N l→∀ i it,lk l i=some it→i<N∧lk rows i=some it∧it.below N=true
 |(j,jt)::l,h,i,it,hi=>by
  simp only [lk] at hi
  split at hi
  ·rename_i e;subst e;cases hi;exact h.1
  ·exact EY h.2 i it hi
theorem aO.same {w0:World} {T0:Bs} {b0:Nat} {s s':S} (hn:s'.n=s.n) (hb:b0≤s'.next) (he:Oj s s'.next s'.env) (hr:GN s.rows s'.next s'.rows):aO w0 T0 b0 s s':=
 aO.ofF id hn hb (fun _ _=>rfl) (I7 he) (fun i it hi=>by
  obtain ⟨h1,h2,h3⟩:=EY hr i it hi
  exact ⟨h1,by rw [Item.kE (p:=id) (b0:=s'.next) (fun _ _=>rfl) it h3];exact h2,h3⟩) (fun i j _ _ _ _ e=>e)
attribute [go_sem] Oj GN
section
variable {P:Program} {w0:World} {T0:Bs}
theorem bf.ro {res:List ResultVar} {out:AV} {s:S} (h:yg P s res (fun vs=>fK s.rows (lg vs) out)):bf P w0 T0 res out [] s:=by
 rintro a w ⟨m,hm⟩
 obtain ⟨vs,us,he,hrun,hvs⟩:=rE hm h
 have hrv:Rv (au T0 w0.heap.size m s w) (lg vs) (Ns us):=by
  cases hvs with
  | nil=>exact .tup _ _ .nil
  | cons x v l us hx ht=>
   cases ht with
   | nil=>exact hx
   | cons x' v' l' us' hx' ht'=>exact .tup _ _ (.cons _ _ _ _ hx (.cons _ _ _ _ hx' ht'))
 have hal:∀ b,ownB T0 w0.heap.size b→allow T0 w0.heap.size (fun _=>undef) [] b:=fun b hb=>⟨hb.imp id (·.2),fun i it hi=>by simp [lk] at hi⟩
 have hl:Dq w (au T0 w0.heap.size m s w) s.rows (allow T0 w0.heap.size (fun _=>undef) []):=
  {hw:=rfl,t:=fun b hb=>⟨hb.1,fun i it hi=>by simp [lk] at hi⟩,
   own:=fun i e r hi=>by
    obtain ⟨n,cells,hc,hn,hq,hO⟩:=(hm.rows i _ hi).2
    exact ⟨fun b hb=>hal b (hO b hb),n,cells,hc,hn,hq⟩,
   box:=fun i e cs hi=>by
    obtain ⟨g,vs,hv,hg,hl,hh⟩:=(hm.rows i _ hi).2
    exact ⟨g,vs,hv,hal g hg,hl,hh⟩,
   map:=fun i ks vs hi=>by
    obtain ⟨g,es,clock,hv,hg,h1,h2,h3,h4,hh⟩:=(hm.rows i _ hi).2
    exact ⟨g,es,clock,hv,hal g hg,h1,h2,h3,h4,hh⟩ }
 refine ⟨_,fun fn hf=>lJ hf a.tmps hrun,fun _=>undef,0,?_,fun i it hi=>by simp [lk] at hi,fun i j it jt b hi=>by simp [lk] at hi⟩
 generalize lg vs=x at he hrv
 generalize hus:Ns us=u at hrv
 unfold fK at he
 split at he
 ·obtain ⟨l',ha,rfl⟩:=he
  cases hrv with
  | tup _ us' hv'=>exact .tup _ _ (nY hl _ ha hv')
 ·exact xA hl 6 _ he hrv
end
end Go.Fv
/-
 Steps of a walk that pay their side conditions by themselves.
-/
namespace Go.Fv
theorem aW.g {p K:Prop} (k:K) (h:p:=by first|omega|(with_reducible refine aW.intro ?_ ?_<;>omega)|(simp;done)|(simp;omega)):aW p K:=⟨h,k⟩
theorem bZ.g {e:Int} {K:Int→Prop} (kk:K e) (h1:-9223372036854775808≤e:=by omega) (h2:e≤9223372036854775807:=by omega):bZ .i64 e K:=bZ.i64 h1 h2 kk
theorem bZ.h {e:Int} {K:Int→Prop} (kk:K e) (h1:0≤e:=by omega) (h2:e≤255:=by omega):bZ .u8 e K:=bZ.u8 h1 h2 kk
theorem Ite.t {p:Prop} [Decidable p] {x y:Prop} (k:p→x) (h:¬p→False:=by (intro _;omega)):@Ite (Decidable.decide p) ⟨x⟩ ⟨y⟩:=Ite.decide k fun h'=>(h h').elim
theorem Ite.f {p:Prop} [Decidable p] {x y:Prop} (k:¬p→y) (h:p→False:=by (intro _;omega)):@Ite (Decidable.decide p) ⟨x⟩ ⟨y⟩:=Ite.decide (fun h'=>(h h').elim) k
class Stp (p:Prop) (q:outParam Prop):Prop where
 go:q→p
instance {p K:Prop}:Stp (yH p K) (p→K):=⟨yH.intro⟩
instance {K:Int→Prop}:Stp (@KO .i64 ⟨K⟩) (∀ n,(-9223372036854775808≤n∧n≤9223372036854775807)→K n):=⟨KO.i64⟩
instance (priority:=900) {b:Bool} {x y:Prop}:Stp (@Ite b ⟨x⟩ ⟨y⟩) ((b=true→x)∧(b=false→y)):=⟨fun h=>Ite.bool h.1 h.2⟩
instance {p:Prop} [Decidable p] {x y:Prop}:Stp (@Ite (Decidable.decide p) ⟨x⟩ ⟨y⟩) ((p→x)∧(¬p→y)):=⟨fun h=>Ite.decide h.1 h.2⟩
theorem rs {p q:Prop} [h:Stp p q] (k:q):p:=h.go k
theorem rc {p K:Prop} (k:K) (h:p:=by first|omega|(with_reducible refine aW.intro ?_ ?_<;>omega)|(simp;done)|(simp;omega)):aW p K:=⟨h,k⟩
theorem rl {e:Int} {K:Int→Prop} (k:K e) (h1:-9223372036854775808≤e:=by omega) (h2:e≤9223372036854775807:=by omega):bZ .i64 e K:=bZ.i64 h1 h2 k
theorem rh {e:Int} {K:Int→Prop} (k:K e) (h1:0≤e:=by omega) (h2:e≤255:=by omega):bZ .u8 e K:=bZ.u8 h1 h2 k
theorem rt {p:Prop} [Decidable p] {x y:Prop} (k:p→x) (h:¬p→False:=by (intro _;omega)):@Ite (Decidable.decide p) ⟨x⟩ ⟨y⟩:=Ite.decide k fun h'=>(h h').elim
theorem rf {p:Prop} [Decidable p] {x y:Prop} (k:¬p→y) (h:p→False:=by (intro _;omega)):@Ite (Decidable.decide p) ⟨x⟩ ⟨y⟩:=Ite.decide (fun h'=>(h h').elim) k
theorem ru {k:IntKind} {e:Int} {K:Int→Prop} (kk:K e) (h:(k=.u64∧0≤e∧e≤18446744073709551615)∨(k=.u32∧0≤e∧e≤4294967295)∨(k=.i32∧-2147483648≤e∧e≤2147483647):=by
  first|(refine Or.inl ⟨rfl,?_,?_⟩<;>omega)|(refine Or.inr (Or.inl ⟨rfl,?_,?_⟩)<;>omega)|(refine Or.inr (Or.inr ⟨rfl,?_,?_⟩)<;>omega)):bZ k e K:=by
 rcases h with ⟨rfl,h1,h2⟩|⟨rfl,h1,h2⟩|⟨rfl,h1,h2⟩
 ·exact bZ.X7 (lu.2 ⟨h1,h2⟩) kk
 ·exact bZ.X7 (FI.2 ⟨h1,h2⟩) kk
 ·exact bZ.X7 (FC.2 ⟨h1,h2⟩) kk
theorem rz {P Q:Prop} (q:Q) (h:Q→P:=by first|exact fun k=>rc k|exact fun k=>rl k|exact fun k=>rh k|exact fun k=>ru k|exact fun k=>rt k|exact fun k=>rf k|exact fun k=>rs k):P:=h q
theorem ry {P Q:Prop} (q:Q) (h:Q→P:=by first|exact fun k=>rc k|exact fun k=>rl k|exact fun k=>rh k|exact fun k=>rt k|exact fun k=>rf k|exact fun k=>rs k):P:=h q
structure Dn:Prop where
theorem dn:Dn:=⟨⟩
theorem rn {P Q:Prop} (q:Q) (h:Q→P:=by first|exact fun k=>rc k|exact fun k=>rl k|exact fun k=>rh k|exact fun k=>ru k|exact fun k=>rt k|exact fun k=>rf k|exact fun k=>rs k|(refine fun _:Dn=>?_;omega)|(intro q;simp (maxSteps:=1000000) only [go_sem];exact q)|(refine fun _:Dn=>?_;simp (maxSteps:=1000000) only [go_sem];done)):P:=h q
theorem ra {p q:Prop} (a:p) (b:q):p∧q:=⟨a,b⟩
theorem bZ.at {k:IntKind} {e:Int} {K:Int→Prop} (m:Int) (h:k.wrap e=m) (kk:K m):bZ k e K:=fun n hn _=>by rw [hn,h];exact kk
theorem ah.k {P:Program} {w0:World} {T0:Bs} [hG:rQ P w0 T0] {f:Nat} {args args':List AV} {out:AV} {s:S} {K:AV→S→Prop} (h:aC P f args' out []) (hk:K (ren (fun j=>s.next+j) out) (s.after s.rows 0 []))
  (h1:oK out=true:=by rfl) (h2:Fv.below 0 out=true:=by rfl) (ha:aU s.rows args args':=by
   simp only [aT,aU,dO,bD,aH,List.drop_zero,lk,reduceIte,reduceCtorEq,Nat.reduceEqDiff,Option.some.injEq,Item.row.injEq,Item.box.injEq,AV.ro.injEq,exists_eq_left,exists_and_left,exists_eq_left',exists_eq_right,and_assoc,and_true,true_and,List.cons.injEq,exists_eq',exists_eq]) :
  @ah P w0 T0 f args s ⟨K⟩:=ah.fr (dG.gJ h h1 rfl) ha 0 h2 trivial hk
theorem ah.f {P:Program} {w0:World} {T0:Bs} [hG:rQ P w0 T0] {f:Nat} {args args':List AV} {out:AV} {rows:List (Nat × Item)} {s:S} {K:AV→S→Prop} (h:dG P f args' out rows) (N:Nat) (hk:K (ren (fun j=>s.next+j) out) (s.after s.rows N rows))
  (hN:Fv.below N out=true:=by rfl) (hNr:iq N rows:=by simp [iq,Item.below,Fv.below,aK,iU]) (ha:aU s.rows args args':=by
   simp only [aT,aU,dO,bD,aH,List.drop_zero,lk,reduceIte,reduceCtorEq,Nat.reduceEqDiff,Option.some.injEq,Item.row.injEq,Item.box.injEq,AV.ro.injEq,exists_eq_left,exists_and_left,exists_eq_left',exists_eq_right,and_assoc,and_true,true_and,List.cons.injEq,exists_eq',exists_eq]) :
  @ah P w0 T0 f args s ⟨K⟩:=ah.fr h ha N hN hNr hk
theorem ah.o {P:Program} {w0:World} {T0:Bs} [hG:rQ P w0 T0] {f:Nat} {args args':List AV} {out:AV} {rows:List (Nat × Item)} {s:S} {K:AV→S→Prop} (h:aC P f args' out rows) (N:Nat) (hk:K (ren (fun j=>s.next+j) out) (s.after s.rows N rows))
  (h1:oK out=true:=by rfl) (h2:jB rows=true:=by rfl) (hN:Fv.below N out=true:=by rfl) (hNr:iq N rows:=by simp [iq,Item.below,Fv.below,aK,iU]) (ha:aU s.rows args args':=by
   simp only [aT,aU,dO,bD,aH,List.drop_zero,lk,reduceIte,reduceCtorEq,Nat.reduceEqDiff,Option.some.injEq,Item.row.injEq,Item.box.injEq,AV.ro.injEq,exists_eq_left,exists_and_left,exists_eq_left',exists_eq_right,and_assoc,and_true,true_and,List.cons.injEq,exists_eq',exists_eq]) :
  @ah P w0 T0 f args s ⟨K⟩:=ah.fr (dG.gJ h h1 h2) ha N hN hNr hk
theorem cv1 {a:Item}:∀ j,j<1→∃ it,lk [(0,a)] j=some it:=fun j hj=>by
 obtain rfl:j=0:=by omega
 exact ⟨a,rfl⟩
theorem cv2 {a b:Item}:∀ j,j<2→∃ it,lk [(0,a),(1,b)] j=some it:=fun j hj=>by
 rcases j with _|_|j
 ·exact ⟨a,rfl⟩
 ·exact ⟨b,rfl⟩
 ·omega
theorem cv3 {a b c:Item}:∀ j,j<3→∃ it,lk [(0,a),(1,b),(2,c)] j=some it:=fun j hj=>by
 rcases j with _|_|_|j
 ·exact ⟨a,rfl⟩
 ·exact ⟨b,rfl⟩
 ·exact ⟨c,rfl⟩
 ·omega
theorem cv4 {a b c d:Item}:∀ j,j<4→∃ it,lk [(0,a),(1,b),(2,c),(3,d)] j=some it:=fun j hj=>by
 rcases j with _|_|_|_|j
 ·exact ⟨a,rfl⟩
 ·exact ⟨b,rfl⟩
 ·exact ⟨c,rfl⟩
 ·exact ⟨d,rfl⟩
 ·omega
theorem ah.i {P:Program} {w0:World} {T0:Bs} [hgb:rQ P w0 T0] {f:Nat} {args args':List AV} {rows0:List (Nat × Item)} {out:AV} {rows:List (Nat × Item)} {s:S} {K:AV→S→Prop} (ids:List Nat) (h:iC P f args' rows0 ids.length out rows) (N:Nat) (hk:K (ren (pK ids s.next) out) (s.V9 ids N rows))
  (hd:ids.Nodup:=by decide) (ha:args=gG (pK ids s.next) args':=by simp [gG,ren,pK]) (hab:aK ids.length args'=true:=by rfl)
  (h0:mQ (pK ids s.next) s.rows ids.length rows0:=by simp [mQ,pK,lk,Item.ren,Item.below,ren,gG,aK,Fv.below,zO,iU])
  (hcov:∀ j,j<ids.length→∃ it,lk rows0 j=some it:=by first|exact cv1|exact cv2|exact cv3|exact cv4) (hkN:ids.length≤N:=by decide) (hN:Fv.below N out=true:=by rfl) (hNr:iq N rows:=by simp [iq,Item.below,Fv.below,aK,iU]) :
  @ah P w0 T0 f args s ⟨K⟩:=ah.io ids h hd ha hab h0 hcov N hkN hN hNr hk
attribute [go_sem] S.V9 qU pK FZ zO iU List.getElem?_nil Nat.sub_self List.getElem?_cons_zero List.getElem?_cons_succ
attribute [go_sem ↓] reduceIte
attribute [go_sem] Fin.reduceNatAdd Fin.isValue UInt8.reduceAdd reduceDIte Nat.reduceEqDiff Int.reduceNegSucc Nat.reduceOr Fin.reduceGT Nat.reducePow Fin.reduceCastSucc Fin.reduceOr Nat.reduceGT Nat.reduceBneDiff Fin.reduceCastLT Fin.reduceNe Nat.reduceSubDiff Fin.reduceGE Nat.reduceMod Nat.reduceXor Int.reduceGE Int.reduceBmod UInt8.reduceOfNat Fin.reduceMod Int.reduceToNat Fin.reduceAddNat Fin.reduceXor Fin.reduceAnd Int.reduceEq Int.reduceFDiv Nat.reduceAnd Fin.reduceSubNat UInt8.reduceGT Fin.reduceFinMk Nat.reduceShiftRight Int.reduceNatCast Int.reduceGT Int.reducePow Nat.reduceGcd Nat.reduceAdd Nat.reduceBNe Int.reduceDiv Int.reduceMul reduceCtorEq Nat.reduceDvd Int.reduceBEq Nat.reduceBeqDiff Fin.reduceOfNat UInt8.reduceMod Int.reduceTMod Int.reduceOfNat UInt8.reduceToNat Nat.reduceShiftLeft Fin.reduceLast Nat.reduceLeDiff Fin.reduceShiftLeft Int.reduceNe UInt8.reduceGE Fin.reduceCastLE Int.reduceSub Fin.reduceLE Int.reduceAbs Fin.reduceCastAdd Int.reduceLT Fin.reducePred Int.reduceNatCast' Nat.reduceSub Fin.reduceRev Int.reduceNeg Fin.reduceLT Fin.reduceShiftRight Fin.reduceEq UInt8.reduceOfNatLT Fin.reduceAdd Fin.reduceBNe Nat.reduceDiv Int.reduceBNe Int.reduceDvd Nat.reduceMul Int.reduceAdd Nat.reduceBEq Nat.reduceSucc Fin.reduceDiv Fin.reduceMul Fin.reduceBEq Fin.reduceSucc UInt8.reduceLT Int.reduceTDiv Int.reduceFMod UInt8.reduceSub Int.reduceBdiv UInt8.reduceLE Nat.reduceLT Fin.reduceSub Int.reduceLE Int.reduceMod UInt8.reduceDiv UInt8.reduceMul
end Go.Fv
/-
 What a row's first world gives of package-level integers.
-/
namespace Go.Fv
open Go.RowKit Go.ChangeShapes Go.WideShapes
def Xt (w:World) (P:Program) (g:Nat) (k:IntKind):Bool:=match (w.heap[g]?).bind Obj.row? with
 | some (zero,t)=>decide (zero.size=1) && P.buildable t && decide (P.cellTypes P.depth t=some [t]) && (match P.underlying t with|some (.int k')=>decide (k'=k)|_=>false)
 | none=>false
def Zh (P:Program):Bool:=(List.range P.globals.size).all fun g=>match AY P g with
 | some k=>Xt (begin P (fun _ _=>0) default).world P g k
 | none=>true
theorem tJ.MC {P:Program} {w:World} (hs:Zh P=true) (h:w.ShapedOpen P) (htab:∀ g,Kt P g=true→∃ ob,w.heap[g]?=some ob∧Xy .tab ob):tJ P w:=by
 suffices hI:∀ g k,AY P g=some k→∃ (n:Int) (t:TypeId),jg k n∧w.heap[g]?=some (.cells #[.int k n] t (0,0)) by
  intro g k hg
  unfold U7 at hg
  split at hg
  ·rename_i k' hk
   cases hg
   obtain ⟨n,t,h1,h2⟩:=hI g k' hk
   exact ⟨_,h2,n,t,h1,rfl⟩
  ·split at hg
   ·rename_i ht
    cases hg
    exact htab g ht
   ·cases hg
 intro g k hg
 have hlt:g<P.globals.size:=by
  by_cases hlt:g<P.globals.size
  ·exact hlt
  ·unfold AY at hg
   rw [Array.getElem?_eq_none (Nat.le_of_not_lt hlt)] at hg
   cases hg
 have h1:=List.all_eq_true.1 hs g (List.mem_range.2 hlt)
 rw [hg] at h1
 dsimp only at h1
 unfold Xt at h1
 split at h1
 ·rename_i zero t hz
  simp only [Bool.and_eq_true,decide_eq_true_eq] at h1
  obtain ⟨⟨⟨hz1,hb⟩,hc⟩,hu⟩:=h1
  have hu:P.underlying t=some (.int k):=by
   split at hu
   ·rename_i k' e;rw [e,of_decide_eq_true hu]
   ·cases hu
  obtain ⟨cs,hh,hsz,hr⟩:=h.1 g zero t hlt hz
  obtain ⟨ts,hts,_,hall⟩:=hr hb
  rw [hc] at hts
  cases hts
  have h1:0<cs.size:=by omega
  obtain ⟨u,hu',hok⟩:=hall 0 cs[0] (by simp [h1])
  have:u=t:=by simpa using hu'.symm
  subst this
  unfold Cell.ok at hok
  rw [hu] at hok
  have e:cs=#[cs[0]]:=by
   apply Array.ext
   ·simp;omega
   ·intro i h1 h2
    simp at h2
    subst h2;simp
  cases hv:cs[0]<;>rw [hv] at hok<;>simp at hok
  case int k' n=>
   obtain ⟨rfl,hk⟩:=hok
   refine ⟨n,u,?_,by rw [hh,e,hv]⟩
   exact hk
 ·cases h1
variable {H:Type} {enc:TypeId × Value→H}
end Go.Fv
/-
 What a row's laid table gives of math/bits.deBruijn64tab.
-/
namespace Go.Fv
open Go.RowKit Go.ChangeShapes Go.WideShapes
def WZ:DataW Unit:=Lib.tabData .u8 (Lib.deBruijn64tab.map Int.ofNat)
theorem Ku {P:Program} {W:World} {l:List (String × DataW Unit)} {g0:Nat} {t e:TypeId} (hl:(l.filter fun x=>x.1 == "math/bits.deBruijn64tab")=[("math/bits.deBruijn64tab", WZ)]) (hh:WZ.handleName?=none)
  (hg:P.globalNamed "math/bits.deBruijn64tab" = some g0) (hty:(P.globals[g0]?).map (·.type)=some t) (ht:P.underlying t=some (.array 64 e)) (he:P.underlying e=some (.int .u8)) (hce:P.cellsOf e=1) (hct:P.cellsOf t=64)
  (hu:((List.range P.globals.size).all fun g=>Kt P g == (g == g0))=true) (h:laidMetH P l W):∀ g,Kt P g=true→∃ ob,W.heap[g]?=some ob∧Xy .tab ob:=by
 intro g hgt
 have hlt:g<P.globals.size:=by
  by_cases hlt:g<P.globals.size
  ·exact hlt
  ·unfold Kt at hgt
   rw [Array.getElem?_eq_none (Nat.le_of_not_lt hlt)] at hgt
   cases hgt
 have h1:=List.all_eq_true.1 hu g (List.mem_range.2 hlt)
 rw [hgt] at h1
 obtain rfl:g=g0:=by simpa using h1
 have h2:=laidMetH.filter (fun x=>x.1 == "math/bits.deBruijn64tab") h
 rw [hl] at h2
 have h3:=(laidMetH_iff.1 h2).1
 have e1:([("math/bits.deBruijn64tab", WZ)].filter fun x=>x.2.handleName?.isNone)=[("math/bits.deBruijn64tab", WZ)]:=by simp [hh]
 rw [e1] at h3
 have h4:=Lib.tabIs_of_head hg hty ht he hce hct h3
 obtain ⟨ps,⟨g',t',cs,fuel,p,q,hg',ht',hvar,hd,_,rfl⟩,_,hfree⟩:=h3
 obtain rfl:=Option.some.inj (hg.symm.trans hg')
 unfold Lib.TabIs at h4
 have hcs:cs=((Lib.deBruijn64tab.map Int.ofNat).map fun z=>Value.int .u8 z).toArray:=Option.some.inj (hvar.symm.trans h4)
 have h64:cs.size=64:=by rw [hcs];rfl
 obtain ⟨⟨c,t2,hc⟩,_⟩:=hfree g 0 (by
  simp only [List.mem_append]
  refine .inl (.inl ?_)
  unfold MemPlace.row
  exact List.mem_map.2 ⟨0,List.mem_range.2 (by omega),rfl⟩)
 have hv:=hvar
 unfold World.var? at hv
 rw [hg] at hv
 simp only [Option.bind_some,hc] at hv
 refine ⟨_,hc,t2,?_⟩
 rw [Option.some.inj hv,hcs]
 simp only [List.map_map]
 rfl
variable {H:Type} {enc:TypeId × Value→H}
theorem vX {a:Assume} {C:Checked} {os:Os} {f:FuncId} {fn:Func} {s:ChangeSpec} {conds:List PathCond} {apart fresh handsOn again:Bool} {X:World→Array Value→Prop}
  (hX:∀ (w w':World) (args:Array Value),w.heap=w'.heap→X w args→X w' args)
  (own:ownKnob C.prog.godebug=none) (started:os.Started) (noInit:C.prog.inits.idxOf? f=none) (hfn:C.prog.funcs[f]?=some fn)
  (witness:∃ (w:World) (tape:Tape) (i:Input),w.os=os∧(w.forCall tape i).Shaped C.prog∧i.vars=[]∧Input.okWide C.prog (w.forCall tape i) .any w.heap.size f i ∧
   ((s.pre enc C.prog fn conds apart (w.forCall tape i).memory i.args∧X (w.forCall tape i).memory i.args)∧sizedMet enc C.prog fn (OpenSpec.ofChange s) apart (w.forCall tape i).memory i.args)∧a.holds C.prog (lone (Frame.enter C.prog f i.args .normal) [] (w.forCall tape i)))
  (contract:∀ (W:World) (base:Nat) (args:Array Value) (ds gs:List (DataW H)) (before:List MemPlace),W.ShapedOpen C.prog→X W args→(DataW.weightsEach C.prog (fn.params.toList++(OpenSpec.ofChange s).bare.plain.varTypes C.prog) (ds++gs)).all (·≤reachBytes)=true →
   (∀ (j:Nat) t v,fn.params[j]?=some t→args[j]?=some v→Value.okWide C.prog W .any base t v) →
   DataW.Whole enc C.prog fn.params.toList s.vars apart W args.toList ds gs before →
   Calls C.prog f args W fun e W'=>∃ v,e=.returned v∧s.post enc C.prog fn apart fresh handsOn again W args v W') :
  ReturnsInHanded a C os f .any (fun w args=>(s.pre enc C.prog fn conds apart w args∧X w args)∧sizedMet enc C.prog fn (OpenSpec.ofChange s) apart w args) (s.post enc C.prog fn apart fresh handsOn again):=by
 refine returnsInHanded_of_calls own started noInit witness ?_
 intro w tape i _ hsh _ hok hpre hholds
 obtain ⟨_,_,_,fn',hfn',_,_,_,_,hval⟩:=hok
 have e:fn'=fn:=Option.some.inj (hfn'.symm.trans hfn)
 subst e
 obtain ⟨⟨⟨ds,gs,before,hw,hc⟩,hx⟩,hz⟩:=hpre
 have hw':=DataW.Whole.of_heap (w':=w.forCall tape i) (by rfl) hw
 refine (contract (w.forCall tape i) w.heap.size i.args ds gs before hsh (hX _ _ _ (by rfl:(w.forCall tape i).memory.heap=(w.forCall tape i).heap) hx) (hz.weights hw) hval hw').mono fun e W' ⟨v,he,hp⟩=>?_
 subst he
 exact ChangeSpec.post_blind hp
end Go.Fv
/-
 The library's sort of a row of ints or of strings, by the shelf's contracts, as a contract that writes the caller's memory.
-/
namespace Go.Fv
open Go.RowKit Go.Sort Go.Proofs Go.Shelf
theorem Kq {α:Type} [Inhabited α] (enc:α→Value) (w:World) (n g:Nat) (d:Array α) (os:Array Obj) {cur:Array Value} {e:TypeId} {fz:Nat × Nat} (hh:w.heap[g]?=some (.cells cur e fz)) :
  (grow (putRow enc (Sort.ahead w n) g 0 d) os).heap[g]?=some (.cells (putCells enc 0 d cur) e fz):=by
 have hlt:g<w.heap.size:=(Array.getElem?_eq_some_iff.1 hh).1
 show ((w.heap.modify g (onCells (putCells enc 0 d)))++os)[g]?=_
 rw [Array.getElem?_append_left (by simpa using hlt),Array.getElem?_modify,if_pos rfl,hh]
 rfl
theorem GX {α:Type} [Inhabited α] (enc:α→Value) (w:World) (n g:Nat) (d:Array α) (os:Array Obj) {k:Nat} (hk:k<w.heap.size) (hne:¬g=k) :
  (grow (putRow enc (Sort.ahead w n) g 0 d) os).heap[k]?=w.heap[k]?:=by
 show ((w.heap.modify g (onCells (putCells enc 0 d)))++os)[k]?=_
 rw [Array.getElem?_append_left (by simpa using hk),Array.getElem?_modify,if_neg hne]
theorem tY {α:Type} [Inhabited α] (enc:α→Value) (d:Array α) (c:Array Value):(putCells enc 0 d c).size=c.size:=by simp [putCells]
theorem DF {α:Type} [Inhabited α] (enc:α→Value) (l:List α) (c:Array Value) (n:Nat) (hn:l.length=n) (hc:n≤c.size):(putCells enc 0 l.toArray c).toList.take n=l.map enc:=by
 apply List.ext_getElem?
 intro j
 by_cases hj:j<n
 ·rw [List.getElem?_take_of_lt hj,List.getElem?_map]
  have h1:j<c.size:=by omega
  have h2:j<l.length:=by omega
  have h3:(putCells enc 0 l.toArray c)[j]?=some (enc l.toArray[j]!):=by
   simp only [putCells,Array.getElem?_mapIdx,Array.getElem?_eq_getElem h1,Option.map_some]
   rw [if_pos ⟨Nat.zero_le _,by simpa using h2⟩,Nat.sub_zero]
  rw [Array.getElem?_toList,h3]
  simp [h2]
 ·rw [List.getElem?_eq_none (by simp;omega),List.getElem?_eq_none (by simp;omega)]
section
variable {P:Program}
theorem iC.place {α:Type} [Inhabited α] (enc:α→Value) {f:Nat} (hE:Enter P f) (e:TypeId) (r r':aF) (l l':List α) (hll:l'.length=l.length)
  (hr1:r.sz=1) (hr2:r'.sz=1) (hrl:r.len=l.length) (hrl':r'.len=l.length)
  (hdown:∀ c cells,bn c r cells→cells=l.map enc) (hup:∀ c c' cells,bn c r cells→bn c' r' (l'.map enc))
  (hrun:∀ (w:World) (g cap:Nat),Holds enc w g 0 l.toArray→g<w.heap.size→Calls P f #[.slice (some ⟨g,0,none⟩) l.length cap] w fun x w'=>x=.returned (.tuple #[])∧∃ n os,w'=grow (putRow enc (Sort.ahead w n) g 0 l'.toArray) os)
  (hnone:∀ (w:World) (p:Option Addr) (cap:Nat),Calls P f #[.slice p 0 cap] w fun x w'=>x=.returned (.tuple #[])∧w'=w) :
  iC P f [.own 0] [(0,.row e r)] 1 (.tup []) [(0,.row e r')]:=by
 refine ⟨hE,fun w T g m0 vals ⟨hrow,_,hd⟩ hgl hng hv=>?_⟩
 obtain ⟨_,n,cells,hr,hn,⟨hlen,hcase⟩,hO⟩:=hrow 0 _ rfl
 have hcells:=hdown _ _ hr
 subst hcells
 rw [hrl] at hn
 subst hn
 cases hv with
 | cons _ v0 _ vs h0 hvs=>
 cases hvs
 cases h0 with
 | own _ hi h1=>
 rw [hr1] at hcase
 have none_case:l.length=0→∀ p cap,m0 0=.slice p 0 cap→Calls P f [m0 0].toArray w fun e_1 w'=>∃ v,e_1=.returned v∧aZ g w w'∧∃ m N,(∀ i,i<1→m i=m0 i)∧1≤N ∧
   Rv ⟨w',allow ⟨fun b=>T b∨g b,g⟩ w.heap.size m [(0,.row e r')],m,N⟩ (.tup []) v ∧
   (∀ i it,lk [(0,Item.row e r')] i=some it→i<N∧aS ⟨w',allow ⟨fun b=>T b∨g b,g⟩ w.heap.size m [(0,.row e r')],m,N⟩ (ownB ⟨fun b=>T b∨g b,g⟩ w.heap.size) (m i) it) ∧
   (∀ i j it jt b,lk [(0,Item.row e r')] i=some it→lk [(0,Item.row e r')] j=some jt→blk (m i)=some b→blk (m j)=some b→i=j):=by
  intro h00 p cap hm
  rw [show [m0 0].toArray=#[m0 0] from rfl,hm]
  refine (hnone w p cap).mono ?_
  rintro x w' ⟨rfl,rfl⟩
  have hl'0:l'=[]:=List.eq_nil_of_length_eq_zero (by omega)
  refine ⟨_,rfl,aZ.refl _ _,m0,1,fun _ _=>rfl,Nat.le_refl _,.tup [] [] .nil,?_,?_⟩
  ·intro i it hi
   have hi0:i=0:=by
    simp only [lk] at hi
    split at hi
    ·rename_i h;exact h.symm
    ·cases hi
   subst hi0
   have:it=Item.row e r':=by simp [lk] at hi;exact hi.symm
   subst this
   have hr':=hup _ ⟨w',allow ⟨fun b=>T b∨g b,g⟩ w'.heap.size m0 [(0,.row e r')],m0,1⟩ _ hr
   rw [hl'0] at hr'
   refine ⟨by omega,0,[],hr',by omega,?_,fun b hb=>.inr ⟨hO b hb,.inr (hO b hb)⟩⟩
   rcases hcase with ⟨hv,_⟩|⟨g0,cap',cur,fz,hv,hMk,hh,hnc,hcm,hcs,htk⟩
   ·exact ⟨by simp,.inl ⟨hv,rfl⟩⟩
   ·refine ⟨by simp,.inr ⟨g0,cap',cur,fz,by rw [hv,h00],hMk,hh,by omega,hcm,by rw [hcs,hr2],by simp⟩⟩
  ·intro i j it jt b hi hj _ _
   have aux:∀ q x,lk [(0,Item.row e r')] q=some x→q=0:=by
    intro q x hq
    simp only [lk] at hq
    split at hq
    ·rename_i h;exact h.symm
    ·cases hq
   rw [aux i it hi,aux j jt hj]
 rcases hcase with ⟨hv,h00⟩|⟨g0,cap,cur,fz,hv,hMk,hh,hnc,hcm,hcs,htk⟩
 ·exact none_case h00 _ _ hv
 ·by_cases h00:l.length=0
  ·exact none_case h00 _ cap (by rw [hv,h00])
  rw [Nat.mul_one] at hcs htk
  have hlt:g0<w.heap.size:=(Array.getElem?_eq_some_iff.1 hh).1
  have hcell:∀ j,j<l.length→cur[j]?=some (enc l.toArray[j]!):=by
   intro j hj
   have h1:(cur.toList.take l.length)[j]?=(l.map enc)[j]?:=by rw [htk]
   rw [List.getElem?_take_of_lt hj,List.getElem?_map,Array.getElem?_toList] at h1
   rw [h1];simp [hj]
  have hH:Holds enc w g0 0 l.toArray:=by
   intro j hj
   have hj':j<l.length:=by simpa using hj
   constructor
   ·simp [World.cell?,hh,hcell j hj']
   ·simp only [World.frozen?,hh]
    rcases hMk with rfl|hMk
    ·simp
    ·obtain ⟨lo,hi⟩:=fz
     have:cur.size≤lo:=hMk
     simp;omega
  rw [show [m0 0].toArray=#[m0 0] from rfl,hv]
  refine (hrun w g0 cap hH hlt).mono ?_
  rintro x w' ⟨rfl,nn,os,rfl⟩
  have hgO:=hO g0 (by rw [hv];rfl)
  have hnh:=Kq enc w nn g0 l'.toArray os hh
  refine ⟨_,rfl,⟨rfl,rfl,rfl,by simp,trivial,fun k hk hng'=>GX enc w nn g0 _ os hk fun e=>hng' (e▸hgO)⟩,m0,1,fun _ _=>rfl,Nat.le_refl _,.tup [] [] .nil,?_,?_⟩
  ·intro i it hi
   have hi0:i=0:=by
    simp only [lk] at hi
    split at hi
    ·rename_i h;exact h.symm
    ·cases hi
   subst hi0
   have:it=Item.row e r':=by simp [lk] at hi;exact hi.symm
   subst this
   have hr':=hup _ ⟨grow (putRow enc (Sort.ahead w nn) g0 0 l'.toArray) os,allow ⟨fun b=>T b∨g b,g⟩ w.heap.size m0 [(0,.row e r')],m0,1⟩ _ hr
   refine ⟨by omega,l.length,l'.map enc,hr',hrl',?_,fun b hb=>.inr ⟨hO b hb,.inr (hO b hb)⟩⟩
   rw [hr2]
   refine ⟨by simp [hll],.inr ⟨g0,cap,_,fz,hv,by rw [tY];exact hMk,hnh,hnc,hcm,by rw [tY,hcs,Nat.mul_one],?_⟩⟩
   rw [Nat.mul_one]
   exact DF enc l' cur _ hll (by omega)
  ·intro i j it jt b hi hj _ _
   have aux:∀ q x,lk [(0,Item.row e r')] q=some x→q=0:=by
    intro q x hq
    simp only [lk] at hq
    split at hq
    ·rename_i h;exact h.symm
    ·cases hq
   rw [aux i it hi,aux j jt hj]
end
end Go.Fv
