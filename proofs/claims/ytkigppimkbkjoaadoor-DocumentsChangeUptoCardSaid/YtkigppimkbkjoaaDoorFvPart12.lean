/-
  A part of the proof of the claim: walks over the program's functions and the plain laws that these need. No condition of its own.
-/
import Derived.Test.YtkigppimkbkjoaaDoorFvPart11
set_option linter.unusedSectionVars false
set_option linter.unusedVariables false
set_option linter.unusedSimpArgs false
set_option linter.unnecessarySimpa false
/-
 Contracts of functions that are given memory, which they turn and hand back.
-/
namespace Go.Fv
open Go.RowKit
def zA (w:World) (T g:Nat→Prop) (m0:Nat→Value) (k:Nat) (rows0:List (Nat × Item)):Prop:=
 (∀ i it,lk rows0 i=some it→i<k∧aK ⟨w,T,m0,k⟩ g (m0 i) it) ∧
 (∀ i j it jt b,lk rows0 i=some it→lk rows0 j=some jt→blk (m0 i)=some b→blk (m0 j)=some b→i=j) ∧
 (∀ b,T b→¬g b)
def rZ (P:Program) (f:Nat) (args:List AV) (rows0:List (Nat × Item)) (k:Nat) (out:AV) (rows:List (Nat × Item)):Prop:=
 Enter P f∧∀ (w:World) (T g:Nat→Prop) (m0:Nat→Value) (vals:List Value),zA w T g m0 k rows0→kF P w→(∀ (b:Nat) (q:GK),J7 P b=some q→¬g b)→bP ⟨w,T,m0,k⟩ args vals →
  Calls P f vals.toArray w fun e w'=>∃ v,e=.returned v∧aP g w w'∧∃ m N,(∀ i,i<k→m i=m0 i)∧k≤N ∧
   Rv ⟨w',allow ⟨fun b=>T b∨g b,g⟩ w.heap.size m rows,m,N⟩ out v ∧
   (∀ i it,lk rows i=some it→i<N∧aK ⟨w',allow ⟨fun b=>T b∨g b,g⟩ w.heap.size m rows,m,N⟩ (ownB ⟨fun b=>T b∨g b,g⟩ w.heap.size) (m i) it) ∧
   (∀ i j it jt b,lk rows i=some it→lk rows j=some jt→blk (m i)=some b→blk (m j)=some b→i=j)
section
variable {P:Program} {w0:World} {T0:Bs}
def kH (P:Program) (w0:World) (T0:Bs) (k:Nat) (res:List ResultVar) (out:AV) (rows:List (Nat × Item)) (s:S):Prop:=
 ∀ (H:List (AV × Value)) (a:Act) (w:World),vF k H→Rep w0 T0 H s a w→∃ v,(∀ (fn:Func),fn.results=res.toArray→(results fn a.tmps).run P w=.ok v w) ∧
  ∃ m N,k≤N∧(∀ p,p∈H→Rv ⟨w,allow T0 w0.heap.size m rows,m,N⟩ p.1 p.2)∧Rv ⟨w,allow T0 w0.heap.size m rows,m,N⟩ out v ∧
   (∀ i it,lk rows i=some it→i<N∧aK ⟨w,allow T0 w0.heap.size m rows,m,N⟩ (ownB T0 w0.heap.size) (m i) it) ∧
   (∀ i j it jt b,lk rows i=some it→lk rows j=some jt→blk (m i)=some b→blk (m j)=some b→i=j)
def KO (P:Program) (w0:World) (T0:Bs) (k:Nat) (res:List ResultVar) (out:AV) (rows:List (Nat × Item)):Exit→S→Prop
 | .normal,s=>kH P w0 T0 k res out rows s
 | .ret,s=>kH P w0 T0 k res out rows s
 | _,_=>False
@[congr] theorem Ld {k:Nat} {res:List ResultVar} {out:AV} {rows:List (Nat × Item)} {s s':S} (h:s=s'):kH P w0 T0 k res out rows s=kH P w0 T0 k res out rows s':=by rw [h]
theorem kH.of {k:Nat} (l:List (Nat × Nat)) (N:Nat) (hl:∀ x,x∈l→k≤x.1) (hk:k≤N) {res:List ResultVar} {out:AV} {rows:List (Nat × Item)} {s:S} (h:tC P s res (fun vs=>jk vs=ren (pm l) out)) (hb:Fv.below N out=true) (hr:eP (pm l) s.rows N rows):kH P w0 T0 k res out rows s:=by
 rintro H a w hH ⟨m,hm⟩
 obtain ⟨vs,us,he,hrun,hvs⟩:=nX hm h
 have hlow:∀ i,i<k→pm l i=i:=by
  intro i hi
  unfold pm
  cases h:lk l i with
  | none=>rfl
  | some j=>have:=hl _ (bM h);simp at this;omega
 have hrv:Rv (ah T0 w0.heap.size m s w) (jk vs) (EF us):=by
  cases hvs with
  | nil=>exact .tup _ _ .nil
  | cons x v l us hx ht=>
   cases ht with
   | nil=>exact hx
   | cons x' v' l' us' hx' ht'=>exact .tup _ _ (.cons _ _ _ _ hx (.cons _ _ _ _ hx' ht'))
 have hren:jf (pm l) (ah T0 w0.heap.size m s w) ⟨w,allow T0 w0.heap.size (fun i=>m (pm l i)) rows,fun i=>m (pm l i),N⟩:=
  {m:=fun _ _=>rfl,
   t:=by
    intro b ⟨h1,h2⟩ _
    refine ⟨⟨h1,fun i it hi e=>?_⟩,rfl⟩
    obtain ⟨_,h3,_⟩:=cu hr i it (bM hi)
    exact h2 _ _ h3 e }
 refine ⟨_,fun fn hf=>jA hf a.tmps hrun,fun i=>m (pm l i),N,hk,fun p hp=>?_,Rv.ren hren out hb (by rw [←he];exact hrv),fun i it hi=>?_,fun i j it jt b hi hj hbi hbj=>?_⟩
 ·have h1:=hH p hp
  refine Rv.ren hren p.1 (below_le hk _ h1) ?_
  rw [fQ hlow _ h1];exact hm.held p hp
 ·obtain ⟨h1,h2,h3⟩:=cu hr i it (bM hi)
  exact ⟨h1,aK.ren hren rfl h3 (hm.rows _ _ h2).2⟩
 ·obtain ⟨_,h2,_⟩:=cu hr i it (bM hi)
  obtain ⟨_,h2',_⟩:=cu hr j jt (bM hj)
  exact oU hr i j it jt (bM hi) (bM hj) (hm.sep _ _ _ _ b h2 h2' hbi hbj)
theorem kH.auto {k:Nat} (N:Nat) (hk:k≤N) {res:List ResultVar} {out:AV} {rows:List (Nat × Item)} {s:S} (h:tC P s res (fun vs=>jk vs=ren (pm (iV k (CZ s res out rows))) out)) (hb:Fv.below N out=true) (hr:eP (pm (iV k (CZ s res out rows))) s.rows N rows):kH P w0 T0 k res out rows s:=
 kH.of _ N (qO k _) hk h hb hr
theorem aK.oneCell {c:Ctx} {O:Nat→Prop} {v:Value} {it:Item} (h:aK c O v it):v.oneCell'=true:=by
 cases it with
 | row e r=>
  obtain ⟨n,cells,_,_,ho,_⟩:=h
  rcases ho.2 with ⟨rfl,_⟩|⟨g,cap,cur,fz,rfl,_⟩<;>rfl
 | box e cs=>obtain ⟨g,vs,rfl,_⟩:=h;rfl
 | map ks vs=>obtain ⟨g,es,clock,rfl,_⟩:=h;rfl
 | iter mp since seen=>obtain ⟨g,q,sn,last,rfl,_⟩:=h;rfl
 | siter t pos=>obtain ⟨g,rfl,_⟩:=h;rfl
theorem rZ.of_run {f:Nat} {fn:Func} {c:Code} {args:List AV} {rows0:List (Nat × Item)} {k:Nat} {out:AV} {rows:List (Nat × Item)} (hf:P.funcs[f]?=some fn) (hb:fn.body=some c)
  (hnm:(fn.name == "runtime.NumGoroutine")=false) (hn:args.length≤fn.ntmps) (hcov:∀ j,j<k→∃ it,lk rows0 j=some it) (res:List ResultVar) (hres:fn.results=res.toArray)
  (h:∀ (w0:World) (T0:Bs) [mQ P w0 T0],aG P w0 T0 k c ⟨fn.ntmps,aH 0 args,rows0,k⟩ (KO P w0 T0 k res out rows)):rZ P f args rows0 k out rows:=by
 refine ⟨⟨fn,hf,by rw [hb];rfl,hnm⟩,fun w T g m0 vals hG hgl hgg hv=>?_⟩
 haveI:mQ P w ⟨fun b=>T b∨g b,g⟩:=⟨hgl,fun b q hq h=>hgg b q hq h.1⟩
 obtain ⟨hrows,hsep,hTg⟩:=hG
 refine calls_of_wp hf hb ?_
 have hlen:=hv.length
 have hle:bQ (⟨w,T,m0,k⟩:Ctx) (ah ⟨fun b=>T b∨g b,g⟩ w.heap.size m0 ⟨fn.ntmps,aH 0 args,rows0,k⟩ w):=
  ⟨Nat.le_refl _,fun _ _=>rfl,fun b hb _=>⟨⟨.inr (.inl hb),fun i it hi e=>hTg b hb ((hrows i it hi).2.blk b e).1⟩,rfl⟩⟩
 have hrep:aJ w ⟨fun b=>T b∨g b,g⟩ (rows0.map fun p=>(.own p.1,m0 p.1)) ⟨fn.ntmps,aH 0 args,rows0,k⟩ { tmps:=vals.toArray++Array.replicate (fn.ntmps - vals.toArray.size) undef,defers:=[] } w m0:=
  {size:=by simp;omega,nodef:=rfl,below:=aP.refl _ _,
   env:=by
    intro r v hr
    obtain ⟨u,h1,h2⟩:=oz 0 [] rfl hv r v hr
    have e:((vals.toArray++Array.replicate (fn.ntmps - vals.toArray.size) undef).getD r undef)=u:=by
     have h1':vals[r]?=some u:=by simpa using h1
     have hlt:r<vals.length:=(List.getElem?_eq_some_iff.1 h1').1
     rw [Array.getD_eq_getD_getElem?,Array.getElem?_append_left (by simpa using hlt)]
     simp [h1']
    rw [e];exact h2.mono hle,
   held:=by
    intro p hp
    obtain ⟨q,hq,rfl⟩:=List.mem_map.1 hp
    obtain ⟨it,hit⟩:=FD hq
    obtain ⟨h1,h2⟩:=hrows _ _ hit
    exact .own q.1 h1 h2.oneCell,
   rows:=fun i it hi=>⟨(hrows i it hi).1,(((hrows i it hi).2).mono hle fun _ _=>rfl).own fun b hb=>.inr ⟨hb,.inr hb⟩⟩,sep:=hsep }
 have hH:vF k (rows0.map fun p=>(AV.own p.1,m0 p.1)):=by
  intro p hp
  exact (hrep.held p hp).ids
 refine wp_mono (h w _ _ _ w hH ⟨_,hrep⟩) ?_
 rintro e a w' ⟨s',hq,hr⟩
 have fin:kH P w ⟨fun b=>T b∨g b,g⟩ k res out rows s'→a.defers=[]∧∃ v,(results fn a.tmps).run P w'=.ok v w'∧∃ v',Ending.returned v=.returned v'∧aP g w w'∧∃ m N,(∀ i,i<k→m i=m0 i)∧k≤N ∧
   Rv ⟨w',allow ⟨fun b=>T b∨g b,g⟩ w.heap.size m rows,m,N⟩ out v' ∧
   (∀ i it,lk rows i=some it→i<N∧aK ⟨w',allow ⟨fun b=>T b∨g b,g⟩ w.heap.size m rows,m,N⟩ (ownB ⟨fun b=>T b∨g b,g⟩ w.heap.size) (m i) it) ∧
   (∀ i j it jt b,lk rows i=some it→lk rows j=some jt→blk (m i)=some b→blk (m j)=some b→i=j):=by
  intro hret
  obtain ⟨v,hv,m,N,hkN,hheld,hout,hit,hsp⟩:=hret _ a w' hH hr
  obtain ⟨m',hm⟩:=hr
  refine ⟨hm.nodef,v,hv fn hres,v,rfl,hm.below.mono fun b hb=>hb.1,m,N,fun i hi=>?_,hkN,hout,hit,hsp⟩
  obtain ⟨it,hi'⟩:=hcov i hi
  have:=hheld (.own i,m0 i) (List.mem_map.2 ⟨(i,it),bM hi',rfl⟩)
  generalize hmi:m0 i=mi at this
  cases this
  rfl
 cases e with
 | normal=>exact fin hq
 | ret=>exact fin hq
 | _=>exact hq.elim
theorem rZ.bZ {f:Nat} {fn:Func} {c:Code} {args:List AV} {rows0:List (Nat × Item)} {k:Nat} {out:AV} {rows:List (Nat × Item)} (hf:P.funcs[f]?=some fn) (hb:fn.body=some c)
  (hnm:(fn.name == "runtime.NumGoroutine")=false) (hn:args.length≤fn.ntmps) (hcov:∀ j,j<k→∃ it,lk rows0 j=some it) (res:List ResultVar) (hres:fn.results=res.toArray)
  (h:∀ (w0:World) (T0:Bs) [mQ P w0 T0],fC P w0 T0 k c (KO P w0 T0 k res out rows) ⟨fn.ntmps,aH 0 args,rows0,k⟩):rZ P f args rows0 k out rows:=
 .of_run hf hb hnm hn hcov res hres fun w0 T0=>.of (h w0 T0)
/-! ### The call -/
def iC (ids:List Nat) (next:Nat) (j:Nat):Nat:=match ids[j]? with|some i=>i|none=>next+(j - ids.length)
def iF (p:Nat→Nat):List (Nat × Item)→List (Nat × Item)
 | []=>[]
 |(i,it)::l=>(p i,it.ren p)::iF p l
def qI {α:Type}:List (Nat × α)→List Nat→List (Nat × α)
 | l,[]=>l
 | l,i::is=>qI (del l i) is
theorem FC {α:Type}:∀ (is:List Nat) (l:List (Nat × α)) (j:Nat),lk (qI l is) j=if j∈is then none else lk l j
 | [],l,j=>by simp [qI]
 | i::is,l,j=>by
  simp only [qI]
  rw [FC is,eY]
  by_cases h1:j∈is
  ·simp [h1]
  ·by_cases h2:j=i<;>simp [h1,h2]
def S.Fp (s:S) (ids:List Nat) (N:Nat) (rows:List (Nat × Item)):S:={ s with rows:=iF (iC ids s.next) rows++qI s.rows ids,next:=s.next+(N - ids.length) }
theorem qU {p:Nat→Nat} {S:Nat→Prop} (hp:∀ i j,S i→S j→p i=p j→i=j):∀ {l:List (Nat × Item)},(∀ x,x∈l→S x.1)→∀ {i:Nat} {it:Item},lk (iF p l) i=some it→∃ j jt,i=p j∧lk l j=some jt∧it=jt.ren p
 |(j,jt)::l,hS,i,it,h=>by
  simp only [iF,lk] at h
  split at h
  ·rename_i e;cases h;exact ⟨j,jt,e.symm,by simp [lk],rfl⟩
  ·rename_i e
   obtain ⟨q,qt,h1,h2,h3⟩:=qU hp (fun x hx=>hS x (.tail _ hx)) h
   refine ⟨q,qt,h1,?_,h3⟩
   simp only [lk];rw [if_neg (fun e'=>e (by rw [h1,e']))];exact h2
theorem GX:∀ {l:List Nat} {i j a:Nat},l.Nodup→l[i]?=some a→l[j]?=some a→i=j:=by
 intro l i j a hd hi hj
 exact (List.getElem?_inj (List.getElem?_eq_some_iff.1 hi).1 hd).1 (hi.trans hj.symm)
def Nk (ids:List Nat) (next:Nat) (rows0:List (Nat × Item)) (m:Nat→Value) (b:Nat):Prop:=∃ j it,lk rows0 j=some it∧blk (m (iC ids next j))=some b
def vG (w:World) (T g:Nat→Prop) (m0:Nat→Value) (k:Nat) (out:AV) (rows:List (Nat × Item)) (e:Ending) (w':World):Prop:=
 ∃ v,e=.returned v∧aP g w w'∧∃ m N,(∀ i,i<k→m i=m0 i)∧k≤N ∧
   Rv ⟨w',allow ⟨fun b=>T b∨g b,g⟩ w.heap.size m rows,m,N⟩ out v ∧
   (∀ i it,lk rows i=some it→i<N∧aK ⟨w',allow ⟨fun b=>T b∨g b,g⟩ w.heap.size m rows,m,N⟩ (ownB ⟨fun b=>T b∨g b,g⟩ w.heap.size) (m i) it) ∧
   (∀ i j it jt b,lk rows i=some it→lk rows j=some jt→blk (m i)=some b→blk (m j)=some b→i=j)
theorem ak.LD [hgb:mQ P w0 T0] {f:Nat} {args:List AV} {rows0:List (Nat × Item)} {out:AV} {rows:List (Nat × Item)} {s:S} {K:AV→S→Prop} (ids:List Nat) (hE:Enter P f) (hd:ids.Nodup)
  (hcall:∀ (H:List (AV × Value)) (a:Act) (w:World) (m:Nat→Value) (vals:List Value),aJ w0 T0 H s a w m→bP (ah T0 w0.heap.size m s w) args vals →
   zA w (allow T0 w0.heap.size m s.rows) (Nk ids s.next rows0 m) (fun j=>m (iC ids s.next j)) ids.length rows0→(∀ (b:Nat) (q:GK),J7 P b=some q→¬Nk ids s.next rows0 m b) →
   Calls P f vals.toArray w (vG w (allow T0 w0.heap.size m s.rows) (Nk ids s.next rows0 m) (fun j=>m (iC ids s.next j)) ids.length out rows))
  (h0:eP (iC ids s.next) s.rows ids.length rows0) (hcov:∀ j,j<ids.length→∃ it,lk rows0 j=some it) (N:Nat) (hkN:ids.length≤N) (hN:Fv.below N out=true) (hNr:dK N rows)
  (hk:K (ren (iC ids s.next) out) (s.Fp ids N rows)):@ak P w0 T0 f args s ⟨K⟩:=by
 refine ⟨hE,fun H a w m vals hm hv=>?_⟩
 have hp1:∀ j,j<ids.length→∃ i,ids[j]?=some i∧iC ids s.next j=i:=fun j hj=>⟨ids[j],List.getElem?_eq_getElem hj,by simp [iC,List.getElem?_eq_getElem hj]⟩
 have hp2:∀ j,ids.length≤j→iC ids s.next j=s.next+(j - ids.length):=fun j hj=>by simp [iC,List.getElem?_eq_none hj]
 have h0':∀ j it,lk rows0 j=some it→j<ids.length∧lk s.rows (iC ids s.next j)=some (it.ren (iC ids s.next))∧it.below ids.length=true:=fun j it hj=>cu h0 j it (bM hj)
 have hmem:∀ i,i∈ids→∃ j it,j<ids.length∧iC ids s.next j=i∧lk rows0 j=some it:=by
  intro i hi
  obtain ⟨j,hj,e⟩:=List.getElem_of_mem hi
  obtain ⟨it,hit⟩:=hcov j hj
  exact ⟨j,it,hj,by simp [iC,List.getElem?_eq_getElem hj,e],hit⟩
 have hsrc:∀ j,j<ids.length→iC ids s.next j<s.next:=fun j hj=>by
  obtain ⟨it,hit⟩:=hcov j hj
  exact (hm.rows _ _ (h0' j it hit).2.1).1
 have hinj:∀ i j,iC ids s.next i=iC ids s.next j→i=j:=by
  intro i j e
  by_cases hi:i<ids.length<;>by_cases hj:j<ids.length
  ·obtain ⟨x,hx,ex⟩:=hp1 i hi
   obtain ⟨y,hy,ey⟩:=hp1 j hj
   rw [ex,ey] at e;subst e
   exact GX hd hx hy
  ·have:=hsrc i hi;rw [e,hp2 j (by omega)] at this;omega
  ·have:=hsrc j hj;rw [←e,hp2 i (by omega)] at this;omega
  ·rw [hp2 i (by omega),hp2 j (by omega)] at e;omega
 let T:Nat→Prop:=allow T0 w0.heap.size m s.rows
 let g:Nat→Prop:=fun b=>∃ j it,lk rows0 j=some it∧blk (m (iC ids s.next j))=some b
 let m0:Nat→Value:=fun j=>m (iC ids s.next j)
 have hctx:jf (iC ids s.next) (ah T0 w0.heap.size m s w) ⟨w,T,m0,ids.length⟩:=⟨fun _ _=>rfl,fun b hb _=>⟨hb,rfl⟩⟩
 have hown:∀ i it,lk s.rows i=some it→∀ b,blk (m i)=some b→ownB T0 w0.heap.size b∧b<w.heap.size:=fun i it hi b hb=>(hm.rows i it hi).2.blk b hb
 have hG:zA w T g m0 ids.length rows0:=by
  refine ⟨fun j it hj=>?_,fun i j it jt b hi hj hbi hbj=>?_,fun b hb hg=>?_⟩
  ·obtain ⟨h1,h2,h3⟩:=h0' j it hj
   refine ⟨h1,(aK.ren hctx rfl h3 (hm.rows _ _ h2).2).Lh fun b hb=>⟨j,it,hj,hb⟩⟩
  ·obtain ⟨_,h2,_⟩:=h0' i it hi
   obtain ⟨_,h2',_⟩:=h0' j jt hj
   exact hinj i j (hm.sep _ _ _ _ b h2 h2' hbi hbj)
  ·obtain ⟨j,it,hj,hbj⟩:=hg
   exact hb.2 _ _ (h0' j it hj).2.1 hbj
 have hgg:∀ (b:Nat) (q:GK),J7 P b=some q→¬g b:=by
  rintro b q hq ⟨j,it,hj,hb⟩
  obtain ⟨ob,hh,_⟩:=hgb.ok b q hq
  have hlt:=(Array.getElem?_eq_some_iff.1 hh).1
  rcases (hown _ _ (h0' j it hj).2.1 b hb).1 with h|h
  ·omega
  ·exact hgb.ng b q hq h
 refine (hcall H a w m vals hm hv hG hgg).mono ?_
 rintro e w' ⟨v,rfl,hbel,mo,No,hmo,hkNo,hout,hrows,hsep⟩
 refine ⟨v,rfl,_,_,hk,?_⟩
 have hgs:∀ b,g b→(∃ i it,lk s.rows i=some it∧blk (m i)=some b):=fun b ⟨j,it,hj,hb⟩=>⟨_,_,(h0' j it hj).2.1,hb⟩
 have hNr':=qY hNr
 have hitem:∀ i it,lk rows i=some it→aK ⟨w',allow ⟨fun b=>T b∨g b,g⟩ w.heap.size mo rows,mo,N⟩ (ownB ⟨fun b=>T b∨g b,g⟩ w.heap.size) (mo i) it:=fun i it hi=>((hrows i it hi).2).cut (hNr' i it hi).2
 let m2:Nat→Value:=fun i=>if i<s.next then m i else mo (ids.length+(i - s.next))
 have hm2:∀ i,i<s.next→m2 i=m i:=fun i hi=>if_pos hi
 have hm3:∀ j,m2 (iC ids s.next j)=mo j:=fun j=>by
  by_cases hj:j<ids.length
  ·rw [hm2 _ (hsrc j hj)];exact (hmo j hj).symm
  ·rw [hp2 j (by omega)]
   show (if s.next+(j - ids.length)<s.next then _ else _)=_
   rw [if_neg (by omega)];congr 1;omega
 have hlt:∀ i it,lk s.rows i=some it→i<s.next:=fun i it hi=>(hm.rows i it hi).1
 have hrest:∀ i it,lk (qI s.rows ids) i=some it→i∉ids∧lk s.rows i=some it:=by
  intro i it hi
  rw [FC] at hi
  split at hi
  ·cases hi
  ·rename_i e;exact ⟨e,hi⟩
 have hcases:∀ i it,lk (s.Fp ids N rows).rows i=some it→(∃ j jt,i=iC ids s.next j∧lk rows j=some jt∧it=jt.ren (iC ids s.next))∨(i∉ids∧lk s.rows i=some it):=by
  intro i it hi
  have hi':lk (iF (iC ids s.next) rows++qI s.rows ids) i=some it:=hi
  rw [jG] at hi'
  cases hq:lk (iF (iC ids s.next) rows) i with
  | some y=>
   rw [hq] at hi';cases hi'
   exact .inl (qU (S:=fun _=>True) (fun i j _ _ e=>hinj i j e) (fun _ _=>trivial) hq)
  | none=>rw [hq] at hi';exact .inr (hrest i it hi')
 have hnotg:∀ i it,i∉ids→lk s.rows i=some it→∀ b,blk (m i)=some b→¬g b:=by
  rintro i it hni hi b hb ⟨j,jt,hj,hbj⟩
  obtain ⟨h1,h2,_⟩:=h0' j jt hj
  have:=hm.sep _ _ _ _ b hi h2 hb hbj
  obtain ⟨x,hx,ex⟩:=hp1 j h1
  exact hni (by rw [this,ex];exact List.mem_of_getElem? hx)
 have hnewB:∀ j jt,lk rows j=some jt→∀ b,blk (mo j)=some b→w.heap.size≤b∨g b:=fun j jt hj b hbl=>(((hrows j jt hj).2.blk b hbl).1).imp id (·.1)
 have hle:bQ (ah T0 w0.heap.size m s w) (ah T0 w0.heap.size m2 (s.Fp ids N rows) w'):=by
  refine ⟨Nat.le_add_right _ _,hm2,?_⟩
  intro b hb hltb
  have hbg:¬g b:=fun hg=>by
   obtain ⟨i,it,hi,hbi⟩:=hgs b hg
   exact hb.2 i it hi hbi
  refine ⟨⟨hb.1,fun i it hi e=>?_⟩,hbel.block b hltb hbg⟩
  rcases hcases i it hi with ⟨j,jt,rfl,hj,_⟩|⟨hni,hi'⟩
  ·rw [hm3] at e
   rcases hnewB j jt hj b e with h|h
   ·have hlt2:b<w.heap.size:=hltb;omega
   ·exact hbg h
  ·rw [hm2 i (hlt i it hi')] at e;exact hb.2 i it hi' e
 have hsh:tY (iC ids s.next) (⟨w',allow ⟨fun b=>T b∨g b,g⟩ w.heap.size mo rows,mo,N⟩:Ctx) (ah T0 w0.heap.size m2 (s.Fp ids N rows) w'):=by
  refine ⟨fun i hi=>?_,fun i _=>hm3 i,?_⟩
  ·show iC ids s.next i<s.next+(N - ids.length)
   by_cases hj:i<ids.length
   ·have:=hsrc i hj;omega
   ·rw [hp2 i (by omega)];have:i<N:=hi;omega
  intro b ⟨h1,h2⟩ _
  have hlt0:=hm.lt
  have hb1:w0.heap.size≤b∨T0.a b:=by
   rcases h1 with h1|h1|h1
   ·exact .inl (by omega)
   ·exact h1.1
   ·obtain ⟨i,it,hi,hbi⟩:=hgs b h1
    exact ((hown i it hi b hbi).1).imp id (·.2)
  refine ⟨⟨hb1,fun i it hi e=>?_⟩,rfl⟩
  rcases hcases i it hi with ⟨j,jt,rfl,hj,_⟩|⟨hni,hi'⟩
  ·rw [hm3] at e;exact h2 j jt hj e
  ·rw [hm2 i (hlt i it hi')] at e
   rcases h1 with h1|h1|h1
   ·have:=(hown i it hi' b e).2;omega
   ·exact h1.2 i it hi' e
   ·exact hnotg i it hni hi' b e h1
 have hOO:∀ b,ownB ⟨fun b=>T b∨g b,g⟩ w.heap.size b→ownB T0 w0.heap.size b:=fun b hb=>by
  rcases hb with hb|hb
  ·exact .inl (Nat.le_trans hm.lt hb)
  ·obtain ⟨i,it,hi,hbi⟩:=hgs b hb.1
   exact (hown i it hi b hbi).1
 refine ⟨m2,aJ.hold (s:=s.Fp ids N rows) ?_ ((hout.cut hN).shift hsh)⟩
 refine { size:=hm.size,nodef:=hm.nodef,below:=?_,env:=fun r u hu=>(hm.env r u hu).mono hle,held:=fun q hq=>(hm.held q hq).mono hle,rows:=?_,sep:=?_ }
 ·refine hm.below.step hbel.os hbel.tape hbel.output hbel.size (fun b hb hn=>hbel.block b (Nat.lt_of_lt_of_le hb hm.lt) fun hg=>?_) hbel.drawn
  obtain ⟨i,it,hi,hbi⟩:=hgs b hg
  rcases (hown i it hi b hbi).1 with h|h
  ·omega
  ·exact hn h
 ·intro i it hi
  rcases hcases i it hi with ⟨j,jt,rfl,hj,rfl⟩|⟨hni,hi'⟩
  ·refine ⟨hsh.n j (hNr' j jt hj).1,?_⟩
   rw [hm3]
   exact (hitem j jt hj).shift hsh rfl hOO
  ·have hl:=hlt i it hi'
   refine ⟨by show i<s.next+_;omega,?_⟩
   rw [hm2 i hl]
   exact ((hm.rows i it hi').2).mono hle fun b hbl=>hbel.block b ((hown i it hi' b hbl).2) (hnotg i it hni hi' b hbl)
 ·intro i j it jt b hi hj hbi hbj
  rcases hcases i it hi with ⟨i',it',rfl,hi',_⟩|⟨hni,hi'⟩<;>rcases hcases j jt hj with ⟨j',jt',rfl,hj',_⟩|⟨hnj,hj'⟩
  ·rw [hm3] at hbi hbj
   rw [hsep i' j' it' jt' b hi' hj' hbi hbj]
  ·rw [hm3] at hbi;rw [hm2 j (hlt j jt hj')] at hbj
   have h5:=(hown j jt hj' b hbj).2
   rcases hnewB i' it' hi' b hbi with h|h
   ·omega
   ·exact absurd h (hnotg j jt hnj hj' b hbj)
  ·rw [hm3] at hbj;rw [hm2 i (hlt i it hi')] at hbi
   have h5:=(hown i it hi' b hbi).2
   rcases hnewB j' jt' hj' b hbj with h|h
   ·omega
   ·exact absurd h (hnotg i it hni hi' b hbi)
  ·rw [hm2 i (hlt i it hi')] at hbi;rw [hm2 j (hlt j jt hj')] at hbj
   exact hm.sep i j it jt b hi' hj' hbi hbj
theorem ak.io [hgb:mQ P w0 T0] {f:Nat} {args args':List AV} {rows0:List (Nat × Item)} {out:AV} {rows:List (Nat × Item)} {s:S} {K:AV→S→Prop} (ids:List Nat) (h:rZ P f args' rows0 ids.length out rows) (hd:ids.Nodup)
  (ha:args=bW (iC ids s.next) args') (hab:aC ids.length args'=true) (h0:eP (iC ids s.next) s.rows ids.length rows0) (hcov:∀ j,j<ids.length→∃ it,lk rows0 j=some it) (N:Nat) (hkN:ids.length≤N) (hN:Fv.below N out=true) (hNr:dK N rows)
  (hk:K (ren (iC ids s.next) out) (s.Fp ids N rows)):@ak P w0 T0 f args s ⟨K⟩:=by
 subst ha
 exact ak.LD ids h.1 hd (fun H a w m vals hm hv hG hgg=>by
  have hctx:jf (iC ids s.next) (ah T0 w0.heap.size m s w) ⟨w,allow T0 w0.heap.size m s.rows,fun j=>m (iC ids s.next j),ids.length⟩:=⟨fun _ _=>rfl,fun b hb _=>⟨hb,rfl⟩⟩
  exact h.2 w _ _ _ vals hG (mQ.at hm) hgg (bP.ren hctx args' hab hv)) h0 hcov N hkN hN hNr hk
theorem aK.jm {w:World} {T T':Nat→Prop} {m:Nat→Value} {N:Nat} {O:Nat→Prop} {v:Value} {it:Item} (ho:aK ⟨w,T,m,N⟩ O v it) (hn:nP it=true):aK ⟨w,T',m,N⟩ O v it:=by
 cases it with
 | row e r=>obtain ⟨n,cells,hc,hq⟩:=ho;exact ⟨n,cells,hc.jm hn,hq⟩
 | box e cs=>obtain ⟨g,vs,hv',hg,hl,hq⟩:=ho;exact ⟨g,vs,hv',hg,hl.jm hn,hq⟩
 | map ks vs=>
  simp only [nP,Bool.and_eq_true] at hn
  obtain ⟨g,es,clock,hv',hg,h1,h2,h3,h4,hq⟩:=ho;exact ⟨g,es,clock,hv',hg,h1.jm hn.1,h2.jm hn.2,h3,h4,hq⟩
 | iter mp since seen=>exact ho
 | siter t pos=>exact ho
end
end Go.Fv
/-
 What stands for families where they are lent; the end of a function whose results are only read.
-/
namespace Go.Fv
open Go.RowKit
/-! ### The same names -/
def E5 (s:S) (N:Nat):List (Nat × AV)→Prop
 | []=>True
 |(r,v)::l=>(s.get r=v∧Fv.below N v=true)∧E5 s N l
def Ai (rows:List (Nat × Item)) (N:Nat):List (Nat × Item)→Prop
 | []=>True
 |(i,it)::l=>(i<N∧lk rows i=some it∧it.below N=true)∧Ai rows N l
theorem BN {s:S} {N:Nat}:∀ {l:List (Nat × AV)},E5 s N l→kT id s N l
 | [],_=>trivial
 |(r,v)::l,h=>⟨⟨by rw [fQ (p:=id) (b0:=N) (fun _ _=>rfl) v h.1.2];exact h.1.1,h.1.2⟩,BN h.2⟩
theorem zk {rows:List (Nat × Item)} {N:Nat}:∀ {l:List (Nat × Item)},Ai rows N l→∀ i it,lk l i=some it→i<N∧lk rows i=some it∧it.below N=true
 |(j,jt)::l,h,i,it,hi=>by
  simp only [lk] at hi
  split at hi
  ·rename_i e;subst e;cases hi;exact h.1
  ·exact zk h.2 i it hi
theorem bJ.same {w0:World} {T0:Bs} {b0:Nat} {s s':S} (hn:s'.n=s.n) (hb:b0≤s'.next) (he:E5 s s'.next s'.env) (hr:Ai s.rows s'.next s'.rows):bJ w0 T0 b0 s s':=
 bJ.NP id hn hb (fun _ _=>rfl) (BN he) (fun i it hi=>by
  obtain ⟨h1,h2,h3⟩:=zk hr i it hi
  exact ⟨h1,by rw [Item.fQ (p:=id) (b0:=s'.next) (fun _ _=>rfl) it h3];exact h2,h3⟩) (fun i j _ _ _ _ e=>e)
attribute [go_sem] E5 Ai
section
variable {P:Program} {w0:World} {T0:Bs}
theorem dM.ro {res:List ResultVar} {out:AV} {s:S} (h:tC P s res (fun vs=>gG s.rows (jk vs) out)):dM P w0 T0 res out [] s:=by
 rintro a w ⟨m,hm⟩
 obtain ⟨vs,us,he,hrun,hvs⟩:=nX hm h
 have hrv:Rv (ah T0 w0.heap.size m s w) (jk vs) (EF us):=by
  cases hvs with
  | nil=>exact .tup _ _ .nil
  | cons x v l us hx ht=>
   cases ht with
   | nil=>exact hx
   | cons x' v' l' us' hx' ht'=>exact .tup _ _ (.cons _ _ _ _ hx (.cons _ _ _ _ hx' ht'))
 have hal:∀ b,ownB T0 w0.heap.size b→allow T0 w0.heap.size (fun _=>undef) [] b:=fun b hb=>⟨hb.imp id (·.2),fun i it hi=>by simp [lk] at hi⟩
 have hl:xX w (ah T0 w0.heap.size m s w) s.rows (allow T0 w0.heap.size (fun _=>undef) []):=
  {hw:=rfl,t:=fun b hb=>⟨hb.1,fun i it hi=>by simp [lk] at hi⟩,
   own:=fun i e r hi=>by
    obtain ⟨n,cells,hc,hn,hq,hO⟩:=(hm.rows i _ hi).2
    exact ⟨fun b hb=>hal b (hO b hb),n,cells,hc,hn,hq⟩,
   box:=fun i e cs hi=>by
    obtain ⟨g,vs,hv,hg,hl,hh⟩:=(hm.rows i _ hi).2
    exact ⟨g,vs,hv,hal g hg,hl,hh⟩,
   map:=fun i ks vs hi=>by
    obtain ⟨g,es,clock,hv,hg,h1,h2,h3,h4,hh⟩:=(hm.rows i _ hi).2
    exact ⟨g,es,clock,hv,hal g hg,h1,h2,h3,h4,hh⟩ }
 refine ⟨_,fun fn hf=>jA hf a.tmps hrun,fun _=>undef,0,?_,fun i it hi=>by simp [lk] at hi,fun i j it jt b hi=>by simp [lk] at hi⟩
 generalize jk vs=x at he hrv
 generalize hus:EF us=u at hrv
 unfold gG at he
 split at he
 ·obtain ⟨l',ha,rfl⟩:=he
  cases hrv with
  | tup _ us' hv'=>exact .tup _ _ (kP hl _ ha hv')
 ·exact sG hl 6 _ he hrv
end
end Go.Fv
/-
 Steps of a walk that pay their side conditions by themselves.
-/
namespace Go.Fv
theorem aO.g {p K:Prop} (k:K) (h:p:=by first|omega|(with_reducible refine aO.intro ?_ ?_<;>omega)|(simp;done)|(simp;omega)):aO p K:=⟨h,k⟩
theorem dZ.g {e:Int} {K:Int→Prop} (kk:K e) (h1:-9223372036854775808≤e:=by omega) (h2:e≤9223372036854775807:=by omega):dZ .i64 e K:=dZ.i64 h1 h2 kk
theorem dZ.h {e:Int} {K:Int→Prop} (kk:K e) (h1:0≤e:=by omega) (h2:e≤255:=by omega):dZ .u8 e K:=dZ.u8 h1 h2 kk
theorem Ite.t {p:Prop} [Decidable p] {x y:Prop} (k:p→x) (h:¬p→False:=by (intro _;omega)):@Ite (Decidable.decide p) ⟨x⟩ ⟨y⟩:=Ite.decide k fun h'=>(h h').elim
theorem Ite.f {p:Prop} [Decidable p] {x y:Prop} (k:¬p→y) (h:p→False:=by (intro _;omega)):@Ite (Decidable.decide p) ⟨x⟩ ⟨y⟩:=Ite.decide (fun h'=>(h h').elim) k
class Stp (p:Prop) (q:outParam Prop):Prop where
 go:q→p
instance {p K:Prop}:Stp (xW p K) (p→K):=⟨xW.intro⟩
instance {K:Int→Prop}:Stp (@DU .i64 ⟨K⟩) (∀ n,(-9223372036854775808≤n∧n≤9223372036854775807)→K n):=⟨DU.i64⟩
instance (priority:=900) {b:Bool} {x y:Prop}:Stp (@Ite b ⟨x⟩ ⟨y⟩) ((b=true→x)∧(b=false→y)):=⟨fun h=>Ite.bool h.1 h.2⟩
instance {p:Prop} [Decidable p] {x y:Prop}:Stp (@Ite (Decidable.decide p) ⟨x⟩ ⟨y⟩) ((p→x)∧(¬p→y)):=⟨fun h=>Ite.decide h.1 h.2⟩
theorem rs {p q:Prop} [h:Stp p q] (k:q):p:=h.go k
theorem rc {p K:Prop} (k:K) (h:p:=by first|omega|(with_reducible refine aO.intro ?_ ?_<;>omega)|(simp;done)|(simp;omega)):aO p K:=⟨h,k⟩
theorem rl {e:Int} {K:Int→Prop} (k:K e) (h1:-9223372036854775808≤e:=by omega) (h2:e≤9223372036854775807:=by omega):dZ .i64 e K:=dZ.i64 h1 h2 k
theorem rh {e:Int} {K:Int→Prop} (k:K e) (h1:0≤e:=by omega) (h2:e≤255:=by omega):dZ .u8 e K:=dZ.u8 h1 h2 k
theorem rt {p:Prop} [Decidable p] {x y:Prop} (k:p→x) (h:¬p→False:=by (intro _;omega)):@Ite (Decidable.decide p) ⟨x⟩ ⟨y⟩:=Ite.decide k fun h'=>(h h').elim
theorem rf {p:Prop} [Decidable p] {x y:Prop} (k:¬p→y) (h:p→False:=by (intro _;omega)):@Ite (Decidable.decide p) ⟨x⟩ ⟨y⟩:=Ite.decide (fun h'=>(h h').elim) k
theorem ru {k:IntKind} {e:Int} {K:Int→Prop} (kk:K e) (h:(k=.u64∧0≤e∧e≤18446744073709551615)∨(k=.u32∧0≤e∧e≤4294967295)∨(k=.i32∧-2147483648≤e∧e≤2147483647):=by
  first|(refine Or.inl ⟨rfl,?_,?_⟩<;>omega)|(refine Or.inr (Or.inl ⟨rfl,?_,?_⟩)<;>omega)|(refine Or.inr (Or.inr ⟨rfl,?_,?_⟩)<;>omega)):dZ k e K:=by
 rcases h with ⟨rfl,h1,h2⟩|⟨rfl,h1,h2⟩|⟨rfl,h1,h2⟩
 ·exact dZ.L8 (ET.2 ⟨h1,h2⟩) kk
 ·exact dZ.L8 (ES.2 ⟨h1,h2⟩) kk
 ·exact dZ.L8 (zB.2 ⟨h1,h2⟩) kk
theorem rz {P Q:Prop} (q:Q) (h:Q→P:=by first|exact fun k=>rc k|exact fun k=>rl k|exact fun k=>rh k|exact fun k=>ru k|exact fun k=>rt k|exact fun k=>rf k|exact fun k=>rs k):P:=h q
theorem ry {P Q:Prop} (q:Q) (h:Q→P:=by first|exact fun k=>rc k|exact fun k=>rl k|exact fun k=>rh k|exact fun k=>rt k|exact fun k=>rf k|exact fun k=>rs k):P:=h q
structure Dn:Prop where
theorem dn:Dn:=⟨⟩
theorem rn {P Q:Prop} (q:Q) (h:Q→P:=by first|exact fun k=>rc k|exact fun k=>rl k|exact fun k=>rh k|exact fun k=>ru k|exact fun k=>rt k|exact fun k=>rf k|exact fun k=>rs k|(refine fun _:Dn=>?_;omega)|(intro q;simp (maxSteps:=1000000) only [go_sem];exact q)|(refine fun _:Dn=>?_;simp (maxSteps:=1000000) only [go_sem];done)):P:=h q
theorem ra {p q:Prop} (a:p) (b:q):p∧q:=⟨a,b⟩
theorem dZ.at {k:IntKind} {e:Int} {K:Int→Prop} (m:Int) (h:k.wrap e=m) (kk:K m):dZ k e K:=fun n hn _=>by rw [hn,h];exact kk
theorem ak.k {P:Program} {w0:World} {T0:Bs} [hG:mQ P w0 T0] {f:Nat} {args args':List AV} {out:AV} {s:S} {K:AV→S→Prop} (h:aN P f args' out []) (hk:K (ren (fun j=>s.next+j) out) (s.after s.rows 0 []))
  (h1:pz out=true:=by rfl) (h2:Fv.below 0 out=true:=by rfl) (ha:aW s.rows args args':=by
   simp only [bI,aW,eF,aZ,aB,List.drop_zero,lk,reduceIte,reduceCtorEq,Nat.reduceEqDiff,Option.some.injEq,Item.row.injEq,Item.box.injEq,AV.ro.injEq,exists_eq_left,exists_and_left,exists_eq_left',exists_eq_right,and_assoc,and_true,true_and,List.cons.injEq,exists_eq',exists_eq]) :
  @ak P w0 T0 f args s ⟨K⟩:=ak.fr (gJ.gU h h1 rfl) ha 0 h2 trivial hk
theorem ak.f {P:Program} {w0:World} {T0:Bs} [hG:mQ P w0 T0] {f:Nat} {args args':List AV} {out:AV} {rows:List (Nat × Item)} {s:S} {K:AV→S→Prop} (h:gJ P f args' out rows) (N:Nat) (hk:K (ren (fun j=>s.next+j) out) (s.after s.rows N rows))
  (hN:Fv.below N out=true:=by rfl) (hNr:dK N rows:=by simp [dK,Item.below,Fv.below,aC,bf]) (ha:aW s.rows args args':=by
   simp only [bI,aW,eF,aZ,aB,List.drop_zero,lk,reduceIte,reduceCtorEq,Nat.reduceEqDiff,Option.some.injEq,Item.row.injEq,Item.box.injEq,AV.ro.injEq,exists_eq_left,exists_and_left,exists_eq_left',exists_eq_right,and_assoc,and_true,true_and,List.cons.injEq,exists_eq',exists_eq]) :
  @ak P w0 T0 f args s ⟨K⟩:=ak.fr h ha N hN hNr hk
theorem ak.o {P:Program} {w0:World} {T0:Bs} [hG:mQ P w0 T0] {f:Nat} {args args':List AV} {out:AV} {rows:List (Nat × Item)} {s:S} {K:AV→S→Prop} (h:aN P f args' out rows) (N:Nat) (hk:K (ren (fun j=>s.next+j) out) (s.after s.rows N rows))
  (h1:pz out=true:=by rfl) (h2:nR rows=true:=by rfl) (hN:Fv.below N out=true:=by rfl) (hNr:dK N rows:=by simp [dK,Item.below,Fv.below,aC,bf]) (ha:aW s.rows args args':=by
   simp only [bI,aW,eF,aZ,aB,List.drop_zero,lk,reduceIte,reduceCtorEq,Nat.reduceEqDiff,Option.some.injEq,Item.row.injEq,Item.box.injEq,AV.ro.injEq,exists_eq_left,exists_and_left,exists_eq_left',exists_eq_right,and_assoc,and_true,true_and,List.cons.injEq,exists_eq',exists_eq]) :
  @ak P w0 T0 f args s ⟨K⟩:=ak.fr (gJ.gU h h1 h2) ha N hN hNr hk
theorem NY {a:Item}:∀ j,j<1→∃ it,lk [(0,a)] j=some it:=fun j hj=>by
 obtain rfl:j=0:=by omega
 exact ⟨a,rfl⟩
theorem NZ {a b:Item}:∀ j,j<2→∃ it,lk [(0,a),(1,b)] j=some it:=fun j hj=>by
 rcases j with _|_|j
 ·exact ⟨a,rfl⟩
 ·exact ⟨b,rfl⟩
 ·omega
theorem N7 {a b c:Item}:∀ j,j<3→∃ it,lk [(0,a),(1,b),(2,c)] j=some it:=fun j hj=>by
 rcases j with _|_|_|j
 ·exact ⟨a,rfl⟩
 ·exact ⟨b,rfl⟩
 ·exact ⟨c,rfl⟩
 ·omega
theorem N8 {a b c d:Item}:∀ j,j<4→∃ it,lk [(0,a),(1,b),(2,c),(3,d)] j=some it:=fun j hj=>by
 rcases j with _|_|_|_|j
 ·exact ⟨a,rfl⟩
 ·exact ⟨b,rfl⟩
 ·exact ⟨c,rfl⟩
 ·exact ⟨d,rfl⟩
 ·omega
theorem ak.i {P:Program} {w0:World} {T0:Bs} [hgb:mQ P w0 T0] {f:Nat} {args args':List AV} {rows0:List (Nat × Item)} {out:AV} {rows:List (Nat × Item)} {s:S} {K:AV→S→Prop} (ids:List Nat) (h:rZ P f args' rows0 ids.length out rows) (N:Nat) (hk:K (ren (iC ids s.next) out) (s.Fp ids N rows))
  (hd:ids.Nodup:=by decide) (ha:args=bW (iC ids s.next) args':=by simp [bW,ren,iC]) (hab:aC ids.length args'=true:=by rfl)
  (h0:eP (iC ids s.next) s.rows ids.length rows0:=by simp [eP,iC,lk,Item.ren,Item.below,ren,bW,aC,Fv.below,iQ,bf])
  (hcov:∀ j,j<ids.length→∃ it,lk rows0 j=some it:=by first|exact NY|exact NZ|exact N7|exact N8) (hkN:ids.length≤N:=by decide) (hN:Fv.below N out=true:=by rfl) (hNr:dK N rows:=by simp [dK,Item.below,Fv.below,aC,bf]) :
  @ak P w0 T0 f args s ⟨K⟩:=ak.io ids h hd ha hab h0 hcov N hkN hN hNr hk
attribute [go_sem] S.Fp iF iC qI iQ bf List.getElem?_nil Nat.sub_self List.getElem?_cons_zero List.getElem?_cons_succ
attribute [go_sem ↓] reduceIte
attribute [go_sem] Fin.reduceNatAdd Fin.isValue UInt8.reduceAdd reduceDIte Nat.reduceEqDiff Int.reduceNegSucc Nat.reduceOr Fin.reduceGT Nat.reducePow Fin.reduceCastSucc Fin.reduceOr Nat.reduceGT Nat.reduceBneDiff Fin.reduceCastLT Fin.reduceNe Nat.reduceSubDiff Fin.reduceGE Nat.reduceMod Nat.reduceXor Int.reduceGE Int.reduceBmod UInt8.reduceOfNat Fin.reduceMod Int.reduceToNat Fin.reduceAddNat Fin.reduceXor Fin.reduceAnd Int.reduceEq Int.reduceFDiv Nat.reduceAnd Fin.reduceSubNat UInt8.reduceGT Fin.reduceFinMk Nat.reduceShiftRight Int.reduceNatCast Int.reduceGT Int.reducePow Nat.reduceGcd Nat.reduceAdd Nat.reduceBNe Int.reduceDiv Int.reduceMul reduceCtorEq Nat.reduceDvd Int.reduceBEq Nat.reduceBeqDiff Fin.reduceOfNat UInt8.reduceMod Int.reduceTMod Int.reduceOfNat UInt8.reduceToNat Nat.reduceShiftLeft Fin.reduceLast Nat.reduceLeDiff Fin.reduceShiftLeft Int.reduceNe UInt8.reduceGE Fin.reduceCastLE Int.reduceSub Fin.reduceLE Int.reduceAbs Fin.reduceCastAdd Int.reduceLT Fin.reducePred Int.reduceNatCast' Nat.reduceSub Fin.reduceRev Int.reduceNeg Fin.reduceLT Fin.reduceShiftRight Fin.reduceEq UInt8.reduceOfNatLT Fin.reduceAdd Fin.reduceBNe Nat.reduceDiv Int.reduceBNe Int.reduceDvd Nat.reduceMul Int.reduceAdd Nat.reduceBEq Nat.reduceSucc Fin.reduceDiv Fin.reduceMul Fin.reduceBEq Fin.reduceSucc UInt8.reduceLT Int.reduceTDiv Int.reduceFMod UInt8.reduceSub Int.reduceBdiv UInt8.reduceLE Nat.reduceLT Fin.reduceSub Int.reduceLE Int.reduceMod UInt8.reduceDiv UInt8.reduceMul
end Go.Fv
/-
 Marks in the environment; a view becomes the row; states that say less, at a function's end.
-/
namespace Go.Fv
open Go.RowKit
section
variable {P:Program} {w0:World} {T0:Bs} {b0:Nat}
def marks:List Nat→List (Nat × AV)→List (Nat × AV)
 | [],env=>env
 | k::l,env=>(k,.dead)::marks l env
theorem CU:∀ (ks:List Nat) (env:List (Nat × AV)) (r:Nat) (v:AV),lk (marks ks env) r=some v→v=.dead∨lk env r=some v
 | [],env,r,v,h=>.inr h
 | k::ks,env,r,v,h=>by
  simp only [marks,lk] at h
  split at h
  ·cases h;exact .inl rfl
  ·exact CU ks env r v h
theorem bJ.mark (ks:List Nat) {s:S}:bJ w0 T0 b0 s { s with env:=marks ks s.env }:=by
 rintro H a w hH ⟨m,hm⟩
 refine ⟨m,{ size:=hm.size,nodef:=hm.nodef,below:=hm.below,held:=hm.held,rows:=hm.rows,sep:=hm.sep,env:=fun r v h=>?_ }⟩
 rcases CU ks s.env r v h with rfl|h
 ·exact .dead _
 ·exact hm.env r v h
theorem bJ.D6 (r i q:Nat) {s:S} {e:TypeId} {rv:au} (hr:s.get r=.pre i q) (hi:lk s.rows i=some (.row e rv)) (hq:q≤rv.len) :
  bJ w0 T0 b0 s ⟨s.n,(r,.own s.next)::s.env,(s.next,.row e (bF rv 0 q))::del s.rows i,s.next+1⟩:=by
 rintro H a w hH ⟨m,hm⟩
 have hl:lk s.env r=some (.pre i q):=by
  simp only [S.get] at hr
  cases hq:lk s.env r with
  | none=>rw [hq] at hr;cases hr
  | some z=>rw [hq] at hr;exact congrArg some hr
 obtain ⟨k,cells,hrc,hk,how,hO⟩:=(hm.rows i _ hi).2
 have hx:=hm.env r _ hl
 have hsub:=hrc.sub 0 q
 simp only [Nat.zero_mul,List.drop_zero,Nat.sub_zero] at hsub
 have hlen:(bF rv 0 q).len=q:=by rw [dW _ _ _ hq];omega
 have hsz:(bF rv 0 q).sz=rv.sz:=tJ _ _ _
 -- the slice itself
 have key:∃ hdr,(∀ b,blk hdr=some b→blk (m i)=some b)∧kE w e rv.sz hdr q (cells.take (q*rv.sz))∧a.tmps.getD r undef=hdr:=by
  generalize a.tmps.getD r undef=v at hx
  cases hx with
  | pre _ _ l cap ad hi2 hv hnl=>
   have hv':m i=.slice ad l cap:=hv
   refine ⟨_,fun b hb=>?_,⟨?_,?_⟩,rfl⟩
   ·rw [hv'];cases ad<;>exact hb
   ·rw [List.length_take,hrc.len]
    have:q*rv.sz≤rv.len*rv.sz:=Nat.mul_le_mul_right _ hq
    omega
   ·rcases how.2 with ⟨hv2,hz⟩|⟨g,cap2,cur,fz,hv2,hmk,hh,hnc,hcm,hcs,htake⟩
    ·rw [hv'] at hv2
     cases hv2
     exact .inl ⟨by rw [show q=0 by omega],by omega⟩
    ·rw [hv'] at hv2
     cases hv2
     refine .inr ⟨g,cap,cur,fz,rfl,hmk,hh,by omega,hcm,hcs,?_⟩
     rw [←htake,List.take_take,Nat.min_eq_left (Nat.mul_le_mul_right _ (by omega))]
 obtain ⟨hdr,h1,h2,h3⟩:=key
 have hrep:=hm.Jl hm.below hi (fun _ _ _=>rfl) (.row e (bF rv 0 q)) hdr (fun b hb _=>h1 b hb) (fun c hle hw=>⟨q,_,hsub.mono hle,hlen,by rw [hw,hsz];exact h2,fun b hb=>hO b (h1 b hb)⟩)
 have hone:hdr.oneCell'=true:=by rcases h2.2 with ⟨e,_⟩|⟨_,_,_,_,e,_⟩<;>rw [e]<;>rfl
 have hown:=(iW hrep hone).held _ (.head _)
 refine ⟨_,hrep.Fq (r:=r) (x:=.own s.next) ?_⟩
 rw [h3]
 exact hown
def zN (s:S):List (Nat × AV)→Prop
 | []=>True
 |(r,v)::l=>s.get r=v∧zN s l
theorem vW {s:S}:∀ {l:List (Nat × AV)},zN s l→∀ r v,(r,v)∈l→s.get r=v
 |(q,u)::l,h,r,v,hm=>by
  rcases List.mem_cons.1 hm with e|hm
  ·cases e;exact h.1
  ·exact vW h.2 r v hm
theorem bJ.sub {s:S} {env:List (Nat × AV)} (h:zN s env):bJ w0 T0 b0 s ⟨s.n,env,s.rows,s.next⟩:=by
 rintro H a w hH ⟨m,hm⟩
 refine ⟨m,{ size:=hm.size,nodef:=hm.nodef,below:=hm.below,held:=hm.held,rows:=hm.rows,sep:=hm.sep,env:=fun r v hv=>?_ }⟩
 have h1:=vW h r v (bM hv)
 simp only [S.get] at h1
 cases hq:lk s.env r with
 | none=>rw [hq] at h1;subst h1;exact .dead _
 | some y=>rw [hq] at h1;subst h1;exact hm.env r y hq
def aX (P:Program) (w0:World) (T0:Bs) (b0:Nat) (c:Code) (s:S) [Q:Na]:Prop:=aG P w0 T0 b0 c s Q.q
@[congr] theorem JK {c:Code} {s s':S} {Q:Na} (h:s=s'):@aX P w0 T0 b0 c s Q=@aX P w0 T0 b0 c s' Q:=by rw [h]
theorem aX.of {c:Code} {s:S} {Q:Exit→S→Prop} (h:aG P w0 T0 b0 c s Q):@aX P w0 T0 b0 c s ⟨Q⟩:=h
theorem aG.fJ [hG:mQ P w0 T0] {x y:Code} {s:S} {Q:Exit→S→Prop} (h:fC P w0 T0 b0 x (thenS (fun s'=>@aX P w0 T0 b0 y s' ⟨Q⟩) Q) s):aG P w0 T0 b0 (.seq x y) s Q:=aG.seq h
attribute [go_sem] zN
theorem kH.ent {k:Nat} {res:List ResultVar} {out:AV} {rows:List (Nat × Item)} {s s':S} (he:bJ w0 T0 k s s') (h:kH P w0 T0 k res out rows s'):kH P w0 T0 k res out rows s:=
 fun H a w hH hr=>h H a w hH (he H a w hH hr)
end
end Go.Fv
/-
 A family of owned rows becomes data: rows of rows that are done.
-/
namespace Go.Fv
theorem nV:∀ (L:List Item) (b i:Nat) (x:Item),L.length+b≤i→put (iy b L) i x=iy b L
 | [],_,_,_,_=>rfl
 | y::L,b,i,x,h=>by
  rw [List.length_cons] at h
  simp only [iy,put]
  rw [if_neg (by omega),nV L (b+1) i x (by omega)]
theorem LK:∀ x:AV,ren id x=x:=fun x=>by
 have hb:∃ n,below n x=true:=below_ex x
 obtain ⟨n,hn⟩:=hb
 exact fQ (b0:=n) (fun _ _=>rfl) x hn
where
 below_ex:∀ x:AV,∃ n,below n x=true:=fun x=>belowEx x
 belowEx:∀ x:AV,∃ n,below n x=true
  | .own i=>⟨i+1,by simp [below]⟩
  | .ptr i _=>⟨i+1,by simp [below]⟩
  | .elt i _ _ _=>⟨i+1,by simp [below]⟩
  | .pre i _=>⟨i+1,by simp [below]⟩
  | .suf i _ _ _=>⟨i+1,by simp [below]⟩
  | .agg cs=>belowExL cs
  | .tup cs=>belowExL cs
  | .fn _ cs=>belowExL cs
  | .cell _=>⟨0,rfl⟩
  | .dead=>⟨0,rfl⟩
  | .nilS=>⟨0,rfl⟩
  | .bool _=>⟨0,rfl⟩
  | .int _ _=>⟨0,rfl⟩
  | .str _=>⟨0,rfl⟩
  | .ro _=>⟨0,rfl⟩
  | .raw _=>⟨0,rfl⟩
  | .opt _ v=>belowEx v
  | .mp _ _=>⟨0,rfl⟩
 belowExL:∀ l:List AV,∃ n,aC n l=true
  | []=>⟨0,rfl⟩
  | x::l=>by
   obtain ⟨a,ha⟩:=belowEx x
   obtain ⟨c,hc⟩:=belowExL l
   exact ⟨max a c,by simp only [aC];rw [below_le (Nat.le_max_left a c) x ha,fE (Nat.le_max_right a c) l hc];rfl⟩
theorem BO {p:Nat→Nat} {s:S} {N:Nat}:∀ {l:List (Nat × AV)},(∀ x,x∈l→s.get x.1=ren p x.2∧Fv.below N x.2=true)→kT p s N l
 | [],_=>trivial
 |(r,v)::l,h=>⟨h (r,v) (.head _),BO fun x hx=>h x (.tail _ hx)⟩
theorem FY {p:Nat→Nat} {rows:List (Nat × Item)} {N:Nat}:∀ {l:List (Nat × Item)},(∀ x,x∈l→lk rows (p x.1)=some (x.2.ren p)∧x.2.below N=true)→yg p rows N l
 | [],_=>trivial
 |(r,v)::l,h=>⟨h (r,v) (.head _),FY fun x hx=>h x (.tail _ hx)⟩
theorem J4 (k:Nat) (q:au) (b:Nat) (hb:b≤k) (it:Item) (h:it.below b=true):Iw k q it=it:=by
 cases it with
 | row e r=>
  cases r with
  | objs sz l=>
   simp only [Iw,Jz]
   congr 2
   conv=>rhs;rw [←List.map_id l]
   refine List.map_congr_left fun x hx=>jZ k q b hb x ?_
   simp only [Item.below,dN,List.all_eq_true] at h
   exact h x hx
  | _=>rfl
 | box e cs=>simp only [Iw];rw [jZ k q b hb cs h]
 | map ks vs=>
  simp only [Item.below,Bool.and_eq_true] at h
  simp only [Iw];rw [jZ k q b hb ks h.1,jZ k q b hb vs h.2]
 | iter _ _ _=>rfl
 | siter _ _=>rfl
theorem Item.FU {n:Nat} (it:Item) (h:it.below n=true):it.ren id=it:=Item.fQ (b0:=n) (fun _ _=>rfl) it h
section
variable {w0:World} {T0:Bs} {b0:Nat}
end
end Go.Fv
/-
 Families of owned rows whose names stand beside other cells: elements f i (name).
-/
namespace Go.Fv
class rY (f:Nat→AV→List AV):Prop where
 ren:∀ p i v,bW p (f i v)=f i (Fv.ren p v)
 bel:∀ n i v,aC n (f i v)=Fv.below n v
 fz:∀ k q i v,wz k q (f i v)=f i (Fv.fz k q v)
 nid:∀ i v,aV (f i v)=bn v
section
variable {f:Nat→AV→List AV} [hf:rY f]
theorem zQ (b n:Nat) {k:Nat} (h:k<n):(dO f b n).getD k []=f k (.own (k+b)):=by
 rw [List.getD_eq_getElem?_getD,BP h];rfl
theorem Et {p:Nat→Nat} {b n:Nat} (h:∀ i,i<n→p (i+b)=i+b):(dO f b n).map (bW p)=dO f b n:=by
 unfold dO
 rw [List.map_map]
 refine List.map_congr_left fun i hi=>?_
 have:=h i (List.mem_range.1 hi)
 simp [rY.ren,Fv.ren,this]
theorem Eu {b n k K:Nat} (h:k<n):(dO f b n).map (bW (p1 (k+b) K))=(dO f b n).set k (f k (.own K)):=by
 apply List.ext_getElem?
 intro i
 rw [List.getElem?_map,List.getElem?_set]
 by_cases hi:i<n
 ·rw [BP hi]
  by_cases e:k=i
  ·subst e;rw [if_pos rfl,if_pos (by rw [bH];exact h)];simp [rY.ren,Fv.ren,p1]
  ·rw [if_neg e]
   have:¬k+b=i+b:=by omega
   simp only [Option.map_some,rY.ren,Fv.ren,p1,if_neg (by omega:¬i+b=k+b)]
 ·have e:¬k=i:=by omega
  rw [if_neg e,List.getElem?_eq_none (by rw [bH];omega)]
  rfl
theorem uH {p:Nat→Nat} {b n K:Nat} (h:∀ i,i<n→p (i+b)=i+b) (hK:p (n+b)=K):(dO f b (n+1)).map (bW p)=dO f b n++[f n (.own K)]:=by
 rw [yO,List.map_append,Et h]
 simp [rY.ren,Fv.ren,hK]
theorem mW {b n N:Nat} (h:n+b≤N):(dO f b n).all (aC N)=true:=by
 rw [List.all_eq_true]
 intro x hx
 unfold dO at hx
 obtain ⟨i,hi,rfl⟩:=List.mem_map.1 hx
 have:=List.mem_range.1 hi
 rw [rY.bel]
 simp [Fv.below];omega
theorem MJ {b m:Nat} {q:au} (D:List (List AV)) (hD:D.all aV=true):(dO f b (m+1)++D).map (wz (m+b) q)=dO f b m++f m (.ro q)::D:=by
 rw [List.map_append,sV D hD,yO,List.map_append]
 have e1:(dO f b m).map (wz (m+b) q)=dO f b m:=by
  conv=>rhs;rw [←List.map_id (dO f b m)]
  refine List.map_congr_left fun x hx=>?_
  unfold dO at hx
  obtain ⟨i,hi,rfl⟩:=List.mem_map.1 hx
  have:=List.mem_range.1 hi
  simp only [rY.fz,Fv.fz,id]
  rw [if_neg (by omega)]
 rw [e1]
 simp [rY.fz,Fv.fz]
end
def JA (f:Nat→AV→List AV) (rs:List au):List (List AV):=rs.mapIdx fun i r=>f i (.ro r)
section
variable {w0:World} {T0:Bs} {b0:Nat} {f:Nat→AV→List AV} [hf:rY f]
theorem bJ.J6 {n b c0 m sz:Nat} {e e2:TypeId} {rs:List au} {C:List (Nat × Item)} {env:List (Nat × AV)} {D:List (List AV)} (hD:D.all aV=true) (hb0:b0≤b) (hm:rs.length=m+1) (q:au) (hq:rs[m]?=some q) (hid:∀ r,r∈rs→cZ r=true)
  (henv:∀ x,x∈env→lk env x.1=some x.2∧Fv.below b x.2=true) (hc0:c0<b) (hC:∀ x,x∈C→x.1<b∧x.1≠c0∧lk C x.1=some x.2∧x.2.below b=true) :
  bJ w0 T0 b0 ⟨n,env,(c0,.row e (.objs sz (dO f b (m+1)++D)))::(C++iy b (rs.map (Item.row e2))),rs.length+b⟩
   ⟨n,env,(c0,.row e (.objs sz (dO f b m++f m (.ro q)::D)))::(C++iy b ((rs.take m).map (Item.row e2))),m+b⟩:=by
 have hqid:cZ q=true:=hid q (List.mem_of_getElem? hq)
 have hlkC:∀ x,x∈C→∀ R,lk ((c0,R)::(C++iy b (rs.map (Item.row e2)))) x.1=some x.2:=fun x hx R=>by
  obtain ⟨_,h2,h3,_⟩:=hC x hx
  rw [gq (fun e=>h2 e.symm),jG,h3]
 have hlkF:∀ j (hj:j<rs.length) R,lk ((c0,R)::(C++iy b (rs.map (Item.row e2)))) (j+b)=some (.row e2 rs[j]):=fun j hj R=>by
  rw [gq (by omega),jG]
  cases hx:lk C (j+b) with
  | some y=>have:=(hC _ (bM hx)).1;simp only at this;omega
  | none=>exact IW (by simp [hj])
 have hqm:rs[m]=q:=by rw [List.getElem?_eq_getElem (by omega)] at hq;exact Option.some.inj hq
 refine bJ.trans (bJ.fz (m+b) (e:=e2) (r:=q) (by rw [hlkF m (by omega),hqm]) hqid (by omega)) ?_
 have hN:m+b=(rs.take m).length+b:=by rw [List.length_take];omega
 refine bJ.MH (C:=(c0,.row e (.objs sz (dO f b m++f m (.ro q)::D)))::C) id hN rfl (by omega) (fun _ _=>rfl) ?_ ?_ ?_ ?_ ?_ (fun _ _ _ _ h=>h)
 ·intro x hx
  rcases List.mem_cons.1 hx with rfl|hx
  ·exact hc0
  ·exact (hC x hx).1
 ·refine BO fun x hx=>?_
  obtain ⟨h1,h2⟩:=henv x hx
  refine ⟨?_,below_le (by omega) _ h2⟩
  simp only [S.get,S.fz,Ej,h1,Option.map_some]
  rw [zS (m+b) q b (by omega) _ h2,LK]
 ·refine FY fun x hx=>?_
  rcases List.mem_cons.1 hx with rfl|hx
  ·refine ⟨?_,?_⟩
   ·simp only [S.fz,jH,id]
    rw [if_neg (by omega),nM,Option.map_some]
    have hb:(Item.row e (.objs sz (dO f b m++f m (.ro q)::D))).below (m+b)=true:=by
     simp only [Item.below,dN,List.all_append,List.all_cons,Bool.and_eq_true]
     refine ⟨mW (f:=f) (Nat.le_refl _),by rw [rY.bel];rfl,?_⟩
     rw [List.all_eq_true] at hD ⊢
     exact fun y hy=>dI _ _ (hD y hy)
    rw [Item.FU _ hb]
    simp only [Iw,Jz]
    rw [MJ D hD]
   ·simp only [Item.below,dN,List.all_append,List.all_cons,Bool.and_eq_true]
    refine ⟨mW (f:=f) (by omega),by rw [rY.bel];rfl,?_⟩
    rw [List.all_eq_true] at hD ⊢
    exact fun y hy=>dI _ _ (hD y hy)
  ·obtain ⟨h1,h2,h3,h4⟩:=hC x hx
   refine ⟨?_,?_⟩
   ·simp only [S.fz,jH,id]
    rw [if_neg (by omega),hlkC x hx,Option.map_some,J4 (m+b) q b (by omega) _ h4,Item.FU _ h4]
   ·cases hx2:x.2 with
    | row e' r=>rw [hx2] at h4;exact Gf (by omega) r h4
    | box e' cs=>rw [hx2] at h4;exact fE (by omega) cs h4
    | map ks vs=>rw [hx2] at h4;simp only [Item.below,Bool.and_eq_true] at h4 ⊢;exact ⟨fE (by omega) ks h4.1,fE (by omega) vs h4.2⟩
    | iter a' b' c'=>rw [hx2] at h4;simp only [Item.below,decide_eq_true_eq] at h4 ⊢;omega
    | siter a' b'=>rfl
 ·exact fun r hr=>hid r (List.mem_of_mem_take hr)
 ·intro j hj
  rw [List.length_take] at hj
  simp only [S.fz,jH,id]
  rw [if_neg (by omega),hlkF j (by omega),Option.map_some,List.getElem_take]
  have h1:=hid rs[j] (List.getElem_mem _)
  simp only [Iw]
  haveI:iL rs[j]:=⟨h1⟩
  rw [Iy]
theorem bJ.Iu {n b c0 sz:Nat} {e e2:TypeId} {C:List (Nat × Item)} {env:List (Nat × AV)} (hb0:b0≤b)
  (henv:∀ x,x∈env→lk env x.1=some x.2∧Fv.below b x.2=true) (hc0:c0<b) (hC:∀ x,x∈C→x.1<b∧x.1≠c0∧lk C x.1=some x.2∧x.2.below b=true) :
  ∀ (m:Nat) (rs:List au) (D:List (List AV)),rs.length=m→(∀ r,r∈rs→cZ r=true)→D.all aV=true →
  bJ w0 T0 b0 ⟨n,env,(c0,.row e (.objs sz (dO f b m++D)))::(C++iy b (rs.map (Item.row e2))),m+b⟩
   ⟨n,env,(c0,.row e (.objs sz (JA f rs++D)))::C,b⟩
 | 0,rs,D,hm,_,_=>by
  have:rs=[]:=List.eq_nil_of_length_eq_zero hm
  subst this
  simp only [JA,List.mapIdx_nil,List.map_nil,iy,List.append_nil,dO,List.range_zero,List.nil_append,Nat.zero_add]
  exact bJ.refl _
 | m+1,rs,D,hm,hid,hD=>by
  have hlt:m<rs.length:=by omega
  have hstep:=bJ.J6 (f:=f) (sz:=sz) (w0:=w0) (T0:=T0) (b0:=b0) (n:=n) (e:=e) (e2:=e2) (rs:=rs) (C:=C) (env:=env) (D:=D) hD hb0 hm rs[m] (by simp) hid henv hc0 hC
  rw [hm] at hstep
  refine hstep.trans ?_
  have ih:=bJ.Iu (sz:=sz) (n:=n) (e:=e) (e2:=e2) hb0 henv hc0 hC m (rs.take m) (f m (.ro rs[m])::D) (by rw [List.length_take];omega) (fun r hr=>hid r (List.mem_of_mem_take hr)) (by
   simp only [List.all_cons,Bool.and_eq_true];exact ⟨by rw [rY.nid];rfl,hD⟩)
  have e0:JA f rs=JA f (rs.take m)++[f m (.ro rs[m])]:=by
   have e2:rs=rs.take m++[rs[m]]:=by rw [←List.take_succ_eq_append_getElem hlt,List.take_of_length_le (by omega)]
   have hl2:(rs.take m).length=m:=by rw [List.length_take];omega
   generalize rs[m]=x at *
   generalize rs.take m=y at *
   subst e2
   simp only [JA,List.mapIdx_append,List.mapIdx_cons,List.mapIdx_nil,hl2,Nat.zero_add]
  have e1:JA f (rs.take m)++f m (.ro rs[m])::D=JA f rs++D:=by
   rw [e0,List.append_assoc];rfl
  rw [e1] at ih
  exact ih
end
end Go.Fv
