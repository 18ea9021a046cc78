/-
  A part of the proof of the claim: walks over the program's functions and the plain laws that these need. No condition of its own.
-/
import Derived.Test.YtaahmkhlhgkfpaaDoorFvPart10
import Derived.Test.YtaahmkhlhgkfpaaDoorFvPart6
import Derived.Shelf.Vars
import Derived.Handed
import Derived.LaidSub
import Derived.Lib.LaidTab
import Derived.ChangeArms
import Derived.ChangeSlices
import Derived.Carry
import Derived.ProofKit
set_option linter.unusedSectionVars false
set_option linter.unusedVariables false
set_option linter.unusedSimpArgs false
set_option linter.unnecessarySimpa false
/-
 Contracts of functions that are given memory, which they turn and hand back.
-/
namespace Go.Fv
open Go.RowKit
def xK (w:World) (T g:Nat→Prop) (m0:Nat→Value) (k:Nat) (rows0:List (Nat × Item)):Prop:=
 (∀ i it,lk rows0 i=some it→i<k∧aG ⟨w,T,m0,k⟩ g (m0 i) it) ∧
 (∀ i j it jt b,lk rows0 i=some it→lk rows0 j=some jt→blk (m0 i)=some b→blk (m0 j)=some b→i=j) ∧
 (∀ b,T b→¬g b)
def En (P:Program) (f:Nat) (args:List AV) (rows0:List (Nat × Item)) (k:Nat) (out:AV) (rows:List (Nat × Item)):Prop:=
 Enter P f∧∀ (w:World) (T g:Nat→Prop) (m0:Nat→Value) (vals:List Value),xK w T g m0 k rows0→mV P w→(∀ (b:Nat) (q:GK),Ib P b=some q→¬g b)→bg ⟨w,T,m0,k⟩ args vals →
  Calls P f vals.toArray w fun e w'=>∃ v,e=.returned v∧aO g w w'∧∃ m N,(∀ i,i<k→m i=m0 i)∧k≤N ∧
   Rv ⟨w',allow ⟨fun b=>T b∨g b,g⟩ w.heap.size m rows,m,N⟩ out v ∧
   (∀ i it,lk rows i=some it→i<N∧aG ⟨w',allow ⟨fun b=>T b∨g b,g⟩ w.heap.size m rows,m,N⟩ (ownB ⟨fun b=>T b∨g b,g⟩ w.heap.size) (m i) it) ∧
   (∀ i j it jt b,lk rows i=some it→lk rows j=some jt→blk (m i)=some b→blk (m j)=some b→i=j)
section
variable {P:Program} {w0:World} {T0:Bs}
def vM (P:Program) (w0:World) (T0:Bs) (k:Nat) (res:List ResultVar) (out:AV) (rows:List (Nat × Item)) (s:S):Prop:=
 ∀ (H:List (AV × Value)) (a:Act) (w:World),sF k H→Rep w0 T0 H s a w→∃ v,(∀ (fn:Func),fn.results=res.toArray→(results fn a.tmps).run P w=.ok v w) ∧
  ∃ m N,k≤N∧(∀ p,p∈H→Rv ⟨w,allow T0 w0.heap.size m rows,m,N⟩ p.1 p.2)∧Rv ⟨w,allow T0 w0.heap.size m rows,m,N⟩ out v ∧
   (∀ i it,lk rows i=some it→i<N∧aG ⟨w,allow T0 w0.heap.size m rows,m,N⟩ (ownB T0 w0.heap.size) (m i) it) ∧
   (∀ i j it jt b,lk rows i=some it→lk rows j=some jt→blk (m i)=some b→blk (m j)=some b→i=j)
def Jg (P:Program) (w0:World) (T0:Bs) (k:Nat) (res:List ResultVar) (out:AV) (rows:List (Nat × Item)):Exit→S→Prop
 | .normal,s=>vM P w0 T0 k res out rows s
 | .ret,s=>vM P w0 T0 k res out rows s
 | _,_=>False
@[congr] theorem Jw {k:Nat} {res:List ResultVar} {out:AV} {rows:List (Nat × Item)} {s s':S} (h:s=s'):vM P w0 T0 k res out rows s=vM P w0 T0 k res out rows s':=by rw [h]
theorem vM.of {k:Nat} (l:List (Nat × Nat)) (N:Nat) (hl:∀ x,x∈l→k≤x.1) (hk:k≤N) {res:List ResultVar} {out:AV} {rows:List (Nat × Item)} {s:S} (h:qA P s res (fun vs=>gZ vs=ren (pm l) out)) (hb:Fv.below N out=true) (hr:gG (pm l) s.rows N rows):vM P w0 T0 k res out rows s:=by
 rintro H a w hH ⟨m,hm⟩
 obtain ⟨vs,us,he,hrun,hvs⟩:=lH hm h
 have hlow:∀ i,i<k→pm l i=i:=by
  intro i hi
  unfold pm
  cases h:lk l i with
  | none=>rfl
  | some j=>have:=hl _ (bJ h);simp at this;omega
 have hrv:Rv (ah T0 w0.heap.size m s w) (gZ vs) (Di us):=by
  cases hvs with
  | nil=>exact .tup _ _ .nil
  | cons x v l us hx ht=>
   cases ht with
   | nil=>exact hx
   | cons x' v' l' us' hx' ht'=>exact .tup _ _ (.cons _ _ _ _ hx (.cons _ _ _ _ hx' ht'))
 have hren:iK (pm l) (ah T0 w0.heap.size m s w) ⟨w,allow T0 w0.heap.size (fun i=>m (pm l i)) rows,fun i=>m (pm l i),N⟩:=
  {m:=fun _ _=>rfl,
   t:=by
    intro b ⟨h1,h2⟩ _
    refine ⟨⟨h1,fun i it hi e=>?_⟩,rfl⟩
    obtain ⟨_,h3,_⟩:=bI hr i it (bJ hi)
    exact h2 _ _ h3 e }
 refine ⟨_,fun fn hf=>iE hf a.tmps hrun,fun i=>m (pm l i),N,hk,fun p hp=>?_,Rv.ren hren out hb (by rw [←he];exact hrv),fun i it hi=>?_,fun i j it jt b hi hj hbi hbj=>?_⟩
 ·have h1:=hH p hp
  refine Rv.ren hren p.1 (below_le hk _ h1) ?_
  rw [jY hlow _ h1];exact hm.held p hp
 ·obtain ⟨h1,h2,h3⟩:=bI hr i it (bJ hi)
  exact ⟨h1,aG.ren hren rfl h3 (hm.rows _ _ h2).2⟩
 ·obtain ⟨_,h2,_⟩:=bI hr i it (bJ hi)
  obtain ⟨_,h2',_⟩:=bI hr j jt (bJ hj)
  exact mF hr i j it jt (bJ hi) (bJ hj) (hm.sep _ _ _ _ b h2 h2' hbi hbj)
theorem vM.auto {k:Nat} (N:Nat) (hk:k≤N) {res:List ResultVar} {out:AV} {rows:List (Nat × Item)} {s:S} (h:qA P s res (fun vs=>gZ vs=ren (pm (wR k (Aj s res out rows))) out)) (hb:Fv.below N out=true) (hr:gG (pm (wR k (Aj s res out rows))) s.rows N rows):vM P w0 T0 k res out rows s:=
 vM.of _ N (tC k _) hk h hb hr
theorem aG.oneCell {c:Ctx} {O:Nat→Prop} {v:Value} {it:Item} (h:aG c O v it):v.oneCell'=true:=by
 cases it with
 | row e r=>
  obtain ⟨n,cells,_,_,ho,_⟩:=h
  rcases ho.2 with ⟨rfl,_⟩|⟨g,cap,cur,fz,rfl,_⟩<;>rfl
 | box e cs=>obtain ⟨g,vs,rfl,_⟩:=h;rfl
 | map ks vs=>obtain ⟨g,es,clock,rfl,_⟩:=h;rfl
 | iter mp since seen=>obtain ⟨g,q,sn,last,rfl,_⟩:=h;rfl
 | siter t pos=>obtain ⟨g,rfl,_⟩:=h;rfl
theorem En.of_run {f:Nat} {fn:Func} {c:Code} {args:List AV} {rows0:List (Nat × Item)} {k:Nat} {out:AV} {rows:List (Nat × Item)} (hf:P.funcs[f]?=some fn) (hb:fn.body=some c)
  (hnm:(fn.name == "runtime.NumGoroutine")=false) (hn:args.length≤fn.ntmps) (hcov:∀ j,j<k→∃ it,lk rows0 j=some it) (res:List ResultVar) (hres:fn.results=res.toArray)
  (h:∀ (w0:World) (T0:Bs) [mQ P w0 T0],gV P w0 T0 k c ⟨fn.ntmps,aI 0 args,rows0,k⟩ (Jg P w0 T0 k res out rows)):En P f args rows0 k out rows:=by
 refine ⟨⟨fn,hf,by rw [hb];rfl,hnm⟩,fun w T g m0 vals hG hgl hgg hv=>?_⟩
 haveI:mQ P w ⟨fun b=>T b∨g b,g⟩:=⟨hgl,fun b q hq h=>hgg b q hq h.1⟩
 obtain ⟨hrows,hsep,hTg⟩:=hG
 refine calls_of_wp hf hb ?_
 have hlen:=hv.length
 have hle:bC (⟨w,T,m0,k⟩:Ctx) (ah ⟨fun b=>T b∨g b,g⟩ w.heap.size m0 ⟨fn.ntmps,aI 0 args,rows0,k⟩ w):=
  ⟨Nat.le_refl _,fun _ _=>rfl,fun b hb _=>⟨⟨.inr (.inl hb),fun i it hi e=>hTg b hb ((hrows i it hi).2.blk b e).1⟩,rfl⟩⟩
 have hrep:aH w ⟨fun b=>T b∨g b,g⟩ (rows0.map fun p=>(.own p.1,m0 p.1)) ⟨fn.ntmps,aI 0 args,rows0,k⟩ { tmps:=vals.toArray++Array.replicate (fn.ntmps - vals.toArray.size) undef,defers:=[] } w m0:=
  {size:=by simp;omega,nodef:=rfl,below:=aO.refl _ _,
   env:=by
    intro r v hr
    obtain ⟨u,h1,h2⟩:=lV 0 [] rfl hv r v hr
    have e:((vals.toArray++Array.replicate (fn.ntmps - vals.toArray.size) undef).getD r undef)=u:=by
     have h1':vals[r]?=some u:=by simpa using h1
     have hlt:r<vals.length:=(List.getElem?_eq_some_iff.1 h1').1
     rw [Array.getD_eq_getD_getElem?,Array.getElem?_append_left (by simpa using hlt)]
     simp [h1']
    rw [e];exact h2.mono hle,
   held:=by
    intro p hp
    obtain ⟨q,hq,rfl⟩:=List.mem_map.1 hp
    obtain ⟨it,hit⟩:=D8 hq
    obtain ⟨h1,h2⟩:=hrows _ _ hit
    exact .own q.1 h1 h2.oneCell,
   rows:=fun i it hi=>⟨(hrows i it hi).1,(((hrows i it hi).2).mono hle fun _ _=>rfl).own fun b hb=>.inr ⟨hb,.inr hb⟩⟩,sep:=hsep }
 have hH:sF k (rows0.map fun p=>(AV.own p.1,m0 p.1)):=by
  intro p hp
  exact (hrep.held p hp).ids
 refine wp_mono (h w _ _ _ w hH ⟨_,hrep⟩) ?_
 rintro e a w' ⟨s',hq,hr⟩
 have fin:vM P w ⟨fun b=>T b∨g b,g⟩ k res out rows s'→a.defers=[]∧∃ v,(results fn a.tmps).run P w'=.ok v w'∧∃ v',Ending.returned v=.returned v'∧aO g w w'∧∃ m N,(∀ i,i<k→m i=m0 i)∧k≤N ∧
   Rv ⟨w',allow ⟨fun b=>T b∨g b,g⟩ w.heap.size m rows,m,N⟩ out v' ∧
   (∀ i it,lk rows i=some it→i<N∧aG ⟨w',allow ⟨fun b=>T b∨g b,g⟩ w.heap.size m rows,m,N⟩ (ownB ⟨fun b=>T b∨g b,g⟩ w.heap.size) (m i) it) ∧
   (∀ i j it jt b,lk rows i=some it→lk rows j=some jt→blk (m i)=some b→blk (m j)=some b→i=j):=by
  intro hret
  obtain ⟨v,hv,m,N,hkN,hheld,hout,hit,hsp⟩:=hret _ a w' hH hr
  obtain ⟨m',hm⟩:=hr
  refine ⟨hm.nodef,v,hv fn hres,v,rfl,hm.below.mono fun b hb=>hb.1,m,N,fun i hi=>?_,hkN,hout,hit,hsp⟩
  obtain ⟨it,hi'⟩:=hcov i hi
  have:=hheld (.own i,m0 i) (List.mem_map.2 ⟨(i,it),bJ hi',rfl⟩)
  generalize hmi:m0 i=mi at this
  cases this
  rfl
 cases e with
 | normal=>exact fin hq
 | ret=>exact fin hq
 | _=>exact hq.elim
theorem En.bH {f:Nat} {fn:Func} {c:Code} {args:List AV} {rows0:List (Nat × Item)} {k:Nat} {out:AV} {rows:List (Nat × Item)} (hf:P.funcs[f]?=some fn) (hb:fn.body=some c)
  (hnm:(fn.name == "runtime.NumGoroutine")=false) (hn:args.length≤fn.ntmps) (hcov:∀ j,j<k→∃ it,lk rows0 j=some it) (res:List ResultVar) (hres:fn.results=res.toArray)
  (h:∀ (w0:World) (T0:Bs) [mQ P w0 T0],dX P w0 T0 k c (Jg P w0 T0 k res out rows) ⟨fn.ntmps,aI 0 args,rows0,k⟩):En P f args rows0 k out rows:=
 .of_run hf hb hnm hn hcov res hres fun w0 T0=>.of (h w0 T0)
/-! ### The call -/
def kE (ids:List Nat) (next:Nat) (j:Nat):Nat:=match ids[j]? with|some i=>i|none=>next+(j - ids.length)
def nM (p:Nat→Nat):List (Nat × Item)→List (Nat × Item)
 | []=>[]
 |(i,it)::l=>(p i,it.ren p)::nM p l
def zL {α:Type}:List (Nat × α)→List Nat→List (Nat × α)
 | l,[]=>l
 | l,i::is=>zL (del l i) is
theorem D7 {α:Type}:∀ (is:List Nat) (l:List (Nat × α)) (j:Nat),lk (zL l is) j=if j∈is then none else lk l j
 | [],l,j=>by simp [zL]
 | i::is,l,j=>by
  simp only [zL]
  rw [D7 is,jW]
  by_cases h1:j∈is
  ·simp [h1]
  ·by_cases h2:j=i<;>simp [h1,h2]
def S.Jk (s:S) (ids:List Nat) (N:Nat) (rows:List (Nat × Item)):S:={ s with rows:=nM (kE ids s.next) rows++zL s.rows ids,next:=s.next+(N - ids.length) }
theorem oL {p:Nat→Nat} {S:Nat→Prop} (hp:∀ i j,S i→S j→p i=p j→i=j):∀ {l:List (Nat × Item)},(∀ x,x∈l→S x.1)→∀ {i:Nat} {it:Item},lk (nM p l) i=some it→∃ j jt,i=p j∧lk l j=some jt∧it=jt.ren p
 |(j,jt)::l,hS,i,it,h=>by
  simp only [nM,lk] at h
  split at h
  ·rename_i e;cases h;exact ⟨j,jt,e.symm,by simp [lk],rfl⟩
  ·rename_i e
   obtain ⟨q,qt,h1,h2,h3⟩:=oL hp (fun x hx=>hS x (.tail _ hx)) h
   refine ⟨q,qt,h1,?_,h3⟩
   simp only [lk];rw [if_neg (fun e'=>e (by rw [h1,e']))];exact h2
theorem EU:∀ {l:List Nat} {i j a:Nat},l.Nodup→l[i]?=some a→l[j]?=some a→i=j:=by
 intro l i j a hd hi hj
 exact (List.getElem?_inj (List.getElem?_eq_some_iff.1 hi).1 hd).1 (hi.trans hj.symm)
def KR (ids:List Nat) (next:Nat) (rows0:List (Nat × Item)) (m:Nat→Value) (b:Nat):Prop:=∃ j it,lk rows0 j=some it∧blk (m (kE ids next j))=some b
def Js (w:World) (T g:Nat→Prop) (m0:Nat→Value) (k:Nat) (out:AV) (rows:List (Nat × Item)) (e:Ending) (w':World):Prop:=
 ∃ v,e=.returned v∧aO g w w'∧∃ m N,(∀ i,i<k→m i=m0 i)∧k≤N ∧
   Rv ⟨w',allow ⟨fun b=>T b∨g b,g⟩ w.heap.size m rows,m,N⟩ out v ∧
   (∀ i it,lk rows i=some it→i<N∧aG ⟨w',allow ⟨fun b=>T b∨g b,g⟩ w.heap.size m rows,m,N⟩ (ownB ⟨fun b=>T b∨g b,g⟩ w.heap.size) (m i) it) ∧
   (∀ i j it jt b,lk rows i=some it→lk rows j=some jt→blk (m i)=some b→blk (m j)=some b→i=j)
theorem ak.JE [hgb:mQ P w0 T0] {f:Nat} {args:List AV} {rows0:List (Nat × Item)} {out:AV} {rows:List (Nat × Item)} {s:S} {K:AV→S→Prop} (ids:List Nat) (hE:Enter P f) (hd:ids.Nodup)
  (hcall:∀ (H:List (AV × Value)) (a:Act) (w:World) (m:Nat→Value) (vals:List Value),aH w0 T0 H s a w m→bg (ah T0 w0.heap.size m s w) args vals →
   xK w (allow T0 w0.heap.size m s.rows) (KR ids s.next rows0 m) (fun j=>m (kE ids s.next j)) ids.length rows0→(∀ (b:Nat) (q:GK),Ib P b=some q→¬KR ids s.next rows0 m b) →
   Calls P f vals.toArray w (Js w (allow T0 w0.heap.size m s.rows) (KR ids s.next rows0 m) (fun j=>m (kE ids s.next j)) ids.length out rows))
  (h0:gG (kE ids s.next) s.rows ids.length rows0) (hcov:∀ j,j<ids.length→∃ it,lk rows0 j=some it) (N:Nat) (hkN:ids.length≤N) (hN:Fv.below N out=true) (hNr:dG N rows)
  (hk:K (ren (kE ids s.next) out) (s.Jk ids N rows)):@ak P w0 T0 f args s ⟨K⟩:=by
 refine ⟨hE,fun H a w m vals hm hv=>?_⟩
 have hp1:∀ j,j<ids.length→∃ i,ids[j]?=some i∧kE ids s.next j=i:=fun j hj=>⟨ids[j],List.getElem?_eq_getElem hj,by simp [kE,List.getElem?_eq_getElem hj]⟩
 have hp2:∀ j,ids.length≤j→kE ids s.next j=s.next+(j - ids.length):=fun j hj=>by simp [kE,List.getElem?_eq_none hj]
 have h0':∀ j it,lk rows0 j=some it→j<ids.length∧lk s.rows (kE ids s.next j)=some (it.ren (kE ids s.next))∧it.below ids.length=true:=fun j it hj=>bI h0 j it (bJ hj)
 have hmem:∀ i,i∈ids→∃ j it,j<ids.length∧kE ids s.next j=i∧lk rows0 j=some it:=by
  intro i hi
  obtain ⟨j,hj,e⟩:=List.getElem_of_mem hi
  obtain ⟨it,hit⟩:=hcov j hj
  exact ⟨j,it,hj,by simp [kE,List.getElem?_eq_getElem hj,e],hit⟩
 have hsrc:∀ j,j<ids.length→kE ids s.next j<s.next:=fun j hj=>by
  obtain ⟨it,hit⟩:=hcov j hj
  exact (hm.rows _ _ (h0' j it hit).2.1).1
 have hinj:∀ i j,kE ids s.next i=kE ids s.next j→i=j:=by
  intro i j e
  by_cases hi:i<ids.length<;>by_cases hj:j<ids.length
  ·obtain ⟨x,hx,ex⟩:=hp1 i hi
   obtain ⟨y,hy,ey⟩:=hp1 j hj
   rw [ex,ey] at e;subst e
   exact EU hd hx hy
  ·have:=hsrc i hi;rw [e,hp2 j (by omega)] at this;omega
  ·have:=hsrc j hj;rw [←e,hp2 i (by omega)] at this;omega
  ·rw [hp2 i (by omega),hp2 j (by omega)] at e;omega
 let T:Nat→Prop:=allow T0 w0.heap.size m s.rows
 let g:Nat→Prop:=fun b=>∃ j it,lk rows0 j=some it∧blk (m (kE ids s.next j))=some b
 let m0:Nat→Value:=fun j=>m (kE ids s.next j)
 have hctx:iK (kE ids s.next) (ah T0 w0.heap.size m s w) ⟨w,T,m0,ids.length⟩:=⟨fun _ _=>rfl,fun b hb _=>⟨hb,rfl⟩⟩
 have hown:∀ i it,lk s.rows i=some it→∀ b,blk (m i)=some b→ownB T0 w0.heap.size b∧b<w.heap.size:=fun i it hi b hb=>(hm.rows i it hi).2.blk b hb
 have hG:xK w T g m0 ids.length rows0:=by
  refine ⟨fun j it hj=>?_,fun i j it jt b hi hj hbi hbj=>?_,fun b hb hg=>?_⟩
  ·obtain ⟨h1,h2,h3⟩:=h0' j it hj
   refine ⟨h1,(aG.ren hctx rfl h3 (hm.rows _ _ h2).2).Jy fun b hb=>⟨j,it,hj,hb⟩⟩
  ·obtain ⟨_,h2,_⟩:=h0' i it hi
   obtain ⟨_,h2',_⟩:=h0' j jt hj
   exact hinj i j (hm.sep _ _ _ _ b h2 h2' hbi hbj)
  ·obtain ⟨j,it,hj,hbj⟩:=hg
   exact hb.2 _ _ (h0' j it hj).2.1 hbj
 have hgg:∀ (b:Nat) (q:GK),Ib P b=some q→¬g b:=by
  rintro b q hq ⟨j,it,hj,hb⟩
  obtain ⟨ob,hh,_⟩:=hgb.ok b q hq
  have hlt:=(Array.getElem?_eq_some_iff.1 hh).1
  rcases (hown _ _ (h0' j it hj).2.1 b hb).1 with h|h
  ·omega
  ·exact hgb.ng b q hq h
 refine (hcall H a w m vals hm hv hG hgg).mono ?_
 rintro e w' ⟨v,rfl,hbel,mo,No,hmo,hkNo,hout,hrows,hsep⟩
 refine ⟨v,rfl,_,_,hk,?_⟩
 have hgs:∀ b,g b→(∃ i it,lk s.rows i=some it∧blk (m i)=some b):=fun b ⟨j,it,hj,hb⟩=>⟨_,_,(h0' j it hj).2.1,hb⟩
 have hNr':=oW hNr
 have hitem:∀ i it,lk rows i=some it→aG ⟨w',allow ⟨fun b=>T b∨g b,g⟩ w.heap.size mo rows,mo,N⟩ (ownB ⟨fun b=>T b∨g b,g⟩ w.heap.size) (mo i) it:=fun i it hi=>((hrows i it hi).2).cut (hNr' i it hi).2
 let m2:Nat→Value:=fun i=>if i<s.next then m i else mo (ids.length+(i - s.next))
 have hm2:∀ i,i<s.next→m2 i=m i:=fun i hi=>if_pos hi
 have hm3:∀ j,m2 (kE ids s.next j)=mo j:=fun j=>by
  by_cases hj:j<ids.length
  ·rw [hm2 _ (hsrc j hj)];exact (hmo j hj).symm
  ·rw [hp2 j (by omega)]
   show (if s.next+(j - ids.length)<s.next then _ else _)=_
   rw [if_neg (by omega)];congr 1;omega
 have hlt:∀ i it,lk s.rows i=some it→i<s.next:=fun i it hi=>(hm.rows i it hi).1
 have hrest:∀ i it,lk (zL s.rows ids) i=some it→i∉ids∧lk s.rows i=some it:=by
  intro i it hi
  rw [D7] at hi
  split at hi
  ·cases hi
  ·rename_i e;exact ⟨e,hi⟩
 have hcases:∀ i it,lk (s.Jk ids N rows).rows i=some it→(∃ j jt,i=kE ids s.next j∧lk rows j=some jt∧it=jt.ren (kE ids s.next))∨(i∉ids∧lk s.rows i=some it):=by
  intro i it hi
  have hi':lk (nM (kE ids s.next) rows++zL s.rows ids) i=some it:=hi
  rw [qp] at hi'
  cases hq:lk (nM (kE ids s.next) rows) i with
  | some y=>
   rw [hq] at hi';cases hi'
   exact .inl (oL (S:=fun _=>True) (fun i j _ _ e=>hinj i j e) (fun _ _=>trivial) hq)
  | none=>rw [hq] at hi';exact .inr (hrest i it hi')
 have hnotg:∀ i it,i∉ids→lk s.rows i=some it→∀ b,blk (m i)=some b→¬g b:=by
  rintro i it hni hi b hb ⟨j,jt,hj,hbj⟩
  obtain ⟨h1,h2,_⟩:=h0' j jt hj
  have:=hm.sep _ _ _ _ b hi h2 hb hbj
  obtain ⟨x,hx,ex⟩:=hp1 j h1
  exact hni (by rw [this,ex];exact List.mem_of_getElem? hx)
 have hnewB:∀ j jt,lk rows j=some jt→∀ b,blk (mo j)=some b→w.heap.size≤b∨g b:=fun j jt hj b hbl=>(((hrows j jt hj).2.blk b hbl).1).imp id (·.1)
 have hle:bC (ah T0 w0.heap.size m s w) (ah T0 w0.heap.size m2 (s.Jk ids N rows) w'):=by
  refine ⟨Nat.le_add_right _ _,hm2,?_⟩
  intro b hb hltb
  have hbg:¬g b:=fun hg=>by
   obtain ⟨i,it,hi,hbi⟩:=hgs b hg
   exact hb.2 i it hi hbi
  refine ⟨⟨hb.1,fun i it hi e=>?_⟩,hbel.block b hltb hbg⟩
  rcases hcases i it hi with ⟨j,jt,rfl,hj,_⟩|⟨hni,hi'⟩
  ·rw [hm3] at e
   rcases hnewB j jt hj b e with h|h
   ·have hlt2:b<w.heap.size:=hltb;omega
   ·exact hbg h
  ·rw [hm2 i (hlt i it hi')] at e;exact hb.2 i it hi' e
 have hsh:qH (kE ids s.next) (⟨w',allow ⟨fun b=>T b∨g b,g⟩ w.heap.size mo rows,mo,N⟩:Ctx) (ah T0 w0.heap.size m2 (s.Jk ids N rows) w'):=by
  refine ⟨fun i hi=>?_,fun i _=>hm3 i,?_⟩
  ·show kE ids s.next i<s.next+(N - ids.length)
   by_cases hj:i<ids.length
   ·have:=hsrc i hj;omega
   ·rw [hp2 i (by omega)];have:i<N:=hi;omega
  intro b ⟨h1,h2⟩ _
  have hlt0:=hm.lt
  have hb1:w0.heap.size≤b∨T0.a b:=by
   rcases h1 with h1|h1|h1
   ·exact .inl (by omega)
   ·exact h1.1
   ·obtain ⟨i,it,hi,hbi⟩:=hgs b h1
    exact ((hown i it hi b hbi).1).imp id (·.2)
  refine ⟨⟨hb1,fun i it hi e=>?_⟩,rfl⟩
  rcases hcases i it hi with ⟨j,jt,rfl,hj,_⟩|⟨hni,hi'⟩
  ·rw [hm3] at e;exact h2 j jt hj e
  ·rw [hm2 i (hlt i it hi')] at e
   rcases h1 with h1|h1|h1
   ·have:=(hown i it hi' b e).2;omega
   ·exact h1.2 i it hi' e
   ·exact hnotg i it hni hi' b e h1
 have hOO:∀ b,ownB ⟨fun b=>T b∨g b,g⟩ w.heap.size b→ownB T0 w0.heap.size b:=fun b hb=>by
  rcases hb with hb|hb
  ·exact .inl (Nat.le_trans hm.lt hb)
  ·obtain ⟨i,it,hi,hbi⟩:=hgs b hb.1
   exact (hown i it hi b hbi).1
 refine ⟨m2,aH.hold (s:=s.Jk ids N rows) ?_ ((hout.cut hN).shift hsh)⟩
 refine { size:=hm.size,nodef:=hm.nodef,below:=?_,env:=fun r u hu=>(hm.env r u hu).mono hle,held:=fun q hq=>(hm.held q hq).mono hle,rows:=?_,sep:=?_ }
 ·refine hm.below.step hbel.os hbel.tape hbel.output hbel.size (fun b hb hn=>hbel.block b (Nat.lt_of_lt_of_le hb hm.lt) fun hg=>?_) hbel.drawn
  obtain ⟨i,it,hi,hbi⟩:=hgs b hg
  rcases (hown i it hi b hbi).1 with h|h
  ·omega
  ·exact hn h
 ·intro i it hi
  rcases hcases i it hi with ⟨j,jt,rfl,hj,rfl⟩|⟨hni,hi'⟩
  ·refine ⟨hsh.n j (hNr' j jt hj).1,?_⟩
   rw [hm3]
   exact (hitem j jt hj).shift hsh rfl hOO
  ·have hl:=hlt i it hi'
   refine ⟨by show i<s.next+_;omega,?_⟩
   rw [hm2 i hl]
   exact ((hm.rows i it hi').2).mono hle fun b hbl=>hbel.block b ((hown i it hi' b hbl).2) (hnotg i it hni hi' b hbl)
 ·intro i j it jt b hi hj hbi hbj
  rcases hcases i it hi with ⟨i',it',rfl,hi',_⟩|⟨hni,hi'⟩<;>rcases hcases j jt hj with ⟨j',jt',rfl,hj',_⟩|⟨hnj,hj'⟩
  ·rw [hm3] at hbi hbj
   rw [hsep i' j' it' jt' b hi' hj' hbi hbj]
  ·rw [hm3] at hbi;rw [hm2 j (hlt j jt hj')] at hbj
   have h5:=(hown j jt hj' b hbj).2
   rcases hnewB i' it' hi' b hbi with h|h
   ·omega
   ·exact absurd h (hnotg j jt hnj hj' b hbj)
  ·rw [hm3] at hbj;rw [hm2 i (hlt i it hi')] at hbi
   have h5:=(hown i it hi' b hbi).2
   rcases hnewB j' jt' hj' b hbj with h|h
   ·omega
   ·exact absurd h (hnotg i it hni hi' b hbi)
  ·rw [hm2 i (hlt i it hi')] at hbi;rw [hm2 j (hlt j jt hj')] at hbj
   exact hm.sep i j it jt b hi' hj' hbi hbj
theorem ak.io [hgb:mQ P w0 T0] {f:Nat} {args args':List AV} {rows0:List (Nat × Item)} {out:AV} {rows:List (Nat × Item)} {s:S} {K:AV→S→Prop} (ids:List Nat) (h:En P f args' rows0 ids.length out rows) (hd:ids.Nodup)
  (ha:args=dR (kE ids s.next) args') (hab:aB ids.length args'=true) (h0:gG (kE ids s.next) s.rows ids.length rows0) (hcov:∀ j,j<ids.length→∃ it,lk rows0 j=some it) (N:Nat) (hkN:ids.length≤N) (hN:Fv.below N out=true) (hNr:dG N rows)
  (hk:K (ren (kE ids s.next) out) (s.Jk ids N rows)):@ak P w0 T0 f args s ⟨K⟩:=by
 subst ha
 exact ak.JE ids h.1 hd (fun H a w m vals hm hv hG hgg=>by
  have hctx:iK (kE ids s.next) (ah T0 w0.heap.size m s w) ⟨w,allow T0 w0.heap.size m s.rows,fun j=>m (kE ids s.next j),ids.length⟩:=⟨fun _ _=>rfl,fun b hb _=>⟨hb,rfl⟩⟩
  exact h.2 w _ _ _ vals hG (mQ.at hm) hgg (bg.ren hctx args' hab hv)) h0 hcov N hkN hN hNr hk
theorem aG.iq {w:World} {T T':Nat→Prop} {m:Nat→Value} {N:Nat} {O:Nat→Prop} {v:Value} {it:Item} (ho:aG ⟨w,T,m,N⟩ O v it) (hn:kZ it=true):aG ⟨w,T',m,N⟩ O v it:=by
 cases it with
 | row e r=>obtain ⟨n,cells,hc,hq⟩:=ho;exact ⟨n,cells,hc.iq hn,hq⟩
 | box e cs=>obtain ⟨g,vs,hv',hg,hl,hq⟩:=ho;exact ⟨g,vs,hv',hg,hl.iq hn,hq⟩
 | map ks vs=>
  simp only [kZ,Bool.and_eq_true] at hn
  obtain ⟨g,es,clock,hv',hg,h1,h2,h3,h4,hq⟩:=ho;exact ⟨g,es,clock,hv',hg,h1.iq hn.1,h2.iq hn.2,h3,h4,hq⟩
 | iter mp since seen=>exact ho
 | siter t pos=>exact ho
end
end Go.Fv
/-
 What stands for families where they are lent; the end of a function whose results are only read.
-/
namespace Go.Fv
open Go.RowKit
section
variable {P:Program} {w0:World} {T0:Bs}
theorem bW.ro {res:List ResultVar} {out:AV} {s:S} (h:qA P s res (fun vs=>oQ s.rows (gZ vs) out)):bW P w0 T0 res out [] s:=by
 rintro a w ⟨m,hm⟩
 obtain ⟨vs,us,he,hrun,hvs⟩:=lH hm h
 have hrv:Rv (ah T0 w0.heap.size m s w) (gZ vs) (Di us):=by
  cases hvs with
  | nil=>exact .tup _ _ .nil
  | cons x v l us hx ht=>
   cases ht with
   | nil=>exact hx
   | cons x' v' l' us' hx' ht'=>exact .tup _ _ (.cons _ _ _ _ hx (.cons _ _ _ _ hx' ht'))
 have hal:∀ b,ownB T0 w0.heap.size b→allow T0 w0.heap.size (fun _=>undef) [] b:=fun b hb=>⟨hb.imp id (·.2),fun i it hi=>by simp [lk] at hi⟩
 have hl:vK w (ah T0 w0.heap.size m s w) s.rows (allow T0 w0.heap.size (fun _=>undef) []):=
  {hw:=rfl,t:=fun b hb=>⟨hb.1,fun i it hi=>by simp [lk] at hi⟩,
   own:=fun i e r hi=>by
    obtain ⟨n,cells,hc,hn,hq,hO⟩:=(hm.rows i _ hi).2
    exact ⟨fun b hb=>hal b (hO b hb),n,cells,hc,hn,hq⟩,
   box:=fun i e cs hi=>by
    obtain ⟨g,vs,hv,hg,hl,hh⟩:=(hm.rows i _ hi).2
    exact ⟨g,vs,hv,hal g hg,hl,hh⟩,
   map:=fun i ks vs hi=>by
    obtain ⟨g,es,clock,hv,hg,h1,h2,h3,h4,hh⟩:=(hm.rows i _ hi).2
    exact ⟨g,es,clock,hv,hal g hg,h1,h2,h3,h4,hh⟩ }
 refine ⟨_,fun fn hf=>iE hf a.tmps hrun,fun _=>undef,0,?_,fun i it hi=>by simp [lk] at hi,fun i j it jt b hi=>by simp [lk] at hi⟩
 generalize gZ vs=x at he hrv
 generalize hus:Di us=u at hrv
 unfold oQ at he
 split at he
 ·obtain ⟨l',ha,rfl⟩:=he
  cases hrv with
  | tup _ us' hv'=>exact .tup _ _ (jv hl _ ha hv')
 ·exact qg hl 6 _ he hrv
end
end Go.Fv
/-
 Steps of a walk that pay their side conditions by themselves.
-/
namespace Go.Fv
theorem aN.g {p K:Prop} (k:K) (h:p:=by first|omega|(with_reducible refine aN.intro ?_ ?_<;>omega)|(simp;done)|(simp;omega)):aN p K:=⟨h,k⟩
theorem dB.g {e:Int} {K:Int→Prop} (kk:K e) (h1:-9223372036854775808≤e:=by omega) (h2:e≤9223372036854775807:=by omega):dB .i64 e K:=dB.i64 h1 h2 kk
theorem dB.h {e:Int} {K:Int→Prop} (kk:K e) (h1:0≤e:=by omega) (h2:e≤255:=by omega):dB .u8 e K:=dB.u8 h1 h2 kk
theorem Ite.t {p:Prop} [Decidable p] {x y:Prop} (k:p→x) (h:¬p→False:=by (intro _;omega)):@Ite (Decidable.decide p) ⟨x⟩ ⟨y⟩:=Ite.decide k fun h'=>(h h').elim
theorem Ite.f {p:Prop} [Decidable p] {x y:Prop} (k:¬p→y) (h:p→False:=by (intro _;omega)):@Ite (Decidable.decide p) ⟨x⟩ ⟨y⟩:=Ite.decide (fun h'=>(h h').elim) k
class Stp (p:Prop) (q:outParam Prop):Prop where
 go:q→p
instance {p K:Prop}:Stp (vJ p K) (p→K):=⟨vJ.intro⟩
instance {K:Int→Prop}:Stp (@BF .i64 ⟨K⟩) (∀ n,(-9223372036854775808≤n∧n≤9223372036854775807)→K n):=⟨BF.i64⟩
instance (priority:=900) {b:Bool} {x y:Prop}:Stp (@Ite b ⟨x⟩ ⟨y⟩) ((b=true→x)∧(b=false→y)):=⟨fun h=>Ite.bool h.1 h.2⟩
instance {p:Prop} [Decidable p] {x y:Prop}:Stp (@Ite (Decidable.decide p) ⟨x⟩ ⟨y⟩) ((p→x)∧(¬p→y)):=⟨fun h=>Ite.decide h.1 h.2⟩
theorem rs {p q:Prop} [h:Stp p q] (k:q):p:=h.go k
theorem rc {p K:Prop} (k:K) (h:p:=by first|omega|(with_reducible refine aN.intro ?_ ?_<;>omega)|(simp;done)|(simp;omega)):aN p K:=⟨h,k⟩
theorem rl {e:Int} {K:Int→Prop} (k:K e) (h1:-9223372036854775808≤e:=by omega) (h2:e≤9223372036854775807:=by omega):dB .i64 e K:=dB.i64 h1 h2 k
theorem rh {e:Int} {K:Int→Prop} (k:K e) (h1:0≤e:=by omega) (h2:e≤255:=by omega):dB .u8 e K:=dB.u8 h1 h2 k
theorem rt {p:Prop} [Decidable p] {x y:Prop} (k:p→x) (h:¬p→False:=by (intro _;omega)):@Ite (Decidable.decide p) ⟨x⟩ ⟨y⟩:=Ite.decide k fun h'=>(h h').elim
theorem rf {p:Prop} [Decidable p] {x y:Prop} (k:¬p→y) (h:p→False:=by (intro _;omega)):@Ite (Decidable.decide p) ⟨x⟩ ⟨y⟩:=Ite.decide (fun h'=>(h h').elim) k
theorem ru {k:IntKind} {e:Int} {K:Int→Prop} (kk:K e) (h:(k=.u64∧0≤e∧e≤18446744073709551615)∨(k=.u32∧0≤e∧e≤4294967295)∨(k=.i32∧-2147483648≤e∧e≤2147483647):=by
  first|(refine Or.inl ⟨rfl,?_,?_⟩<;>omega)|(refine Or.inr (Or.inl ⟨rfl,?_,?_⟩)<;>omega)|(refine Or.inr (Or.inr ⟨rfl,?_,?_⟩)<;>omega)):dB k e K:=by
 rcases h with ⟨rfl,h1,h2⟩|⟨rfl,h1,h2⟩|⟨rfl,h1,h2⟩
 ·exact dB.JD (DF.2 ⟨h1,h2⟩) kk
 ·exact dB.JD (DC.2 ⟨h1,h2⟩) kk
 ·exact dB.JD (xM.2 ⟨h1,h2⟩) kk
theorem rz {P Q:Prop} (q:Q) (h:Q→P:=by first|exact fun k=>rc k|exact fun k=>rl k|exact fun k=>rh k|exact fun k=>ru k|exact fun k=>rt k|exact fun k=>rf k|exact fun k=>rs k):P:=h q
theorem ry {P Q:Prop} (q:Q) (h:Q→P:=by first|exact fun k=>rc k|exact fun k=>rl k|exact fun k=>rh k|exact fun k=>rt k|exact fun k=>rf k|exact fun k=>rs k):P:=h q
structure Dn:Prop where
theorem dn:Dn:=⟨⟩
theorem rn {P Q:Prop} (q:Q) (h:Q→P:=by first|exact fun k=>rc k|exact fun k=>rl k|exact fun k=>rh k|exact fun k=>ru k|exact fun k=>rt k|exact fun k=>rf k|exact fun k=>rs k|(refine fun _:Dn=>?_;omega)|(intro q;simp (maxSteps:=1000000) only [go_sem];exact q)|(refine fun _:Dn=>?_;simp (maxSteps:=1000000) only [go_sem];done)):P:=h q
theorem ra {p q:Prop} (a:p) (b:q):p∧q:=⟨a,b⟩
theorem dB.at {k:IntKind} {e:Int} {K:Int→Prop} (m:Int) (h:k.wrap e=m) (kk:K m):dB k e K:=fun n hn _=>by rw [hn,h];exact kk
theorem ak.k {P:Program} {w0:World} {T0:Bs} [hG:mQ P w0 T0] {f:Nat} {args args':List AV} {out:AV} {s:S} {K:AV→S→Prop} (h:aP P f args' out []) (hk:K (ren (fun j=>s.next+j) out) (s.after s.rows 0 []))
  (h1:kY out=true:=by rfl) (h2:Fv.below 0 out=true:=by rfl) (ha:bD s.rows args args':=by
   simp only [dJ,bD,mX,bG,aF,List.drop_zero,lk,reduceIte,reduceCtorEq,Nat.reduceEqDiff,Option.some.injEq,Item.row.injEq,Item.box.injEq,AV.ro.injEq,exists_eq_left,exists_and_left,exists_eq_left',exists_eq_right,and_assoc,and_true,true_and,List.cons.injEq,exists_eq',exists_eq]) :
  @ak P w0 T0 f args s ⟨K⟩:=ak.fr (gJ.gX h h1 rfl) ha 0 h2 trivial hk
theorem ak.f {P:Program} {w0:World} {T0:Bs} [hG:mQ P w0 T0] {f:Nat} {args args':List AV} {out:AV} {rows:List (Nat × Item)} {s:S} {K:AV→S→Prop} (h:gJ P f args' out rows) (N:Nat) (hk:K (ren (fun j=>s.next+j) out) (s.after s.rows N rows))
  (hN:Fv.below N out=true:=by rfl) (hNr:dG N rows:=by simp [dG,Item.below,Fv.below,aB,fH]) (ha:bD s.rows args args':=by
   simp only [dJ,bD,mX,bG,aF,List.drop_zero,lk,reduceIte,reduceCtorEq,Nat.reduceEqDiff,Option.some.injEq,Item.row.injEq,Item.box.injEq,AV.ro.injEq,exists_eq_left,exists_and_left,exists_eq_left',exists_eq_right,and_assoc,and_true,true_and,List.cons.injEq,exists_eq',exists_eq]) :
  @ak P w0 T0 f args s ⟨K⟩:=ak.fr h ha N hN hNr hk
theorem ak.o {P:Program} {w0:World} {T0:Bs} [hG:mQ P w0 T0] {f:Nat} {args args':List AV} {out:AV} {rows:List (Nat × Item)} {s:S} {K:AV→S→Prop} (h:aP P f args' out rows) (N:Nat) (hk:K (ren (fun j=>s.next+j) out) (s.after s.rows N rows))
  (h1:kY out=true:=by rfl) (h2:lq rows=true:=by rfl) (hN:Fv.below N out=true:=by rfl) (hNr:dG N rows:=by simp [dG,Item.below,Fv.below,aB,fH]) (ha:bD s.rows args args':=by
   simp only [dJ,bD,mX,bG,aF,List.drop_zero,lk,reduceIte,reduceCtorEq,Nat.reduceEqDiff,Option.some.injEq,Item.row.injEq,Item.box.injEq,AV.ro.injEq,exists_eq_left,exists_and_left,exists_eq_left',exists_eq_right,and_assoc,and_true,true_and,List.cons.injEq,exists_eq',exists_eq]) :
  @ak P w0 T0 f args s ⟨K⟩:=ak.fr (gJ.gX h h1 h2) ha N hN hNr hk
theorem Lu {a:Item}:∀ j,j<1→∃ it,lk [(0,a)] j=some it:=fun j hj=>by
 obtain rfl:j=0:=by omega
 exact ⟨a,rfl⟩
theorem LC {a b:Item}:∀ j,j<2→∃ it,lk [(0,a),(1,b)] j=some it:=fun j hj=>by
 rcases j with _|_|j
 ·exact ⟨a,rfl⟩
 ·exact ⟨b,rfl⟩
 ·omega
theorem LD {a b c:Item}:∀ j,j<3→∃ it,lk [(0,a),(1,b),(2,c)] j=some it:=fun j hj=>by
 rcases j with _|_|_|j
 ·exact ⟨a,rfl⟩
 ·exact ⟨b,rfl⟩
 ·exact ⟨c,rfl⟩
 ·omega
theorem LG {a b c d:Item}:∀ j,j<4→∃ it,lk [(0,a),(1,b),(2,c),(3,d)] j=some it:=fun j hj=>by
 rcases j with _|_|_|_|j
 ·exact ⟨a,rfl⟩
 ·exact ⟨b,rfl⟩
 ·exact ⟨c,rfl⟩
 ·exact ⟨d,rfl⟩
 ·omega
theorem ak.i {P:Program} {w0:World} {T0:Bs} [hgb:mQ P w0 T0] {f:Nat} {args args':List AV} {rows0:List (Nat × Item)} {out:AV} {rows:List (Nat × Item)} {s:S} {K:AV→S→Prop} (ids:List Nat) (h:En P f args' rows0 ids.length out rows) (N:Nat) (hk:K (ren (kE ids s.next) out) (s.Jk ids N rows))
  (hd:ids.Nodup:=by decide) (ha:args=dR (kE ids s.next) args':=by simp [dR,ren,kE]) (hab:aB ids.length args'=true:=by rfl)
  (h0:gG (kE ids s.next) s.rows ids.length rows0:=by simp [gG,kE,lk,Item.ren,Item.below,ren,dR,aB,Fv.below,rV,fH])
  (hcov:∀ j,j<ids.length→∃ it,lk rows0 j=some it:=by first|exact Lu|exact LC|exact LD|exact LG) (hkN:ids.length≤N:=by decide) (hN:Fv.below N out=true:=by rfl) (hNr:dG N rows:=by simp [dG,Item.below,Fv.below,aB,fH]) :
  @ak P w0 T0 f args s ⟨K⟩:=ak.io ids h hd ha hab h0 hcov N hkN hN hNr hk
attribute [go_sem] S.Jk nM kE zL rV fH List.getElem?_nil Nat.sub_self List.getElem?_cons_zero List.getElem?_cons_succ
attribute [go_sem ↓] reduceIte
attribute [go_sem] Fin.reduceNatAdd Fin.isValue UInt8.reduceAdd reduceDIte Nat.reduceEqDiff Int.reduceNegSucc Nat.reduceOr Fin.reduceGT Nat.reducePow Fin.reduceCastSucc Fin.reduceOr Nat.reduceGT Nat.reduceBneDiff Fin.reduceCastLT Fin.reduceNe Nat.reduceSubDiff Fin.reduceGE Nat.reduceMod Nat.reduceXor Int.reduceGE Int.reduceBmod UInt8.reduceOfNat Fin.reduceMod Int.reduceToNat Fin.reduceAddNat Fin.reduceXor Fin.reduceAnd Int.reduceEq Int.reduceFDiv Nat.reduceAnd Fin.reduceSubNat UInt8.reduceGT Fin.reduceFinMk Nat.reduceShiftRight Int.reduceNatCast Int.reduceGT Int.reducePow Nat.reduceGcd Nat.reduceAdd Nat.reduceBNe Int.reduceDiv Int.reduceMul reduceCtorEq Nat.reduceDvd Int.reduceBEq Nat.reduceBeqDiff Fin.reduceOfNat UInt8.reduceMod Int.reduceTMod Int.reduceOfNat UInt8.reduceToNat Nat.reduceShiftLeft Fin.reduceLast Nat.reduceLeDiff Fin.reduceShiftLeft Int.reduceNe UInt8.reduceGE Fin.reduceCastLE Int.reduceSub Fin.reduceLE Int.reduceAbs Fin.reduceCastAdd Int.reduceLT Fin.reducePred Int.reduceNatCast' Nat.reduceSub Fin.reduceRev Int.reduceNeg Fin.reduceLT Fin.reduceShiftRight Fin.reduceEq UInt8.reduceOfNatLT Fin.reduceAdd Fin.reduceBNe Nat.reduceDiv Int.reduceBNe Int.reduceDvd Nat.reduceMul Int.reduceAdd Nat.reduceBEq Nat.reduceSucc Fin.reduceDiv Fin.reduceMul Fin.reduceBEq Fin.reduceSucc UInt8.reduceLT Int.reduceTDiv Int.reduceFMod UInt8.reduceSub Int.reduceBdiv UInt8.reduceLE Nat.reduceLT Fin.reduceSub Int.reduceLE Int.reduceMod UInt8.reduceDiv UInt8.reduceMul
end Go.Fv
/-
 What a row's first world gives of package-level integers.
-/
namespace Go.Fv
open Go.RowKit Go.ChangeShapes Go.WideShapes
def Jp (w:World) (P:Program) (g:Nat) (k:IntKind):Bool:=match (w.heap[g]?).bind Obj.row? with
 | some (zero,t)=>decide (zero.size=1) && P.buildable t && decide (P.cellTypes P.depth t=some [t]) && (match P.underlying t with|some (.int k')=>decide (k'=k)|_=>false)
 | none=>false
def KA (P:Program):Bool:=(List.range P.globals.size).all fun g=>match tN P g with
 | some k=>Jp (begin P (fun _ _=>0) default).world P g k
 | none=>true
theorem mV.CO {P:Program} {w:World} (hs:KA P=true) (h:w.ShapedOpen P) (htab:∀ g,AZ P g=true→∃ ob,w.heap[g]?=some ob∧FD .tab ob)
  (hpow:∀ g,Aw P g=true→∃ ob,w.heap[g]?=some ob∧FD .pow ob):mV P w:=by
 suffices hI:∀ g k,tN P g=some k→∃ (n:Int) (t:TypeId),fF k n∧w.heap[g]?=some (.cells #[.int k n] t (0,0)) by
  intro g k hg
  unfold Ib at hg
  split at hg
  ·rename_i k' hk
   cases hg
   obtain ⟨n,t,h1,h2⟩:=hI g k' hk
   exact ⟨_,h2,n,t,h1,rfl⟩
  ·split at hg
   ·rename_i ht
    cases hg
    exact htab g ht
   ·split at hg
    ·rename_i ht
     cases hg
     exact hpow g ht
    ·cases hg
 intro g k hg
 have hlt:g<P.globals.size:=by
  by_cases hlt:g<P.globals.size
  ·exact hlt
  ·unfold tN at hg
   rw [Array.getElem?_eq_none (Nat.le_of_not_lt hlt)] at hg
   cases hg
 have h1:=List.all_eq_true.1 hs g (List.mem_range.2 hlt)
 rw [hg] at h1
 dsimp only at h1
 unfold Jp at h1
 split at h1
 ·rename_i zero t hz
  simp only [Bool.and_eq_true,decide_eq_true_eq] at h1
  obtain ⟨⟨⟨hz1,hb⟩,hc⟩,hu⟩:=h1
  have hu:P.underlying t=some (.int k):=by
   split at hu
   ·rename_i k' e;rw [e,of_decide_eq_true hu]
   ·cases hu
  obtain ⟨cs,hh,hsz,hr⟩:=h.1 g zero t hlt hz
  obtain ⟨ts,hts,_,hall⟩:=hr hb
  rw [hc] at hts
  cases hts
  have h1:0<cs.size:=by omega
  obtain ⟨u,hu',hok⟩:=hall 0 cs[0] (by simp [h1])
  have:u=t:=by simpa using hu'.symm
  subst this
  unfold Cell.ok at hok
  rw [hu] at hok
  have e:cs=#[cs[0]]:=by
   apply Array.ext
   ·simp;omega
   ·intro i h1 h2
    simp at h2
    subst h2;simp
  cases hv:cs[0]<;>rw [hv] at hok<;>simp at hok
  case int k' n=>
   obtain ⟨rfl,hk⟩:=hok
   refine ⟨n,u,?_,by rw [hh,e,hv]⟩
   exact hk
 ·cases h1
variable {H:Type} {enc:TypeId × Value→H}
end Go.Fv
/-
 What a row's laid table gives of math/bits.deBruijn64tab.
-/
namespace Go.Fv
open Go.RowKit Go.ChangeShapes Go.WideShapes
def Jb:DataW Unit:=Lib.tabData .u8 (Lib.deBruijn64tab.map Int.ofNat)
theorem A8 {P:Program} {W:World} {l:List (String × DataW Unit)} {g0:Nat} {t e:TypeId} (hl:(l.filter fun x=>x.1 == "math/bits.deBruijn64tab")=[("math/bits.deBruijn64tab", Jb)]) (hh:Jb.handleName?=none)
  (hg:P.globalNamed "math/bits.deBruijn64tab" = some g0) (hty:(P.globals[g0]?).map (·.type)=some t) (ht:P.underlying t=some (.array 64 e)) (he:P.underlying e=some (.int .u8)) (hce:P.cellsOf e=1) (hct:P.cellsOf t=64)
  (hu:((List.range P.globals.size).all fun g=>AZ P g == (g == g0))=true) (h:laidMetH P l W):∀ g,AZ P g=true→∃ ob,W.heap[g]?=some ob∧FD .tab ob:=by
 intro g hgt
 have hlt:g<P.globals.size:=by
  by_cases hlt:g<P.globals.size
  ·exact hlt
  ·unfold AZ at hgt
   rw [Array.getElem?_eq_none (Nat.le_of_not_lt hlt)] at hgt
   cases hgt
 have h1:=List.all_eq_true.1 hu g (List.mem_range.2 hlt)
 rw [hgt] at h1
 obtain rfl:g=g0:=by simpa using h1
 have h2:=laidMetH.filter (fun x=>x.1 == "math/bits.deBruijn64tab") h
 rw [hl] at h2
 have h3:=(laidMetH_iff.1 h2).1
 have e1:([("math/bits.deBruijn64tab", Jb)].filter fun x=>x.2.handleName?.isNone)=[("math/bits.deBruijn64tab", Jb)]:=by simp [hh]
 rw [e1] at h3
 have h4:=Lib.tabIs_of_head hg hty ht he hce hct h3
 obtain ⟨ps,⟨g',t',cs,fuel,p,q,hg',ht',hvar,hd,_,rfl⟩,_,hfree⟩:=h3
 obtain rfl:=Option.some.inj (hg.symm.trans hg')
 unfold Lib.TabIs at h4
 have hcs:cs=((Lib.deBruijn64tab.map Int.ofNat).map fun z=>Value.int .u8 z).toArray:=Option.some.inj (hvar.symm.trans h4)
 have h64:cs.size=64:=by rw [hcs];rfl
 obtain ⟨⟨c,t2,hc⟩,_⟩:=hfree g 0 (by
  simp only [List.mem_append]
  refine .inl (.inl ?_)
  unfold MemPlace.row
  exact List.mem_map.2 ⟨0,List.mem_range.2 (by omega),rfl⟩)
 have hv:=hvar
 unfold World.var? at hv
 rw [hg] at hv
 simp only [Option.bind_some,hc] at hv
 refine ⟨_,hc,t2,?_⟩
 rw [Option.some.inj hv,hcs]
 simp only [List.map_map]
 rfl
def I4:DataW Unit:=Lib.tabData .u64 Lib.pow10Tab
theorem Az {P:Program} {W:World} {l:List (String × DataW Unit)} {g0:Nat} {t e:TypeId} (hl:(l.filter fun x=>x.1 == "internal/strconv.uint64pow10")=[("internal/strconv.uint64pow10", I4)]) (hh:I4.handleName?=none)
  (hg:P.globalNamed "internal/strconv.uint64pow10" = some g0) (hty:(P.globals[g0]?).map (·.type)=some t) (ht:P.underlying t=some (.array 20 e)) (he:P.underlying e=some (.int .u64)) (hce:P.cellsOf e=1) (hct:P.cellsOf t=20)
  (hu:((List.range P.globals.size).all fun g=>Aw P g == (g == g0))=true) (h:laidMetH P l W):∀ g,Aw P g=true→∃ ob,W.heap[g]?=some ob∧FD .pow ob:=by
 intro g hgt
 have hlt:g<P.globals.size:=by
  by_cases hlt:g<P.globals.size
  ·exact hlt
  ·unfold Aw at hgt
   rw [Array.getElem?_eq_none (Nat.le_of_not_lt hlt)] at hgt
   cases hgt
 have h1:=List.all_eq_true.1 hu g (List.mem_range.2 hlt)
 rw [hgt] at h1
 obtain rfl:g=g0:=by simpa using h1
 have h2:=laidMetH.filter (fun x=>x.1 == "internal/strconv.uint64pow10") h
 rw [hl] at h2
 have h3:=(laidMetH_iff.1 h2).1
 have e1:([("internal/strconv.uint64pow10", I4)].filter fun x=>x.2.handleName?.isNone)=[("internal/strconv.uint64pow10", I4)]:=by simp [hh]
 rw [e1] at h3
 have h4:=Lib.tabIs_of_head (k:=.u64) (zs:=Lib.pow10Tab) hg hty ht he hce hct h3
 obtain ⟨ps,⟨g',t',cs,fuel,p,q,hg',ht',hvar,hd,_,rfl⟩,_,hfree⟩:=h3
 obtain rfl:=Option.some.inj (hg.symm.trans hg')
 unfold Lib.TabIs at h4
 have hcs:cs=(Lib.pow10Tab.map fun z=>Value.int .u64 z).toArray:=Option.some.inj (hvar.symm.trans h4)
 have h64:cs.size=20:=by rw [hcs];rfl
 obtain ⟨⟨c,t2,hc⟩,_⟩:=hfree g 0 (by
  simp only [List.mem_append]
  refine .inl (.inl ?_)
  unfold MemPlace.row
  exact List.mem_map.2 ⟨0,List.mem_range.2 (by omega),rfl⟩)
 have hv:=hvar
 unfold World.var? at hv
 rw [hg] at hv
 simp only [Option.bind_some,hc] at hv
 refine ⟨_,hc,t2,?_⟩
 rw [Option.some.inj hv,hcs]
variable {H:Type} {enc:TypeId × Value→H}
theorem oK {a:Assume} {C:Checked} {os:Os} {f:FuncId} {fn:Func} {s:ChangeSpec} {conds:List PathCond} {apart fresh handsOn again:Bool} {X:World→Array Value→Prop}
  (hX:∀ (w w':World) (args:Array Value),w.heap=w'.heap→X w args→X w' args)
  (own:ownKnob C.prog.godebug=none) (started:os.Started) (noInit:C.prog.inits.idxOf? f=none) (hfn:C.prog.funcs[f]?=some fn)
  (witness:∃ (w:World) (tape:Tape) (i:Input),w.os=os∧(w.forCall tape i).Shaped C.prog∧i.vars=[]∧Input.okWide C.prog (w.forCall tape i) .any w.heap.size f i ∧
   ((s.pre enc C.prog fn conds apart (w.forCall tape i).memory i.args∧X (w.forCall tape i).memory i.args)∧sizedMet enc C.prog fn (OpenSpec.ofChange s) apart (w.forCall tape i).memory i.args)∧a.holds C.prog (lone (Frame.enter C.prog f i.args .normal) [] (w.forCall tape i)))
  (contract:∀ (W:World) (base:Nat) (args:Array Value) (ds gs:List (DataW H)) (before:List MemPlace),W.ShapedOpen C.prog→X W args→(DataW.weightsEach C.prog (fn.params.toList++(OpenSpec.ofChange s).bare.plain.varTypes C.prog) (ds++gs)).all (·≤reachBytes)=true →
   (∀ (j:Nat) t v,fn.params[j]?=some t→args[j]?=some v→Value.okWide C.prog W .any base t v) →
   DataW.Whole enc C.prog fn.params.toList s.vars apart W args.toList ds gs before →
   Calls C.prog f args W fun e W'=>∃ v,e=.returned v∧s.post enc C.prog fn apart fresh handsOn again W args v W') :
  ReturnsInHanded a C os f .any (fun w args=>(s.pre enc C.prog fn conds apart w args∧X w args)∧sizedMet enc C.prog fn (OpenSpec.ofChange s) apart w args) (s.post enc C.prog fn apart fresh handsOn again):=by
 refine returnsInHanded_of_calls own started noInit witness ?_
 intro w tape i _ hsh _ hok hpre hholds
 obtain ⟨_,_,_,fn',hfn',_,_,_,_,hval⟩:=hok
 have e:fn'=fn:=Option.some.inj (hfn'.symm.trans hfn)
 subst e
 obtain ⟨⟨⟨ds,gs,before,hw,hc⟩,hx⟩,hz⟩:=hpre
 have hw':=DataW.Whole.of_heap (w':=w.forCall tape i) (by rfl) hw
 refine (contract (w.forCall tape i) w.heap.size i.args ds gs before hsh (hX _ _ _ (by rfl:(w.forCall tape i).memory.heap=(w.forCall tape i).heap) hx) (hz.weights hw) hval hw').mono fun e W' ⟨v,he,hp⟩=>?_
 subst he
 exact ChangeSpec.post_blind hp
end Go.Fv
/-
 What arrives: arguments of every shape, as the row's reading gives them.
-/
namespace Go.Fv
open Go.RowKit
inductive mP {α β:Type} (R:α→β→Prop):List α→List β→Prop
 | nil:mP R [] []
 | cons {a:α} {b:β} {l:List α} {m:List β} (h:R a b) (t:mP R l m):mP R (a::l) (b::m)
section
variable {H:Type} {enc:TypeId × Value→H} {P:Program} {w:World} {fuel:Nat} {t:TypeId} {cs:List Value} {x:DataW H × List MemPlace}
abbrev qK (w:World):Ctx:=⟨w,fun _=>True,fun _=>undef,0⟩
def Rd (enc:TypeId × Value→H) (P:Program) (w:World) (t:TypeId) (cs:List Value) (x:DataW H × List MemPlace):Prop:=∃ fuel,DataW.trod enc P w 0 (fun _=>true) true fuel t cs=some x
theorem Rd.bool (ht:P.underlying t=some .bool) (h:Rd enc P w t cs x):∃ b,aS (qK w) [.bool b] cs:=by
 obtain ⟨f,h⟩:=h
 obtain ⟨b,rfl,_⟩:=DataW.trod_bool ht h
 exact ⟨b,.cons _ _ _ _ (.bool b) rfl .nil⟩
theorem BG {k:IntKind} {n:Int} (h:(Lit.int k n).wf=true):fF k n:=by
 simpa [Lit.wf,fF] using h
theorem Rd.int {k:IntKind} (ht:P.underlying t=some (.int k)) (h:Rd enc P w t cs x):∃ n,fF k n∧aS (qK w) [.int k n] cs:=by
 obtain ⟨f,h⟩:=h
 obtain ⟨n,rfl,_,hw⟩:=DataW.trod_int ht h
 exact ⟨n,BG hw,.cons _ _ _ _ (.int k n (BG hw)) rfl .nil⟩
theorem Rd.str (ht:P.underlying t=some .string) (h:Rd enc P w t cs x):∃ s:List UInt8,x.1=.lit (.string s)∧aS (qK w) [.str s] cs:=by
 obtain ⟨f,h⟩:=h
 obtain ⟨s,rfl,rfl,hw⟩:=DataW.trod_string ht h
 exact ⟨s.data.toList,rfl,.cons _ _ _ _ (.str _ (by simpa using hw)) rfl .nil⟩
theorem zJ {base:Nat} {a:Addr} {n:Nat} {vs:List Value} (h:w.cells? base a n=some vs):vs.length=n∧∀ j u,vs[j]?=some u→w.cell? (a.add j)=some u:=by
 obtain ⟨h1,h2,h3⟩:=World.cells?_some h
 refine ⟨h2,fun j u hu=>?_⟩
 have hj:j<n:=by rw [←h2];exact (List.getElem?_eq_some_iff.1 hu).1
 rw [h3 j hj,hu]
theorem Rd.slice {e:TypeId} (ht:P.underlying t=some (.slice e)) (h:Rd enc P w t cs x) :
  (cs=[.slice none 0 0]∧x.1=.nil)∨∃ (a:Addr) (len cap:Nat) (els:List (List Value × (DataW H × List MemPlace))) (spare:List (DataW H)),cs=[.slice (some a) len cap]∧len≤cap∧cap≤maxLen∧els.length=len∧x.1=.slice (els.map (·.2.1)) spare ∧
   (∀ y,y∈els→Rd enc P w e y.1 y.2∧y.1.length=P.cellsOf e)∧∀ i y,els[i]?=some y→∀ j u,y.1[j]?=some u→w.cell? (a.add (i*P.cellsOf e+j))=some u:=by
 obtain ⟨f,h⟩:=h
 rcases DataW.trod_slice ht h with ⟨rfl,rfl⟩|⟨a,len,cap,elems,rest,n,_,rfl,rfl,_,hl,hm,hlen,hel,_,_⟩
 ·exact .inl ⟨rfl,rfl⟩
 refine .inr ?_
 have each:∀ i,i<len→∃ vs y,w.cells? 0 (a.add (i*P.cellsOf e)) (P.cellsOf e)=some vs∧DataW.trod enc P w 0 (fun _=>true) true n e vs=some y∧elems[i]?=some y:=by
  intro i hi
  have:=hel i hi
  have hi':i<elems.length:=by omega
  rw [List.getElem?_eq_getElem hi',Option.bind_eq_some_iff] at this
  obtain ⟨vs,h1,h2⟩:=this
  exact ⟨vs,_,h1,h2,List.getElem?_eq_getElem hi'⟩
 let vsAt:Nat→List Value:=fun i=>(w.cells? 0 (a.add (i*P.cellsOf e)) (P.cellsOf e)).getD []
 have hadd:∀ (m j:Nat),(a.add m).add j=a.add (m+j):=by
  intro m j
  unfold Addr.add
  by_cases hn:m=0
  ·subst hn;simp
  ·by_cases hj:j=0
   ·subst hj;simp [hn]
   ·simp [hn,hj,Nat.add_assoc]
 refine ⟨a,len,cap,elems.zipIdx.map (fun y=>(vsAt y.2,y.1)),rest.map (·.1),rfl,hl,hm,by simp [hlen],?_,?_,?_⟩
 ·simp only [List.map_map]
  congr 1
  have:(fun y:(DataW H × List MemPlace) × Nat=>y.1.1)=(fun y=>y.1) ∘ Prod.fst:=rfl
  show elems.map (·.1)=elems.zipIdx.map (fun y=>y.1.1)
  rw [this,←List.map_map]
  simp
 ·intro y hy
  obtain ⟨z,hz,rfl⟩:=List.mem_map.1 hy
  obtain ⟨i,hi⟩:=List.getElem?_of_mem hz
  rw [List.getElem?_zipIdx] at hi
  simp only [Nat.zero_add,Option.map_eq_some_iff] at hi
  obtain ⟨u,hu,rfl⟩:=hi
  have hlt:i<len:=by rw [←hlen];exact (List.getElem?_eq_some_iff.1 hu).1
  obtain ⟨vs,y',h1,h2,h3⟩:=each i hlt
  have:y'=u:=by rw [hu] at h3;exact (Option.some.inj h3).symm
  subst this
  refine ⟨⟨n,?_⟩,?_⟩
  ·show DataW.trod enc P w 0 (fun _=>true) true n e ((w.cells? 0 (a.add (i*P.cellsOf e)) (P.cellsOf e)).getD [])=_
   rw [h1];exact h2
  ·show ((w.cells? 0 (a.add (i*P.cellsOf e)) (P.cellsOf e)).getD []).length=_
   rw [h1];exact (zJ h1).1
 ·intro i y hy j u hu
  rw [List.getElem?_map,List.getElem?_zipIdx] at hy
  simp only [Nat.zero_add,Option.map_map,Option.map_eq_some_iff] at hy
  obtain ⟨z,hz,rfl⟩:=hy
  have hlt:i<len:=by rw [←hlen];exact (List.getElem?_eq_some_iff.1 hz).1
  obtain ⟨vs,y',h1,_,_⟩:=each i hlt
  have hu':vs[j]?=some u:=by
   have:((w.cells? 0 (a.add (i*P.cellsOf e)) (P.cellsOf e)).getD [])[j]?=some u:=hu
   rw [h1] at this;exact this
  rw [←hadd];exact (zJ h1).2 j u hu'
theorem BM {els:List (List Value)} {n:Nat} {a:Addr} (hn:∀ y,y∈els→y.length=n) (h:∀ i y,els[i]?=some y→∀ j u,y[j]?=some u→w.cell? (a.add (i*n+j))=some u):∀ j u,els.flatten[j]?=some u→w.cell? (a.add j)=some u:=by
 induction els generalizing a with
 | nil=>intro j u hu;simp at hu
 | cons y l ih=>
  intro j u hu
  have hy:=hn y (.head _)
  by_cases hj:j<y.length
  ·rw [List.flatten_cons,List.getElem?_append_left hj] at hu
   have:=h 0 y rfl j u hu
   simpa using this
  ·rw [List.flatten_cons,List.getElem?_append_right (by omega)] at hu
   have hadd:∀ (m j:Nat),(a.add m).add j=a.add (m+j):=by
    intro m j
    unfold Addr.add
    by_cases hn:m=0
    ·subst hn;simp
    ·by_cases hj:j=0
     ·subst hj;simp [hn]
     ·simp [hn,hj,Nat.add_assoc]
   have:=ih (a:=a.add n) (fun z hz=>hn z (.tail _ hz)) (fun i z hz k v hv=>by
    have:=h (i+1) z (by simpa using hz) k v hv
    rw [hadd]
    rwa [show (i+1)*n+k=n+(i*n+k) by rw [Nat.succ_mul];omega] at this) (j - y.length) u hu
   rw [hadd] at this
   rwa [show n+(j - y.length)=j by omega] at this
theorem Rd.row {e:TypeId} {β:Type} (ht:P.underlying t=some (.slice e)) (row:List β→au) (hlen:∀ l,(row l).len=l.length) (hnil:aQ (qK w) (row []) [])
  (R:β→List Value→Prop) (hrow:∀ l vss,mP R l vss→aQ (qK w) (row l) vss.flatten)
  (Q:β→DataW H→Prop) (hel:∀ vs y,Rd enc P w e vs y→∃ b,R b vs∧Q b y.1) (h:Rd enc P w t cs x) :
  ∃ l:List β,aS (qK w) [.ro (row l)] cs∧((x.1=.nil∧l=[])∨∃ ds sp,x.1=.slice ds sp∧mP Q l ds):=by
 rcases h.slice ht with ⟨rfl,hx⟩|⟨a,len,cap,els,sp,rfl,hl,hm,hlen',hx,hall,hcell⟩
 ·exact ⟨[],.cons _ _ _ _ (.roNil _ hnil (hnil.Ap rfl)) rfl .nil,.inl ⟨hx,rfl⟩⟩
 have key:∀ els:List (List Value × (DataW H × List MemPlace)),(∀ y,y∈els→Rd enc P w e y.1 y.2)→∃ l:List β,mP R l (els.map (·.1))∧mP Q l (els.map (·.2.1)):=by
  intro els
  induction els with
  | nil=>intro _;exact ⟨[],.nil,.nil⟩
  | cons y els ih=>
   intro hh
   obtain ⟨b,h1,h2⟩:=hel y.1 y.2 (hh y (.head _))
   obtain ⟨l,h3,h4⟩:=ih fun z hz=>hh z (.tail _ hz)
   exact ⟨b::l,.cons h1 h3,.cons h2 h4⟩
 obtain ⟨l,h1,h2⟩:=key els fun y hy=>(hall y hy).1
 have hll:l.length=len:=by
  have:∀ (l:List β) (vss:List (List Value)),mP R l vss→l.length=vss.length:=by
   intro l vss h;induction h with|nil=>rfl|cons _ _ ih=>simp [ih]
  have:=this _ _ h1
  simpa [hlen'] using this
 refine ⟨l,.cons _ _ _ _ (.ro _ a len cap _ (hrow _ _ h1) (by rw [hlen,hll]) hl hm ⟨trivial,fun _=>trivial,?_⟩ ((hrow _ _ h1).Ap rfl)) rfl .nil,.inr ⟨_,_,hx,h2⟩⟩
 refine BM (n:=P.cellsOf e) (fun y hy=>?_) (fun i y hy j u hu=>?_)
 ·obtain ⟨z,hz,rfl⟩:=List.mem_map.1 hy;exact (hall z hz).2
 ·rw [List.getElem?_map] at hy
  simp only [Option.map_eq_some_iff] at hy
  obtain ⟨z,hz,rfl⟩:=hy
  exact hcell i z hz j u hu
theorem aQ.intsIn {c:Ctx} {k:IntKind} {l:List Int} {cells:List Value} (h:aQ c (.ints k l) cells):∀ n,n∈l→fF k n:=by
 generalize hr:au.ints k l=r at h
 cases h<;>cases hr
 assumption
def lenD:DataW H→Nat
 | .slice ds _=>ds.length
 | .lit (.string s)=>s.length
 | _=>0
theorem mP.length {α β:Type} {R:α→β→Prop} {l:List α} {m:List β} (h:mP R l m):l.length=m.length:=by
 induction h with|nil=>rfl|cons _ _ ih=>simp [ih]
theorem Rd.bools {e:TypeId} (ht:P.underlying t=some (.slice e)) (he:P.underlying e=some .bool) (h:Rd enc P w t cs x):∃ l:List Bool,aS (qK w) [.ro (.bools l)] cs∧l.length=lenD x.1:=by
 obtain ⟨l,h1,h2⟩:=Rd.row (β:=Bool) ht .bools (fun _=>rfl) (.bools []) (fun b vs=>vs=[.bool b]) (fun l vss hv=>by
  have:vss.flatten=l.map Value.bool:=by induction hv with|nil=>rfl|cons h _ ih=>subst h;simp [ih]
  rw [this];exact .bools l) (fun _ _=>True) (fun vs y hy=>by
   obtain ⟨f,hy⟩:=hy
   obtain ⟨b,rfl,_⟩:=DataW.trod_bool he hy
   exact ⟨b,rfl,trivial⟩) h
 refine ⟨l,h1,?_⟩
 rcases h2 with ⟨e1,e2⟩|⟨ds,sp,e1,e2⟩
 ·rw [e1,e2];rfl
 ·rw [e1];exact e2.length
theorem Rd.ints {e:TypeId} {k:IntKind} (ht:P.underlying t=some (.slice e)) (he:P.underlying e=some (.int k)) (h:Rd enc P w t cs x):∃ l:List Int,(∀ n,n∈l→fF k n)∧aS (qK w) [.ro (.ints k l)] cs∧l.length=lenD x.1:=by
 obtain ⟨l,h1,h2⟩:=Rd.row (β:=Int) ht (.ints k) (fun _=>rfl) (.ints k [] (fun x hx=>by cases hx)) (fun n vs=>vs=[.int k n]∧fF k n) (fun l vss hv=>by
  have:vss.flatten=l.map (Value.int k)∧∀ n,n∈l→fF k n:=by
   induction hv with
   | nil=>exact ⟨rfl,fun n hn=>by cases hn⟩
   | cons h _ ih=>
    obtain ⟨rfl,h2⟩:=h
    refine ⟨by simp [ih.1],fun n hn=>?_⟩
    cases List.mem_cons.1 hn with
    | inl e=>subst e;exact h2
    | inr e=>exact ih.2 n e
  rw [this.1];exact .ints k l this.2) (fun _ _=>True) (fun vs y hy=>by
   obtain ⟨f,hy⟩:=hy
   obtain ⟨n,rfl,_,hw⟩:=DataW.trod_int he hy
   exact ⟨n,⟨rfl,BG hw⟩,trivial⟩) h
 have hin:∀ n,n∈l→fF k n:=by
  cases h1 with
  | cons _ v _ _ hv _ _=>
   cases hv with
   | roNil _ hr=>exact hr.intsIn
   | ro _ _ _ _ _ hr=>exact hr.intsIn
 refine ⟨l,hin,h1,?_⟩
 rcases h2 with ⟨e1,e2⟩|⟨ds,sp,e1,e2⟩
 ·rw [e1,e2];rfl
 ·rw [e1];exact e2.length
/-! ### Arguments one by one -/
theorem xU {base:Nat} {v:Value} {d:TypeDesc} (ht:P.underlying t=some d) (hd:d=.bool∨(∃ k,d=.int k)∨d=.string∨∃ e,d=.slice e) (h:Value.okWide P w .any base t v):v.cells.toList=[v]:=by
 unfold Value.okWide at h
 rw [ht] at h
 have h':Cell.okWide P w .any base t v:=by
  rcases hd with rfl|⟨k,rfl⟩|rfl|⟨e,rfl⟩<;>exact h
 unfold Cell.okWide at h'
 rw [ht] at h'
 have h2:Cell.ok P w .any base t v:=by
  rcases hd with rfl|⟨k,rfl⟩|rfl|⟨e,rfl⟩<;>exact h'
 unfold Cell.ok at h2
 rw [ht] at h2
 cases v<;>first|rfl|(rcases hd with rfl|⟨k,rfl⟩|rfl|⟨e,rfl⟩<;>exact h2.elim)
theorem aS.hd {c:Ctx} {a:AV} {v:Value} (h:aS c [a] [v]):Rv c a v:=by cases h;assumption
theorem Trod.rd {v:Value} {d:DataW H} {ps:List MemPlace} (h:DataW.Trod enc P w 0 (fun _=>true) true t v d ps):Rd enc P w t v.cells.toList (d,ps):=h
theorem arg_str {base:Nat} {v:Value} {d:DataW H} {ps:List MemPlace} (ht:P.underlying t=some .string) (hv:Value.okWide P w .any base t v) (h:DataW.Trod enc P w 0 (fun _=>true) true t v d ps):∃ s:List UInt8,d=.lit (.string s)∧Rv (qK w) (.str s) v:=by
 obtain ⟨b,hk,hb⟩:=(Trod.rd h).str ht
 rw [xU ht (.inr (.inr (.inl rfl))) hv] at hb
 exact ⟨b,hk,hb.hd⟩
/-! ### What the row asks behind the call -/
theorem xB (hl:laidOutB P=true) {W W':World} (hB:Below W.heap.size W W'):∀ {ts:List TypeId} {vs:List Value} {ds:List (DataW H)} {ps:List MemPlace},(∀ t,t∈ts→P.readableRec t=true∧t<P.types.size) →
  DataW.TrodAll enc P W 0 (fun _=>true) true ts vs ds ps→(∀ p,p∈ps→p.block<W.heap.size)→DataW.TrodAll enc P W' 0 (fun b=>decide (b<W.heap.size)) true ts vs ds ps
 | [],_,_,_,_,h,_=>by
  obtain ⟨rfl,rfl,rfl⟩:=ChangeShapes.trodAll_nil h
  exact h
 | t::ts,_,_,_,hr,h,hlt=>by
  obtain ⟨v,vs,d,ds,p,q,rfl,rfl,rfl,h1,h2⟩:=ChangeShapes.trodAll_cons h
  obtain ⟨k1,k2⟩:=hr t (.head _)
  exact ⟨p,q,Below.trod hl k1 k2 h1 hB (fun x hx=>hlt x (List.mem_append.2 (.inl hx))),xB hl hB (fun u hu=>hr u (.tail _ hu)) h2 (fun x hx=>hlt x (List.mem_append.2 (.inr hx))),rfl⟩
theorem DJ:∀ {ts:List TypeId} {vs:List Value} {ds:List (DataW H)} {ps:List MemPlace} {W:World},DataW.TrodAll enc P W 0 (fun _=>true) true ts vs ds ps→ds.length=ts.length
 | [],_,_,_,_,h=>by obtain ⟨rfl,rfl,rfl⟩:=ChangeShapes.trodAll_nil h;rfl
 | t::ts,_,_,_,_,h=>by
  obtain ⟨v,vs,d,ds,p,q,rfl,rfl,rfl,h1,h2⟩:=ChangeShapes.trodAll_cons h
  simp [DJ h2]
theorem EZ {f:Func} {s:ChangeSpec} {W W':World} {args:Array Value} {ds gs:List (DataW H)} {before:List MemPlace} {tb:TypeId}
  (hW:DataW.Whole enc P f.params.toList s.vars false W args.toList ds gs before) (hvars:s.vars=[]) (hfn:∀ l:List (DataW H),l.length=f.params.size→s.fn H l={ results:=[.lit (.bool true)],args:=l })
  (hres:f.resultTypes=#[tb]) (hb:P.underlying tb=some .bool) (hl:laidOutB P=true) (hr:∀ t,t∈f.params.toList→P.readableRec t=true∧t<P.types.size) (hB:Below W.heap.size W W') :
  s.post enc P f false true false false W args (.bool true) W':=by
 have hlt:=hW.lt
 have hW':=hW
 obtain ⟨p,q,hA,hV,rfl,_,_⟩:=hW'
 rw [hvars] at hV
 obtain ⟨rfl,rfl⟩:gs=[]∧q=[]:=by
  cases gs with
  | nil=>exact ⟨rfl,hV⟩
  | cons _ _=>exact hV.elim
 have hf:=hfn (ds++[]) (by rw [List.append_nil,DJ hA];simp)
 refine ⟨ds,[],p++[],[],p,[],hW,?_,?_,?_,hB.frame _,fun h=>by cases h⟩
 ·rw [hf,hres]
  exact ⟨[],[],RowKit.shut_bool hb true,rfl,rfl⟩
 ·rw [hf]
  have:=xB (enc:=enc) hl hB hr hA (fun x hx=>hlt x (by simpa using hx))
  simpa using this
 ·rw [hf,hvars]
  rfl
theorem BL {fid:Nat} {f:Func} {s:ChangeSpec} {W:World} {args:Array Value} {ds gs:List (DataW H)} {before:List MemPlace} {tb:TypeId} {avs:List AV} (h:aP P fid avs (.bool true) []) (hgl:mV P W) (ha:bg (qK W) avs args.toList)
  (hW:DataW.Whole enc P f.params.toList s.vars false W args.toList ds gs before) (hvars:s.vars=[]) (hfn:∀ l:List (DataW H),l.length=f.params.size→s.fn H l={ results:=[.lit (.bool true)],args:=l })
  (hres:f.resultTypes=#[tb]) (hb:P.underlying tb=some .bool) (hl:laidOutB P=true) (hr:∀ t,t∈f.params.toList→P.readableRec t=true∧t<P.types.size) :
  Calls P fid args W fun e W'=>∃ v,e=.returned v∧s.post enc P f false true false false W args v W':=by
 refine (h.2 W (fun _=>True) args.toList hgl ha).mono ?_
 rintro e W' ⟨v,rfl,hB,m,N,hrv,_⟩
 cases hrv
 exact ⟨_,rfl,EZ hW hvars hfn hres hb hl hr hB.plain⟩
end
end Go.Fv
/-
 What arrives: structs.
-/
namespace Go.Fv
open Go.RowKit
section
variable {H:Type} {enc:TypeId × Value→H} {P:Program} {w:World} {t:TypeId} {cs:List Value} {x:DataW H × List MemPlace}
theorem Rd.fields {fs:Array Field} (ht:P.underlying t=some (.struct fs)) (h:Rd enc P w t cs x):cs.length=P.cellsOf t∧∃ xs:List (DataW H × List MemPlace),x.1=.agg (xs.map (·.1))∧xs.length=fs.size ∧
  ∀ (i:Nat) (f:Field),fs[i]?=some f→∃ y,xs[i]?=some y∧Rd enc P w f.type ((cs.drop f.offset).take (P.cellsOf f.type)) y:=by
 obtain ⟨fuel,h⟩:=h
 obtain ⟨xs,n,_,rfl,hl,hn,hf⟩:=DataW.trod_struct ht h
 refine ⟨hl,xs,rfl,hn,fun i f hi=>?_⟩
 have hlt:i<xs.length:=by rw [hn];exact (Array.getElem?_eq_some_iff.1 hi).1
 refine ⟨xs[i],List.getElem?_eq_getElem hlt,n,?_⟩
 rw [hf i f hi,List.getElem?_eq_getElem hlt]
theorem aS.app {c:Ctx}:∀ {l l':List AV} {vs vs':List Value},aS c l vs→aS c l' vs'→aS c (l++l') (vs++vs')
 | _,_,_,_,.nil,h=>h
 | _,_,_,_,.cons x v l vs hx h1 ht,h=>.cons x v _ _ hx h1 (ht.app h)
end
end Go.Fv
