/-
  A part of the proof of the claim: walks over the program's functions and the plain laws that these need. No condition of its own.
-/
import Derived.Test.YtkigppimkbkjoaaDoorFvPart9
set_option linter.unusedSectionVars false
set_option linter.unusedVariables false
set_option linter.unusedSimpArgs false
set_option linter.unnecessarySimpa false
namespace Go.Fv
open Go.RowKit
section
variable {P:Program} {w0:World} {T0:Bs} {ops:Array Oper} {es:List Nat} {tb:List (Nat × List Nat)} {T:List Nat} [hG:mQ P w0 T0]
structure su (P:Program) (w0:World) (T0:Bs) (ops:Array Oper) (es:List Nat) (tb:List (Nat × List Nat)) (s0:S) (hs0:List o9) (Q:S→Prop) (vs:List AV) (hs:List o9) (s:S):Prop where
 q:Q s
 n:s.n=s0.n
 len:hs.length=jg es ops.size+1
 last:hs[jg es ops.size]?=some (s.rows,s.next)
 get:∀ r,s.get r=iG ops s0 vs ops.size r
 done:qC P w0 T0 ops es s0 ops.size vs hs
 re:∀ (j:Nat) (o:Oper),ops[j]?=some o→es.elem j=false→∀ k,k∈kW tb j→∀ h,hs[k]?=some h→QS P w0 T0 ops o s0.n (iG ops s0 vs j) h h (vs.getD j .dead)
 pre:∀ (k:Nat) (h:o9),hs0[k]?=some h→hs[k]?=some h
theorem EU.step {s0:S} {i:Nat} {vs:List AV} {v:AV} {acc acc':List Acc} {o:Oper} (hre:EU P w0 T0 ops es tb s0 i vs acc) (hlen:vs.length=i) (hi:ops[i]?=some o) (hsub:∀ x,x∈acc→x∈acc')
  (hnew:es.elem i=false→∀ k,k∈kW tb i→(∀ h,QS P w0 T0 ops o s0.n (iG ops s0 vs i) h h v)∨∃ x,x∈acc'∧x.ks=kW tb i∧∀ h,jR P w0 T0 s0.n x h→QS P w0 T0 ops o s0.n (iG ops s0 vs i) h h v) :
  EU P w0 T0 ops es tb s0 (i+1) (vs++[v]) acc':=by
 intro j oj hj hoj hej k hk
 by_cases e:j=i
 ·subst e
  rw [hi] at hoj;cases hoj
  have hv:(vs++[v]).getD j .dead=v:=by rw [←hlen];exact iO
  rcases hnew hej k hk with h|⟨x,hx,hks,h⟩
  ·exact .inl fun h'=>by rw [hv];exact (h h').congr fun r _=>iY (by omega) r
  ·exact .inr ⟨x,hx,hks,fun h' hc=>by rw [hv];exact (h h' hc).congr fun r _=>iY (by omega) r⟩
 ·rcases hre j oj (by omega) hoj hej k hk with h|⟨x,hx,hks,h⟩
  ·exact .inl fun h'=>by rw [nJ (by omega)];exact (h h').congr fun r _=>iY (by omega) r
  ·exact .inr ⟨x,hsub x hx,hks,fun h' hc=>by rw [nJ (by omega)];exact (h h' hc).congr fun r _=>iY (by omega) r⟩
theorem Hu (hok:fK ops es tb T) {s0:S}:∀ (l:List Oper) (i:Nat) (acc:List Acc) (hs:List o9) (s:S) (vs:List AV) (Q:S→Prop),ops.toList.drop i=l→i≤ops.size→vs.length=i→hs.length=jg es i+1→hs[jg es i]?=some (s.rows,s.next)→s.n=s0.n →
  (∀ r,s.get r=iG ops s0 vs i r)→qC P w0 T0 ops es s0 i vs hs→EU P w0 T0 ops es tb s0 i vs acc→jl P w0 T0 ops es tb l i acc hs s Q→∃ vs' hs' sf,su P w0 T0 ops es tb s0 hs Q vs' hs' sf:=by
 intro l
 induction l with
 | nil=>
  intro i acc hs s vs Q hdr hile hlen hhl hcur hn hget hd hre h
  have hi:i=ops.size:=by
   have:=List.drop_eq_nil_iff.1 hdr
   simp at this;omega
  subst hi
  obtain ⟨hredo,hq⟩:=h
  refine ⟨vs,hs,s,hq,hn,hhl,hcur,hget,hd,?_,fun _ _ h=>h⟩
  intro j o hj he k hk h hh
  rcases hre j o (Array.getElem?_eq_some_iff.1 hj).1 hj he k hk with h0|⟨x,hx,hks,h0⟩
  ·exact h0 h
  ·obtain ⟨h',hh',hc⟩:=He _ hredo x hx k (by rw [hks];exact hk)
   rw [hh] at hh';cases hh'
   rw [hn] at hc
   exact h0 h hc
 | cons o l ih=>
  intro i acc hs s vs Q hdr hile hlen hhl hcur hn hget hd hre h
  have hi:ops[i]?=some o:=by
   have h1:(ops.toList.drop i)[0]?=some o:=by rw [hdr];rfl
   rw [List.getElem?_drop] at h1
   simpa using h1
  have hilt:i<ops.size:=(Array.getElem?_eq_some_iff.1 hi).1
  have hdr':ops.toList.drop (i+1)=l:=by
   have:(ops.toList.drop i).drop 1=l:=by rw [hdr];rfl
   rwa [List.drop_drop] at this
  have hrd:=hok.reads i o hi
  have hgetQ:∀ {h h':o9} {v:AV},QS P w0 T0 ops o s.n s.get h h' v→QS P w0 T0 ops o s0.n (iG ops s0 vs i) h h' v:=by
   intro h h' v hq
   rw [←hn]
   exact hq.congr fun r _=>(hget r).symm
  have hown1:es.elem i=false→jg es (i+1)=jg es i:=fun e=>by rw [y7,e];rfl
  have hown2:es.elem i=true→jg es (i+1)=jg es i+1:=fun e=>by rw [y7,e];rfl
  -- a quiet operation
  have quiet:es.elem i=false→∀ (v:AV) (acc':List Acc),(∀ x,x∈acc→x∈acc')→QS P w0 T0 ops o s.n s.get (s.rows,s.next) (s.rows,s.next) v →
    (∀ k,k∈kW tb i→(∀ h,QS P w0 T0 ops o s.n s.get h h v)∨∃ x,x∈acc'∧x.ks=kW tb i∧∀ h,jR P w0 T0 s0.n x h→QS P w0 T0 ops o s.n s.get h h v) →
    eU o.dst v s (fun s'=>jl P w0 T0 ops es tb l (i+1) acc' hs s' Q)→∃ vs' hs' sf,su P w0 T0 ops es tb s0 hs Q vs' hs' sf:=by
   intro he v acc' hsub hqs hnew hput
   obtain ⟨s',hk,hn',hr',hx',hg',hd'⟩:=FB hok hi hlen hn hget hd hhl (fun _ _ h=>h) (fun _=>⟨_,hcur,hgetQ hqs⟩) (fun e=>by rw [he] at e;cases e) hput
   refine ih (i+1) acc' hs s' (vs++[v]) Q hdr' hilt (by simp [hlen]) (by rw [hown1 he];exact hhl) (by rw [hown1 he,hr',hx'];exact hcur) hn' hg' hd' ?_ hk
   refine hre.step hlen hi hsub fun _ k hk=>?_
   rcases hnew k hk with h0|⟨x,hx,hks,h0⟩
   ·exact .inl fun h=>hgetQ (h0 h)
   ·exact .inr ⟨x,hx,hks,fun h hc=>hgetQ (h0 h hc)⟩
  have eff:es.elem i=true→∀ (v:AV) (R:List (Nat × Item)) (N:Nat),QS P w0 T0 ops o s.n s.get (s.rows,s.next) (R,N) v →
    eU o.dst v { s with rows:=R,next:=N } (fun s'=>jl P w0 T0 ops es tb l (i+1) acc (hs++[(R,N)]) s' Q)→∃ vs' hs' sf,su P w0 T0 ops es tb s0 hs Q vs' hs' sf:=by
   intro he v R N hqs hput
   have hpre:∀ (k:Nat) (h:o9),hs[k]?=some h→(hs++[(R,N)])[k]?=some h:=by
    intro k h hk
    rw [List.getElem?_append_left (List.getElem?_eq_some_iff.1 hk).1];exact hk
   have hlast:(hs++[(R,N)])[jg es i+1]?=some (R,N):=by
    rw [←hhl];simp
   obtain ⟨s',hk,hn',hr',hx',hg',hd'⟩:=FB (s:={ s with rows:=R,next:=N }) hok hi hlen hn hget hd hhl hpre (fun e=>by rw [he] at e;cases e) (fun _=>⟨_,_,hpre _ _ hcur,hlast,hgetQ hqs⟩) hput
   obtain ⟨vs',hs',sf,hend⟩:=ih (i+1) acc (hs++[(R,N)]) s' (vs++[v]) Q hdr' hilt (by simp [hlen]) (by rw [hown2 he];simp [hhl]) (by rw [hown2 he,hr',hx'];exact hlast) hn' hg' hd'
    (hre.step hlen hi (fun _ h=>h) fun e=>by rw [he] at e;cases e) hk
   exact ⟨vs',hs',sf,{ hend with pre:=fun k h hk=>hend.pre k h (hpre k h hk) }⟩
  unfold jl at h
  cases hg:gd ops s o with
  | none=>rw [hg] at h;exact h.elim
  | some g=>
   rw [hg] at h
   simp only [LC] at h
   rw [vZ] at h
   cases he:es.elem i with
   | true=>
    rw [he] at h
    simp only [Le] at h
    cases g with
    | none=>
     dsimp only at h
     have hx:∃ v R N,jU P w0 T0 o ⟨s.n,cO s (dD o.op),s.rows,s.next⟩ (fun r s'=>r=v∧s'.rows=R∧s'.next=N)∧eU o.dst v { s with rows:=R,next:=N } (fun s'=>jl P w0 T0 ops es tb l (i+1) acc (hs++[(R,N)]) s' Q):=by
      cases hl:pR o.op with
      | false=>
       rw [hl] at h
       obtain ⟨v,R,N,h1,h2,h3⟩:=h
       exact ⟨v,R,N,h1,ig h2 h3⟩
      | true=>
       rw [hl] at h
       obtain ⟨v,t,⟨h2,h3⟩,hall⟩:=zY hl _ h
       exact ⟨v,t.rows,t.next,hall _ ⟨rfl,rfl,rfl⟩,ig h2 h3⟩
     obtain ⟨v,R,N,hA,hB⟩:=hx
     exact eff he v R N (QS.plain (h:=(s.rows,s.next)) (h':=(R,N)) (jv hg) (lW (h:=(s.rows,s.next)) hrd hA)) hB
    | some c=>
     dsimp only at h
     cases c with
     | true=>
      obtain ⟨v,R,N,⟨hpc,hA⟩,h2,h3⟩:=h.1 rfl
      exact eff he (.opt true v) R N (QS.guarded (h:=(s.rows,s.next)) (h':=(R,N)) hg (fun _=>oO (h:=(s.rows,s.next)) hrd hpc hA) (fun e=>by cases e)) (ig h2 h3)
     | false=>
      obtain ⟨h2,h3⟩:=h.2 rfl
      exact eff he (.opt false (.bool false)) s.rows s.next (QS.guarded (h:=(s.rows,s.next)) (h':=(s.rows,s.next)) hg (fun e=>by cases e) (fun _=>⟨rfl,rfl⟩)) (ig h2 h3)
   | false=>
    rw [he] at h
    simp only [Le] at h
    have gen:∀ v,wZ P w0 T0 o g s v→eU o.dst (uw g v) s (fun s'=>jl P w0 T0 ops es tb l (i+1) (kJ (kW tb i) ⟨o,g,kZ g s (dD o.op),v,kW tb i⟩ acc) hs s' Q)→∃ vs' hs' sf,su P w0 T0 ops es tb s0 hs Q vs' hs' sf:=by
     intro v hA hput
     cases g with
     | none=>
      refine quiet he v _ (fun x hx=>wV hx) (QS.plain (h:=(s.rows,s.next)) (h':=(s.rows,s.next)) (jv hg) (lW (h:=(s.rows,s.next)) hrd hA)) ?_ hput
      intro k hk
      refine .inr ⟨_,uz hk,rfl,fun h hc=>QS.plain (h:=h) (h':=h) (jv hg) (lW (h:=h) hrd ?_)⟩
      simp only [jR,G8] at hc
      rw [←hn] at hc
      exact hc
     | some c=>
      refine quiet he (.opt c v) _ (fun x hx=>wV hx) (QS.guarded (h:=(s.rows,s.next)) (h':=(s.rows,s.next)) hg (fun e=>oO (h:=(s.rows,s.next)) hrd (hA.2 e).1 (hA.2 e).2) (fun _=>⟨rfl,hA.1⟩)) ?_ hput
      intro k hk
      refine .inr ⟨_,uz hk,rfl,fun h hc=>?_⟩
      simp only [jR,G8] at hc
      rw [←hn] at hc
      exact QS.guarded (h:=h) (h':=h) hg (fun e=>oO (h:=h) hrd (hA.2 e).1 (hc.2 e)) (fun _=>⟨rfl,hc.1⟩)
    unfold Ji at h
    cases hp:pK ⟨s.n,cO s (dD o.op),s.rows,s.next⟩ o.op with
    | some pb=>
     obtain ⟨pre,b⟩:=pb
     rw [hp] at h
     cases g with
     | none=>
      obtain ⟨⟨h1,h2⟩,h3,h4⟩:=h
      have hall:∀ h:o9,QS P w0 T0 ops o s.n s.get h h (.bool b):=fun h=>QS.plain (jv hg) (qQ hrd hp h1 h2)
      exact quiet he _ acc (fun _ h=>h) (hall _) (fun _ _=>.inl hall) (ig h3 h4)
     | some c=>
      obtain ⟨h1,h3,h4⟩:=h
      have hall:∀ h:o9,QS P w0 T0 ops o s.n s.get h h (.opt c (.bool b)):=fun h=>QS.guarded hg (fun e=>qQ hrd hp (h1 e).1 (h1 e).2) (fun _=>⟨rfl,rfl⟩)
      exact quiet he _ acc (fun _ h=>h) (hall _) (fun _ _=>.inl hall) (ig h3 h4)
    | none=>
     rw [hp] at h
     dsimp only at h
     cases hv:IB P ⟨s.n,kZ g s (dD o.op),s.rows,s.next⟩ o.op with
     | some v=>
      rw [hv] at h
      obtain ⟨h1,h3,h4⟩:=h
      exact gen v h1 (ig h3 h4)
     | none=>
      rw [hv] at h
      have call:(∃ v,wZ P w0 T0 o g s v∧aO (eG o.dst s.n) (jl P w0 T0 ops es tb l (i+1) (kJ (kW tb i) ⟨o,g,kZ g s (dD o.op),v,kW tb i⟩ acc) hs (dV o.dst (uw g v) s) Q))→∃ vs' hs' sf,su P w0 T0 ops es tb s0 hs Q vs' hs' sf:=by
       rintro ⟨v,h1,h3,h4⟩
       exact gen v h1 (ig h3 h4)
      cases g with
      | some c=>exact call h
      | none=>
       cases hl:pR o.op with
       | false=>rw [hl] at h;exact call h
       | true=>
        rw [hl] at h
        obtain ⟨v,t,⟨⟨hr,hx⟩,h3,h4⟩,hall⟩:=zY hl _ h
        exact gen v (hall _ ⟨rfl,hr,hx⟩) (ig h3 h4)
end
section
variable {P:Program} {w0:World} {T0:Bs} {b0:Nat} {ops:Array Oper} {es:List Nat} {tb:List (Nat × List Nat)} {T:List Nat} {H:List (AV × Value)} [hG:mQ P w0 T0]
theorem uX {L:Array Bool} {i:Nat} (h:L.getD i true=false):L.getD i false=false:=by
 rcases Nat.lt_or_ge i L.size with h'|h'
 ·simpa [h'] using h
 ·simp [Array.getElem?_eq_none h']
theorem Fh {L:Array Bool} {i:Nat} (hi:i<L.size) (h:L.getD i false=false):L.getD i true=false:=by
 simpa [hi] using h
theorem wC (m j:Nat):(Array.replicate m false).getD j false=false:=by
 rcases Nat.lt_or_ge j m with h|h
 ·simp [h]
 ·simp [Array.getElem?_eq_none,h]
def jh (L:Array Bool) (n:Nat):Nat:=(List.range n).countP fun j=>!L.getD j false
theorem oM {L:Array Bool} {i:Nat} (hs:i<L.size) (hi:L.getD i false=false):∀ n,jh (L.setIfInBounds i true) n+(if i<n then 1 else 0)=jh L n
 | 0=>by simp [jh]
 | n+1=>by
  have ih:=oM hs hi n
  unfold jh at *
  rw [List.range_succ,List.countP_append,List.countP_append,List.countP_singleton,List.countP_singleton]
  by_cases e:i=n
  ·subst e
   have h1:(L.setIfInBounds i true).getD i false=true:=by simp [hs]
   rw [h1,hi]
   simp at ih ⊢
   omega
  ·rw [getD_set_ne false e]
   by_cases h2:i<n
   ·rw [if_pos h2] at ih;rw [if_pos (show i<n+1 by omega)];omega
   ·rw [if_neg h2] at ih;rw [if_neg (show ¬i<n+1 by omega)];omega
theorem wX {L:Array Bool} {n:Nat} (h:jh L n=0):∀ i,i<n→L.getD i false=true:=by
 intro i hi
 unfold jh at h
 have:=List.countP_eq_zero.1 h i (List.mem_range.2 hi)
 simpa using this
def mP (ops:Array Oper) (s0:S) (vs:List AV) (L:Array Bool) (r:Nat):AV:=match DR ops r with
 | some j=>bif L.getD j false then vs.getD j .dead else s0.get r
 | none=>s0.get r
structure Hz (w0:World) (T0:Bs) (H:List (AV × Value)) (ops:Array Oper) (es:List Nat) (s0:S) (vs:List AV) (hs:List o9) (L:Array Bool) (k:Nat) (env:List (Nat × AV)) (a:Act) (w:World):Prop where
 size:L.size=ops.size
 closed:∀ (i:Nat) (o:Oper),ops[i]?=some o→L.getD i false=true→∀ e,e∈o.after→Region.binds .any e=true→L.getD e.on false=true
 kle:k≤es.length
 es:∀ (q i:Nat),es[q]?=some i→(L.getD i false=true↔q<k)
 get:∀ r,S.get ⟨s0.n,env,[],0⟩ r=mP ops s0 vs L r
 rep:∃ h,hs[k]?=some h∧Rep w0 T0 H ⟨s0.n,env,h.1,h.2⟩ a w
theorem fU (hok:fK ops es tb T) {L:Array Bool} (hsz:L.size=ops.size) (hc:∀ (i:Nat) (o:Oper),ops[i]?=some o→L.getD i false=true→∀ e,e∈o.after→Region.binds .any e=true→L.getD e.on false=true) :
  ∀ (i:Nat) (o:Oper),ops[i]?=some o→(∀ e,e∈o.after→Region.binds .any e=true→L.getD e.on false=true)→∀ q,q<ops.size→mM T i q=true→L.getD q false=true:=by
 intro i
 induction i using Nat.strongRecOn with
 | _ i ih=>
  intro o hi hd q hq hb
  obtain ⟨e,he,hbd,hx⟩:=hok.anc i o hi q hq hb
  rcases hx with rfl|hx
  ·exact hd e he hbd
  ·have hlt:=hok.low i o hi e he hbd
   have hL:=hd e he hbd
   cases hoe:ops[e.on]? with
   | none=>
    have:=Array.getElem?_eq_none_iff.1 hoe
    have hi':=(Array.getElem?_eq_some_iff.1 hi).1
    omega
   | some oe=>exact ih e.on hlt oe hoe (hc e.on oe hoe hL) q hq hx
theorem Kt (hok:fK ops es tb T) {s0 sf:S} {Q:S→Prop} {vs:List AV} {hs:List o9} {hs0:List o9} (hend:su P w0 T0 ops es tb s0 hs0 Q vs hs sf) :
  ∀ (fuel:Nat) (L:Array Bool) (k:Nat) (env:List (Nat × AV)) (a:Act) (w:World),jh L ops.size=fuel→Hz w0 T0 H ops es s0 vs hs L k env a w →
   wpAny P .any ops (fun e a' w'=>e=.normal∧∃ s',Q s'∧Rep w0 T0 H s' a' w') fuel L a w:=by
 have fin:∀ (L:Array Bool) (k:Nat) (env:List (Nat × AV)) (a:Act) (w:World),(∀ i,i<ops.size→L.getD i false=true)→Hz w0 T0 H ops es s0 vs hs L k env a w→∃ s',Q s'∧Rep w0 T0 H s' a w:=by
  intro L k env a w hall inv
  have hk:k=es.length:=by
   rcases Nat.lt_or_ge k es.length with hlt|hge
   ·have h1:=inv.es k es[k] (List.getElem?_eq_getElem hlt)
    have h2:=hok.es1 k es[k] (List.getElem?_eq_getElem hlt)
    have:=h1.1 (hall _ h2.1)
    omega
   ·have:=inv.kle;omega
  obtain ⟨h,hh,m,hm⟩:=inv.rep
  have hl:=hend.last
  rw [hok.tot,←hk,hh] at hl
  cases hl
  refine ⟨sf,hend.q,m,?_⟩
  refine { size:=by rw [hend.n];exact hm.size,nodef:=hm.nodef,below:=hm.below,held:=hm.held,rows:=hm.rows,sep:=hm.sep,env:=?_ }
  intro r v hv
  have hg:S.get ⟨s0.n,env,[],0⟩ r=v:=by
   rw [inv.get r]
   have h1:=hend.get r
   have h2:sf.get r=v:=by simp [S.get,hv]
   rw [←h2,h1]
   unfold mP iG
   cases hx:DR ops r with
   | none=>rfl
   | some j=>
    obtain ⟨o,ho,_⟩:=iT hx
    have hlt:=(Array.getElem?_eq_some_iff.1 ho).1
    simp [hall j hlt,hlt]
  simp only [S.get] at hg
  cases hl:lk env r with
  | none=>rw [hl] at hg;simp only at hg;subst hg;exact .dead _
  | some v'=>rw [hl] at hg;simp only at hg;subst hg;exact hm.env r v' hl
 intro fuel
 induction fuel with
 | zero=>
  intro L k env a w hf inv
  have hall:=wX hf
  refine ⟨?_,rfl,fin L k env a w hall inv⟩
  apply List.eq_nil_iff_forall_not_mem.2
  intro j hj
  obtain ⟨h1,o,ho,_⟩:=mem_ready.1 hj
  have hlt:=(Array.getElem?_eq_some_iff.1 ho).1
  have h2:=hall j hlt
  rw [uX h1] at h2
  cases h2
 | succ fuel ih=>
  intro L k env a w hf inv
  refine ⟨?_,?_⟩
  ·intro hr
   refine ⟨rfl,fin L k env a w ?_ inv⟩
   intro i
   induction i using Nat.strongRecOn with
   | _ i ihi=>
    intro hi
    cases hL:L.getD i false with
    | true=>rfl
    | false=>
     exfalso
     obtain ⟨o,ho⟩:∃ o,ops[i]?=some o:=⟨ops[i],Array.getElem?_eq_getElem hi⟩
     have hmem:i∈Region.ready .any ops L:=mem_ready.2 ⟨Fh (by rw [inv.size];exact hi) hL,o,ho,fun e he hb=>ihi e.on (hok.low i o ho e he hb) (Nat.lt_trans (hok.low i o ho e he hb) hi)⟩
     rw [hr] at hmem;cases hmem
  ·intro i hi
   obtain ⟨hun,o,ho,hdep⟩:=mem_ready.1 hi
   have hlt:=(Array.getElem?_eq_some_iff.1 ho).1
   have hL:L.getD i false=false:=uX hun
   have hanc:=fU hok inv.size inv.closed i o ho hdep
   -- what the operation looks at
   have hagree:∀ r,r∈o.looksAt ops→S.get ⟨s0.n,env,[],0⟩ r=iG ops s0 vs i r:=by
    intro r hr
    rw [inv.get r]
    unfold mP iG
    cases hx:DR ops r with
    | none=>rfl
    | some j=>
     obtain ⟨oj,hj,hdj⟩:=iT hx
     have hjlt:=(Array.getElem?_eq_some_iff.1 hj).1
     rcases hok.look i o r j oj ho hj hdj hr with ⟨hb,hji⟩|⟨hb,hij,hb'⟩
     ·dsimp only
      rw [hanc j hjlt hb,if_pos hji];rfl
     ·have hLj:L.getD j false=false:=by
       cases hLj:L.getD j false with
       | false=>rfl
       | true=>
        have:=fU hok inv.size inv.closed j oj hj (inv.closed j oj hj hLj) i hlt hb'
        rw [hL] at this;cases this
      dsimp only
      rw [hLj,if_neg (by omega)];rfl
   -- one more is listed
   have next:∀ (k':Nat) (h':o9) (val:Value) (w':World),hs[k']?=some h'→k'≤es.length→(∀ (q j:Nat),es[q]?=some j→((L.setIfInBounds i true).getD j false=true↔q<k')) →
     Rep w0 T0 ((vs.getD i .dead,val)::H) ⟨s0.n,env,h'.1,h'.2⟩ a w' →
     wpAny P .any ops (fun e a' w'=>e=.normal∧∃ s',Q s'∧Rep w0 T0 H s' a' w') fuel (L.setIfInBounds i true) (a.put o.dst val) w':=by
    intro k' h' val w' hh' hk' hes' ⟨m',hm'⟩
    have hop:=oM (by rw [inv.size];exact hlt) hL ops.size
    rw [if_pos hlt] at hop
    have hclosed:∀ (j:Nat) (oj:Oper),ops[j]?=some oj→(L.setIfInBounds i true).getD j false=true→∀ e,e∈oj.after→Region.binds .any e=true→(L.setIfInBounds i true).getD e.on false=true:=by
     intro j oj hj hLj e he hb
     by_cases hij:i=j
     ·subst hij
      rw [ho] at hj;cases hj
      exact getD_set_true (hdep e he hb)
     ·rw [getD_set_ne false hij] at hLj
      exact getD_set_true (inv.closed j oj hj hLj e he hb)
    have hset:∀ r,o.dst≠some r→mP ops s0 vs (L.setIfInBounds i true) r=mP ops s0 vs L r:=by
     intro r hr
     unfold mP
     cases hx:DR ops r with
     | none=>rfl
     | some j=>
      dsimp only
      have hne:i≠j:=by
       rintro rfl
       obtain ⟨oj,hj,hdj⟩:=iT hx
       rw [ho] at hj;cases hj
       exact hr hdj
      rw [getD_set_ne false hne]
    cases hd:o.dst with
    | none=>
     refine ih _ k' env _ w' (by omega) { size:=by simpa using inv.size,closed:=hclosed,kle:=hk',es:=hes',get:=fun r=>?_,rep:=⟨h',hh',m',hm'.lY⟩ }
     rw [hset r (by rw [hd];simp)];exact inv.get r
    | some d=>
     have hdn:d<s0.n:=hend.done.put i o d hlt ho hd
     have hput:=hm'.lY.LJ (hm'.held _ (.head _)) (d:=d) hdn
     refine ih _ k' ((d,vs.getD i .dead)::env) _ w' (by omega) { size:=by simpa using inv.size,closed:=hclosed,kle:=hk',es:=hes',get:=fun r=>?_,rep:=⟨h',hh',m',hput⟩ }
     by_cases e:d=r
     ·subst e
      have hx:=hok.DR ho hd
      have hL1:(L.setIfInBounds i true).getD i false=true:=by
       have:i<L.size:=by rw [inv.size];exact hlt
       simp [this]
      unfold mP
      rw [hx]
      dsimp only
      rw [hL1]
      simp [S.get,lk]
     ·rw [hset r (by rw [hd];simpa using e),←inv.get r]
      simp [S.get,lk,e]
   obtain ⟨h,hh,hrep⟩:=inv.rep
   unfold wpOp
   rw [ho]
   dsimp only
   have wrap:∀ {A B:Prop} {b:Bool} {C:Prop},(if b=true then A else B)→(if b=true then A∨C else B):=by
    intro A B b C h
    cases b with
    | true=>simpa using Or.inl h
    | false=>simpa using h
   apply wrap
   cases he:es.elem i with
   | false=>
    have hes':∀ (q j:Nat),es[q]?=some j→((L.setIfInBounds i true).getD j false=true↔q<k):=by
     intro q j hq
     have hne:i≠j:=by
      rintro rfl
      have:es.elem i=true:=by simpa using List.mem_of_getElem? hq
      rw [he] at this;cases this
     rw [getD_set_ne false hne]
     exact inv.es q j hq
    have hqs:QS P w0 T0 ops o s0.n (iG ops s0 vs i) h h (vs.getD i .dead):=by
     rcases hok.heaps i o ho he k inv.kle with h0|h0|⟨k',e,hk',hke,hb⟩|⟨k',e,hk',hke,hb⟩
     ·obtain ⟨h2,hh2,hq⟩:=hend.done.quiet i o hlt ho he
      rw [←h0,hh] at hh2;cases hh2
      exact hq
     ·exact hend.re i o ho he k h0 h hh
     ·have h1:=hanc e (hok.es1 k' e hke).1 hb
      have:=(inv.es k' e hke).1 h1
      omega
     ·have h1:=(inv.es k' e hke).2 hk'
      cases hoe:ops[e]? with
      | none=>
       have h2:=Array.getElem?_eq_none_iff.1 hoe
       have h3:=(hok.es1 k' e hke).1
       omega
      | some oe=>
       have:=fU hok inv.size inv.closed e oe hoe (inv.closed e oe hoe h1) i hlt hb
       rw [hL] at this;cases this
    exact hqs env hagree H a w _ _ hrep fun val w' hr'=>next k h val w' hh inv.kle hes' hr'
   | true=>
    obtain ⟨q,hq⟩:=List.mem_iff_getElem?.1 (show i∈es by simpa using he)
    obtain ⟨_,hown⟩:=hok.es1 q i hq
    have hge:¬q<k:=fun hlt'=>by
     have:=(inv.es q i hq).2 hlt'
     rw [hL] at this;cases this
    have hqk:q=k:=by
     cases q with
     | zero=>omega
     | succ q=>
      have hqlt:q<es.length:=by
       have:=(List.getElem?_eq_some_iff.1 hq).1;omega
      have h1:=hok.es2 q es[q] i (List.getElem?_eq_getElem hqlt) hq
      have h2:=hanc es[q] (hok.es1 q _ (List.getElem?_eq_getElem hqlt)).1 h1
      have h3:=(inv.es q _ (List.getElem?_eq_getElem hqlt)).1 h2
      omega
    subst hqk
    obtain ⟨h1,h2,hh1,hh2,hqs⟩:=hend.done.eff i o hlt ho he
    rw [hown,hh] at hh1;cases hh1
    rw [hown] at hh2
    have hqlt:q<es.length:=(List.getElem?_eq_some_iff.1 hq).1
    have hes':∀ (q' j:Nat),es[q']?=some j→((L.setIfInBounds i true).getD j false=true↔q'<q+1):=by
     intro q' j hq'
     by_cases e:i=j
     ·subst e
      have h3:=(hok.es1 q' i hq').2
      have:i<L.size:=by rw [inv.size];exact hlt
      have h4:(L.setIfInBounds i true).getD i false=true:=by simp [this]
      rw [h4]
      constructor
      ·intro _;omega
      ·intro _;rfl
     ·rw [getD_set_ne false e]
      have h3:=(hok.es1 q' j hq').2
      have hne:q'≠q:=by
       rintro rfl
       rw [hq] at hq';cases hq';exact e rfl
      rw [inv.es q' j hq']
      omega
    exact hqs env hagree H a w _ _ hrep fun val w' hr'=>next (q+1) h2 val w' hh2 hqlt hes' hr'
theorem bT.lex {id:Nat} {s:S} {Q:S→Prop} (es:List Nat) (tb:List (Nat × List Nat)) (hm:P.follows .mixedOrders=true) (hok:CG ops es tb (CX ops)=true)
  (h:jl P w0 T0 ops es tb ops.toList 0 [] [(s.rows,s.next)] s Q):@bT P w0 T0 b0 id ops s ⟨Q⟩:=by
 intro H a w _ hr
 refine wp_region_any hm ?_
 have hr':Rep w0 T0 H s a { w with drawn:=w.drawn+1 }:=by
  obtain ⟨m,hm⟩:=hr
  exact ⟨m,hm.drawn⟩
 have ok:=fK.of hok
 have hg0:∀ r,s.get r=iG ops s [] 0 r:=by
  intro r;unfold iG;split<;>simp
 obtain ⟨vs,hs,sf,hend⟩:=Hu ok ops.toList 0 [] [(s.rows,s.next)] s [] Q rfl (Nat.zero_le _) rfl rfl rfl rfl hg0
  ⟨fun j o h=>absurd h (by omega),fun j o h=>absurd h (by omega),fun j o d h=>absurd h (by omega)⟩ (fun j o h=>absurd h (by omega)) h
 have hL:∀ j,(Array.replicate ops.size false).getD j false=false:=fun j=>wC _ j
 have hop:jh (Array.replicate ops.size false) ops.size=ops.size:=by
  unfold jh
  have:(List.range ops.size).countP (fun j=>!(Array.replicate ops.size false).getD j false)=(List.range ops.size).length:=by
   apply List.countP_eq_length.2
   intro j _
   rw [hL j];rfl
  rw [this,List.length_range]
 refine Kt ok hend ops.size (Array.replicate ops.size false) 0 s.env a _ hop ?_
 refine { size:=by simp,closed:=fun i o _ h=>(by rw [hL] at h;cases h),kle:=Nat.zero_le _,es:=fun q i _=>(by rw [hL];simp),get:=fun r=>?_,rep:=⟨_,hend.pre 0 _ rfl,hr'⟩ }
 unfold mP
 split
 ·rw [hL];rfl
 ·rfl
end
end Go.Fv
/-! Regions whose order is drawn, where operations that change the state may change places: a tree of these; the others are walked once, and shown again where the heap changes. -/
namespace Go.Fv
open Go.RowKit
inductive pF where
 | done
 | none
 | quiet (i:Nat) (t:pF)
 | eff (i:Nat) (ks:List Nat) (t r:pF)
def dF (ks:List Nat):List (Nat × Acc)→List (Nat × Acc)
 | []=>[]
 | x::l=>bif pI ks x.1 then x::dF ks l else dF ks l
def FT (P:Program) (w0:World) (T0:Bs) (n:Nat) (o:Oper) (g:Option Bool) (env:List (Nat × AV)) (v:AV) (R:List (Nat × Item)) (N:Nat):Prop:=match g with
 | .none=>G8 P w0 T0 o ⟨n,env,R,N⟩ v
 | .some c=>Fv.below N v=true∧(c=true→G8 P w0 T0 o ⟨n,env,R,N⟩ v)
def pU (P:Program) (w0:World) (T0:Bs) (n:Nat) (R:List (Nat × Item)) (N:Nat):List (Nat × Acc)→Prop
 | []=>True
 |(_,⟨o,g,env,v,_⟩)::l=>FT P w0 T0 n o g env v R N∧pU P w0 T0 n R N l
def dA (P:Program) (w0:World) (T0:Bs) (ops:Array Oper):pF→List (Nat × Acc)→S→(S→Prop)→Prop
 | .done,_,s,Q=>Q s
 | .none,_,_,_=>True
 | .quiet i t,acc,s,Q=>match ops[i]? with
  | .none=>False
  | .some o=>@LC (gd ops s o) ⟨fun g=>@MR (Ji P w0 T0 o g s) ⟨
    fun v re=>aO (eG o.dst s.n) (dA P w0 T0 ops t (bif re then (i,⟨o,g,kZ g s (dD o.op),v,[]⟩)::acc else acc) (dV o.dst (uw g v) s) Q),
    jU P w0 T0 o ⟨s.n,cO s (dD o.op),s.rows,s.next⟩ (fun v t'=>@MG v t' ⟨fun v R N=>aO (R=s.rows∧N=s.next) (aO (eG o.dst s.n) (dA P w0 T0 ops t ((i,⟨o,g,kZ g s (dD o.op),v,[]⟩)::acc) (dV o.dst v s) Q))⟩),
    @QV ⟨fun v=>wZ P w0 T0 o g s v,
     fun v=>aO (eG o.dst s.n) (dA P w0 T0 ops t ((i,⟨o,g,kZ g s (dD o.op),v,[]⟩)::acc) (dV o.dst (uw g v) s) Q)⟩⟩⟩
 | .eff i ks t r,acc,s,Q=>(match ops[i]? with
  | .none=>False
  | .some o=>@LC (gd ops s o) ⟨fun g=>match g with
   | .none=>@Le (pR o.op) ⟨
     jU P w0 T0 o ⟨s.n,cO s (dD o.op),s.rows,s.next⟩ (fun v t'=>@MG v t' ⟨fun v R N=>pU P w0 T0 s.n R N (dF ks acc)∧aO (eG o.dst s.n) (dA P w0 T0 ops t (dF ks acc) (dV o.dst v ⟨s.n,s.env,R,N⟩) Q)⟩),
     @QE ⟨fun v R N=>jU P w0 T0 o ⟨s.n,cO s (dD o.op),s.rows,s.next⟩ (fun r t=>r=v∧t.rows=R∧t.next=N),
      fun v R N=>pU P w0 T0 s.n R N (dF ks acc)∧aO (eG o.dst s.n) (dA P w0 T0 ops t (dF ks acc) (dV o.dst v ⟨s.n,s.env,R,N⟩) Q)⟩⟩
   | .some c=>@Ite c ⟨@QE ⟨fun v R N=>dJ s (dD o.op)=true∧jU P w0 T0 o ⟨s.n,gV s (dD o.op),s.rows,s.next⟩ (fun r t=>r=v∧t.rows=R∧t.next=N),
      fun v R N=>pU P w0 T0 s.n R N (dF ks acc)∧aO (eG o.dst s.n) (dA P w0 T0 ops t (dF ks acc) (dV o.dst (.opt true v) ⟨s.n,s.env,R,N⟩) Q)⟩⟩
     ⟨pU P w0 T0 s.n s.rows s.next (dF ks acc)∧aO (eG o.dst s.n) (dA P w0 T0 ops t (dF ks acc) (dV o.dst (.opt false (.bool false)) s) Q)⟩⟩)∧dA P w0 T0 ops r acc s Q
/-! ### Which trees are right -/
def BI (ops:Array Oper) (V:Array Bool) (i:Nat):Bool:=match ops[i]? with
 | .some o=>o.after.all fun e=>!Region.binds .any e || V.getD e.on false
 | .none=>false
def altIds:pF→List Nat
 | .eff i _ _ r=>i::altIds r
 | _=>[]
def dU (ops:Array Oper) (T:List Nat):pF→Bool→Array Bool→List Nat→Bool
 | .done,b,V,_=>b && (List.range ops.size).all fun j=>V.getD j false
 | .none,b,_,_=>!b
 | .quiet i t,b,V,Pd=>b && decide (i<ops.size) && !V.getD i false && BI ops V i && dU ops T t true (V.setIfInBounds i true) (i::Pd)
 | .eff i ks t r,b,V,Pd=>(!b || (List.range ops.size).all fun j=>V.getD j false || !BI ops V j || (i::altIds r).contains j) && decide (i<ops.size) && !V.getD i false && BI ops V i && Pd.all (fun j=>mM T i j || pI ks j) && ks.all (fun j=>Pd.contains j) && dU ops T t true (V.setIfInBounds i true) ks && dU ops T r false V Pd
section
variable {P:Program} {w0:World} {T0:Bs} {b0:Nat} {ops:Array Oper} {T:List Nat} {H:List (AV × Value)} [hG:mQ P w0 T0]
def Cl (ops:Array Oper) (V:Array Bool):Prop:=∀ (i:Nat) (o:Oper),ops[i]?=some o→V.getD i false=true→∀ e,e∈o.after→Region.binds .any e=true→V.getD e.on false=true
def Dp (V:Array Bool) (o:Oper):Prop:=∀ e,e∈o.after→Region.binds .any e=true→V.getD e.on false=true
theorem vV {V:Array Bool} {i:Nat} {o:Oper} (ho:ops[i]?=some o):BI ops V i=true↔Dp V o:=by
 unfold BI Dp
 rw [ho]
 dsimp only
 rw [Array.all_eq_true_iff_forall_mem]
 constructor
 ·intro h e he hb
  have:=h e he
  simpa [hb] using this
 ·intro h e he
  cases hb:Region.binds .any e with
  | false=>rfl
  | true=>simpa [hb] using h e he hb
theorem agree (hok:fK ops [] [] T) {s0:S} {vs:List AV} {V V':Array Bool} {i:Nat} {o:Oper} (ho:ops[i]?=some o) (hs:V.size=ops.size) (hs':V'.size=ops.size) (hc:Cl ops V) (hc':Cl ops V') (hd:Dp V o) (hd':Dp V' o) (hi:V.getD i false=false) (hi':V'.getD i false=false) :
  ∀ r,r∈o.looksAt ops→mP ops s0 vs V r=mP ops s0 vs V' r:=by
 intro r hr
 have hilt:=(Array.getElem?_eq_some_iff.1 ho).1
 unfold mP
 cases hx:DR ops r with
 | none=>rfl
 | some j=>
  obtain ⟨oj,hj,hdj⟩:=iT hx
  have hjlt:=(Array.getElem?_eq_some_iff.1 hj).1
  dsimp only
  rcases hok.look i o r j oj ho hj hdj hr with ⟨hb,_⟩|⟨_,_,hb⟩
  ·rw [fU hok hs hc i o ho hd j hjlt hb,fU hok hs' hc' i o ho hd' j hjlt hb]
  ·have no:∀ U:Array Bool,U.size=ops.size→Cl ops U→U.getD i false=false→U.getD j false=false:=by
    intro U h1 h2 h3
    cases hU:U.getD j false with
    | false=>rfl
    | true=>
     have:=fU hok h1 h2 j oj hj (h2 j oj hj hU) i hilt hb
     rw [h3] at this;cases this
   rw [no V hs hc hi,no V' hs' hc' hi']
theorem oQ {s0:S} {vs:List AV} {V:Array Bool} {i:Nat} {v:AV} (h:V.getD i false=false) (r:Nat):mP ops s0 (vs.set i v) V r=mP ops s0 vs V r:=by
 unfold mP
 split
 ·rename_i j _
  by_cases e:i=j
  ·subst e;rw [h];rfl
  ·simp [List.getD_eq_getElem?_getD,List.getElem?_set,e]
 ·rfl
structure xY (P:Program) (w0:World) (T0:Bs) (ops:Array Oper) (s0:S) (vs:List AV) (V:Array Bool) (Pd:List Nat) (acc:List (Nat × Acc)) (s:S):Prop where
 vsize:V.size=ops.size
 vlen:vs.length=ops.size
 cl:Cl ops V
 n:s.n=s0.n
 sget:∀ r,s.get r=mP ops s0 vs V r
 pd:∀ j,j∈Pd→V.getD j false=true∧∀ o,ops[j]?=some o→∃ U:Array Bool,U.size=ops.size∧Cl ops U∧(∀ i,U.getD i false=true→V.getD i false=true)∧Dp U o∧U.getD j false=false ∧
  QS P w0 T0 ops o s0.n (mP ops s0 vs U) (s.rows,s.next) (s.rows,s.next) (vs.getD j .dead) ∧
  ((∀ h,QS P w0 T0 ops o s0.n (mP ops s0 vs U) h h (vs.getD j .dead))∨∃ x,(j,x)∈acc∧∀ h,jR P w0 T0 s0.n x h→QS P w0 T0 ops o s0.n (mP ops s0 vs U) h h (vs.getD j .dead))
 put:∀ j o d,V.getD j false=true→ops[j]?=some o→o.dst=some d→d<s0.n
structure RInv (w0:World) (T0:Bs) (H:List (AV × Value)) (ops:Array Oper) (s0:S) (vs:List AV) (V:Array Bool) (Pd:List Nat) (s:S) (L:Array Bool) (env:List (Nat × AV)) (a:Act) (w:World):Prop where
 size:L.size=ops.size
 cl:Cl ops L
 sub:∀ i,L.getD i false=true→V.getD i false=true
 get:∀ r,S.get ⟨s0.n,env,[],0⟩ r=mP ops s0 vs L r
 rep:Rep w0 T0 H ⟨s0.n,env,s.rows,s.next⟩ a w
 pd:∀ i,V.getD i false=true→L.getD i false=false→i∈Pd
theorem zT {V:Array Bool} {i:Nat} (h:V.getD i false=true):i<V.size:=by
 rcases Nat.lt_or_ge i V.size with h'|h'
 ·exact h'
 ·simp [Array.getElem?_eq_none h'] at h
theorem DW (hok:fK ops [] [] T) {L:Array Bool} (hs:L.size=ops.size) (hr:Region.ready .any ops L=[]):∀ i,i<ops.size→L.getD i false=true:=by
 intro i
 induction i using Nat.strongRecOn with
 | _ i ihi=>
  intro hi
  cases hL:L.getD i false with
  | true=>rfl
  | false=>
   exfalso
   obtain ⟨o,ho⟩:∃ o,ops[i]?=some o:=⟨ops[i],Array.getElem?_eq_getElem hi⟩
   have hmem:i∈Region.ready .any ops L:=mem_ready.2 ⟨Fh (by rw [hs];exact hi) hL,o,ho,fun e he hb=>ihi e.on (hok.low i o ho e he hb) (Nat.lt_trans (hok.low i o ho e he hb) hi)⟩
   rw [hr] at hmem;cases hmem
theorem Cl.set {V:Array Bool} {i:Nat} {o:Oper} (h:Cl ops V) (ho:ops[i]?=some o) (hd:Dp V o):Cl ops (V.setIfInBounds i true):=by
 intro j oj hj hLj e he hb
 by_cases hij:i=j
 ·subst hij
  rw [ho] at hj;cases hj
  exact getD_set_true (hd e he hb)
 ·rw [getD_set_ne false hij] at hLj
  exact getD_set_true (h j oj hj hLj e he hb)
theorem FW (hok:fK ops [] [] T) {s0:S} {vs:List AV} {V:Array Bool} {i:Nat} {o:Oper} {g:Nat→AV} (ho:ops[i]?=some o) (hs:V.size=ops.size) (hg:∀ r,g r=mP ops s0 vs V r) :
  ∀ r,(match o.dst with|some d=>if d=r then vs.getD i .dead else g r|none=>g r)=mP ops s0 vs (V.setIfInBounds i true) r:=by
 intro r
 have hilt:=(Array.getElem?_eq_some_iff.1 ho).1
 have hV:(V.setIfInBounds i true).getD i false=true:=by
  have:i<V.size:=by rw [hs];exact hilt
  simp [this]
 have old:o.dst≠some r→g r=mP ops s0 vs (V.setIfInBounds i true) r:=by
  intro hne
  rw [hg r]
  unfold mP
  cases hx:DR ops r with
  | none=>rfl
  | some j=>
   dsimp only
   have hij:i≠j:=by
    rintro rfl
    obtain ⟨oj,hj,hdj⟩:=iT hx
    rw [ho] at hj;cases hj
    exact hne hdj
   rw [getD_set_ne false hij]
 cases hd:o.dst with
 | none=>exact old (by rw [hd];simp)
 | some d=>
  dsimp only
  by_cases e:d=r
  ·subst e
   rw [if_pos rfl]
   unfold mP
   rw [hok.DR ho hd]
   dsimp only
   rw [hV];rfl
  ·rw [if_neg e]
   exact old (by rw [hd];simpa using e)
theorem Cb {n d r:Nat} {v:AV} {env:List (Nat × AV)} {R:List (Nat × Item)} {N:Nat}:S.get ⟨n,(d,v)::env,R,N⟩ r=if d=r then v else S.get ⟨n,env,R,N⟩ r:=by
 by_cases e:d=r
 ·subst e;simp [S.get,lk]
 ·simp [S.get,lk,e]
theorem RInv.more (hok:fK ops [] [] T) {s0:S} {vs:List AV} {L:Array Bool} {env:List (Nat × AV)} {a:Act} {w':World} {i:Nat} {o:Oper} {R:List (Nat × Item)} {N:Nat} {val:Value}
  (ho:ops[i]?=some o) (hs:L.size=ops.size) (hg:∀ r,S.get ⟨s0.n,env,[],0⟩ r=mP ops s0 vs L r) (hput:∀ d,o.dst=some d→d<s0.n)
  (hr:Rep w0 T0 ((vs.getD i .dead,val)::H) ⟨s0.n,env,R,N⟩ a w') :
  ∃ env',(∀ r,S.get ⟨s0.n,env',[],0⟩ r=mP ops s0 vs (L.setIfInBounds i true) r)∧Rep w0 T0 H ⟨s0.n,env',R,N⟩ (a.put o.dst val) w':=by
 obtain ⟨m',hm'⟩:=hr
 have hst:=FW hok (s0:=s0) (vs:=vs) ho hs hg
 cases hd:o.dst with
 | none=>
  rw [hd] at hst
  exact ⟨env,hst,m',hm'.lY⟩
 | some d=>
  rw [hd] at hst
  have h2:=hm'.lY.LJ (hm'.held _ (.head _)) (d:=d) (hput d hd)
  exact ⟨(d,vs.getD i .dead)::env,fun r=>by rw [Cb];exact hst r,m',h2⟩
theorem rC {s0:S} (vs:List AV) (m r:Nat):mP ops s0 vs (Array.replicate m false) r=s0.get r:=by
 unfold mP
 split
 ·rw [wC];rfl
 ·rfl
theorem BU (hok:fK ops [] [] T) {s0 s:S} {vs:List AV} {V:Array Bool} {Pd:List Nat} {acc:List (Nat × Acc)} {Q:S→Prop} (hv:xY P w0 T0 ops s0 vs V Pd acc s)
  (hfin:(∀ i,i<ops.size→V.getD i false=true)→Q s)
  (hnew:∀ fuel L env a w,RInv w0 T0 H ops s0 vs V Pd s L env a w→∀ i o,ops[i]?=some o→Dp L o→V.getD i false=false→jh L ops.size=fuel+1→wpOp P ops (fun e a' w'=>e=.normal∧∃ s',Q s'∧Rep w0 T0 H s' a' w') i (wpAny P .any ops (fun e a' w'=>e=.normal∧∃ s',Q s'∧Rep w0 T0 H s' a' w') fuel (L.setIfInBounds i true)) a w) :
  ∀ fuel L env a w,jh L ops.size=fuel→RInv w0 T0 H ops s0 vs V Pd s L env a w→wpAny P .any ops (fun e a' w'=>e=.normal∧∃ s',Q s'∧Rep w0 T0 H s' a' w') fuel L a w:=by
 have fin:∀ (L:Array Bool) (env:List (Nat × AV)) (a:Act) (w:World),(∀ i,i<ops.size→L.getD i false=true)→RInv w0 T0 H ops s0 vs V Pd s L env a w→∃ s',Q s'∧Rep w0 T0 H s' a w:=by
  intro L env a w hall inv
  refine ⟨s,hfin fun i hi=>inv.sub i (hall i hi),?_⟩
  obtain ⟨m,hm⟩:=inv.rep
  refine ⟨m,?_⟩
  refine { size:=by rw [hv.n];exact hm.size,nodef:=hm.nodef,below:=hm.below,held:=hm.held,rows:=hm.rows,sep:=hm.sep,env:=?_ }
  intro r v hvr
  have hg:S.get ⟨s0.n,env,[],0⟩ r=v:=by
   rw [inv.get r]
   have h2:s.get r=v:=by simp [S.get,hvr]
   rw [←h2,hv.sget r]
   unfold mP
   cases hx:DR ops r with
   | none=>rfl
   | some j=>
    obtain ⟨o,ho,_⟩:=iT hx
    have hlt:=(Array.getElem?_eq_some_iff.1 ho).1
    dsimp only
    rw [hall j hlt,inv.sub j (hall j hlt)]
  simp only [S.get] at hg
  cases hl:lk env r with
  | none=>rw [hl] at hg;simp only at hg;subst hg;exact .dead _
  | some v'=>rw [hl] at hg;simp only at hg;subst hg;exact hm.env r v' hl
 intro fuel
 induction fuel with
 | zero=>
  intro L env a w hf inv
  have hall:=wX hf
  refine ⟨?_,rfl,fin L env a w hall inv⟩
  apply List.eq_nil_iff_forall_not_mem.2
  intro j hj
  obtain ⟨h1,o,ho,_⟩:=mem_ready.1 hj
  have hlt:=(Array.getElem?_eq_some_iff.1 ho).1
  have h2:=hall j hlt
  rw [uX h1] at h2
  cases h2
 | succ fuel ih=>
  intro L env a w hf inv
  refine ⟨fun hr=>⟨rfl,fin L env a w (DW hok inv.size hr) inv⟩,?_⟩
  intro i hi
  obtain ⟨hun,o,ho,hdep⟩:=mem_ready.1 hi
  have hlt:=(Array.getElem?_eq_some_iff.1 ho).1
  have hL:L.getD i false=false:=uX hun
  cases hVi:V.getD i false with
  | false=>exact hnew fuel L env a w inv i o ho hdep hVi hf
  | true=>
   obtain ⟨_,h2⟩:=hv.pd i (inv.pd i hVi hL)
   obtain ⟨U,hu1,hu2,hu3,hu4,hu5,hqs,_⟩:=h2 o ho
   unfold wpOp
   rw [ho]
   dsimp only
   have wrap:∀ {A B:Prop} {b:Bool} {C:Prop},(if b=true then A else B)→(if b=true then A∨C else B):=by
    intro A B b C h
    cases b with
    | true=>simpa using Or.inl h
    | false=>simpa using h
   apply wrap
   refine hqs env (fun r hr=>?_) H a w _ _ inv.rep fun val w' hr'=>?_
   ·rw [inv.get r]
    exact agree hok ho inv.size hu1 inv.cl hu2 hdep hu4 hL hu5 r hr
   ·obtain ⟨env',hg',hrep'⟩:=RInv.more hok ho inv.size inv.get (fun d hd=>hv.put i o d hVi ho hd) hr'
    have hop:=oM (by rw [inv.size];exact hlt) hL ops.size
    rw [if_pos hlt] at hop
    refine ih _ env' _ w' (by omega) ⟨by simpa using inv.size,inv.cl.set ho hdep,fun j hj=>?_,hg',hrep',fun j h1 h2=>?_⟩
    ·by_cases e:i=j
     ·subst e;exact hVi
     ·rw [getD_set_ne false e] at hj;exact inv.sub j hj
    ·by_cases e:i=j
     ·subst e
      have:i<L.size:=by rw [inv.size];exact hlt
      simp [this] at h2
     ·rw [getD_set_ne false e] at h2;exact inv.pd j h1 h2
end
theorem ku {ks:List Nat} {x:Nat × Acc} (hk:pI ks x.1=true):∀ {l:List (Nat × Acc)},x∈l→x∈dF ks l
 | y::l,h=>by
  unfold dF
  rcases List.mem_cons.1 h with rfl|h
  ·rw [hk];exact .head _
  ·cases pI ks y.1 with
   | true=>exact .tail _ (ku hk h)
   | false=>exact ku hk h
theorem sQ {l:List Nat} {i:Nat}:pI l i=true↔i∈l:=by
 rw [vZ];simp
section
variable {P:Program} {w0:World} {T0:Bs} {b0:Nat} {ops:Array Oper} {T:List Nat} {H:List (AV × Value)} [hG:mQ P w0 T0]
theorem G9 {n:Nat} {R:List (Nat × Item)} {N:Nat} {x:Nat × Acc} {l:List (Nat × Acc)} (h:pU P w0 T0 n R N l) (hx:x∈l):jR P w0 T0 n x.2 (R,N):=by
 induction l with
 | nil=>cases hx
 | cons y l ih=>
  obtain ⟨j,o,g,env,v,ks⟩:=y
  have h1:FT P w0 T0 n o g env v R N:=h.1
  have h2:pU P w0 T0 n R N l:=h.2
  rcases List.mem_cons.1 hx with rfl|hx
  ·unfold FT at h1;unfold jR
   cases g with
   | none=>exact h1
   | some c=>exact h1
  ·exact ih h2 hx
theorem kL {vs:List AV} {i:Nat} {v:AV} (h:i<vs.length):(vs.set i v).getD i .dead=v:=by
 simp [List.getD_eq_getElem?_getD,h]
theorem uI {vs:List AV} {i j:Nat} {v:AV} (h:i≠j):(vs.set i v).getD j .dead=vs.getD j .dead:=by
 simp [List.getD_eq_getElem?_getD,List.getElem?_set,h]
theorem Dt (hok:fK ops [] [] T) {s0 s:S} {vs:List AV} {V:Array Bool} {i:Nat} {o:Oper} {v:AV} {R:List (Nat × Item)} {N:Nat} (ho:ops[i]?=some o) (hs:V.size=ops.size) (hl:vs.length=ops.size) (hV:V.getD i false=false) (hg:∀ r,s.get r=mP ops s0 vs V r) :
  ∀ r,(dV o.dst v ⟨s.n,s.env,R,N⟩).get r=mP ops s0 (vs.set i v) (V.setIfInBounds i true) r:=by
 intro r
 have hilt:=(Array.getElem?_eq_some_iff.1 ho).1
 have h:=FW hok (s0:=s0) (vs:=vs.set i v) (g:=s.get) ho hs (fun r=>(hg r).trans (oQ hV r).symm) r
 rw [kL (by omega)] at h
 rw [←h]
 unfold dV
 cases o.dst with
 | none=>rfl
 | some d=>exact Cb
theorem xY.quiet (hok:fK ops [] [] T) {s0 s:S} {vs:List AV} {V:Array Bool} {Pd:List Nat} {acc acc':List (Nat × Acc)} {i:Nat} {o:Oper} {v:AV} (hv:xY P w0 T0 ops s0 vs V Pd acc s) (ho:ops[i]?=some o) (hd:Dp V o) (hV:V.getD i false=false)
  (hq:QS P w0 T0 ops o s.n s.get (s.rows,s.next) (s.rows,s.next) v) (hr:(∀ h,QS P w0 T0 ops o s.n s.get h h v)∨∃ x,(i,x)∈acc'∧∀ h,jR P w0 T0 s.n x h→QS P w0 T0 ops o s.n s.get h h v)
  (hsub:∀ x,x∈acc→x∈acc') (hdst:eG o.dst s.n):xY P w0 T0 ops s0 (vs.set i v) (V.setIfInBounds i true) (i::Pd) acc' (dV o.dst v s):=by
 have hilt:=(Array.getElem?_eq_some_iff.1 ho).1
 have hVs:(V.setIfInBounds i true).getD i false=true:=by
  have:i<V.size:=by rw [hv.vsize];exact hilt
  simp [this]
 have hup:∀ j,V.getD j false=true→(V.setIfInBounds i true).getD j false=true:=fun j hj=>getD_set_true hj
 have hrows:(dV o.dst v s).rows=s.rows∧(dV o.dst v s).next=s.next∧(dV o.dst v s).n=s.n:=by
  unfold dV;cases o.dst<;>exact ⟨rfl,rfl,rfl⟩
 have conv:∀ {h h':o9},QS P w0 T0 ops o s.n s.get h h' v→QS P w0 T0 ops o s0.n (mP ops s0 (vs.set i v) V) h h' ((vs.set i v).getD i .dead):=by
  intro h h' hh
  rw [kL (by rw [hv.vlen];exact hilt),←hv.n]
  exact hh.congr fun r _=>by rw [oQ hV];exact (hv.sget r).symm
 refine ⟨by simpa using hv.vsize,by simpa using hv.vlen,hv.cl.set ho hd,by rw [hrows.2.2];exact hv.n,?_,?_,?_⟩
 ·exact Dt hok (R:=s.rows) (N:=s.next) ho hv.vsize hv.vlen hV hv.sget
 ·intro j hj
  rcases List.mem_cons.1 hj with rfl|hj
  ·refine ⟨hVs,fun o' ho'=>?_⟩
   rw [ho] at ho';cases ho'
   refine ⟨V,hv.vsize,hv.cl,hup,hd,hV,?_,?_⟩
   ·rw [hrows.1,hrows.2.1];exact conv hq
   ·rcases hr with h|⟨x,hx,h⟩
    ·exact .inl fun h'=>conv (h h')
    ·exact .inr ⟨x,hx,fun h' hc=>conv (h h' (by rw [hv.n];exact hc))⟩
  ·obtain ⟨h1,h2⟩:=hv.pd j hj
   have hne:i≠j:=by rintro rfl;rw [hV] at h1;cases h1
   refine ⟨hup j h1,fun o' ho'=>?_⟩
   obtain ⟨U,u1,u2,u3,u4,u5,u6,u7⟩:=h2 o' ho'
   have hUi:U.getD i false=false:=by
    cases hu:U.getD i false with
    | false=>rfl
    | true=>have:=u3 i hu;rw [hV] at this;cases this
   have cv:∀ {h h':o9},QS P w0 T0 ops o' s0.n (mP ops s0 vs U) h h' (vs.getD j .dead)→QS P w0 T0 ops o' s0.n (mP ops s0 (vs.set i v) U) h h' ((vs.set i v).getD j .dead):=by
    intro h h' hh
    rw [uI hne]
    exact hh.congr fun r _=>oQ hUi r
   refine ⟨U,u1,u2,fun k hk=>hup k (u3 k hk),u4,u5,?_,?_⟩
   ·rw [hrows.1,hrows.2.1];exact cv u6
   ·rcases u7 with h|⟨x,hx,h⟩
    ·exact .inl fun h'=>cv (h h')
    ·exact .inr ⟨x,hsub _ hx,fun h' hc=>cv (h h' hc)⟩
 ·intro j oj d hj hoj hdj
  by_cases e:i=j
  ·subst e
   rw [ho] at hoj;cases hoj
   rw [hdj] at hdst
   rw [←hv.n];exact hdst
  ·rw [getD_set_ne false e] at hj
   exact hv.put j oj d hj hoj hdj
theorem xY.eff (hok:fK ops [] [] T) {s0 s:S} {vs:List AV} {V:Array Bool} {Pd ks:List Nat} {acc:List (Nat × Acc)} {i:Nat} {o:Oper} {v:AV} {R:List (Nat × Item)} {N:Nat} (hv:xY P w0 T0 ops s0 vs V Pd acc s) (ho:ops[i]?=some o) (hd:Dp V o) (hV:V.getD i false=false)
  (hks:∀ j,j∈ks→j∈Pd) (hre:pU P w0 T0 s.n R N (dF ks acc)) (hdst:eG o.dst s.n):xY P w0 T0 ops s0 (vs.set i v) (V.setIfInBounds i true) ks (dF ks acc) (dV o.dst v ⟨s.n,s.env,R,N⟩):=by
 have hilt:=(Array.getElem?_eq_some_iff.1 ho).1
 have hup:∀ j,V.getD j false=true→(V.setIfInBounds i true).getD j false=true:=fun j hj=>getD_set_true hj
 have hrows:(dV o.dst v ⟨s.n,s.env,R,N⟩).rows=R∧(dV o.dst v ⟨s.n,s.env,R,N⟩).next=N∧(dV o.dst v ⟨s.n,s.env,R,N⟩).n=s.n:=by
  unfold dV;cases o.dst<;>exact ⟨rfl,rfl,rfl⟩
 refine ⟨by simpa using hv.vsize,by simpa using hv.vlen,hv.cl.set ho hd,by rw [hrows.2.2];exact hv.n,?_,?_,?_⟩
 ·exact Dt hok ho hv.vsize hv.vlen hV hv.sget
 ·intro j hj
  obtain ⟨h1,h2⟩:=hv.pd j (hks j hj)
  have hne:i≠j:=by rintro rfl;rw [hV] at h1;cases h1
  refine ⟨hup j h1,fun o' ho'=>?_⟩
  obtain ⟨U,u1,u2,u3,u4,u5,u6,u7⟩:=h2 o' ho'
  have hUi:U.getD i false=false:=by
   cases hu:U.getD i false with
   | false=>rfl
   | true=>have:=u3 i hu;rw [hV] at this;cases this
  have cv:∀ {h h':o9},QS P w0 T0 ops o' s0.n (mP ops s0 vs U) h h' (vs.getD j .dead)→QS P w0 T0 ops o' s0.n (mP ops s0 (vs.set i v) U) h h' ((vs.set i v).getD j .dead):=by
   intro h h' hh
   rw [uI hne]
   exact hh.congr fun r _=>oQ hUi r
  refine ⟨U,u1,u2,fun k hk=>hup k (u3 k hk),u4,u5,?_,?_⟩
  ·rw [hrows.1,hrows.2.1]
   rcases u7 with h|⟨x,hx,h⟩
   ·exact cv (h _)
   ·have:=G9 hre (ku (x:=(j,x)) (sQ.2 hj) hx)
    rw [hv.n] at this
    exact cv (h _ this)
  ·rcases u7 with h|⟨x,hx,h⟩
   ·exact .inl fun h'=>cv (h h')
   ·exact .inr ⟨x,ku (x:=(j,x)) (sQ.2 hj) hx,fun h' hc=>cv (h h' hc)⟩
 ·intro j oj d hj hoj hdj
  by_cases e:i=j
  ·subst e
   rw [ho] at hoj;cases hoj
   rw [hdj] at hdst
   rw [←hv.n];exact hdst
  ·rw [getD_set_ne false e] at hj
   exact hv.put j oj d hj hoj hdj
theorem quiet_of (hok:fK ops [] [] T) {s:S} {i:Nat} {o:Oper} {t:pF} {acc:List (Nat × Acc)} {Q:S→Prop} (ho:ops[i]?=some o) (h:dA P w0 T0 ops (.quiet i t) acc s Q) :
  ∃ v acc',QS P w0 T0 ops o s.n s.get (s.rows,s.next) (s.rows,s.next) v∧((∀ h,QS P w0 T0 ops o s.n s.get h h v)∨∃ x,(i,x)∈acc'∧∀ h,jR P w0 T0 s.n x h→QS P w0 T0 ops o s.n s.get h h v) ∧
   (∀ x,x∈acc→x∈acc')∧eG o.dst s.n∧dA P w0 T0 ops t acc' (dV o.dst v s) Q:=by
 have hrd:=hok.reads i o ho
 unfold dA at h
 rw [ho] at h
 dsimp only at h
 cases hg:gd ops s o with
 | none=>rw [hg] at h;exact h.elim
 | some g=>
  rw [hg] at h
  simp only [LC] at h
  have gen:∀ v,wZ P w0 T0 o g s v→eG o.dst s.n→dA P w0 T0 ops t ((i,⟨o,g,kZ g s (dD o.op),v,[]⟩)::acc) (dV o.dst (uw g v) s) Q→∃ v acc',QS P w0 T0 ops o s.n s.get (s.rows,s.next) (s.rows,s.next) v∧((∀ h,QS P w0 T0 ops o s.n s.get h h v)∨∃ x,(i,x)∈acc'∧∀ h,jR P w0 T0 s.n x h→QS P w0 T0 ops o s.n s.get h h v) ∧
   (∀ x,x∈acc→x∈acc')∧eG o.dst s.n∧dA P w0 T0 ops t acc' (dV o.dst v s) Q:=by
   intro v hA hds hk
   cases g with
   | none=>
    refine ⟨v,_,QS.plain (h:=(s.rows,s.next)) (h':=(s.rows,s.next)) (jv hg) (lW (h:=(s.rows,s.next)) hrd hA),.inr ⟨_,.head _,fun h hc=>QS.plain (h:=h) (h':=h) (jv hg) (lW (h:=h) hrd ?_)⟩,fun x hx=>.tail _ hx,hds,hk⟩
    simp only [jR,G8] at hc
    exact hc
   | some c=>
    refine ⟨.opt c v,_,QS.guarded (h:=(s.rows,s.next)) (h':=(s.rows,s.next)) hg (fun e=>oO (h:=(s.rows,s.next)) hrd (hA.2 e).1 (hA.2 e).2) (fun _=>⟨rfl,hA.1⟩),.inr ⟨_,.head _,fun h hc=>?_⟩,fun x hx=>.tail _ hx,hds,hk⟩
    simp only [jR,G8] at hc
    exact QS.guarded (h:=h) (h':=h) hg (fun e=>oO (h:=h) hrd (hA.2 e).1 (hc.2 e)) (fun _=>⟨rfl,hc.1⟩)
  unfold Ji at h
  cases hp:pK ⟨s.n,cO s (dD o.op),s.rows,s.next⟩ o.op with
  | some pb=>
   obtain ⟨pre,b⟩:=pb
   rw [hp] at h
   cases g with
   | none=>
    obtain ⟨⟨h1,h2⟩,h3,h4⟩:=h
    have hall:∀ h:o9,QS P w0 T0 ops o s.n s.get h h (.bool b):=fun h=>QS.plain (jv hg) (qQ hrd hp h1 h2)
    exact ⟨_,acc,hall _,.inl hall,fun _ h=>h,h3,h4⟩
   | some c=>
    obtain ⟨h1,h3,h4⟩:=h
    have hall:∀ h:o9,QS P w0 T0 ops o s.n s.get h h (.opt c (.bool b)):=fun h=>QS.guarded hg (fun e=>qQ hrd hp (h1 e).1 (h1 e).2) (fun _=>⟨rfl,rfl⟩)
    exact ⟨_,acc,hall _,.inl hall,fun _ h=>h,h3,h4⟩
  | none=>
   rw [hp] at h
   dsimp only at h
   cases hv:IB P ⟨s.n,kZ g s (dD o.op),s.rows,s.next⟩ o.op with
   | some v=>
    rw [hv] at h
    obtain ⟨h1,h3,h4⟩:=h
    exact gen v h1 h3 h4
   | none=>
    rw [hv] at h
    cases g with
    | some c=>
     obtain ⟨v,h1,h3,h4⟩:=(h:@QV ⟨_,_⟩)
     exact gen v h1 h3 h4
    | none=>
     cases hl:pR o.op with
     | false=>
      rw [hl] at h
      obtain ⟨v,h1,h3,h4⟩:=(h:@QV ⟨_,_⟩)
      exact gen v h1 h3 h4
     | true=>
      rw [hl] at h
      obtain ⟨v,t,⟨⟨hr,hx⟩,h3,h4⟩,hall⟩:=zY hl _ h
      exact gen v (hall _ ⟨rfl,hr,hx⟩) h3 h4
theorem Lr (hok:fK ops [] [] T) {s:S} {i:Nat} {o:Oper} {ks:List Nat} {t r:pF} {acc:List (Nat × Acc)} {Q:S→Prop} (ho:ops[i]?=some o) (h:dA P w0 T0 ops (.eff i ks t r) acc s Q) :
  (∃ v R N,QS P w0 T0 ops o s.n s.get (s.rows,s.next) (R,N) v∧pU P w0 T0 s.n R N (dF ks acc)∧eG o.dst s.n∧dA P w0 T0 ops t (dF ks acc) (dV o.dst v ⟨s.n,s.env,R,N⟩) Q)∧dA P w0 T0 ops r acc s Q:=by
 have hrd:=hok.reads i o ho
 unfold dA at h
 rw [ho] at h
 dsimp only at h
 refine ⟨?_,h.2⟩
 have h:=h.1
 cases hg:gd ops s o with
 | none=>rw [hg] at h;exact h.elim
 | some g=>
  rw [hg] at h
  simp only [LC] at h
  cases g with
  | none=>
   dsimp only at h
   cases hl:pR o.op with
   | false=>
    rw [hl] at h
    obtain ⟨v,R,N,h1,h2,h3,h4⟩:=(h:@QE ⟨_,_⟩)
    exact ⟨v,R,N,QS.plain (h:=(s.rows,s.next)) (h':=(R,N)) (jv hg) (lW (h:=(s.rows,s.next)) hrd h1),h2,h3,h4⟩
   | true=>
    rw [hl] at h
    obtain ⟨v,t',⟨h2,h3,h4⟩,hall⟩:=zY hl _ h
    exact ⟨v,t'.rows,t'.next,QS.plain (h:=(s.rows,s.next)) (h':=(t'.rows,t'.next)) (jv hg) (lW (h:=(s.rows,s.next)) hrd (hall _ ⟨rfl,rfl,rfl⟩)),h2,h3,h4⟩
  | some c=>
   dsimp only at h
   cases c with
   | true=>
    obtain ⟨v,R,N,⟨hpc,hA⟩,h2,h3,h4⟩:=h.1 rfl
    exact ⟨.opt true v,R,N,QS.guarded (h:=(s.rows,s.next)) (h':=(R,N)) hg (fun _=>oO (h:=(s.rows,s.next)) hrd hpc hA) (fun e=>by cases e),h2,h3,h4⟩
   | false=>
    obtain ⟨h2,h3,h4⟩:=h.2 rfl
    exact ⟨.opt false (.bool false),s.rows,s.next,QS.guarded (h:=(s.rows,s.next)) (h':=(s.rows,s.next)) hg (fun e=>by cases e) (fun _=>⟨rfl,rfl⟩),h2,h3,h4⟩
theorem Eb (hok:fK ops [] [] T) {s0:S} {Q:S→Prop}:∀ t:pF,
  (∀ V Pd acc s vs,dU ops T t true V Pd=true→xY P w0 T0 ops s0 vs V Pd acc s→dA P w0 T0 ops t acc s Q→∀ fuel L env a w,jh L ops.size=fuel→RInv w0 T0 H ops s0 vs V Pd s L env a w→wpAny P .any ops (fun e a' w'=>e=.normal∧∃ s',Q s'∧Rep w0 T0 H s' a' w') fuel L a w) ∧
  (∀ V Pd acc s vs,dU ops T t false V Pd=true→xY P w0 T0 ops s0 vs V Pd acc s→dA P w0 T0 ops t acc s Q→∀ i,i∈altIds t→∀ fuel L env a w,RInv w0 T0 H ops s0 vs V Pd s L env a w→∀ o,ops[i]?=some o→Dp L o→jh L ops.size=fuel+1→wpOp P ops (fun e a' w'=>e=.normal∧∃ s',Q s'∧Rep w0 T0 H s' a' w') i (wpAny P .any ops (fun e a' w'=>e=.normal∧∃ s',Q s'∧Rep w0 T0 H s' a' w') fuel (L.setIfInBounds i true)) a w):=by
 have inL:∀ {V L:Array Bool} {Pd:List Nat} {s:S} {vs:List AV} {env:List (Nat × AV)} {a:Act} {w:World},RInv w0 T0 H ops s0 vs V Pd s L env a w→∀ {o:Oper},Dp L o→Dp V o:=fun inv o hd e he hb=>inv.sub _ (hd e he hb)
 have notL:∀ {V L:Array Bool} {Pd:List Nat} {s:S} {vs:List AV} {env:List (Nat × AV)} {a:Act} {w:World},RInv w0 T0 H ops s0 vs V Pd s L env a w→∀ {i:Nat},V.getD i false=false→L.getD i false=false:=by
  intro V L Pd s vs env a w inv i hi
  cases hL:L.getD i false with
  | false=>rfl
  | true=>have:=inv.sub i hL;rw [hi] at this;cases this
 intro t
 induction t with
 | done=>
  refine ⟨?_,fun V Pd acc s vs hf=>by simp [dU] at hf⟩
  intro V Pd acc s vs hf hv h
  simp only [dU,Bool.true_and] at hf
  have hall:∀ i,i<ops.size→V.getD i false=true:=fun i hi=>List.all_eq_true.1 hf i (List.mem_range.2 hi)
  refine BU hok hv (fun _=>h) fun fuel L env a w inv i o ho hd hV=>?_
  rw [hall i (Array.getElem?_eq_some_iff.1 ho).1] at hV;cases hV
 | none=>
  exact ⟨fun V Pd acc s vs hf=>by simp [dU] at hf,fun V Pd acc s vs hf hv h i hi=>by cases hi⟩
 | quiet i t ih=>
  refine ⟨?_,fun V Pd acc s vs hf=>by simp [dU] at hf⟩
  intro V Pd acc s vs hf hv h fuel L env a w hfu inv
  simp only [dU,Bool.true_and,Bool.and_eq_true,decide_eq_true_eq,Bool.not_eq_true'] at hf
  obtain ⟨⟨⟨hi,hV⟩,hdp⟩,hf⟩:=hf
  obtain ⟨o,ho⟩:∃ o,ops[i]?=some o:=⟨ops[i],Array.getElem?_eq_getElem hi⟩
  have hd:=(vV ho).1 hdp
  obtain ⟨v,acc',h1,h2,h3,h4,h5⟩:=quiet_of hok ho h
  have hL:=notL inv hV
  refine ih.1 _ _ _ _ _ hf (hv.quiet hok ho hd hV h1 h2 h3 h4) h5 fuel L env a w hfu ?_
  have hrows:(dV o.dst v s).rows=s.rows∧(dV o.dst v s).next=s.next:=by unfold dV;cases o.dst<;>exact ⟨rfl,rfl⟩
  refine ⟨inv.size,inv.cl,fun j hj=>getD_set_true (inv.sub j hj),fun r=>by rw [oQ hL];exact inv.get r,by rw [hrows.1,hrows.2];exact inv.rep,fun j hj hj'=>?_⟩
  by_cases e:i=j
  ·subst e;exact .head _
  ·rw [getD_set_ne false e] at hj
   exact .tail _ (inv.pd j hj hj')
 | eff i ks t r iht ihr=>
  have alt:∀ V Pd acc s vs,dU ops T (.eff i ks t r) false V Pd=true→xY P w0 T0 ops s0 vs V Pd acc s→dA P w0 T0 ops (.eff i ks t r) acc s Q→∀ j,j∈altIds (.eff i ks t r)→∀ fuel L env a w,RInv w0 T0 H ops s0 vs V Pd s L env a w→∀ o,ops[j]?=some o→Dp L o→jh L ops.size=fuel+1→wpOp P ops (fun e a' w'=>e=.normal∧∃ s',Q s'∧Rep w0 T0 H s' a' w') j (wpAny P .any ops (fun e a' w'=>e=.normal∧∃ s',Q s'∧Rep w0 T0 H s' a' w') fuel (L.setIfInBounds j true)) a w:=by
   intro V Pd acc s vs hf hv h j hj fuel L env a w inv o ho hd hfu
   simp only [dU,Bool.not_false,Bool.true_or,Bool.true_and,Bool.and_eq_true,decide_eq_true_eq,Bool.not_eq_true'] at hf
   obtain ⟨⟨⟨⟨⟨⟨hi,hV⟩,hdp⟩,hPd⟩,hks⟩,hft⟩,hfr⟩:=hf
   rcases List.mem_cons.1 (show j∈i::altIds r from hj) with rfl|hj
   ·obtain ⟨⟨v,R,N,hqs,hre,hds,hk⟩,_⟩:=Lr hok ho h
    have hdV:=inL inv hd
    have hL:=notL inv hV
    have hksP:∀ k,k∈ks→k∈Pd:=fun k hk=>by simpa using List.all_eq_true.1 hks k hk
    have hv':=hv.eff (v:=v) (R:=R) (N:=N) hok ho hdV hV hksP hre hds
    unfold wpOp
    rw [ho]
    dsimp only
    have wrap:∀ {A B:Prop} {b:Bool} {C:Prop},(if b=true then A else B)→(if b=true then A∨C else B):=by
     intro A B b C h
     cases b with
     | true=>simpa using Or.inl h
     | false=>simpa using h
    apply wrap
    rw [hv.n] at hqs
    refine hqs env (fun q hq=>?_) H a w _ _ inv.rep fun val w' hr'=>?_
    ·rw [inv.get q,hv.sget q]
     exact agree hok ho inv.size hv.vsize inv.cl hv.cl hd hdV hL hV q hq
    ·have hput:∀ d,o.dst=some d→d<s0.n:=fun d hdd=>by rw [hdd] at hds;rw [←hv.n];exact hds
     have hr2:Rep w0 T0 (((vs.set j v).getD j .dead,val)::H) ⟨s0.n,env,R,N⟩ a w':=by
      rw [kL (by rw [hv.vlen];exact hi)];exact hr'
     obtain ⟨env',hg',hrep'⟩:=RInv.more hok (s0:=s0) (vs:=vs.set j v) ho inv.size (fun r=>by rw [oQ hL];exact inv.get r) hput hr2
     have hop:=oM (by rw [inv.size];exact hi) hL ops.size
     rw [if_pos hi] at hop
     have hrows:(dV o.dst v ⟨s.n,s.env,R,N⟩).rows=R∧(dV o.dst v ⟨s.n,s.env,R,N⟩).next=N:=by unfold dV;cases o.dst<;>exact ⟨rfl,rfl⟩
     refine iht.1 _ _ _ _ _ hft hv' hk fuel _ env' _ w' (by omega) ⟨by simpa using inv.size,inv.cl.set ho hd,fun k hk=>?_,hg',by rw [hrows.1,hrows.2];exact hrep',fun k h1 h2=>?_⟩
     ·by_cases e:j=k
      ·subst e
       have:j<V.size:=by rw [hv.vsize];exact hi
       simp [this]
      ·rw [getD_set_ne false e] at hk ⊢;exact inv.sub k hk
     ·by_cases e:j=k
      ·subst e
       have:j<L.size:=by rw [inv.size];exact hi
       simp [this] at h2
      ·rw [getD_set_ne false e] at h1 h2
       have hkP:=inv.pd k h1 h2
       have:=List.all_eq_true.1 hPd k hkP
       rw [Bool.or_eq_true] at this
       rcases this with hb|hm
       ·have hklt:k<ops.size:=by have:=zT h1;rw [hv.vsize] at this;exact this
        have:=fU hok inv.size inv.cl j o ho hd k hklt hb
        rw [h2] at this;cases this
       ·exact sQ.1 hm
   ·exact ihr.2 V Pd acc s vs hfr hv h.2 j hj fuel L env a w inv o ho hd hfu
  refine ⟨?_,alt⟩
  intro V Pd acc s vs hf hv h
  have hf':dU ops T (.eff i ks t r) false V Pd=true:=by
   simp only [dU,Bool.not_false,Bool.true_or,Bool.true_and,Bool.and_eq_true] at hf ⊢
   exact ⟨⟨⟨⟨⟨⟨hf.1.1.1.1.1.1.2,hf.1.1.1.1.1.2⟩,hf.1.1.1.1.2⟩,hf.1.1.1.2⟩,hf.1.1.2⟩,hf.1.2⟩,hf.2⟩
  have hcov:∀ j o,ops[j]?=some o→V.getD j false=false→Dp V o→j∈altIds (.eff i ks t r):=by
   intro j o ho hV hd
   simp only [dU,Bool.not_true,Bool.false_or,Bool.and_eq_true] at hf
   have h1:=List.all_eq_true.1 hf.1.1.1.1.1.1.1 j (List.mem_range.2 (Array.getElem?_eq_some_iff.1 ho).1)
   rw [hV,(vV ho).2 hd] at h1
   simpa [altIds] using h1
  have hVi:V.getD i false=false:=by
   simp only [dU,Bool.not_false,Bool.true_or,Bool.true_and,Bool.and_eq_true,decide_eq_true_eq,Bool.not_eq_true'] at hf'
   exact hf'.1.1.1.1.1.2
  have hilt:i<ops.size:=by
   simp only [dU,Bool.not_false,Bool.true_or,Bool.true_and,Bool.and_eq_true,decide_eq_true_eq,Bool.not_eq_true'] at hf'
   exact hf'.1.1.1.1.1.1
  refine BU hok hv (fun hall=>?_) fun fuel L env a w inv j o ho hd hV hfu=>?_
  ·rw [hall i hilt] at hVi;cases hVi
  ·exact alt V Pd acc s vs hf' hv h j (hcov j o ho hV (inL inv hd)) fuel L env a w inv o ho hd hfu
theorem bT.fork {id:Nat} {s:S} {Q:S→Prop} (t:pF) (hm:P.follows .mixedOrders=true) (hok:CG ops [] [] (CX ops)=true) (ht:dU ops (CX ops) t true (Array.replicate ops.size false) []=true)
  (h:dA P w0 T0 ops t [] s Q):@bT P w0 T0 b0 id ops s ⟨Q⟩:=by
 intro H a w _ hr
 refine wp_region_any hm ?_
 have hr':Rep w0 T0 H s a { w with drawn:=w.drawn+1 }:=by
  obtain ⟨m,hm⟩:=hr
  exact ⟨m,hm.drawn⟩
 have ok:=fK.of hok
 have hL:∀ j,(Array.replicate ops.size false).getD j false=false:=fun j=>wC _ j
 have hop:jh (Array.replicate ops.size false) ops.size=ops.size:=by
  unfold jh
  have:(List.range ops.size).countP (fun j=>!(Array.replicate ops.size false).getD j false)=(List.range ops.size).length:=by
   apply List.countP_eq_length.2
   intro j _
   rw [hL j];rfl
  rw [this,List.length_range]
 have hcl:Cl ops (Array.replicate ops.size false):=fun i o _ h=>by rw [hL] at h;cases h
 refine (Eb ok (s0:=s) t).1 _ _ _ _ (List.replicate ops.size .dead) ht ⟨by simp,by simp,hcl,rfl,fun r=>(rC _ _ r).symm,(by intro j hj;cases hj),(by intro j o d h;rw [hL] at h;cases h)⟩ h ops.size _ s.env a _ hop
  ⟨by simp,hcl,(by intro i h;rw [hL] at h;cases h),(by intro r;rw [rC];rfl),hr',(by intro i h;rw [hL] at h;cases h)⟩
theorem bT.JZ {id:Nat} {s:S} {Q:S→Prop} (t:pF) (hm:P.follows .mixedOrders=true) (hok:CG ops [] [] (CX ops)=true) (ht:dU ops (CX ops) t true (Array.replicate ops.size false) []=true) (shape:S)
  (h:dA P w0 T0 ops t [] s (fun s'=>bJ w0 T0 b0 s' shape)) (hk:Q shape):@bT P w0 T0 b0 id ops s ⟨Q⟩:=by
 intro H a w hH hr
 refine wp_mono (bT.fork (b0:=b0) (id:=id) t hm hok ht h H a w hH hr) ?_
 rintro e a' w' ⟨he,s',hq,hr'⟩
 exact ⟨he,shape,hk,hq H a' w' hH hr'⟩
end
end Go.Fv
