/-
  A part of the proof of the claim: walks over the program's functions and the plain laws that these need. No condition of its own.
-/
import Derived.Test.YtfhmmlobedilnaaGreatDoorFvPart9
import Derived.Test.YtfhmmlobedilnaaGreatDoorFvPart8
set_option linter.unusedSectionVars false
set_option linter.unusedVariables false
set_option linter.unusedSimpArgs false
set_option linter.unnecessarySimpa false
namespace Go.Fv
open Go.RowKit
section
variable {P:Program} {w0:World} {T0:Bs} {ops:Array Oper} {es:List Nat} {tb:List (Nat × List Nat)} {T:List Nat} [hG:lC P w0 T0]
structure qU (P:Program) (w0:World) (T0:Bs) (ops:Array Oper) (es:List Nat) (tb:List (Nat × List Nat)) (s0:S) (hs0:List oH) (Q:S→Prop) (vs:List AV) (hs:List oH) (s:S):Prop where
 q:Q s
 n:s.n=s0.n
 len:hs.length=iH es ops.size+1
 last:hs[iH es ops.size]?=some (s.rows,s.next)
 get:∀ r,s.get r=gB ops s0 vs ops.size r
 done:pF P w0 T0 ops es s0 ops.size vs hs
 re:∀ (j:Nat) (o:Oper),ops[j]?=some o→es.elem j=false→∀ k,k∈jQ tb j→∀ h,hs[k]?=some h→QS P w0 T0 ops o s0.n (gB ops s0 vs j) h h (vs.getD j .dead)
 pre:∀ (k:Nat) (h:oH),hs0[k]?=some h→hs[k]?=some h
theorem EO.step {s0:S} {i:Nat} {vs:List AV} {v:AV} {acc acc':List Acc} {o:Oper} (hre:EO P w0 T0 ops es tb s0 i vs acc) (hlen:vs.length=i) (hi:ops[i]?=some o) (hsub:∀ x,x∈acc→x∈acc')
  (hnew:es.elem i=false→∀ k,k∈jQ tb i→(∀ h,QS P w0 T0 ops o s0.n (gB ops s0 vs i) h h v)∨∃ x,x∈acc'∧x.ks=jQ tb i∧∀ h,mF P w0 T0 s0.n x h→QS P w0 T0 ops o s0.n (gB ops s0 vs i) h h v) :
  EO P w0 T0 ops es tb s0 (i+1) (vs++[v]) acc':=by
 intro j oj hj hoj hej k hk
 by_cases e:j=i
 ·subst e
  rw [hi] at hoj;cases hoj
  have hv:(vs++[v]).getD j .dead=v:=by rw [←hlen];exact gX
  rcases hnew hej k hk with h|⟨x,hx,hks,h⟩
  ·exact .inl fun h'=>by rw [hv];exact (h h').congr fun r _=>iq (by omega) r
  ·exact .inr ⟨x,hx,hks,fun h' hc=>by rw [hv];exact (h h' hc).congr fun r _=>iq (by omega) r⟩
 ·rcases hre j oj (by omega) hoj hej k hk with h|⟨x,hx,hks,h⟩
  ·exact .inl fun h'=>by rw [lV (by omega)];exact (h h').congr fun r _=>iq (by omega) r
  ·exact .inr ⟨x,hsub x hx,hks,fun h' hc=>by rw [lV (by omega)];exact (h h' hc).congr fun r _=>iq (by omega) r⟩
theorem He (hok:jq ops es tb T) {s0:S}:∀ (l:List Oper) (i:Nat) (acc:List Acc) (hs:List oH) (s:S) (vs:List AV) (Q:S→Prop),ops.toList.drop i=l→i≤ops.size→vs.length=i→hs.length=iH es i+1→hs[iH es i]?=some (s.rows,s.next)→s.n=s0.n →
  (∀ r,s.get r=gB ops s0 vs i r)→pF P w0 T0 ops es s0 i vs hs→EO P w0 T0 ops es tb s0 i vs acc→iO P w0 T0 ops es tb l i acc hs s Q→∃ vs' hs' sf,qU P w0 T0 ops es tb s0 hs Q vs' hs' sf:=by
 intro l
 induction l with
 | nil=>
  intro i acc hs s vs Q hdr hile hlen hhl hcur hn hget hd hre h
  have hi:i=ops.size:=by
   have:=List.drop_eq_nil_iff.1 hdr
   simp at this;omega
  subst hi
  obtain ⟨hredo,hq⟩:=h
  refine ⟨vs,hs,s,hq,hn,hhl,hcur,hget,hd,?_,fun _ _ h=>h⟩
  intro j o hj he k hk h hh
  rcases hre j o (Array.getElem?_eq_some_iff.1 hj).1 hj he k hk with h0|⟨x,hx,hks,h0⟩
  ·exact h0 h
  ·obtain ⟨h',hh',hc⟩:=GV _ hredo x hx k (by rw [hks];exact hk)
   rw [hh] at hh';cases hh'
   rw [hn] at hc
   exact h0 h hc
 | cons o l ih=>
  intro i acc hs s vs Q hdr hile hlen hhl hcur hn hget hd hre h
  have hi:ops[i]?=some o:=by
   have h1:(ops.toList.drop i)[0]?=some o:=by rw [hdr];rfl
   rw [List.getElem?_drop] at h1
   simpa using h1
  have hilt:i<ops.size:=(Array.getElem?_eq_some_iff.1 hi).1
  have hdr':ops.toList.drop (i+1)=l:=by
   have:(ops.toList.drop i).drop 1=l:=by rw [hdr];rfl
   rwa [List.drop_drop] at this
  have hrd:=hok.reads i o hi
  have hgetQ:∀ {h h':oH} {v:AV},QS P w0 T0 ops o s.n s.get h h' v→QS P w0 T0 ops o s0.n (gB ops s0 vs i) h h' v:=by
   intro h h' v hq
   rw [←hn]
   exact hq.congr fun r _=>(hget r).symm
  have hown1:es.elem i=false→iH es (i+1)=iH es i:=fun e=>by rw [yQ,e];rfl
  have hown2:es.elem i=true→iH es (i+1)=iH es i+1:=fun e=>by rw [yQ,e];rfl
  -- a quiet operation
  have quiet:es.elem i=false→∀ (v:AV) (acc':List Acc),(∀ x,x∈acc→x∈acc')→QS P w0 T0 ops o s.n s.get (s.rows,s.next) (s.rows,s.next) v →
    (∀ k,k∈jQ tb i→(∀ h,QS P w0 T0 ops o s.n s.get h h v)∨∃ x,x∈acc'∧x.ks=jQ tb i∧∀ h,mF P w0 T0 s0.n x h→QS P w0 T0 ops o s.n s.get h h v) →
    dU o.dst v s (fun s'=>iO P w0 T0 ops es tb l (i+1) acc' hs s' Q)→∃ vs' hs' sf,qU P w0 T0 ops es tb s0 hs Q vs' hs' sf:=by
   intro he v acc' hsub hqs hnew hput
   obtain ⟨s',hk,hn',hr',hx',hg',hd'⟩:=Fz hok hi hlen hn hget hd hhl (fun _ _ h=>h) (fun _=>⟨_,hcur,hgetQ hqs⟩) (fun e=>by rw [he] at e;cases e) hput
   refine ih (i+1) acc' hs s' (vs++[v]) Q hdr' hilt (by simp [hlen]) (by rw [hown1 he];exact hhl) (by rw [hown1 he,hr',hx'];exact hcur) hn' hg' hd' ?_ hk
   refine hre.step hlen hi hsub fun _ k hk=>?_
   rcases hnew k hk with h0|⟨x,hx,hks,h0⟩
   ·exact .inl fun h=>hgetQ (h0 h)
   ·exact .inr ⟨x,hx,hks,fun h hc=>hgetQ (h0 h hc)⟩
  have eff:es.elem i=true→∀ (v:AV) (R:List (Nat × Item)) (N:Nat),QS P w0 T0 ops o s.n s.get (s.rows,s.next) (R,N) v →
    dU o.dst v { s with rows:=R,next:=N } (fun s'=>iO P w0 T0 ops es tb l (i+1) acc (hs++[(R,N)]) s' Q)→∃ vs' hs' sf,qU P w0 T0 ops es tb s0 hs Q vs' hs' sf:=by
   intro he v R N hqs hput
   have hpre:∀ (k:Nat) (h:oH),hs[k]?=some h→(hs++[(R,N)])[k]?=some h:=by
    intro k h hk
    rw [List.getElem?_append_left (List.getElem?_eq_some_iff.1 hk).1];exact hk
   have hlast:(hs++[(R,N)])[iH es i+1]?=some (R,N):=by
    rw [←hhl];simp
   obtain ⟨s',hk,hn',hr',hx',hg',hd'⟩:=Fz (s:={ s with rows:=R,next:=N }) hok hi hlen hn hget hd hhl hpre (fun e=>by rw [he] at e;cases e) (fun _=>⟨_,_,hpre _ _ hcur,hlast,hgetQ hqs⟩) hput
   obtain ⟨vs',hs',sf,hend⟩:=ih (i+1) acc (hs++[(R,N)]) s' (vs++[v]) Q hdr' hilt (by simp [hlen]) (by rw [hown2 he];simp [hhl]) (by rw [hown2 he,hr',hx'];exact hlast) hn' hg' hd'
    (hre.step hlen hi (fun _ h=>h) fun e=>by rw [he] at e;cases e) hk
   exact ⟨vs',hs',sf,{ hend with pre:=fun k h hk=>hend.pre k h (hpre k h hk) }⟩
  unfold iO at h
  cases hg:gd ops s o with
  | none=>rw [hg] at h;exact h.elim
  | some g=>
   rw [hg] at h
   simp only [Og] at h
   rw [vw] at h
   cases he:es.elem i with
   | true=>
    rw [he] at h
    simp only [Nb] at h
    cases g with
    | none=>
     dsimp only at h
     have hx:∃ v R N,lG P w0 T0 o ⟨s.n,dG s (dX o.op),s.rows,s.next⟩ (fun r s'=>r=v∧s'.rows=R∧s'.next=N)∧dU o.dst v { s with rows:=R,next:=N } (fun s'=>iO P w0 T0 ops es tb l (i+1) acc (hs++[(R,N)]) s' Q):=by
      cases hl:vK o.op with
      | false=>
       rw [hl] at h
       obtain ⟨v,R,N,h1,h2,h3⟩:=h
       exact ⟨v,R,N,h1,fQ h2 h3⟩
      | true=>
       rw [hl] at h
       obtain ⟨v,t,⟨h2,h3⟩,hall⟩:=IX hl _ h
       exact ⟨v,t.rows,t.next,hall _ ⟨rfl,rfl,rfl⟩,fQ h2 h3⟩
     obtain ⟨v,R,N,hA,hB⟩:=hx
     exact eff he v R N (QS.plain (h:=(s.rows,s.next)) (h':=(R,N)) (uj hg) (zS (h:=(s.rows,s.next)) hrd hA)) hB
    | some c=>
     dsimp only at h
     cases c with
     | true=>
      obtain ⟨v,R,N,⟨hpc,hA⟩,h2,h3⟩:=h.1 rfl
      exact eff he (.opt true v) R N (QS.guarded (h:=(s.rows,s.next)) (h':=(R,N)) hg (fun _=>zT (h:=(s.rows,s.next)) hrd hpc hA) (fun e=>by cases e)) (fQ h2 h3)
     | false=>
      obtain ⟨h2,h3⟩:=h.2 rfl
      exact eff he (.opt false (.bool false)) s.rows s.next (QS.guarded (h:=(s.rows,s.next)) (h':=(s.rows,s.next)) hg (fun e=>by cases e) (fun _=>⟨rfl,rfl⟩)) (fQ h2 h3)
   | false=>
    rw [he] at h
    simp only [Nb] at h
    have gen:∀ v,C9 P w0 T0 o g s v→dU o.dst (Ce g v) s (fun s'=>iO P w0 T0 ops es tb l (i+1) (jE (jQ tb i) ⟨o,g,sZ g s (dX o.op),v,jQ tb i⟩ acc) hs s' Q)→∃ vs' hs' sf,qU P w0 T0 ops es tb s0 hs Q vs' hs' sf:=by
     intro v hA hput
     cases g with
     | none=>
      refine quiet he v _ (fun x hx=>vY hx) (QS.plain (h:=(s.rows,s.next)) (h':=(s.rows,s.next)) (uj hg) (zS (h:=(s.rows,s.next)) hrd hA)) ?_ hput
      intro k hk
      refine .inr ⟨_,tu hk,rfl,fun h hc=>QS.plain (h:=h) (h':=h) (uj hg) (zS (h:=h) hrd ?_)⟩
      simp only [mF,Jq] at hc
      rw [←hn] at hc
      exact hc
     | some c=>
      refine quiet he (.opt c v) _ (fun x hx=>vY hx) (QS.guarded (h:=(s.rows,s.next)) (h':=(s.rows,s.next)) hg (fun e=>zT (h:=(s.rows,s.next)) hrd (hA.2 e).1 (hA.2 e).2) (fun _=>⟨rfl,hA.1⟩)) ?_ hput
      intro k hk
      refine .inr ⟨_,tu hk,rfl,fun h hc=>?_⟩
      simp only [mF,Jq] at hc
      rw [←hn] at hc
      exact QS.guarded (h:=h) (h':=h) hg (fun e=>zT (h:=h) hrd (hA.2 e).1 (hc.2 e)) (fun _=>⟨rfl,hc.1⟩)
    unfold ML at h
    cases hp:pW ⟨s.n,dG s (dX o.op),s.rows,s.next⟩ o.op with
    | some pb=>
     obtain ⟨pre,b⟩:=pb
     rw [hp] at h
     cases g with
     | none=>
      obtain ⟨⟨h1,h2⟩,h3,h4⟩:=h
      have hall:∀ h:oH,QS P w0 T0 ops o s.n s.get h h (.bool b):=fun h=>QS.plain (uj hg) (BM hrd hp h1 h2)
      exact quiet he _ acc (fun _ h=>h) (hall _) (fun _ _=>.inl hall) (fQ h3 h4)
     | some c=>
      obtain ⟨h1,h3,h4⟩:=h
      have hall:∀ h:oH,QS P w0 T0 ops o s.n s.get h h (.opt c (.bool b)):=fun h=>QS.guarded hg (fun e=>BM hrd hp (h1 e).1 (h1 e).2) (fun _=>⟨rfl,rfl⟩)
      exact quiet he _ acc (fun _ h=>h) (hall _) (fun _ _=>.inl hall) (fQ h3 h4)
    | none=>
     rw [hp] at h
     dsimp only at h
     cases hv:Kz P ⟨s.n,sZ g s (dX o.op),s.rows,s.next⟩ o.op with
     | some v=>
      rw [hv] at h
      obtain ⟨h1,h3,h4⟩:=h
      exact gen v h1 (fQ h3 h4)
     | none=>
      rw [hv] at h
      have call:(∃ v,C9 P w0 T0 o g s v∧aN (jO o.dst s.n) (iO P w0 T0 ops es tb l (i+1) (jE (jQ tb i) ⟨o,g,sZ g s (dX o.op),v,jQ tb i⟩ acc) hs (jo o.dst (Ce g v) s) Q))→∃ vs' hs' sf,qU P w0 T0 ops es tb s0 hs Q vs' hs' sf:=by
       rintro ⟨v,h1,h3,h4⟩
       exact gen v h1 (fQ h3 h4)
      cases g with
      | some c=>exact call h
      | none=>
       cases hl:vK o.op with
       | false=>rw [hl] at h;exact call h
       | true=>
        rw [hl] at h
        obtain ⟨v,t,⟨⟨hr,hx⟩,h3,h4⟩,hall⟩:=IX hl _ h
        exact gen v (hall _ ⟨rfl,hr,hx⟩) (fQ h3 h4)
end
section
variable {P:Program} {w0:World} {T0:Bs} {b0:Nat} {ops:Array Oper} {es:List Nat} {tb:List (Nat × List Nat)} {T:List Nat} {H:List (AV × Value)} [hG:lC P w0 T0]
theorem Fj {L:Array Bool} {i:Nat} (h:L.getD i true=false):L.getD i false=false:=by
 rcases Nat.lt_or_ge i L.size with h'|h'
 ·simpa [h'] using h
 ·simp [Array.getElem?_eq_none h']
theorem KA {L:Array Bool} {i:Nat} (hi:i<L.size) (h:L.getD i false=false):L.getD i true=false:=by
 simpa [hi] using h
theorem IB (m j:Nat):(Array.replicate m false).getD j false=false:=by
 rcases Nat.lt_or_ge j m with h|h
 ·simp [h]
 ·simp [Array.getElem?_eq_none,h]
def qm (L:Array Bool) (n:Nat):Nat:=(List.range n).countP fun j=>!L.getD j false
theorem yO {L:Array Bool} {i:Nat} (hs:i<L.size) (hi:L.getD i false=false):∀ n,qm (L.setIfInBounds i true) n+(if i<n then 1 else 0)=qm L n
 | 0=>by simp [qm]
 | n+1=>by
  have ih:=yO hs hi n
  unfold qm at *
  rw [List.range_succ,List.countP_append,List.countP_append,List.countP_singleton,List.countP_singleton]
  by_cases e:i=n
  ·subst e
   have h1:(L.setIfInBounds i true).getD i false=true:=by simp [hs]
   rw [h1,hi]
   simp at ih ⊢
   omega
  ·rw [getD_set_ne false e]
   by_cases h2:i<n
   ·rw [if_pos h2] at ih;rw [if_pos (show i<n+1 by omega)];omega
   ·rw [if_neg h2] at ih;rw [if_neg (show ¬i<n+1 by omega)];omega
theorem Ej {L:Array Bool} {n:Nat} (h:qm L n=0):∀ i,i<n→L.getD i false=true:=by
 intro i hi
 unfold qm at h
 have:=List.countP_eq_zero.1 h i (List.mem_range.2 hi)
 simpa using this
def pz (ops:Array Oper) (s0:S) (vs:List AV) (L:Array Bool) (r:Nat):AV:=match EZ ops r with
 | some j=>bif L.getD j false then vs.getD j .dead else s0.get r
 | none=>s0.get r
structure Ho (w0:World) (T0:Bs) (H:List (AV × Value)) (ops:Array Oper) (es:List Nat) (s0:S) (vs:List AV) (hs:List oH) (L:Array Bool) (k:Nat) (env:List (Nat × AV)) (a:Act) (w:World):Prop where
 size:L.size=ops.size
 closed:∀ (i:Nat) (o:Oper),ops[i]?=some o→L.getD i false=true→∀ e,e∈o.after→Region.binds .any e=true→L.getD e.on false=true
 kle:k≤es.length
 es:∀ (q i:Nat),es[q]?=some i→(L.getD i false=true↔q<k)
 get:∀ r,S.get ⟨s0.n,env,[],0⟩ r=pz ops s0 vs L r
 rep:∃ h,hs[k]?=some h∧Rep w0 T0 H ⟨s0.n,env,h.1,h.2⟩ a w
theorem oK (hok:jq ops es tb T) {L:Array Bool} (hsz:L.size=ops.size) (hc:∀ (i:Nat) (o:Oper),ops[i]?=some o→L.getD i false=true→∀ e,e∈o.after→Region.binds .any e=true→L.getD e.on false=true) :
  ∀ (i:Nat) (o:Oper),ops[i]?=some o→(∀ e,e∈o.after→Region.binds .any e=true→L.getD e.on false=true)→∀ q,q<ops.size→lK T i q=true→L.getD q false=true:=by
 intro i
 induction i using Nat.strongRecOn with
 | _ i ih=>
  intro o hi hd q hq hb
  obtain ⟨e,he,hbd,hx⟩:=hok.anc i o hi q hq hb
  rcases hx with rfl|hx
  ·exact hd e he hbd
  ·have hlt:=hok.low i o hi e he hbd
   have hL:=hd e he hbd
   cases hoe:ops[e.on]? with
   | none=>
    have:=Array.getElem?_eq_none_iff.1 hoe
    have hi':=(Array.getElem?_eq_some_iff.1 hi).1
    omega
   | some oe=>exact ih e.on hlt oe hoe (hc e.on oe hoe hL) q hq hx
theorem KE (hok:jq ops es tb T) {s0 sf:S} {Q:S→Prop} {vs:List AV} {hs:List oH} {hs0:List oH} (hend:qU P w0 T0 ops es tb s0 hs0 Q vs hs sf) :
  ∀ (fuel:Nat) (L:Array Bool) (k:Nat) (env:List (Nat × AV)) (a:Act) (w:World),qm L ops.size=fuel→Ho w0 T0 H ops es s0 vs hs L k env a w →
   wpAny P .any ops (fun e a' w'=>e=.normal∧∃ s',Q s'∧Rep w0 T0 H s' a' w') fuel L a w:=by
 have fin:∀ (L:Array Bool) (k:Nat) (env:List (Nat × AV)) (a:Act) (w:World),(∀ i,i<ops.size→L.getD i false=true)→Ho w0 T0 H ops es s0 vs hs L k env a w→∃ s',Q s'∧Rep w0 T0 H s' a w:=by
  intro L k env a w hall inv
  have hk:k=es.length:=by
   rcases Nat.lt_or_ge k es.length with hlt|hge
   ·have h1:=inv.es k es[k] (List.getElem?_eq_getElem hlt)
    have h2:=hok.es1 k es[k] (List.getElem?_eq_getElem hlt)
    have:=h1.1 (hall _ h2.1)
    omega
   ·have:=inv.kle;omega
  obtain ⟨h,hh,m,hm⟩:=inv.rep
  have hl:=hend.last
  rw [hok.tot,←hk,hh] at hl
  cases hl
  refine ⟨sf,hend.q,m,?_⟩
  refine { size:=by rw [hend.n];exact hm.size,nodef:=hm.nodef,below:=hm.below,held:=hm.held,rows:=hm.rows,sep:=hm.sep,env:=?_ }
  intro r v hv
  have hg:S.get ⟨s0.n,env,[],0⟩ r=v:=by
   rw [inv.get r]
   have h1:=hend.get r
   have h2:sf.get r=v:=by simp [S.get,hv]
   rw [←h2,h1]
   unfold pz gB
   cases hx:EZ ops r with
   | none=>rfl
   | some j=>
    obtain ⟨o,ho,_⟩:=jM hx
    have hlt:=(Array.getElem?_eq_some_iff.1 ho).1
    simp [hall j hlt,hlt]
  simp only [S.get] at hg
  cases hl:lk env r with
  | none=>rw [hl] at hg;simp only at hg;subst hg;exact .dead _
  | some v'=>rw [hl] at hg;simp only at hg;subst hg;exact hm.env r v' hl
 intro fuel
 induction fuel with
 | zero=>
  intro L k env a w hf inv
  have hall:=Ej hf
  refine ⟨?_,rfl,fin L k env a w hall inv⟩
  apply List.eq_nil_iff_forall_not_mem.2
  intro j hj
  obtain ⟨h1,o,ho,_⟩:=mem_ready.1 hj
  have hlt:=(Array.getElem?_eq_some_iff.1 ho).1
  have h2:=hall j hlt
  rw [Fj h1] at h2
  cases h2
 | succ fuel ih=>
  intro L k env a w hf inv
  refine ⟨?_,?_⟩
  ·intro hr
   refine ⟨rfl,fin L k env a w ?_ inv⟩
   intro i
   induction i using Nat.strongRecOn with
   | _ i ihi=>
    intro hi
    cases hL:L.getD i false with
    | true=>rfl
    | false=>
     exfalso
     obtain ⟨o,ho⟩:∃ o,ops[i]?=some o:=⟨ops[i],Array.getElem?_eq_getElem hi⟩
     have hmem:i∈Region.ready .any ops L:=mem_ready.2 ⟨KA (by rw [inv.size];exact hi) hL,o,ho,fun e he hb=>ihi e.on (hok.low i o ho e he hb) (Nat.lt_trans (hok.low i o ho e he hb) hi)⟩
     rw [hr] at hmem;cases hmem
  ·intro i hi
   obtain ⟨hun,o,ho,hdep⟩:=mem_ready.1 hi
   have hlt:=(Array.getElem?_eq_some_iff.1 ho).1
   have hL:L.getD i false=false:=Fj hun
   have hanc:=oK hok inv.size inv.closed i o ho hdep
   -- what the operation looks at
   have hagree:∀ r,r∈o.looksAt ops→S.get ⟨s0.n,env,[],0⟩ r=gB ops s0 vs i r:=by
    intro r hr
    rw [inv.get r]
    unfold pz gB
    cases hx:EZ ops r with
    | none=>rfl
    | some j=>
     obtain ⟨oj,hj,hdj⟩:=jM hx
     have hjlt:=(Array.getElem?_eq_some_iff.1 hj).1
     rcases hok.look i o r j oj ho hj hdj hr with ⟨hb,hji⟩|⟨hb,hij,hb'⟩
     ·dsimp only
      rw [hanc j hjlt hb,if_pos hji];rfl
     ·have hLj:L.getD j false=false:=by
       cases hLj:L.getD j false with
       | false=>rfl
       | true=>
        have:=oK hok inv.size inv.closed j oj hj (inv.closed j oj hj hLj) i hlt hb'
        rw [hL] at this;cases this
      dsimp only
      rw [hLj,if_neg (by omega)];rfl
   -- one more is listed
   have next:∀ (k':Nat) (h':oH) (val:Value) (w':World),hs[k']?=some h'→k'≤es.length→(∀ (q j:Nat),es[q]?=some j→((L.setIfInBounds i true).getD j false=true↔q<k')) →
     Rep w0 T0 ((vs.getD i .dead,val)::H) ⟨s0.n,env,h'.1,h'.2⟩ a w' →
     wpAny P .any ops (fun e a' w'=>e=.normal∧∃ s',Q s'∧Rep w0 T0 H s' a' w') fuel (L.setIfInBounds i true) (a.put o.dst val) w':=by
    intro k' h' val w' hh' hk' hes' ⟨m',hm'⟩
    have hop:=yO (by rw [inv.size];exact hlt) hL ops.size
    rw [if_pos hlt] at hop
    have hclosed:∀ (j:Nat) (oj:Oper),ops[j]?=some oj→(L.setIfInBounds i true).getD j false=true→∀ e,e∈oj.after→Region.binds .any e=true→(L.setIfInBounds i true).getD e.on false=true:=by
     intro j oj hj hLj e he hb
     by_cases hij:i=j
     ·subst hij
      rw [ho] at hj;cases hj
      exact getD_set_true (hdep e he hb)
     ·rw [getD_set_ne false hij] at hLj
      exact getD_set_true (inv.closed j oj hj hLj e he hb)
    have hset:∀ r,o.dst≠some r→pz ops s0 vs (L.setIfInBounds i true) r=pz ops s0 vs L r:=by
     intro r hr
     unfold pz
     cases hx:EZ ops r with
     | none=>rfl
     | some j=>
      dsimp only
      have hne:i≠j:=by
       rintro rfl
       obtain ⟨oj,hj,hdj⟩:=jM hx
       rw [ho] at hj;cases hj
       exact hr hdj
      rw [getD_set_ne false hne]
    cases hd:o.dst with
    | none=>
     refine ih _ k' env _ w' (by omega) { size:=by simpa using inv.size,closed:=hclosed,kle:=hk',es:=hes',get:=fun r=>?_,rep:=⟨h',hh',m',hm'.iI⟩ }
     rw [hset r (by rw [hd];simp)];exact inv.get r
    | some d=>
     have hdn:d<s0.n:=hend.done.put i o d hlt ho hd
     have hput:=hm'.iI.MK (hm'.held _ (.head _)) (d:=d) hdn
     refine ih _ k' ((d,vs.getD i .dead)::env) _ w' (by omega) { size:=by simpa using inv.size,closed:=hclosed,kle:=hk',es:=hes',get:=fun r=>?_,rep:=⟨h',hh',m',hput⟩ }
     by_cases e:d=r
     ·subst e
      have hx:=hok.EZ ho hd
      have hL1:(L.setIfInBounds i true).getD i false=true:=by
       have:i<L.size:=by rw [inv.size];exact hlt
       simp [this]
      unfold pz
      rw [hx]
      dsimp only
      rw [hL1]
      simp [S.get,lk]
     ·rw [hset r (by rw [hd];simpa using e),←inv.get r]
      simp [S.get,lk,e]
   obtain ⟨h,hh,hrep⟩:=inv.rep
   unfold wpOp
   rw [ho]
   dsimp only
   have wrap:∀ {A B:Prop} {b:Bool} {C:Prop},(if b=true then A else B)→(if b=true then A∨C else B):=by
    intro A B b C h
    cases b with
    | true=>simpa using Or.inl h
    | false=>simpa using h
   apply wrap
   cases he:es.elem i with
   | false=>
    have hes':∀ (q j:Nat),es[q]?=some j→((L.setIfInBounds i true).getD j false=true↔q<k):=by
     intro q j hq
     have hne:i≠j:=by
      rintro rfl
      have:es.elem i=true:=by simpa using List.mem_of_getElem? hq
      rw [he] at this;cases this
     rw [getD_set_ne false hne]
     exact inv.es q j hq
    have hqs:QS P w0 T0 ops o s0.n (gB ops s0 vs i) h h (vs.getD i .dead):=by
     rcases hok.heaps i o ho he k inv.kle with h0|h0|⟨k',e,hk',hke,hb⟩|⟨k',e,hk',hke,hb⟩
     ·obtain ⟨h2,hh2,hq⟩:=hend.done.quiet i o hlt ho he
      rw [←h0,hh] at hh2;cases hh2
      exact hq
     ·exact hend.re i o ho he k h0 h hh
     ·have h1:=hanc e (hok.es1 k' e hke).1 hb
      have:=(inv.es k' e hke).1 h1
      omega
     ·have h1:=(inv.es k' e hke).2 hk'
      cases hoe:ops[e]? with
      | none=>
       have h2:=Array.getElem?_eq_none_iff.1 hoe
       have h3:=(hok.es1 k' e hke).1
       omega
      | some oe=>
       have:=oK hok inv.size inv.closed e oe hoe (inv.closed e oe hoe h1) i hlt hb
       rw [hL] at this;cases this
    exact hqs env hagree H a w _ _ hrep fun val w' hr'=>next k h val w' hh inv.kle hes' hr'
   | true=>
    obtain ⟨q,hq⟩:=List.mem_iff_getElem?.1 (show i∈es by simpa using he)
    obtain ⟨_,hown⟩:=hok.es1 q i hq
    have hge:¬q<k:=fun hlt'=>by
     have:=(inv.es q i hq).2 hlt'
     rw [hL] at this;cases this
    have hqk:q=k:=by
     cases q with
     | zero=>omega
     | succ q=>
      have hqlt:q<es.length:=by
       have:=(List.getElem?_eq_some_iff.1 hq).1;omega
      have h1:=hok.es2 q es[q] i (List.getElem?_eq_getElem hqlt) hq
      have h2:=hanc es[q] (hok.es1 q _ (List.getElem?_eq_getElem hqlt)).1 h1
      have h3:=(inv.es q _ (List.getElem?_eq_getElem hqlt)).1 h2
      omega
    subst hqk
    obtain ⟨h1,h2,hh1,hh2,hqs⟩:=hend.done.eff i o hlt ho he
    rw [hown,hh] at hh1;cases hh1
    rw [hown] at hh2
    have hqlt:q<es.length:=(List.getElem?_eq_some_iff.1 hq).1
    have hes':∀ (q' j:Nat),es[q']?=some j→((L.setIfInBounds i true).getD j false=true↔q'<q+1):=by
     intro q' j hq'
     by_cases e:i=j
     ·subst e
      have h3:=(hok.es1 q' i hq').2
      have:i<L.size:=by rw [inv.size];exact hlt
      have h4:(L.setIfInBounds i true).getD i false=true:=by simp [this]
      rw [h4]
      constructor
      ·intro _;omega
      ·intro _;rfl
     ·rw [getD_set_ne false e]
      have h3:=(hok.es1 q' j hq').2
      have hne:q'≠q:=by
       rintro rfl
       rw [hq] at hq';cases hq';exact e rfl
      rw [inv.es q' j hq']
      omega
    exact hqs env hagree H a w _ _ hrep fun val w' hr'=>next (q+1) h2 val w' hh2 hqlt hes' hr'
theorem aZ.lex {id:Nat} {s:S} {Q:S→Prop} (es:List Nat) (tb:List (Nat × List Nat)) (hm:P.follows .mixedOrders=true) (hok:IQ ops es tb (NM ops)=true)
  (h:iO P w0 T0 ops es tb ops.toList 0 [] [(s.rows,s.next)] s Q):@aZ P w0 T0 b0 id ops s ⟨Q⟩:=by
 intro H a w _ hr
 refine wp_region_any hm ?_
 have hr':Rep w0 T0 H s a { w with drawn:=w.drawn+1 }:=by
  obtain ⟨m,hm⟩:=hr
  exact ⟨m,hm.drawn⟩
 have ok:=jq.of hok
 have hg0:∀ r,s.get r=gB ops s [] 0 r:=by
  intro r;unfold gB;split<;>simp
 obtain ⟨vs,hs,sf,hend⟩:=He ok ops.toList 0 [] [(s.rows,s.next)] s [] Q rfl (Nat.zero_le _) rfl rfl rfl rfl hg0
  ⟨fun j o h=>absurd h (by omega),fun j o h=>absurd h (by omega),fun j o d h=>absurd h (by omega)⟩ (fun j o h=>absurd h (by omega)) h
 have hL:∀ j,(Array.replicate ops.size false).getD j false=false:=fun j=>IB _ j
 have hop:qm (Array.replicate ops.size false) ops.size=ops.size:=by
  unfold qm
  have:(List.range ops.size).countP (fun j=>!(Array.replicate ops.size false).getD j false)=(List.range ops.size).length:=by
   apply List.countP_eq_length.2
   intro j _
   rw [hL j];rfl
  rw [this,List.length_range]
 refine KE ok hend ops.size (Array.replicate ops.size false) 0 s.env a _ hop ?_
 refine { size:=by simp,closed:=fun i o _ h=>(by rw [hL] at h;cases h),kle:=Nat.zero_le _,es:=fun q i _=>(by rw [hL];simp),get:=fun r=>?_,rep:=⟨_,hend.pre 0 _ rfl,hr'⟩ }
 unfold pz
 split
 ·rw [hL];rfl
 ·rfl
end
end Go.Fv
/-! Regions whose order is drawn, where operations that change the state may change places: a tree of these; the others are walked once, and shown again where the heap changes. -/
namespace Go.Fv
open Go.RowKit
def ku (ks:List Nat):List (Nat × Acc)→List (Nat × Acc)
 | []=>[]
 | x::l=>bif pO ks x.1 then x::ku ks l else ku ks l
def FV (P:Program) (w0:World) (T0:Bs) (n:Nat) (o:Oper) (g:Option Bool) (env:List (Nat × AV)) (v:AV) (R:List (Nat × Item)) (N:Nat):Prop:=match g with
 | .none=>Jq P w0 T0 o ⟨n,env,R,N⟩ v
 | .some c=>Fv.below N v=true∧(c=true→Jq P w0 T0 o ⟨n,env,R,N⟩ v)
def Dc (P:Program) (w0:World) (T0:Bs) (n:Nat) (R:List (Nat × Item)) (N:Nat):List (Nat × Acc)→Prop
 | []=>True
 |(_,⟨o,g,env,v,_⟩)::l=>FV P w0 T0 n o g env v R N∧Dc P w0 T0 n R N l
section
variable {P:Program} {w0:World} {T0:Bs} {b0:Nat} {ops:Array Oper} {T:List Nat} {H:List (AV × Value)} [hG:lC P w0 T0]
def Cl (ops:Array Oper) (V:Array Bool):Prop:=∀ (i:Nat) (o:Oper),ops[i]?=some o→V.getD i false=true→∀ e,e∈o.after→Region.binds .any e=true→V.getD e.on false=true
def Dp (V:Array Bool) (o:Oper):Prop:=∀ e,e∈o.after→Region.binds .any e=true→V.getD e.on false=true
theorem uw {s0:S} {vs:List AV} {V:Array Bool} {i:Nat} {v:AV} (h:V.getD i false=false) (r:Nat):pz ops s0 (vs.set i v) V r=pz ops s0 vs V r:=by
 unfold pz
 split
 ·rename_i j _
  by_cases e:i=j
  ·subst e;rw [h];rfl
  ·simp [List.getD_eq_getElem?_getD,List.getElem?_set,e]
 ·rfl
structure F9 (P:Program) (w0:World) (T0:Bs) (ops:Array Oper) (s0:S) (vs:List AV) (V:Array Bool) (Pd:List Nat) (acc:List (Nat × Acc)) (s:S):Prop where
 vsize:V.size=ops.size
 vlen:vs.length=ops.size
 cl:Cl ops V
 n:s.n=s0.n
 sget:∀ r,s.get r=pz ops s0 vs V r
 pd:∀ j,j∈Pd→V.getD j false=true∧∀ o,ops[j]?=some o→∃ U:Array Bool,U.size=ops.size∧Cl ops U∧(∀ i,U.getD i false=true→V.getD i false=true)∧Dp U o∧U.getD j false=false ∧
  QS P w0 T0 ops o s0.n (pz ops s0 vs U) (s.rows,s.next) (s.rows,s.next) (vs.getD j .dead) ∧
  ((∀ h,QS P w0 T0 ops o s0.n (pz ops s0 vs U) h h (vs.getD j .dead))∨∃ x,(j,x)∈acc∧∀ h,mF P w0 T0 s0.n x h→QS P w0 T0 ops o s0.n (pz ops s0 vs U) h h (vs.getD j .dead))
 put:∀ j o d,V.getD j false=true→ops[j]?=some o→o.dst=some d→d<s0.n
structure RInv (w0:World) (T0:Bs) (H:List (AV × Value)) (ops:Array Oper) (s0:S) (vs:List AV) (V:Array Bool) (Pd:List Nat) (s:S) (L:Array Bool) (env:List (Nat × AV)) (a:Act) (w:World):Prop where
 size:L.size=ops.size
 cl:Cl ops L
 sub:∀ i,L.getD i false=true→V.getD i false=true
 get:∀ r,S.get ⟨s0.n,env,[],0⟩ r=pz ops s0 vs L r
 rep:Rep w0 T0 H ⟨s0.n,env,s.rows,s.next⟩ a w
 pd:∀ i,V.getD i false=true→L.getD i false=false→i∈Pd
theorem Cl.set {V:Array Bool} {i:Nat} {o:Oper} (h:Cl ops V) (ho:ops[i]?=some o) (hd:Dp V o):Cl ops (V.setIfInBounds i true):=by
 intro j oj hj hLj e he hb
 by_cases hij:i=j
 ·subst hij
  rw [ho] at hj;cases hj
  exact getD_set_true (hd e he hb)
 ·rw [getD_set_ne false hij] at hLj
  exact getD_set_true (h j oj hj hLj e he hb)
theorem FX (hok:jq ops [] [] T) {s0:S} {vs:List AV} {V:Array Bool} {i:Nat} {o:Oper} {g:Nat→AV} (ho:ops[i]?=some o) (hs:V.size=ops.size) (hg:∀ r,g r=pz ops s0 vs V r) :
  ∀ r,(match o.dst with|some d=>if d=r then vs.getD i .dead else g r|none=>g r)=pz ops s0 vs (V.setIfInBounds i true) r:=by
 intro r
 have hilt:=(Array.getElem?_eq_some_iff.1 ho).1
 have hV:(V.setIfInBounds i true).getD i false=true:=by
  have:i<V.size:=by rw [hs];exact hilt
  simp [this]
 have old:o.dst≠some r→g r=pz ops s0 vs (V.setIfInBounds i true) r:=by
  intro hne
  rw [hg r]
  unfold pz
  cases hx:EZ ops r with
  | none=>rfl
  | some j=>
   dsimp only
   have hij:i≠j:=by
    rintro rfl
    obtain ⟨oj,hj,hdj⟩:=jM hx
    rw [ho] at hj;cases hj
    exact hne hdj
   rw [getD_set_ne false hij]
 cases hd:o.dst with
 | none=>exact old (by rw [hd];simp)
 | some d=>
  dsimp only
  by_cases e:d=r
  ·subst e
   rw [if_pos rfl]
   unfold pz
   rw [hok.EZ ho hd]
   dsimp only
   rw [hV];rfl
  ·rw [if_neg e]
   exact old (by rw [hd];simpa using e)
theorem BN {n d r:Nat} {v:AV} {env:List (Nat × AV)} {R:List (Nat × Item)} {N:Nat}:S.get ⟨n,(d,v)::env,R,N⟩ r=if d=r then v else S.get ⟨n,env,R,N⟩ r:=by
 by_cases e:d=r
 ·subst e;simp [S.get,lk]
 ·simp [S.get,lk,e]
theorem RInv.more (hok:jq ops [] [] T) {s0:S} {vs:List AV} {L:Array Bool} {env:List (Nat × AV)} {a:Act} {w':World} {i:Nat} {o:Oper} {R:List (Nat × Item)} {N:Nat} {val:Value}
  (ho:ops[i]?=some o) (hs:L.size=ops.size) (hg:∀ r,S.get ⟨s0.n,env,[],0⟩ r=pz ops s0 vs L r) (hput:∀ d,o.dst=some d→d<s0.n)
  (hr:Rep w0 T0 ((vs.getD i .dead,val)::H) ⟨s0.n,env,R,N⟩ a w') :
  ∃ env',(∀ r,S.get ⟨s0.n,env',[],0⟩ r=pz ops s0 vs (L.setIfInBounds i true) r)∧Rep w0 T0 H ⟨s0.n,env',R,N⟩ (a.put o.dst val) w':=by
 obtain ⟨m',hm'⟩:=hr
 have hst:=FX hok (s0:=s0) (vs:=vs) ho hs hg
 cases hd:o.dst with
 | none=>
  rw [hd] at hst
  exact ⟨env,hst,m',hm'.iI⟩
 | some d=>
  rw [hd] at hst
  have h2:=hm'.iI.MK (hm'.held _ (.head _)) (d:=d) (hput d hd)
  exact ⟨(d,vs.getD i .dead)::env,fun r=>by rw [BN];exact hst r,m',h2⟩
end
theorem jB {ks:List Nat} {x:Nat × Acc} (hk:pO ks x.1=true):∀ {l:List (Nat × Acc)},x∈l→x∈ku ks l
 | y::l,h=>by
  unfold ku
  rcases List.mem_cons.1 h with rfl|h
  ·rw [hk];exact .head _
  ·cases pO ks y.1 with
   | true=>exact .tail _ (jB hk h)
   | false=>exact jB hk h
theorem yC {l:List Nat} {i:Nat}:pO l i=true↔i∈l:=by
 rw [vw];simp
section
variable {P:Program} {w0:World} {T0:Bs} {b0:Nat} {ops:Array Oper} {T:List Nat} {H:List (AV × Value)} [hG:lC P w0 T0]
theorem GU {n:Nat} {R:List (Nat × Item)} {N:Nat} {x:Nat × Acc} {l:List (Nat × Acc)} (h:Dc P w0 T0 n R N l) (hx:x∈l):mF P w0 T0 n x.2 (R,N):=by
 induction l with
 | nil=>cases hx
 | cons y l ih=>
  obtain ⟨j,o,g,env,v,ks⟩:=y
  have h1:FV P w0 T0 n o g env v R N:=h.1
  have h2:Dc P w0 T0 n R N l:=h.2
  rcases List.mem_cons.1 hx with rfl|hx
  ·unfold FV at h1;unfold mF
   cases g with
   | none=>exact h1
   | some c=>exact h1
  ·exact ih h2 hx
theorem oD {vs:List AV} {i:Nat} {v:AV} (h:i<vs.length):(vs.set i v).getD i .dead=v:=by
 simp [List.getD_eq_getElem?_getD,h]
theorem tH {vs:List AV} {i j:Nat} {v:AV} (h:i≠j):(vs.set i v).getD j .dead=vs.getD j .dead:=by
 simp [List.getD_eq_getElem?_getD,List.getElem?_set,h]
theorem CZ (hok:jq ops [] [] T) {s0 s:S} {vs:List AV} {V:Array Bool} {i:Nat} {o:Oper} {v:AV} {R:List (Nat × Item)} {N:Nat} (ho:ops[i]?=some o) (hs:V.size=ops.size) (hl:vs.length=ops.size) (hV:V.getD i false=false) (hg:∀ r,s.get r=pz ops s0 vs V r) :
  ∀ r,(jo o.dst v ⟨s.n,s.env,R,N⟩).get r=pz ops s0 (vs.set i v) (V.setIfInBounds i true) r:=by
 intro r
 have hilt:=(Array.getElem?_eq_some_iff.1 ho).1
 have h:=FX hok (s0:=s0) (vs:=vs.set i v) (g:=s.get) ho hs (fun r=>(hg r).trans (uw hV r).symm) r
 rw [oD (by omega)] at h
 rw [←h]
 unfold jo
 cases o.dst with
 | none=>rfl
 | some d=>exact BN
theorem F9.quiet (hok:jq ops [] [] T) {s0 s:S} {vs:List AV} {V:Array Bool} {Pd:List Nat} {acc acc':List (Nat × Acc)} {i:Nat} {o:Oper} {v:AV} (hv:F9 P w0 T0 ops s0 vs V Pd acc s) (ho:ops[i]?=some o) (hd:Dp V o) (hV:V.getD i false=false)
  (hq:QS P w0 T0 ops o s.n s.get (s.rows,s.next) (s.rows,s.next) v) (hr:(∀ h,QS P w0 T0 ops o s.n s.get h h v)∨∃ x,(i,x)∈acc'∧∀ h,mF P w0 T0 s.n x h→QS P w0 T0 ops o s.n s.get h h v)
  (hsub:∀ x,x∈acc→x∈acc') (hdst:jO o.dst s.n):F9 P w0 T0 ops s0 (vs.set i v) (V.setIfInBounds i true) (i::Pd) acc' (jo o.dst v s):=by
 have hilt:=(Array.getElem?_eq_some_iff.1 ho).1
 have hVs:(V.setIfInBounds i true).getD i false=true:=by
  have:i<V.size:=by rw [hv.vsize];exact hilt
  simp [this]
 have hup:∀ j,V.getD j false=true→(V.setIfInBounds i true).getD j false=true:=fun j hj=>getD_set_true hj
 have hrows:(jo o.dst v s).rows=s.rows∧(jo o.dst v s).next=s.next∧(jo o.dst v s).n=s.n:=by
  unfold jo;cases o.dst<;>exact ⟨rfl,rfl,rfl⟩
 have conv:∀ {h h':oH},QS P w0 T0 ops o s.n s.get h h' v→QS P w0 T0 ops o s0.n (pz ops s0 (vs.set i v) V) h h' ((vs.set i v).getD i .dead):=by
  intro h h' hh
  rw [oD (by rw [hv.vlen];exact hilt),←hv.n]
  exact hh.congr fun r _=>by rw [uw hV];exact (hv.sget r).symm
 refine ⟨by simpa using hv.vsize,by simpa using hv.vlen,hv.cl.set ho hd,by rw [hrows.2.2];exact hv.n,?_,?_,?_⟩
 ·exact CZ hok (R:=s.rows) (N:=s.next) ho hv.vsize hv.vlen hV hv.sget
 ·intro j hj
  rcases List.mem_cons.1 hj with rfl|hj
  ·refine ⟨hVs,fun o' ho'=>?_⟩
   rw [ho] at ho';cases ho'
   refine ⟨V,hv.vsize,hv.cl,hup,hd,hV,?_,?_⟩
   ·rw [hrows.1,hrows.2.1];exact conv hq
   ·rcases hr with h|⟨x,hx,h⟩
    ·exact .inl fun h'=>conv (h h')
    ·exact .inr ⟨x,hx,fun h' hc=>conv (h h' (by rw [hv.n];exact hc))⟩
  ·obtain ⟨h1,h2⟩:=hv.pd j hj
   have hne:i≠j:=by rintro rfl;rw [hV] at h1;cases h1
   refine ⟨hup j h1,fun o' ho'=>?_⟩
   obtain ⟨U,u1,u2,u3,u4,u5,u6,u7⟩:=h2 o' ho'
   have hUi:U.getD i false=false:=by
    cases hu:U.getD i false with
    | false=>rfl
    | true=>have:=u3 i hu;rw [hV] at this;cases this
   have cv:∀ {h h':oH},QS P w0 T0 ops o' s0.n (pz ops s0 vs U) h h' (vs.getD j .dead)→QS P w0 T0 ops o' s0.n (pz ops s0 (vs.set i v) U) h h' ((vs.set i v).getD j .dead):=by
    intro h h' hh
    rw [tH hne]
    exact hh.congr fun r _=>uw hUi r
   refine ⟨U,u1,u2,fun k hk=>hup k (u3 k hk),u4,u5,?_,?_⟩
   ·rw [hrows.1,hrows.2.1];exact cv u6
   ·rcases u7 with h|⟨x,hx,h⟩
    ·exact .inl fun h'=>cv (h h')
    ·exact .inr ⟨x,hsub _ hx,fun h' hc=>cv (h h' hc)⟩
 ·intro j oj d hj hoj hdj
  by_cases e:i=j
  ·subst e
   rw [ho] at hoj;cases hoj
   rw [hdj] at hdst
   rw [←hv.n];exact hdst
  ·rw [getD_set_ne false e] at hj
   exact hv.put j oj d hj hoj hdj
theorem F9.eff (hok:jq ops [] [] T) {s0 s:S} {vs:List AV} {V:Array Bool} {Pd ks:List Nat} {acc:List (Nat × Acc)} {i:Nat} {o:Oper} {v:AV} {R:List (Nat × Item)} {N:Nat} (hv:F9 P w0 T0 ops s0 vs V Pd acc s) (ho:ops[i]?=some o) (hd:Dp V o) (hV:V.getD i false=false)
  (hks:∀ j,j∈ks→j∈Pd) (hre:Dc P w0 T0 s.n R N (ku ks acc)) (hdst:jO o.dst s.n):F9 P w0 T0 ops s0 (vs.set i v) (V.setIfInBounds i true) ks (ku ks acc) (jo o.dst v ⟨s.n,s.env,R,N⟩):=by
 have hilt:=(Array.getElem?_eq_some_iff.1 ho).1
 have hup:∀ j,V.getD j false=true→(V.setIfInBounds i true).getD j false=true:=fun j hj=>getD_set_true hj
 have hrows:(jo o.dst v ⟨s.n,s.env,R,N⟩).rows=R∧(jo o.dst v ⟨s.n,s.env,R,N⟩).next=N∧(jo o.dst v ⟨s.n,s.env,R,N⟩).n=s.n:=by
  unfold jo;cases o.dst<;>exact ⟨rfl,rfl,rfl⟩
 refine ⟨by simpa using hv.vsize,by simpa using hv.vlen,hv.cl.set ho hd,by rw [hrows.2.2];exact hv.n,?_,?_,?_⟩
 ·exact CZ hok ho hv.vsize hv.vlen hV hv.sget
 ·intro j hj
  obtain ⟨h1,h2⟩:=hv.pd j (hks j hj)
  have hne:i≠j:=by rintro rfl;rw [hV] at h1;cases h1
  refine ⟨hup j h1,fun o' ho'=>?_⟩
  obtain ⟨U,u1,u2,u3,u4,u5,u6,u7⟩:=h2 o' ho'
  have hUi:U.getD i false=false:=by
   cases hu:U.getD i false with
   | false=>rfl
   | true=>have:=u3 i hu;rw [hV] at this;cases this
  have cv:∀ {h h':oH},QS P w0 T0 ops o' s0.n (pz ops s0 vs U) h h' (vs.getD j .dead)→QS P w0 T0 ops o' s0.n (pz ops s0 (vs.set i v) U) h h' ((vs.set i v).getD j .dead):=by
   intro h h' hh
   rw [tH hne]
   exact hh.congr fun r _=>uw hUi r
  refine ⟨U,u1,u2,fun k hk=>hup k (u3 k hk),u4,u5,?_,?_⟩
  ·rw [hrows.1,hrows.2.1]
   rcases u7 with h|⟨x,hx,h⟩
   ·exact cv (h _)
   ·have:=GU hre (jB (x:=(j,x)) (yC.2 hj) hx)
    rw [hv.n] at this
    exact cv (h _ this)
  ·rcases u7 with h|⟨x,hx,h⟩
   ·exact .inl fun h'=>cv (h h')
   ·exact .inr ⟨x,jB (x:=(j,x)) (yC.2 hj) hx,fun h' hc=>cv (h h' hc)⟩
 ·intro j oj d hj hoj hdj
  by_cases e:i=j
  ·subst e
   rw [ho] at hoj;cases hoj
   rw [hdj] at hdst
   rw [←hv.n];exact hdst
  ·rw [getD_set_ne false e] at hj
   exact hv.put j oj d hj hoj hdj
end
end Go.Fv
/-
 Congruences: only the state of a word is reckoned out, not what stands behind it.
-/
namespace Go.Fv
section
variable {P:Program} {w0:World} {T0:Bs} {s s':S} {K:AV→S→Prop}
@[congr] theorem MV {ops:Array Oper} {o:Oper} {k:S→Prop} (h:s=s'):EC P w0 T0 ops o s k=EC P w0 T0 ops o s' k:=by rw [h]
@[congr] theorem Lc {o:Oper} {c c':Bool} {s1 s2:S} {k:S→Prop} (hc:c=c') (h:s=s'):pq P w0 T0 o c s s1 s2 k=pq P w0 T0 o c' s' s1 s2 k:=by rw [hc,h]
@[congr] theorem LJ {ops:Array Oper} {l:List Oper} {k:S→Prop} (h:s=s'):wY P w0 T0 ops l s k=wY P w0 T0 ops l s' k:=by rw [h]
@[congr] theorem La {ops:Array Oper} {l:sF} {k:S→Prop} (h:s=s'):fU P w0 T0 ops l s k=fU P w0 T0 ops l s' k:=by rw [h]
@[congr] theorem KZ {b0:Nat} {c:Code} {Q:Exit→S→Prop} (h:s=s'):dZ P w0 T0 b0 c Q s=dZ P w0 T0 b0 c Q s':=by rw [h]
@[congr] theorem LK {d:Option Nat} {v v':AV} {k:S→Prop} (hv:v=v') (h:s=s'):dU d v s k=dU d v' s' k:=by rw [hv,h]
@[congr] theorem MW {o:Oper} (h:s=s'):lG P w0 T0 o s K=lG P w0 T0 o s' K:=by rw [h]
@[congr] theorem JI {c:Call} (h:s=s'):jl P w0 T0 c s K=jl P w0 T0 c s' K:=by rw [h]
end
end Go.Fv
/-
 Facts about types, out of one glance each.
-/
namespace Go.Fv
def Le:Value→Bool
 | .int k n=>Gp k n
 | .string s=>s.size == 0
 | .agg cs=>(cs.toList.all fun v=>v.oneCell' && (match v with | .string s=>s.size == 0|_=>true)) && decide (0<cs.size)
 | .tuple _=>false
 | _=>true
theorem JJ {v:Value} (h:Le v=true):NU v:=by
 cases v<;>first|trivial|cases h;done|skip
 case int k n=>exact Bc h
 case string s=>
  have h':s.size=0:=by simpa [Le] using h
  show s.size≤maxLen
  rw [h'];exact Nat.zero_le _
 case agg cs=>
  simp only [Le,Bool.and_eq_true,List.all_eq_true,decide_eq_true_eq] at h
  refine ⟨fun v hv=>⟨(h.1 v hv).1,?_⟩,h.2⟩
  have h2:=(h.1 v hv).2
  cases v<;>try trivial
  rename_i s
  have h':s.size=0:=by simpa using h2
  show s.size≤maxLen
  rw [h'];exact Nat.zero_le _
theorem aO.of {P:Program} {e:TypeId} {z:Value} (h:(P.info? e).map (fun i=>(i.zero,i.size,decide (i.bytes≤1024)))=some (some z,z.cells.size,true)) (hz:Le z=true):aO P e z:=by
 refine ⟨?_,JJ hz⟩
 cases hi:P.info? e with
 | none=>rw [hi] at h;cases h
 | some i=>
  rw [hi] at h
  simp only [Option.map_some,Option.some.injEq,Prod.mk.injEq,decide_eq_true_eq] at h
  exact ⟨i,rfl,h.1,h.2.1,h.2.2⟩
theorem aO.zero {P:Program} {e:TypeId} {z:Value} (h:aO P e z):zeroOf P e=some z:=by
 obtain ⟨i,h1,h2,_⟩:=h.ex
 simp [zeroOf,h1,h2]
theorem aO.cellsOf {P:Program} {e:TypeId} {z:Value} (h:aO P e z):P.cellsOf e=z.cells.size:=by
 obtain ⟨i,h1,h2,h3,_⟩:=h.ex
 simp [Program.cellsOf,h1,h3]
end Go.Fv
/-
 The names of one state among those of another, found by looking; steps of a walk.
-/
namespace Go.Fv
mutual
def mkV:AV→AV→List (Nat × Nat)
 | .own i,y=>match y with | .own k=>[(i,k)]|_=>[]
 | .ptr i _,y=>match y with | .ptr k _=>[(i,k)]|_=>[]
 | .elt i _ _ _,y=>match y with | .elt k _ _ _=>[(i,k)]|_=>[]
 | .pre i _,y=>match y with | .pre k _=>[(i,k)]|_=>[]
 | .suf i _ _ _,y=>match y with | .suf k _ _ _=>[(i,k)]|_=>[]
 | .agg l,y=>match y with | .agg l'=>zL l l'|_=>[]
 | .tup l,y=>match y with | .tup l'=>zL l l'|_=>[]
 | .fn _ l,y=>match y with | .fn _ l'=>zL l l'|_=>[]
 | .dead,_=>[]
 | .nilS,_=>[]
 | .bool _,_=>[]
 | .int _ _,_=>[]
 | .str _,_=>[]
 | .ro _,_=>[]
 | .cell _,_=>[]
 | .raw _,_=>[]
 | .opt _ x,y=>match y with | .opt _ y'=>mkV x y'|_=>[]
 | .ifc _ x,y=>match y with | .ifc _ y'=>mkV x y'|_=>[]
 | .bm _ x,y=>match y with | .bm _ y'=>mkV x y'|_=>[]
 | .mp _ _,_=>[]
def zL:List AV→List AV→List (Nat × Nat)
 | [],_=>[]
 | x::l,ys=>match ys with|y::l'=>mkV x y++zL l l'|[]=>[]
end
def FM (s:S):List (Nat × AV)→List (Nat × Nat)
 | []=>[]
 |(r,v)::l=>mkV v (s.get r)++FM s l
def KJ:List (List AV)→List (List AV)→List (Nat × Nat)
 | [],_=>[]
 | x::l,ys=>match ys with|y::l'=>zL x y++KJ l l'|[]=>[]
def OU:au→au→List (Nat × Nat)
 | .objs _ l,.objs _ l'=>KJ l l'
 | _,_=>[]
def mkItem:Item→Option Item→List (Nat × Nat)
 | .box _ cs,some (.box _ cs')=>zL cs cs'
 | .row _ r,some (.row _ r')=>OU r r'
 | .map ks vs,some (.map ks' vs')=>zL ks ks'++zL vs vs'
 | .iter i _ _,some (.iter k _ _)=>[(i,k)]
 | _,_=>[]
def zM (l:List (Nat × Nat)) (rows:List (Nat × Item)):List (Nat × Item)→List (Nat × Nat)
 | []=>[]
 |(i,it)::rest=>mkItem it (lk rows (pm l i))++zM l rows rest
def FN (s s':S):List (Nat × Nat):=FM s s'.env++zM (FM s s'.env) s.rows s'.rows
theorem J5 (k:IntKind) (n:Int):(Value.int k n).cells.size=1:=rfl
theorem Ih (b:Bool):(Value.bool b).cells.size=1:=rfl
theorem J7 (b:ByteArray):(Value.string b).cells.size=1:=rfl
theorem Gh (a:Option Addr) (n m:Nat):(Value.slice a n m).cells.size=1:=rfl
theorem J6 (a:Option Addr):(Value.pointer a).cells.size=1:=rfl
theorem J4 (a:Array Value):(Value.agg a).cells.size=a.size:=rfl
theorem Ite.bool {b:Bool} {x y:Prop} (h1:b=true→x) (h2:b=false→y):@Ite b ⟨x⟩ ⟨y⟩:=⟨h1,h2⟩
def yG (b:Nat):List (Nat × Nat)→List (Nat × Nat)
 | []=>[]
 | x::l=>if b≤x.1 then x::yG b l else yG b l
theorem vG (b:Nat):∀ (l:List (Nat × Nat)) x,x∈yG b l→b≤x.1
 | y::l,x,h=>by
  simp only [yG] at h
  split at h
  ·rename_i hb
   cases List.mem_cons.1 h with
   | inl e=>subst e;exact hb
   | inr e=>exact vG b l x e
  ·exact vG b l x h
section
variable {w0:World} {T0:Bs} {b0:Nat}
theorem dB.bJ {s s':S} (hn:s'.n=s.n) (he:uX (pm (FN s s')) s s'.next s'.env) (hr:fP (pm (FN s s')) s.rows s'.next s'.rows):dB w0 T0 0 s s':=
 dB.of (FN s s') hn (Nat.zero_le _) (fun _ _=>Nat.zero_le _) he hr
def MN (s:S):ResultVar→AV
 | .tmp t=>s.ev (.tmp t)
 | .cell t _=>match s.get t with
  | .ptr i off=>match lk s.rows i with
   | some (.box _ cs)=>.agg (cs.drop off)
   | _=>.dead
  | _=>.dead
def Cm (s:S) (res:List ResultVar) (out:AV) (rows:List (Nat × Item)):List (Nat × Nat):=
 mkV out (iM (res.map (MN s)))++zM (mkV out (iM (res.map (MN s)))) s.rows rows
theorem dJ.auto {P:Program} (N:Nat) {res:List ResultVar} {out:AV} {rows:List (Nat × Item)} {s:S} (h:rQ P s res (fun vs=>iM vs=ren (pm (Cm s res out rows)) out)) (hb:Fv.below N out=true) (hr:fP (pm (Cm s res out rows)) s.rows N rows):dJ P w0 T0 res out rows s:=
 dJ.of _ N h hb hr
end
end Go.Fv
/-
 The set by which a walk is reckoned.
-/
namespace Go.Fv
theorem H6 (p q:Prop) [Decidable p] [Decidable q]:(decide p && decide q)=decide (p∧q):=by simp
theorem JZ (p q:Prop) [Decidable p] [Decidable q]:(decide p || decide q)=decide (p∨q):=by simp
theorem H9 (p:Prop) [Decidable p]:(!decide p)=decide (¬p):=by simp
attribute [go_sem] not_true_eq_false or_true true_or false_or or_false and_false false_and or_self and_self Array.toList_replicate List.map_replicate List.mem_replicate not_false_eq_true ne_eq Value.oneCell' maxLen_eq Nat.zero_le H6 JZ H9 AV.int.injEq AV.bool.injEq dZ thenS uT JB Fq wY EC lG o9 wZ gK fC y8 nP wQ wX eu iE nU rY dU jl Dw iD gG oG Ag wM vM Ai EF Jo NZ vO kd AZ eq1 EG mP qJ qG Dz I8 nT mV kK qO Ak AU gI iZ qP FY uD Aq qM oU eP intsOf kT fU S.ev S.get S.set S.add S.swap S.after oW lk put del evs aj bZ yN Gp ren dh fM lQ fJ je bn zD dS zl bnd jA iJ dR iV spl appRow nJ eG S.upd idxFrom oM placeOf bytesOf bg bD below aA au.len au.sz Item.ren J5 Ih J7 Gh J6 J4 List.length_append List.length_set List.length_replicate List.length_nil List.mem_cons List.not_mem_nil or_false forall_eq forall_eq_or_imp implies_true false_implies eq_self List.set_cons_zero List.set_cons_succ List.drop_zero List.drop_succ_cons List.take_succ_cons List.take_zero List.size_toArray List.length_cons List.map_cons List.map_nil List.replicate_zero List.nil_append List.cons_append List.append_nil List.reverse_nil List.zipIdx_cons List.zipIdx_nil Array.toList_empty List.getElem?_cons_zero List.getElem?_cons_succ List.getElem?_toArray Option.bind_some Option.map_some Option.getD_some Nat.one_mul decide_true decide_false Bool.and_self Bool.true_and Bool.false_and Bool.and_true Bool.and_false Bool.not_true Bool.not_false cond_true cond_false Hl F7 and_true true_and and_self Hf Bool.not_eq_true' Nat.zero_add Nat.add_zero Int.toNat_natCast Int.ofNat_eq_natCast Nj Nk iL dI peel D6 NC ND gHead BL Kz pW oV pq JO Nq Np Bool.and_eq_true decide_eq_true_eq Bool.cond_true_left Bool.cond_false_right imp_self Bool.not_eq_true decide_eq_false_iff_not Decidable.not_not Bool.not_not eY oI Int.natCast_zero
end Go.Fv
/-
 Calls whose results are only read by the caller: they stand as data, and the caller's state stays as it is.
-/
namespace Go.Fv
open Go.RowKit
def jC (rows:List (Nat × Item)) (x y:AV):Prop:=match x with
 | .tup l=>∃ l',bG rows l l'∧y=.tup l'
 | x=>jr rows x y
section
variable {P:Program} {w0:World} {T0:Bs}
theorem lI.ro {T:Nat→Prop} {B:Nat} {w:World} {out out':AV} {rows:List (Nat × Item)} {v:Value} (h:lI T B w out rows v) (ho:jC rows out out'):lI T B w out' [] v:=by
 obtain ⟨m,N,hr,hrows,hsep⟩:=h
 have hblk:∀ i it,lk rows i=some it→∀ b,blk (m i)=some b→B≤b:=fun i it hi b hb=>((hrows i it hi).2.blk b hb).1
 have hl:xu w (⟨w,allow (bs T) B m rows,m,N⟩:Ctx) rows (allow (bs T) B (fun _=>undef) []):=
  {hw:=rfl,t:=fun b hb=>⟨hb.1,fun i it hi=>by simp [lk] at hi⟩,
   own:=fun i e r hi=>by
    obtain ⟨n,cells,hc,hn,hq,_⟩:=(hrows i _ hi).2
    exact ⟨fun b hb=>⟨.inl (hblk i _ hi b hb),fun i it hi=>by simp [lk] at hi⟩,n,cells,hc,hn,hq⟩,
   box:=fun i e cs hi=>by
    obtain ⟨g,vs,hv,hg,hl,hh⟩:=(hrows i _ hi).2
    exact ⟨g,vs,hv,⟨.inl hg,fun i it hi=>by simp [lk] at hi⟩,hl,hh⟩,
   map:=fun i ks vs hi=>by
    obtain ⟨g,es,clock,hv,hg,h1,h2,h3,h4,hh⟩:=(hrows i _ hi).2
    exact ⟨g,es,clock,hv,⟨.inl hg,fun i it hi=>by simp [lk] at hi⟩,h1,h2,h3,h4,hh⟩ }
 refine ⟨fun _=>undef,0,?_,fun i it hi=>by simp [lk] at hi,fun i j it jt b hi=>by simp [lk] at hi⟩
 unfold jC at ho
 split at ho
 ·obtain ⟨l',ha,rfl⟩:=ho
  cases hr with
  | tup _ vs hv=>exact .tup _ _ (jJ hl _ ha hv)
 ·exact qY hl 6 _ ho hr
theorem lI.bY {T:Nat→Prop} {B:Nat} {w:World} {out:AV} {v:Value} (h:lI T B w out [] v):lI T B w out [] v:=h
theorem ah.ro [hG:lC P w0 T0] {f:Nat} {args args':List AV} {out:AV} (out':AV) {rows:List (Nat × Item)} {s:S} {K:AV→S→Prop} (h:lu P f args' out rows) (ha:bG s.rows args args') (ho:jC rows out out') (hn:bg out'=true)
  (hk:K out' s):@ah P w0 T0 f args s ⟨K⟩:=by
 have h':lu P f args' out' []:=⟨h.1,fun w T vals hgl hv=>(h.2 w T vals hgl hv).mono fun e w' ⟨v,he,hb,hq⟩=>⟨v,he,hb,hq.ro ho⟩⟩
 refine ah.fr h' ha 0 (fB 0 _ hn) trivial ?_
 rw [jS _ _ hn]
 exact hk
theorem aU.ro {f:Nat} {args:List AV} {out out':AV} {rows:List (Nat × Item)} (h:aU P f args out rows) (ho:jC rows out out'):aU P f args out' []:=
 ⟨h.1,fun w T vals hgl hv=>(h.2 w T vals hgl hv).mono fun e w' ⟨v,he,hb,hq⟩=>⟨v,he,hb,hq.ro ho⟩⟩
theorem ah.N9 [hG:lC P w0 T0] {f:Nat} {args args':List AV} {out:AV} (out':AV) {rows:List (Nat × Item)} {s:S} {K:AV→S→Prop} (h:aU P f args' out rows) (ha:bG [] args args') (ho:jC rows out out') (hn:bg out'=true)
  (hk:K out' s):@ah P w0 T0 f args s ⟨K⟩:=by
 refine ah.sh s.rows (h.ro ho) [] ha (fun _ _ h=>h) (fun i it hi=>by simp [lk] at hi) 0 (fB 0 _ hn) trivial ?_
 rw [jS _ _ hn]
 exact hk
theorem ah.shr [hG:lC P w0 T0] {f:Nat} {args args':List AV} {out:AV} {rows:List (Nat × Item)} {s:S} {K:AV→S→Prop} (h:aU P f args' out rows) (ha:bG [] args args') (N:Nat) (hN:Fv.below N out=true) (hNr:dw N rows)
  (hk:K (ren (fun j=>s.next+j) out) (s.after s.rows N rows)):@ah P w0 T0 f args s ⟨K⟩:=
 ah.sh s.rows h [] ha (fun _ _ h=>h) (fun i it hi=>by simp [lk] at hi) N hN hNr hk
end
end Go.Fv
/-
 A nil slice in a box, as an owned row without elements.
-/
namespace Go.Fv
open Go.RowKit
section
variable {P:Program} {w0:World} {T0:Bs} {b0:Nat}
theorem dB.pre {s:S} (r i:Nat) {e:TypeId} {rv:au} (hr:lk s.env r=some (.own i)) (hi:lk s.rows i=some (.row e rv)):dB w0 T0 b0 s (s.set r (.pre i rv.len)):=by
 rintro H a w hH ⟨m,hm⟩
 refine ⟨m,hm.Fp ?_⟩
 have hx:=hm.env r _ hr
 obtain ⟨k,cells,hrc,hk,how,hO⟩:=(hm.rows i _ hi).2
 generalize a.tmps.getD r undef=v at hx
 cases hx with
 | own _ hi2 h1=>
  rcases how.2 with ⟨hv2,hq⟩|⟨g,cap,cur,fz,hv2,_⟩
  ·have hv:(ak T0 w0.heap.size m s w).m i=.slice none 0 0:=hv2
   have h0:rv.len=0:=by omega
   rw [hv,h0]
   exact .pre i 0 0 0 none hi2 hv (Nat.le_refl _)
  ·have hv:(ak T0 w0.heap.size m s w).m i=.slice (some ⟨g,0,none⟩) k cap:=hv2
   rw [hv,hk]
   exact .pre i k k cap _ hi2 hv (Nat.le_refl _)
end
end Go.Fv
/-
 What a function value has captured, where nothing of it is the caller's own memory.
-/
namespace Go.Fv
open Go.RowKit
def IL:Nat→AV→Bool
 | 0,_=>false
 | n+1,x=>match x with
  | .agg cs=>cs.all (IL n)
  | .fn _ cs=>cs.all (IL n)
  | .ro _=>true
  | .bool _=>true
  | .int _ _=>true
  | .str _=>true
  | .raw _=>true
  | .cell _=>true
  | .nilS=>true
  | .mp _ _=>true
  | _=>false
class LM (caps:List AV):Prop where
 ok:caps.all (IL 5)=true
section
variable {caps:List AV} [h:LM caps]
end
mutual
theorem qh:∀ (x y:AV),bg x=true→mkV x y=[]
 | .own _,_,h=>by simp [bg] at h
 | .ptr _ _,_,h=>by simp [bg] at h
 | .elt _ _ _ _,_,h=>by simp [bg] at h
 | .pre _ _,_,h=>by simp [bg] at h
 | .suf _ _ _ _,_,h=>by simp [bg] at h
 | .agg l,y,h=>by simp only [mkV];split<;>first|exact jk l _ (by simpa [bg] using h)|rfl
 | .tup l,y,h=>by simp only [mkV];split<;>first|exact jk l _ (by simpa [bg] using h)|rfl
 | .fn _ l,y,h=>by simp only [mkV];split<;>first|exact jk l _ (by simpa [bg] using h)|rfl
 | .dead,_,_=>rfl
 | .nilS,_,_=>rfl
 | .bool _,_,_=>rfl
 | .int _ _,_,_=>rfl
 | .str _,_,_=>rfl
 | .ro _,_,_=>rfl
 | .cell _,_,_=>rfl
 | .raw _,_,_=>rfl
 | .mp _ _,_,_=>rfl
 | .opt _ x,y,h=>by simp only [mkV];split<;>first|exact qh x _ (by simpa [bg] using h)|rfl
 | .ifc _ x,y,h=>by simp only [mkV];split<;>first|exact qh x _ (by simpa [bg] using h)|rfl
 | .bm _ x,y,h=>by simp only [mkV];split<;>first|exact qh x _ (by simpa [bg] using h)|rfl
theorem jk:∀ (x y:List AV),bD x=true→zL x y=[]
 | [],_,_=>rfl
 | x::l,y,h=>by
  simp only [bD,Bool.and_eq_true] at h
  simp only [zL];split
  ·rw [qh x _ h.1,jk l _ h.2];rfl
  ·rfl
end
theorem yJ:∀ (x y:List (List AV)),x.all bD=true→KJ x y=[]
 | [],_,_=>rfl
 | x::l,y,h=>by
  simp only [List.all_cons,Bool.and_eq_true] at h
  simp only [KJ];split
  ·rw [jk x _ h.1,yJ l _ h.2];rfl
  ·rfl
theorem Jc (r r':au) [h:gQ r]:OU r r'=[]:=by
 have:=h.ok
 cases r<;>cases r'<;>first|rfl|exact yJ _ _ this
end Go.Fv
/-
 The walk of drawn regions, in the set.
-/
namespace Go.Fv
attribute [go_sem] nR Hy mQ FH jW jY jX Gi gJ nS AB uF List.getLast?_concat mapOf Ls yh Oh Bool.false_eq_true true_implies LU iO Iw HY Gf Mc KR KQ Jp Ce sZ jO jo C9 ML dX LD dG gu gd Jq yT redo jE jQ dI pO vK Option.toList_some Option.toList_none
end Go.Fv
/-
 Maps whose keys and values are told by lists of plain data.
-/
namespace Go.Fv
def vN {α:Type} [DecidableEq α]:List α→α→Option Nat
 | [],_=>none
 | x::l,k=>if x=k then some 0 else (vN l k).map (·+1)
theorem kP {α:Type} [DecidableEq α] {f:α→AV} (hf:∀ a b,jf (f a) (f b)=decide (a=b)) (x:α):∀ l:List α,bV (l.map f) (f x)=vN l x
 | []=>rfl
 | y::l=>by simp only [List.map_cons,bV,vN,hf,kP hf x l,decide_eq_true_eq]
theorem jP {α:Type} [DecidableEq α]:∀ {l:List α} {x:α} {j:Nat},vN l x=some j→l[j]?=some x
 | y::l,x,j,h=>by
  simp only [vN] at h
  split at h
  ·rename_i e;cases h;simp [e]
  ·simp only [Option.map_eq_some_iff] at h
   obtain ⟨i,hi,rfl⟩:=h
   simpa using jP hi
theorem nI {α:Type} [DecidableEq α]:∀ {l:List α} {x:α},vN l x=none↔x∉l
 | [],x=>by simp [vN]
 | y::l,x=>by
  simp only [vN]
  split
  ·rename_i e;simp [e]
  ·rename_i e
   rw [Option.map_eq_none_iff,nI,List.mem_cons,not_or]
   exact ⟨fun h=>⟨fun e'=>e e'.symm,h⟩,fun h=>h.2⟩
theorem Iz {α:Type} [DecidableEq α] {f:α→AV} (hf:∀ a b,jf (f a) (f b)=decide (a=b)) (l:List α) (x:α):tN (l.map f) (l.map fun _=>.bool true) (f x)=decide (x∈l):=by
 unfold tN kJ
 rw [kP hf]
 cases h:vN l x with
 | none=>simp [nI.1 h]
 | some j=>simp [List.mem_of_getElem? (jP h),jP h]
def IG {α:Type} [DecidableEq α] (l:List α) (x:α):List α:=if x∈l then l else l++[x]
theorem G8 {α:Type} [DecidableEq α] {f:α→AV} (hf:∀ a b,jf (f a) (f b)=decide (a=b)) (l:List α) (x:α):kY (l.map f) (f x)=(IG l x).map f:=by
 unfold kY IG
 rw [kP hf]
 cases h:vN l x with
 | none=>simp [nI.1 h]
 | some j=>simp [List.mem_of_getElem? (jP h)]
theorem yX {α β:Type} (c:β):∀ (l:List α) (j:Nat),(l.map fun _=>c).set j c=l.map fun _=>c
 | [],_=>rfl
 | _::l,0=>rfl
 | _::l,j+1=>by simp [yX c l j]
theorem G9 {α:Type} [DecidableEq α] {f:α→AV} (hf:∀ a b,jf (f a) (f b)=decide (a=b)) (l:List α) (x:α):yZ (l.map f) (l.map fun _=>.bool true) (f x) (.bool true)=(IG l x).map fun _=>.bool true:=by
 unfold yZ IG
 rw [kP hf]
 cases h:vN l x with
 | none=>simp [nI.1 h]
 | some j=>simp [List.mem_of_getElem? (jP h),yX]
theorem EP {α:Type} (l:List α) (f:α→Bool):(l.map fun x=>AV.bool (f x)).all Nh=true:=by simp [Nh]
theorem yU {α:Type} (p:Nat→Nat) {f:α→AV} (hf:∀ a,bg (f a)=true) (l:List α):dh p (l.map f)=l.map f:=by
 refine iY p _ ?_
 induction l with
 | nil=>rfl
 | cons x l ih=>simp [bD,hf,ih]
theorem sH {α:Type} (n:Nat) {f:α→AV} (hf:∀ a,bg (f a)=true) (l:List α):aA n (l.map f)=true:=by
 refine fD n _ ?_
 induction l with
 | nil=>rfl
 | cons x l ih=>simp [bD,hf,ih]
theorem Eh {α:Type} {f:α→AV} (hf:∀ a,bg (f a)=true) (l:List α):bD (l.map f)=true:=by
 induction l with
 | nil=>rfl
 | cons x l ih=>simp [bD,hf,ih]
theorem Cj {α:Type} {f:α→AV} (hf:∀ a,bg (f a)=true) (l:List α) (y:List AV):zL (l.map f) y=[]:=jk _ y (Eh hf l)
theorem wG {α:Type} (p:Nat→Nat) (l:List α) (f:α→Bool):dh p (l.map fun x=>.bool (f x))=l.map fun x=>.bool (f x):=yU p (fun _=>rfl) l
theorem pG {α:Type} (n:Nat) (l:List α) (f:α→Bool):aA n (l.map fun x=>.bool (f x))=true:=sH n (fun _=>rfl) l
theorem yK {α:Type} (l:List α) (f:α→Bool) (y:List AV):zL (l.map fun x=>.bool (f x)) y=[]:=Cj (fun _=>rfl) l y
attribute [simp] wG pG yK
attribute [go_sem] wG pG EP
end Go.Fv
/-
 Small facts about lists.
-/
namespace Go.Fv
theorem getD_lt {α:Type} {l:List α} {i:Nat} {d:α} (h:i<l.length):l.getD i d=l[i]:=by simp [List.getD,h]
theorem wH (p:Nat→Nat):∀ l:List Bool,dh p (l.map .bool)=l.map .bool
 | []=>rfl
 | b::l=>by simp only [List.map_cons,dh,ren];rw [wH p l]
theorem kC (n:Nat):∀ l:List Bool,aA n (l.map .bool)=true
 | []=>rfl
 | b::l=>by simp only [List.map_cons,aA,below,Bool.true_and];exact kC n l
theorem yL:∀ (l:List Bool) (y:List AV),zL (l.map .bool) y=[]
 | [],_=>by simp [zL]
 | b::l,y=>by
  simp only [List.map_cons,zL]
  split
  ·simp only [mkV,List.nil_append];exact yL l _
  ·rfl
theorem lJ (rows:List (Nat × Item)) (n:Nat):∀ l:List Bool,bU (aJ rows (n+1)) (l.map .bool) (l.map .bool)
 | []=>rfl
 | b::l=>⟨.bool b,l.map .bool,by simp [aJ],lJ rows n l,rfl⟩
theorem G6 (l:List Bool) (i:Nat) (b:Bool):(l.map AV.bool).set i (.bool b)=(l.set i b).map .bool:=by rw [List.map_set]
theorem tC:∀ l:List Bool,iK (l.map .bool)=true
 | []=>rfl
 | b::l=>by simp only [List.map_cons,iK,jH,Bool.true_and];exact tC l
theorem JE:∀ (cs bs:List AV) (off:Nat),off+cs.length≤bs.length→spl bs off cs=bs.take off++cs++bs.drop (off+cs.length)
 | [],bs,off,_=>by simp [spl]
 | c::cs,bs,off,h=>by
  simp only [List.length_cons] at h
  rw [spl,JE cs _ _ (by simp;omega),List.take_set,List.drop_set,if_pos (by omega)]
  rw [List.take_succ_eq_append_getElem (by omega),List.set_append_right _ _ (by simp;omega)]
  have e:off - (List.take off bs).length=0:=by simp;omega
  rw [e]
  simp only [List.set_cons_zero,List.length_cons,List.append_assoc,List.cons_append,List.nil_append]
  have e2:off+1+cs.length=off+(cs.length+1):=by omega
  rw [e2]
theorem Aa {bs cs:List AV} (h:cs.length=bs.length):spl bs 0 cs=cs:=by
 rw [JE _ _ _ (by omega)];simp [h]
attribute [simp] dF iT aW Jc
attribute [go_sem] tK dF iT aW wH kC List.length_map Nat.mul_one G6
end Go.Fv
