/-
  A part of the proof of the claim: walks over the program's functions and the plain laws that these need. No condition of its own.
-/
import Derived.Test.YtpbllkibobnifaaDoorFvPart10
import Derived.Test.YtpbllkibobnifaaDoorFvPart9
set_option linter.unusedSectionVars false
set_option linter.unusedVariables false
set_option linter.unusedSimpArgs false
set_option linter.unnecessarySimpa false
namespace Go.Fv
open Go.RowKit
section
variable {P:Program} {w0:World} {T0:Bs} {b0:Nat} {ops:Array Oper} {es:List Nat} {tb:List (Nat × List Nat)} {T:List Nat} {H:List (AV × Value)} [hG:qB P w0 T0]
theorem MQ {L:Array Bool} {i:Nat} (h:L.getD i true=false):L.getD i false=false:=by
 rcases Nat.lt_or_ge i L.size with h'|h'
 ·simpa [h'] using h
 ·simp [Array.getElem?_eq_none h']
theorem Ua {L:Array Bool} {i:Nat} (hi:i<L.size) (h:L.getD i false=false):L.getD i true=false:=by
 simpa [hi] using h
theorem oC (m j:Nat):(Array.replicate m false).getD j false=false:=by
 rcases Nat.lt_or_ge j m with h|h
 ·simp [h]
 ·simp [Array.getElem?_eq_none,h]
def rC (L:Array Bool) (n:Nat):Nat:=(List.range n).countP fun j=>!L.getD j false
theorem Eb {L:Array Bool} {i:Nat} (hs:i<L.size) (hi:L.getD i false=false):∀ n,rC (L.setIfInBounds i true) n+(if i<n then 1 else 0)=rC L n
 | 0=>by simp [rC]
 | n+1=>by
  have ih:=Eb hs hi n
  unfold rC at *
  rw [List.range_succ,List.countP_append,List.countP_append,List.countP_singleton,List.countP_singleton]
  by_cases e:i=n
  ·subst e
   have h1:(L.setIfInBounds i true).getD i false=true:=by simp [hs]
   rw [h1,hi]
   simp at ih ⊢
   omega
  ·rw [getD_set_ne false e]
   by_cases h2:i<n
   ·rw [if_pos h2] at ih;rw [if_pos (show i<n+1 by omega)];omega
   ·rw [if_neg h2] at ih;rw [if_neg (show ¬i<n+1 by omega)];omega
theorem KQ {L:Array Bool} {n:Nat} (h:rC L n=0):∀ i,i<n→L.getD i false=true:=by
 intro i hi
 unfold rC at h
 have:=List.countP_eq_zero.1 h i (List.mem_range.2 hi)
 simpa using this
def uV (ops:Array Oper) (s0:S) (vs:List AV) (L:Array Bool) (r:Nat):AV:=match MF ops r with
 | some j=>bif L.getD j false then vs.getD j .dead else s0.get r
 | none=>s0.get r
structure PO (w0:World) (T0:Bs) (H:List (AV × Value)) (ops:Array Oper) (es:List Nat) (s0:S) (vs:List AV) (hs:List uj) (L:Array Bool) (k:Nat) (env:List (Nat × AV)) (a:Act) (w:World):Prop where
 size:L.size=ops.size
 closed:∀ (i:Nat) (o:Oper),ops[i]?=some o→L.getD i false=true→∀ e,e∈o.after→Region.binds .any e=true→L.getD e.on false=true
 kle:k≤es.length
 es:∀ (q i:Nat),es[q]?=some i→(L.getD i false=true↔q<k)
 get:∀ r,S.get ⟨s0.n,env,[],0⟩ r=uV ops s0 vs L r
 rep:∃ h,hs[k]?=some h∧Rep w0 T0 H ⟨s0.n,env,h.1,h.2⟩ a w
theorem uq (hok:lW ops es tb T) {L:Array Bool} (hsz:L.size=ops.size) (hc:∀ (i:Nat) (o:Oper),ops[i]?=some o→L.getD i false=true→∀ e,e∈o.after→Region.binds .any e=true→L.getD e.on false=true) :
  ∀ (i:Nat) (o:Oper),ops[i]?=some o→(∀ e,e∈o.after→Region.binds .any e=true→L.getD e.on false=true)→∀ q,q<ops.size→qI T i q=true→L.getD q false=true:=by
 intro i
 induction i using Nat.strongRecOn with
 | _ i ih=>
  intro o hi hd q hq hb
  obtain ⟨e,he,hbd,hx⟩:=hok.anc i o hi q hq hb
  rcases hx with rfl|hx
  ·exact hd e he hbd
  ·have hlt:=hok.low i o hi e he hbd
   have hL:=hd e he hbd
   cases hoe:ops[e.on]? with
   | none=>
    have:=Array.getElem?_eq_none_iff.1 hoe
    have hi':=(Array.getElem?_eq_some_iff.1 hi).1
    omega
   | some oe=>exact ih e.on hlt oe hoe (hc e.on oe hoe hL) q hq hx
theorem Nc (hok:lW ops es tb T) {s0 sf:S} {Q:S→Prop} {vs:List AV} {hs:List uj} {hs0:List uj} (hend:xg P w0 T0 ops es tb s0 hs0 Q vs hs sf) :
  ∀ (fuel:Nat) (L:Array Bool) (k:Nat) (env:List (Nat × AV)) (a:Act) (w:World),rC L ops.size=fuel→PO w0 T0 H ops es s0 vs hs L k env a w →
   wpAny P .any ops (fun e a' w'=>e=.normal∧∃ s',Q s'∧Rep w0 T0 H s' a' w') fuel L a w:=by
 have fin:∀ (L:Array Bool) (k:Nat) (env:List (Nat × AV)) (a:Act) (w:World),(∀ i,i<ops.size→L.getD i false=true)→PO w0 T0 H ops es s0 vs hs L k env a w→∃ s',Q s'∧Rep w0 T0 H s' a w:=by
  intro L k env a w hall inv
  have hk:k=es.length:=by
   rcases Nat.lt_or_ge k es.length with hlt|hge
   ·have h1:=inv.es k es[k] (List.getElem?_eq_getElem hlt)
    have h2:=hok.es1 k es[k] (List.getElem?_eq_getElem hlt)
    have:=h1.1 (hall _ h2.1)
    omega
   ·have:=inv.kle;omega
  obtain ⟨h,hh,m,hm⟩:=inv.rep
  have hl:=hend.last
  rw [hok.tot,←hk,hh] at hl
  cases hl
  refine ⟨sf,hend.q,m,?_⟩
  refine { size:=by rw [hend.n];exact hm.size,nodef:=hm.nodef,below:=hm.below,held:=hm.held,rows:=hm.rows,sep:=hm.sep,env:=?_ }
  intro r v hv
  have hg:S.get ⟨s0.n,env,[],0⟩ r=v:=by
   rw [inv.get r]
   have h1:=hend.get r
   have h2:sf.get r=v:=by simp [S.get,hv]
   rw [←h2,h1]
   unfold uV jo
   cases hx:MF ops r with
   | none=>rfl
   | some j=>
    obtain ⟨o,ho,_⟩:=oq hx
    have hlt:=(Array.getElem?_eq_some_iff.1 ho).1
    simp [hall j hlt,hlt]
  simp only [S.get] at hg
  cases hl:lk env r with
  | none=>rw [hl] at hg;simp only at hg;subst hg;exact .dead _
  | some v'=>rw [hl] at hg;simp only at hg;subst hg;exact hm.env r v' hl
 intro fuel
 induction fuel with
 | zero=>
  intro L k env a w hf inv
  have hall:=KQ hf
  refine ⟨?_,rfl,fin L k env a w hall inv⟩
  apply List.eq_nil_iff_forall_not_mem.2
  intro j hj
  obtain ⟨h1,o,ho,_⟩:=mem_ready.1 hj
  have hlt:=(Array.getElem?_eq_some_iff.1 ho).1
  have h2:=hall j hlt
  rw [MQ h1] at h2
  cases h2
 | succ fuel ih=>
  intro L k env a w hf inv
  refine ⟨?_,?_⟩
  ·intro hr
   refine ⟨rfl,fin L k env a w ?_ inv⟩
   intro i
   induction i using Nat.strongRecOn with
   | _ i ihi=>
    intro hi
    cases hL:L.getD i false with
    | true=>rfl
    | false=>
     exfalso
     obtain ⟨o,ho⟩:∃ o,ops[i]?=some o:=⟨ops[i],Array.getElem?_eq_getElem hi⟩
     have hmem:i∈Region.ready .any ops L:=mem_ready.2 ⟨Ua (by rw [inv.size];exact hi) hL,o,ho,fun e he hb=>ihi e.on (hok.low i o ho e he hb) (Nat.lt_trans (hok.low i o ho e he hb) hi)⟩
     rw [hr] at hmem;cases hmem
  ·intro i hi
   obtain ⟨hun,o,ho,hdep⟩:=mem_ready.1 hi
   have hlt:=(Array.getElem?_eq_some_iff.1 ho).1
   have hL:L.getD i false=false:=MQ hun
   have hanc:=uq hok inv.size inv.closed i o ho hdep
   -- what the operation looks at
   have hagree:∀ r,r∈o.looksAt ops→S.get ⟨s0.n,env,[],0⟩ r=jo ops s0 vs i r:=by
    intro r hr
    rw [inv.get r]
    unfold uV jo
    cases hx:MF ops r with
    | none=>rfl
    | some j=>
     obtain ⟨oj,hj,hdj⟩:=oq hx
     have hjlt:=(Array.getElem?_eq_some_iff.1 hj).1
     rcases hok.look i o r j oj ho hj hdj hr with ⟨hb,hji⟩|⟨hb,hij,hb'⟩
     ·dsimp only
      rw [hanc j hjlt hb,if_pos hji];rfl
     ·have hLj:L.getD j false=false:=by
       cases hLj:L.getD j false with
       | false=>rfl
       | true=>
        have:=uq hok inv.size inv.closed j oj hj (inv.closed j oj hj hLj) i hlt hb'
        rw [hL] at this;cases this
      dsimp only
      rw [hLj,if_neg (by omega)];rfl
   -- one more is listed
   have next:∀ (k':Nat) (h':uj) (val:Value) (w':World),hs[k']?=some h'→k'≤es.length→(∀ (q j:Nat),es[q]?=some j→((L.setIfInBounds i true).getD j false=true↔q<k')) →
     Rep w0 T0 ((vs.getD i .dead,val)::H) ⟨s0.n,env,h'.1,h'.2⟩ a w' →
     wpAny P .any ops (fun e a' w'=>e=.normal∧∃ s',Q s'∧Rep w0 T0 H s' a' w') fuel (L.setIfInBounds i true) (a.put o.dst val) w':=by
    intro k' h' val w' hh' hk' hes' ⟨m',hm'⟩
    have hop:=Eb (by rw [inv.size];exact hlt) hL ops.size
    rw [if_pos hlt] at hop
    have hclosed:∀ (j:Nat) (oj:Oper),ops[j]?=some oj→(L.setIfInBounds i true).getD j false=true→∀ e,e∈oj.after→Region.binds .any e=true→(L.setIfInBounds i true).getD e.on false=true:=by
     intro j oj hj hLj e he hb
     by_cases hij:i=j
     ·subst hij
      rw [ho] at hj;cases hj
      exact getD_set_true (hdep e he hb)
     ·rw [getD_set_ne false hij] at hLj
      exact getD_set_true (inv.closed j oj hj hLj e he hb)
    have hset:∀ r,o.dst≠some r→uV ops s0 vs (L.setIfInBounds i true) r=uV ops s0 vs L r:=by
     intro r hr
     unfold uV
     cases hx:MF ops r with
     | none=>rfl
     | some j=>
      dsimp only
      have hne:i≠j:=by
       rintro rfl
       obtain ⟨oj,hj,hdj⟩:=oq hx
       rw [ho] at hj;cases hj
       exact hr hdj
      rw [getD_set_ne false hne]
    cases hd:o.dst with
    | none=>
     refine ih _ k' env _ w' (by omega) { size:=by simpa using inv.size,closed:=hclosed,kle:=hk',es:=hes',get:=fun r=>?_,rep:=⟨h',hh',m',hm'.mO⟩ }
     rw [hset r (by rw [hd];simp)];exact inv.get r
    | some d=>
     have hdn:d<s0.n:=hend.done.put i o d hlt ho hd
     have hput:=hm'.mO.VZ (hm'.held _ (.head _)) (d:=d) hdn
     refine ih _ k' ((d,vs.getD i .dead)::env) _ w' (by omega) { size:=by simpa using inv.size,closed:=hclosed,kle:=hk',es:=hes',get:=fun r=>?_,rep:=⟨h',hh',m',hput⟩ }
     by_cases e:d=r
     ·subst e
      have hx:=hok.MF ho hd
      have hL1:(L.setIfInBounds i true).getD i false=true:=by
       have:i<L.size:=by rw [inv.size];exact hlt
       simp [this]
      unfold uV
      rw [hx]
      dsimp only
      rw [hL1]
      simp [S.get,lk]
     ·rw [hset r (by rw [hd];simpa using e),←inv.get r]
      simp [S.get,lk,e]
   obtain ⟨h,hh,hrep⟩:=inv.rep
   unfold wpOp
   rw [ho]
   dsimp only
   have wrap:∀ {A B:Prop} {b:Bool} {C:Prop},(if b=true then A else B)→(if b=true then A∨C else B):=by
    intro A B b C h
    cases b with
    | true=>simpa using Or.inl h
    | false=>simpa using h
   apply wrap
   cases he:es.elem i with
   | false=>
    have hes':∀ (q j:Nat),es[q]?=some j→((L.setIfInBounds i true).getD j false=true↔q<k):=by
     intro q j hq
     have hne:i≠j:=by
      rintro rfl
      have:es.elem i=true:=by simpa using List.mem_of_getElem? hq
      rw [he] at this;cases this
     rw [getD_set_ne false hne]
     exact inv.es q j hq
    have hqs:QS P w0 T0 ops o s0.n (jo ops s0 vs i) h h (vs.getD i .dead):=by
     rcases hok.heaps i o ho he k inv.kle with h0|h0|⟨k',e,hk',hke,hb⟩|⟨k',e,hk',hke,hb⟩
     ·obtain ⟨h2,hh2,hq⟩:=hend.done.quiet i o hlt ho he
      rw [←h0,hh] at hh2;cases hh2
      exact hq
     ·exact hend.re i o ho he k h0 h hh
     ·have h1:=hanc e (hok.es1 k' e hke).1 hb
      have:=(inv.es k' e hke).1 h1
      omega
     ·have h1:=(inv.es k' e hke).2 hk'
      cases hoe:ops[e]? with
      | none=>
       have h2:=Array.getElem?_eq_none_iff.1 hoe
       have h3:=(hok.es1 k' e hke).1
       omega
      | some oe=>
       have:=uq hok inv.size inv.closed e oe hoe (inv.closed e oe hoe h1) i hlt hb
       rw [hL] at this;cases this
    exact hqs env hagree H a w _ _ hrep fun val w' hr'=>next k h val w' hh inv.kle hes' hr'
   | true=>
    obtain ⟨q,hq⟩:=List.mem_iff_getElem?.1 (show i∈es by simpa using he)
    obtain ⟨_,hown⟩:=hok.es1 q i hq
    have hge:¬q<k:=fun hlt'=>by
     have:=(inv.es q i hq).2 hlt'
     rw [hL] at this;cases this
    have hqk:q=k:=by
     cases q with
     | zero=>omega
     | succ q=>
      have hqlt:q<es.length:=by
       have:=(List.getElem?_eq_some_iff.1 hq).1;omega
      have h1:=hok.es2 q es[q] i (List.getElem?_eq_getElem hqlt) hq
      have h2:=hanc es[q] (hok.es1 q _ (List.getElem?_eq_getElem hqlt)).1 h1
      have h3:=(inv.es q _ (List.getElem?_eq_getElem hqlt)).1 h2
      omega
    subst hqk
    obtain ⟨h1,h2,hh1,hh2,hqs⟩:=hend.done.eff i o hlt ho he
    rw [hown,hh] at hh1;cases hh1
    rw [hown] at hh2
    have hqlt:q<es.length:=(List.getElem?_eq_some_iff.1 hq).1
    have hes':∀ (q' j:Nat),es[q']?=some j→((L.setIfInBounds i true).getD j false=true↔q'<q+1):=by
     intro q' j hq'
     by_cases e:i=j
     ·subst e
      have h3:=(hok.es1 q' i hq').2
      have:i<L.size:=by rw [inv.size];exact hlt
      have h4:(L.setIfInBounds i true).getD i false=true:=by simp [this]
      rw [h4]
      constructor
      ·intro _;omega
      ·intro _;rfl
     ·rw [getD_set_ne false e]
      have h3:=(hok.es1 q' j hq').2
      have hne:q'≠q:=by
       rintro rfl
       rw [hq] at hq';cases hq';exact e rfl
      rw [inv.es q' j hq']
      omega
    exact hqs env hagree H a w _ _ hrep fun val w' hr'=>next (q+1) h2 val w' hh2 hqlt hes' hr'
theorem aP.lex {id:Nat} {s:S} {Q:S→Prop} (es:List Nat) (tb:List (Nat × List Nat)) (hm:P.follows .mixedOrders=true) (hok:vZ ops es tb (Bd ops)=true)
  (h:iH P w0 T0 ops es tb ops.toList 0 [] [(s.rows,s.next)] s Q):@aP P w0 T0 b0 id ops s ⟨Q⟩:=by
 intro H a w _ hr
 refine wp_region_any hm ?_
 have hr':Rep w0 T0 H s a { w with drawn:=w.drawn+1 }:=by
  obtain ⟨m,hm⟩:=hr
  exact ⟨m,hm.drawn⟩
 have ok:=lW.of hok
 have hg0:∀ r,s.get r=jo ops s [] 0 r:=by
  intro r;unfold jo;split<;>simp
 obtain ⟨vs,hs,sf,hend⟩:=EG ok ops.toList 0 [] [(s.rows,s.next)] s [] Q rfl (Nat.zero_le _) rfl rfl rfl rfl hg0
  ⟨fun j o h=>absurd h (by omega),fun j o h=>absurd h (by omega),fun j o d h=>absurd h (by omega)⟩ (fun j o h=>absurd h (by omega)) h
 have hL:∀ j,(Array.replicate ops.size false).getD j false=false:=fun j=>oC _ j
 have hop:rC (Array.replicate ops.size false) ops.size=ops.size:=by
  unfold rC
  have:(List.range ops.size).countP (fun j=>!(Array.replicate ops.size false).getD j false)=(List.range ops.size).length:=by
   apply List.countP_eq_length.2
   intro j _
   rw [hL j];rfl
  rw [this,List.length_range]
 refine Nc ok hend ops.size (Array.replicate ops.size false) 0 s.env a _ hop ?_
 refine { size:=by simp,closed:=fun i o _ h=>(by rw [hL] at h;cases h),kle:=Nat.zero_le _,es:=fun q i _=>(by rw [hL];simp),get:=fun r=>?_,rep:=⟨_,hend.pre 0 _ rfl,hr'⟩ }
 unfold uV
 split
 ·rw [hL];rfl
 ·rfl
end
end Go.Fv
/-
 Calls whose results are only read by the caller: they stand as data, and the caller's state stays as it is.
-/
namespace Go.Fv
open Go.RowKit
def gX (rows:List (Nat × Item)) (x y:AV):Prop:=match x with
 | .tup l=>∃ l',aV rows l l'∧y=.tup l'
 | x=>dI rows x y
section
variable {P:Program} {w0:World} {T0:Bs}
theorem qE.ro {T:Nat→Prop} {B:Nat} {w:World} {out out':AV} {rows:List (Nat × Item)} {v:Value} (h:qE T B w out rows v) (ho:gX rows out out'):qE T B w out' [] v:=by
 obtain ⟨m,N,hr,hrows,hsep⟩:=h
 have hblk:∀ i it,lk rows i=some it→∀ b,blk (m i)=some b→B≤b:=fun i it hi b hb=>((hrows i it hi).2.blk b hb).1
 have hl:CJ w (⟨w,allow (bs T) B m rows,m,N⟩:Ctx) rows (allow (bs T) B (fun _=>undef) []):=
  {hw:=rfl,t:=fun b hb=>⟨hb.1,fun i it hi=>by simp [lk] at hi⟩,
   own:=fun i e r hi=>by
    obtain ⟨n,cells,hc,hn,hq,_⟩:=(hrows i _ hi).2
    exact ⟨fun b hb=>⟨.inl (hblk i _ hi b hb),fun i it hi=>by simp [lk] at hi⟩,n,cells,hc,hn,hq⟩,
   box:=fun i e cs hi=>by
    obtain ⟨g,vs,hv,hg,hl,hh⟩:=(hrows i _ hi).2
    exact ⟨g,vs,hv,⟨.inl hg,fun i it hi=>by simp [lk] at hi⟩,hl,hh⟩,
   map:=fun i ks vs hi=>by
    obtain ⟨g,es,clock,hv,hg,h1,h2,h3,h4,hh⟩:=(hrows i _ hi).2
    exact ⟨g,es,clock,hv,⟨.inl hg,fun i it hi=>by simp [lk] at hi⟩,h1,h2,h3,h4,hh⟩ }
 refine ⟨fun _=>undef,0,?_,fun i it hi=>by simp [lk] at hi,fun i j it jt b hi=>by simp [lk] at hi⟩
 unfold gX at ho
 split at ho
 ·obtain ⟨l',ha,rfl⟩:=ho
  cases hr with
  | tup _ vs hv=>exact .tup _ _ (oh hl _ ha hv)
 ·exact xu hl 6 _ ho hr
theorem qE.dX {T:Nat→Prop} {B:Nat} {w:World} {out:AV} {v:Value} (h:qE T B w out [] v):qE T B w out [] v:=h
theorem aj.ro [hG:qB P w0 T0] {f:Nat} {args args':List AV} {out:AV} (out':AV) {rows:List (Nat × Item)} {s:S} {K:AV→S→Prop} (h:dW P f args' out rows) (ha:aV s.rows args args') (ho:gX rows out out') (hn:bW out'=true)
  (hk:K out' s):@aj P w0 T0 f args s ⟨K⟩:=by
 have h':dW P f args' out' []:=⟨h.1,fun w T vals hgl hv=>(h.2 w T vals hgl hv).mono fun e w' ⟨v,he,hb,hq⟩=>⟨v,he,hb,hq.ro ho⟩⟩
 refine aj.fr h' ha 0 (iR 0 _ hn) trivial ?_
 rw [oJ _ _ hn]
 exact hk
theorem aU.ro {f:Nat} {args:List AV} {out out':AV} {rows:List (Nat × Item)} (h:aU P f args out rows) (ho:gX rows out out'):aU P f args out' []:=
 ⟨h.1,fun w T vals hgl hv=>(h.2 w T vals hgl hv).mono fun e w' ⟨v,he,hb,hq⟩=>⟨v,he,hb,hq.ro ho⟩⟩
theorem aj.Yt [hG:qB P w0 T0] {f:Nat} {args args':List AV} {out:AV} (out':AV) {rows:List (Nat × Item)} {s:S} {K:AV→S→Prop} (h:aU P f args' out rows) (ha:aV [] args args') (ho:gX rows out out') (hn:bW out'=true)
  (hk:K out' s):@aj P w0 T0 f args s ⟨K⟩:=by
 refine aj.sh s.rows (h.ro ho) [] ha (fun _ _ h=>h) (fun i it hi=>by simp [lk] at hi) 0 (iR 0 _ hn) trivial ?_
 rw [oJ _ _ hn]
 exact hk
theorem aj.shr [hG:qB P w0 T0] {f:Nat} {args args':List AV} {out:AV} {rows:List (Nat × Item)} {s:S} {K:AV→S→Prop} (h:aU P f args' out rows) (ha:aV [] args args') (N:Nat) (hN:Fv.below N out=true) (hNr:bn N rows)
  (hk:K (ren (fun j=>s.next+j) out) (s.after s.rows N rows)):@aj P w0 T0 f args s ⟨K⟩:=
 aj.sh s.rows h [] ha (fun _ _ h=>h) (fun i it hi=>by simp [lk] at hi) N hN hNr hk
end
end Go.Fv
/-
 A nil slice in a box, as an owned row without elements.
-/
namespace Go.Fv
open Go.RowKit
section
variable {P:Program} {w0:World} {T0:Bs} {b0:Nat}
theorem cO.Si {c:Ctx} {x:AV} (hx:Rv c x (.slice none 0 0)):∀ {cs:List AV} {vs:List Value} {j:Nat},cO c cs vs→cs[j]?=some .nilS→cO c (cs.set j x) vs
 | _,_,j,.nil,h=>by simp at h
 | _,_,0,.cons y v l vs hy h1 ht,h=>by
  simp at h;subst h
  cases hy
  exact .cons _ _ _ _ hx h1 ht
 | _,_,j+1,.cons y v l vs hy h1 ht,h=>by
  simp at h
  exact .cons _ _ _ _ hy h1 (ht.Si hx h)
theorem aS.Ri {s:S} (i:Nat) {t:TypeId} {cs:List AV} (j:Nat) (e:TypeId) {z:Value} (hz:bH P e z) (hi:lk s.rows i=some (.box t cs)) (hj:cs[j]?=some .nilS) :
  aS w0 T0 b0 s { s with rows:=put ((s.next,.row e (jO z 0))::s.rows) i (.box t (cs.set j (.own s.next))),next:=s.next+1 }:=by
 rintro H a w hH ⟨m,hm⟩
 have hlt:=(hm.rows i _ hi).1
 have h1:=zG hm hz
 have hi':lk (s.add (.row e (jO z 0))).rows i=some (.box t cs):=by
  simp only [S.add,lk]
  rw [if_neg (by omega)];exact hi
 have h0:=(h1.rows i _ hi').2
 have h2:=h1.upd h1.below hi' (fun _ _ _=>rfl) (.box t (cs.set j (.own s.next))) (fun c hle hw hmm hN=>?_)
 ·exact ⟨_,h2.mO⟩
 ·obtain ⟨g,vs,hv,hg,hl,hh⟩:=h0
  refine ⟨g,vs,hv,hg,?_,by rw [hw];exact hh⟩
  exact (hl.mono hle).Si ((h1.held _ (.head _)).mono hle) hj
theorem aS.pre {s:S} (r i:Nat) {e:TypeId} {rv:aF} (hr:lk s.env r=some (.own i)) (hi:lk s.rows i=some (.row e rv)):aS w0 T0 b0 s (s.set r (.pre i rv.len)):=by
 rintro H a w hH ⟨m,hm⟩
 refine ⟨m,hm.QN ?_⟩
 have hx:=hm.env r _ hr
 obtain ⟨k,cells,hrc,hk,how,hO⟩:=(hm.rows i _ hi).2
 generalize a.tmps.getD r undef=v at hx
 cases hx with
 | own _ hi2 h1=>
  rcases how.2 with ⟨hv2,hq⟩|⟨g,cap,cur,fz,hv2,_⟩
  ·have hv:(aA T0 w0.heap.size m s w).m i=.slice none 0 0:=hv2
   have h0:rv.len=0:=by omega
   rw [hv,h0]
   exact .pre i 0 0 0 none hi2 hv (Nat.le_refl _)
  ·have hv:(aA T0 w0.heap.size m s w).m i=.slice (some ⟨g,0,none⟩) k cap:=hv2
   rw [hv,hk]
   exact .pre i k k cap _ hi2 hv (Nat.le_refl _)
end
end Go.Fv
/-
 What a function value has captured, where nothing of it is the caller's own memory.
-/
namespace Go.Fv
open Go.RowKit
def jm:Nat→AV→Bool
 | 0,_=>false
 | n+1,x=>match x with
  | .agg cs=>cs.all (jm n)
  | .fn _ cs=>cs.all (jm n)
  | .ro _=>true
  | .bool _=>true
  | .int _ _=>true
  | .str _=>true
  | .raw _=>true
  | .cell _=>true
  | .nilS=>true
  | .mp _ _=>true
  | _=>false
theorem lS:∀ {l:List AV},(∀ x,x∈l→bW x=true)→bT l=true
 | [],_=>rfl
 | x::l,h=>by simp only [bT,Bool.and_eq_true];exact ⟨h x (.head _),lS fun y hy=>h y (.tail _ hy)⟩
theorem uI:∀ (n:Nat) (x:AV),jm n x=true→bW x=true
 | 0,x,h=>by simp [jm] at h
 | n+1,x,h=>by
  cases x<;>simp only [jm] at h<;>first|rfl|(cases h;done)|skip
  ·simp only [bW];exact lS fun y hy=>uI n y (List.all_eq_true.1 h y hy)
  ·simp only [bW];exact lS fun y hy=>uI n y (List.all_eq_true.1 h y hy)
theorem jE {R:AV→AV→Prop}:∀ {l:List AV},(∀ x,x∈l→R x x)→bf R l l
 | [],_=>rfl
 | x::l,h=>⟨x,l,h x (.head _),jE fun y hy=>h y (.tail _ hy),rfl⟩
theorem qW (rows:List (Nat × Item)):∀ (n:Nat) (x:AV),jm n x=true→aH rows n x x
 | 0,x,h=>by simp [jm] at h
 | n+1,x,h=>by
  cases x<;>simp only [jm] at h<;>first|(cases h;done)|skip
  all_goals first|(simp only [aH];done)|(simp only [aH];exact .inl trivial)|(simp only [aH];exact ⟨_,jE fun y hy=>qW rows n y (List.all_eq_true.1 h y hy),rfl⟩)|skip
class qC (caps:List AV):Prop where
 ok:caps.all (jm 5)=true
section
variable {caps:List AV} [h:qC caps]
theorem xw:bT caps=true:=lS fun x hx=>uI 5 x (List.all_eq_true.1 h.ok x hx)
theorem jZ:∀ (n:Nat) (x:AV),jm n x=true→jm (n+1) x=true
 | 0,x,h=>by simp [jm] at h
 | n+1,x,h=>by
  cases x<;>simp only [jm] at h ⊢<;>first|(cases h;done)|rfl|skip
  ·exact List.all_eq_true.2 fun y hy=>jZ n y (List.all_eq_true.1 h y hy)
  ·exact List.all_eq_true.2 fun y hy=>jZ n y (List.all_eq_true.1 h y hy)
theorem O4 (p:Nat→Nat):bZ p caps=caps:=iV p caps xw
theorem Hu (n:Nat):aQ n caps=true:=dY n caps xw
theorem iO (rows:List (Nat × Item)):bf (aH rows 6) caps caps:=jE fun x hx=>qW rows 6 x (jZ 5 x (List.all_eq_true.1 h.ok x hx))
end
mutual
theorem wz:∀ (x y:AV),bW x=true→mkV x y=[]
 | .own _,_,h=>by simp [bW] at h
 | .ptr _ _,_,h=>by simp [bW] at h
 | .elt _ _ _ _,_,h=>by simp [bW] at h
 | .pre _ _,_,h=>by simp [bW] at h
 | .suf _ _ _ _,_,h=>by simp [bW] at h
 | .agg l,y,h=>by simp only [mkV];split<;>first|exact mG l _ (by simpa [bW] using h)|rfl
 | .tup l,y,h=>by simp only [mkV];split<;>first|exact mG l _ (by simpa [bW] using h)|rfl
 | .fn _ l,y,h=>by simp only [mkV];split<;>first|exact mG l _ (by simpa [bW] using h)|rfl
 | .dead,_,_=>rfl
 | .nilS,_,_=>rfl
 | .bool _,_,_=>rfl
 | .int _ _,_,_=>rfl
 | .str _,_,_=>rfl
 | .ro _,_,_=>rfl
 | .cell _,_,_=>rfl
 | .raw _,_,_=>rfl
 | .mp _ _,_,_=>rfl
 | .opt _ x,y,h=>by simp only [mkV];split<;>first|exact wz x _ (by simpa [bW] using h)|rfl
 | .ifc _ x,y,h=>by simp only [mkV];split<;>first|exact wz x _ (by simpa [bW] using h)|rfl
 | .bm _ x,y,h=>by simp only [mkV];split<;>first|exact wz x _ (by simpa [bW] using h)|rfl
theorem mG:∀ (x y:List AV),bT x=true→IL x y=[]
 | [],_,_=>rfl
 | x::l,y,h=>by
  simp only [bT,Bool.and_eq_true] at h
  simp only [IL];split
  ·rw [wz x _ h.1,mG l _ h.2];rfl
  ·rfl
end
theorem D7:∀ (x y:List (List AV)),x.all bT=true→Un x y=[]
 | [],_,_=>rfl
 | x::l,y,h=>by
  simp only [List.all_cons,Bool.and_eq_true] at h
  simp only [Un];split
  ·rw [mG x _ h.1,D7 l _ h.2];rfl
  ·rfl
theorem Rh (r r':aF) [h:jP r]:Yq r r'=[]:=by
 have:=h.ok
 cases r<;>cases r'<;>first|rfl|exact D7 _ _ this
theorem Q9 {caps:List AV} [h:qC caps] (y:List AV):IL caps y=[]:=mG caps y xw
end Go.Fv
/-
 The walk of drawn regions, in the set.
-/
namespace Go.Fv
attribute [go_sem] sQ PX rQ Nl oU oW oV Oo jL sS GU zL List.getLast?_concat mapOf U8 DF XC Bool.false_eq_true true_implies Vt iH QA P7 Og VG Uw Uu Rw IK yM ou mX I7 V3 gY Va fB jD gd Rx Ei redo nO oH fD vJ AA Option.toList_some Option.toList_none O4 Hu
end Go.Fv
/-
 Maps whose keys and values are told by lists of plain data.
-/
namespace Go.Fv
def kM {α:Type} [DecidableEq α]:List α→α→Option Nat
 | [],_=>none
 | x::l,k=>if x=k then some 0 else (kM l k).map (·+1)
theorem l9 {α:Type} [DecidableEq α] {f:α→AV} (hf:∀ a b,qg (f a) (f b)=decide (a=b)) (x:α):∀ l:List α,dL (l.map f) (f x)=kM l x
 | []=>rfl
 | y::l=>by simp only [List.map_cons,dL,kM,hf,l9 hf x l,decide_eq_true_eq]
theorem lM {α:Type} [DecidableEq α]:∀ {l:List α} {x:α} {j:Nat},kM l x=some j→l[j]?=some x
 | y::l,x,j,h=>by
  simp only [kM] at h
  split at h
  ·rename_i e;cases h;simp [e]
  ·simp only [Option.map_eq_some_iff] at h
   obtain ⟨i,hi,rfl⟩:=h
   simpa using lM hi
theorem O5 {α:Type} (p:Nat→Nat) {f:α→AV} (hf:∀ a,bW (f a)=true) (l:List α):bZ p (l.map f)=l.map f:=by
 refine iV p _ ?_
 induction l with
 | nil=>rfl
 | cons x l ih=>simp [bT,hf,ih]
theorem Hw {α:Type} (n:Nat) {f:α→AV} (hf:∀ a,bW (f a)=true) (l:List α):aQ n (l.map f)=true:=by
 refine dY n _ ?_
 induction l with
 | nil=>rfl
 | cons x l ih=>simp [bT,hf,ih]
end Go.Fv
/-
 Small facts about lists.
-/
namespace Go.Fv
theorem getD_lt {α:Type} {l:List α} {i:Nat} {d:α} (h:i<l.length):l.getD i d=l[i]:=by simp [List.getD,h]
theorem yU {α:Type} [DecidableEq α] {a b:List α} (d:α) (h:a.length=b.length):∀ {i:Nat},i≤a.length→((∀ j,j<i→a.getD j d=b.getD j d)↔a.take i=b.take i)
 | 0,_=>by simp
 | i+1,hi=>by
  have ih:=yU d h (i:=i) (by omega)
  rw [List.take_succ_eq_append_getElem (by omega),List.take_succ_eq_append_getElem (by omega)]
  constructor
  ·intro hh
   have h1:=ih.1 fun j hj=>hh j (by omega)
   have h2:=hh i (by omega)
   rw [getD_lt (by omega),getD_lt (by omega)] at h2
   rw [h1,h2]
  ·intro hh j hj
   have:=List.append_inj hh (by simp;omega)
   by_cases e:j=i
   ·subst e
    rw [getD_lt (by omega),getD_lt (by omega)]
    simpa using this.2
   ·exact ih.2 this.1 j (by omega)
theorem Kq {α:Type} [DecidableEq α] {a b:List α} (d:α) (h:a.length=b.length) (hh:∀ j,j<a.length→a.getD j d=b.getD j d):a=b:=by
 have:=(yU d h (Nat.le_refl _)).1 hh
 rwa [List.take_length,h,List.take_length] at this
theorem Bo (p:Nat→Nat):∀ l:List Bool,bZ p (l.map .bool)=l.map .bool
 | []=>rfl
 | b::l=>by simp only [List.map_cons,bZ,ren];rw [Bo p l]
theorem pq (n:Nat):∀ l:List Bool,aQ n (l.map .bool)=true
 | []=>rfl
 | b::l=>by simp only [List.map_cons,aQ,below,Bool.true_and];exact pq n l
theorem D8:∀ (l:List Bool) (y:List AV),IL (l.map .bool) y=[]
 | [],_=>by simp [IL]
 | b::l,y=>by
  simp only [List.map_cons,IL]
  split
  ·simp only [mkV,List.nil_append];exact D8 l _
  ·rfl
theorem qG (rows:List (Nat × Item)) (n:Nat):∀ l:List Bool,bf (aH rows (n+1)) (l.map .bool) (l.map .bool)
 | []=>rfl
 | b::l=>⟨.bool b,l.map .bool,by simp [aH],qG rows n l,rfl⟩
theorem Pj (l:List Bool) (i:Nat) (b:Bool):(l.map AV.bool).set i (.bool b)=(l.set i b).map .bool:=by rw [List.map_set]
theorem yR:∀ l:List Bool,fK (l.map .bool)=true
 | []=>rfl
 | b::l=>by simp only [List.map_cons,fK,iL,Bool.true_and];exact yR l
theorem Sm:∀ (cs bs:List AV) (off:Nat),off+cs.length≤bs.length→spl bs off cs=bs.take off++cs++bs.drop (off+cs.length)
 | [],bs,off,_=>by simp [spl]
 | c::cs,bs,off,h=>by
  simp only [List.length_cons] at h
  rw [spl,Sm cs _ _ (by simp;omega),List.take_set,List.drop_set,if_pos (by omega)]
  rw [List.take_succ_eq_append_getElem (by omega),List.set_append_right _ _ (by simp;omega)]
  have e:off - (List.take off bs).length=0:=by simp;omega
  rw [e]
  simp only [List.set_cons_zero,List.length_cons,List.append_assoc,List.cons_append,List.nil_append]
  have e2:off+1+cs.length=off+(cs.length+1):=by omega
  rw [e2]
theorem NI {bs cs:List AV} (h:cs.length=bs.length):spl bs 0 cs=cs:=by
 rw [Sm _ _ _ (by omega)];simp [h]
attribute [simp] aG bg ak Rh
attribute [go_sem] yZ aG bg ak Bo pq List.length_map Nat.mul_one Pj
theorem up_add (a b:Nat):(a:Int)+(b:Int)=((a+b:Nat):Int):=rfl
theorem up_mul (a b:Nat):(a:Int)*(b:Int)=((a*b:Nat):Int):=(Int.natCast_mul a b).symm
theorem up_tmod (a b:Nat):(a:Int).tmod (b:Int)=((a%b:Nat):Int):=(Int.ofNat_tmod a b).symm
end Go.Fv
/-! Regions whose order is drawn, where operations that change the state may change places: a tree of these; the others are walked once, and shown again where the heap changes. -/
namespace Go.Fv
open Go.RowKit
def o8 (ks:List Nat):List (Nat × Acc)→List (Nat × Acc)
 | []=>[]
 | x::l=>bif vJ ks x.1 then x::o8 ks l else o8 ks l
def Ny (P:Program) (w0:World) (T0:Bs) (n:Nat) (o:Oper) (g:Option Bool) (env:List (Nat × AV)) (v:AV) (R:List (Nat × Item)) (N:Nat):Prop:=match g with
 | .none=>Rx P w0 T0 o ⟨n,env,R,N⟩ v
 | .some c=>Fv.below N v=true∧(c=true→Rx P w0 T0 o ⟨n,env,R,N⟩ v)
def I9 (P:Program) (w0:World) (T0:Bs) (n:Nat) (R:List (Nat × Item)) (N:Nat):List (Nat × Acc)→Prop
 | []=>True
 |(_,⟨o,g,env,v,_⟩)::l=>Ny P w0 T0 n o g env v R N∧I9 P w0 T0 n R N l
section
variable {P:Program} {w0:World} {T0:Bs} {b0:Nat} {ops:Array Oper} {T:List Nat} {H:List (AV × Value)} [hG:qB P w0 T0]
def Cl (ops:Array Oper) (V:Array Bool):Prop:=∀ (i:Nat) (o:Oper),ops[i]?=some o→V.getD i false=true→∀ e,e∈o.after→Region.binds .any e=true→V.getD e.on false=true
def Dp (V:Array Bool) (o:Oper):Prop:=∀ e,e∈o.after→Region.binds .any e=true→V.getD e.on false=true
theorem zI {s0:S} {vs:List AV} {V:Array Bool} {i:Nat} {v:AV} (h:V.getD i false=false) (r:Nat):uV ops s0 (vs.set i v) V r=uV ops s0 vs V r:=by
 unfold uV
 split
 ·rename_i j _
  by_cases e:i=j
  ·subst e;rw [h];rfl
  ·simp [List.getD_eq_getElem?_getD,List.getElem?_set,e]
 ·rfl
structure Ob (P:Program) (w0:World) (T0:Bs) (ops:Array Oper) (s0:S) (vs:List AV) (V:Array Bool) (Pd:List Nat) (acc:List (Nat × Acc)) (s:S):Prop where
 vsize:V.size=ops.size
 vlen:vs.length=ops.size
 cl:Cl ops V
 n:s.n=s0.n
 sget:∀ r,s.get r=uV ops s0 vs V r
 pd:∀ j,j∈Pd→V.getD j false=true∧∀ o,ops[j]?=some o→∃ U:Array Bool,U.size=ops.size∧Cl ops U∧(∀ i,U.getD i false=true→V.getD i false=true)∧Dp U o∧U.getD j false=false ∧
  QS P w0 T0 ops o s0.n (uV ops s0 vs U) (s.rows,s.next) (s.rows,s.next) (vs.getD j .dead) ∧
  ((∀ h,QS P w0 T0 ops o s0.n (uV ops s0 vs U) h h (vs.getD j .dead))∨∃ x,(j,x)∈acc∧∀ h,rE P w0 T0 s0.n x h→QS P w0 T0 ops o s0.n (uV ops s0 vs U) h h (vs.getD j .dead))
 put:∀ j o d,V.getD j false=true→ops[j]?=some o→o.dst=some d→d<s0.n
structure RInv (w0:World) (T0:Bs) (H:List (AV × Value)) (ops:Array Oper) (s0:S) (vs:List AV) (V:Array Bool) (Pd:List Nat) (s:S) (L:Array Bool) (env:List (Nat × AV)) (a:Act) (w:World):Prop where
 size:L.size=ops.size
 cl:Cl ops L
 sub:∀ i,L.getD i false=true→V.getD i false=true
 get:∀ r,S.get ⟨s0.n,env,[],0⟩ r=uV ops s0 vs L r
 rep:Rep w0 T0 H ⟨s0.n,env,s.rows,s.next⟩ a w
 pd:∀ i,V.getD i false=true→L.getD i false=false→i∈Pd
theorem Cl.set {V:Array Bool} {i:Nat} {o:Oper} (h:Cl ops V) (ho:ops[i]?=some o) (hd:Dp V o):Cl ops (V.setIfInBounds i true):=by
 intro j oj hj hLj e he hb
 by_cases hij:i=j
 ·subst hij
  rw [ho] at hj;cases hj
  exact getD_set_true (hd e he hb)
 ·rw [getD_set_ne false hij] at hLj
  exact getD_set_true (h j oj hj hLj e he hb)
theorem NK (hok:lW ops [] [] T) {s0:S} {vs:List AV} {V:Array Bool} {i:Nat} {o:Oper} {g:Nat→AV} (ho:ops[i]?=some o) (hs:V.size=ops.size) (hg:∀ r,g r=uV ops s0 vs V r) :
  ∀ r,(match o.dst with|some d=>if d=r then vs.getD i .dead else g r|none=>g r)=uV ops s0 vs (V.setIfInBounds i true) r:=by
 intro r
 have hilt:=(Array.getElem?_eq_some_iff.1 ho).1
 have hV:(V.setIfInBounds i true).getD i false=true:=by
  have:i<V.size:=by rw [hs];exact hilt
  simp [this]
 have old:o.dst≠some r→g r=uV ops s0 vs (V.setIfInBounds i true) r:=by
  intro hne
  rw [hg r]
  unfold uV
  cases hx:MF ops r with
  | none=>rfl
  | some j=>
   dsimp only
   have hij:i≠j:=by
    rintro rfl
    obtain ⟨oj,hj,hdj⟩:=oq hx
    rw [ho] at hj;cases hj
    exact hne hdj
   rw [getD_set_ne false hij]
 cases hd:o.dst with
 | none=>exact old (by rw [hd];simp)
 | some d=>
  dsimp only
  by_cases e:d=r
  ·subst e
   rw [if_pos rfl]
   unfold uV
   rw [hok.MF ho hd]
   dsimp only
   rw [hV];rfl
  ·rw [if_neg e]
   exact old (by rw [hd];simpa using e)
theorem Il {n d r:Nat} {v:AV} {env:List (Nat × AV)} {R:List (Nat × Item)} {N:Nat}:S.get ⟨n,(d,v)::env,R,N⟩ r=if d=r then v else S.get ⟨n,env,R,N⟩ r:=by
 by_cases e:d=r
 ·subst e;simp [S.get,lk]
 ·simp [S.get,lk,e]
theorem RInv.more (hok:lW ops [] [] T) {s0:S} {vs:List AV} {L:Array Bool} {env:List (Nat × AV)} {a:Act} {w':World} {i:Nat} {o:Oper} {R:List (Nat × Item)} {N:Nat} {val:Value}
  (ho:ops[i]?=some o) (hs:L.size=ops.size) (hg:∀ r,S.get ⟨s0.n,env,[],0⟩ r=uV ops s0 vs L r) (hput:∀ d,o.dst=some d→d<s0.n)
  (hr:Rep w0 T0 ((vs.getD i .dead,val)::H) ⟨s0.n,env,R,N⟩ a w') :
  ∃ env',(∀ r,S.get ⟨s0.n,env',[],0⟩ r=uV ops s0 vs (L.setIfInBounds i true) r)∧Rep w0 T0 H ⟨s0.n,env',R,N⟩ (a.put o.dst val) w':=by
 obtain ⟨m',hm'⟩:=hr
 have hst:=NK hok (s0:=s0) (vs:=vs) ho hs hg
 cases hd:o.dst with
 | none=>
  rw [hd] at hst
  exact ⟨env,hst,m',hm'.mO⟩
 | some d=>
  rw [hd] at hst
  have h2:=hm'.mO.VZ (hm'.held _ (.head _)) (d:=d) (hput d hd)
  exact ⟨(d,vs.getD i .dead)::env,fun r=>by rw [Il];exact hst r,m',h2⟩
end
theorem nG {ks:List Nat} {x:Nat × Acc} (hk:vJ ks x.1=true):∀ {l:List (Nat × Acc)},x∈l→x∈o8 ks l
 | y::l,h=>by
  unfold o8
  rcases List.mem_cons.1 h with rfl|h
  ·rw [hk];exact .head _
  ·cases vJ ks y.1 with
   | true=>exact .tail _ (nG hk h)
   | false=>exact nG hk h
theorem DT {l:List Nat} {i:Nat}:vJ l i=true↔i∈l:=by
 rw [Aj];simp
section
variable {P:Program} {w0:World} {T0:Bs} {b0:Nat} {ops:Array Oper} {T:List Nat} {H:List (AV × Value)} [hG:qB P w0 T0]
theorem OZ {n:Nat} {R:List (Nat × Item)} {N:Nat} {x:Nat × Acc} {l:List (Nat × Acc)} (h:I9 P w0 T0 n R N l) (hx:x∈l):rE P w0 T0 n x.2 (R,N):=by
 induction l with
 | nil=>cases hx
 | cons y l ih=>
  obtain ⟨j,o,g,env,v,ks⟩:=y
  have h1:Ny P w0 T0 n o g env v R N:=h.1
  have h2:I9 P w0 T0 n R N l:=h.2
  rcases List.mem_cons.1 hx with rfl|hx
  ·unfold Ny at h1;unfold rE
   cases g with
   | none=>exact h1
   | some c=>exact h1
  ·exact ih h2 hx
theorem tY {vs:List AV} {i:Nat} {v:AV} (h:i<vs.length):(vs.set i v).getD i .dead=v:=by
 simp [List.getD_eq_getElem?_getD,h]
theorem yT {vs:List AV} {i j:Nat} {v:AV} (h:i≠j):(vs.set i v).getD j .dead=vs.getD j .dead:=by
 simp [List.getD_eq_getElem?_getD,List.getElem?_set,h]
theorem I5 (hok:lW ops [] [] T) {s0 s:S} {vs:List AV} {V:Array Bool} {i:Nat} {o:Oper} {v:AV} {R:List (Nat × Item)} {N:Nat} (ho:ops[i]?=some o) (hs:V.size=ops.size) (hl:vs.length=ops.size) (hV:V.getD i false=false) (hg:∀ r,s.get r=uV ops s0 vs V r) :
  ∀ r,(mX o.dst v ⟨s.n,s.env,R,N⟩).get r=uV ops s0 (vs.set i v) (V.setIfInBounds i true) r:=by
 intro r
 have hilt:=(Array.getElem?_eq_some_iff.1 ho).1
 have h:=NK hok (s0:=s0) (vs:=vs.set i v) (g:=s.get) ho hs (fun r=>(hg r).trans (zI hV r).symm) r
 rw [tY (by omega)] at h
 rw [←h]
 unfold mX
 cases o.dst with
 | none=>rfl
 | some d=>exact Il
theorem Ob.quiet (hok:lW ops [] [] T) {s0 s:S} {vs:List AV} {V:Array Bool} {Pd:List Nat} {acc acc':List (Nat × Acc)} {i:Nat} {o:Oper} {v:AV} (hv:Ob P w0 T0 ops s0 vs V Pd acc s) (ho:ops[i]?=some o) (hd:Dp V o) (hV:V.getD i false=false)
  (hq:QS P w0 T0 ops o s.n s.get (s.rows,s.next) (s.rows,s.next) v) (hr:(∀ h,QS P w0 T0 ops o s.n s.get h h v)∨∃ x,(i,x)∈acc'∧∀ h,rE P w0 T0 s.n x h→QS P w0 T0 ops o s.n s.get h h v)
  (hsub:∀ x,x∈acc→x∈acc') (hdst:ou o.dst s.n):Ob P w0 T0 ops s0 (vs.set i v) (V.setIfInBounds i true) (i::Pd) acc' (mX o.dst v s):=by
 have hilt:=(Array.getElem?_eq_some_iff.1 ho).1
 have hVs:(V.setIfInBounds i true).getD i false=true:=by
  have:i<V.size:=by rw [hv.vsize];exact hilt
  simp [this]
 have hup:∀ j,V.getD j false=true→(V.setIfInBounds i true).getD j false=true:=fun j hj=>getD_set_true hj
 have hrows:(mX o.dst v s).rows=s.rows∧(mX o.dst v s).next=s.next∧(mX o.dst v s).n=s.n:=by
  unfold mX;cases o.dst<;>exact ⟨rfl,rfl,rfl⟩
 have conv:∀ {h h':uj},QS P w0 T0 ops o s.n s.get h h' v→QS P w0 T0 ops o s0.n (uV ops s0 (vs.set i v) V) h h' ((vs.set i v).getD i .dead):=by
  intro h h' hh
  rw [tY (by rw [hv.vlen];exact hilt),←hv.n]
  exact hh.congr fun r _=>by rw [zI hV];exact (hv.sget r).symm
 refine ⟨by simpa using hv.vsize,by simpa using hv.vlen,hv.cl.set ho hd,by rw [hrows.2.2];exact hv.n,?_,?_,?_⟩
 ·exact I5 hok (R:=s.rows) (N:=s.next) ho hv.vsize hv.vlen hV hv.sget
 ·intro j hj
  rcases List.mem_cons.1 hj with rfl|hj
  ·refine ⟨hVs,fun o' ho'=>?_⟩
   rw [ho] at ho';cases ho'
   refine ⟨V,hv.vsize,hv.cl,hup,hd,hV,?_,?_⟩
   ·rw [hrows.1,hrows.2.1];exact conv hq
   ·rcases hr with h|⟨x,hx,h⟩
    ·exact .inl fun h'=>conv (h h')
    ·exact .inr ⟨x,hx,fun h' hc=>conv (h h' (by rw [hv.n];exact hc))⟩
  ·obtain ⟨h1,h2⟩:=hv.pd j hj
   have hne:i≠j:=by rintro rfl;rw [hV] at h1;cases h1
   refine ⟨hup j h1,fun o' ho'=>?_⟩
   obtain ⟨U,u1,u2,u3,u4,u5,u6,u7⟩:=h2 o' ho'
   have hUi:U.getD i false=false:=by
    cases hu:U.getD i false with
    | false=>rfl
    | true=>have:=u3 i hu;rw [hV] at this;cases this
   have cv:∀ {h h':uj},QS P w0 T0 ops o' s0.n (uV ops s0 vs U) h h' (vs.getD j .dead)→QS P w0 T0 ops o' s0.n (uV ops s0 (vs.set i v) U) h h' ((vs.set i v).getD j .dead):=by
    intro h h' hh
    rw [yT hne]
    exact hh.congr fun r _=>zI hUi r
   refine ⟨U,u1,u2,fun k hk=>hup k (u3 k hk),u4,u5,?_,?_⟩
   ·rw [hrows.1,hrows.2.1];exact cv u6
   ·rcases u7 with h|⟨x,hx,h⟩
    ·exact .inl fun h'=>cv (h h')
    ·exact .inr ⟨x,hsub _ hx,fun h' hc=>cv (h h' hc)⟩
 ·intro j oj d hj hoj hdj
  by_cases e:i=j
  ·subst e
   rw [ho] at hoj;cases hoj
   rw [hdj] at hdst
   rw [←hv.n];exact hdst
  ·rw [getD_set_ne false e] at hj
   exact hv.put j oj d hj hoj hdj
theorem Ob.eff (hok:lW ops [] [] T) {s0 s:S} {vs:List AV} {V:Array Bool} {Pd ks:List Nat} {acc:List (Nat × Acc)} {i:Nat} {o:Oper} {v:AV} {R:List (Nat × Item)} {N:Nat} (hv:Ob P w0 T0 ops s0 vs V Pd acc s) (ho:ops[i]?=some o) (hd:Dp V o) (hV:V.getD i false=false)
  (hks:∀ j,j∈ks→j∈Pd) (hre:I9 P w0 T0 s.n R N (o8 ks acc)) (hdst:ou o.dst s.n):Ob P w0 T0 ops s0 (vs.set i v) (V.setIfInBounds i true) ks (o8 ks acc) (mX o.dst v ⟨s.n,s.env,R,N⟩):=by
 have hilt:=(Array.getElem?_eq_some_iff.1 ho).1
 have hup:∀ j,V.getD j false=true→(V.setIfInBounds i true).getD j false=true:=fun j hj=>getD_set_true hj
 have hrows:(mX o.dst v ⟨s.n,s.env,R,N⟩).rows=R∧(mX o.dst v ⟨s.n,s.env,R,N⟩).next=N∧(mX o.dst v ⟨s.n,s.env,R,N⟩).n=s.n:=by
  unfold mX;cases o.dst<;>exact ⟨rfl,rfl,rfl⟩
 refine ⟨by simpa using hv.vsize,by simpa using hv.vlen,hv.cl.set ho hd,by rw [hrows.2.2];exact hv.n,?_,?_,?_⟩
 ·exact I5 hok ho hv.vsize hv.vlen hV hv.sget
 ·intro j hj
  obtain ⟨h1,h2⟩:=hv.pd j (hks j hj)
  have hne:i≠j:=by rintro rfl;rw [hV] at h1;cases h1
  refine ⟨hup j h1,fun o' ho'=>?_⟩
  obtain ⟨U,u1,u2,u3,u4,u5,u6,u7⟩:=h2 o' ho'
  have hUi:U.getD i false=false:=by
   cases hu:U.getD i false with
   | false=>rfl
   | true=>have:=u3 i hu;rw [hV] at this;cases this
  have cv:∀ {h h':uj},QS P w0 T0 ops o' s0.n (uV ops s0 vs U) h h' (vs.getD j .dead)→QS P w0 T0 ops o' s0.n (uV ops s0 (vs.set i v) U) h h' ((vs.set i v).getD j .dead):=by
   intro h h' hh
   rw [yT hne]
   exact hh.congr fun r _=>zI hUi r
  refine ⟨U,u1,u2,fun k hk=>hup k (u3 k hk),u4,u5,?_,?_⟩
  ·rw [hrows.1,hrows.2.1]
   rcases u7 with h|⟨x,hx,h⟩
   ·exact cv (h _)
   ·have:=OZ hre (nG (x:=(j,x)) (DT.2 hj) hx)
    rw [hv.n] at this
    exact cv (h _ this)
  ·rcases u7 with h|⟨x,hx,h⟩
   ·exact .inl fun h'=>cv (h h')
   ·exact .inr ⟨x,nG (x:=(j,x)) (DT.2 hj) hx,fun h' hc=>cv (h h' hc)⟩
 ·intro j oj d hj hoj hdj
  by_cases e:i=j
  ·subst e
   rw [ho] at hoj;cases hoj
   rw [hdj] at hdst
   rw [←hv.n];exact hdst
  ·rw [getD_set_ne false e] at hj
   exact hv.put j oj d hj hoj hdj
end
end Go.Fv
/-
 Families of rows: as many owned rows as a list tells, with names one behind the other.
-/
namespace Go.Fv
def jG:Nat→List Item→List (Nat × Item)
 | _,[]=>[]
 | b,it::L=>(b,it)::jG (b+1) L
theorem FB:∀ (L:List Item) (b j:Nat),lk (jG b L) j=if b≤j then L[j - b]? else none
 | [],b,j=>by simp [jG,lk]
 | it::L,b,j=>by
  simp only [jG,lk,FB L (b+1) j]
  by_cases h:b=j
  ·subst h;simp
  ·rw [if_neg h]
   by_cases h2:b≤j
   ·rw [if_pos h2,if_pos (by omega)]
    have:j - b=(j - (b+1))+1:=by omega
    rw [this,List.getElem?_cons_succ]
   ·rw [if_neg h2,if_neg (by omega)]
theorem AY {L:List Item} {b j:Nat} {it:Item} (h:L[j]?=some it):lk (jG b L) (j+b)=some it:=by
 rw [FB,if_pos (by omega),Nat.add_sub_cancel];exact h
def gI (b n:Nat):List AV:=(List.range n).map fun i=>.own (i+b)
theorem Qq {b n i:Nat} (h:i<n):(gI b n)[i]?=some (.own (i+b)):=by simp [gI,h]
theorem Oq (b n:Nat):gI b (n+1)=gI b n++[.own (n+b)]:=by simp [gI,List.range_succ]
section
variable {w0:World} {T0:Bs} {b0:Nat}
theorem aS.Yr (p:Nat→Nat) {s s':S} (hn:s'.n=s.n) (hb:b0≤s'.next) (hlow:∀ i,i<b0→p i=i) (he:qL p s s'.next s'.env)
  (hr:∀ i it,lk s'.rows i=some it→i<s'.next∧lk s.rows (p i)=some (it.ren p)∧it.below s'.next=true)
  (hinj:∀ i j it jt,lk s'.rows i=some it→lk s'.rows j=some jt→p i=p j→i=j):aS w0 T0 b0 s s':=by
 rintro H a w hH ⟨m,hm⟩
 have hren:kK p (aA T0 w0.heap.size m s w) (aA T0 w0.heap.size (fun i=>m (p i)) s' w):=
  {m:=fun _ _=>rfl,
   t:=by
    intro b ⟨h1,h2⟩ _
    refine ⟨⟨h1,fun i it hi e=>?_⟩,rfl⟩
    obtain ⟨_,h3,_⟩:=hr i it hi
    exact h2 _ _ h3 e }
 refine ⟨fun i=>m (p i),{ size:=by rw [hn];exact hm.size,nodef:=hm.nodef,below:=hm.below,env:=?_,held:=?_,rows:=?_,sep:=?_ }⟩
 ·intro r v hv
  obtain ⟨h1,h2⟩:=xB he r v (dM hv)
  refine Rv.ren hren v h2 ?_
  have:Rv (aA T0 w0.heap.size m s w) (s.get r) (a.tmps.getD r undef):=by
   simp only [S.get]
   cases hq:lk s.env r with
   | none=>exact .dead _
   | some y=>exact hm.env r y hq
  rw [←h1];exact this
 ·intro q hq
  have h1:=hH q hq
  refine Rv.ren hren q.1 (below_le hb _ h1) ?_
  rw [gQ hlow _ h1];exact hm.held q hq
 ·intro i it hi
  obtain ⟨h1,h2,h3⟩:=hr i it hi
  exact ⟨h1,bD.ren hren rfl h3 (hm.rows _ _ h2).2⟩
 ·intro i j it jt b hi hj hbi hbj
  obtain ⟨_,h2,_⟩:=hr i it hi
  obtain ⟨_,h2',_⟩:=hr j jt hj
  exact hinj i j it jt hi hj (hm.sep _ _ _ _ b h2 h2' hbi hbj)
def Gi (p:Nat→Nat) (rows:List (Nat × Item)) (N:Nat):List (Nat × Item)→Prop
 | []=>True
 |(i,it)::l=>(lk rows (p i)=some (it.ren p)∧it.below N=true)∧Gi p rows N l
theorem NM {p:Nat→Nat} {rows:List (Nat × Item)} {N:Nat}:∀ {l:List (Nat × Item)},Gi p rows N l→∀ i it,lk l i=some it→lk rows (p i)=some (it.ren p)∧it.below N=true
 |(j,jt)::l,h,i,it,hi=>by
  simp only [lk] at hi
  split at hi
  ·rename_i e;subst e;cases hi;exact h.1
  ·exact NM h.2 i it hi
theorem aS.fam (p:Nat→Nat) {s:S} {n b:Nat} {env:List (Nat × AV)} {C:List (Nat × Item)} {L:List Item} (hn:n=s.n) (hb:b0≤L.length+b) (hlow:∀ i,i<b0→p i=i) (hC:∀ x,x∈C→x.1<b)
  (he:qL p s (L.length+b) env) (hc:Gi p s.rows (L.length+b) C)
  (hL:∀ j it,L[j]?=some it→lk s.rows (p (j+b))=some (it.ren p)∧it.below (L.length+b)=true)
  (hinj:∀ i j,i<L.length+b→j<L.length+b→p i=p j→i=j):aS w0 T0 b0 s ⟨n,env,C++jG b L,L.length+b⟩:=by
 have hlt:∀ i it,lk (C++jG b L) i=some it→i<L.length+b∧lk s.rows (p i)=some (it.ren p)∧it.below (L.length+b)=true:=by
  intro i it hi
  rw [lN] at hi
  cases hq:lk C i with
  | some y=>
   rw [hq] at hi;cases hi
   have:=hC _ (dM hq)
   exact ⟨by simp at this;omega,NM hc i _ hq⟩
  | none=>
   rw [hq] at hi
   simp only [FB] at hi
   split at hi
   ·rename_i hbi
    obtain ⟨h1,h2⟩:=List.getElem?_eq_some_iff.1 hi
    have:=hL (i - b) it hi
    rw [Nat.sub_add_cancel hbi] at this
    exact ⟨by omega,this⟩
   ·cases hi
 exact aS.Yr p hn hb hlow he hlt fun i j it jt hi hj e=>hinj i j (hlt i it hi).1 (hlt j jt hj).1 e
theorem aS.Qr (p:Nat→Nat) {s:S} {n b N:Nat} {env:List (Nat × AV)} {C:List (Nat × Item)} {e:TypeId} {rs:List aF} (hN:N=rs.length+b) (hn:n=s.n) (hb:b0≤N) (hlow:∀ i,i<b0→p i=i) (hC:∀ x,x∈C→x.1<b)
  (he:qL p s N env) (hc:Gi p s.rows N C) (hid:∀ r,r∈rs→eG r=true)
  (hL:∀ j (h:j<rs.length),lk s.rows (p (j+b))=some (.row e rs[j]))
  (hinj:∀ i j,i<N→j<N→p i=p j→i=j):aS w0 T0 b0 s ⟨n,env,C++jG b (rs.map (Item.row e)),N⟩:=by
 subst hN
 have:=aS.fam (w0:=w0) (T0:=T0) (b0:=b0) (s:=s) (n:=n) (b:=b) (env:=env) (C:=C) (L:=rs.map (Item.row e)) p hn (by simpa using hb) hlow hC (by simpa using he) (by simpa using hc) ?_ (by simpa using hinj)
 ·simpa using this
 ·intro j it hj
  obtain ⟨h1,rfl⟩:=List.getElem?_eq_some_iff.1 hj
  simp only [List.length_map] at h1
  rw [List.getElem_map]
  have h2:=hid _ (List.getElem_mem h1)
  refine ⟨?_,by simp only [Item.below];exact yQ _ _ h2⟩
  simp only [Item.ren,Ej p h2]
  exact hL j h1
end
/-! ### Renamings by hand -/
def p1 (a K x:Nat):Nat:=if x=a then K else x
theorem Ef (a K:Nat):p1 a K a=K:=if_pos rfl
theorem kU {a K x:Nat} (h:x≠a):p1 a K x=x:=if_neg h
theorem KY {a K N:Nat} (hK:N≤K):∀ i j,i<N→j<N→p1 a K i=p1 a K j→i=j:=by
 intro i j hi hj
 unfold p1
 split<;>split<;>omega
def p2 (a K a' K' x:Nat):Nat:=if x=a then K else if x=a' then K' else x
theorem II {α:Type} {j i:Nat} {v:α} {l:List (Nat × α)} (h:j≠i):lk ((j,v)::l) i=lk l i:=by simp only [lk];rw [if_neg h]
theorem Q7 {α:Type} {i:Nat} {v:α} {l:List (Nat × α)}:lk ((i,v)::l) i=some v:=by simp [lk]
end Go.Fv
/-
 An owned row becomes data, wherever the state speaks of it.
-/
namespace Go.Fv
open Go.RowKit
mutual
def fz (k:Nat) (r:aF):AV→AV
 | .own i=>if i=k then .ro r else .own i
 | .ptr i o=>.ptr i o
 | .elt i a b c=>.elt i a b c
 | .pre i n=>.pre i n
 | .suf i sz o n=>.suf i sz o n
 | .agg cs=>.agg (vP k r cs)
 | .tup cs=>.tup (vP k r cs)
 | .fn f cs=>.fn f (vP k r cs)
 | .cell cs=>.cell cs
 | .dead=>.dead
 | .nilS=>.nilS
 | .bool b=>.bool b
 | .int q n=>.int q n
 | .str s=>.str s
 | .ro r=>.ro r
 | .raw v=>.raw v
 | .opt b v=>.opt b (fz k r v)
 | .ifc b v=>.ifc b (fz k r v)
 | .bm b v=>.bm b (fz k r v)
 | .mp ks vs=>.mp ks vs
def vP (k:Nat) (r:aF):List AV→List AV
 | []=>[]
 | x::l=>fz k r x::vP k r l
end
def TU (k:Nat) (q:aF):aF→aF
 | .objs sz l=>.objs sz (l.map (vP k q))
 | .bools l=>.bools l
 | .ints k l=>.ints k l
 | .strs l=>.strs l
def Qw (k:Nat) (q:aF):Item→Item
 | .row e r=>.row e (TU k q r)
 | .box e cs=>.box e (vP k q cs)
 | .map ks vs=>.map (vP k q ks) (vP k q vs)
 | .iter mp since seen=>.iter mp since seen
 | .siter t pos=>.siter t pos
def WT (k:Nat) (q:aF):List (Nat × AV)→List (Nat × AV)
 | []=>[]
 |(i,v)::l=>(i,fz k q v)::WT k q l
def uF (k:Nat) (q:aF):List (Nat × Item)→List (Nat × Item)
 | []=>[]
 |(i,it)::l=>if i=k then uF k q l else (i,Qw k q it)::uF k q l
def S.fz (s:S) (k:Nat) (r:aF):S:={ s with env:=WT k r s.env,rows:=uF k r s.rows }
theorem KI (k:Nat) (q:aF):∀ (l:List (Nat × AV)) (i:Nat),lk (WT k q l) i=(lk l i).map (fz k q)
 | [],i=>rfl
 |(j,v)::l,i=>by
  simp only [WT,lk]
  split
  ·rfl
  ·exact KI k q l i
theorem lQ (k:Nat) (q:aF):∀ (l:List (Nat × Item)) (i:Nat),lk (uF k q l) i=if i=k then none else (lk l i).map (Qw k q)
 | [],i=>by simp [uF,lk]
 |(j,v)::l,i=>by
  simp only [uF]
  split
  ·rename_i e;subst e
   rw [lQ]
   by_cases h:i=j
   ·simp [h]
   ·simp only [if_neg h,lk];rw [if_neg (fun e=>h e.symm)]
  ·rename_i e
   simp only [lk]
   split
   ·rename_i e2;subst e2;rw [if_neg e];rfl
   ·exact lQ k q l i
mutual
theorem qP {k:Nat} {r:aF} (n:Nat):∀ x:AV,below n x=true→below n (fz k r x)=true
 | .own i,h=>by
  simp only [fz];split
  ·rfl
  ·exact h
 | .ptr i o,h=>h
 | .elt i a b c,h=>h
 | .pre i n,h=>h
 | .suf i sz o n,h=>h
 | .agg cs,h=>by simp only [fz,below] at *;exact sF n cs h
 | .tup cs,h=>by simp only [fz,below] at *;exact sF n cs h
 | .fn f cs,h=>by simp only [fz,below] at *;exact sF n cs h
 | .cell cs,_=>rfl
 | .dead,_=>rfl
 | .nilS,_=>rfl
 | .bool _,_=>rfl
 | .int _ _,_=>rfl
 | .str _,_=>rfl
 | .ro _,_=>rfl
 | .raw _,_=>rfl
 | .opt _ v,h=>by simp only [fz,below] at *;exact qP n v h
 | .ifc _ v,h=>by simp only [fz,below] at *;exact qP n v h
 | .bm _ v,h=>by simp only [fz,below] at *;exact qP n v h
 | .mp _ _,_=>rfl
theorem sF {k:Nat} {r:aF} (n:Nat):∀ x:List AV,aQ n x=true→aQ n (vP k r x)=true
 | [],_=>rfl
 | x::l,h=>by
  simp only [aQ,Bool.and_eq_true] at h
  simp [vP,aQ,qP n x h.1,sF n l h.2]
end
mutual
theorem zx {k:Nat} {r:aF}:∀ x:AV,bW x=true→fz k r x=x
 | .own i,h=>by simp [bW] at h
 | .ptr i o,h=>rfl
 | .elt i a b c,h=>rfl
 | .pre i n,h=>rfl
 | .suf i sz o n,h=>rfl
 | .agg cs,h=>by simp only [fz];rw [oz cs (by simpa [bW] using h)]
 | .tup cs,h=>by simp only [fz];rw [oz cs (by simpa [bW] using h)]
 | .fn f cs,h=>by simp only [fz];rw [oz cs (by simpa [bW] using h)]
 | .cell cs,_=>rfl
 | .dead,_=>rfl
 | .nilS,_=>rfl
 | .bool _,_=>rfl
 | .int _ _,_=>rfl
 | .str _,_=>rfl
 | .ro _,_=>rfl
 | .raw _,_=>rfl
 | .mp _ _,_=>rfl
 | .opt b v,h=>by simp only [fz];rw [zx v (by simpa [bW] using h)]
 | .ifc b v,h=>by simp only [fz];rw [zx v (by simpa [bW] using h)]
 | .bm b v,h=>by simp only [fz];rw [zx v (by simpa [bW] using h)]
theorem oz {k:Nat} {r:aF}:∀ x:List AV,bT x=true→vP k r x=x
 | [],_=>rfl
 | x::l,h=>by
  simp only [bT,Bool.and_eq_true] at h
  simp only [vP];rw [zx x h.1,oz l h.2]
end
mutual
theorem xG (k:Nat) (r:aF) (b0:Nat) (hb:b0≤k):∀ x:AV,below b0 x=true→fz k r x=x
 | .own i,h=>by
  simp only [below,decide_eq_true_eq] at h
  simp only [fz];rw [if_neg (by omega)]
 | .ptr i o,h=>rfl
 | .elt i a b c,h=>rfl
 | .pre i n,h=>rfl
 | .suf i sz o n,h=>rfl
 | .agg cs,h=>by simp only [fz];rw [nC k r b0 hb cs (by simpa [below] using h)]
 | .tup cs,h=>by simp only [fz];rw [nC k r b0 hb cs (by simpa [below] using h)]
 | .fn f cs,h=>by simp only [fz];rw [nC k r b0 hb cs (by simpa [below] using h)]
 | .cell cs,_=>rfl
 | .dead,_=>rfl
 | .nilS,_=>rfl
 | .bool _,_=>rfl
 | .int _ _,_=>rfl
 | .str _,_=>rfl
 | .ro _,_=>rfl
 | .raw _,_=>rfl
 | .mp _ _,_=>rfl
 | .opt b v,h=>by simp only [fz];rw [xG k r b0 hb v (by simpa [below] using h)]
 | .ifc b v,h=>by simp only [fz];rw [xG k r b0 hb v (by simpa [below] using h)]
 | .bm b v,h=>by simp only [fz];rw [xG k r b0 hb v (by simpa [below] using h)]
theorem nC (k:Nat) (r:aF) (b0:Nat) (hb:b0≤k):∀ x:List AV,aQ b0 x=true→vP k r x=x
 | [],_=>rfl
 | x::l,h=>by
  simp only [aQ,Bool.and_eq_true] at h
  simp only [vP];rw [xG k r b0 hb x h.1,nC k r b0 hb l h.2]
end
theorem DV {k:Nat} {r:aF}:∀ l:List (List AV),l.all bT=true→l.map (vP k r)=l
 | [],_=>rfl
 | x::l,h=>by
  simp only [List.all_cons,Bool.and_eq_true] at h
  rw [List.map_cons,oz x h.1,DV l h.2]
theorem Qz {k:Nat} {q:aF} (r:aF) [h:jP r]:TU k q r=r:=by
 have:=h.ok
 cases r<;>first|rfl|(simp only [TU];rw [DV _ this])
structure zO (k:Nat) (r:aF) (c c':Ctx):Prop where
 n:c'.N=c.N
 m:c'.m=c.m
 t:∀ b,c.T b→b<c.w.heap.size→c'.T b∧c'.w.heap[b]?=c.w.heap[b]?
 ro:Rv c' (.ro r) (c.m k)
mutual
theorem Rv.fz {k:Nat} {r:aF} {c c':Ctx} (h:zO k r c c'):∀ {x:AV} {v:Value},Rv c x v→Rv c' (Fv.fz k r x) v
 | _,_,.dead v=>.dead v
 | _,_,.nilS=>.nilS
 | _,_,.bool b=>.bool b
 | _,_,.int q n hk=>.int q n hk
 | _,_,.str s hs=>.str s hs
 | _,_,.roNil r hr hi=>.roNil r (bP.dX h.t hr hi) hi
 | _,_,.ro r a len cap cells hr hl hc hm hs hi=>.ro r a len cap cells (bP.dX h.t hr hi) hl hc hm (hs.mono' h.t) hi
 | _,_,.mp ks vs g es clock hk hv hb hc hT hh hi hi2=>.mp ks vs g es clock (dH.dX h.t hk hi) (dH.dX h.t hv hi2) hb hc (h.t g hT (Array.getElem?_eq_some_iff.1 hh).1).1 (by rw [(h.t g hT (Array.getElem?_eq_some_iff.1 hh).1).2];exact hh) hi hi2
 | _,_,.own i hi h1=>by
  simp only [Fv.fz]
  split
  ·rename_i e;subst e;exact h.ro
  ·rw [←h.m];exact .own i (by rw [h.n];exact hi) (by rw [h.m];exact h1)
 | _,_,.cell cs vs a hl hi hs=>.cell cs vs a (cO.dX h.t hl hi) hi (hs.mono' h.t)
 | _,_,.ptr i off g hi hg=>.ptr i off g (by rw [h.n];exact hi) (by rw [h.m];exact hg)
 | _,_,.elt i a b d g hi hg=>.elt i a b d g (by rw [h.n];exact hi) (by rw [h.m];exact hg)
 | _,_,.pre i n l cap a hi hv hn=>.pre i n l cap a (by rw [h.n];exact hi) (by rw [h.m];exact hv) hn
 | _,_,.suf i sz o n l cap a hi hv hn=>.suf i sz o n l cap a (by rw [h.n];exact hi) (by rw [h.m];exact hv) hn
 | _,_,.agg cs vs hl=>.agg _ vs (cO.fz h hl)
 | _,_,.tup cs vs hl=>.tup _ vs (dH.fz h hl)
 | _,_,.fn f cs vs hl=>.fn f _ vs (dH.fz h hl)
 | _,_,.raw v=>.raw v
 | _,_,.opt b x v hb hx h2=>.opt b _ v (by rw [h.n];exact qP _ _ hb) (fun e=>Rv.fz h (hx e)) h2
 | _,_,.ifc t x v hx=>.ifc t _ v (Rv.fz h hx)
 | _,_,.bm t x v hx=>.bm t _ v (Rv.fz h hx)
theorem cO.fz {k:Nat} {r:aF} {c c':Ctx} (h:zO k r c c'):∀ {x:List AV} {v:List Value},cO c x v→cO c' (vP k r x) v
 | _,_,.nil=>.nil
 | _,_,.cons x v l vs hx h1 ht=>.cons _ v _ vs (Rv.fz h hx) h1 (cO.fz h ht)
theorem dH.fz {k:Nat} {r:aF} {c c':Ctx} (h:zO k r c c'):∀ {x:List AV} {v:List Value},dH c x v→dH c' (vP k r x) v
 | _,_,.nil=>.nil
 | _,_,.cons x v l vs hx ht=>.cons _ v _ vs (Rv.fz h hx) (dH.fz h ht)
end
theorem bJ.fz {k:Nat} {r:aF} {c c':Ctx} (h:zO k r c c'):∀ {sz:Nat} {x:List (List AV)} {v:List Value},bJ c sz x v→bJ c' sz (x.map (vP k r)) v
 | _,_,_,.nil sz=>.nil sz
 | _,_,_,.cons sz o vs l cells ho hl ht=>.cons sz _ vs _ cells (ho.fz h) hl (ht.fz h)
theorem bP.fz {k:Nat} {q:aF} {c c':Ctx} (h:zO k q c c') {x:aF} {v:List Value} (hr:bP c x v):bP c' (TU k q x) v:=by
 cases hr with
 | bools l=>exact .bools l
 | ints k l hk=>exact .ints k l hk
 | strs l hs=>exact .strs l hs
 | objs sz l cells hz ho=>exact .objs sz _ _ hz (ho.fz h)
theorem TV (k:Nat) (q r:aF):(TU k q r).len=r.len:=by cases r<;>simp [TU,aF.len]
theorem VO (k:Nat) (q r:aF):(TU k q r).sz=r.sz:=by cases r<;>rfl
theorem bD.fz {k:Nat} {q:aF} {c c':Ctx} (h:zO k q c c') (hw:c'.w=c.w) {O:Nat→Prop} {v:Value} {it:Item} (hi:bD c O v it):bD c' O v (Qw k q it):=by
 cases it with
 | row e r=>
  obtain ⟨n,cells,hr,hn,ho,hO⟩:=hi
  exact ⟨n,cells,hr.fz h,by rw [TV];exact hn,by rw [VO,hw];exact ho,hO⟩
 | box e cs=>obtain ⟨g,vs,rfl,hg,hl,hh⟩:=hi;exact ⟨g,vs,rfl,hg,hl.fz h,by rw [hw];exact hh⟩
 | map ks vs=>obtain ⟨g,es,clock,rfl,hg,h1,h2,h3,h4,hh⟩:=hi;exact ⟨g,es,clock,rfl,hg,h1.fz h,h2.fz h,h3,h4,by rw [hw];exact hh⟩
 | iter mp since seen=>obtain ⟨g,p,sn,last,rfl,hg,h1,h2,h3,h4,hh⟩:=hi;exact ⟨g,p,sn,last,rfl,hg,by rw [h.n];exact h1,by rw [h.m];exact h2,h3,h4,by rw [hw];exact hh⟩
 | siter t pos=>obtain ⟨g,rfl,hg,hh⟩:=hi;exact ⟨g,rfl,hg,by rw [hw];exact hh⟩
section
variable {w0:World} {T0:Bs} {b0:Nat}
theorem aS.fz (k:Nat) {s:S} {e:TypeId} {r:aF} (hk:lk s.rows k=some (.row e r)) (hid:eG r=true) (hb:b0≤k):aS w0 T0 b0 s (s.fz k r):=by
 rintro H a w hH ⟨m,hm⟩
 have hsub:∀ i it,lk (s.fz k r).rows i=some it→i≠k∧∃ jt,lk s.rows i=some jt∧it=Qw k r jt:=by
  intro i it hi
  simp only [S.fz,lQ] at hi
  split at hi
  ·cases hi
  ·rename_i hne
   cases hq:lk s.rows i with
   | none=>rw [hq] at hi;cases hi
   | some jt=>rw [hq] at hi;cases hi;exact ⟨hne,jt,rfl,rfl⟩
 have hdel:∀ i it,lk (del s.rows k) i=some it→lk s.rows i=some it:=jQ _ _
 have hro:=KX hm hk hdel (by rw [mD,if_pos rfl]) hid
 have hT:∀ b,allow T0 w0.heap.size m (del s.rows k) b→allow T0 w0.heap.size m (s.fz k r).rows b:=by
  rintro b ⟨h1,h2⟩
  refine ⟨h1,fun i it hi e=>?_⟩
  obtain ⟨hne,jt,hj,_⟩:=hsub i it hi
  exact h2 i jt (by rw [mD,if_neg hne];exact hj) e
 have hc:zO k r (aA T0 w0.heap.size m s w) (aA T0 w0.heap.size m (s.fz k r) w):=
  {n:=rfl,m:=rfl,
   t:=by
    intro b ⟨h1,h2⟩ _
    exact ⟨hT b ⟨h1,fun i it hi=>h2 i it (hdel i it hi)⟩,rfl⟩,
   ro:=by
    refine Rv.dX (c:=aA T0 w0.heap.size m { s with rows:=del s.rows k } w) ?_ hro rfl
    intro b hb _
    exact ⟨hT b hb,rfl⟩ }
 refine ⟨m,{ size:=hm.size,nodef:=hm.nodef,below:=hm.below,env:=?_,held:=?_,rows:=?_,sep:=?_ }⟩
 ·intro q v hv
  simp only [S.fz,KI] at hv
  cases hq:lk s.env q with
  | none=>rw [hq] at hv;cases hv
  | some y=>rw [hq] at hv;cases hv;exact (hm.env q y hq).fz hc
 ·intro p hp
  have h1:=(hm.held p hp).fz hc
  have h2:Fv.fz k r p.1=p.1:=by
   have hlow:=hH p hp
   exact xG k r b0 hb p.1 hlow
  rwa [h2] at h1
 ·intro i it hi
  obtain ⟨hne,jt,hj,rfl⟩:=hsub i it hi
  exact ⟨(hm.rows i jt hj).1,(hm.rows i jt hj).2.fz hc rfl⟩
 ·intro i j it jt b hi hj hbi hbj
  obtain ⟨_,it',hi',_⟩:=hsub i it hi
  obtain ⟨_,jt',hj',_⟩:=hsub j jt hj
  exact hm.sep i j it' jt' b hi' hj' hbi hbj
end
attribute [go_sem] fz vP TU Qw WT uF S.fz
end Go.Fv
