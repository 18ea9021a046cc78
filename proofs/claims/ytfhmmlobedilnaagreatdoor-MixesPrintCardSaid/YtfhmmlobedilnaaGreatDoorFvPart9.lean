/-
  A part of the proof of the claim: walks over the program's functions and the plain laws that these need. No condition of its own.
-/
import Derived.Test.YtfhmmlobedilnaaGreatDoorFvPart7
import Derived.Test.YtfhmmlobedilnaaGreatDoorFvPart8
set_option linter.unusedSectionVars false
set_option linter.unusedVariables false
set_option linter.unusedSimpArgs false
set_option linter.unnecessarySimpa false
/-
 Regions whose order is drawn: every order is walked, moves first.
-/
namespace Go.Fv
open Go.RowKit
section
variable {P:Program} {w0:World} {T0:Bs} {b0:Nat} {H:List (AV × Value)} [hG:lC P w0 T0]
theorem AQ {ops:Array Oper} (hs:Region.noSelect ops=true) {Q:S→Prop}:∀ (t:sF) (n:Nat) (listed:Array Bool) (q:Option (List Nat)),dL ops t n listed q=true→∀ (s:S) (a:Act) (w:World),
  fU P w0 T0 ops t s Q→Rep w0 T0 H s a w →
  match q with
  | none=>wpAny P .any ops (fun e a' w'=>e=.normal∧∃ s',Q s'∧Rep w0 T0 H s' a' w') n listed a w
  | some l=>∃ n',n=n'+1∧∀ i,i∈l→wpOp P ops (fun e a' w'=>e=.normal∧∃ s',Q s'∧Rep w0 T0 H s' a' w') i (wpAny P .any ops (fun e a' w'=>e=.normal∧∃ s',Q s'∧Rep w0 T0 H s' a' w') n' (listed.setIfInBounds i true)) a w:=by
 intro t
 induction t with
 | done=>
  intro n listed q hok s a w h hr
  cases q with
  | none=>
   have hn:Region.ready .any ops listed=[]:=by
    cases n<;>simpa [dL,List.isEmpty_iff] using hok
   exact wpAny_done hn ⟨rfl,s,h,hr⟩ n
  | some l=>cases n<;>simp [dL] at hok
 | first i t ih=>
  intro n listed q hok s a w h hr
  cases n with
  | zero=>cases q<;>simp [dL] at hok
  | succ n=>
   cases q with
   | some l=>simp [dL] at hok
   | none=>
    simp only [dL,Bool.and_eq_true] at hok
    obtain ⟨⟨⟨hm,hf⟩,hrd⟩,ht⟩:=hok
    unfold fU at h
    cases ho:ops[i]? with
    | none=>rw [ho] at h;exact h.elim
    | some o=>
     rw [ho] at h hm
     have hm':D9 o=true:=by simpa using hm
     have hg:o.guard=none:=by
      unfold D9 at hm';split at hm'<;>first|assumption|cases hm'
     have go:∀ x,(o.op=.move x∨o.op=.assign x)→aN (aj x) (dU o.dst (s.ev x) s (fun s'=>fU P w0 T0 ops t s' Q)) →
       wpAny P .any ops (fun e a' w'=>e=.normal∧∃ s',Q s'∧Rep w0 T0 H s' a' w') (n+1) listed a w:=by
      rintro x hx ⟨hxo,hk⟩
      have hrun:∀ w,(execOp a.eval o).run P w=.ok (.value (a.eval x)) w:=by
       intro w;unfold execOp;rcases hx with hx|hx<;>rw [hx]<;>rfl
      have hy:Yields P ops o (a.eval x) a:=.inl ⟨by simp [Region.wanted,hg],hrun⟩
      refine wpAny_take ho hs hf hrd (by rintro c a w ⟨h,_⟩;cases h) hy ?_
      obtain ⟨m,hm⟩:=hr
      obtain ⟨s',h2,hr2⟩:=Rep.put (⟨m,hm.hold (hm.ev x hxo)⟩:Rep w0 T0 ((s.ev x,a.eval x)::H) s a w) hk
      exact ih n _ none ht s' _ w h2 hr2
     dsimp only at h
     cases hop:o.op<;>rw [hop] at h<;>first|exact h.elim|skip
     ·exact go _ (.inl hop) h
     ·exact go _ (.inr hop) h
     ·obtain ⟨hxo,hk⟩:=h
      obtain ⟨m,hm⟩:=hr
      obtain ⟨r,v,hk',hrun,hv⟩:=lq hop hxo hk hm
      have hy:Yields P ops o v a:=.inl ⟨by simp [Region.wanted,hg],hrun⟩
      refine wpAny_take ho hs hf hrd (by rintro c a w ⟨h,_⟩;cases h) hy ?_
      obtain ⟨s',h2,hr2⟩:=Rep.put (⟨m,hm.hold hv⟩:Rep w0 T0 ((r,v)::H) s a w) hk'
      exact ih n _ none ht s' _ w h2 hr2
 | cons i t r iht ihr=>
  intro n listed q hok s a w h hr
  unfold fU at h
  cases ho:ops[i]? with
  | none=>rw [ho] at h;exact h.elim
  | some o=>
   rw [ho] at h
   obtain ⟨h1,h2⟩:=h
   have one:∀ n',dL ops t n' (listed.setIfInBounds i true) none=true→wpOp P ops (fun e a' w'=>e=.normal∧∃ s',Q s'∧Rep w0 T0 H s' a' w') i (wpAny P .any ops (fun e a' w'=>e=.normal∧∃ s',Q s'∧Rep w0 T0 H s' a' w') n' (listed.setIfInBounds i true)) a w:=by
    intro n' ht
    unfold wpOp
    rw [ho]
    have:=wP (Qc:=fun e a' w'=>e=.normal∧∃ s',Q s'∧Rep w0 T0 H s' a' w') h1 hr fun s' a' w' hk hr'=>iht n' _ none ht s' a' w' hk hr'
    dsimp only at this ⊢
    split
    ·rename_i hw;rw [if_pos hw] at this;exact .inl this
    ·rename_i hw;rw [if_neg hw] at this;exact this
   cases n with
   | zero=>cases q<;>simp [dL] at hok
   | succ n=>
    cases q with
    | none=>
     cases hrd:Region.ready .any ops listed with
     | nil=>simp [dL,hrd] at hok
     | cons j l=>
      simp only [dL,hrd,Bool.and_eq_true,beq_iff_eq] at hok
      obtain ⟨⟨rfl,ht⟩,hrest⟩:=hok
      have:=ihr (n+1) listed (some l) hrest s a w h2 hr
      obtain ⟨n',hn,hall⟩:=this
      cases hn
      refine wpAny_all hrd (by simp) fun k hk=>?_
      cases List.mem_cons.1 hk with
      | inl e=>subst e;exact one n ht
      | inr e=>exact hall k e
    | some l=>
     cases l with
     | nil=>simp [dL] at hok
     | cons j l=>
      simp only [dL,Bool.and_eq_true,beq_iff_eq] at hok
      obtain ⟨⟨rfl,ht⟩,hrest⟩:=hok
      have:=ihr (n+1) listed (some l) hrest s a w h2 hr
      obtain ⟨n',hn,hall⟩:=this
      cases hn
      refine ⟨n,rfl,fun k hk=>?_⟩
      cases List.mem_cons.1 hk with
      | inl e=>subst e;exact one n ht
      | inr e=>exact hall k e
 | stop=>
  intro n listed q hok s a w h hr
  cases n<;>cases q<;>simp [dL] at hok
  subst hok
  exact ⟨_,rfl,fun i hi=>by cases hi⟩
theorem aF.drawn {s:S} {a:Act} {w:World} {m:Nat→Value} (h:aF w0 T0 H s a w m):aF w0 T0 H s a w.drew m:=by
 have hle:bK (ak T0 w0.heap.size m s w) (ak T0 w0.heap.size m s w.drew):=
  fK (Nat.le_refl _) (fun _ _=>rfl) (fun _ _ _=>rfl) fun i it b hi hb _=>⟨i,it,hi,hb⟩
 exact h.rF rfl rfl hle h.below.drew (fun i it hi=>⟨(h.rows i it hi).1,(h.rows i it hi).2.mono hle fun _ _=>rfl⟩) h.sep
theorem aZ.intro {id:Nat} {ops:Array Oper} {s:S} {Q:S→Prop} (t:sF) (hm:P.follows .mixedOrders=true) (hs:Region.noSelect ops=true) (ht:dL ops t ops.size (Array.replicate ops.size false) none=true)
  (h:fU P w0 T0 ops t s Q):@aZ P w0 T0 b0 id ops s ⟨Q⟩:=by
 intro H a w _ hr
 refine wp_region_any hm ?_
 have hr':Rep w0 T0 H s a { w with drawn:=w.drawn+1 }:=by
  obtain ⟨m,hm⟩:=hr
  exact ⟨m,hm.drawn⟩
 exact AQ hs t _ _ none ht s a _ h hr'
theorem aZ.cut {id:Nat} {ops:Array Oper} {s:S} {Q:S→Prop} (t:sF) (hm:P.follows .mixedOrders=true) (hs:Region.noSelect ops=true) (ht:dL ops t ops.size (Array.replicate ops.size false) none=true) (shape:S)
  (h:fU P w0 T0 ops t s (fun s'=>dB w0 T0 b0 s' shape)) (hk:Q shape):@aZ P w0 T0 b0 id ops s ⟨Q⟩:=by
 intro H a w hH hr
 refine wp_mono (aZ.intro (b0:=b0) (id:=id) t hm hs ht h H a w hH hr) ?_
 rintro e a' w' ⟨he,s',hq,hr'⟩
 exact ⟨he,shape,hk,hq H a' w' hH hr'⟩
end
end Go.Fv
/-
 Regions whose order is drawn: walked once, in the text's order. Operations that leave the abstract state as it is may come in any order;
 those that change it ('es') come in the text's order among themselves.
-/
namespace Go.Fv
open Go.RowKit
abbrev oH:=List (Nat × Item) × Nat
def dX:Op→List Operand
 | .move x=>[x]
 | .assign x=>[x]
 | .pick c x y=>[c,x,y]
 | .extract x _=>[x]
 | .makeFunc _ first caps=>first.toList++caps.toList
 | .box _ x=>[x]
 | .load _ x=>[x]
 | .store _ x v=>[x,v]
 | .nilCheck x=>[x]
 | .fieldAddr _ x _=>[x]
 | .indexAddr _ x i=>[x,i]
 | .makeSlice _ l c=>[l,c]
 | .binOp _ _ x y _=>[x,y]
 | .unOp _ _ x=>[x]
 | .convert _ _ x=>[x]
 | .index _ x i=>[x,i]
 | .lookup _ x i _=>[x,i]
 | .mapUpdate _ m k v=>[m,k,v]
 | .mapEntry _ m k=>[m,k]
 | .entryStore _ m t v=>[m,t,v]
 | .range _ x=>[x]
 | .next x _=>[x]
 | .field _ x _=>[x]
 | .slice _ x l h m=>x::(l.toList++(h.toList++m.toList))
 | .buildSlice _ _ ps=>ps.toList.map (·.2)
 | .build _ ps=>ps.toList.map (·.2)
 | .call c=>match c.callee with
  | .value f=>f::c.args.toList
  | _=>c.args.toList
 | _=>[]
def LD (v:AV):AV:=match v with
 | .opt _ v=>v
 | v=>v
def dG (s:S):List Operand→List (Nat × AV)
 | []=>[]
 | .tmp t::l=>(t,s.get t)::dG s l
 | .const _::l=>dG s l
 | .func _::l=>dG s l
 | .global _::l=>dG s l
def gu (s:S):List Operand→List (Nat × AV)
 | []=>[]
 | .tmp t::l=>(t,LD (s.get t))::gu s l
 | .const _::l=>gu s l
 | .func _::l=>gu s l
 | .global _::l=>gu s l
def gd (ops:Array Oper) (s:S) (o:Oper):Option (Option Bool):=
 match o.guard with
 | none=>some none
 | some (j,want)=>match (ops[j]?).bind (·.dst) with
  | some r=>match s.get r with
   | .bool b=>some (some (bif want then b else !b))
   | .opt c (.bool b)=>some (some (c && bif want then b else !b))
   | _=>none
  | none=>none
def Jq (P:Program) (w0:World) (T0:Bs) (o:Oper) (s1:S) (v:AV):Prop:=
 lG P w0 T0 o s1 (fun r s'=>r=v∧s'.rows=s1.rows∧s'.next=s1.next)
structure Acc where
 o:Oper
 g:Option Bool
 env:List (Nat × AV)
 v:AV
 ks:List Nat
def yT (P:Program) (w0:World) (T0:Bs) (n:Nat) (x:Acc) (hs:List oH):List Nat→Prop
 | []=>True
 | k::l=>(match hs[k]? with
  | some h=>match x.g with
   | none=>Jq P w0 T0 x.o ⟨n,x.env,h.1,h.2⟩ x.v
   | some c=>Fv.below h.2 x.v=true∧(c=true→Jq P w0 T0 x.o ⟨n,x.env,h.1,h.2⟩ x.v)
  | none=>False)∧yT P w0 T0 n x hs l
def redo (P:Program) (w0:World) (T0:Bs) (n:Nat) (hs:List oH):List Acc→Prop
 | []=>True
 | x::l=>yT P w0 T0 n x hs x.ks∧redo P w0 T0 n hs l
class QB where
 A:AV→Prop
 B:AV→Prop
class QC where
 A:AV→List (Nat × Item)→Nat→Prop
 B:AV→List (Nat × Item)→Nat→Prop
def QV [x:QB]:Prop:=∃ v,x.A v∧x.B v
def QE [x:QC]:Prop:=∃ v rows N,x.A v rows N∧x.B v rows N
theorem QV.intro {A B:AV→Prop} (v:AV) (h:A v) (k:B v):@QV ⟨A,B⟩:=⟨v,h,k⟩
theorem QE.intro {A B:AV→List (Nat × Item)→Nat→Prop} (v:AV) (rows:List (Nat × Item)) (N:Nat) (h:A v rows N) (k:B v rows N):@QE ⟨A,B⟩:=⟨v,rows,N,h,k⟩
def jE (ks:List Nat) (x:Acc) (l:List Acc):List Acc:=match ks with
 | []=>l
 | _::_=>x::l
def jQ (tb:List (Nat × List Nat)) (i:Nat):List Nat:=match lk tb i with
 | some l=>l
 | none=>[]
def vK:Op→Bool
 | .move _=>true
 | .assign _=>true
 | .extract _ _=>true
 | .makeFunc _ _ _=>true
 | .box _ _=>true
 | .alloc _=>true
 | .store _ _ _=>true
 | .nilCheck _=>true
 | .makeSlice _ _ _=>true
 | .unOp _ _ _=>true
 | .convert _ _ _=>true
 | .buildSlice _ _ _=>true
 | .build _ _=>true
 | .makeMap _ _=>true
 | .mapUpdate _ _ _ _=>true
 | .mapEntry _ _ _=>true
 | .entryStore _ _ _ _=>true
 | .range _ _=>true
 | .call c=>match c.callee with
  | .builtin .append=>true
  | .builtin .min=>true
  | .builtin .max=>true
  | _=>false
 | _=>false
def pO:List Nat→Nat→Bool
 | [],_=>false
 | j::l,i=>if i=j then true else pO l i
theorem vw:∀ (l:List Nat) (i:Nat),pO l i=l.elem i
 | [],_=>rfl
 | j::l,i=>by
  simp only [pO,List.elem_cons,vw l i]
  by_cases h:i=j
  ·simp [h]
  ·have:(i == j)=false:=by simpa using h
   rw [if_neg h,this]
/-! ### The walk: what comes behind is not looked at before it is reached -/
inductive QR where
 | val (v:AV) (p:Prop) (re:Bool)
 | lin
 | call
class OZ where
 k:Option Bool→Prop
class OX where
 x:Prop
 y:Prop
class OY where
 k:AV→List (Nat × Item)→Nat→Prop
class O1 where
 k:AV→Bool→Prop
 l:Prop
 c:Prop
def Og (x:Option (Option Bool)) [K:OZ]:Prop:=match x with
 | some g=>K.k g
 | none=>False
def Nb (b:Bool) [K:OX]:Prop:=match b with
 | true=>K.x
 | false=>K.y
def Oe (v:AV) (t:S) [K:OY]:Prop:=K.k v t.rows t.next
def N8 (x:QR) [K:O1]:Prop:=match x with
 | .val v p re=>aN p (K.k v re)
 | .lin=>K.l
 | .call=>K.c
theorem Iw (g:Option Bool) (k:Option Bool→Prop):@Og (some g) ⟨k⟩=k g:=rfl
theorem HY (x y:Prop):@Nb true ⟨x,y⟩=x:=rfl
theorem Gf (x y:Prop):@Nb false ⟨x,y⟩=y:=rfl
theorem Mc (v:AV) (n:Nat) (env:List (Nat × AV)) (R:List (Nat × Item)) (N:Nat) (k:AV→List (Nat × Item)→Nat→Prop):@Oe v ⟨n,env,R,N⟩ ⟨k⟩=k v R N:=rfl
theorem KR (v:AV) (p:Prop) (re:Bool) (k:AV→Bool→Prop) (l c:Prop):@N8 (.val v p re) ⟨k,l,c⟩=aN p (k v re):=rfl
theorem KQ (k:AV→Bool→Prop) (l c:Prop):@N8 .lin ⟨k,l,c⟩=l:=rfl
theorem Jp (k:AV→Bool→Prop) (l c:Prop):@N8 .call ⟨k,l,c⟩=c:=rfl
def Ce (g:Option Bool) (v:AV):AV:=match g with
 | none=>v
 | some c=>.opt c v
def sZ (g:Option Bool) (s:S) (l:List Operand):List (Nat × AV):=match g with
 | none=>dG s l
 | some _=>gu s l
def jO (d:Option Nat) (n:Nat):Prop:=match d with
 | none=>True
 | some d=>d<n
def jo (d:Option Nat) (v:AV) (s:S):S:=match d with
 | none=>s
 | some d=>⟨s.n,(d,v)::s.env,s.rows,s.next⟩
def C9 (P:Program) (w0:World) (T0:Bs) (o:Oper) (g:Option Bool) (s:S) (v:AV):Prop:=match g with
 | none=>Jq P w0 T0 o ⟨s.n,dG s (dX o.op),s.rows,s.next⟩ v
 | some c=>Fv.below s.next v=true∧(c=true→dI s (dX o.op)=true∧Jq P w0 T0 o ⟨s.n,gu s (dX o.op),s.rows,s.next⟩ v)
def ML (P:Program) (w0:World) (T0:Bs) (o:Oper) (g:Option Bool) (s:S):QR:=
 match pW ⟨s.n,dG s (dX o.op),s.rows,s.next⟩ o.op with
 | some (pre,b)=>match g with
  | none=>.val (.bool b) (pre∧oV o.op) false
  | some c=>.val (.bool b) (c=true→pre∧oV o.op) false
 | none=>match Kz P ⟨s.n,sZ g s (dX o.op),s.rows,s.next⟩ o.op with
  | some v=>.val v (C9 P w0 T0 o g s v) true
  | none=>match g,vK o.op with
   | none,true=>.lin
   | _,_=>.call
def iO (P:Program) (w0:World) (T0:Bs) (ops:Array Oper) (es:List Nat) (tb:List (Nat × List Nat)):List Oper→Nat→List Acc→List oH→S→(S→Prop)→Prop
 | [],_,acc,hs,s,Q=>redo P w0 T0 s.n hs acc∧Q s
 | o::rest,i,acc,hs,s,Q=>
  @Og (gd ops s o) ⟨fun g=>@Nb (pO es i) ⟨
   match g with
   | none=>@Nb (vK o.op) ⟨
     lG P w0 T0 o ⟨s.n,dG s (dX o.op),s.rows,s.next⟩ (fun v t=>@Oe v t ⟨fun v R N=>aN (jO o.dst s.n) (iO P w0 T0 ops es tb rest (i+1) acc (hs++[(R,N)]) (jo o.dst v ⟨s.n,s.env,R,N⟩) Q)⟩),
     @QE ⟨fun v R N=>lG P w0 T0 o ⟨s.n,dG s (dX o.op),s.rows,s.next⟩ (fun r t=>r=v∧t.rows=R∧t.next=N),
      fun v R N=>aN (jO o.dst s.n) (iO P w0 T0 ops es tb rest (i+1) acc (hs++[(R,N)]) (jo o.dst v ⟨s.n,s.env,R,N⟩) Q)⟩⟩
   | some c=>@Ite c ⟨@QE ⟨fun v R N=>dI s (dX o.op)=true∧lG P w0 T0 o ⟨s.n,gu s (dX o.op),s.rows,s.next⟩ (fun r t=>r=v∧t.rows=R∧t.next=N),
      fun v R N=>aN (jO o.dst s.n) (iO P w0 T0 ops es tb rest (i+1) acc (hs++[(R,N)]) (jo o.dst (.opt true v) ⟨s.n,s.env,R,N⟩) Q)⟩⟩
     ⟨aN (jO o.dst s.n) (iO P w0 T0 ops es tb rest (i+1) acc (hs++[(s.rows,s.next)]) (jo o.dst (.opt false (.bool false)) s) Q)⟩,
   @N8 (ML P w0 T0 o g s) ⟨
    fun v re=>aN (jO o.dst s.n) (iO P w0 T0 ops es tb rest (i+1) (bif re then jE (jQ tb i) ⟨o,g,sZ g s (dX o.op),v,jQ tb i⟩ acc else acc) hs (jo o.dst (Ce g v) s) Q),
    lG P w0 T0 o ⟨s.n,dG s (dX o.op),s.rows,s.next⟩ (fun v t=>@Oe v t ⟨fun v R N=>aN (R=s.rows∧N=s.next) (aN (jO o.dst s.n) (iO P w0 T0 ops es tb rest (i+1) (jE (jQ tb i) ⟨o,g,sZ g s (dX o.op),v,jQ tb i⟩ acc) hs (jo o.dst v s) Q))⟩),
    @QV ⟨fun v=>C9 P w0 T0 o g s v,
     fun v=>aN (jO o.dst s.n) (iO P w0 T0 ops es tb rest (i+1) (jE (jQ tb i) ⟨o,g,sZ g s (dX o.op),v,jQ tb i⟩ acc) hs (jo o.dst (Ce g v) s) Q)⟩⟩⟩⟩
theorem fQ {d:Option Nat} {v:AV} {s:S} {Q:S→Prop} (h1:jO d s.n) (h2:Q (jo d v s)):dU d v s Q:=by
 unfold dU
 cases d with
 | none=>exact h2
 | some d=>simp only [jO] at h1;simp only [h1,if_true];exact h2
section
variable {P:Program} {w0:World} {T0:Bs} {ops:Array Oper} [hG:lC P w0 T0]
def Fb (env1 env:List (Nat × AV)):Prop:=∀ r x,lk env1 r=some x→x=.dead∨lk env r=some x∨lk env r=some (.opt true x)
theorem aF.restrict {H:List (AV × Value)} {s:S} {a:Act} {w:World} {m:Nat→Value} (h:aF w0 T0 H s a w m) {env1:List (Nat × AV)} (he:Fb env1 s.env):aF w0 T0 H { s with env:=env1 } a w m:=
 {size:=h.size,nodef:=h.nodef,below:=h.below,held:=h.held,rows:=h.rows,sep:=h.sep,
  env:=by
   intro r v hv
   rcases he r v hv with rfl|hx|hx
   ·exact .dead _
   ·exact h.env r v hx
   ·have:=h.env r _ hx
    cases this with
    | opt _ _ _ _ h1 _=>exact h1 rfl }
theorem aB.frame {o:Oper} {s:S} {env1:List (Nat × AV)} {v:AV} {R:List (Nat × Item)} {N:Nat} (h:aB P w0 T0 o { s with env:=env1 } (fun r s'=>r=v∧s'.rows=R∧s'.next=N)) (he:Fb env1 s.env) :
  aB P w0 T0 o s (fun r s'=>r=v∧s'={ s with rows:=R,next:=N }):=by
 intro H a w next Q ⟨m,hm⟩ hn
 let E:List (AV × Value):=s.env.map fun p=>(s.get p.1,a.tmps.getD p.1 undef)
 have hE:∀ r x,lk s.env r=some x→(x,a.tmps.getD r undef)∈E:=by
  intro r x hx
  have:∀ l:List (Nat × AV),lk l r=some x→∃ p,p∈l∧p.1=r:=by
   intro l
   induction l with
   | nil=>intro h;simp [lk] at h
   | cons q l ih=>
    intro h
    simp only [lk] at h
    split at h
    ·rename_i e;exact ⟨q,.head _,e⟩
    ·obtain ⟨p,hp,e⟩:=ih h;exact ⟨p,.tail _ hp,e⟩
  obtain ⟨p,hp,e⟩:=this _ hx
  refine List.mem_map.2 ⟨p,hp,?_⟩
  subst e
  simp [S.get,hx]
 have hm1:aF w0 T0 (E++H) { s with env:=env1 } a w m:=by
  have h1:=hm.restrict he
  refine { h1 with held:=?_ }
  intro p hp
  rcases List.mem_append.1 hp with hp|hp
  ·obtain ⟨q,hq,rfl⟩:=List.mem_map.1 hp
   show Rv _ (s.get q.1) _
   simp only [S.get]
   cases hl:lk s.env q.1 with
   | none=>exact .dead _
   | some x=>exact hm.env _ _ hl
  ·exact hm.held p hp
 refine h (E++H) a w next Q ⟨m,hm1⟩ ?_
 rintro r s' val w' ⟨rfl,hr,hx⟩ ⟨m',hm'⟩
 refine hn _ _ val w' ⟨rfl,rfl⟩ ⟨m',?_⟩
 subst hr;subst hx
 refine { size:=hm.size,nodef:=hm'.nodef,below:=hm'.below,rows:=hm'.rows,sep:=hm'.sep,env:=?_,held:=?_ }
 ·intro r x hx
  exact hm'.held _ (List.mem_cons_of_mem _ (List.mem_append_left _ (hE r x hx)))
 ·intro p hp
  rcases List.mem_cons.1 hp with rfl|hp
  ·exact hm'.held _ (.head _)
  ·exact hm'.held p (List.mem_cons_of_mem _ (List.mem_append_right _ hp))
theorem jV (s:S):∀ l:List Operand,Fb (dG s l) s.env
 | []=>by intro r x h;simp [dG,lk] at h
 | .tmp t::l=>by
  intro r x h
  simp only [dG,lk] at h
  split at h
  ·rename_i e;subst e;cases h
   simp only [S.get]
   cases hl:lk s.env t with
   | none=>exact .inl rfl
   | some y=>exact .inr (.inl rfl)
  ·exact jV s l r x h
 | .const _::l=>by intro r x h;exact jV s l r x h
 | .func _::l=>by intro r x h;exact jV s l r x h
 | .global _::l=>by intro r x h;exact jV s l r x h
theorem mD (s:S):∀ l:List Operand,dI s l=true→Fb (gu s l) s.env
 | [],_=>by intro r x h;simp [gu,lk] at h
 | .tmp t::l,hc=>by
  intro r x h
  simp only [dI] at hc
  simp only [gu,lk] at h
  split at h
  ·rename_i e;subst e;cases h
   cases hg:s.get t with
   | opt c v=>
    rw [hg] at hc
    simp only [Bool.and_eq_true] at hc
    simp only [S.get] at hg
    cases hl:lk s.env t with
    | none=>rw [hl] at hg;cases hg
    | some y=>rw [hl] at hg;simp only at hg;subst hg;rw [hc.1];exact .inr (.inr rfl)
   | _=>
    simp only [S.get] at hg
    cases hl:lk s.env t with
    | none=>rw [hl] at hg;simp only at hg;first|(cases hg;done)|(cases hg;exact .inl rfl)
    | some y=>rw [hl] at hg;simp only at hg;subst hg;exact .inr (.inl rfl)
  ·refine mD s l ?_ r x h
   split at hc
   ·simp only [Bool.and_eq_true] at hc;exact hc.2
   ·exact hc
 | .const _::l,hc=>by intro r x h;exact mD s l (by simpa [dI] using hc) r x h
 | .func _::l,hc=>by intro r x h;exact mD s l (by simpa [dI] using hc) r x h
 | .global _::l,hc=>by intro r x h;exact mD s l (by simpa [dI] using hc) r x h
theorem fF {s s':S}:∀ l:List Operand,(∀ t,.tmp t∈l→s'.get t=s.get t)→dG s' l=dG s l
 | [],_=>rfl
 | .tmp t::l,h=>by simp only [dG];rw [h t (.head _),fF l fun t ht=>h t (.tail _ ht)]
 | .const _::l,h=>by simp only [dG];exact fF l fun t ht=>h t (.tail _ ht)
 | .func _::l,h=>by simp only [dG];exact fF l fun t ht=>h t (.tail _ ht)
 | .global _::l,h=>by simp only [dG];exact fF l fun t ht=>h t (.tail _ ht)
theorem fG {s s':S}:∀ l:List Operand,(∀ t,.tmp t∈l→s'.get t=s.get t)→gu s' l=gu s l∧dI s' l=dI s l
 | [],_=>⟨rfl,rfl⟩
 | .tmp t::l,h=>by simp only [gu,dI];rw [h t (.head _),(fG l fun t ht=>h t (.tail _ ht)).1,(fG l fun t ht=>h t (.tail _ ht)).2];exact ⟨rfl,rfl⟩
 | .const _::l,h=>by simp only [gu,dI];exact fG l fun t ht=>h t (.tail _ ht)
 | .func _::l,h=>by simp only [gu,dI];exact fG l fun t ht=>h t (.tail _ ht)
 | .global _::l,h=>by simp only [gu,dI];exact fG l fun t ht=>h t (.tail _ ht)
def QS (P:Program) (w0:World) (T0:Bs) (ops:Array Oper) (o:Oper) (n:Nat) (get:Nat→AV) (h h':oH) (v:AV):Prop:=
 ∀ env,(∀ r,r∈o.looksAt ops→S.get ⟨n,env,[],0⟩ r=get r) →
  ∀ (H:List (AV × Value)) (a:Act) (w:World) (K:Act→World→Prop) (Qx:Exit→Act→World→Prop),Rep w0 T0 H ⟨n,env,h.1,h.2⟩ a w →
   (∀ val w',Rep w0 T0 ((v,val)::H) ⟨n,env,h'.1,h'.2⟩ a w'→K (a.put o.dst val) w') →
   if Region.wanted o (yielded ops a.tmps)=true then o.wp P a w K Qx else K (a.put o.dst undef) w
theorem uj {s:S} {o:Oper} (h:gd ops s o=some none):o.guard=none:=by
 unfold gd at h
 split at h
 ·assumption
 ·split at h
  ·split at h<;>simp at h
  ·simp at h
theorem Gj {H:List (AV × Value)} {s:S} {o:Oper} {c:Bool} (h:gd ops s o=some (some c)) {a:Act} {w:World} (hr:Rep w0 T0 H s a w):Region.wanted o (yielded ops a.tmps)=c:=by
 unfold gd at h
 cases hg:o.guard with
 | none=>rw [hg] at h;simp at h
 | some jw=>
  obtain ⟨j,want⟩:=jw
  rw [hg] at h
  dsimp only at h
  cases hd:(ops[j]?).bind (·.dst) with
  | none=>rw [hd] at h;simp at h
  | some r=>
   rw [hd] at h
   dsimp only at h
   have hslot:∀ x,s.get r=x→x≠.dead→lk s.env r=some x:=by
    intro x hx hne
    simp only [S.get] at hx
    cases hl:lk s.env r with
    | none=>rw [hl] at hx;exact absurd hx.symm hne
    | some y=>rw [hl] at hx;exact congrArg some hx
   have hyield:∀ b,a.tmps.getD r undef=.bool b→yielded ops a.tmps j=some b:=by
    intro b hvv
    have h1:a.tmps[r]?=some (.bool b):=by
     rw [Array.getD_eq_getD_getElem?] at hvv
     cases hq:a.tmps[r]? with
     | none=>rw [hq] at hvv;simp [undef] at hvv
     | some y=>rw [hq] at hvv;simpa using hvv
    simp [yielded,hd,h1]
   have hyno:a.tmps.getD r undef=undef→yielded ops a.tmps j=none:=by
    intro hvv
    cases hq:a.tmps[r]? with
    | none=>simp [yielded,hd,hq]
    | some y=>
     rw [Array.getD_eq_getD_getElem?,hq] at hvv
     have:y=undef:=by simpa using hvv
     subst this
     simp [yielded,hd,hq,undef]
   obtain ⟨m,hm⟩:=hr
   split at h
   ·rename_i b hb
    have hl:=hslot _ hb (by simp)
    have hv:=hm.env r _ hl
    generalize hvv:a.tmps.getD r undef=vv at hv
    cases hv
    have hy:=hyield b hvv
    simp only [Option.some.injEq] at h
    subst h
    cases want<;>cases b<;>simp [Region.wanted,hg,hy]
   ·rename_i c b hb
    have hl:=hslot _ hb (by simp)
    have hv:=hm.env r _ hl
    simp only [Option.some.injEq] at h
    subst h
    cases hv with
    | opt _ _ _ _ h1 h2=>
     cases c with
     | true=>
      have h1':=h1 rfl
      generalize hvv:a.tmps.getD r undef=vv at h1'
      cases h1'
      have hy:=hyield b hvv
      cases want<;>cases b<;>simp [Region.wanted,hg,hy]
     | false=>
      have hy:=hyno (h2 rfl)
      cases want<;>simp [Region.wanted,hg,hy]
   ·simp at h
theorem Iy {s s':S} {o:Oper} (h:∀ r,r∈o.looksAt ops→s'.get r=s.get r):gd ops s' o=gd ops s o:=by
 unfold gd
 cases hg:o.guard with
 | none=>rfl
 | some jw=>
  obtain ⟨j,want⟩:=jw
  dsimp only
  cases hd:(ops[j]?).bind (·.dst) with
  | none=>rfl
  | some r=>
   dsimp only
   rw [h r (by simp [Oper.looksAt,hg,hd])]
theorem QS.plain {o:Oper} {s:S} {h h':oH} {v:AV} (hg:o.guard=none) (hop:∀ env,(∀ r,r∈o.looksAt ops→S.get ⟨s.n,env,[],0⟩ r=s.get r)→aB P w0 T0 o ⟨s.n,env,h.1,h.2⟩ (fun r s'=>r=v∧s'=⟨s.n,env,h'.1,h'.2⟩)) :
  QS P w0 T0 ops o s.n s.get h h' v:=by
 intro env he H a w K Qx hr hk
 rw [if_pos (by simp [Region.wanted,hg])]
 refine hop env he H a w K Qx hr ?_
 rintro r s' val w' ⟨rfl,rfl⟩ hr'
 exact hk val w' hr'
theorem QS.guarded {o:Oper} {s:S} {h h':oH} {v:AV} {c:Bool} (hg:gd ops s o=some (some c))
  (hop:c=true→∀ env,(∀ r,r∈o.looksAt ops→S.get ⟨s.n,env,[],0⟩ r=s.get r)→aB P w0 T0 o ⟨s.n,env,h.1,h.2⟩ (fun r s'=>r=v∧s'=⟨s.n,env,h'.1,h'.2⟩))
  (hno:c=false→h'=h∧Fv.below h.2 v=true):QS P w0 T0 ops o s.n s.get h h' (.opt c v):=by
 intro env he H a w K Qx hr hk
 have hgd:gd ops ⟨s.n,env,h.1,h.2⟩ o=some (some c):=by rw [←hg];exact Iy he
 rw [Gj hgd hr]
 cases c with
 | true=>
  simp only [if_true]
  refine hop rfl env he H a w K Qx hr ?_
  rintro r s' val w' ⟨rfl,rfl⟩ ⟨m',hm'⟩
  have hv:=hm'.held _ (.head _)
  exact hk val w' ⟨m',hm'.iI.hold (.opt true _ val hv.ids (fun _=>hv) (fun e=>by cases e))⟩
 | false=>
  obtain ⟨rfl,hb⟩:=hno rfl
  simp only [Bool.false_eq_true,if_false]
  obtain ⟨m,hm⟩:=hr
  exact hk undef w ⟨m,hm.hold (.opt false v undef hb (fun e=>by cases e) (fun _=>rfl))⟩
theorem zS {o:Oper} {s:S} (hl:∀ t,.tmp t∈dX o.op→t∈o.looksAt ops) {h:oH} {R:List (Nat × Item)} {N:Nat} {v:AV}
  (hv:lG P w0 T0 o ⟨s.n,dG s (dX o.op),h.1,h.2⟩ (fun r s'=>r=v∧s'.rows=R∧s'.next=N)) :
  ∀ env,(∀ r,r∈o.looksAt ops→S.get ⟨s.n,env,[],0⟩ r=s.get r)→aB P w0 T0 o ⟨s.n,env,h.1,h.2⟩ (fun r s'=>r=v∧s'=⟨s.n,env,R,N⟩):=by
 intro env he
 have e:dG ⟨s.n,env,h.1,h.2⟩ (dX o.op)=dG s (dX o.op):=fF _ fun t ht=>he t (hl t ht)
 have:=jm hv
 rw [←e] at this
 exact this.frame (s:=⟨s.n,env,h.1,h.2⟩) (jV _ _)
theorem zT {o:Oper} {s:S} (hl:∀ t,.tmp t∈dX o.op→t∈o.looksAt ops) {h:oH} {R:List (Nat × Item)} {N:Nat} {v:AV} (hc:dI s (dX o.op)=true)
  (hv:lG P w0 T0 o ⟨s.n,gu s (dX o.op),h.1,h.2⟩ (fun r s'=>r=v∧s'.rows=R∧s'.next=N)) :
  ∀ env,(∀ r,r∈o.looksAt ops→S.get ⟨s.n,env,[],0⟩ r=s.get r)→aB P w0 T0 o ⟨s.n,env,h.1,h.2⟩ (fun r s'=>r=v∧s'=⟨s.n,env,R,N⟩):=by
 intro env he
 have e:=fG (s:=s) (s':=⟨s.n,env,h.1,h.2⟩) (dX o.op) fun t ht=>he t (hl t ht)
 have:=jm hv
 rw [←e.1] at this
 exact this.frame (s:=⟨s.n,env,h.1,h.2⟩) (mD _ _ (by rw [e.2];exact hc))
theorem BM {o:Oper} {s:S} (hl:∀ t,.tmp t∈dX o.op→t∈o.looksAt ops) {h:oH} {R:List (Nat × Item)} {N:Nat} {pre:Prop} {b:Bool} (hg:pW ⟨s.n,dG s (dX o.op),R,N⟩ o.op=some (pre,b)) (hp:pre) (hok:oV o.op) :
  ∀ env,(∀ r,r∈o.looksAt ops→S.get ⟨s.n,env,[],0⟩ r=s.get r)→aB P w0 T0 o ⟨s.n,env,h.1,h.2⟩ (fun r s'=>r=.bool b∧s'=⟨s.n,env,h.1,h.2⟩):=by
 intro env he
 have e:dG ⟨s.n,env,h.1,h.2⟩ (dX o.op)=dG s (dX o.op):=fF _ fun t ht=>he t (hl t ht)
 have hg':pW ⟨s.n,dG s (dX o.op),h.1,h.2⟩ o.op=some (pre,b):=hg
 intro H a w next Q ⟨m,hm⟩ hn
 have hm1:=hm.restrict (jV ⟨s.n,env,h.1,h.2⟩ (dX o.op))
 rw [e] at hm1
 have hrun:=lU (P:=P) hg' hp hok ⟨m,hm1⟩
 unfold Oper.wp
 rw [hrun]
 exact hn _ _ (.bool b) w ⟨rfl,rfl⟩ ⟨m,hm.hold (.bool b)⟩
end
def lK (T:List Nat) (i q:Nat):Bool:=(T.getD i 0).testBit q
def NM (ops:Array Oper):List Nat:=
 ops.toList.foldl (fun acc o=>acc++[o.after.toList.foldl (fun s e=>bif Region.binds .any e then s ||| 2 ^ e.on ||| acc.getD e.on 0 else s) 0]) []
def iH (es:List Nat) (i:Nat):Nat:=(List.range i).countP fun j=>es.elem j
def ql (ops:Array Oper) (f:Nat→Oper→Bool):Bool:=(List.range ops.size).all fun i=>match ops[i]? with
 | some o=>f i o
 | none=>true
theorem dW {ops:Array Oper} {f:Nat→Oper→Bool} (h:ql ops f=true) {i:Nat} {o:Oper} (hi:ops[i]?=some o):f i o=true:=by
 have h1:=List.all_eq_true.1 h i (List.mem_range.2 (Array.getElem?_eq_some_iff.1 hi).1)
 simpa [hi] using h1
def IQ (ops:Array Oper) (es:List Nat) (tb:List (Nat × List Nat)) (T:List Nat):Bool:=
 Region.noSelect ops &&
 ql ops (fun (i:Nat) (o:Oper)=>o.after.all fun e=>!Region.binds .any e || decide (e.on<i)) &&
 ql ops (fun (i:Nat) (o:Oper)=>(List.range ops.size).all fun q=>!lK T i q || o.after.any fun e=>Region.binds .any e && (e.on == q || lK T e.on q)) &&
 ql ops (fun (i:Nat) (o:Oper)=>match o.dst with
  | none=>true
  | some r=>ql ops fun (j:Nat) (oj:Oper)=>j == i || oj.dst != some r) &&
 ql ops (fun (i:Nat) (o:Oper)=>ql ops fun (j:Nat) (oj:Oper)=>match oj.dst with
  | none=>true
  | some r=>!(o.looksAt ops).contains r || (lK T i j && decide (j<i)) || (!lK T i j && (decide (i<j) && lK T j i))) &&
 ql ops (fun (i:Nat) (o:Oper)=>(dX o.op).all fun x=>match x with
  | .tmp t=>(o.looksAt ops).contains t
  | _=>true) &&
 (List.range es.length).all (fun k=>match es[k]? with
  | some i=>decide (i<ops.size) && iH es i == k && (match es[k+1]? with
   | some i'=>lK T i' i
   | none=>true)
  | none=>true) &&
 ql ops (fun (i:Nat) (o:Oper)=>es.elem i || (List.range (es.length+1)).all fun k=>k == iH es i || (jQ tb i).contains k || (es.drop k).any (fun e=>lK T i e) || (es.take k).any (fun e=>lK T e i)) &&
 iH es ops.size == es.length
structure jq (ops:Array Oper) (es:List Nat) (tb:List (Nat × List Nat)) (T:List Nat):Prop where
 sel:Region.noSelect ops=true
 low:∀ (i:Nat) (o:Oper),ops[i]?=some o→∀ e,e∈o.after→Region.binds .any e=true→e.on<i
 anc:∀ (i:Nat) (o:Oper),ops[i]?=some o→∀ q,q<ops.size→lK T i q=true→∃ e,e∈o.after∧Region.binds .any e=true∧(e.on=q∨lK T e.on q=true)
 dst:∀ (i:Nat) (o:Oper) (r j:Nat) (oj:Oper),ops[i]?=some o→ops[j]?=some oj→o.dst=some r→oj.dst=some r→j=i
 look:∀ (i:Nat) (o:Oper) (r j:Nat) (oj:Oper),ops[i]?=some o→ops[j]?=some oj→oj.dst=some r→r∈o.looksAt ops→(lK T i j=true∧j<i)∨(lK T i j=false∧i<j∧lK T j i=true)
 reads:∀ (i:Nat) (o:Oper),ops[i]?=some o→∀ t,.tmp t∈dX o.op→t∈o.looksAt ops
 es1:∀ k i,es[k]?=some i→i<ops.size∧iH es i=k
 es2:∀ k i i',es[k]?=some i→es[k+1]?=some i'→lK T i' i=true
 heaps:∀ (i:Nat) (o:Oper),ops[i]?=some o→es.elem i=false→∀ k,k≤es.length→k=iH es i∨k∈jQ tb i∨(∃ k' e,k≤k'∧es[k']?=some e∧lK T i e=true)∨(∃ k' e,k'<k∧es[k']?=some e∧lK T e i=true)
 tot:iH es ops.size=es.length
theorem jq.of {ops:Array Oper} {es:List Nat} {tb:List (Nat × List Nat)} {T:List Nat} (h:IQ ops es tb T=true):jq ops es tb T:=by
 simp only [IQ,Bool.and_eq_true] at h
 obtain ⟨⟨⟨⟨⟨⟨⟨⟨h1,h2⟩,h3⟩,h4⟩,h5⟩,h6⟩,h7⟩,h8⟩,h9⟩:=h
 refine ⟨h1,?_,?_,?_,?_,?_,?_,?_,?_,by simpa using h9⟩
 ·intro i o hi e he hb
  have:=dW h2 hi
  have:=Array.all_eq_true_iff_forall_mem.1 this e he
  simpa [hb] using this
 ·intro i o hi q hq hb
  have:=dW h3 hi
  have:=List.all_eq_true.1 this q (List.mem_range.2 hq)
  simp only [hb,Bool.not_true,Bool.false_or] at this
  obtain ⟨e,he,hh⟩:=Array.any_eq_true'.1 this
  simp only [Bool.and_eq_true,Bool.or_eq_true,beq_iff_eq] at hh
  exact ⟨e,he,hh.1,hh.2⟩
 ·intro i o r j oj hi hj hd hdj
  have:=dW h4 hi
  rw [hd] at this
  have:=dW this hj
  simp only [Bool.or_eq_true,beq_iff_eq,hdj,bne_self_eq_false,Bool.false_eq_true,or_false] at this
  exact this
 ·intro i o r j oj hi hj hd hr
  have:=dW (dW h5 hi) hj
  rw [hd] at this
  simp only [Bool.or_eq_true,Bool.not_eq_true',Bool.and_eq_true,decide_eq_true_eq] at this
  rcases this with (h0|h0)|h0
  ·have:(o.looksAt ops).contains r=true:=by simpa using hr
   rw [this] at h0;cases h0
  ·exact .inl h0
  ·exact .inr h0
 ·intro i o hi t ht
  have:=List.all_eq_true.1 (dW h6 hi) _ ht
  simpa using this
 ·intro k i hk
  have hlt:k<es.length:=(List.getElem?_eq_some_iff.1 hk).1
  have:=List.all_eq_true.1 h7 k (List.mem_range.2 hlt)
  rw [hk] at this
  simp only [Bool.and_eq_true,decide_eq_true_eq,beq_iff_eq] at this
  exact this.1
 ·intro k i i' hk hk'
  have hlt:k<es.length:=(List.getElem?_eq_some_iff.1 hk).1
  have:=List.all_eq_true.1 h7 k (List.mem_range.2 hlt)
  rw [hk,hk'] at this
  simp only [Bool.and_eq_true] at this
  exact this.2
 ·intro i o hi he k hk
  have:=dW h8 hi
  rw [he,Bool.false_or] at this
  have:=List.all_eq_true.1 this k (List.mem_range.2 (by omega))
  simp only [Bool.or_eq_true,beq_iff_eq,List.any_eq_true,List.contains_iff_mem] at this
  rcases this with ((h0|h0)|⟨e,he,hb⟩)|⟨e,he,hb⟩
  ·exact .inl h0
  ·exact .inr (.inl h0)
  ·obtain ⟨q,hq⟩:=List.mem_iff_getElem?.1 he
   rw [List.getElem?_drop] at hq
   exact .inr (.inr (.inl ⟨k+q,e,by omega,hq,hb⟩))
  ·obtain ⟨q,hq⟩:=List.mem_iff_getElem?.1 he
   rw [List.getElem?_take] at hq
   split at hq
   ·exact .inr (.inr (.inr ⟨q,e,by assumption,hq,hb⟩))
   ·cases hq
def EZ (ops:Array Oper) (r:Nat):Option Nat:=(List.range ops.size).find? fun i=>match ops[i]? with
 | some o=>o.dst == some r
 | none=>false
theorem jM {ops:Array Oper} {r j:Nat} (h:EZ ops r=some j):∃ o,ops[j]?=some o∧o.dst=some r:=by
 have:=List.find?_some h
 cases ho:ops[j]? with
 | none=>rw [ho] at this;cases this
 | some o=>rw [ho] at this;exact ⟨o,rfl,by simpa using this⟩
theorem jq.EZ {ops:Array Oper} {es:List Nat} {tb:List (Nat × List Nat)} {T:List Nat} (h:jq ops es tb T) {i:Nat} {o:Oper} {r:Nat} (hi:ops[i]?=some o) (hd:o.dst=some r):Fv.EZ ops r=some i:=by
 cases hx:Fv.EZ ops r with
 | none=>
  have:=List.find?_eq_none.1 hx i (List.mem_range.2 (Array.getElem?_eq_some_iff.1 hi).1)
  simp [hi,hd] at this
 | some j=>
  obtain ⟨oj,hj,hdj⟩:=jM hx
  rw [h.dst i o r j oj hi hj hd hdj]
section
variable {P:Program} {w0:World} {T0:Bs} {ops:Array Oper} {es:List Nat} {tb:List (Nat × List Nat)} {T:List Nat} [hG:lC P w0 T0]
def gB (ops:Array Oper) (s0:S) (vs:List AV) (i r:Nat):AV:=match EZ ops r with
 | some j=>if j<i then vs.getD j .dead else s0.get r
 | none=>s0.get r
theorem QS.congr {o:Oper} {n:Nat} {get get':Nat→AV} {h h':oH} {v:AV} (hq:QS P w0 T0 ops o n get h h' v) (he:∀ r,r∈o.looksAt ops→get' r=get r):QS P w0 T0 ops o n get' h h' v:=
 fun env hen=>hq env fun r hr=>(hen r hr).trans (he r hr)
structure pF (P:Program) (w0:World) (T0:Bs) (ops:Array Oper) (es:List Nat) (s0:S) (i:Nat) (vs:List AV) (hs:List oH):Prop where
 quiet:∀ j o,j<i→ops[j]?=some o→es.elem j=false→∃ h,hs[iH es j]?=some h∧QS P w0 T0 ops o s0.n (gB ops s0 vs j) h h (vs.getD j .dead)
 eff:∀ j o,j<i→ops[j]?=some o→es.elem j=true→∃ h h',hs[iH es j]?=some h∧hs[iH es j+1]?=some h'∧QS P w0 T0 ops o s0.n (gB ops s0 vs j) h h' (vs.getD j .dead)
 put:∀ j o d,j<i→ops[j]?=some o→o.dst=some d→d<s0.n
theorem iq {s0:S} {vs:List AV} {v:AV} {j:Nat} (h:j≤vs.length) (r:Nat):gB ops s0 (vs++[v]) j r=gB ops s0 vs j r:=by
 unfold gB
 split
 ·rename_i q _
  split
  ·rename_i hq
   simp only [List.getD_eq_getElem?_getD]
   rw [List.getElem?_append_left (by omega)]
  ·rfl
 ·rfl
theorem lV {vs:List AV} {v:AV} {j:Nat} (h:j<vs.length):(vs++[v]).getD j .dead=vs.getD j .dead:=by
 simp only [List.getD_eq_getElem?_getD]
 rw [List.getElem?_append_left h]
theorem gX {vs:List AV} {v:AV}:(vs++[v]).getD vs.length .dead=v:=by
 simp [List.getD_eq_getElem?_getD]
theorem yQ (i:Nat):iH es (i+1)=iH es i+(bif es.elem i then 1 else 0):=by
 unfold iH
 rw [List.range_succ,List.countP_append,List.countP_singleton]
 cases es.elem i<;>rfl
def mF (P:Program) (w0:World) (T0:Bs) (n:Nat) (x:Acc) (h:oH):Prop:=match x.g with
 | none=>Jq P w0 T0 x.o ⟨n,x.env,h.1,h.2⟩ x.v
 | some c=>Fv.below h.2 x.v=true∧(c=true→Jq P w0 T0 x.o ⟨n,x.env,h.1,h.2⟩ x.v)
theorem wF {n:Nat} {x:Acc} {hs:List oH}:∀ {l:List Nat},yT P w0 T0 n x hs l→∀ k,k∈l→∃ h,hs[k]?=some h∧mF P w0 T0 n x h
 | k'::l,h,k,hk=>by
  unfold yT at h
  rcases List.mem_cons.1 hk with rfl|hk
  ·cases hh:hs[k]? with
   | none=>rw [hh] at h;exact h.1.elim
   | some q=>rw [hh] at h;exact ⟨q,rfl,h.1⟩
  ·exact wF h.2 k hk
theorem GV {n:Nat} {hs:List oH} (l:List Acc) (h:redo P w0 T0 n hs l) (x:Acc) (hx:x∈l) (k:Nat) (hk:k∈x.ks):∃ h,hs[k]?=some h∧mF P w0 T0 n x h:=by
 induction l with
 | nil=>cases hx
 | cons y l ih=>
  obtain ⟨h1,h2⟩:=(h:yT P w0 T0 n y hs y.ks∧redo P w0 T0 n hs l)
  rcases List.mem_cons.1 hx with rfl|hx
  ·exact wF h1 k hk
  ·exact ih h2 hx
theorem vY {ks:List Nat} {x y:Acc} {l:List Acc} (h:y∈l):y∈jE ks x l:=by
 unfold jE;split
 ·exact h
 ·exact .tail _ h
theorem tu {ks:List Nat} {x:Acc} {l:List Acc} {k:Nat} (h:k∈ks):x∈jE ks x l:=by
 unfold jE;split
 ·cases h
 ·exact .head _
def EO (P:Program) (w0:World) (T0:Bs) (ops:Array Oper) (es:List Nat) (tb:List (Nat × List Nat)) (s0:S) (i:Nat) (vs:List AV) (acc:List Acc):Prop:=
 ∀ j o,j<i→ops[j]?=some o→es.elem j=false→∀ k,k∈jQ tb j →
  (∀ h,QS P w0 T0 ops o s0.n (gB ops s0 vs j) h h (vs.getD j .dead))∨∃ x,x∈acc∧x.ks=jQ tb j∧∀ h,mF P w0 T0 s0.n x h→QS P w0 T0 ops o s0.n (gB ops s0 vs j) h h (vs.getD j .dead)
theorem Fz (hok:jq ops es tb T) {s0 s:S} {i:Nat} {o:Oper} {vs:List AV} {hs hs':List oH} {v:AV} {Q:S→Prop} (hi:ops[i]?=some o) (hlen:vs.length=i) (hn:s.n=s0.n) (hget:∀ r,s.get r=gB ops s0 vs i r)
  (hd:pF P w0 T0 ops es s0 i vs hs) (hlh:hs.length=iH es i+1) (hpre:∀ (k:Nat) (h:oH),hs[k]?=some h→hs'[k]?=some h)
  (hq:es.elem i=false→∃ h,hs'[iH es i]?=some h∧QS P w0 T0 ops o s0.n (gB ops s0 vs i) h h v)
  (he:es.elem i=true→∃ h h',hs'[iH es i]?=some h∧hs'[iH es i+1]?=some h'∧QS P w0 T0 ops o s0.n (gB ops s0 vs i) h h' v)
  (hput:dU o.dst v s Q):∃ s',Q s'∧s'.n=s0.n∧s'.rows=s.rows∧s'.next=s.next∧(∀ r,s'.get r=gB ops s0 (vs++[v]) (i+1) r)∧pF P w0 T0 ops es s0 (i+1) (vs++[v]) hs':=by
 have hnew:∀ d,o.dst=some d→gB ops s0 (vs++[v]) (i+1) d=v:=by
  intro d hdd
  unfold gB
  rw [hok.EZ hi hdd]
  simp only [Nat.lt_succ_self,if_true]
  rw [←hlen];exact gX
 have hold:∀ r,o.dst≠some r→gB ops s0 (vs++[v]) (i+1) r=s.get r:=by
  intro r hr
  rw [hget]
  unfold gB
  cases hx:EZ ops r with
  | none=>rfl
  | some j=>
   dsimp only
   have hne:j≠i:=by
    rintro rfl
    obtain ⟨oj,hj,hdj⟩:=jM hx
    rw [hi] at hj;cases hj
    exact hr hdj
   by_cases hji:j<i
   ·rw [if_pos hji,if_pos (by omega),lV (by omega)]
   ·rw [if_neg hji,if_neg (by omega)]
 have hdone:(∀ d,o.dst=some d→d<s0.n)→pF P w0 T0 ops es s0 (i+1) (vs++[v]) hs':=by
  intro hdn
  refine ⟨?_,?_,?_⟩
  ·intro j oj hj hoj hej
   by_cases e:j=i
   ·subst e
    rw [hi] at hoj;cases hoj
    obtain ⟨h,hh,hqs⟩:=hq hej
    refine ⟨h,hh,?_⟩
    rw [show (vs++[v]).getD j .dead=v from by rw [←hlen];exact gX]
    exact hqs.congr fun r _=>iq (by omega) r
   ·obtain ⟨h,hh,hqs⟩:=hd.quiet j oj (by omega) hoj hej
    refine ⟨h,hpre _ _ hh,?_⟩
    rw [lV (by omega)]
    exact hqs.congr fun r _=>iq (by omega) r
  ·intro j oj hj hoj hej
   by_cases e:j=i
   ·subst e
    rw [hi] at hoj;cases hoj
    obtain ⟨h,h',hh,hh',hqs⟩:=he hej
    refine ⟨h,h',hh,hh',?_⟩
    rw [show (vs++[v]).getD j .dead=v from by rw [←hlen];exact gX]
    exact hqs.congr fun r _=>iq (by omega) r
   ·obtain ⟨h,h',hh,hh',hqs⟩:=hd.eff j oj (by omega) hoj hej
    refine ⟨h,h',hpre _ _ hh,hpre _ _ hh',?_⟩
    rw [lV (by omega)]
    exact hqs.congr fun r _=>iq (by omega) r
  ·intro j oj d hj hoj hdj
   by_cases e:j=i
   ·subst e
    rw [hi] at hoj;cases hoj
    exact hdn d hdj
   ·exact hd.put j oj d (by omega) hoj hdj
 unfold dU at hput
 cases hdst:o.dst with
 | none=>
  rw [hdst] at hput
  exact ⟨s,hput,hn,rfl,rfl,fun r=>(hold r (by rw [hdst];simp)).symm,hdone fun d h=>by rw [hdst] at h;cases h⟩
 | some d=>
  rw [hdst] at hput
  dsimp only at hput
  split at hput
  ·rename_i hlt
   refine ⟨s.set d v,hput,hn,rfl,rfl,fun r=>?_,hdone fun d' h=>by rw [hdst] at h;cases h;rw [←hn];exact hlt⟩
   by_cases e:d=r
   ·subst e
    rw [hnew d hdst]
    simp [S.get,S.set,lk]
   ·rw [hold r (by rw [hdst];simpa using e)]
    simp [S.get,S.set,lk,e]
  ·exact hput.elim
end
end Go.Fv
/-
 Operations whose result is fixed by the state.
-/
namespace Go.Fv
open Go.RowKit
def dV (F:(AV→S→Prop)→Prop):Prop:=∀ K,F K→∃ v s',K v s'∧∀ K':AV→S→Prop,K' v s'→F K'
theorem dV.pure (v:AV) (s:S):dV (fun K=>K v s):=fun K h=>⟨v,s,h,fun _ h=>h⟩
theorem dV.chk {p:Prop} {F:(AV→S→Prop)→Prop} (h:dV F):dV (fun K=>aN p (F K)):=fun K hk=>by
 obtain ⟨v,s,h1,h2⟩:=h K hk.2
 exact ⟨v,s,h1,fun K' hk'=>⟨hk.1,h2 K' hk'⟩⟩
theorem dV.NI {k:IntKind} {e:Int} (s:S):dV (fun K=>dP k e (fun n=>K (.int k n) s)):=fun K h=>
 ⟨.int k (k.wrap e),s,h _ rfl (bF _ _),fun K' hk' n hn _=>by subst hn;exact hk'⟩
section
variable {P:Program} {w0:World} {T0:Bs} {s:S}
theorem KF (e:TypeId) (x:Operand):dV (y8 e x s):=by
 intro K h
 unfold y8 at h ⊢
 cases hb:eG (s.ev x) with
 | none=>rw [hb] at h;exact h.elim
 | some cs=>rw [hb] at h;exact (dV.pure _ _).chk K h
theorem Gu (e:TypeId):dV (nP P e s):=by
 intro K h
 unfold nP at h ⊢
 cases hb:zeroOf P e with
 | none=>rw [hb] at h;exact h.elim
 | some z=>rw [hb] at h;exact (dV.pure _ _).chk K h
theorem Gy (t:TypeId) (x v:Operand):dV (nU P t x v s):=by
 intro K h
 unfold nU at h ⊢
 cases hb:eG (s.ev v) with
 | none=>rw [hb] at h;exact h.elim
 | some cs=>
  rw [hb] at h
  refine (dV.chk ?_) K h
  intro K h
  cases hx:s.ev x<;>rw [hx] at h<;>try (exact h.elim)
  ·rename_i i off
   dsimp only at h ⊢
   cases hl:lk s.rows i with
   | none=>rw [hl] at h;exact h.elim
   | some it=>cases it with
    | row e r=>rw [hl] at h;exact h.elim
    | map _ _=>rw [hl] at h;exact h.elim
    | iter _ _ _=>rw [hl] at h;exact h.elim
    | siter _ _=>rw [hl] at h;exact h.elim
    | box e bs=>rw [hl] at h;exact (dV.pure _ _).chk K h
  ·rename_i i sz idx off
   dsimp only at h ⊢
   cases hl:lk s.rows i with
   | none=>rw [hl] at h;exact h.elim
   | some it=>cases it with
    | box e bs=>rw [hl] at h;exact h.elim
    | map _ _=>rw [hl] at h;exact h.elim
    | iter _ _ _=>rw [hl] at h;exact h.elim
    | siter _ _=>rw [hl] at h;exact h.elim
    | row e r=>
     rw [hl] at h
     refine (dV.chk ?_) K h
     intro K h
     cases hq:iV r idx off cs with
     | none=>rw [hq] at h;exact h.elim
     | some r'=>rw [hq] at h;exact (dV.pure _ _) K h
theorem IV (t:TypeId) (l c:Operand):dV (rY P t l c s):=by
 intro K h
 unfold rY at h ⊢
 split at h
 ·rename_i e k n k2 n2 h1 h2 h3
  cases hz:zeroOf P e with
  | none=>rw [hz] at h;exact h.elim
  | some z=>rw [hz] at h;exact (dV.pure _ _).chk.chk K h
 ·exact h.elim
theorem vT (t:TypeId) (len:Nat) (parts:Array (Nat × Operand)):dV (eP P t len parts s):=by
 intro K h
 unfold eP at h ⊢
 split at h
 ·rename_i e h1
  cases hz:zeroOf P e with
  | none=>rw [hz] at h;exact h.elim
  | some z=>
   rw [hz] at h
   refine (dV.chk (dV.chk ?_)) K h
   intro K h
   split at h
   ·rename_i r hr;exact dV.pure _ _ K h
   ·exact h.elim
 ·exact h.elim
theorem Gv (t:TypeId) (parts:Array (Nat × Operand)):dV (kT P t parts s):=by
 intro K h
 unfold kT at h ⊢
 split at h
 ·rename_i d z h1 h2
  refine (dV.chk (dV.chk ?_)) K h
  intro K h
  split at h
  ·rename_i r hr;exact dV.pure _ _ K h
  ·exact h.elim
 ·exact h.elim
theorem zI (fn:Fn) (first caps:Array Operand):dV (fC fn first caps s):=by
 intro K h
 unfold fC at h ⊢
 cases fn with
 | func f=>
  dsimp only at h ⊢
  cases hf:first.toList with
  | nil=>rw [hf] at h;exact (dV.pure _ _).chk K h
  | cons x l=>
   rw [hf] at h
   cases l with
   | nil=>exact (dV.pure _ _).chk K h
   | cons _ _=>exact h.elim
 | _=>exact h.elim
theorem sV (t t2:TypeId) (ax:AV) (y:Operand) (s:S):dV (gG P t t2 ax y s):=by
 intro K h
 unfold gG at h ⊢
 split at h
 ·rename_i e i h1 h2
  split at h
  ·rename_i e' r h3
   split at h
   ·rename_i r2 h4
    split at h
    ·rename_i r3 h5
     split at h
     ·rename_i z h6
      exact (dV.pure _ _).chk.chk.chk K h
     ·exact h.elim
    ·exact h.elim
   ·exact h.elim
  ·exact h.elim
 ·exact h.elim
theorem ji (t t2:TypeId) (x y:Operand):dV (iD P t t2 x y s):=sV t t2 _ y s
theorem sW (t t2:TypeId) (x y:Operand):dV (gI P t t2 x y s):=by
 intro K h
 unfold gI at h ⊢
 split at h
 ·rename_i r
  split at h
  ·split at h
   ·split at h
    ·exact (ji t t2 _ y).chk K h
    ·exact h.elim
   ·exact h.elim
  ·split at h
   ·exact (ji t t2 _ y).chk K h
   ·exact h.elim
  ·exact ji t t2 _ y K h
 ·split at h
  ·split at h
   ·split at h
    ·exact (sV t t2 _ y _).chk K h
    ·exact h.elim
   ·exact h.elim
  ·exact ji t t2 _ y K h
 ·exact ji t t2 _ y K h
theorem BR (t t2:TypeId) (x y:Operand):dV (iZ P t t2 x y s):=by
 intro K h
 unfold iZ at h ⊢
 cases hx:s.ev x<;>rw [hx] at h<;>try (exact sW t t2 x y K h)
 cases hy:s.ev y<;>rw [hy] at h<;>try (exact sW t t2 x y K h)
 dsimp only at h ⊢
 split at h
 ·split at h
  ·split at h
   ·split at h
    ·exact (dV.pure _ _).chk.chk K h
    ·exact h.elim
   ·exact h.elim
  ·exact h.elim
 ·exact h.elim
theorem KG (x:Operand):dV (wX x s):=by
 intro K h
 unfold wX at h ⊢
 split at h
 all_goals first|exact h.elim|(rename_i hx;exact dV.pure _ _ K h)
theorem BX (x:Operand) (i:Nat):dV (gK x i s):=by
 intro K h
 unfold gK at h ⊢
 split at h
 ·rename_i l hx
  split at h
  ·rename_i v hv;exact dV.pure _ _ K h
  ·exact h.elim
 ·exact h.elim
theorem MG (op:UnOp) (x:Operand):dV (EG op x s):=by
 intro K h
 unfold EG at h ⊢
 cases hx:s.ev x<;>rw [hx] at h<;>try (exact h.elim)
 ·cases op<;>first|exact h.elim|exact dV.pure _ _ K h
 ·cases op<;>first|exact h.elim|exact dV.NI _ K h
theorem BU (a b:TypeId) (x:Operand):dV (mP P a b x s):=by
 intro K h
 unfold mP at h ⊢
 split at h
 ·rename_i d1 d2 h1 h2
  cases d2<;>try (exact h.elim)
  ·cases hx:s.ev x<;>rw [hx] at h<;>try (exact h.elim)
   exact dV.NI _ K h
  ·cases hx:s.ev x<;>rw [hx] at h<;>try (exact h.elim)
   ·exact (dV.pure _ _).chk K h
   ·exact dV.pure _ _ K h
   ·rename_i r
    cases r<;>try (exact h.elim)
    rename_i k l
    cases k<;>try (exact h.elim)
    cases d1<;>try (exact h.elim)
    exact (dV.pure _ _).chk K h
   ·rename_i i
    dsimp only at h ⊢
    split at h
    ·rename_i l e h3 ; exact (dV.pure _ _).chk K h
    ·exact h.elim
 ·exact h.elim
theorem Gw (a b:TypeId) (x:Operand):dV (nR P a b x s):=by
 intro K h
 unfold nR at h ⊢
 split at h
 ·split at h
  ·exact ((dV.pure _ _).chk) K h
  ·exact h.elim
 ·split at h
  ·rename_i k n hn
   obtain ⟨hs,h⟩:=h
   split at h
   ·rename_i hl
    obtain ⟨r,s',h1,h2⟩:=dV.pure _ _ K h
    exact ⟨r,s',h1,fun K' h'=>⟨hs,by rw [if_pos hl];exact h2 K' h'⟩⟩
   ·rename_i hl
    obtain ⟨r,s',h1,h2⟩:=dV.pure _ _ K h
    exact ⟨r,s',h1,fun K' h'=>⟨hs,by rw [if_neg hl];exact h2 K' h'⟩⟩
  ·exact BU a b x K h
 ·exact BU a b x K h
theorem IW (m:Bool) (xs:List AV):dV (fun K=>Dz m xs (fun r=>K r s)):=by
 intro K h
 unfold Dz at h ⊢
 split at h
 ·exact (dV.pure _ s).chk K h
 ·exact (dV.pure _ s).chk K h
 ·exact h.elim
theorem Cb (t:TypeId) (x:Operand):dV (o9 P t x s):=by
 intro K h
 unfold o9 at h ⊢
 split at h
 ·split at h
  ·rename_i e h1
   split at h
   ·rename_i z h2;exact (dV.pure _ _).chk K h
   ·exact h.elim
  ·exact h.elim
 ·exact (dV.pure _ _).chk K h
 ·rename_i h1 h2
  exact (dV.pure _ _).chk K h
theorem BZ (t:TypeId) (r:Option Operand):dV (jW P t r s):=by
 intro K h
 cases r with
 | none=>exact dV.pure _ _ K h
 | some _=>exact h.elim
theorem Ed (t:TypeId) (x k v:Operand):dV (jY P t x k v s):=by
 intro K h
 unfold jY at h ⊢
 cases ht:P.underlying t with
 | none=>rw [ht] at h;exact h.elim
 | some d=>
  rw [ht] at h
  cases d<;>try (exact h.elim)
  dsimp only at h ⊢
  cases hx:s.ev x<;>rw [hx] at h<;>try (exact h.elim)
  dsimp only at h ⊢
  split at h
  ·rename_i hi
   exact ((dV.pure _ _).chk.chk) K h
  ·exact h.elim
theorem IU (ks vs:List AV) (k:AV) (z:Value) (i:Nat):dV (Gi ks vs k z i s):=by
 intro K h
 unfold Gi at h ⊢
 cases z<;>first|exact h.elim|exact ((dV.pure _ _).chk) K h
theorem Ec (t:TypeId) (x k:Operand):dV (jX P t x k s):=by
 intro K h
 unfold jX at h ⊢
 cases ht:P.underlying t with
 | none=>rw [ht] at h;exact h.elim
 | some d=>
  rw [ht] at h
  cases d<;>try (exact h.elim)
  rename_i kt et
  dsimp only at h ⊢
  cases hz:zeroOf P et with
  | none=>rw [hz] at h;exact h.elim
  | some z=>
   rw [hz] at h
   dsimp only at h ⊢
   cases hx:s.ev x<;>rw [hx] at h<;>try (exact h.elim)
   dsimp only at h ⊢
   split at h
   ·rename_i hi
    exact ((IU _ _ _ z _).chk.chk) K h
   ·exact h.elim
theorem zH (x st v:Operand):dV (gJ x st v s):=by
 intro K h
 unfold gJ at h ⊢
 cases hx:s.ev x<;>rw [hx] at h<;>try (exact h.elim)
 dsimp only at h ⊢
 split at h
 ·rename_i hi
  split at h
  ·rename_i hs
   exact ((dV.pure _ _).chk.chk) K h
  ·exact h.elim
 ·exact h.elim
theorem Gx (t:TypeId) (x:Operand):dV (nS P t x s):=by
 intro K h
 unfold nS at h ⊢
 cases ht:P.underlying t with
 | none=>rw [ht] at h;exact h.elim
 | some d=>
  rw [ht] at h
  cases d<;>try (exact h.elim)
  ·dsimp only at h ⊢
   cases hx:s.ev x<;>rw [hx] at h<;>try (exact h.elim)
   exact ((dV.pure _ _).chk) K h
  ·dsimp only at h ⊢
   cases hx:s.ev x<;>rw [hx] at h<;>try (exact h.elim)
   dsimp only at h ⊢
   split at h
   ·rename_i hi
    exact ((dV.pure _ _).chk) K h
   ·exact h.elim
theorem IX {o:Oper} (hl:vK o.op=true):dV (lG P w0 T0 o s):=by
 intro K h
 unfold lG at h ⊢
 cases ho:o.op<;>rw [ho] at h hl<;>try (cases hl;done)
 case move x=>exact Cb _ _ K h
 case assign x=>exact Cb _ _ K h
 case extract x i=>exact (BX x i).chk K h
 case makeFunc fn first caps=>exact zI _ _ _ K h
 case box e x=>exact KF _ _ K h
 case alloc e=>exact Gu _ K h
 case store t x v=>exact (Gy t x v).chk K h
 case nilCheck x=>exact (KG x).chk K h
 case makeSlice t l c=>exact (IV t l c).chk K h
 case unOp op t x=>exact (MG op x).chk K h
 case convert t t' x=>exact (Gw t t' x).chk K h
 case buildSlice t len parts=>exact vT _ _ _ K h
 case build t parts=>exact Gv _ _ K h
 case makeMap t r=>exact BZ _ _ K h
 case mapUpdate t x k v=>exact Ed _ _ _ _ K h
 case mapEntry t x k=>exact Ec _ _ _ K h
 case entryStore t x st v=>exact zH _ _ _ K h
 case range t x=>exact Gx _ _ K h
 case call c=>
  obtain ⟨callee,args,argTypes⟩:=c
  dsimp only [vK] at hl
  dsimp only [jl] at h ⊢
  cases callee with
  | builtin b=>
   cases b<;>try (cases hl;done)
   case append=>
    dsimp only at h ⊢
    split at h
    ·rename_i x y t t2 h1 h2
     exact (BR t t2 x y).chk K h
    ·exact h.elim
   case min=>exact (IW false _).chk K h
   case max=>exact (IW true _).chk K h
  | _=>cases hl
end
end Go.Fv
