/-
  A part of the proof of the claim: walks over the program's functions and the plain laws that these need. No condition of its own.
-/
import Derived.Test.YtkigppimkbkjoaaDoorFvPart7
import Derived.Test.YtkigppimkbkjoaaDoorFvPart8
set_option linter.unusedSectionVars false
set_option linter.unusedVariables false
set_option linter.unusedSimpArgs false
set_option linter.unnecessarySimpa false
/-
 Regions whose order is drawn: every order is walked, moves first.
-/
namespace Go.Fv
open Go.RowKit
section
variable {P:Program} {w0:World} {T0:Bs} {b0:Nat} {H:List (AV × Value)} [hG:mQ P w0 T0]
theorem AZ {ops:Array Oper} (hs:Region.noSelect ops=true) {Q:S→Prop}:∀ (t:tZ) (n:Nat) (listed:Array Bool) (q:Option (List Nat)),dQ ops t n listed q=true→∀ (s:S) (a:Act) (w:World),
  iq P w0 T0 ops t s Q→Rep w0 T0 H s a w →
  match q with
  | none=>wpAny P .any ops (fun e a' w'=>e=.normal∧∃ s',Q s'∧Rep w0 T0 H s' a' w') n listed a w
  | some l=>∃ n',n=n'+1∧∀ i,i∈l→wpOp P ops (fun e a' w'=>e=.normal∧∃ s',Q s'∧Rep w0 T0 H s' a' w') i (wpAny P .any ops (fun e a' w'=>e=.normal∧∃ s',Q s'∧Rep w0 T0 H s' a' w') n' (listed.setIfInBounds i true)) a w:=by
 intro t
 induction t with
 | done=>
  intro n listed q hok s a w h hr
  cases q with
  | none=>
   have hn:Region.ready .any ops listed=[]:=by
    cases n<;>simpa [dQ,List.isEmpty_iff] using hok
   exact wpAny_done hn ⟨rfl,s,h,hr⟩ n
  | some l=>cases n<;>simp [dQ] at hok
 | first i t ih=>
  intro n listed q hok s a w h hr
  cases n with
  | zero=>cases q<;>simp [dQ] at hok
  | succ n=>
   cases q with
   | some l=>simp [dQ] at hok
   | none=>
    simp only [dQ,Bool.and_eq_true] at hok
    obtain ⟨⟨⟨hm,hf⟩,hrd⟩,ht⟩:=hok
    unfold iq at h
    cases ho:ops[i]? with
    | none=>rw [ho] at h;exact h.elim
    | some o=>
     rw [ho] at h hm
     have hm':Ee o=true:=by simpa using hm
     have hg:o.guard=none:=by
      unfold Ee at hm';split at hm'<;>first|assumption|cases hm'
     have go:∀ x,(o.op=.move x∨o.op=.assign x)→aO (aj x) (eU o.dst (s.ev x) s (fun s'=>iq P w0 T0 ops t s' Q)) →
       wpAny P .any ops (fun e a' w'=>e=.normal∧∃ s',Q s'∧Rep w0 T0 H s' a' w') (n+1) listed a w:=by
      rintro x hx ⟨hxo,hk⟩
      have hrun:∀ w,(execOp a.eval o).run P w=.ok (.value (a.eval x)) w:=by
       intro w;unfold execOp;rcases hx with hx|hx<;>rw [hx]<;>rfl
      have hy:Yields P ops o (a.eval x) a:=.inl ⟨by simp [Region.wanted,hg],hrun⟩
      refine wpAny_take ho hs hf hrd (by rintro c a w ⟨h,_⟩;cases h) hy ?_
      obtain ⟨m,hm⟩:=hr
      obtain ⟨s',h2,hr2⟩:=Rep.put (⟨m,hm.hold (hm.ev x hxo)⟩:Rep w0 T0 ((s.ev x,a.eval x)::H) s a w) hk
      exact ih n _ none ht s' _ w h2 hr2
     dsimp only at h
     cases hop:o.op<;>rw [hop] at h<;>first|exact h.elim|skip
     ·exact go _ (.inl hop) h
     ·exact go _ (.inr hop) h
     ·obtain ⟨hxo,hk⟩:=h
      obtain ⟨m,hm⟩:=hr
      obtain ⟨r,v,hk',hrun,hv⟩:=mJ hop hxo hk hm
      have hy:Yields P ops o v a:=.inl ⟨by simp [Region.wanted,hg],hrun⟩
      refine wpAny_take ho hs hf hrd (by rintro c a w ⟨h,_⟩;cases h) hy ?_
      obtain ⟨s',h2,hr2⟩:=Rep.put (⟨m,hm.hold hv⟩:Rep w0 T0 ((r,v)::H) s a w) hk'
      exact ih n _ none ht s' _ w h2 hr2
 | cons i t r iht ihr=>
  intro n listed q hok s a w h hr
  unfold iq at h
  cases ho:ops[i]? with
  | none=>rw [ho] at h;exact h.elim
  | some o=>
   rw [ho] at h
   obtain ⟨h1,h2⟩:=h
   have one:∀ n',dQ ops t n' (listed.setIfInBounds i true) none=true→wpOp P ops (fun e a' w'=>e=.normal∧∃ s',Q s'∧Rep w0 T0 H s' a' w') i (wpAny P .any ops (fun e a' w'=>e=.normal∧∃ s',Q s'∧Rep w0 T0 H s' a' w') n' (listed.setIfInBounds i true)) a w:=by
    intro n' ht
    unfold wpOp
    rw [ho]
    have:=xC (Qc:=fun e a' w'=>e=.normal∧∃ s',Q s'∧Rep w0 T0 H s' a' w') h1 hr fun s' a' w' hk hr'=>iht n' _ none ht s' a' w' hk hr'
    dsimp only at this ⊢
    split
    ·rename_i hw;rw [if_pos hw] at this;exact .inl this
    ·rename_i hw;rw [if_neg hw] at this;exact this
   cases n with
   | zero=>cases q<;>simp [dQ] at hok
   | succ n=>
    cases q with
    | none=>
     cases hrd:Region.ready .any ops listed with
     | nil=>simp [dQ,hrd] at hok
     | cons j l=>
      simp only [dQ,hrd,Bool.and_eq_true,beq_iff_eq] at hok
      obtain ⟨⟨rfl,ht⟩,hrest⟩:=hok
      have:=ihr (n+1) listed (some l) hrest s a w h2 hr
      obtain ⟨n',hn,hall⟩:=this
      cases hn
      refine wpAny_all hrd (by simp) fun k hk=>?_
      cases List.mem_cons.1 hk with
      | inl e=>subst e;exact one n ht
      | inr e=>exact hall k e
    | some l=>
     cases l with
     | nil=>simp [dQ] at hok
     | cons j l=>
      simp only [dQ,Bool.and_eq_true,beq_iff_eq] at hok
      obtain ⟨⟨rfl,ht⟩,hrest⟩:=hok
      have:=ihr (n+1) listed (some l) hrest s a w h2 hr
      obtain ⟨n',hn,hall⟩:=this
      cases hn
      refine ⟨n,rfl,fun k hk=>?_⟩
      cases List.mem_cons.1 hk with
      | inl e=>subst e;exact one n ht
      | inr e=>exact hall k e
 | stop=>
  intro n listed q hok s a w h hr
  cases n<;>cases q<;>simp [dQ] at hok
  subst hok
  exact ⟨_,rfl,fun i hi=>by cases hi⟩
theorem aJ.drawn {s:S} {a:Act} {w:World} {m:Nat→Value} (h:aJ w0 T0 H s a w m):aJ w0 T0 H s a w.drew m:=by
 have hle:bQ (ah T0 w0.heap.size m s w) (ah T0 w0.heap.size m s w.drew):=
  gQ (Nat.le_refl _) (fun _ _=>rfl) (fun _ _ _=>rfl) fun i it b hi hb _=>⟨i,it,hi,hb⟩
 exact h.sS rfl rfl hle h.below.drew (fun i it hi=>⟨(h.rows i it hi).1,(h.rows i it hi).2.mono hle fun _ _=>rfl⟩) h.sep
theorem bT.intro {id:Nat} {ops:Array Oper} {s:S} {Q:S→Prop} (t:tZ) (hm:P.follows .mixedOrders=true) (hs:Region.noSelect ops=true) (ht:dQ ops t ops.size (Array.replicate ops.size false) none=true)
  (h:iq P w0 T0 ops t s Q):@bT P w0 T0 b0 id ops s ⟨Q⟩:=by
 intro H a w _ hr
 refine wp_region_any hm ?_
 have hr':Rep w0 T0 H s a { w with drawn:=w.drawn+1 }:=by
  obtain ⟨m,hm⟩:=hr
  exact ⟨m,hm.drawn⟩
 exact AZ hs t _ _ none ht s a _ h hr'
theorem bT.cut {id:Nat} {ops:Array Oper} {s:S} {Q:S→Prop} (t:tZ) (hm:P.follows .mixedOrders=true) (hs:Region.noSelect ops=true) (ht:dQ ops t ops.size (Array.replicate ops.size false) none=true) (shape:S)
  (h:iq P w0 T0 ops t s (fun s'=>bJ w0 T0 b0 s' shape)) (hk:Q shape):@bT P w0 T0 b0 id ops s ⟨Q⟩:=by
 intro H a w hH hr
 refine wp_mono (bT.intro (b0:=b0) (id:=id) t hm hs ht h H a w hH hr) ?_
 rintro e a' w' ⟨he,s',hq,hr'⟩
 exact ⟨he,shape,hk,hq H a' w' hH hr'⟩
end
end Go.Fv
/-
 Regions whose order is drawn: walked once, in the text's order. Operations that leave the abstract state as it is may come in any order;
 those that change it ('es') come in the text's order among themselves.
-/
namespace Go.Fv
open Go.RowKit
abbrev o9:=List (Nat × Item) × Nat
def dD:Op→List Operand
 | .move x=>[x]
 | .assign x=>[x]
 | .pick c x y=>[c,x,y]
 | .extract x _=>[x]
 | .makeFunc _ first caps=>first.toList++caps.toList
 | .box _ x=>[x]
 | .load _ x=>[x]
 | .store _ x v=>[x,v]
 | .nilCheck x=>[x]
 | .fieldAddr _ x _=>[x]
 | .indexAddr _ x i=>[x,i]
 | .makeSlice _ l c=>[l,c]
 | .binOp _ _ x y _=>[x,y]
 | .unOp _ _ x=>[x]
 | .convert _ _ x=>[x]
 | .index _ x i=>[x,i]
 | .lookup _ x i _=>[x,i]
 | .mapUpdate _ m k v=>[m,k,v]
 | .mapEntry _ m k=>[m,k]
 | .entryStore _ m t v=>[m,t,v]
 | .range _ x=>[x]
 | .next x _=>[x]
 | .field _ x _=>[x]
 | .slice _ x l h m=>x::(l.toList++(h.toList++m.toList))
 | .buildSlice _ _ ps=>ps.toList.map (·.2)
 | .build _ ps=>ps.toList.map (·.2)
 | .call c=>match c.callee with
  | .value f=>f::c.args.toList
  | _=>c.args.toList
 | _=>[]
def KU (v:AV):AV:=match v with
 | .opt _ v=>v
 | v=>v
def cO (s:S):List Operand→List (Nat × AV)
 | []=>[]
 | .tmp t::l=>(t,s.get t)::cO s l
 | .const _::l=>cO s l
 | .func _::l=>cO s l
 | .global _::l=>cO s l
def gV (s:S):List Operand→List (Nat × AV)
 | []=>[]
 | .tmp t::l=>(t,KU (s.get t))::gV s l
 | .const _::l=>gV s l
 | .func _::l=>gV s l
 | .global _::l=>gV s l
def gd (ops:Array Oper) (s:S) (o:Oper):Option (Option Bool):=
 match o.guard with
 | none=>some none
 | some (j,want)=>match (ops[j]?).bind (·.dst) with
  | some r=>match s.get r with
   | .bool b=>some (some (bif want then b else !b))
   | .opt c (.bool b)=>some (some (c && bif want then b else !b))
   | _=>none
  | none=>none
def G8 (P:Program) (w0:World) (T0:Bs) (o:Oper) (s1:S) (v:AV):Prop:=
 jU P w0 T0 o s1 (fun r s'=>r=v∧s'.rows=s1.rows∧s'.next=s1.next)
structure Acc where
 o:Oper
 g:Option Bool
 env:List (Nat × AV)
 v:AV
 ks:List Nat
def zf (P:Program) (w0:World) (T0:Bs) (n:Nat) (x:Acc) (hs:List o9):List Nat→Prop
 | []=>True
 | k::l=>(match hs[k]? with
  | some h=>match x.g with
   | none=>G8 P w0 T0 x.o ⟨n,x.env,h.1,h.2⟩ x.v
   | some c=>Fv.below h.2 x.v=true∧(c=true→G8 P w0 T0 x.o ⟨n,x.env,h.1,h.2⟩ x.v)
  | none=>False)∧zf P w0 T0 n x hs l
def redo (P:Program) (w0:World) (T0:Bs) (n:Nat) (hs:List o9):List Acc→Prop
 | []=>True
 | x::l=>zf P w0 T0 n x hs x.ks∧redo P w0 T0 n hs l
class QB where
 A:AV→Prop
 B:AV→Prop
class QC where
 A:AV→List (Nat × Item)→Nat→Prop
 B:AV→List (Nat × Item)→Nat→Prop
def QV [x:QB]:Prop:=∃ v,x.A v∧x.B v
def QE [x:QC]:Prop:=∃ v rows N,x.A v rows N∧x.B v rows N
theorem QV.intro {A B:AV→Prop} (v:AV) (h:A v) (k:B v):@QV ⟨A,B⟩:=⟨v,h,k⟩
theorem QE.intro {A B:AV→List (Nat × Item)→Nat→Prop} (v:AV) (rows:List (Nat × Item)) (N:Nat) (h:A v rows N) (k:B v rows N):@QE ⟨A,B⟩:=⟨v,rows,N,h,k⟩
def kJ (ks:List Nat) (x:Acc) (l:List Acc):List Acc:=match ks with
 | []=>l
 | _::_=>x::l
def kW (tb:List (Nat × List Nat)) (i:Nat):List Nat:=match lk tb i with
 | some l=>l
 | none=>[]
def pR:Op→Bool
 | .move _=>true
 | .assign _=>true
 | .extract _ _=>true
 | .makeFunc _ _ _=>true
 | .box _ _=>true
 | .alloc _=>true
 | .store _ _ _=>true
 | .nilCheck _=>true
 | .makeSlice _ _ _=>true
 | .unOp _ _ _=>true
 | .convert _ _ _=>true
 | .buildSlice _ _ _=>true
 | .build _ _=>true
 | .makeMap _ _=>true
 | .mapUpdate _ _ _ _=>true
 | .mapEntry _ _ _=>true
 | .entryStore _ _ _ _=>true
 | .range _ _=>true
 | .call c=>match c.callee with
  | .builtin .append=>true
  | .builtin .min=>true
  | .builtin .max=>true
  | _=>false
 | _=>false
def pI:List Nat→Nat→Bool
 | [],_=>false
 | j::l,i=>if i=j then true else pI l i
theorem vZ:∀ (l:List Nat) (i:Nat),pI l i=l.elem i
 | [],_=>rfl
 | j::l,i=>by
  simp only [pI,List.elem_cons,vZ l i]
  by_cases h:i=j
  ·simp [h]
  ·have:(i == j)=false:=by simpa using h
   rw [if_neg h,this]
/-! ### The walk: what comes behind is not looked at before it is reached -/
inductive QR where
 | val (v:AV) (p:Prop) (re:Bool)
 | lin
 | call
class NU where
 k:Option Bool→Prop
class NS where
 x:Prop
 y:Prop
class NT where
 k:AV→List (Nat × Item)→Nat→Prop
class NV where
 k:AV→Bool→Prop
 l:Prop
 c:Prop
def LC (x:Option (Option Bool)) [K:NU]:Prop:=match x with
 | some g=>K.k g
 | none=>False
def Le (b:Bool) [K:NS]:Prop:=match b with
 | true=>K.x
 | false=>K.y
def MG (v:AV) (t:S) [K:NT]:Prop:=K.k v t.rows t.next
def MR (x:QR) [K:NV]:Prop:=match x with
 | .val v p re=>aO p (K.k v re)
 | .lin=>K.l
 | .call=>K.c
theorem Iz (g:Option Bool) (k:Option Bool→Prop):@LC (some g) ⟨k⟩=k g:=rfl
theorem H7 (x y:Prop):@Le true ⟨x,y⟩=x:=rfl
theorem F9 (x y:Prop):@Le false ⟨x,y⟩=y:=rfl
theorem Lp (v:AV) (n:Nat) (env:List (Nat × AV)) (R:List (Nat × Item)) (N:Nat) (k:AV→List (Nat × Item)→Nat→Prop):@MG v ⟨n,env,R,N⟩ ⟨k⟩=k v R N:=rfl
theorem KG (v:AV) (p:Prop) (re:Bool) (k:AV→Bool→Prop) (l c:Prop):@MR (.val v p re) ⟨k,l,c⟩=aO p (k v re):=rfl
theorem KF (k:AV→Bool→Prop) (l c:Prop):@MR .lin ⟨k,l,c⟩=l:=rfl
theorem Jh (k:AV→Bool→Prop) (l c:Prop):@MR .call ⟨k,l,c⟩=c:=rfl
def uw (g:Option Bool) (v:AV):AV:=match g with
 | none=>v
 | some c=>.opt c v
def kZ (g:Option Bool) (s:S) (l:List Operand):List (Nat × AV):=match g with
 | none=>cO s l
 | some _=>gV s l
def eG (d:Option Nat) (n:Nat):Prop:=match d with
 | none=>True
 | some d=>d<n
def dV (d:Option Nat) (v:AV) (s:S):S:=match d with
 | none=>s
 | some d=>⟨s.n,(d,v)::s.env,s.rows,s.next⟩
def wZ (P:Program) (w0:World) (T0:Bs) (o:Oper) (g:Option Bool) (s:S) (v:AV):Prop:=match g with
 | none=>G8 P w0 T0 o ⟨s.n,cO s (dD o.op),s.rows,s.next⟩ v
 | some c=>Fv.below s.next v=true∧(c=true→dJ s (dD o.op)=true∧G8 P w0 T0 o ⟨s.n,gV s (dD o.op),s.rows,s.next⟩ v)
def Ji (P:Program) (w0:World) (T0:Bs) (o:Oper) (g:Option Bool) (s:S):QR:=
 match pK ⟨s.n,cO s (dD o.op),s.rows,s.next⟩ o.op with
 | some (pre,b)=>match g with
  | none=>.val (.bool b) (pre∧qp o.op) false
  | some c=>.val (.bool b) (c=true→pre∧qp o.op) false
 | none=>match IB P ⟨s.n,kZ g s (dD o.op),s.rows,s.next⟩ o.op with
  | some v=>.val v (wZ P w0 T0 o g s v) true
  | none=>match g,pR o.op with
   | none,true=>.lin
   | _,_=>.call
def jl (P:Program) (w0:World) (T0:Bs) (ops:Array Oper) (es:List Nat) (tb:List (Nat × List Nat)):List Oper→Nat→List Acc→List o9→S→(S→Prop)→Prop
 | [],_,acc,hs,s,Q=>redo P w0 T0 s.n hs acc∧Q s
 | o::rest,i,acc,hs,s,Q=>
  @LC (gd ops s o) ⟨fun g=>@Le (pI es i) ⟨
   match g with
   | none=>@Le (pR o.op) ⟨
     jU P w0 T0 o ⟨s.n,cO s (dD o.op),s.rows,s.next⟩ (fun v t=>@MG v t ⟨fun v R N=>aO (eG o.dst s.n) (jl P w0 T0 ops es tb rest (i+1) acc (hs++[(R,N)]) (dV o.dst v ⟨s.n,s.env,R,N⟩) Q)⟩),
     @QE ⟨fun v R N=>jU P w0 T0 o ⟨s.n,cO s (dD o.op),s.rows,s.next⟩ (fun r t=>r=v∧t.rows=R∧t.next=N),
      fun v R N=>aO (eG o.dst s.n) (jl P w0 T0 ops es tb rest (i+1) acc (hs++[(R,N)]) (dV o.dst v ⟨s.n,s.env,R,N⟩) Q)⟩⟩
   | some c=>@Ite c ⟨@QE ⟨fun v R N=>dJ s (dD o.op)=true∧jU P w0 T0 o ⟨s.n,gV s (dD o.op),s.rows,s.next⟩ (fun r t=>r=v∧t.rows=R∧t.next=N),
      fun v R N=>aO (eG o.dst s.n) (jl P w0 T0 ops es tb rest (i+1) acc (hs++[(R,N)]) (dV o.dst (.opt true v) ⟨s.n,s.env,R,N⟩) Q)⟩⟩
     ⟨aO (eG o.dst s.n) (jl P w0 T0 ops es tb rest (i+1) acc (hs++[(s.rows,s.next)]) (dV o.dst (.opt false (.bool false)) s) Q)⟩,
   @MR (Ji P w0 T0 o g s) ⟨
    fun v re=>aO (eG o.dst s.n) (jl P w0 T0 ops es tb rest (i+1) (bif re then kJ (kW tb i) ⟨o,g,kZ g s (dD o.op),v,kW tb i⟩ acc else acc) hs (dV o.dst (uw g v) s) Q),
    jU P w0 T0 o ⟨s.n,cO s (dD o.op),s.rows,s.next⟩ (fun v t=>@MG v t ⟨fun v R N=>aO (R=s.rows∧N=s.next) (aO (eG o.dst s.n) (jl P w0 T0 ops es tb rest (i+1) (kJ (kW tb i) ⟨o,g,kZ g s (dD o.op),v,kW tb i⟩ acc) hs (dV o.dst v s) Q))⟩),
    @QV ⟨fun v=>wZ P w0 T0 o g s v,
     fun v=>aO (eG o.dst s.n) (jl P w0 T0 ops es tb rest (i+1) (kJ (kW tb i) ⟨o,g,kZ g s (dD o.op),v,kW tb i⟩ acc) hs (dV o.dst (uw g v) s) Q)⟩⟩⟩⟩
theorem ig {d:Option Nat} {v:AV} {s:S} {Q:S→Prop} (h1:eG d s.n) (h2:Q (dV d v s)):eU d v s Q:=by
 unfold eU
 cases d with
 | none=>exact h2
 | some d=>simp only [eG] at h1;simp only [h1,if_true];exact h2
section
variable {P:Program} {w0:World} {T0:Bs} {ops:Array Oper} [hG:mQ P w0 T0]
def E8 (env1 env:List (Nat × AV)):Prop:=∀ r x,lk env1 r=some x→x=.dead∨lk env r=some x∨lk env r=some (.opt true x)
theorem aJ.restrict {H:List (AV × Value)} {s:S} {a:Act} {w:World} {m:Nat→Value} (h:aJ w0 T0 H s a w m) {env1:List (Nat × AV)} (he:E8 env1 s.env):aJ w0 T0 H { s with env:=env1 } a w m:=
 {size:=h.size,nodef:=h.nodef,below:=h.below,held:=h.held,rows:=h.rows,sep:=h.sep,
  env:=by
   intro r v hv
   rcases he r v hv with rfl|hx|hx
   ·exact .dead _
   ·exact h.env r v hx
   ·have:=h.env r _ hx
    cases this with
    | opt _ _ _ _ h1 _=>exact h1 rfl }
theorem aF.frame {o:Oper} {s:S} {env1:List (Nat × AV)} {v:AV} {R:List (Nat × Item)} {N:Nat} (h:aF P w0 T0 o { s with env:=env1 } (fun r s'=>r=v∧s'.rows=R∧s'.next=N)) (he:E8 env1 s.env) :
  aF P w0 T0 o s (fun r s'=>r=v∧s'={ s with rows:=R,next:=N }):=by
 intro H a w next Q ⟨m,hm⟩ hn
 let E:List (AV × Value):=s.env.map fun p=>(s.get p.1,a.tmps.getD p.1 undef)
 have hE:∀ r x,lk s.env r=some x→(x,a.tmps.getD r undef)∈E:=by
  intro r x hx
  have:∀ l:List (Nat × AV),lk l r=some x→∃ p,p∈l∧p.1=r:=by
   intro l
   induction l with
   | nil=>intro h;simp [lk] at h
   | cons q l ih=>
    intro h
    simp only [lk] at h
    split at h
    ·rename_i e;exact ⟨q,.head _,e⟩
    ·obtain ⟨p,hp,e⟩:=ih h;exact ⟨p,.tail _ hp,e⟩
  obtain ⟨p,hp,e⟩:=this _ hx
  refine List.mem_map.2 ⟨p,hp,?_⟩
  subst e
  simp [S.get,hx]
 have hm1:aJ w0 T0 (E++H) { s with env:=env1 } a w m:=by
  have h1:=hm.restrict he
  refine { h1 with held:=?_ }
  intro p hp
  rcases List.mem_append.1 hp with hp|hp
  ·obtain ⟨q,hq,rfl⟩:=List.mem_map.1 hp
   show Rv _ (s.get q.1) _
   simp only [S.get]
   cases hl:lk s.env q.1 with
   | none=>exact .dead _
   | some x=>exact hm.env _ _ hl
  ·exact hm.held p hp
 refine h (E++H) a w next Q ⟨m,hm1⟩ ?_
 rintro r s' val w' ⟨rfl,hr,hx⟩ ⟨m',hm'⟩
 refine hn _ _ val w' ⟨rfl,rfl⟩ ⟨m',?_⟩
 subst hr;subst hx
 refine { size:=hm.size,nodef:=hm'.nodef,below:=hm'.below,rows:=hm'.rows,sep:=hm'.sep,env:=?_,held:=?_ }
 ·intro r x hx
  exact hm'.held _ (List.mem_cons_of_mem _ (List.mem_append_left _ (hE r x hx)))
 ·intro p hp
  rcases List.mem_cons.1 hp with rfl|hp
  ·exact hm'.held _ (.head _)
  ·exact hm'.held p (List.mem_cons_of_mem _ (List.mem_append_right _ hp))
theorem lq (s:S):∀ l:List Operand,E8 (cO s l) s.env
 | []=>by intro r x h;simp [cO,lk] at h
 | .tmp t::l=>by
  intro r x h
  simp only [cO,lk] at h
  split at h
  ·rename_i e;subst e;cases h
   simp only [S.get]
   cases hl:lk s.env t with
   | none=>exact .inl rfl
   | some y=>exact .inr (.inl rfl)
  ·exact lq s l r x h
 | .const _::l=>by intro r x h;exact lq s l r x h
 | .func _::l=>by intro r x h;exact lq s l r x h
 | .global _::l=>by intro r x h;exact lq s l r x h
theorem nT (s:S):∀ l:List Operand,dJ s l=true→E8 (gV s l) s.env
 | [],_=>by intro r x h;simp [gV,lk] at h
 | .tmp t::l,hc=>by
  intro r x h
  simp only [dJ] at hc
  simp only [gV,lk] at h
  split at h
  ·rename_i e;subst e;cases h
   cases hg:s.get t with
   | opt c v=>
    rw [hg] at hc
    simp only [Bool.and_eq_true] at hc
    simp only [S.get] at hg
    cases hl:lk s.env t with
    | none=>rw [hl] at hg;cases hg
    | some y=>rw [hl] at hg;simp only at hg;subst hg;rw [hc.1];exact .inr (.inr rfl)
   | _=>
    simp only [S.get] at hg
    cases hl:lk s.env t with
    | none=>rw [hl] at hg;simp only at hg;first|(cases hg;done)|(cases hg;exact .inl rfl)
    | some y=>rw [hl] at hg;simp only at hg;subst hg;exact .inr (.inl rfl)
  ·refine nT s l ?_ r x h
   split at hc
   ·simp only [Bool.and_eq_true] at hc;exact hc.2
   ·exact hc
 | .const _::l,hc=>by intro r x h;exact nT s l (by simpa [dJ] using hc) r x h
 | .func _::l,hc=>by intro r x h;exact nT s l (by simpa [dJ] using hc) r x h
 | .global _::l,hc=>by intro r x h;exact nT s l (by simpa [dJ] using hc) r x h
theorem gy {s s':S}:∀ l:List Operand,(∀ t,.tmp t∈l→s'.get t=s.get t)→cO s' l=cO s l
 | [],_=>rfl
 | .tmp t::l,h=>by simp only [cO];rw [h t (.head _),gy l fun t ht=>h t (.tail _ ht)]
 | .const _::l,h=>by simp only [cO];exact gy l fun t ht=>h t (.tail _ ht)
 | .func _::l,h=>by simp only [cO];exact gy l fun t ht=>h t (.tail _ ht)
 | .global _::l,h=>by simp only [cO];exact gy l fun t ht=>h t (.tail _ ht)
theorem gB {s s':S}:∀ l:List Operand,(∀ t,.tmp t∈l→s'.get t=s.get t)→gV s' l=gV s l∧dJ s' l=dJ s l
 | [],_=>⟨rfl,rfl⟩
 | .tmp t::l,h=>by simp only [gV,dJ];rw [h t (.head _),(gB l fun t ht=>h t (.tail _ ht)).1,(gB l fun t ht=>h t (.tail _ ht)).2];exact ⟨rfl,rfl⟩
 | .const _::l,h=>by simp only [gV,dJ];exact gB l fun t ht=>h t (.tail _ ht)
 | .func _::l,h=>by simp only [gV,dJ];exact gB l fun t ht=>h t (.tail _ ht)
 | .global _::l,h=>by simp only [gV,dJ];exact gB l fun t ht=>h t (.tail _ ht)
def QS (P:Program) (w0:World) (T0:Bs) (ops:Array Oper) (o:Oper) (n:Nat) (get:Nat→AV) (h h':o9) (v:AV):Prop:=
 ∀ env,(∀ r,r∈o.looksAt ops→S.get ⟨n,env,[],0⟩ r=get r) →
  ∀ (H:List (AV × Value)) (a:Act) (w:World) (K:Act→World→Prop) (Qx:Exit→Act→World→Prop),Rep w0 T0 H ⟨n,env,h.1,h.2⟩ a w →
   (∀ val w',Rep w0 T0 ((v,val)::H) ⟨n,env,h'.1,h'.2⟩ a w'→K (a.put o.dst val) w') →
   if Region.wanted o (yielded ops a.tmps)=true then o.wp P a w K Qx else K (a.put o.dst undef) w
theorem jv {s:S} {o:Oper} (h:gd ops s o=some none):o.guard=none:=by
 unfold gd at h
 split at h
 ·assumption
 ·split at h
  ·split at h<;>simp at h
  ·simp at h
theorem Gl {H:List (AV × Value)} {s:S} {o:Oper} {c:Bool} (h:gd ops s o=some (some c)) {a:Act} {w:World} (hr:Rep w0 T0 H s a w):Region.wanted o (yielded ops a.tmps)=c:=by
 unfold gd at h
 cases hg:o.guard with
 | none=>rw [hg] at h;simp at h
 | some jw=>
  obtain ⟨j,want⟩:=jw
  rw [hg] at h
  dsimp only at h
  cases hd:(ops[j]?).bind (·.dst) with
  | none=>rw [hd] at h;simp at h
  | some r=>
   rw [hd] at h
   dsimp only at h
   have hslot:∀ x,s.get r=x→x≠.dead→lk s.env r=some x:=by
    intro x hx hne
    simp only [S.get] at hx
    cases hl:lk s.env r with
    | none=>rw [hl] at hx;exact absurd hx.symm hne
    | some y=>rw [hl] at hx;exact congrArg some hx
   have hyield:∀ b,a.tmps.getD r undef=.bool b→yielded ops a.tmps j=some b:=by
    intro b hvv
    have h1:a.tmps[r]?=some (.bool b):=by
     rw [Array.getD_eq_getD_getElem?] at hvv
     cases hq:a.tmps[r]? with
     | none=>rw [hq] at hvv;simp [undef] at hvv
     | some y=>rw [hq] at hvv;simpa using hvv
    simp [yielded,hd,h1]
   have hyno:a.tmps.getD r undef=undef→yielded ops a.tmps j=none:=by
    intro hvv
    cases hq:a.tmps[r]? with
    | none=>simp [yielded,hd,hq]
    | some y=>
     rw [Array.getD_eq_getD_getElem?,hq] at hvv
     have:y=undef:=by simpa using hvv
     subst this
     simp [yielded,hd,hq,undef]
   obtain ⟨m,hm⟩:=hr
   split at h
   ·rename_i b hb
    have hl:=hslot _ hb (by simp)
    have hv:=hm.env r _ hl
    generalize hvv:a.tmps.getD r undef=vv at hv
    cases hv
    have hy:=hyield b hvv
    simp only [Option.some.injEq] at h
    subst h
    cases want<;>cases b<;>simp [Region.wanted,hg,hy]
   ·rename_i c b hb
    have hl:=hslot _ hb (by simp)
    have hv:=hm.env r _ hl
    simp only [Option.some.injEq] at h
    subst h
    cases hv with
    | opt _ _ _ _ h1 h2=>
     cases c with
     | true=>
      have h1':=h1 rfl
      generalize hvv:a.tmps.getD r undef=vv at h1'
      cases h1'
      have hy:=hyield b hvv
      cases want<;>cases b<;>simp [Region.wanted,hg,hy]
     | false=>
      have hy:=hyno (h2 rfl)
      cases want<;>simp [Region.wanted,hg,hy]
   ·simp at h
theorem IC {s s':S} {o:Oper} (h:∀ r,r∈o.looksAt ops→s'.get r=s.get r):gd ops s' o=gd ops s o:=by
 unfold gd
 cases hg:o.guard with
 | none=>rfl
 | some jw=>
  obtain ⟨j,want⟩:=jw
  dsimp only
  cases hd:(ops[j]?).bind (·.dst) with
  | none=>rfl
  | some r=>
   dsimp only
   rw [h r (by simp [Oper.looksAt,hg,hd])]
theorem QS.plain {o:Oper} {s:S} {h h':o9} {v:AV} (hg:o.guard=none) (hop:∀ env,(∀ r,r∈o.looksAt ops→S.get ⟨s.n,env,[],0⟩ r=s.get r)→aF P w0 T0 o ⟨s.n,env,h.1,h.2⟩ (fun r s'=>r=v∧s'=⟨s.n,env,h'.1,h'.2⟩)) :
  QS P w0 T0 ops o s.n s.get h h' v:=by
 intro env he H a w K Qx hr hk
 rw [if_pos (by simp [Region.wanted,hg])]
 refine hop env he H a w K Qx hr ?_
 rintro r s' val w' ⟨rfl,rfl⟩ hr'
 exact hk val w' hr'
theorem QS.guarded {o:Oper} {s:S} {h h':o9} {v:AV} {c:Bool} (hg:gd ops s o=some (some c))
  (hop:c=true→∀ env,(∀ r,r∈o.looksAt ops→S.get ⟨s.n,env,[],0⟩ r=s.get r)→aF P w0 T0 o ⟨s.n,env,h.1,h.2⟩ (fun r s'=>r=v∧s'=⟨s.n,env,h'.1,h'.2⟩))
  (hno:c=false→h'=h∧Fv.below h.2 v=true):QS P w0 T0 ops o s.n s.get h h' (.opt c v):=by
 intro env he H a w K Qx hr hk
 have hgd:gd ops ⟨s.n,env,h.1,h.2⟩ o=some (some c):=by rw [←hg];exact IC he
 rw [Gl hgd hr]
 cases c with
 | true=>
  simp only [if_true]
  refine hop rfl env he H a w K Qx hr ?_
  rintro r s' val w' ⟨rfl,rfl⟩ ⟨m',hm'⟩
  have hv:=hm'.held _ (.head _)
  exact hk val w' ⟨m',hm'.lY.hold (.opt true _ val hv.ids (fun _=>hv) (fun e=>by cases e))⟩
 | false=>
  obtain ⟨rfl,hb⟩:=hno rfl
  simp only [Bool.false_eq_true,if_false]
  obtain ⟨m,hm⟩:=hr
  exact hk undef w ⟨m,hm.hold (.opt false v undef hb (fun e=>by cases e) (fun _=>rfl))⟩
theorem lW {o:Oper} {s:S} (hl:∀ t,.tmp t∈dD o.op→t∈o.looksAt ops) {h:o9} {R:List (Nat × Item)} {N:Nat} {v:AV}
  (hv:jU P w0 T0 o ⟨s.n,cO s (dD o.op),h.1,h.2⟩ (fun r s'=>r=v∧s'.rows=R∧s'.next=N)) :
  ∀ env,(∀ r,r∈o.looksAt ops→S.get ⟨s.n,env,[],0⟩ r=s.get r)→aF P w0 T0 o ⟨s.n,env,h.1,h.2⟩ (fun r s'=>r=v∧s'=⟨s.n,env,R,N⟩):=by
 intro env he
 have e:cO ⟨s.n,env,h.1,h.2⟩ (dD o.op)=cO s (dD o.op):=gy _ fun t ht=>he t (hl t ht)
 have:=jT hv
 rw [←e] at this
 exact this.frame (s:=⟨s.n,env,h.1,h.2⟩) (lq _ _)
theorem oO {o:Oper} {s:S} (hl:∀ t,.tmp t∈dD o.op→t∈o.looksAt ops) {h:o9} {R:List (Nat × Item)} {N:Nat} {v:AV} (hc:dJ s (dD o.op)=true)
  (hv:jU P w0 T0 o ⟨s.n,gV s (dD o.op),h.1,h.2⟩ (fun r s'=>r=v∧s'.rows=R∧s'.next=N)) :
  ∀ env,(∀ r,r∈o.looksAt ops→S.get ⟨s.n,env,[],0⟩ r=s.get r)→aF P w0 T0 o ⟨s.n,env,h.1,h.2⟩ (fun r s'=>r=v∧s'=⟨s.n,env,R,N⟩):=by
 intro env he
 have e:=gB (s:=s) (s':=⟨s.n,env,h.1,h.2⟩) (dD o.op) fun t ht=>he t (hl t ht)
 have:=jT hv
 rw [←e.1] at this
 exact this.frame (s:=⟨s.n,env,h.1,h.2⟩) (nT _ _ (by rw [e.2];exact hc))
theorem qQ {o:Oper} {s:S} (hl:∀ t,.tmp t∈dD o.op→t∈o.looksAt ops) {h:o9} {R:List (Nat × Item)} {N:Nat} {pre:Prop} {b:Bool} (hg:pK ⟨s.n,cO s (dD o.op),R,N⟩ o.op=some (pre,b)) (hp:pre) (hok:qp o.op) :
  ∀ env,(∀ r,r∈o.looksAt ops→S.get ⟨s.n,env,[],0⟩ r=s.get r)→aF P w0 T0 o ⟨s.n,env,h.1,h.2⟩ (fun r s'=>r=.bool b∧s'=⟨s.n,env,h.1,h.2⟩):=by
 intro env he
 have e:cO ⟨s.n,env,h.1,h.2⟩ (dD o.op)=cO s (dD o.op):=gy _ fun t ht=>he t (hl t ht)
 have hg':pK ⟨s.n,cO s (dD o.op),h.1,h.2⟩ o.op=some (pre,b):=hg
 intro H a w next Q ⟨m,hm⟩ hn
 have hm1:=hm.restrict (lq ⟨s.n,env,h.1,h.2⟩ (dD o.op))
 rw [e] at hm1
 have hrun:=nI (P:=P) hg' hp hok ⟨m,hm1⟩
 unfold Oper.wp
 rw [hrun]
 exact hn _ _ (.bool b) w ⟨rfl,rfl⟩ ⟨m,hm.hold (.bool b)⟩
end
def mM (T:List Nat) (i q:Nat):Bool:=(T.getD i 0).testBit q
def CX (ops:Array Oper):List Nat:=
 ops.toList.foldl (fun acc o=>acc++[o.after.toList.foldl (fun s e=>bif Region.binds .any e then s ||| 2 ^ e.on ||| acc.getD e.on 0 else s) 0]) []
def jg (es:List Nat) (i:Nat):Nat:=(List.range i).countP fun j=>es.elem j
def qX (ops:Array Oper) (f:Nat→Oper→Bool):Bool:=(List.range ops.size).all fun i=>match ops[i]? with
 | some o=>f i o
 | none=>true
theorem fB {ops:Array Oper} {f:Nat→Oper→Bool} (h:qX ops f=true) {i:Nat} {o:Oper} (hi:ops[i]?=some o):f i o=true:=by
 have h1:=List.all_eq_true.1 h i (List.mem_range.2 (Array.getElem?_eq_some_iff.1 hi).1)
 simpa [hi] using h1
def CG (ops:Array Oper) (es:List Nat) (tb:List (Nat × List Nat)) (T:List Nat):Bool:=
 Region.noSelect ops &&
 qX ops (fun (i:Nat) (o:Oper)=>o.after.all fun e=>!Region.binds .any e || decide (e.on<i)) &&
 qX ops (fun (i:Nat) (o:Oper)=>(List.range ops.size).all fun q=>!mM T i q || o.after.any fun e=>Region.binds .any e && (e.on == q || mM T e.on q)) &&
 qX ops (fun (i:Nat) (o:Oper)=>match o.dst with
  | none=>true
  | some r=>qX ops fun (j:Nat) (oj:Oper)=>j == i || oj.dst != some r) &&
 qX ops (fun (i:Nat) (o:Oper)=>qX ops fun (j:Nat) (oj:Oper)=>match oj.dst with
  | none=>true
  | some r=>!(o.looksAt ops).contains r || (mM T i j && decide (j<i)) || (!mM T i j && (decide (i<j) && mM T j i))) &&
 qX ops (fun (i:Nat) (o:Oper)=>(dD o.op).all fun x=>match x with
  | .tmp t=>(o.looksAt ops).contains t
  | _=>true) &&
 (List.range es.length).all (fun k=>match es[k]? with
  | some i=>decide (i<ops.size) && jg es i == k && (match es[k+1]? with
   | some i'=>mM T i' i
   | none=>true)
  | none=>true) &&
 qX ops (fun (i:Nat) (o:Oper)=>es.elem i || (List.range (es.length+1)).all fun k=>k == jg es i || (kW tb i).contains k || (es.drop k).any (fun e=>mM T i e) || (es.take k).any (fun e=>mM T e i)) &&
 jg es ops.size == es.length
structure fK (ops:Array Oper) (es:List Nat) (tb:List (Nat × List Nat)) (T:List Nat):Prop where
 sel:Region.noSelect ops=true
 low:∀ (i:Nat) (o:Oper),ops[i]?=some o→∀ e,e∈o.after→Region.binds .any e=true→e.on<i
 anc:∀ (i:Nat) (o:Oper),ops[i]?=some o→∀ q,q<ops.size→mM T i q=true→∃ e,e∈o.after∧Region.binds .any e=true∧(e.on=q∨mM T e.on q=true)
 dst:∀ (i:Nat) (o:Oper) (r j:Nat) (oj:Oper),ops[i]?=some o→ops[j]?=some oj→o.dst=some r→oj.dst=some r→j=i
 look:∀ (i:Nat) (o:Oper) (r j:Nat) (oj:Oper),ops[i]?=some o→ops[j]?=some oj→oj.dst=some r→r∈o.looksAt ops→(mM T i j=true∧j<i)∨(mM T i j=false∧i<j∧mM T j i=true)
 reads:∀ (i:Nat) (o:Oper),ops[i]?=some o→∀ t,.tmp t∈dD o.op→t∈o.looksAt ops
 es1:∀ k i,es[k]?=some i→i<ops.size∧jg es i=k
 es2:∀ k i i',es[k]?=some i→es[k+1]?=some i'→mM T i' i=true
 heaps:∀ (i:Nat) (o:Oper),ops[i]?=some o→es.elem i=false→∀ k,k≤es.length→k=jg es i∨k∈kW tb i∨(∃ k' e,k≤k'∧es[k']?=some e∧mM T i e=true)∨(∃ k' e,k'<k∧es[k']?=some e∧mM T e i=true)
 tot:jg es ops.size=es.length
theorem fK.of {ops:Array Oper} {es:List Nat} {tb:List (Nat × List Nat)} {T:List Nat} (h:CG ops es tb T=true):fK ops es tb T:=by
 simp only [CG,Bool.and_eq_true] at h
 obtain ⟨⟨⟨⟨⟨⟨⟨⟨h1,h2⟩,h3⟩,h4⟩,h5⟩,h6⟩,h7⟩,h8⟩,h9⟩:=h
 refine ⟨h1,?_,?_,?_,?_,?_,?_,?_,?_,by simpa using h9⟩
 ·intro i o hi e he hb
  have:=fB h2 hi
  have:=Array.all_eq_true_iff_forall_mem.1 this e he
  simpa [hb] using this
 ·intro i o hi q hq hb
  have:=fB h3 hi
  have:=List.all_eq_true.1 this q (List.mem_range.2 hq)
  simp only [hb,Bool.not_true,Bool.false_or] at this
  obtain ⟨e,he,hh⟩:=Array.any_eq_true'.1 this
  simp only [Bool.and_eq_true,Bool.or_eq_true,beq_iff_eq] at hh
  exact ⟨e,he,hh.1,hh.2⟩
 ·intro i o r j oj hi hj hd hdj
  have:=fB h4 hi
  rw [hd] at this
  have:=fB this hj
  simp only [Bool.or_eq_true,beq_iff_eq,hdj,bne_self_eq_false,Bool.false_eq_true,or_false] at this
  exact this
 ·intro i o r j oj hi hj hd hr
  have:=fB (fB h5 hi) hj
  rw [hd] at this
  simp only [Bool.or_eq_true,Bool.not_eq_true',Bool.and_eq_true,decide_eq_true_eq] at this
  rcases this with (h0|h0)|h0
  ·have:(o.looksAt ops).contains r=true:=by simpa using hr
   rw [this] at h0;cases h0
  ·exact .inl h0
  ·exact .inr h0
 ·intro i o hi t ht
  have:=List.all_eq_true.1 (fB h6 hi) _ ht
  simpa using this
 ·intro k i hk
  have hlt:k<es.length:=(List.getElem?_eq_some_iff.1 hk).1
  have:=List.all_eq_true.1 h7 k (List.mem_range.2 hlt)
  rw [hk] at this
  simp only [Bool.and_eq_true,decide_eq_true_eq,beq_iff_eq] at this
  exact this.1
 ·intro k i i' hk hk'
  have hlt:k<es.length:=(List.getElem?_eq_some_iff.1 hk).1
  have:=List.all_eq_true.1 h7 k (List.mem_range.2 hlt)
  rw [hk,hk'] at this
  simp only [Bool.and_eq_true] at this
  exact this.2
 ·intro i o hi he k hk
  have:=fB h8 hi
  rw [he,Bool.false_or] at this
  have:=List.all_eq_true.1 this k (List.mem_range.2 (by omega))
  simp only [Bool.or_eq_true,beq_iff_eq,List.any_eq_true,List.contains_iff_mem] at this
  rcases this with ((h0|h0)|⟨e,he,hb⟩)|⟨e,he,hb⟩
  ·exact .inl h0
  ·exact .inr (.inl h0)
  ·obtain ⟨q,hq⟩:=List.mem_iff_getElem?.1 he
   rw [List.getElem?_drop] at hq
   exact .inr (.inr (.inl ⟨k+q,e,by omega,hq,hb⟩))
  ·obtain ⟨q,hq⟩:=List.mem_iff_getElem?.1 he
   rw [List.getElem?_take] at hq
   split at hq
   ·exact .inr (.inr (.inr ⟨q,e,by assumption,hq,hb⟩))
   ·cases hq
def DR (ops:Array Oper) (r:Nat):Option Nat:=(List.range ops.size).find? fun i=>match ops[i]? with
 | some o=>o.dst == some r
 | none=>false
theorem iT {ops:Array Oper} {r j:Nat} (h:DR ops r=some j):∃ o,ops[j]?=some o∧o.dst=some r:=by
 have:=List.find?_some h
 cases ho:ops[j]? with
 | none=>rw [ho] at this;cases this
 | some o=>rw [ho] at this;exact ⟨o,rfl,by simpa using this⟩
theorem fK.DR {ops:Array Oper} {es:List Nat} {tb:List (Nat × List Nat)} {T:List Nat} (h:fK ops es tb T) {i:Nat} {o:Oper} {r:Nat} (hi:ops[i]?=some o) (hd:o.dst=some r):Fv.DR ops r=some i:=by
 cases hx:Fv.DR ops r with
 | none=>
  have:=List.find?_eq_none.1 hx i (List.mem_range.2 (Array.getElem?_eq_some_iff.1 hi).1)
  simp [hi,hd] at this
 | some j=>
  obtain ⟨oj,hj,hdj⟩:=iT hx
  rw [h.dst i o r j oj hi hj hd hdj]
section
variable {P:Program} {w0:World} {T0:Bs} {ops:Array Oper} {es:List Nat} {tb:List (Nat × List Nat)} {T:List Nat} [hG:mQ P w0 T0]
def iG (ops:Array Oper) (s0:S) (vs:List AV) (i r:Nat):AV:=match DR ops r with
 | some j=>if j<i then vs.getD j .dead else s0.get r
 | none=>s0.get r
theorem QS.congr {o:Oper} {n:Nat} {get get':Nat→AV} {h h':o9} {v:AV} (hq:QS P w0 T0 ops o n get h h' v) (he:∀ r,r∈o.looksAt ops→get' r=get r):QS P w0 T0 ops o n get' h h' v:=
 fun env hen=>hq env fun r hr=>(hen r hr).trans (he r hr)
structure qC (P:Program) (w0:World) (T0:Bs) (ops:Array Oper) (es:List Nat) (s0:S) (i:Nat) (vs:List AV) (hs:List o9):Prop where
 quiet:∀ j o,j<i→ops[j]?=some o→es.elem j=false→∃ h,hs[jg es j]?=some h∧QS P w0 T0 ops o s0.n (iG ops s0 vs j) h h (vs.getD j .dead)
 eff:∀ j o,j<i→ops[j]?=some o→es.elem j=true→∃ h h',hs[jg es j]?=some h∧hs[jg es j+1]?=some h'∧QS P w0 T0 ops o s0.n (iG ops s0 vs j) h h' (vs.getD j .dead)
 put:∀ j o d,j<i→ops[j]?=some o→o.dst=some d→d<s0.n
theorem iY {s0:S} {vs:List AV} {v:AV} {j:Nat} (h:j≤vs.length) (r:Nat):iG ops s0 (vs++[v]) j r=iG ops s0 vs j r:=by
 unfold iG
 split
 ·rename_i q _
  split
  ·rename_i hq
   simp only [List.getD_eq_getElem?_getD]
   rw [List.getElem?_append_left (by omega)]
  ·rfl
 ·rfl
theorem nJ {vs:List AV} {v:AV} {j:Nat} (h:j<vs.length):(vs++[v]).getD j .dead=vs.getD j .dead:=by
 simp only [List.getD_eq_getElem?_getD]
 rw [List.getElem?_append_left h]
theorem iO {vs:List AV} {v:AV}:(vs++[v]).getD vs.length .dead=v:=by
 simp [List.getD_eq_getElem?_getD]
theorem y7 (i:Nat):jg es (i+1)=jg es i+(bif es.elem i then 1 else 0):=by
 unfold jg
 rw [List.range_succ,List.countP_append,List.countP_singleton]
 cases es.elem i<;>rfl
def jR (P:Program) (w0:World) (T0:Bs) (n:Nat) (x:Acc) (h:o9):Prop:=match x.g with
 | none=>G8 P w0 T0 x.o ⟨n,x.env,h.1,h.2⟩ x.v
 | some c=>Fv.below h.2 x.v=true∧(c=true→G8 P w0 T0 x.o ⟨n,x.env,h.1,h.2⟩ x.v)
theorem xg {n:Nat} {x:Acc} {hs:List o9}:∀ {l:List Nat},zf P w0 T0 n x hs l→∀ k,k∈l→∃ h,hs[k]?=some h∧jR P w0 T0 n x h
 | k'::l,h,k,hk=>by
  unfold zf at h
  rcases List.mem_cons.1 hk with rfl|hk
  ·cases hh:hs[k]? with
   | none=>rw [hh] at h;exact h.1.elim
   | some q=>rw [hh] at h;exact ⟨q,rfl,h.1⟩
  ·exact xg h.2 k hk
theorem He {n:Nat} {hs:List o9} (l:List Acc) (h:redo P w0 T0 n hs l) (x:Acc) (hx:x∈l) (k:Nat) (hk:k∈x.ks):∃ h,hs[k]?=some h∧jR P w0 T0 n x h:=by
 induction l with
 | nil=>cases hx
 | cons y l ih=>
  obtain ⟨h1,h2⟩:=(h:zf P w0 T0 n y hs y.ks∧redo P w0 T0 n hs l)
  rcases List.mem_cons.1 hx with rfl|hx
  ·exact xg h1 k hk
  ·exact ih h2 hx
theorem wV {ks:List Nat} {x y:Acc} {l:List Acc} (h:y∈l):y∈kJ ks x l:=by
 unfold kJ;split
 ·exact h
 ·exact .tail _ h
theorem uz {ks:List Nat} {x:Acc} {l:List Acc} {k:Nat} (h:k∈ks):x∈kJ ks x l:=by
 unfold kJ;split
 ·cases h
 ·exact .head _
def EU (P:Program) (w0:World) (T0:Bs) (ops:Array Oper) (es:List Nat) (tb:List (Nat × List Nat)) (s0:S) (i:Nat) (vs:List AV) (acc:List Acc):Prop:=
 ∀ j o,j<i→ops[j]?=some o→es.elem j=false→∀ k,k∈kW tb j →
  (∀ h,QS P w0 T0 ops o s0.n (iG ops s0 vs j) h h (vs.getD j .dead))∨∃ x,x∈acc∧x.ks=kW tb j∧∀ h,jR P w0 T0 s0.n x h→QS P w0 T0 ops o s0.n (iG ops s0 vs j) h h (vs.getD j .dead)
theorem FB (hok:fK ops es tb T) {s0 s:S} {i:Nat} {o:Oper} {vs:List AV} {hs hs':List o9} {v:AV} {Q:S→Prop} (hi:ops[i]?=some o) (hlen:vs.length=i) (hn:s.n=s0.n) (hget:∀ r,s.get r=iG ops s0 vs i r)
  (hd:qC P w0 T0 ops es s0 i vs hs) (hlh:hs.length=jg es i+1) (hpre:∀ (k:Nat) (h:o9),hs[k]?=some h→hs'[k]?=some h)
  (hq:es.elem i=false→∃ h,hs'[jg es i]?=some h∧QS P w0 T0 ops o s0.n (iG ops s0 vs i) h h v)
  (he:es.elem i=true→∃ h h',hs'[jg es i]?=some h∧hs'[jg es i+1]?=some h'∧QS P w0 T0 ops o s0.n (iG ops s0 vs i) h h' v)
  (hput:eU o.dst v s Q):∃ s',Q s'∧s'.n=s0.n∧s'.rows=s.rows∧s'.next=s.next∧(∀ r,s'.get r=iG ops s0 (vs++[v]) (i+1) r)∧qC P w0 T0 ops es s0 (i+1) (vs++[v]) hs':=by
 have hnew:∀ d,o.dst=some d→iG ops s0 (vs++[v]) (i+1) d=v:=by
  intro d hdd
  unfold iG
  rw [hok.DR hi hdd]
  simp only [Nat.lt_succ_self,if_true]
  rw [←hlen];exact iO
 have hold:∀ r,o.dst≠some r→iG ops s0 (vs++[v]) (i+1) r=s.get r:=by
  intro r hr
  rw [hget]
  unfold iG
  cases hx:DR ops r with
  | none=>rfl
  | some j=>
   dsimp only
   have hne:j≠i:=by
    rintro rfl
    obtain ⟨oj,hj,hdj⟩:=iT hx
    rw [hi] at hj;cases hj
    exact hr hdj
   by_cases hji:j<i
   ·rw [if_pos hji,if_pos (by omega),nJ (by omega)]
   ·rw [if_neg hji,if_neg (by omega)]
 have hdone:(∀ d,o.dst=some d→d<s0.n)→qC P w0 T0 ops es s0 (i+1) (vs++[v]) hs':=by
  intro hdn
  refine ⟨?_,?_,?_⟩
  ·intro j oj hj hoj hej
   by_cases e:j=i
   ·subst e
    rw [hi] at hoj;cases hoj
    obtain ⟨h,hh,hqs⟩:=hq hej
    refine ⟨h,hh,?_⟩
    rw [show (vs++[v]).getD j .dead=v from by rw [←hlen];exact iO]
    exact hqs.congr fun r _=>iY (by omega) r
   ·obtain ⟨h,hh,hqs⟩:=hd.quiet j oj (by omega) hoj hej
    refine ⟨h,hpre _ _ hh,?_⟩
    rw [nJ (by omega)]
    exact hqs.congr fun r _=>iY (by omega) r
  ·intro j oj hj hoj hej
   by_cases e:j=i
   ·subst e
    rw [hi] at hoj;cases hoj
    obtain ⟨h,h',hh,hh',hqs⟩:=he hej
    refine ⟨h,h',hh,hh',?_⟩
    rw [show (vs++[v]).getD j .dead=v from by rw [←hlen];exact iO]
    exact hqs.congr fun r _=>iY (by omega) r
   ·obtain ⟨h,h',hh,hh',hqs⟩:=hd.eff j oj (by omega) hoj hej
    refine ⟨h,h',hpre _ _ hh,hpre _ _ hh',?_⟩
    rw [nJ (by omega)]
    exact hqs.congr fun r _=>iY (by omega) r
  ·intro j oj d hj hoj hdj
   by_cases e:j=i
   ·subst e
    rw [hi] at hoj;cases hoj
    exact hdn d hdj
   ·exact hd.put j oj d (by omega) hoj hdj
 unfold eU at hput
 cases hdst:o.dst with
 | none=>
  rw [hdst] at hput
  exact ⟨s,hput,hn,rfl,rfl,fun r=>(hold r (by rw [hdst];simp)).symm,hdone fun d h=>by rw [hdst] at h;cases h⟩
 | some d=>
  rw [hdst] at hput
  dsimp only at hput
  split at hput
  ·rename_i hlt
   refine ⟨s.set d v,hput,hn,rfl,rfl,fun r=>?_,hdone fun d' h=>by rw [hdst] at h;cases h;rw [←hn];exact hlt⟩
   by_cases e:d=r
   ·subst e
    rw [hnew d hdst]
    simp [S.get,S.set,lk]
   ·rw [hold r (by rw [hdst];simpa using e)]
    simp [S.get,S.set,lk,e]
  ·exact hput.elim
end
end Go.Fv
/-
 Operations whose result is fixed by the state.
-/
namespace Go.Fv
open Go.RowKit
def eX (F:(AV→S→Prop)→Prop):Prop:=∀ K,F K→∃ v s',K v s'∧∀ K':AV→S→Prop,K' v s'→F K'
theorem eX.pure (v:AV) (s:S):eX (fun K=>K v s):=fun K h=>⟨v,s,h,fun _ h=>h⟩
theorem eX.no:eX (fun _=>False):=fun _ h=>h.elim
theorem eX.chk {p:Prop} {F:(AV→S→Prop)→Prop} (h:eX F):eX (fun K=>aO p (F K)):=fun K hk=>by
 obtain ⟨v,s,h1,h2⟩:=h K hk.2
 exact ⟨v,s,h1,fun K' hk'=>⟨hk.1,h2 K' hk'⟩⟩
theorem eX.MO {k:IntKind} {e:Int} (s:S):eX (fun K=>dZ k e (fun n=>K (.int k n) s)):=fun K h=>
 ⟨.int k (k.wrap e),s,h _ rfl (bU _ _),fun K' hk' n hn _=>by subst hn;exact hk'⟩
section
variable {P:Program} {w0:World} {T0:Bs} {s:S}
theorem Ku (e:TypeId) (x:Operand):eX (zx e x s):=by
 intro K h
 unfold zx at h ⊢
 cases hb:fF (s.ev x) with
 | none=>rw [hb] at h;exact h.elim
 | some cs=>rw [hb] at h;exact (eX.pure _ _).chk K h
theorem Gw (e:TypeId):eX (oV P e s):=by
 intro K h
 unfold oV at h ⊢
 cases hb:zeroOf P e with
 | none=>rw [hb] at h;exact h.elim
 | some z=>rw [hb] at h;exact (eX.pure _ _).chk K h
theorem GH (t:TypeId) (x v:Operand):eX (o8 P t x v s):=by
 intro K h
 unfold o8 at h ⊢
 cases hb:fF (s.ev v) with
 | none=>rw [hb] at h;exact h.elim
 | some cs=>
  rw [hb] at h
  refine (eX.chk ?_) K h
  intro K h
  cases hx:s.ev x<;>rw [hx] at h<;>try (exact h.elim)
  ·rename_i i off
   dsimp only at h ⊢
   cases hl:lk s.rows i with
   | none=>rw [hl] at h;exact h.elim
   | some it=>cases it with
    | row e r=>rw [hl] at h;exact h.elim
    | map _ _=>rw [hl] at h;exact h.elim
    | iter _ _ _=>rw [hl] at h;exact h.elim
    | siter _ _=>rw [hl] at h;exact h.elim
    | box e bs=>rw [hl] at h;exact (eX.pure _ _).chk K h
  ·rename_i i sz idx off
   dsimp only at h ⊢
   cases hl:lk s.rows i with
   | none=>rw [hl] at h;exact h.elim
   | some it=>cases it with
    | box e bs=>rw [hl] at h;exact h.elim
    | map _ _=>rw [hl] at h;exact h.elim
    | iter _ _ _=>rw [hl] at h;exact h.elim
    | siter _ _=>rw [hl] at h;exact h.elim
    | row e r=>
     rw [hl] at h
     refine (eX.chk ?_) K h
     intro K h
     cases hq:jB r idx off cs with
     | none=>rw [hq] at h;exact h.elim
     | some r'=>rw [hq] at h;exact (eX.pure _ _) K h
theorem IU (t:TypeId) (l c:Operand):eX (tN P t l c s):=by
 intro K h
 unfold tN at h ⊢
 split at h
 ·rename_i e k n k2 n2 h1 h2 h3
  cases hz:zeroOf P e with
  | none=>rw [hz] at h;exact h.elim
  | some z=>rw [hz] at h;exact (eX.pure _ _).chk.chk K h
 ·exact h.elim
theorem wR (t:TypeId) (len:Nat) (parts:Array (Nat × Operand)):eX (fH P t len parts s):=by
 intro K h
 unfold fH at h ⊢
 split at h
 ·rename_i e h1
  cases hz:zeroOf P e with
  | none=>rw [hz] at h;exact h.elim
  | some z=>
   rw [hz] at h
   refine (eX.chk (eX.chk ?_)) K h
   intro K h
   split at h
   ·rename_i r hr;exact eX.pure _ _ K h
   ·exact h.elim
 ·exact h.elim
theorem Gx (t:TypeId) (parts:Array (Nat × Operand)):eX (lZ P t parts s):=by
 intro K h
 unfold lZ at h ⊢
 split at h
 ·rename_i d z h1 h2
  refine (eX.chk (eX.chk ?_)) K h
  intro K h
  split at h
  ·rename_i r hr;exact eX.pure _ _ K h
  ·exact h.elim
 ·exact h.elim
theorem zX (fn:Fn) (first caps:Array Operand):eX (fZ fn first caps s):=by
 intro K h
 unfold fZ at h ⊢
 split at h
 ·exact (eX.pure _ _).chk K h
 ·exact h.elim
theorem lV (t t2:TypeId) (x y:Operand):eX (gY P t t2 x y s):=by
 intro K h
 unfold gY at h ⊢
 split at h
 ·rename_i e i h1 h2
  split at h
  ·rename_i e' r h3
   split at h
   ·rename_i r2 h4
    split at h
    ·rename_i r3 h5
     split at h
     ·rename_i z h6
      exact (eX.pure _ _).chk.chk.chk K h
     ·exact h.elim
    ·exact h.elim
   ·exact h.elim
  ·exact h.elim
 ·exact h.elim
theorem uq (t t2:TypeId) (x y:Operand):eX (iI P t t2 x y s):=by
 intro K h
 unfold iI at h ⊢
 split at h
 ·rename_i r
  split at h
  ·split at h
   ·split at h
    ·exact (lV t t2 _ y).chk K h
    ·exact h.elim
   ·exact h.elim
  ·split at h
   ·exact (lV t t2 _ y).chk K h
   ·exact h.elim
  ·exact lV t t2 _ y K h
 ·exact lV t t2 _ y K h
theorem CJ (t t2:TypeId) (x y:Operand):eX (jJ P t t2 x y s):=by
 intro K h
 unfold jJ at h ⊢
 cases hx:s.ev x<;>rw [hx] at h<;>try (exact uq t t2 x y K h)
 cases hy:s.ev y<;>rw [hy] at h<;>try (exact uq t t2 x y K h)
 dsimp only at h ⊢
 split at h
 ·split at h
  ·split at h
   ·split at h
    ·exact (eX.pure _ _).chk.chk K h
    ·exact h.elim
   ·exact h.elim
  ·exact h.elim
 ·exact h.elim
theorem Kv (x:Operand):eX (xM x s):=by
 intro K h
 unfold xM at h ⊢
 split at h
 all_goals first|exact h.elim|(rename_i hx;exact eX.pure _ _ K h)
theorem CP (x:Operand) (i:Nat):eX (iK x i s):=by
 intro K h
 unfold iK at h ⊢
 split at h
 ·rename_i l hx
  split at h
  ·rename_i v hv;exact eX.pure _ _ K h
  ·exact h.elim
 ·exact h.elim
theorem LG (op:UnOp) (x:Operand):eX (EM op x s):=by
 intro K h
 unfold EM at h ⊢
 cases hx:s.ev x<;>rw [hx] at h<;>try (exact h.elim)
 ·cases op<;>first|exact h.elim|exact eX.pure _ _ K h
 ·cases op<;>first|exact h.elim|exact eX.MO _ K h
theorem CO (a b:TypeId) (x:Operand):eX (nZ P a b x s):=by
 intro K h
 unfold nZ at h ⊢
 split at h
 ·rename_i d1 d2 h1 h2
  cases d2<;>try (exact h.elim)
  ·cases hx:s.ev x<;>rw [hx] at h<;>try (exact h.elim)
   exact eX.MO _ K h
  ·cases hx:s.ev x<;>rw [hx] at h<;>try (exact h.elim)
   ·exact (eX.pure _ _).chk K h
   ·exact eX.pure _ _ K h
   ·rename_i r
    cases r<;>try (exact h.elim)
    rename_i k l
    cases k<;>try (exact h.elim)
    cases d1<;>try (exact h.elim)
    exact (eX.pure _ _).chk K h
   ·rename_i i
    dsimp only at h ⊢
    split at h
    ·rename_i l e h3 ; exact (eX.pure _ _).chk K h
    ·exact h.elim
 ·exact h.elim
theorem Gy (a b:TypeId) (x:Operand):eX (oW P a b x s):=by
 intro K h
 unfold oW at h ⊢
 split at h
 ·split at h
  ·exact ((eX.pure _ _).chk) K h
  ·exact h.elim
 ·split at h
  ·rename_i k n hn
   obtain ⟨hs,h⟩:=h
   split at h
   ·rename_i hl
    obtain ⟨r,s',h1,h2⟩:=eX.pure _ _ K h
    exact ⟨r,s',h1,fun K' h'=>⟨hs,by rw [if_pos hl];exact h2 K' h'⟩⟩
   ·rename_i hl
    obtain ⟨r,s',h1,h2⟩:=eX.pure _ _ K h
    exact ⟨r,s',h1,fun K' h'=>⟨hs,by rw [if_neg hl];exact h2 K' h'⟩⟩
  ·exact CO a b x K h
 ·exact CO a b x K h
theorem IV (m:Bool) (xs:List AV):eX (fun K=>DK m xs (fun r=>K r s)):=by
 intro K h
 unfold DK at h ⊢
 split at h
 ·exact (eX.pure _ s).chk K h
 ·exact (eX.pure _ s).chk K h
 ·exact h.elim
theorem CS (t:TypeId) (x:Operand):eX (qA P t x s):=by
 intro K h
 unfold qA at h ⊢
 split at h
 ·split at h
  ·rename_i e h1
   split at h
   ·rename_i z h2;exact (eX.pure _ _).chk K h
   ·exact h.elim
  ·exact h.elim
 ·exact (eX.pure _ _).chk K h
 ·rename_i h1 h2
  exact (eX.pure _ _).chk K h
theorem CQ (t:TypeId) (r:Option Operand):eX (lD P t r s):=by
 intro K h
 cases r with
 | none=>exact eX.pure _ _ K h
 | some _=>exact h.elim
theorem Ei (t:TypeId) (x k v:Operand):eX (lG P t x k v s):=by
 intro K h
 unfold lG at h ⊢
 cases ht:P.underlying t with
 | none=>rw [ht] at h;exact h.elim
 | some d=>
  rw [ht] at h
  cases d<;>try (exact h.elim)
  dsimp only at h ⊢
  cases hx:s.ev x<;>rw [hx] at h<;>try (exact h.elim)
  dsimp only at h ⊢
  split at h
  ·rename_i hi
   exact ((eX.pure _ _).chk.chk) K h
  ·exact h.elim
theorem IQ (ks vs:List AV) (k:AV) (z:Value) (i:Nat):eX (Gi ks vs k z i s):=by
 intro K h
 unfold Gi at h ⊢
 cases z<;>first|exact h.elim|exact ((eX.pure _ _).chk) K h
theorem Eh (t:TypeId) (x k:Operand):eX (lF P t x k s):=by
 intro K h
 unfold lF at h ⊢
 cases ht:P.underlying t with
 | none=>rw [ht] at h;exact h.elim
 | some d=>
  rw [ht] at h
  cases d<;>try (exact h.elim)
  rename_i kt et
  dsimp only at h ⊢
  cases hz:zeroOf P et with
  | none=>rw [hz] at h;exact h.elim
  | some z=>
   rw [hz] at h
   dsimp only at h ⊢
   cases hx:s.ev x<;>rw [hx] at h<;>try (exact h.elim)
   dsimp only at h ⊢
   split at h
   ·rename_i hi
    exact ((IQ _ _ _ z _).chk.chk) K h
   ·exact h.elim
theorem zW (x st v:Operand):eX (iJ x st v s):=by
 intro K h
 unfold iJ at h ⊢
 cases hx:s.ev x<;>rw [hx] at h<;>try (exact h.elim)
 dsimp only at h ⊢
 split at h
 ·rename_i hi
  split at h
  ·rename_i hs
   exact ((eX.pure _ _).chk.chk) K h
  ·exact h.elim
 ·exact h.elim
theorem Gz (t:TypeId) (x:Operand):eX (oZ P t x s):=by
 intro K h
 unfold oZ at h ⊢
 cases ht:P.underlying t with
 | none=>rw [ht] at h;exact h.elim
 | some d=>
  rw [ht] at h
  cases d<;>try (exact h.elim)
  ·dsimp only at h ⊢
   cases hx:s.ev x<;>rw [hx] at h<;>try (exact h.elim)
   exact ((eX.pure _ _).chk) K h
  ·dsimp only at h ⊢
   cases hx:s.ev x<;>rw [hx] at h<;>try (exact h.elim)
   dsimp only at h ⊢
   split at h
   ·rename_i hi
    exact ((eX.pure _ _).chk) K h
   ·exact h.elim
theorem zY {o:Oper} (hl:pR o.op=true):eX (jU P w0 T0 o s):=by
 intro K h
 unfold jU at h ⊢
 cases ho:o.op<;>rw [ho] at h hl<;>try (cases hl;done)
 case move x=>exact CS _ _ K h
 case assign x=>exact CS _ _ K h
 case extract x i=>exact (CP x i).chk K h
 case makeFunc fn first caps=>exact zX _ _ _ K h
 case box e x=>exact Ku _ _ K h
 case alloc e=>exact Gw _ K h
 case store t x v=>exact (GH t x v).chk K h
 case nilCheck x=>exact (Kv x).chk K h
 case makeSlice t l c=>exact (IU t l c).chk K h
 case unOp op t x=>exact (LG op x).chk K h
 case convert t t' x=>exact (Gy t t' x).chk K h
 case buildSlice t len parts=>exact wR _ _ _ K h
 case build t parts=>exact Gx _ _ K h
 case makeMap t r=>exact CQ _ _ K h
 case mapUpdate t x k v=>exact Ei _ _ _ _ K h
 case mapEntry t x k=>exact Eh _ _ _ K h
 case entryStore t x st v=>exact zW _ _ _ K h
 case range t x=>exact Gz _ _ K h
 case call c=>
  obtain ⟨callee,args,argTypes⟩:=c
  dsimp only [pR] at hl
  dsimp only [jS] at h ⊢
  cases callee with
  | builtin b=>
   cases b<;>try (cases hl;done)
   case append=>
    dsimp only at h ⊢
    split at h
    ·rename_i x y t t2 h1 h2
     exact (CJ t t2 x y).chk K h
    ·exact h.elim
   case min=>exact (IV false _).chk K h
   case max=>exact (IV true _).chk K h
  | _=>cases hl
end
end Go.Fv
