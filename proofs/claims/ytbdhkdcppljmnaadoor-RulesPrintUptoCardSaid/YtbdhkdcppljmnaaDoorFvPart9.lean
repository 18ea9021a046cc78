/-
  A part of the proof of the claim: walks over the program's functions and the plain laws that these need. No condition of its own.
-/
import Derived.Test.YtbdhkdcppljmnaaDoorFvPart7
import Derived.Test.YtbdhkdcppljmnaaDoorFvPart8
set_option linter.unusedSectionVars false
set_option linter.unusedVariables false
set_option linter.unusedSimpArgs false
set_option linter.unnecessarySimpa false
/-
 Regions whose order is drawn: every order is walked, moves first.
-/
namespace Go.Fv
open Go.RowKit
section
variable {P:Program} {w0:World} {T0:Bs} {b0:Nat} {H:List (AV × Value)} [hG:lZ P w0 T0]
theorem CQ {ops:Array Oper} (hs:Region.noSelect ops=true) {Q:S→Prop}:∀ (t:uw) (n:Nat) (listed:Array Bool) (q:Option (List Nat)),dP ops t n listed q=true→∀ (s:S) (a:Act) (w:World),
  gX P w0 T0 ops t s Q→Rep w0 T0 H s a w →
  match q with
  | none=>wpAny P .any ops (fun e a' w'=>e=.normal∧∃ s',Q s'∧Rep w0 T0 H s' a' w') n listed a w
  | some l=>∃ n',n=n'+1∧∀ i,i∈l→wpOp P ops (fun e a' w'=>e=.normal∧∃ s',Q s'∧Rep w0 T0 H s' a' w') i (wpAny P .any ops (fun e a' w'=>e=.normal∧∃ s',Q s'∧Rep w0 T0 H s' a' w') n' (listed.setIfInBounds i true)) a w:=by
 intro t
 induction t with
 | done=>
  intro n listed q hok s a w h hr
  cases q with
  | none=>
   have hn:Region.ready .any ops listed=[]:=by
    cases n<;>simpa [dP,List.isEmpty_iff] using hok
   exact wpAny_done hn ⟨rfl,s,h,hr⟩ n
  | some l=>cases n<;>simp [dP] at hok
 | first i t ih=>
  intro n listed q hok s a w h hr
  cases n with
  | zero=>cases q<;>simp [dP] at hok
  | succ n=>
   cases q with
   | some l=>simp [dP] at hok
   | none=>
    simp only [dP,Bool.and_eq_true] at hok
    obtain ⟨⟨⟨hm,hf⟩,hrd⟩,ht⟩:=hok
    unfold gX at h
    cases ho:ops[i]? with
    | none=>rw [ho] at h;exact h.elim
    | some o=>
     rw [ho] at h hm
     have hm':FT o=true:=by simpa using hm
     have hg:o.guard=none:=by
      unfold FT at hm';split at hm'<;>first|assumption|cases hm'
     have go:∀ x,(o.op=.move x∨o.op=.assign x)→aS (ak x) (dZ o.dst (s.ev x) s (fun s'=>gX P w0 T0 ops t s' Q)) →
       wpAny P .any ops (fun e a' w'=>e=.normal∧∃ s',Q s'∧Rep w0 T0 H s' a' w') (n+1) listed a w:=by
      rintro x hx ⟨hxo,hk⟩
      have hrun:∀ w,(execOp a.eval o).run P w=.ok (.value (a.eval x)) w:=by
       intro w;unfold execOp;rcases hx with hx|hx<;>rw [hx]<;>rfl
      have hy:Yields P ops o (a.eval x) a:=.inl ⟨by simp [Region.wanted,hg],hrun⟩
      refine wpAny_take ho hs hf hrd (by rintro c a w ⟨h,_⟩;cases h) hy ?_
      obtain ⟨m,hm⟩:=hr
      obtain ⟨s',h2,hr2⟩:=Rep.put (⟨m,hm.hold (hm.ev x hxo)⟩:Rep w0 T0 ((s.ev x,a.eval x)::H) s a w) hk
      exact ih n _ none ht s' _ w h2 hr2
     dsimp only at h
     cases hop:o.op<;>rw [hop] at h<;>first|exact h.elim|skip
     ·exact go _ (.inl hop) h
     ·exact go _ (.inr hop) h
     ·obtain ⟨hxo,hk⟩:=h
      obtain ⟨m,hm⟩:=hr
      obtain ⟨r,v,hk',hrun,hv⟩:=lU hop hxo hk hm
      have hy:Yields P ops o v a:=.inl ⟨by simp [Region.wanted,hg],hrun⟩
      refine wpAny_take ho hs hf hrd (by rintro c a w ⟨h,_⟩;cases h) hy ?_
      obtain ⟨s',h2,hr2⟩:=Rep.put (⟨m,hm.hold hv⟩:Rep w0 T0 ((r,v)::H) s a w) hk'
      exact ih n _ none ht s' _ w h2 hr2
 | cons i t r iht ihr=>
  intro n listed q hok s a w h hr
  unfold gX at h
  cases ho:ops[i]? with
  | none=>rw [ho] at h;exact h.elim
  | some o=>
   rw [ho] at h
   obtain ⟨h1,h2⟩:=h
   have one:∀ n',dP ops t n' (listed.setIfInBounds i true) none=true→wpOp P ops (fun e a' w'=>e=.normal∧∃ s',Q s'∧Rep w0 T0 H s' a' w') i (wpAny P .any ops (fun e a' w'=>e=.normal∧∃ s',Q s'∧Rep w0 T0 H s' a' w') n' (listed.setIfInBounds i true)) a w:=by
    intro n' ht
    unfold wpOp
    rw [ho]
    have:=yg (Qc:=fun e a' w'=>e=.normal∧∃ s',Q s'∧Rep w0 T0 H s' a' w') h1 hr fun s' a' w' hk hr'=>iht n' _ none ht s' a' w' hk hr'
    dsimp only at this ⊢
    split
    ·rename_i hw;rw [if_pos hw] at this;exact .inl this
    ·rename_i hw;rw [if_neg hw] at this;exact this
   cases n with
   | zero=>cases q<;>simp [dP] at hok
   | succ n=>
    cases q with
    | none=>
     cases hrd:Region.ready .any ops listed with
     | nil=>simp [dP,hrd] at hok
     | cons j l=>
      simp only [dP,hrd,Bool.and_eq_true,beq_iff_eq] at hok
      obtain ⟨⟨rfl,ht⟩,hrest⟩:=hok
      have:=ihr (n+1) listed (some l) hrest s a w h2 hr
      obtain ⟨n',hn,hall⟩:=this
      cases hn
      refine wpAny_all hrd (by simp) fun k hk=>?_
      cases List.mem_cons.1 hk with
      | inl e=>subst e;exact one n ht
      | inr e=>exact hall k e
    | some l=>
     cases l with
     | nil=>simp [dP] at hok
     | cons j l=>
      simp only [dP,Bool.and_eq_true,beq_iff_eq] at hok
      obtain ⟨⟨rfl,ht⟩,hrest⟩:=hok
      have:=ihr (n+1) listed (some l) hrest s a w h2 hr
      obtain ⟨n',hn,hall⟩:=this
      cases hn
      refine ⟨n,rfl,fun k hk=>?_⟩
      cases List.mem_cons.1 hk with
      | inl e=>subst e;exact one n ht
      | inr e=>exact hall k e
 | stop=>
  intro n listed q hok s a w h hr
  cases n<;>cases q<;>simp [dP] at hok
  subst hok
  exact ⟨_,rfl,fun i hi=>by cases hi⟩
theorem aN.drawn {s:S} {a:Act} {w:World} {m:Nat→Value} (h:aN w0 T0 H s a w m):aN w0 T0 H s a w.drew m:=by
 have hle:bT (aj T0 w0.heap.size m s w) (aj T0 w0.heap.size m s w.drew):=
  gJ (Nat.le_refl _) (fun _ _=>rfl) (fun _ _ _=>rfl) fun i it b hi hb _=>⟨i,it,hi,hb⟩
 exact h.tq rfl rfl hle h.below.drew (fun i it hi=>⟨(h.rows i it hi).1,(h.rows i it hi).2.mono hle fun _ _=>rfl⟩) h.sep
theorem dN.intro {id:Nat} {ops:Array Oper} {s:S} {Q:S→Prop} (t:uw) (hm:P.follows .mixedOrders=true) (hs:Region.noSelect ops=true) (ht:dP ops t ops.size (Array.replicate ops.size false) none=true)
  (h:gX P w0 T0 ops t s Q):@dN P w0 T0 b0 id ops s ⟨Q⟩:=by
 intro H a w _ hr
 refine wp_region_any hm ?_
 have hr':Rep w0 T0 H s a { w with drawn:=w.drawn+1 }:=by
  obtain ⟨m,hm⟩:=hr
  exact ⟨m,hm.drawn⟩
 exact CQ hs t _ _ none ht s a _ h hr'
theorem dN.cut {id:Nat} {ops:Array Oper} {s:S} {Q:S→Prop} (t:uw) (hm:P.follows .mixedOrders=true) (hs:Region.noSelect ops=true) (ht:dP ops t ops.size (Array.replicate ops.size false) none=true) (shape:S)
  (h:gX P w0 T0 ops t s (fun s'=>bC w0 T0 b0 s' shape)) (hk:Q shape):@dN P w0 T0 b0 id ops s ⟨Q⟩:=by
 intro H a w hH hr
 refine wp_mono (dN.intro (b0:=b0) (id:=id) t hm hs ht h H a w hH hr) ?_
 rintro e a' w' ⟨he,s',hq,hr'⟩
 exact ⟨he,shape,hk,hq H a' w' hH hr'⟩
end
end Go.Fv
/-
 Regions whose order is drawn: walked once, in the text's order. Operations that leave the abstract state as it is may come in any order;
 those that change it ('es') come in the text's order among themselves.
-/
namespace Go.Fv
open Go.RowKit
abbrev pO:=List (Nat × Item) × Nat
def eU:Op→List Operand
 | .move x=>[x]
 | .assign x=>[x]
 | .pick c x y=>[c,x,y]
 | .extract x _=>[x]
 | .makeFunc _ first caps=>first.toList++caps.toList
 | .box _ x=>[x]
 | .load _ x=>[x]
 | .store _ x v=>[x,v]
 | .nilCheck x=>[x]
 | .fieldAddr _ x _=>[x]
 | .indexAddr _ x i=>[x,i]
 | .makeSlice _ l c=>[l,c]
 | .binOp _ _ x y _=>[x,y]
 | .unOp _ _ x=>[x]
 | .convert _ _ x=>[x]
 | .index _ x i=>[x,i]
 | .lookup _ x i _=>[x,i]
 | .mapUpdate _ m k v=>[m,k,v]
 | .mapEntry _ m k=>[m,k]
 | .entryStore _ m t v=>[m,t,v]
 | .range _ x=>[x]
 | .next x _=>[x]
 | .field _ x _=>[x]
 | .slice _ x l h m=>x::(l.toList++(h.toList++m.toList))
 | .buildSlice _ _ ps=>ps.toList.map (·.2)
 | .build _ ps=>ps.toList.map (·.2)
 | .call c=>match c.callee with
  | .value f=>f::c.args.toList
  | _=>c.args.toList
 | _=>[]
def Oa (v:AV):AV:=match v with
 | .opt _ v=>v
 | v=>v
def dG (s:S):List Operand→List (Nat × AV)
 | []=>[]
 | .tmp t::l=>(t,s.get t)::dG s l
 | .const _::l=>dG s l
 | .func _::l=>dG s l
 | .global _::l=>dG s l
def gZ (s:S):List Operand→List (Nat × AV)
 | []=>[]
 | .tmp t::l=>(t,Oa (s.get t))::gZ s l
 | .const _::l=>gZ s l
 | .func _::l=>gZ s l
 | .global _::l=>gZ s l
def gd (ops:Array Oper) (s:S) (o:Oper):Option (Option Bool):=
 match o.guard with
 | none=>some none
 | some (j,want)=>match (ops[j]?).bind (·.dst) with
  | some r=>match s.get r with
   | .bool b=>some (some (bif want then b else !b))
   | .opt c (.bool b)=>some (some (c && bif want then b else !b))
   | _=>none
  | none=>none
def KU (P:Program) (w0:World) (T0:Bs) (o:Oper) (s1:S) (v:AV):Prop:=
 lX P w0 T0 o s1 (fun r s'=>r=v∧s'.rows=s1.rows∧s'.next=s1.next)
structure Acc where
 o:Oper
 g:Option Bool
 env:List (Nat × AV)
 v:AV
 ks:List Nat
def zX (P:Program) (w0:World) (T0:Bs) (n:Nat) (x:Acc) (hs:List pO):List Nat→Prop
 | []=>True
 | k::l=>(match hs[k]? with
  | some h=>match x.g with
   | none=>KU P w0 T0 x.o ⟨n,x.env,h.1,h.2⟩ x.v
   | some c=>Fv.below h.2 x.v=true∧(c=true→KU P w0 T0 x.o ⟨n,x.env,h.1,h.2⟩ x.v)
  | none=>False)∧zX P w0 T0 n x hs l
def redo (P:Program) (w0:World) (T0:Bs) (n:Nat) (hs:List pO):List Acc→Prop
 | []=>True
 | x::l=>zX P w0 T0 n x hs x.ks∧redo P w0 T0 n hs l
class QB where
 A:AV→Prop
 B:AV→Prop
class QC where
 A:AV→List (Nat × Item)→Nat→Prop
 B:AV→List (Nat × Item)→Nat→Prop
def QV [x:QB]:Prop:=∃ v,x.A v∧x.B v
def QE [x:QC]:Prop:=∃ v rows N,x.A v rows N∧x.B v rows N
theorem QV.intro {A B:AV→Prop} (v:AV) (h:A v) (k:B v):@QV ⟨A,B⟩:=⟨v,h,k⟩
theorem QE.intro {A B:AV→List (Nat × Item)→Nat→Prop} (v:AV) (rows:List (Nat × Item)) (N:Nat) (h:A v rows N) (k:B v rows N):@QE ⟨A,B⟩:=⟨v,rows,N,h,k⟩
def jV (ks:List Nat) (x:Acc) (l:List Acc):List Acc:=match ks with
 | []=>l
 | _::_=>x::l
def kH (tb:List (Nat × List Nat)) (i:Nat):List Nat:=match lk tb i with
 | some l=>l
 | none=>[]
def wZ:Op→Bool
 | .move _=>true
 | .assign _=>true
 | .extract _ _=>true
 | .makeFunc _ _ _=>true
 | .box _ _=>true
 | .alloc _=>true
 | .store _ _ _=>true
 | .nilCheck _=>true
 | .makeSlice _ _ _=>true
 | .unOp _ _ _=>true
 | .convert _ _ _=>true
 | .buildSlice _ _ _=>true
 | .build _ _=>true
 | .makeMap _ _=>true
 | .mapUpdate _ _ _ _=>true
 | .mapEntry _ _ _=>true
 | .entryStore _ _ _ _=>true
 | .range _ _=>true
 | .call c=>match c.callee with
  | .builtin .append=>true
  | .builtin .min=>true
  | .builtin .max=>true
  | _=>false
 | _=>false
def qL:List Nat→Nat→Bool
 | [],_=>false
 | j::l,i=>if i=j then true else qL l i
theorem wP:∀ (l:List Nat) (i:Nat),qL l i=l.elem i
 | [],_=>rfl
 | j::l,i=>by
  simp only [qL,List.elem_cons,wP l i]
  by_cases h:i=j
  ·simp [h]
  ·have:(i == j)=false:=by simpa using h
   rw [if_neg h,this]
/-! ### The walk: what comes behind is not looked at before it is reached -/
inductive QR where
 | val (v:AV) (p:Prop) (re:Bool)
 | lin
 | call
class QM where
 k:Option Bool→Prop
class QK where
 x:Prop
 y:Prop
class QL where
 k:AV→List (Nat × Item)→Nat→Prop
class QN where
 k:AV→Bool→Prop
 l:Prop
 c:Prop
def Qe (x:Option (Option Bool)) [K:QM]:Prop:=match x with
 | some g=>K.k g
 | none=>False
def O4 (b:Bool) [K:QK]:Prop:=match b with
 | true=>K.x
 | false=>K.y
def Qd (v:AV) (t:S) [K:QL]:Prop:=K.k v t.rows t.next
def P7 (x:QR) [K:QN]:Prop:=match x with
 | .val v p re=>aS p (K.k v re)
 | .lin=>K.l
 | .call=>K.c
theorem J4 (g:Option Bool) (k:Option Bool→Prop):@Qe (some g) ⟨k⟩=k g:=rfl
theorem JI (x y:Prop):@O4 true ⟨x,y⟩=x:=rfl
theorem Iu (x y:Prop):@O4 false ⟨x,y⟩=y:=rfl
theorem Ox (v:AV) (n:Nat) (env:List (Nat × AV)) (R:List (Nat × Item)) (N:Nat) (k:AV→List (Nat × Item)→Nat→Prop):@Qd v ⟨n,env,R,N⟩ ⟨k⟩=k v R N:=rfl
theorem Ny (v:AV) (p:Prop) (re:Bool) (k:AV→Bool→Prop) (l c:Prop):@P7 (.val v p re) ⟨k,l,c⟩=aS p (k v re):=rfl
theorem Nw (k:AV→Bool→Prop) (l c:Prop):@P7 .lin ⟨k,l,c⟩=l:=rfl
theorem KT (k:AV→Bool→Prop) (l c:Prop):@P7 .call ⟨k,l,c⟩=c:=rfl
def Eb (g:Option Bool) (v:AV):AV:=match g with
 | none=>v
 | some c=>.opt c v
def uK (g:Option Bool) (s:S) (l:List Operand):List (Nat × AV):=match g with
 | none=>dG s l
 | some _=>gZ s l
def kG (d:Option Nat) (n:Nat):Prop:=match d with
 | none=>True
 | some d=>d<n
def jJ (d:Option Nat) (v:AV) (s:S):S:=match d with
 | none=>s
 | some d=>⟨s.n,(d,v)::s.env,s.rows,s.next⟩
def Eu (P:Program) (w0:World) (T0:Bs) (o:Oper) (g:Option Bool) (s:S) (v:AV):Prop:=match g with
 | none=>KU P w0 T0 o ⟨s.n,dG s (eU o.op),s.rows,s.next⟩ v
 | some c=>Fv.below s.next v=true∧(c=true→dK s (eU o.op)=true∧KU P w0 T0 o ⟨s.n,gZ s (eU o.op),s.rows,s.next⟩ v)
def OH (P:Program) (w0:World) (T0:Bs) (o:Oper) (g:Option Bool) (s:S):QR:=
 match qP ⟨s.n,dG s (eU o.op),s.rows,s.next⟩ o.op with
 | some (pre,b)=>match g with
  | none=>.val (.bool b) (pre∧qh o.op) false
  | some c=>.val (.bool b) (c=true→pre∧qh o.op) false
 | none=>match MX P ⟨s.n,uK g s (eU o.op),s.rows,s.next⟩ o.op with
  | some v=>.val v (Eu P w0 T0 o g s v) true
  | none=>match g,wZ o.op with
   | none,true=>.lin
   | _,_=>.call
def iZ (P:Program) (w0:World) (T0:Bs) (ops:Array Oper) (es:List Nat) (tb:List (Nat × List Nat)):List Oper→Nat→List Acc→List pO→S→(S→Prop)→Prop
 | [],_,acc,hs,s,Q=>redo P w0 T0 s.n hs acc∧Q s
 | o::rest,i,acc,hs,s,Q=>
  @Qe (gd ops s o) ⟨fun g=>@O4 (qL es i) ⟨
   match g with
   | none=>@O4 (wZ o.op) ⟨
     lX P w0 T0 o ⟨s.n,dG s (eU o.op),s.rows,s.next⟩ (fun v t=>@Qd v t ⟨fun v R N=>aS (kG o.dst s.n) (iZ P w0 T0 ops es tb rest (i+1) acc (hs++[(R,N)]) (jJ o.dst v ⟨s.n,s.env,R,N⟩) Q)⟩),
     @QE ⟨fun v R N=>lX P w0 T0 o ⟨s.n,dG s (eU o.op),s.rows,s.next⟩ (fun r t=>r=v∧t.rows=R∧t.next=N),
      fun v R N=>aS (kG o.dst s.n) (iZ P w0 T0 ops es tb rest (i+1) acc (hs++[(R,N)]) (jJ o.dst v ⟨s.n,s.env,R,N⟩) Q)⟩⟩
   | some c=>@Ite c ⟨@QE ⟨fun v R N=>dK s (eU o.op)=true∧lX P w0 T0 o ⟨s.n,gZ s (eU o.op),s.rows,s.next⟩ (fun r t=>r=v∧t.rows=R∧t.next=N),
      fun v R N=>aS (kG o.dst s.n) (iZ P w0 T0 ops es tb rest (i+1) acc (hs++[(R,N)]) (jJ o.dst (.opt true v) ⟨s.n,s.env,R,N⟩) Q)⟩⟩
     ⟨aS (kG o.dst s.n) (iZ P w0 T0 ops es tb rest (i+1) acc (hs++[(s.rows,s.next)]) (jJ o.dst (.opt false (.bool false)) s) Q)⟩,
   @P7 (OH P w0 T0 o g s) ⟨
    fun v re=>aS (kG o.dst s.n) (iZ P w0 T0 ops es tb rest (i+1) (bif re then jV (kH tb i) ⟨o,g,uK g s (eU o.op),v,kH tb i⟩ acc else acc) hs (jJ o.dst (Eb g v) s) Q),
    lX P w0 T0 o ⟨s.n,dG s (eU o.op),s.rows,s.next⟩ (fun v t=>@Qd v t ⟨fun v R N=>aS (R=s.rows∧N=s.next) (aS (kG o.dst s.n) (iZ P w0 T0 ops es tb rest (i+1) (jV (kH tb i) ⟨o,g,uK g s (eU o.op),v,kH tb i⟩ acc) hs (jJ o.dst v s) Q))⟩),
    @QV ⟨fun v=>Eu P w0 T0 o g s v,
     fun v=>aS (kG o.dst s.n) (iZ P w0 T0 ops es tb rest (i+1) (jV (kH tb i) ⟨o,g,uK g s (eU o.op),v,kH tb i⟩ acc) hs (jJ o.dst (Eb g v) s) Q)⟩⟩⟩⟩
theorem gW {d:Option Nat} {v:AV} {s:S} {Q:S→Prop} (h1:kG d s.n) (h2:Q (jJ d v s)):dZ d v s Q:=by
 unfold dZ
 cases d with
 | none=>exact h2
 | some d=>simp only [kG] at h1;simp only [h1,if_true];exact h2
section
variable {P:Program} {w0:World} {T0:Bs} {ops:Array Oper} [hG:lZ P w0 T0]
def G7 (env1 env:List (Nat × AV)):Prop:=∀ r x,lk env1 r=some x→x=.dead∨lk env r=some x∨lk env r=some (.opt true x)
theorem aN.restrict {H:List (AV × Value)} {s:S} {a:Act} {w:World} {m:Nat→Value} (h:aN w0 T0 H s a w m) {env1:List (Nat × AV)} (he:G7 env1 s.env):aN w0 T0 H { s with env:=env1 } a w m:=
 {size:=h.size,nodef:=h.nodef,below:=h.below,held:=h.held,rows:=h.rows,sep:=h.sep,
  env:=by
   intro r v hv
   rcases he r v hv with rfl|hx|hx
   ·exact .dead _
   ·exact h.env r v hx
   ·have:=h.env r _ hx
    cases this with
    | opt _ _ _ _ h1 _=>exact h1 rfl }
theorem aI.frame {o:Oper} {s:S} {env1:List (Nat × AV)} {v:AV} {R:List (Nat × Item)} {N:Nat} (h:aI P w0 T0 o { s with env:=env1 } (fun r s'=>r=v∧s'.rows=R∧s'.next=N)) (he:G7 env1 s.env) :
  aI P w0 T0 o s (fun r s'=>r=v∧s'={ s with rows:=R,next:=N }):=by
 intro H a w next Q ⟨m,hm⟩ hn
 let E:List (AV × Value):=s.env.map fun p=>(s.get p.1,a.tmps.getD p.1 undef)
 have hE:∀ r x,lk s.env r=some x→(x,a.tmps.getD r undef)∈E:=by
  intro r x hx
  have:∀ l:List (Nat × AV),lk l r=some x→∃ p,p∈l∧p.1=r:=by
   intro l
   induction l with
   | nil=>intro h;simp [lk] at h
   | cons q l ih=>
    intro h
    simp only [lk] at h
    split at h
    ·rename_i e;exact ⟨q,.head _,e⟩
    ·obtain ⟨p,hp,e⟩:=ih h;exact ⟨p,.tail _ hp,e⟩
  obtain ⟨p,hp,e⟩:=this _ hx
  refine List.mem_map.2 ⟨p,hp,?_⟩
  subst e
  simp [S.get,hx]
 have hm1:aN w0 T0 (E++H) { s with env:=env1 } a w m:=by
  have h1:=hm.restrict he
  refine { h1 with held:=?_ }
  intro p hp
  rcases List.mem_append.1 hp with hp|hp
  ·obtain ⟨q,hq,rfl⟩:=List.mem_map.1 hp
   show Rv _ (s.get q.1) _
   simp only [S.get]
   cases hl:lk s.env q.1 with
   | none=>exact .dead _
   | some x=>exact hm.env _ _ hl
  ·exact hm.held p hp
 refine h (E++H) a w next Q ⟨m,hm1⟩ ?_
 rintro r s' val w' ⟨rfl,hr,hx⟩ ⟨m',hm'⟩
 refine hn _ _ val w' ⟨rfl,rfl⟩ ⟨m',?_⟩
 subst hr;subst hx
 refine { size:=hm.size,nodef:=hm'.nodef,below:=hm'.below,rows:=hm'.rows,sep:=hm'.sep,env:=?_,held:=?_ }
 ·intro r x hx
  exact hm'.held _ (List.mem_cons_of_mem _ (List.mem_append_left _ (hE r x hx)))
 ·intro p hp
  rcases List.mem_cons.1 hp with rfl|hp
  ·exact hm'.held _ (.head _)
  ·exact hm'.held p (List.mem_cons_of_mem _ (List.mem_append_right _ hp))
theorem kP (s:S):∀ l:List Operand,G7 (dG s l) s.env
 | []=>by intro r x h;simp [dG,lk] at h
 | .tmp t::l=>by
  intro r x h
  simp only [dG,lk] at h
  split at h
  ·rename_i e;subst e;cases h
   simp only [S.get]
   cases hl:lk s.env t with
   | none=>exact .inl rfl
   | some y=>exact .inr (.inl rfl)
  ·exact kP s l r x h
 | .const _::l=>by intro r x h;exact kP s l r x h
 | .func _::l=>by intro r x h;exact kP s l r x h
 | .global _::l=>by intro r x h;exact kP s l r x h
theorem nC (s:S):∀ l:List Operand,dK s l=true→G7 (gZ s l) s.env
 | [],_=>by intro r x h;simp [gZ,lk] at h
 | .tmp t::l,hc=>by
  intro r x h
  simp only [dK] at hc
  simp only [gZ,lk] at h
  split at h
  ·rename_i e;subst e;cases h
   cases hg:s.get t with
   | opt c v=>
    rw [hg] at hc
    simp only [Bool.and_eq_true] at hc
    simp only [S.get] at hg
    cases hl:lk s.env t with
    | none=>rw [hl] at hg;cases hg
    | some y=>rw [hl] at hg;simp only at hg;subst hg;rw [hc.1];exact .inr (.inr rfl)
   | _=>
    simp only [S.get] at hg
    cases hl:lk s.env t with
    | none=>rw [hl] at hg;simp only at hg;first|(cases hg;done)|(cases hg;exact .inl rfl)
    | some y=>rw [hl] at hg;simp only at hg;subst hg;exact .inr (.inl rfl)
  ·refine nC s l ?_ r x h
   split at hc
   ·simp only [Bool.and_eq_true] at hc;exact hc.2
   ·exact hc
 | .const _::l,hc=>by intro r x h;exact nC s l (by simpa [dK] using hc) r x h
 | .func _::l,hc=>by intro r x h;exact nC s l (by simpa [dK] using hc) r x h
 | .global _::l,hc=>by intro r x h;exact nC s l (by simpa [dK] using hc) r x h
theorem gu {s s':S}:∀ l:List Operand,(∀ t,.tmp t∈l→s'.get t=s.get t)→dG s' l=dG s l
 | [],_=>rfl
 | .tmp t::l,h=>by simp only [dG];rw [h t (.head _),gu l fun t ht=>h t (.tail _ ht)]
 | .const _::l,h=>by simp only [dG];exact gu l fun t ht=>h t (.tail _ ht)
 | .func _::l,h=>by simp only [dG];exact gu l fun t ht=>h t (.tail _ ht)
 | .global _::l,h=>by simp only [dG];exact gu l fun t ht=>h t (.tail _ ht)
theorem gy {s s':S}:∀ l:List Operand,(∀ t,.tmp t∈l→s'.get t=s.get t)→gZ s' l=gZ s l∧dK s' l=dK s l
 | [],_=>⟨rfl,rfl⟩
 | .tmp t::l,h=>by simp only [gZ,dK];rw [h t (.head _),(gy l fun t ht=>h t (.tail _ ht)).1,(gy l fun t ht=>h t (.tail _ ht)).2];exact ⟨rfl,rfl⟩
 | .const _::l,h=>by simp only [gZ,dK];exact gy l fun t ht=>h t (.tail _ ht)
 | .func _::l,h=>by simp only [gZ,dK];exact gy l fun t ht=>h t (.tail _ ht)
 | .global _::l,h=>by simp only [gZ,dK];exact gy l fun t ht=>h t (.tail _ ht)
def QS (P:Program) (w0:World) (T0:Bs) (ops:Array Oper) (o:Oper) (n:Nat) (get:Nat→AV) (h h':pO) (v:AV):Prop:=
 ∀ env,(∀ r,r∈o.looksAt ops→S.get ⟨n,env,[],0⟩ r=get r) →
  ∀ (H:List (AV × Value)) (a:Act) (w:World) (K:Act→World→Prop) (Qx:Exit→Act→World→Prop),Rep w0 T0 H ⟨n,env,h.1,h.2⟩ a w →
   (∀ val w',Rep w0 T0 ((v,val)::H) ⟨n,env,h'.1,h'.2⟩ a w'→K (a.put o.dst val) w') →
   if Region.wanted o (yielded ops a.tmps)=true then o.wp P a w K Qx else K (a.put o.dst undef) w
theorem vK {s:S} {o:Oper} (h:gd ops s o=some none):o.guard=none:=by
 unfold gd at h
 split at h
 ·assumption
 ·split at h
  ·split at h<;>simp at h
  ·simp at h
theorem II {H:List (AV × Value)} {s:S} {o:Oper} {c:Bool} (h:gd ops s o=some (some c)) {a:Act} {w:World} (hr:Rep w0 T0 H s a w):Region.wanted o (yielded ops a.tmps)=c:=by
 unfold gd at h
 cases hg:o.guard with
 | none=>rw [hg] at h;simp at h
 | some jw=>
  obtain ⟨j,want⟩:=jw
  rw [hg] at h
  dsimp only at h
  cases hd:(ops[j]?).bind (·.dst) with
  | none=>rw [hd] at h;simp at h
  | some r=>
   rw [hd] at h
   dsimp only at h
   have hslot:∀ x,s.get r=x→x≠.dead→lk s.env r=some x:=by
    intro x hx hne
    simp only [S.get] at hx
    cases hl:lk s.env r with
    | none=>rw [hl] at hx;exact absurd hx.symm hne
    | some y=>rw [hl] at hx;exact congrArg some hx
   have hyield:∀ b,a.tmps.getD r undef=.bool b→yielded ops a.tmps j=some b:=by
    intro b hvv
    have h1:a.tmps[r]?=some (.bool b):=by
     rw [Array.getD_eq_getD_getElem?] at hvv
     cases hq:a.tmps[r]? with
     | none=>rw [hq] at hvv;simp [undef] at hvv
     | some y=>rw [hq] at hvv;simpa using hvv
    simp [yielded,hd,h1]
   have hyno:a.tmps.getD r undef=undef→yielded ops a.tmps j=none:=by
    intro hvv
    cases hq:a.tmps[r]? with
    | none=>simp [yielded,hd,hq]
    | some y=>
     rw [Array.getD_eq_getD_getElem?,hq] at hvv
     have:y=undef:=by simpa using hvv
     subst this
     simp [yielded,hd,hq,undef]
   obtain ⟨m,hm⟩:=hr
   split at h
   ·rename_i b hb
    have hl:=hslot _ hb (by simp)
    have hv:=hm.env r _ hl
    generalize hvv:a.tmps.getD r undef=vv at hv
    cases hv
    have hy:=hyield b hvv
    simp only [Option.some.injEq] at h
    subst h
    cases want<;>cases b<;>simp [Region.wanted,hg,hy]
   ·rename_i c b hb
    have hl:=hslot _ hb (by simp)
    have hv:=hm.env r _ hl
    simp only [Option.some.injEq] at h
    subst h
    cases hv with
    | opt _ _ _ _ h1 h2=>
     cases c with
     | true=>
      have h1':=h1 rfl
      generalize hvv:a.tmps.getD r undef=vv at h1'
      cases h1'
      have hy:=hyield b hvv
      cases want<;>cases b<;>simp [Region.wanted,hg,hy]
     | false=>
      have hy:=hyno (h2 rfl)
      cases want<;>simp [Region.wanted,hg,hy]
   ·simp at h
theorem J5 {s s':S} {o:Oper} (h:∀ r,r∈o.looksAt ops→s'.get r=s.get r):gd ops s' o=gd ops s o:=by
 unfold gd
 cases hg:o.guard with
 | none=>rfl
 | some jw=>
  obtain ⟨j,want⟩:=jw
  dsimp only
  cases hd:(ops[j]?).bind (·.dst) with
  | none=>rfl
  | some r=>
   dsimp only
   rw [h r (by simp [Oper.looksAt,hg,hd])]
theorem QS.plain {o:Oper} {s:S} {h h':pO} {v:AV} (hg:o.guard=none) (hop:∀ env,(∀ r,r∈o.looksAt ops→S.get ⟨s.n,env,[],0⟩ r=s.get r)→aI P w0 T0 o ⟨s.n,env,h.1,h.2⟩ (fun r s'=>r=v∧s'=⟨s.n,env,h'.1,h'.2⟩)) :
  QS P w0 T0 ops o s.n s.get h h' v:=by
 intro env he H a w K Qx hr hk
 rw [if_pos (by simp [Region.wanted,hg])]
 refine hop env he H a w K Qx hr ?_
 rintro r s' val w' ⟨rfl,rfl⟩ hr'
 exact hk val w' hr'
theorem QS.guarded {o:Oper} {s:S} {h h':pO} {v:AV} {c:Bool} (hg:gd ops s o=some (some c))
  (hop:c=true→∀ env,(∀ r,r∈o.looksAt ops→S.get ⟨s.n,env,[],0⟩ r=s.get r)→aI P w0 T0 o ⟨s.n,env,h.1,h.2⟩ (fun r s'=>r=v∧s'=⟨s.n,env,h'.1,h'.2⟩))
  (hno:c=false→h'=h∧Fv.below h.2 v=true):QS P w0 T0 ops o s.n s.get h h' (.opt c v):=by
 intro env he H a w K Qx hr hk
 have hgd:gd ops ⟨s.n,env,h.1,h.2⟩ o=some (some c):=by rw [←hg];exact J5 he
 rw [II hgd hr]
 cases c with
 | true=>
  simp only [if_true]
  refine hop rfl env he H a w K Qx hr ?_
  rintro r s' val w' ⟨rfl,rfl⟩ ⟨m',hm'⟩
  have hv:=hm'.held _ (.head _)
  exact hk val w' ⟨m',hm'.ku.hold (.opt true _ val hv.ids (fun _=>hv) (fun e=>by cases e))⟩
 | false=>
  obtain ⟨rfl,hb⟩:=hno rfl
  simp only [Bool.false_eq_true,if_false]
  obtain ⟨m,hm⟩:=hr
  exact hk undef w ⟨m,hm.hold (.opt false v undef hb (fun e=>by cases e) (fun _=>rfl))⟩
theorem Bz {o:Oper} {s:S} (hl:∀ t,.tmp t∈eU o.op→t∈o.looksAt ops) {h:pO} {R:List (Nat × Item)} {N:Nat} {v:AV}
  (hv:lX P w0 T0 o ⟨s.n,dG s (eU o.op),h.1,h.2⟩ (fun r s'=>r=v∧s'.rows=R∧s'.next=N)) :
  ∀ env,(∀ r,r∈o.looksAt ops→S.get ⟨s.n,env,[],0⟩ r=s.get r)→aI P w0 T0 o ⟨s.n,env,h.1,h.2⟩ (fun r s'=>r=v∧s'=⟨s.n,env,R,N⟩):=by
 intro env he
 have e:dG ⟨s.n,env,h.1,h.2⟩ (eU o.op)=dG s (eU o.op):=gu _ fun t ht=>he t (hl t ht)
 have:=jI hv
 rw [←e] at this
 exact this.frame (s:=⟨s.n,env,h.1,h.2⟩) (kP _ _)
theorem BD {o:Oper} {s:S} (hl:∀ t,.tmp t∈eU o.op→t∈o.looksAt ops) {h:pO} {R:List (Nat × Item)} {N:Nat} {v:AV} (hc:dK s (eU o.op)=true)
  (hv:lX P w0 T0 o ⟨s.n,gZ s (eU o.op),h.1,h.2⟩ (fun r s'=>r=v∧s'.rows=R∧s'.next=N)) :
  ∀ env,(∀ r,r∈o.looksAt ops→S.get ⟨s.n,env,[],0⟩ r=s.get r)→aI P w0 T0 o ⟨s.n,env,h.1,h.2⟩ (fun r s'=>r=v∧s'=⟨s.n,env,R,N⟩):=by
 intro env he
 have e:=gy (s:=s) (s':=⟨s.n,env,h.1,h.2⟩) (eU o.op) fun t ht=>he t (hl t ht)
 have:=jI hv
 rw [←e.1] at this
 exact this.frame (s:=⟨s.n,env,h.1,h.2⟩) (nC _ _ (by rw [e.2];exact hc))
theorem DN {o:Oper} {s:S} (hl:∀ t,.tmp t∈eU o.op→t∈o.looksAt ops) {h:pO} {R:List (Nat × Item)} {N:Nat} {pre:Prop} {b:Bool} (hg:qP ⟨s.n,dG s (eU o.op),R,N⟩ o.op=some (pre,b)) (hp:pre) (hok:qh o.op) :
  ∀ env,(∀ r,r∈o.looksAt ops→S.get ⟨s.n,env,[],0⟩ r=s.get r)→aI P w0 T0 o ⟨s.n,env,h.1,h.2⟩ (fun r s'=>r=.bool b∧s'=⟨s.n,env,h.1,h.2⟩):=by
 intro env he
 have e:dG ⟨s.n,env,h.1,h.2⟩ (eU o.op)=dG s (eU o.op):=gu _ fun t ht=>he t (hl t ht)
 have hg':qP ⟨s.n,dG s (eU o.op),h.1,h.2⟩ o.op=some (pre,b):=hg
 intro H a w next Q ⟨m,hm⟩ hn
 have hm1:=hm.restrict (kP ⟨s.n,env,h.1,h.2⟩ (eU o.op))
 rw [e] at hm1
 have hrun:=mV (P:=P) hg' hp hok ⟨m,hm1⟩
 unfold Oper.wp
 rw [hrun]
 exact hn _ _ (.bool b) w ⟨rfl,rfl⟩ ⟨m,hm.hold (.bool b)⟩
end
def mD (T:List Nat) (i q:Nat):Bool:=(T.getD i 0).testBit q
def PD (ops:Array Oper):List Nat:=
 ops.toList.foldl (fun acc o=>acc++[o.after.toList.foldl (fun s e=>bif Region.binds .any e then s ||| 2 ^ e.on ||| acc.getD e.on 0 else s) 0]) []
def iT (es:List Nat) (i:Nat):Nat:=(List.range i).countP fun j=>es.elem j
def rC (ops:Array Oper) (f:Nat→Oper→Bool):Bool:=(List.range ops.size).all fun i=>match ops[i]? with
 | some o=>f i o
 | none=>true
theorem eP {ops:Array Oper} {f:Nat→Oper→Bool} (h:rC ops f=true) {i:Nat} {o:Oper} (hi:ops[i]?=some o):f i o=true:=by
 have h1:=List.all_eq_true.1 h i (List.mem_range.2 (Array.getElem?_eq_some_iff.1 hi).1)
 simpa [hi] using h1
def Kt (ops:Array Oper) (es:List Nat) (tb:List (Nat × List Nat)) (T:List Nat):Bool:=
 Region.noSelect ops &&
 rC ops (fun (i:Nat) (o:Oper)=>o.after.all fun e=>!Region.binds .any e || decide (e.on<i)) &&
 rC ops (fun (i:Nat) (o:Oper)=>(List.range ops.size).all fun q=>!mD T i q || o.after.any fun e=>Region.binds .any e && (e.on == q || mD T e.on q)) &&
 rC ops (fun (i:Nat) (o:Oper)=>match o.dst with
  | none=>true
  | some r=>rC ops fun (j:Nat) (oj:Oper)=>j == i || oj.dst != some r) &&
 rC ops (fun (i:Nat) (o:Oper)=>rC ops fun (j:Nat) (oj:Oper)=>match oj.dst with
  | none=>true
  | some r=>!(o.looksAt ops).contains r || (mD T i j && decide (j<i)) || (!mD T i j && (decide (i<j) && mD T j i))) &&
 rC ops (fun (i:Nat) (o:Oper)=>(eU o.op).all fun x=>match x with
  | .tmp t=>(o.looksAt ops).contains t
  | _=>true) &&
 (List.range es.length).all (fun k=>match es[k]? with
  | some i=>decide (i<ops.size) && iT es i == k && (match es[k+1]? with
   | some i'=>mD T i' i
   | none=>true)
  | none=>true) &&
 rC ops (fun (i:Nat) (o:Oper)=>es.elem i || (List.range (es.length+1)).all fun k=>k == iT es i || (kH tb i).contains k || (es.drop k).any (fun e=>mD T i e) || (es.take k).any (fun e=>mD T e i)) &&
 iT es ops.size == es.length
structure jL (ops:Array Oper) (es:List Nat) (tb:List (Nat × List Nat)) (T:List Nat):Prop where
 sel:Region.noSelect ops=true
 low:∀ (i:Nat) (o:Oper),ops[i]?=some o→∀ e,e∈o.after→Region.binds .any e=true→e.on<i
 anc:∀ (i:Nat) (o:Oper),ops[i]?=some o→∀ q,q<ops.size→mD T i q=true→∃ e,e∈o.after∧Region.binds .any e=true∧(e.on=q∨mD T e.on q=true)
 dst:∀ (i:Nat) (o:Oper) (r j:Nat) (oj:Oper),ops[i]?=some o→ops[j]?=some oj→o.dst=some r→oj.dst=some r→j=i
 look:∀ (i:Nat) (o:Oper) (r j:Nat) (oj:Oper),ops[i]?=some o→ops[j]?=some oj→oj.dst=some r→r∈o.looksAt ops→(mD T i j=true∧j<i)∨(mD T i j=false∧i<j∧mD T j i=true)
 reads:∀ (i:Nat) (o:Oper),ops[i]?=some o→∀ t,.tmp t∈eU o.op→t∈o.looksAt ops
 es1:∀ k i,es[k]?=some i→i<ops.size∧iT es i=k
 es2:∀ k i i',es[k]?=some i→es[k+1]?=some i'→mD T i' i=true
 heaps:∀ (i:Nat) (o:Oper),ops[i]?=some o→es.elem i=false→∀ k,k≤es.length→k=iT es i∨k∈kH tb i∨(∃ k' e,k≤k'∧es[k']?=some e∧mD T i e=true)∨(∃ k' e,k'<k∧es[k']?=some e∧mD T e i=true)
 tot:iT es ops.size=es.length
theorem jL.of {ops:Array Oper} {es:List Nat} {tb:List (Nat × List Nat)} {T:List Nat} (h:Kt ops es tb T=true):jL ops es tb T:=by
 simp only [Kt,Bool.and_eq_true] at h
 obtain ⟨⟨⟨⟨⟨⟨⟨⟨h1,h2⟩,h3⟩,h4⟩,h5⟩,h6⟩,h7⟩,h8⟩,h9⟩:=h
 refine ⟨h1,?_,?_,?_,?_,?_,?_,?_,?_,by simpa using h9⟩
 ·intro i o hi e he hb
  have:=eP h2 hi
  have:=Array.all_eq_true_iff_forall_mem.1 this e he
  simpa [hb] using this
 ·intro i o hi q hq hb
  have:=eP h3 hi
  have:=List.all_eq_true.1 this q (List.mem_range.2 hq)
  simp only [hb,Bool.not_true,Bool.false_or] at this
  obtain ⟨e,he,hh⟩:=Array.any_eq_true'.1 this
  simp only [Bool.and_eq_true,Bool.or_eq_true,beq_iff_eq] at hh
  exact ⟨e,he,hh.1,hh.2⟩
 ·intro i o r j oj hi hj hd hdj
  have:=eP h4 hi
  rw [hd] at this
  have:=eP this hj
  simp only [Bool.or_eq_true,beq_iff_eq,hdj,bne_self_eq_false,Bool.false_eq_true,or_false] at this
  exact this
 ·intro i o r j oj hi hj hd hr
  have:=eP (eP h5 hi) hj
  rw [hd] at this
  simp only [Bool.or_eq_true,Bool.not_eq_true',Bool.and_eq_true,decide_eq_true_eq] at this
  rcases this with (h0|h0)|h0
  ·have:(o.looksAt ops).contains r=true:=by simpa using hr
   rw [this] at h0;cases h0
  ·exact .inl h0
  ·exact .inr h0
 ·intro i o hi t ht
  have:=List.all_eq_true.1 (eP h6 hi) _ ht
  simpa using this
 ·intro k i hk
  have hlt:k<es.length:=(List.getElem?_eq_some_iff.1 hk).1
  have:=List.all_eq_true.1 h7 k (List.mem_range.2 hlt)
  rw [hk] at this
  simp only [Bool.and_eq_true,decide_eq_true_eq,beq_iff_eq] at this
  exact this.1
 ·intro k i i' hk hk'
  have hlt:k<es.length:=(List.getElem?_eq_some_iff.1 hk).1
  have:=List.all_eq_true.1 h7 k (List.mem_range.2 hlt)
  rw [hk,hk'] at this
  simp only [Bool.and_eq_true] at this
  exact this.2
 ·intro i o hi he k hk
  have:=eP h8 hi
  rw [he,Bool.false_or] at this
  have:=List.all_eq_true.1 this k (List.mem_range.2 (by omega))
  simp only [Bool.or_eq_true,beq_iff_eq,List.any_eq_true,List.contains_iff_mem] at this
  rcases this with ((h0|h0)|⟨e,he,hb⟩)|⟨e,he,hb⟩
  ·exact .inl h0
  ·exact .inr (.inl h0)
  ·obtain ⟨q,hq⟩:=List.mem_iff_getElem?.1 he
   rw [List.getElem?_drop] at hq
   exact .inr (.inr (.inl ⟨k+q,e,by omega,hq,hb⟩))
  ·obtain ⟨q,hq⟩:=List.mem_iff_getElem?.1 he
   rw [List.getElem?_take] at hq
   split at hq
   ·exact .inr (.inr (.inr ⟨q,e,by assumption,hq,hb⟩))
   ·cases hq
def GZ (ops:Array Oper) (r:Nat):Option Nat:=(List.range ops.size).find? fun i=>match ops[i]? with
 | some o=>o.dst == some r
 | none=>false
theorem kF {ops:Array Oper} {r j:Nat} (h:GZ ops r=some j):∃ o,ops[j]?=some o∧o.dst=some r:=by
 have:=List.find?_some h
 cases ho:ops[j]? with
 | none=>rw [ho] at this;cases this
 | some o=>rw [ho] at this;exact ⟨o,rfl,by simpa using this⟩
theorem jL.GZ {ops:Array Oper} {es:List Nat} {tb:List (Nat × List Nat)} {T:List Nat} (h:jL ops es tb T) {i:Nat} {o:Oper} {r:Nat} (hi:ops[i]?=some o) (hd:o.dst=some r):Fv.GZ ops r=some i:=by
 cases hx:Fv.GZ ops r with
 | none=>
  have:=List.find?_eq_none.1 hx i (List.mem_range.2 (Array.getElem?_eq_some_iff.1 hi).1)
  simp [hi,hd] at this
 | some j=>
  obtain ⟨oj,hj,hdj⟩:=kF hx
  rw [h.dst i o r j oj hi hj hd hdj]
section
variable {P:Program} {w0:World} {T0:Bs} {ops:Array Oper} {es:List Nat} {tb:List (Nat × List Nat)} {T:List Nat} [hG:lZ P w0 T0]
def iy (ops:Array Oper) (s0:S) (vs:List AV) (i r:Nat):AV:=match GZ ops r with
 | some j=>if j<i then vs.getD j .dead else s0.get r
 | none=>s0.get r
theorem QS.congr {o:Oper} {n:Nat} {get get':Nat→AV} {h h':pO} {v:AV} (hq:QS P w0 T0 ops o n get h h' v) (he:∀ r,r∈o.looksAt ops→get' r=get r):QS P w0 T0 ops o n get' h h' v:=
 fun env hen=>hq env fun r hr=>(hen r hr).trans (he r hr)
structure qA (P:Program) (w0:World) (T0:Bs) (ops:Array Oper) (es:List Nat) (s0:S) (i:Nat) (vs:List AV) (hs:List pO):Prop where
 quiet:∀ j o,j<i→ops[j]?=some o→es.elem j=false→∃ h,hs[iT es j]?=some h∧QS P w0 T0 ops o s0.n (iy ops s0 vs j) h h (vs.getD j .dead)
 eff:∀ j o,j<i→ops[j]?=some o→es.elem j=true→∃ h h',hs[iT es j]?=some h∧hs[iT es j+1]?=some h'∧QS P w0 T0 ops o s0.n (iy ops s0 vs j) h h' (vs.getD j .dead)
 put:∀ j o d,j<i→ops[j]?=some o→o.dst=some d→d<s0.n
theorem iL {s0:S} {vs:List AV} {v:AV} {j:Nat} (h:j≤vs.length) (r:Nat):iy ops s0 (vs++[v]) j r=iy ops s0 vs j r:=by
 unfold iy
 split
 ·rename_i q _
  split
  ·rename_i hq
   simp only [List.getD_eq_getElem?_getD]
   rw [List.getElem?_append_left (by omega)]
  ·rfl
 ·rfl
theorem mW {vs:List AV} {v:AV} {j:Nat} (h:j<vs.length):(vs++[v]).getD j .dead=vs.getD j .dead:=by
 simp only [List.getD_eq_getElem?_getD]
 rw [List.getElem?_append_left h]
theorem iH {vs:List AV} {v:AV}:(vs++[v]).getD vs.length .dead=v:=by
 simp [List.getD_eq_getElem?_getD]
theorem zV (i:Nat):iT es (i+1)=iT es i+(bif es.elem i then 1 else 0):=by
 unfold iT
 rw [List.range_succ,List.countP_append,List.countP_singleton]
 cases es.elem i<;>rfl
def nG (P:Program) (w0:World) (T0:Bs) (n:Nat) (x:Acc) (h:pO):Prop:=match x.g with
 | none=>KU P w0 T0 x.o ⟨n,x.env,h.1,h.2⟩ x.v
 | some c=>Fv.below h.2 x.v=true∧(c=true→KU P w0 T0 x.o ⟨n,x.env,h.1,h.2⟩ x.v)
theorem xK {n:Nat} {x:Acc} {hs:List pO}:∀ {l:List Nat},zX P w0 T0 n x hs l→∀ k,k∈l→∃ h,hs[k]?=some h∧nG P w0 T0 n x h
 | k'::l,h,k,hk=>by
  unfold zX at h
  rcases List.mem_cons.1 hk with rfl|hk
  ·cases hh:hs[k]? with
   | none=>rw [hh] at h;exact h.1.elim
   | some q=>rw [hh] at h;exact ⟨q,rfl,h.1⟩
  ·exact xK h.2 k hk
theorem Jl {n:Nat} {hs:List pO} (l:List Acc) (h:redo P w0 T0 n hs l) (x:Acc) (hx:x∈l) (k:Nat) (hk:k∈x.ks):∃ h,hs[k]?=some h∧nG P w0 T0 n x h:=by
 induction l with
 | nil=>cases hx
 | cons y l ih=>
  obtain ⟨h1,h2⟩:=(h:zX P w0 T0 n y hs y.ks∧redo P w0 T0 n hs l)
  rcases List.mem_cons.1 hx with rfl|hx
  ·exact xK h1 k hk
  ·exact ih h2 hx
theorem xH {ks:List Nat} {x y:Acc} {l:List Acc} (h:y∈l):y∈jV ks x l:=by
 unfold jV;split
 ·exact h
 ·exact .tail _ h
theorem uN {ks:List Nat} {x:Acc} {l:List Acc} {k:Nat} (h:k∈ks):x∈jV ks x l:=by
 unfold jV;split
 ·cases h
 ·exact .head _
def GL (P:Program) (w0:World) (T0:Bs) (ops:Array Oper) (es:List Nat) (tb:List (Nat × List Nat)) (s0:S) (i:Nat) (vs:List AV) (acc:List Acc):Prop:=
 ∀ j o,j<i→ops[j]?=some o→es.elem j=false→∀ k,k∈kH tb j →
  (∀ h,QS P w0 T0 ops o s0.n (iy ops s0 vs j) h h (vs.getD j .dead))∨∃ x,x∈acc∧x.ks=kH tb j∧∀ h,nG P w0 T0 s0.n x h→QS P w0 T0 ops o s0.n (iy ops s0 vs j) h h (vs.getD j .dead)
theorem Ht (hok:jL ops es tb T) {s0 s:S} {i:Nat} {o:Oper} {vs:List AV} {hs hs':List pO} {v:AV} {Q:S→Prop} (hi:ops[i]?=some o) (hlen:vs.length=i) (hn:s.n=s0.n) (hget:∀ r,s.get r=iy ops s0 vs i r)
  (hd:qA P w0 T0 ops es s0 i vs hs) (hlh:hs.length=iT es i+1) (hpre:∀ (k:Nat) (h:pO),hs[k]?=some h→hs'[k]?=some h)
  (hq:es.elem i=false→∃ h,hs'[iT es i]?=some h∧QS P w0 T0 ops o s0.n (iy ops s0 vs i) h h v)
  (he:es.elem i=true→∃ h h',hs'[iT es i]?=some h∧hs'[iT es i+1]?=some h'∧QS P w0 T0 ops o s0.n (iy ops s0 vs i) h h' v)
  (hput:dZ o.dst v s Q):∃ s',Q s'∧s'.n=s0.n∧s'.rows=s.rows∧s'.next=s.next∧(∀ r,s'.get r=iy ops s0 (vs++[v]) (i+1) r)∧qA P w0 T0 ops es s0 (i+1) (vs++[v]) hs':=by
 have hnew:∀ d,o.dst=some d→iy ops s0 (vs++[v]) (i+1) d=v:=by
  intro d hdd
  unfold iy
  rw [hok.GZ hi hdd]
  simp only [Nat.lt_succ_self,if_true]
  rw [←hlen];exact iH
 have hold:∀ r,o.dst≠some r→iy ops s0 (vs++[v]) (i+1) r=s.get r:=by
  intro r hr
  rw [hget]
  unfold iy
  cases hx:GZ ops r with
  | none=>rfl
  | some j=>
   dsimp only
   have hne:j≠i:=by
    rintro rfl
    obtain ⟨oj,hj,hdj⟩:=kF hx
    rw [hi] at hj;cases hj
    exact hr hdj
   by_cases hji:j<i
   ·rw [if_pos hji,if_pos (by omega),mW (by omega)]
   ·rw [if_neg hji,if_neg (by omega)]
 have hdone:(∀ d,o.dst=some d→d<s0.n)→qA P w0 T0 ops es s0 (i+1) (vs++[v]) hs':=by
  intro hdn
  refine ⟨?_,?_,?_⟩
  ·intro j oj hj hoj hej
   by_cases e:j=i
   ·subst e
    rw [hi] at hoj;cases hoj
    obtain ⟨h,hh,hqs⟩:=hq hej
    refine ⟨h,hh,?_⟩
    rw [show (vs++[v]).getD j .dead=v from by rw [←hlen];exact iH]
    exact hqs.congr fun r _=>iL (by omega) r
   ·obtain ⟨h,hh,hqs⟩:=hd.quiet j oj (by omega) hoj hej
    refine ⟨h,hpre _ _ hh,?_⟩
    rw [mW (by omega)]
    exact hqs.congr fun r _=>iL (by omega) r
  ·intro j oj hj hoj hej
   by_cases e:j=i
   ·subst e
    rw [hi] at hoj;cases hoj
    obtain ⟨h,h',hh,hh',hqs⟩:=he hej
    refine ⟨h,h',hh,hh',?_⟩
    rw [show (vs++[v]).getD j .dead=v from by rw [←hlen];exact iH]
    exact hqs.congr fun r _=>iL (by omega) r
   ·obtain ⟨h,h',hh,hh',hqs⟩:=hd.eff j oj (by omega) hoj hej
    refine ⟨h,h',hpre _ _ hh,hpre _ _ hh',?_⟩
    rw [mW (by omega)]
    exact hqs.congr fun r _=>iL (by omega) r
  ·intro j oj d hj hoj hdj
   by_cases e:j=i
   ·subst e
    rw [hi] at hoj;cases hoj
    exact hdn d hdj
   ·exact hd.put j oj d (by omega) hoj hdj
 unfold dZ at hput
 cases hdst:o.dst with
 | none=>
  rw [hdst] at hput
  exact ⟨s,hput,hn,rfl,rfl,fun r=>(hold r (by rw [hdst];simp)).symm,hdone fun d h=>by rw [hdst] at h;cases h⟩
 | some d=>
  rw [hdst] at hput
  dsimp only at hput
  split at hput
  ·rename_i hlt
   refine ⟨s.set d v,hput,hn,rfl,rfl,fun r=>?_,hdone fun d' h=>by rw [hdst] at h;cases h;rw [←hn];exact hlt⟩
   by_cases e:d=r
   ·subst e
    rw [hnew d hdst]
    simp [S.get,S.set,lk]
   ·rw [hold r (by rw [hdst];simpa using e)]
    simp [S.get,S.set,lk,e]
  ·exact hput.elim
end
end Go.Fv
/-
 Operations whose result is fixed by the state.
-/
namespace Go.Fv
open Go.RowKit
def fD (F:(AV→S→Prop)→Prop):Prop:=∀ K,F K→∃ v s',K v s'∧∀ K':AV→S→Prop,K' v s'→F K'
theorem fD.pure (v:AV) (s:S):fD (fun K=>K v s):=fun K h=>⟨v,s,h,fun _ h=>h⟩
theorem fD.chk {p:Prop} {F:(AV→S→Prop)→Prop} (h:fD F):fD (fun K=>aS p (F K)):=fun K hk=>by
 obtain ⟨v,s,h1,h2⟩:=h K hk.2
 exact ⟨v,s,h1,fun K' hk'=>⟨hk.1,h2 K' hk'⟩⟩
theorem fD.Py {k:IntKind} {e:Int} (s:S):fD (fun K=>dU k e (fun n=>K (.int k n) s)):=fun K h=>
 ⟨.int k (k.wrap e),s,h _ rfl (bJ _ _),fun K' hk' n hn _=>by subst hn;exact hk'⟩
section
variable {P:Program} {w0:World} {T0:Bs} {s:S}
theorem Nj (e:TypeId) (x:Operand):fD (Af e x s):=by
 intro K h
 unfold Af at h ⊢
 cases hb:fF (s.ev x) with
 | none=>rw [hb] at h;exact h.elim
 | some cs=>rw [hb] at h;exact (fD.pure _ _).chk K h
theorem I7 (e:TypeId):fD (oO P e s):=by
 intro K h
 unfold oO at h ⊢
 cases hb:zeroOf P e with
 | none=>rw [hb] at h;exact h.elim
 | some z=>rw [hb] at h;exact (fD.pure _ _).chk K h
theorem Jb (t:TypeId) (x v:Operand):fD (oV P t x v s):=by
 intro K h
 unfold oV at h ⊢
 cases hb:fF (s.ev v) with
 | none=>rw [hb] at h;exact h.elim
 | some cs=>
  rw [hb] at h
  refine (fD.chk ?_) K h
  intro K h
  cases hx:s.ev x<;>rw [hx] at h<;>try (exact h.elim)
  ·rename_i i off
   dsimp only at h ⊢
   cases hl:lk s.rows i with
   | none=>rw [hl] at h;exact h.elim
   | some it=>cases it with
    | row e r=>rw [hl] at h;exact h.elim
    | map _ _=>rw [hl] at h;exact h.elim
    | iter _ _ _=>rw [hl] at h;exact h.elim
    | siter _ _=>rw [hl] at h;exact h.elim
    | box e bs=>rw [hl] at h;exact (fD.pure _ _).chk K h
  ·rename_i i sz idx off
   dsimp only at h ⊢
   cases hl:lk s.rows i with
   | none=>rw [hl] at h;exact h.elim
   | some it=>cases it with
    | box e bs=>rw [hl] at h;exact h.elim
    | map _ _=>rw [hl] at h;exact h.elim
    | iter _ _ _=>rw [hl] at h;exact h.elim
    | siter _ _=>rw [hl] at h;exact h.elim
    | row e r=>
     rw [hl] at h
     refine (fD.chk ?_) K h
     intro K h
     cases hq:jk r idx off cs with
     | none=>rw [hq] at h;exact h.elim
     | some r'=>rw [hq] at h;exact (fD.pure _ _) K h
theorem Kv (t:TypeId) (l c:Operand):fD (uh P t l c s):=by
 intro K h
 unfold uh at h ⊢
 split at h
 ·rename_i e k n k2 n2 h1 h2 h3
  cases hz:zeroOf P e with
  | none=>rw [hz] at h;exact h.elim
  | some z=>rw [hz] at h;exact (fD.pure _ _).chk.chk K h
 ·exact h.elim
theorem xC (t:TypeId) (len:Nat) (parts:Array (Nat × Operand)):fD (fH P t len parts s):=by
 intro K h
 unfold fH at h ⊢
 split at h
 ·rename_i e h1
  cases hz:zeroOf P e with
  | none=>rw [hz] at h;exact h.elim
  | some z=>
   rw [hz] at h
   refine (fD.chk (fD.chk ?_)) K h
   intro K h
   split at h
   ·rename_i r hr;exact fD.pure _ _ K h
   ·exact h.elim
 ·exact h.elim
theorem I8 (t:TypeId) (parts:Array (Nat × Operand)):fD (lK P t parts s):=by
 intro K h
 unfold lK at h ⊢
 split at h
 ·rename_i d z h1 h2
  refine (fD.chk (fD.chk ?_)) K h
  intro K h
  split at h
  ·rename_i r hr;exact fD.pure _ _ K h
  ·exact h.elim
 ·exact h.elim
theorem Bc (fn:Fn) (first caps:Array Operand):fD (fU fn first caps s):=by
 intro K h
 unfold fU at h ⊢
 split at h
 ·exact (fD.pure _ _).chk K h
 ·exact h.elim
theorem lG (t t2:TypeId) (x y:Operand):fD (gU P t t2 x y s):=by
 intro K h
 unfold gU at h ⊢
 split at h
 ·rename_i e i h1 h2
  split at h
  ·rename_i e' r h3
   split at h
   ·rename_i r2 h4
    split at h
    ·rename_i r3 h5
     split at h
     ·rename_i z h6
      exact (fD.pure _ _).chk.chk.chk K h
     ·exact h.elim
    ·exact h.elim
   ·exact h.elim
  ·exact h.elim
 ·exact h.elim
theorem uJ (t t2:TypeId) (x y:Operand):fD (iD P t t2 x y s):=by
 intro K h
 unfold iD at h ⊢
 split at h
 ·rename_i r
  split at h
  ·split at h
   ·split at h
    ·exact (lG t t2 _ y).chk K h
    ·exact h.elim
   ·exact h.elim
  ·split at h
   ·exact (lG t t2 _ y).chk K h
   ·exact h.elim
  ·exact lG t t2 _ y K h
 ·exact lG t t2 _ y K h
theorem D5 (t t2:TypeId) (x y:Operand):fD (jq P t t2 x y s):=by
 intro K h
 unfold jq at h ⊢
 cases hx:s.ev x<;>rw [hx] at h<;>try (exact uJ t t2 x y K h)
 cases hy:s.ev y<;>rw [hy] at h<;>try (exact uJ t t2 x y K h)
 dsimp only at h ⊢
 split at h
 ·split at h
  ·split at h
   ·split at h
    ·exact (fD.pure _ _).chk.chk K h
    ·exact h.elim
   ·exact h.elim
  ·exact h.elim
 ·exact h.elim
theorem Nk (x:Operand):fD (yA x s):=by
 intro K h
 unfold yA at h ⊢
 split at h
 all_goals first|exact h.elim|(rename_i hx;exact fD.pure _ _ K h)
theorem D7 (x:Operand) (i:Nat):fD (iF x i s):=by
 intro K h
 unfold iF at h ⊢
 split at h
 ·rename_i l hx
  split at h
  ·rename_i v hv;exact fD.pure _ _ K h
  ·exact h.elim
 ·exact h.elim
theorem OB (op:UnOp) (x:Operand):fD (Gv op x s):=by
 intro K h
 unfold Gv at h ⊢
 cases hx:s.ev x<;>rw [hx] at h<;>try (exact h.elim)
 ·cases op<;>first|exact h.elim|exact fD.pure _ _ K h
 ·cases op<;>first|exact h.elim|exact fD.Py _ K h
theorem D6 (a b:TypeId) (x:Operand):fD (nO P a b x s):=by
 intro K h
 unfold nO at h ⊢
 split at h
 ·rename_i d1 d2 h1 h2
  cases d2<;>try (exact h.elim)
  ·cases hx:s.ev x<;>rw [hx] at h<;>try (exact h.elim)
   exact fD.Py _ K h
  ·cases hx:s.ev x<;>rw [hx] at h<;>try (exact h.elim)
   ·exact (fD.pure _ _).chk K h
   ·exact fD.pure _ _ K h
   ·rename_i r
    cases r<;>try (exact h.elim)
    rename_i k l
    cases k<;>try (exact h.elim)
    cases d1<;>try (exact h.elim)
    exact (fD.pure _ _).chk K h
   ·rename_i i
    dsimp only at h ⊢
    split at h
    ·rename_i l e h3 ; exact (fD.pure _ _).chk K h
    ·exact h.elim
 ·exact h.elim
theorem I9 (a b:TypeId) (x:Operand):fD (oP P a b x s):=by
 intro K h
 unfold oP at h ⊢
 split at h
 ·split at h
  ·exact ((fD.pure _ _).chk) K h
  ·exact h.elim
 ·split at h
  ·rename_i k n hn
   obtain ⟨hs,h⟩:=h
   split at h
   ·rename_i hl
    obtain ⟨r,s',h1,h2⟩:=fD.pure _ _ K h
    exact ⟨r,s',h1,fun K' h'=>⟨hs,by rw [if_pos hl];exact h2 K' h'⟩⟩
   ·rename_i hl
    obtain ⟨r,s',h1,h2⟩:=fD.pure _ _ K h
    exact ⟨r,s',h1,fun K' h'=>⟨hs,by rw [if_neg hl];exact h2 K' h'⟩⟩
  ·exact D6 a b x K h
 ·exact D6 a b x K h
theorem Kw (m:Bool) (xs:List AV):fD (fun K=>ES m xs (fun r=>K r s)):=by
 intro K h
 unfold ES at h ⊢
 split at h
 ·exact (fD.pure _ s).chk K h
 ·exact (fD.pure _ s).chk K h
 ·exact h.elim
theorem D9 (t:TypeId) (x:Operand):fD (qw P t x s):=by
 intro K h
 unfold qw at h ⊢
 split at h
 ·split at h
  ·rename_i e h1
   split at h
   ·rename_i z h2;exact (fD.pure _ _).chk K h
   ·exact h.elim
  ·exact h.elim
 ·exact (fD.pure _ _).chk K h
 ·rename_i h1 h2
  exact (fD.pure _ _).chk K h
theorem D8 (t:TypeId) (r:Option Operand):fD (kU P t r s):=by
 intro K h
 cases r with
 | none=>exact fD.pure _ _ K h
 | some _=>exact h.elim
theorem FY (t:TypeId) (x k v:Operand):fD (kW P t x k v s):=by
 intro K h
 unfold kW at h ⊢
 cases ht:P.underlying t with
 | none=>rw [ht] at h;exact h.elim
 | some d=>
  rw [ht] at h
  cases d<;>try (exact h.elim)
  dsimp only at h ⊢
  cases hx:s.ev x<;>rw [hx] at h<;>try (exact h.elim)
  dsimp only at h ⊢
  split at h
  ·rename_i hi
   exact ((fD.pure _ _).chk.chk) K h
  ·exact h.elim
theorem Ku (ks vs:List AV) (k:AV) (z:Value) (i:Nat):fD (IE ks vs k z i s):=by
 intro K h
 unfold IE at h ⊢
 cases z<;>first|exact h.elim|exact ((fD.pure _ _).chk) K h
theorem FX (t:TypeId) (x k:Operand):fD (kV P t x k s):=by
 intro K h
 unfold kV at h ⊢
 cases ht:P.underlying t with
 | none=>rw [ht] at h;exact h.elim
 | some d=>
  rw [ht] at h
  cases d<;>try (exact h.elim)
  rename_i kt et
  dsimp only at h ⊢
  cases hz:zeroOf P et with
  | none=>rw [hz] at h;exact h.elim
  | some z=>
   rw [hz] at h
   dsimp only at h ⊢
   cases hx:s.ev x<;>rw [hx] at h<;>try (exact h.elim)
   dsimp only at h ⊢
   split at h
   ·rename_i hi
    exact ((Ku _ _ _ z _).chk.chk) K h
   ·exact h.elim
theorem Ba (x st v:Operand):fD (iE x st v s):=by
 intro K h
 unfold iE at h ⊢
 cases hx:s.ev x<;>rw [hx] at h<;>try (exact h.elim)
 dsimp only at h ⊢
 split at h
 ·rename_i hi
  split at h
  ·rename_i hs
   exact ((fD.pure _ _).chk.chk) K h
  ·exact h.elim
 ·exact h.elim
theorem Ja (t:TypeId) (x:Operand):fD (oQ P t x s):=by
 intro K h
 unfold oQ at h ⊢
 cases ht:P.underlying t with
 | none=>rw [ht] at h;exact h.elim
 | some d=>
  rw [ht] at h
  cases d<;>try (exact h.elim)
  ·dsimp only at h ⊢
   cases hx:s.ev x<;>rw [hx] at h<;>try (exact h.elim)
   exact ((fD.pure _ _).chk) K h
  ·dsimp only at h ⊢
   cases hx:s.ev x<;>rw [hx] at h<;>try (exact h.elim)
   dsimp only at h ⊢
   split at h
   ·rename_i hi
    exact ((fD.pure _ _).chk) K h
   ·exact h.elim
theorem Ky {o:Oper} (hl:wZ o.op=true):fD (lX P w0 T0 o s):=by
 intro K h
 unfold lX at h ⊢
 cases ho:o.op<;>rw [ho] at h hl<;>try (cases hl;done)
 case move x=>exact D9 _ _ K h
 case assign x=>exact D9 _ _ K h
 case extract x i=>exact (D7 x i).chk K h
 case makeFunc fn first caps=>exact Bc _ _ _ K h
 case box e x=>exact Nj _ _ K h
 case alloc e=>exact I7 _ K h
 case store t x v=>exact (Jb t x v).chk K h
 case nilCheck x=>exact (Nk x).chk K h
 case makeSlice t l c=>exact (Kv t l c).chk K h
 case unOp op t x=>exact (OB op x).chk K h
 case convert t t' x=>exact (I9 t t' x).chk K h
 case buildSlice t len parts=>exact xC _ _ _ K h
 case build t parts=>exact I8 _ _ K h
 case makeMap t r=>exact D8 _ _ K h
 case mapUpdate t x k v=>exact FY _ _ _ _ K h
 case mapEntry t x k=>exact FX _ _ _ K h
 case entryStore t x st v=>exact Ba _ _ _ K h
 case range t x=>exact Ja _ _ K h
 case call c=>
  obtain ⟨callee,args,argTypes⟩:=c
  dsimp only [wZ] at hl
  dsimp only [jH] at h ⊢
  cases callee with
  | builtin b=>
   cases b<;>try (cases hl;done)
   case append=>
    dsimp only at h ⊢
    split at h
    ·rename_i x y t t2 h1 h2
     exact (D5 t t2 x y).chk K h
    ·exact h.elim
   case min=>exact (Kw false _).chk K h
   case max=>exact (Kw true _).chk K h
  | _=>cases hl
end
end Go.Fv
