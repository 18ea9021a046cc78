/-
  A part of the proof of the claim: walks over the program's functions and the plain laws that these need. No condition of its own.
-/
import Derived.Test.YtodlgmmbfbiilaaGreatDoorFvPart4
import Derived.Test.YtodlgmmbfbiilaaGreatDoorFvPart6
import Derived.Orders
import Derived.Still
set_option linter.unusedSectionVars false
set_option linter.unusedVariables false
set_option linter.unusedSimpArgs false
set_option linter.unnecessarySimpa false
/-
 Regions, code, loops, calls, contracts.
-/
namespace Go.Fv
open Go.RowKit
def Enter (P:Program) (f:Nat):Prop:=∃ fn,P.funcs[f]?=some fn∧fn.body.isNone=false∧(fn.name == "runtime.NumGoroutine")=false
class BrQ where
 q:Exit→S→Prop
class BrK where
 k:AV→S→Prop
class BrS where
 k:S→Prop
def ah (P:Program) (w0:World) (T0:Bs) (f:Nat) (args:List AV) (s:S) [K:BrK]:Prop:=
 Enter P f∧∀ (H:List (AV × Value)) (a:Act) (w:World) (m:Nat→Value) (vals:List Value),bG w0 T0 H s a w m→eG (aB T0 w0.heap.size m s w) args vals →
  Calls P f vals.toArray w fun e w'=>∃ v,e=.returned v∧∃ r s',K.k r s'∧Rep w0 T0 ((r,v)::H) s' a w'
def Dy (b0:Nat) (H:List (AV × Value)):Prop:=∀ p,p∈H→below b0 p.1=true
def aF (P:Program) (w0:World) (T0:Bs) (b0:Nat) (c:Code) (s:S) [Q:BrQ]:Prop:=
 ∀ (H:List (AV × Value)) (a:Act) (w:World),Dy b0 H→Rep w0 T0 H s a w→(Code.loop c).wp P (fun e a' w'=>∃ s',Q.q e s'∧Rep w0 T0 H s' a' w') a w
def aN (P:Program) (w0:World) (T0:Bs) (b0:Nat) (id:Nat) (ops:Array Oper) (s:S) [Q:BrS]:Prop:=
 ∀ (H:List (AV × Value)) (a:Act) (w:World),Dy b0 H→Rep w0 T0 H s a w→(Code.region id ops true).wp P (fun e a' w'=>e=.normal∧∃ s',Q.k s'∧Rep w0 T0 H s' a' w') a w
@[congr] theorem XO {P:Program} {w0:World} {T0:Bs} {f:Nat} {args args':List AV} {s s':S} {K:BrK} (h:args=args') (h2:s=s'):@ah P w0 T0 f args s K=@ah P w0 T0 f args' s' K:=by rw [h,h2]
@[congr] theorem XR {P:Program} {w0:World} {T0:Bs} {b0:Nat} {c:Code} {s s':S} {Q:BrQ} (h:s=s'):@aF P w0 T0 b0 c s Q=@aF P w0 T0 b0 c s' Q:=by rw [h]
@[congr] theorem XP {P:Program} {w0:World} {T0:Bs} {b0 id:Nat} {ops:Array Oper} {s s':S} {Q:BrS} (h:s=s'):@aN P w0 T0 b0 id ops s Q=@aN P w0 T0 b0 id ops s' Q:=by rw [h]
def o8 (P:Program) (w0:World) (T0:Bs) (c:Call) (s:S) (K:AV→S→Prop):Prop:=
 match c.callee with
 | .builtin .append=>match c.args.toList,c.argTypes.toList with
  | [x,y],[t,t2]=>bJ (aC x) (oC P t t2 x y s K)
  | _,_=>False
 | .builtin .len=>match c.args.toList,c.argTypes.toList with
  | [x],[t]=>bJ (aC x) (OA P t x s K)
  | _,_=>False
 | .builtin .unsafeSliceData=>match c.args.toList,c.argTypes.toList with
  | [x],[_]=>bJ (aC x) (zC x s K)
  | _,_=>False
 | .builtin .cap=>match c.args.toList,c.argTypes.toList with
  | [x],[t]=>bJ (aC x) (Kz P t x s K)
  | _,_=>False
 | .builtin .unsafeString=>match c.args.toList,c.argTypes.toList with
  | [x,n],[pt,_]=>bJ (aC x∧aC n) (KP P pt x n s K)
  | _,_=>False
 | .builtin .min=>bJ (∀ x,x∈c.args.toList→aC x) (OD false (evs s c.args.toList) (fun r=>K r s))
 | .builtin .max=>bJ (∀ x,x∈c.args.toList→aC x) (OD true (evs s c.args.toList) (fun r=>K r s))
 | .value g=>match s.ev g with
  | .fn f caps=>bJ (aC g∧∀ x,x∈c.args.toList→aC x) (@ah P w0 T0 f (evs s c.args.toList++caps) s ⟨K⟩)
  | _=>False
 | _=>False
def sU (P:Program) (w0:World) (T0:Bs) (o:Oper) (s:S) (K:AV→S→Prop):Prop:=
 match o.op with
 | .move x=>xJ P o.type x s K
 | .assign x=>xJ P o.type x s K
 | .pick c x y=>bJ (aC c) (Gi c x y s K)
 | .extract x i=>bJ (aC x) (lM x i s K)
 | .makeFunc fn first caps=>jQ fn first caps s K
 | .box e x=>I5 e x s K
 | .alloc e=>vW P e s K
 | .load t x=>match x with
  | .global g=>QK P t g s K
  | x=>bJ (aC x) (F5 P t x s K)
 | .store t x v=>bJ (aC x) (vZ P t x v s K)
 | .nilCheck x=>bJ (aC x) (Gg x s K)
 | .fieldAddr t x k=>bJ (aC x) (jB P t x k s K)
 | .indexAddr t x i=>bJ (aC x∧aC i) (mP P t x i s K)
 | .makeSlice t l c=>bJ (aC l∧aC c) (AO P t l c s K)
 | .binOp op t x y _=>bJ (aC x∧aC y) (FX P op t y (s.ev x) (s.ev y) (fun r=>K r s))
 | .call c=>o8 P w0 T0 c s K
 | .unOp op _ x=>bJ (aC x) (QO op x s K)
 | .convert a b x=>bJ (aC x) (vX P a b x s K)
 | .index t x i=>bJ (aC x∧aC i) (zx P t x i s K)
 | .field t x k=>bJ (aC x) (zo P t x k s K)
 | .slice t x lo hi mx=>bJ (aC x) (Du P t x lo hi mx s K)
 | .buildSlice t len parts=>jF P t len parts s K
 | .build t parts=>su P t parts s K
 | .lookup t x i ok=>uK P t x i ok s K
 | .makeMap t r=>qV P t r s K
 | .mapUpdate t x k v=>qX P t x k v s K
 | .mapEntry t x k=>qW P t x k s K
 | .entryStore _ x st v=>lK x st v s K
 | .range t x=>vY P t x s K
 | .next x str=>KI x str s K
 | .entry x=>Dt x s K
 | _=>False
section
variable {P:Program} {w0:World} {T0:Bs} {s:S} [hG:uO P w0 T0]
theorem FY {o:Oper} {K:AV→S→Prop} {c:Call} (ho:o.op=.call c) (h:o8 P w0 T0 c s K):aY P w0 T0 o s K:=by
 obtain ⟨callee,args,argTypes⟩:=c
 unfold o8 at h
 cases callee with
 | builtin b=>
  cases b<;>try (exact h.elim)
  case append=>
   dsimp only at h
   split at h
   ·rename_i x y t t2 e1 e2
    obtain ⟨hx,h⟩:=h
    have e1':args=#[x,y]:=by apply Array.ext';simpa using e1
    have e2':argTypes=#[t,t2]:=by apply Array.ext';simpa using e2
    subst e1' e2'
    exact Ci ho hx h
   ·exact h.elim
  case len=>
   dsimp only at h
   split at h
   ·rename_i x t e1 e2
    obtain ⟨hx,h⟩:=h
    have e1':args=#[x]:=by apply Array.ext';simpa using e1
    have e2':argTypes=#[t]:=by apply Array.ext';simpa using e2
    subst e1' e2'
    exact OB ho hx h
   ·exact h.elim
  case unsafeSliceData=>
   dsimp only at h
   split at h
   ·rename_i x t e1 e2
    obtain ⟨hx,h⟩:=h
    have e1':args=#[x]:=by apply Array.ext';simpa using e1
    have e2':argTypes=#[t]:=by apply Array.ext';simpa using e2
    subst e1' e2'
    exact Gj ho hx h
   ·exact h.elim
  case cap=>
   dsimp only at h
   split at h
   ·rename_i x t e1 e2
    obtain ⟨hx,h⟩:=h
    have e1':args=#[x]:=by apply Array.ext';simpa using e1
    have e2':argTypes=#[t]:=by apply Array.ext';simpa using e2
    subst e1' e2'
    exact KA ho hx h
   ·exact h.elim
  case unsafeString=>
   dsimp only at h
   split at h
   ·rename_i x n pt it e1 e2
    obtain ⟨⟨hx,hn⟩,h⟩:=h
    have e1':args=#[x,n]:=by apply Array.ext';simpa using e1
    have e2':argTypes=#[pt,it]:=by apply Array.ext';simpa using e2
    subst e1' e2'
    exact KQ ho hx hn h
   ·exact h.elim
  case min=>exact F8 (isMax:=false) ho h.1 h.2
  case max=>exact F8 (isMax:=true) ho h.1 h.2
 | invoke r mth=>exact h.elim
 | value g=>
  dsimp only at h
  intro H a w next Q ⟨m,hm⟩ hn
  cases hg:s.ev g with
  | fn f caps=>
   rw [hg] at h
   obtain ⟨⟨hog,hoa⟩,⟨fn,hf,hb,hnm⟩,h⟩:=h
   have rg:=hm.ev g hog
   rw [hg] at rg
   generalize hvg:a.eval g=vg at rg
   cases rg with
   | fn _ _ cvals hc=>
    have hargs:=(hm.evs hoa).append hc
    have hcalls:=h H a w m _ hm hargs
    have hrun:(execOp a.eval o).run P w=.ok (.enter f ((args.toList.map a.eval++cvals).toArray)) w:=by
     unfold execOp;rw [ho]
     have e:(Array.map a.eval args++cvals.toArray)=(args.toList.map a.eval++cvals).toArray:=by
      apply Array.ext';simp
     have hnm':¬fn.name = "runtime.NumGoroutine" := by simpa using hnm
     have hb':¬fn.body=none:=by intro e;simp [e] at hb
     simp [resolve,hvg,Deferred.ofValue,invoke,callFunc,hf,hb',hnm',e]
    unfold Oper.wp
    rw [hrun]
    refine Calls.mono hcalls ?_
    rintro e w' ⟨v,rfl,r,s',hk,hr⟩
    exact hn r s' v w' hk hr
  | _=>rw [hg] at h;exact h.elim
theorem o9 {o:Oper} {K:AV→S→Prop} (h:sU P w0 T0 o s K):aY P w0 T0 o s K:=by
 unfold sU at h
 cases ho:o.op<;>rw [ho] at h<;>try (exact h.elim)
 case move x=>exact zB (.inl ho) h
 case assign x=>exact zB (.inr ho) h
 case pick c x y=>exact KL ho h.1 h.2
 case extract x i=>exact Cj ho h.1 h.2
 case makeFunc fn first caps=>exact AP ho h
 case box e x=>exact Oz ho h
 case alloc e=>exact GL ho h
 case load t x=>
  cases x with
  | global g=>exact (KE ho h).op
  | _=>exact KF ho h.1 h.2
 case store t x v=>exact G8 ho h.1 h.2
 case nilCheck x=>exact OE ho h.1 h.2
 case fieldAddr t x k=>exact zq ho h.1 h.2
 case indexAddr t x i=>exact zy ho h.1.1 h.1.2 h.2
 case makeSlice t l c=>exact KH ho h.1.1 h.1.2 h.2
 case binOp op t x y t'=>exact Ku ho h.1.1 h.1.2 h.2
 case call c=>exact FY ho h
 case unOp op t x=>exact QT ho h.1 h.2
 case convert t t' x=>exact GU ho h.1 h.2
 case index t x i=>exact GZ ho h.1.1 h.1.2 h.2
 case field t x k=>exact GX ho h.1 h.2
 case slice t x lo hi mx=>exact G7 ho h.1 h.2
 case buildSlice t len parts=>exact xH ho h
 case build t parts=>exact GN ho h
 case lookup t x i ok=>exact F6 ho h
 case makeMap t r=>exact CB ho h
 case mapUpdate t x k v=>exact Gf ho h
 case mapEntry t x k=>exact F9 ho h
 case entryStore t x st v=>exact AL ho h
 case range t x=>exact G6 ho h
 case next x str=>exact KJ ho h
 case entry x=>exact GV ho h
end
def jk (d:Option Nat) (v:AV) (s:S) (Q:S→Prop):Prop:=
 match d with
 | none=>Q s
 | some d=>if d<s.n then Q (s.set d v) else False
def xq:Op→Prop
 | .pick c x y=>aC c∧aC x∧aC y
 | _=>False
def xK (P:Program) (w0:World) (T0:Bs) (o:Oper) (c:Bool) (s s1 s2:S) (k:S→Prop):Prop:=
 match yL s o.op with
 | some (pre,b)=>bJ (c=true→pre∧xq o.op) (jk o.dst (.opt c (.bool b)) s k)
 | none=>match Yi P (peel s (PD o.op)) o.op with
  | some v=>bJ (Fv.below s.next v=true) (bJ (c=true→iG s (PD o.op)=true∧sU P w0 T0 o (peel s (PD o.op)) (fun r s'=>r=v∧s'=peel s (PD o.op))) (jk o.dst (.opt c v) s k))
  | none=>@Ite c ⟨bJ (iG s1 (PD o.op)=true) (sU P w0 T0 o (peel s1 (PD o.op)) (fun v s'=>jk o.dst v s' k))⟩ ⟨jk o.dst (.opt false (.bool false)) s2 k⟩
def QL (P:Program) (w0:World) (T0:Bs) (ops:Array Oper) (o:Oper) (s:S) (k:S→Prop):Prop:=
 match o.guard with
 | none=>match yL s o.op with
  | some (pre,b)=>bJ (pre∧xq o.op) (jk o.dst (.bool b) s k)
  | none=>sU P w0 T0 o s (fun v s'=>jk o.dst v s' k)
 | some (j,want)=>match (ops[j]?).bind (·.dst) with
  | some r=>match s.get r with
   | .bool b=>xK P w0 T0 o (bif want then b else !b) s (s.set r (.bool want)) (s.set r (.bool (!want))) k
   | .opt c (.bool b)=>xK P w0 T0 o (c && bif want then b else !b) s s s k
   | _=>False
  | none=>False
def Gh (P:Program) (w0:World) (T0:Bs) (ops:Array Oper):List Oper→S→(S→Prop)→Prop
 | [],s,Q=>Q s
 | o::rest,s,Q=>QL P w0 T0 ops o s (fun s'=>Gh P w0 T0 ops rest s' Q)
section
variable {P:Program} {w0:World} {T0:Bs} {H:List (AV × Value)} [hG:uO P w0 T0]
theorem Rep.put {s:S} {a:Act} {w:World} {r:AV} {v:Value} {d:Option Nat} {Q:S→Prop} (h:Rep w0 T0 ((r,v)::H) s a w) (hq:jk d r s Q):∃ s',Q s'∧Rep w0 T0 H s' (a.put d v) w:=by
 obtain ⟨m,hm⟩:=h
 cases d with
 | none=>exact ⟨s,hq,m,hm.qx⟩
 | some d=>
  simp only [jk] at hq
  split at hq
  ·rename_i hd;exact ⟨_,hq,m,hm.qx.Z8 (hm.held _ (.head _)) hd⟩
  ·exact hq.elim
theorem bG.know {s:S} {a:Act} {w:World} {m:Nat→Value} (h:bG w0 T0 H s a w m) {r:Nat} {x:AV} (hx:Rv (aB T0 w0.heap.size m s w) x (a.tmps.getD r undef)):bG w0 T0 H (s.set r x) a w m:=
 {size:=h.size,nodef:=h.nodef,below:=h.below,held:=h.held,rows:=h.rows,sep:=h.sep,
  env:=by
   intro q y hy
   have hy':(if r=q then some x else lk s.env q)=some y:=hy
   split at hy'
   ·rename_i e;subst e;cases hy';exact hx
   ·exact h.env q y hy' }
theorem uf {s:S} {a:Act} {w:World} {o:Oper} {pre:Prop} {b:Bool} (h:yL s o.op=some (pre,b)) (hp:pre) (hok:xq o.op) (hr:Rep w0 T0 H s a w):(execOp a.eval o).run P w=.ok (.value (.bool b)) w:=by
 obtain ⟨m,hm⟩:=hr
 unfold yL at h
 cases ho:o.op<;>rw [ho] at h hok<;>try (cases h;done)
 rename_i c x y
 obtain ⟨h1,h2,h3⟩:=hok
 dsimp only at h
 split at h
 ·rename_i bc p q ec ex ey
  cases h
  obtain ⟨k1,k2,k3⟩:=hp
  have rc:=WQ hm h1 k1
  rw [ec] at rc
  generalize hvc:a.eval c=vc at rc
  cases rc
  have hrun:(execOp a.eval o).run P w=.ok (.value (if bc then a.eval x else a.eval y)) w:=by
   unfold execOp;rw [ho];simp [hvc,asBool,Sem.run_bind,Result.andThen]
  cases bc with
  | true=>
   have rx:=WQ hm h2 (k2 rfl)
   rw [ex] at rx
   generalize hvx:a.eval x=vx at rx hrun
   cases rx
   simpa using hrun
  | false=>
   have ry:=WQ hm h3 (k3 rfl)
   rw [ey] at ry
   generalize hvy:a.eval y=vy at ry hrun
   cases ry
   simpa using hrun
 ·cases h
theorem zD {o:Oper} {c:Bool} {s s1 s2:S} {k:S→Prop} (h:xK P w0 T0 o c s s1 s2 k) {a:Act} {w:World} (hr:Rep w0 T0 H s a w) {W:Bool} (hW:W=c) (hr1:c=true→Rep w0 T0 H s1 a w) (hr2:c=false→Rep w0 T0 H s2 a w) {K:Act→World→Prop} {Qc:Exit→Act→World→Prop}
  (hk:∀ s' a' w',k s'→Rep w0 T0 H s' a' w'→K a' w'):if W=true then o.wp P a w K Qc else K (a.put o.dst undef) w:=by
 subst hW
 unfold xK at h
 have skip:W=false→∀ (v:AV) (s:S),Rep w0 T0 H s a w→(∀ c,Rv c v undef)→jk o.dst v s k→K (a.put o.dst undef) w:=by
  intro _ v s hr hv hp
  obtain ⟨m,hm⟩:=hr
  obtain ⟨s'',h2,hr2⟩:=Rep.put (v:=undef) (⟨m,hm.hold (hv _)⟩:Rep w0 T0 ((v,undef)::H) s a w) hp
  exact hk _ _ _ h2 hr2
 split at h
 ·rename_i pre b hg
  obtain ⟨hpre,hput⟩:=h
  cases W with
  | true=>
   simp only [if_true]
   obtain ⟨hp,hok⟩:=hpre rfl
   have hrun:=uf (P:=P) hg hp hok hr
   unfold Oper.wp
   rw [hrun]
   obtain ⟨m,hm⟩:=hr
   obtain ⟨s'',h2,hr2⟩:=Rep.put (v:=.bool b) (⟨m,hm.hold (.opt true (.bool b) (.bool b) rfl (fun _=>.bool b) (fun e=>by cases e))⟩:Rep w0 T0 ((.opt true (.bool b),.bool b)::H) s a w) hput
   exact hk _ _ _ h2 hr2
  | false=>
   simp only [Bool.false_eq_true,if_false]
   exact skip rfl _ s hr (fun _=>.opt false _ _ rfl (fun e=>by cases e) (fun _=>rfl)) hput
 ·split at h
  ·rename_i v hv
   obtain ⟨hb,hpre,hput⟩:=h
   cases W with
   | true=>
    simp only [if_true]
    obtain ⟨hpc,hop⟩:=hpre rfl
    obtain ⟨m,hm⟩:=hr
    refine o9 hop H a w _ _ ⟨m,hm.peel hpc⟩ ?_
    rintro r s' v' w' ⟨rfl,rfl⟩ ⟨m',hm'⟩
    have hv':=hm'.held _ (.head _)
    have hm2:=hm'.qx.aak hpc
    obtain ⟨s'',h2,hr2⟩:=Rep.put (v:=v') (⟨m',hm2.hold (.opt true r v' hb (fun _=>hv') (fun e=>by cases e))⟩:Rep w0 T0 ((.opt true r,v')::H) s a w') hput
    exact hk _ _ _ h2 hr2
   | false=>
    simp only [Bool.false_eq_true,if_false]
    obtain ⟨m,hm⟩:=hr
    obtain ⟨s'',h2,hr2⟩:=Rep.put (v:=undef) (⟨m,hm.hold (.opt false v undef hb (fun e=>by cases e) (fun _=>rfl))⟩:Rep w0 T0 ((.opt false v,undef)::H) s a w) hput
    exact hk _ _ _ h2 hr2
  ·cases W with
   | true=>
    simp only [if_true]
    obtain ⟨hpc,hop⟩:=h.1 rfl
    obtain ⟨m1,hm1⟩:=hr1 rfl
    refine o9 hop H a w _ _ ⟨m1,hm1.peel hpc⟩ ?_
    intro r s' v w' hk' hr'
    obtain ⟨s'',h2,hr2⟩:=hr'.put hk'
    exact hk _ _ _ h2 hr2
   | false=>
    simp only [Bool.false_eq_true,if_false]
    exact skip rfl _ s2 (hr2 rfl) (fun _=>.opt false _ _ rfl (fun e=>by cases e) (fun _=>rfl)) (h.2 rfl)
theorem FZ {ops:Array Oper} {o:Oper} {s:S} {k:S→Prop} (h:QL P w0 T0 ops o s k) {a:Act} {w:World} (hr:Rep w0 T0 H s a w) {K:Act→World→Prop} {Qc:Exit→Act→World→Prop}
  (hk:∀ s' a' w',k s'→Rep w0 T0 H s' a' w'→K a' w'):if Region.wanted o (yielded ops a.tmps) then o.wp P a w K Qc else K (a.put o.dst undef) w:=by
 unfold QL at h
 cases hg:o.guard with
 | none=>
  rw [hg] at h
  rw [if_pos (by simp [Region.wanted,hg])]
  dsimp only at h
  split at h
  ·rename_i pre b hgp
   obtain ⟨⟨hp,hok⟩,hput⟩:=h
   have hrun:=uf (P:=P) hgp hp hok hr
   unfold Oper.wp
   rw [hrun]
   obtain ⟨m,hm⟩:=hr
   obtain ⟨s'',h2,hr2⟩:=Rep.put (v:=.bool b) (⟨m,hm.hold (.bool b)⟩:Rep w0 T0 ((.bool b,.bool b)::H) s a w) hput
   exact hk _ _ _ h2 hr2
  ·refine o9 h H a w _ _ hr ?_
   intro r s' v w' hk' hr'
   obtain ⟨s'',h2,hr2⟩:=hr'.put hk'
   exact hk _ _ _ h2 hr2
 | some jw=>
  obtain ⟨j,want⟩:=jw
  rw [hg] at h
  dsimp only at h
  cases hd:(ops[j]?).bind (·.dst) with
  | none=>rw [hd] at h;exact h.elim
  | some r=>
   rw [hd] at h
   dsimp only at h
   have hslot:∀ x,s.get r=x→x≠.dead→lk s.env r=some x:=by
    intro x hx hne
    simp only [S.get] at hx
    cases hl:lk s.env r with
    | none=>rw [hl] at hx;exact absurd hx.symm hne
    | some y=>rw [hl] at hx;exact congrArg some hx
   have hyield:∀ b,a.tmps.getD r undef=.bool b→yielded ops a.tmps j=some b:=by
    intro b hvv
    have h1:a.tmps[r]?=some (.bool b):=by
     rw [Array.getD_eq_getD_getElem?] at hvv
     cases hq:a.tmps[r]? with
     | none=>rw [hq] at hvv;simp [undef] at hvv
     | some y=>rw [hq] at hvv;simpa using hvv
    simp [yielded,hd,h1]
   have hyno:a.tmps.getD r undef=undef→yielded ops a.tmps j=none:=by
    intro hvv
    cases hq:a.tmps[r]? with
    | none=>simp [yielded,hd,hq]
    | some y=>
     rw [Array.getD_eq_getD_getElem?,hq] at hvv
     have:y=undef:=by simpa using hvv
     subst this
     simp [yielded,hd,hq,undef]
   split at h
   ·rename_i b hb
    have hl:=hslot _ hb (by simp)
    obtain ⟨m,hm⟩:=hr
    have hv:=hm.env r _ hl
    generalize hvv:a.tmps.getD r undef=vv at hv
    cases hv
    have hy:=hyield b hvv
    refine zD h ⟨m,hm⟩ ?_ ?_ ?_ hk
    ·cases want<;>cases b<;>simp [Region.wanted,hg,hy]
    ·intro hc
     refine ⟨m,hm.know ?_⟩
     rw [hvv]
     have:b=want:=by cases want<;>cases b<;>simp at hc<;>rfl
     rw [this];exact .bool want
    ·intro hc
     refine ⟨m,hm.know ?_⟩
     rw [hvv]
     have:b=!want:=by cases want<;>cases b<;>simp at hc<;>rfl
     rw [this];exact .bool _
   ·rename_i c b hb
    have hl:=hslot _ hb (by simp)
    have hr':=hr
    obtain ⟨m,hm⟩:=hr'
    have hv:=hm.env r _ hl
    refine zD h hr ?_ (fun _=>hr) (fun _=>hr) hk
    cases hv with
    | opt _ _ _ _ h1 h2=>
     cases c with
     | true=>
      have h1':=h1 rfl
      generalize hvv:a.tmps.getD r undef=vv at h1'
      cases h1'
      have hy:=hyield b hvv
      cases want<;>cases b<;>simp [Region.wanted,hg,hy]
     | false=>
      have hy:=hyno (h2 rfl)
      cases want<;>simp [Region.wanted,hg,hy]
   ·exact h.elim
theorem BO {ops:Array Oper} {Qc:Exit→Act→World→Prop}:∀ (l:List Oper) (s:S) (Q:S→Prop),Gh P w0 T0 ops l s Q→∀ (a:Act) (w:World),Rep w0 T0 H s a w →
  (∀ s' a' w',Q s'→Rep w0 T0 H s' a' w'→Qc .normal a' w')→wpList P ops Qc l a w
 | [],s,Q,h,a,w,hr,hq=>wpList_nil (hq s a w h hr)
 | o::rest,s,Q,h,a,w,hr,hq=>by
  unfold Gh at h
  refine wpList_step fun K hK=>?_
  exact FZ h hr fun s' a' w' hk hr'=>hK _ _ (BO rest s' Q hk a' w' hr' hq)
end
/-! ### Regions whose order is drawn -/
inductive AX where
 | done
 | first (i:Nat) (t:AX)
 | cons (i:Nat) (t r:AX)
 | stop
def PK (o:Oper):Bool:=match o.guard,o.op with
 | none,.move _=>true
 | none,.assign _=>true
 | none,.fieldAddr _ _ _=>true
 | _,_=>false
def iK (ops:Array Oper):AX→Nat→Array Bool→Option (List Nat)→Bool
 | .done,_,listed,none=>(Region.ready .any ops listed).isEmpty
 | .first i t,n+1,listed,none=>((ops[i]?).map PK).getD false && Region.free .any ops listed i && (Region.ready .any ops listed).contains i && iK ops t n (listed.setIfInBounds i true) none
 | .cons i t r,n+1,listed,none=>match Region.ready .any ops listed with
  | j::l=>i == j && iK ops t n (listed.setIfInBounds i true) none && iK ops r (n+1) listed (some l)
  | []=>false
 | .cons i t r,n+1,listed,some q=>match q with
  | j::l=>i == j && iK ops t n (listed.setIfInBounds i true) none && iK ops r (n+1) listed (some l)
  | []=>false
 | .stop,_+1,_,some q=>q.isEmpty
 | _,_,_,_=>false
def kX (P:Program) (w0:World) (T0:Bs) (ops:Array Oper):AX→S→(S→Prop)→Prop
 | .done,s,Q=>Q s
 | .first i t,s,Q=>match ops[i]? with
  | some o=>match o.op with
   | .move x=>bJ (aC x) (jk o.dst (s.ev x) s (fun s'=>kX P w0 T0 ops t s' Q))
   | .assign x=>bJ (aC x) (jk o.dst (s.ev x) s (fun s'=>kX P w0 T0 ops t s' Q))
   | .fieldAddr ty x k=>bJ (aC x) (jB P ty x k s (fun r s1=>jk o.dst r s1 (fun s'=>kX P w0 T0 ops t s' Q)))
   | _=>False
  | none=>False
 | .cons i t r,s,Q=>match ops[i]? with
  | some o=>QL P w0 T0 ops o s (fun s'=>kX P w0 T0 ops t s' Q)∧kX P w0 T0 ops r s Q
  | none=>False
 | .stop,_,_=>True
def thenS (next:S→Prop) (Q:Exit→S→Prop):Exit→S→Prop
 | .normal,s=>next s
 | e,s=>Q e s
def DV (id:Nat) (Q:Exit→S→Prop):Exit→S→Prop
 | .exit i,s=>if i=id then Q .normal s else Q (.exit i) s
 | e,s=>Q e s
def RU (c:Operand) (b:Bool) (s:S):S:=
 match c with
 | .tmp t=>s.set t (.bool b)
 | _=>s
def jP (P:Program) (w0:World) (T0:Bs) (b0:Nat):Code→(Exit→S→Prop)→S→Prop
 | .skip,Q,s=>Q .normal s
 | .label _,Q,s=>Q .normal s
 | .region id ops draw,Q,s=>match draw with
  | true=>@aN P w0 T0 b0 id ops s ⟨Q .normal⟩
  | false=>Gh P w0 T0 ops ops.toList s (Q .normal)
 | .seq x y,Q,s=>jP P w0 T0 b0 x (thenS (jP P w0 T0 b0 y Q) Q) s
 | .cond c x y,Q,s=>match s.ev c with
  | .bool b=>bJ (aC c) (@Ite b ⟨jP P w0 T0 b0 x Q (RU c true s)⟩ ⟨jP P w0 T0 b0 y Q (RU c false s)⟩)
  | _=>False
 | .block id c,Q,s=>jP P w0 T0 b0 c (DV id Q) s
 | .loop c,Q,s=>@aF P w0 T0 b0 c s ⟨Q⟩
 | .exit id,Q,s=>Q (.exit id) s
 | .ret,Q,s=>Q .ret s
 | _,_,_=>False
section
variable {P:Program} {w0:World} {T0:Bs} {b0:Nat} [hG:uO P w0 T0]
theorem sD:∀ (c:Code) (Q:Exit→S→Prop) (s:S),jP P w0 T0 b0 c Q s→∀ (H:List (AV × Value)) (a:Act) (w:World),Dy b0 H→Rep w0 T0 H s a w →
  c.wp P (fun e a' w'=>∃ s',Q e s'∧Rep w0 T0 H s' a' w') a w:=by
 intro c
 induction c with
 | skip=>intro Q s h H a w hH hr;exact wp_skip ⟨s,h,hr⟩
 | label l=>intro Q s h H a w hH hr;exact wp_label ⟨s,h,hr⟩
 | region id ops draw=>
  intro Q s h H a w hH hr
  cases draw with
  | true=>
   exact wp_mono (h H a w hH hr) fun e a' w' ⟨he,s',hq,hr'⟩=>by subst he;exact ⟨s',hq,hr'⟩
  | false=>
   exact wp_region_list (BO ops.toList s (Q .normal) h a w hr fun s' a' w' hq hr'=>⟨s',hq,hr'⟩)
 | seq x y ihx ihy=>
  intro Q s h H a w hH hr
  refine wp_seq (wp_mono (ihx _ s h H a w hH hr) ?_)
  rintro e a' w' ⟨s',hq,hr'⟩
  cases e with
  | normal=>exact ihy Q s' hq H a' w' hH hr'
  | _=>exact ⟨s',hq,hr'⟩
 | cond c x y ihx ihy=>
  intro Q s h H a w hH hr
  simp only [jP] at h
  obtain ⟨m,hm⟩:=hr
  cases hc:s.ev c with
  | bool b=>
   rw [hc] at h
   obtain ⟨hok,h⟩:=h
   have rc:=hm.ev c hok
   rw [hc] at rc
   generalize hv:a.eval c=vc at rc
   cases rc
   have hk:Rep w0 T0 H (RU c b s) a w:=by
    cases c with
    | tmp t=>exact ⟨m,hm.know (by have:a.tmps.getD t undef=.bool b:=hv;rw [this];exact .bool b)⟩
    | _=>exact ⟨m,hm⟩
   cases b with
   | true=>exact wp_cond_true hv (ihx Q _ (h.1 rfl) H a w hH hk)
   | false=>exact wp_cond_false hv (ihy Q _ (h.2 rfl) H a w hH hk)
  | _=>rw [hc] at h;exact h.elim
 | block id c ih=>
  intro Q s h H a w hH hr
  refine wp_block (wp_mono (ih _ s h H a w hH hr) ?_)
  rintro e a' w' ⟨s',hq,hr'⟩
  cases e with
  | exit i=>
   simp only [DV] at hq
   simp only [Exit.inBlock]
   split at hq
   ·rename_i e;rw [if_pos e];exact ⟨s',hq,hr'⟩
   ·rename_i e;rw [if_neg e];exact ⟨s',hq,hr'⟩
  | _=>exact ⟨s',hq,hr'⟩
 | loop c ih=>intro Q s h H a w hH hr;exact h H a w hH hr
 | exit id=>intro Q s h H a w hH hr;exact wp_exit ⟨s,h,hr⟩
 | ret=>intro Q s h H a w hH hr;exact wp_ret ⟨s,h,hr⟩
 | _=>intro Q s h;exact h.elim
/-! ### States that say less -/
def aK (w0:World) (T0:Bs) (b0:Nat) (s s':S):Prop:=∀ (H:List (AV × Value)) (a:Act) (w:World),Dy b0 H→Rep w0 T0 H s a w→Rep w0 T0 H s' a w
theorem aF.intro {c:Code} {s:S} {Q:Exit→S→Prop} {α:Type} (shape:α→S) (I:α→Prop) (μ:α→Nat) (x0:α) (h0:aK w0 T0 b0 s (shape x0)) (hI:I x0)
  (body:∀ x,I x→jP P w0 T0 b0 c (thenS (fun s'=>∃ x',aK w0 T0 b0 s' (shape x')∧I x'∧μ x'<μ x) Q) (shape x)):@aF P w0 T0 b0 c s ⟨Q⟩:=by
 intro H a w hH hr
 refine wp_loop_ghost (fun n a w=>∃ x,μ x=n∧I x∧Rep w0 T0 H (shape x) a w) (μ x0) ⟨x0,rfl,hI,h0 H a w hH hr⟩ ?_
 rintro n a w ⟨x,rfl,hx,hr⟩
 refine wp_mono (sD c _ _ (body x hx) H a w hH hr) ?_
 rintro e a' w' ⟨s',hq,hr'⟩
 cases e with
 | normal=>
  obtain ⟨x',he,hI',hlt⟩:=hq
  exact ⟨μ x',hlt,x',rfl,hI',he H a' w' hH hr'⟩
 | _=>exact ⟨s',hq,hr'⟩
def kD (P:Program) (w0:World) (T0:Bs) (b0:Nat) (c:Code) (s:S) (Q:Exit→S→Prop):Prop:=
 ∀ (H:List (AV × Value)) (a:Act) (w:World),Dy b0 H→Rep w0 T0 H s a w→c.wp P (fun e a' w'=>∃ s',Q e s'∧Rep w0 T0 H s' a' w') a w
theorem kD.of {c:Code} {s:S} {Q:Exit→S→Prop} (h:jP P w0 T0 b0 c Q s):kD P w0 T0 b0 c s Q:=sD c Q s h
theorem kD.seq {x y:Code} {s:S} {Q:Exit→S→Prop} (h:jP P w0 T0 b0 x (thenS (fun s'=>kD P w0 T0 b0 y s' Q) Q) s):kD P w0 T0 b0 (.seq x y) s Q:=by
 intro H a w hH hr
 refine wp_seq (wp_mono (sD x _ s h H a w hH hr) ?_)
 rintro e a' w' ⟨s',hq,hr'⟩
 cases e with
 | normal=>exact hq H a' w' hH hr'
 | _=>exact ⟨s',hq,hr'⟩
theorem kD.cut {x y:Code} {s:S} {Q:Exit→S→Prop} {α:Type} (shape:α→S) (I:α→Prop) (h:kD P w0 T0 b0 x s (thenS (fun s'=>∃ z,aK w0 T0 b0 s' (shape z)∧I z) Q)) (h2:∀ z,I z→kD P w0 T0 b0 y (shape z) Q):kD P w0 T0 b0 (.seq x y) s Q:=by
 intro H a w hH hr
 refine wp_seq (wp_mono (h H a w hH hr) ?_)
 rintro e a' w' ⟨s',hq,hr'⟩
 cases e with
 | normal=>obtain ⟨z,he,hz⟩:=hq;exact h2 z hz H a' w' hH (he H a' w' hH hr')
 | _=>exact ⟨s',hq,hr'⟩
theorem kD.block {x:Code} {id:Nat} {s:S} {Q:Exit→S→Prop} (h:kD P w0 T0 b0 x s (DV id Q)):kD P w0 T0 b0 (.block id x) s Q:=by
 intro H a w hH hr
 refine wp_block (wp_mono (h H a w hH hr) ?_)
 rintro e a' w' ⟨s',hq,hr'⟩
 cases e with
 | exit i=>
  simp only [DV] at hq
  simp only [Exit.inBlock]
  split at hq
  ·rename_i e;rw [if_pos e];exact ⟨s',hq,hr'⟩
  ·rename_i e;rw [if_neg e];exact ⟨s',hq,hr'⟩
 | _=>exact ⟨s',hq,hr'⟩
theorem kD.ent {x:Code} {s s':S} {Q:Exit→S→Prop} (he:aK w0 T0 b0 s s') (h:kD P w0 T0 b0 x s' Q):kD P w0 T0 b0 x s Q:=
 fun H a w hH hr=>h H a w hH (he H a w hH hr)
theorem aF.run {c:Code} {s:S} {Q:Exit→S→Prop} {α:Type} (shape:α→S) (I:α→Prop) (μ:α→Nat) (x0:α) (h0:aK w0 T0 b0 s (shape x0)) (hI:I x0)
  (body:∀ x,I x→kD P w0 T0 b0 c (shape x) (thenS (fun s'=>∃ x',aK w0 T0 b0 s' (shape x')∧I x'∧μ x'<μ x) Q)):@aF P w0 T0 b0 c s ⟨Q⟩:=by
 intro H a w hH hr
 refine wp_loop_ghost (fun n a w=>∃ x,μ x=n∧I x∧Rep w0 T0 H (shape x) a w) (μ x0) ⟨x0,rfl,hI,h0 H a w hH hr⟩ ?_
 rintro n a w ⟨x,rfl,hx,hr⟩
 refine wp_mono (body x hx H a w hH hr) ?_
 rintro e a' w' ⟨s',hq,hr'⟩
 cases e with
 | normal=>
  obtain ⟨x',he,hI',hlt⟩:=hq
  exact ⟨μ x',hlt,x',rfl,hI',he H a' w' hH hr'⟩
 | _=>exact ⟨s',hq,hr'⟩
end
end Go.Fv
/-
 Regions whose order is drawn: every order is walked, moves first.
-/
namespace Go.Fv
open Go.RowKit
section
variable {P:Program} {w0:World} {T0:Bs} {b0:Nat} {H:List (AV × Value)} [hG:uO P w0 T0]
theorem KO {ops:Array Oper} (hs:Region.noSelect ops=true) {Q:S→Prop}:∀ (t:AX) (n:Nat) (listed:Array Bool) (q:Option (List Nat)),iK ops t n listed q=true→∀ (s:S) (a:Act) (w:World),
  kX P w0 T0 ops t s Q→Rep w0 T0 H s a w →
  match q with
  | none=>wpAny P .any ops (fun e a' w'=>e=.normal∧∃ s',Q s'∧Rep w0 T0 H s' a' w') n listed a w
  | some l=>∃ n',n=n'+1∧∀ i,i∈l→wpOp P ops (fun e a' w'=>e=.normal∧∃ s',Q s'∧Rep w0 T0 H s' a' w') i (wpAny P .any ops (fun e a' w'=>e=.normal∧∃ s',Q s'∧Rep w0 T0 H s' a' w') n' (listed.setIfInBounds i true)) a w:=by
 intro t
 induction t with
 | done=>
  intro n listed q hok s a w h hr
  cases q with
  | none=>
   have hn:Region.ready .any ops listed=[]:=by
    cases n<;>simpa [iK,List.isEmpty_iff] using hok
   exact wpAny_done hn ⟨rfl,s,h,hr⟩ n
  | some l=>cases n<;>simp [iK] at hok
 | first i t ih=>
  intro n listed q hok s a w h hr
  cases n with
  | zero=>cases q<;>simp [iK] at hok
  | succ n=>
   cases q with
   | some l=>simp [iK] at hok
   | none=>
    simp only [iK,Bool.and_eq_true] at hok
    obtain ⟨⟨⟨hm,hf⟩,hrd⟩,ht⟩:=hok
    unfold kX at h
    cases ho:ops[i]? with
    | none=>rw [ho] at h;exact h.elim
    | some o=>
     rw [ho] at h hm
     have hm':PK o=true:=by simpa using hm
     have hg:o.guard=none:=by
      unfold PK at hm';split at hm'<;>first|assumption|cases hm'
     have go:∀ x,(o.op=.move x∨o.op=.assign x)→bJ (aC x) (jk o.dst (s.ev x) s (fun s'=>kX P w0 T0 ops t s' Q)) →
       wpAny P .any ops (fun e a' w'=>e=.normal∧∃ s',Q s'∧Rep w0 T0 H s' a' w') (n+1) listed a w:=by
      rintro x hx ⟨hxo,hk⟩
      have hrun:∀ w,(execOp a.eval o).run P w=.ok (.value (a.eval x)) w:=by
       intro w;unfold execOp;rcases hx with hx|hx<;>rw [hx]<;>rfl
      have hy:Yields P ops o (a.eval x) a:=.inl ⟨by simp [Region.wanted,hg],hrun⟩
      refine wpAny_take ho hs hf hrd (by rintro c a w ⟨h,_⟩;cases h) hy ?_
      obtain ⟨m,hm⟩:=hr
      obtain ⟨s',h2,hr2⟩:=Rep.put (⟨m,hm.hold (hm.ev x hxo)⟩:Rep w0 T0 ((s.ev x,a.eval x)::H) s a w) hk
      exact ih n _ none ht s' _ w h2 hr2
     dsimp only at h
     cases hop:o.op<;>rw [hop] at h<;>first|exact h.elim|skip
     ·exact go _ (.inl hop) h
     ·exact go _ (.inr hop) h
     ·obtain ⟨hxo,hk⟩:=h
      obtain ⟨m,hm⟩:=hr
      obtain ⟨r,v,hk',hrun,hv⟩:=sO hop hxo hk hm
      have hy:Yields P ops o v a:=.inl ⟨by simp [Region.wanted,hg],hrun⟩
      refine wpAny_take ho hs hf hrd (by rintro c a w ⟨h,_⟩;cases h) hy ?_
      obtain ⟨s',h2,hr2⟩:=Rep.put (⟨m,hm.hold hv⟩:Rep w0 T0 ((r,v)::H) s a w) hk'
      exact ih n _ none ht s' _ w h2 hr2
 | cons i t r iht ihr=>
  intro n listed q hok s a w h hr
  unfold kX at h
  cases ho:ops[i]? with
  | none=>rw [ho] at h;exact h.elim
  | some o=>
   rw [ho] at h
   obtain ⟨h1,h2⟩:=h
   have one:∀ n',iK ops t n' (listed.setIfInBounds i true) none=true→wpOp P ops (fun e a' w'=>e=.normal∧∃ s',Q s'∧Rep w0 T0 H s' a' w') i (wpAny P .any ops (fun e a' w'=>e=.normal∧∃ s',Q s'∧Rep w0 T0 H s' a' w') n' (listed.setIfInBounds i true)) a w:=by
    intro n' ht
    unfold wpOp
    rw [ho]
    have:=FZ (Qc:=fun e a' w'=>e=.normal∧∃ s',Q s'∧Rep w0 T0 H s' a' w') h1 hr fun s' a' w' hk hr'=>iht n' _ none ht s' a' w' hk hr'
    dsimp only at this ⊢
    split
    ·rename_i hw;rw [if_pos hw] at this;exact .inl this
    ·rename_i hw;rw [if_neg hw] at this;exact this
   cases n with
   | zero=>cases q<;>simp [iK] at hok
   | succ n=>
    cases q with
    | none=>
     cases hrd:Region.ready .any ops listed with
     | nil=>simp [iK,hrd] at hok
     | cons j l=>
      simp only [iK,hrd,Bool.and_eq_true,beq_iff_eq] at hok
      obtain ⟨⟨rfl,ht⟩,hrest⟩:=hok
      have:=ihr (n+1) listed (some l) hrest s a w h2 hr
      obtain ⟨n',hn,hall⟩:=this
      cases hn
      refine wpAny_all hrd (by simp) fun k hk=>?_
      cases List.mem_cons.1 hk with
      | inl e=>subst e;exact one n ht
      | inr e=>exact hall k e
    | some l=>
     cases l with
     | nil=>simp [iK] at hok
     | cons j l=>
      simp only [iK,Bool.and_eq_true,beq_iff_eq] at hok
      obtain ⟨⟨rfl,ht⟩,hrest⟩:=hok
      have:=ihr (n+1) listed (some l) hrest s a w h2 hr
      obtain ⟨n',hn,hall⟩:=this
      cases hn
      refine ⟨n,rfl,fun k hk=>?_⟩
      cases List.mem_cons.1 hk with
      | inl e=>subst e;exact one n ht
      | inr e=>exact hall k e
 | stop=>
  intro n listed q hok s a w h hr
  cases n<;>cases q<;>simp [iK] at hok
  subst hok
  exact ⟨_,rfl,fun i hi=>by cases hi⟩
theorem bG.drawn {s:S} {a:Act} {w:World} {m:Nat→Value} (h:bG w0 T0 H s a w m):bG w0 T0 H s a w.drew m:=by
 have hle:eP (aB T0 w0.heap.size m s w) (aB T0 w0.heap.size m s w.drew):=
  kJ (Nat.le_refl _) (fun _ _=>rfl) (fun _ _ _=>rfl) fun i it b hi hb _=>⟨i,it,hi,hb⟩
 exact h.zU rfl rfl hle h.below.drew (fun i it hi=>⟨(h.rows i it hi).1,(h.rows i it hi).2.mono hle fun _ _=>rfl⟩) h.sep
theorem aN.intro {id:Nat} {ops:Array Oper} {s:S} {Q:S→Prop} (t:AX) (hm:P.follows .mixedOrders=true) (hs:Region.noSelect ops=true) (ht:iK ops t ops.size (Array.replicate ops.size false) none=true)
  (h:kX P w0 T0 ops t s Q):@aN P w0 T0 b0 id ops s ⟨Q⟩:=by
 intro H a w _ hr
 refine wp_region_any hm ?_
 have hr':Rep w0 T0 H s a { w with drawn:=w.drawn+1 }:=by
  obtain ⟨m,hm⟩:=hr
  exact ⟨m,hm.drawn⟩
 exact KO hs t _ _ none ht s a _ h hr'
theorem aN.cut {id:Nat} {ops:Array Oper} {s:S} {Q:S→Prop} (t:AX) (hm:P.follows .mixedOrders=true) (hs:Region.noSelect ops=true) (ht:iK ops t ops.size (Array.replicate ops.size false) none=true) (shape:S)
  (h:kX P w0 T0 ops t s (fun s'=>aK w0 T0 b0 s' shape)) (hk:Q shape):@aN P w0 T0 b0 id ops s ⟨Q⟩:=by
 intro H a w hH hr
 refine wp_mono (aN.intro (b0:=b0) (id:=id) t hm hs ht h H a w hH hr) ?_
 rintro e a' w' ⟨he,s',hq,hr'⟩
 exact ⟨he,shape,hk,hq H a' w' hH hr'⟩
end
end Go.Fv
/-
 States that say less; contracts of functions; calls.
-/
namespace Go.Fv
open Go.RowKit
mutual
theorem yS (p:Nat→Nat):∀ x:AV,dZ x=true→ren p x=x
 | .own i,h=>by simp [dZ] at h
 | .ptr i o,h=>by simp [dZ] at h
 | .elt i a b c,h=>by simp [dZ] at h
 | .pre i k,h=>by simp [dZ] at h
 | .agg cs,h=>by simp only [ren];rw [lF p cs (by simpa [dZ] using h)]
 | .tup cs,h=>by simp only [ren];rw [lF p cs (by simpa [dZ] using h)]
 | .fn f cs,h=>by simp only [ren];rw [lF p cs (by simpa [dZ] using h)]
 | .cell cs,_=>rfl
 | .dead,_=>rfl
 | .nilS,_=>rfl
 | .bool _,_=>rfl
 | .int _ _,_=>rfl
 | .str _,_=>rfl
 | .ro _,_=>rfl
 | .raw _,_=>rfl
 | .mp _ _,_=>rfl
 | .opt b v,h=>by simp only [ren];rw [yS p v (by simpa [dZ] using h)]
theorem lF (p:Nat→Nat):∀ x:List AV,dh x=true→iW p x=x
 | [],_=>rfl
 | x::l,h=>by
  simp only [dh,Bool.and_eq_true] at h
  simp only [iW];rw [yS p x h.1,lF p l h.2]
end
def Item.ren (p:Nat→Nat):Item→Item
 | .row e r=>.row e (y8 p r)
 | .box e cs=>.box e (iW p cs)
 | .map ks vs=>.map (iW p ks) (iW p vs)
 | .iter mp since seen=>.iter (p mp) since seen
 | .siter t pos=>.siter t pos
def Item.below (n:Nat):Item→Bool
 | .row _ r=>rD n r
 | .box _ cs=>aX n cs
 | .map ks vs=>aX n ks && aX n vs
 | .iter mp _ _=>decide (mp<n)
 | .siter _ _=>true
class pJ (r:aP):Prop where
 ok:iP r=true
instance {l:List Bool}:pJ (.bools l):=⟨rfl⟩
instance {k:IntKind} {l:List Int}:pJ (.ints k l):=⟨rfl⟩
instance {l:List (List UInt8)}:pJ (.strs l):=⟨rfl⟩
class oD (l:List (List AV)):Prop where
 ok:l.all dh=true
class G9 {α:Type} (f:α→List AV):Prop where
 ok:∀ x,dh (f x)=true
class Dx (l:List AV):Prop where
 ok:dh l=true
instance {sz:Nat} {l:List (List AV)} [h:oD l]:pJ (.objs sz l):=⟨h.ok⟩
instance:oD []:=⟨rfl⟩
instance {x:List AV} {l:List (List AV)} [h:Dx x] [h2:oD l]:oD (x::l):=⟨by simp [List.all_cons,h.ok,h2.ok]⟩
instance {l l':List (List AV)} [h:oD l] [h2:oD l']:oD (l++l'):=⟨by simp [List.all_append,h.ok,h2.ok]⟩
instance {α:Type} {f:α→List AV} {l:List α} [h:G9 f]:oD (l.map f):=⟨by simp [List.all_map,List.all_eq_true,h.ok]⟩
instance {x:List AV} {n:Nat} [h:Dx x]:oD (List.replicate n x):=⟨by simp [List.all_eq_true,List.mem_replicate,h.ok]⟩
instance {α:Type} {f:α→List AV} {x:α} [h:G9 f]:Dx (f x):=⟨h.ok x⟩
instance {l:List (List AV)} {n:Nat} [h:oD l]:oD (l.take n):=⟨by have:=h.ok;simp only [List.all_eq_true] at *;exact fun x hx=>this x (List.mem_of_mem_take hx)⟩
instance {l:List (List AV)} {n:Nat} [h:oD l]:oD (l.drop n):=⟨by have:=h.ok;simp only [List.all_eq_true] at *;exact fun x hx=>this x (List.mem_of_mem_drop hx)⟩
theorem MF:∀ (l:List (List AV)) (n:Nat) (x:List AV),l.all dh=true→dh x=true→(l.set n x).all dh=true
 | [],_,_,_,_=>rfl
 | y::l,0,x,h,hx=>by simp only [List.all_cons,Bool.and_eq_true,List.set_cons_zero] at *;exact ⟨hx,h.2⟩
 | y::l,n+1,x,h,hx=>by simp only [List.all_cons,Bool.and_eq_true,List.set_cons_succ] at *;exact ⟨h.1,MF l n x h.2 hx⟩
instance {l:List (List AV)} {n:Nat} {x:List AV} [h:oD l] [h2:Dx x]:oD (l.set n x):=⟨MF _ _ _ h.ok h2.ok⟩
class wz (x:AV):Prop where
 ok:dZ x=true
instance:Dx []:=⟨rfl⟩
instance {x:AV} {l:List AV} [h:wz x] [h2:Dx l]:Dx (x::l):=⟨by simp [dh,h.ok,h2.ok]⟩
instance {k:IntKind} {n:Int}:wz (.int k n):=⟨rfl⟩
instance {b:Bool}:wz (.bool b):=⟨rfl⟩
instance {s:List UInt8}:wz (.str s):=⟨rfl⟩
instance {r:aP}:wz (.ro r):=⟨rfl⟩
instance {r:List AV}:wz (.cell r):=⟨rfl⟩
instance:wz .nilS:=⟨rfl⟩
instance:wz .dead:=⟨rfl⟩
instance {v:Value}:wz (.raw v):=⟨rfl⟩
instance {ks vs:List AV}:wz (.mp ks vs):=⟨rfl⟩
theorem aI (r:aP) [h:pJ r]:iP r=true:=h.ok
theorem VR (p:Nat→Nat):∀ (l:List (List AV)),l.all dh=true→l.map (iW p)=l:=fun l h=>by
 simp only [List.all_eq_true] at h
 conv=>rhs;rw [←List.map_id l]
 exact List.map_congr_left fun x hx=>lF p x (h x hx)
theorem UA (p:Nat→Nat) {r:aP} (h:iP r=true):y8 p r=r:=by
 cases r with
 | objs sz l=>simp only [y8];rw [VR p l h]
 | _=>rfl
theorem Dk (p:Nat→Nat) (r:aP) [h:pJ r]:y8 p r=r:=UA p h.ok
theorem jS (n:Nat) (r:aP) [h:pJ r]:rD n r=true:=Na n r h.ok
def pm (l:List (Nat × Nat)) (i:Nat):Nat:=match lk l i with|some j=>j|none=>i
def Bf (p:Nat→Nat) (s:S) (N:Nat):List (Nat × AV)→Prop
 | []=>True
 |(r,v)::l=>(s.get r=ren p v∧Fv.below N v=true)∧Bf p s N l
def lg (p:Nat→Nat) (rows:List (Nat × Item)) (N:Nat):List (Nat × Item)→Prop
 | []=>True
 |(i,it)::l=>(i<N∧lk rows (p i)=some (it.ren p)∧it.below N=true∧∀ x,x∈l→x.1=i∨p x.1≠p i)∧lg p rows N l
theorem fG {α:Type}:∀ {l:List (Nat × α)} {i:Nat} {v:α},lk l i=some v→(i,v)∈l
 |(j,x)::l,i,v,h=>by
  simp only [lk] at h
  split at h
  ·rename_i e;subst e;cases h;exact .head _
  ·exact .tail _ (fG h)
theorem zS {p:Nat→Nat} {s:S} {N:Nat}:∀ {l:List (Nat × AV)},Bf p s N l→∀ r v,(r,v)∈l→s.get r=ren p v∧Fv.below N v=true
 |(q,y)::l,h,r,v,hm=>by
  cases List.mem_cons.1 hm with
  | inl e=>cases e;exact h.1
  | inr e=>exact zS h.2 r v e
theorem fM {p:Nat→Nat} {rows:List (Nat × Item)} {N:Nat}:∀ {l:List (Nat × Item)},lg p rows N l→∀ i it,(i,it)∈l→i<N∧lk rows (p i)=some (it.ren p)∧it.below N=true
 |(q,y)::l,h,i,it,hm=>by
  cases List.mem_cons.1 hm with
  | inl e=>cases e;exact ⟨h.1.1,h.1.2.1,h.1.2.2.1⟩
  | inr e=>exact fM h.2 i it e
theorem vT {p:Nat→Nat} {rows:List (Nat × Item)} {N:Nat}:∀ {l:List (Nat × Item)},lg p rows N l→∀ i j it jt,(i,it)∈l→(j,jt)∈l→p i=p j→i=j
 |(q,y)::l,h,i,j,it,jt,hi,hj,e=>by
  cases List.mem_cons.1 hi with
  | inl e1=>
   cases e1
   cases List.mem_cons.1 hj with
   | inl e2=>cases e2;rfl
   | inr e2=>cases h.1.2.2.2 _ e2 with
    | inl e3=>exact e3.symm
    | inr e3=>exact absurd e.symm e3
  | inr e1=>
   cases List.mem_cons.1 hj with
   | inl e2=>
    cases e2
    cases h.1.2.2.2 _ e1 with
    | inl e3=>exact e3
    | inr e3=>exact absurd e e3
   | inr e2=>exact vT h.2 i j it jt e1 e2 e
theorem bg.ren {p:Nat→Nat} {c c':Ctx} (h:mV p c c') (hw:c'.w.heap=c.w.heap) {O:Nat→Prop} {v:Value} {it:Item} (hb:it.below c'.N=true) (hi:bg c O v (it.ren p)):bg c' O v it:=by
 have hh:∀ b:Nat,c'.w.heap[b]?=c.w.heap[b]?:=fun b=>by rw [hw]
 cases it with
 | row e r=>
  obtain ⟨n,cells,hr,hn,ho,hO⟩:=hi
  have h1:(y8 p r).len=r.len:=by cases r<;>simp [y8,aP.len]
  have h2:(y8 p r).sz=r.sz:=by cases r<;>rfl
  rw [h1] at hn;rw [h2] at ho
  exact ⟨n,cells,bT.ren h r hb hr,hn,sK ho fun g _=>hh g,hO⟩
 | box e cs=>
  obtain ⟨g,vs,rfl,hg,hl,he⟩:=hi
  exact ⟨g,vs,rfl,hg,bW.ren h cs hb hl,by rw [hh g];exact he⟩
 | map ks vs=>
  simp only [Item.below,Bool.and_eq_true] at hb
  obtain ⟨g,es,clock,rfl,hg,h1,h2,h3,h4,he⟩:=hi
  exact ⟨g,es,clock,rfl,hg,eG.ren h ks hb.1 h1,eG.ren h vs hb.2 h2,h3,h4,by rw [hh g];exact he⟩
 | iter mp since seen=>
  obtain ⟨g,q,sn,last,rfl,hg,h1,h2,h3,h4,he⟩:=hi
  have hlt:mp<c'.N:=by simpa [Item.below] using hb
  exact ⟨g,q,sn,last,rfl,hg,hlt,by rw [h.m mp hlt];exact h2,h3,h4,by rw [hh g];exact he⟩
 | siter t pos=>
  obtain ⟨g,rfl,hg,he⟩:=hi
  exact ⟨g,rfl,hg,by rw [hh g];exact he⟩
mutual
theorem lU {p:Nat→Nat} {b0:Nat} (hp:∀ i,i<b0→p i=i):∀ x:AV,Fv.below b0 x=true→ren p x=x
 | .own i,h=>by simp only [ren];rw [hp i (by simpa [Fv.below] using h)]
 | .ptr i o,h=>by simp only [ren];rw [hp i (by simpa [Fv.below] using h)]
 | .elt i a b c,h=>by simp only [ren];rw [hp i (by simpa [Fv.below] using h)]
 | .pre i k,h=>by simp only [ren];rw [hp i (by simpa [Fv.below] using h)]
 | .agg cs,h=>by simp only [ren];rw [mF hp cs (by simpa [Fv.below] using h)]
 | .tup cs,h=>by simp only [ren];rw [mF hp cs (by simpa [Fv.below] using h)]
 | .fn f cs,h=>by simp only [ren];rw [mF hp cs (by simpa [Fv.below] using h)]
 | .cell cs,_=>rfl
 | .dead,_=>rfl
 | .nilS,_=>rfl
 | .bool _,_=>rfl
 | .int _ _,_=>rfl
 | .str _,_=>rfl
 | .ro _,_=>rfl
 | .raw _,_=>rfl
 | .opt b v,h=>by simp only [ren];rw [lU hp v (by simpa [Fv.below] using h)]
 | .mp _ _,_=>rfl
theorem mF {p:Nat→Nat} {b0:Nat} (hp:∀ i,i<b0→p i=i):∀ x:List AV,aX b0 x=true→iW p x=x
 | [],_=>rfl
 | x::l,h=>by
  simp only [aX,Bool.and_eq_true] at h
  simp only [iW];rw [lU hp x h.1,mF hp l h.2]
end
theorem Xi {p:Nat→Nat} {b0:Nat} (hp:∀ i,i<b0→p i=i) (r:aP) (h:rD b0 r=true):y8 p r=r:=by
 cases r with
 | objs sz l=>
  simp only [rD,List.all_eq_true] at h
  simp only [y8]
  congr 1
  conv=>rhs;rw [←List.map_id l]
  exact List.map_congr_left fun x hx=>mF hp x (h x hx)
 | _=>rfl
theorem Item.lU {p:Nat→Nat} {b0:Nat} (hp:∀ i,i<b0→p i=i) (it:Item) (h:it.below b0=true):it.ren p=it:=by
 cases it with
 | row e r=>simp only [Item.ren];rw [Xi hp r h]
 | box e cs=>simp only [Item.ren];rw [mF hp cs h]
 | map ks vs=>
  simp only [Item.below,Bool.and_eq_true] at h
  simp only [Item.ren];rw [mF hp ks h.1,mF hp vs h.2]
 | iter mp since seen=>simp only [Item.ren];rw [hp mp (by simpa [Item.below] using h)]
 | siter t pos=>rfl
theorem bg.ids {c:Ctx} {O:Nat→Prop} {v:Value} {it:Item} (h:bg c O v it):it.below c.N=true:=by
 cases it with
 | row e r=>obtain ⟨n,cells,hr,_⟩:=h;exact hr.ids
 | box e cs=>obtain ⟨g,vs,_,_,hl,_⟩:=h;exact hl.ids
 | map ks vs=>obtain ⟨g,es,clock,_,_,h1,h2,_⟩:=h;simp [Item.below,h1.ids,h2.ids]
 | iter mp since seen=>obtain ⟨g,q,sn,last,_,_,h1,_⟩:=h;simpa [Item.below] using h1
 | siter t pos=>rfl
theorem Rv.cut {w:World} {A:Nat→Prop} {m:Nat→Value} {No N:Nat} {x:AV} {u:Value} (hx:Rv ⟨w,A,m,No⟩ x u) (hb:Fv.below N x=true):Rv ⟨w,A,m,N⟩ x u:=by
 refine Rv.ren (p:=id) (c:=⟨w,A,m,No⟩) (c':=⟨w,A,m,N⟩) ⟨fun _ _=>rfl,fun b hb _=>⟨hb,rfl⟩⟩ x hb ?_
 rw [lU (p:=id) (fun _ _=>rfl) x hx.ids];exact hx
theorem bg.cut {w:World} {A:Nat→Prop} {m:Nat→Value} {No N:Nat} {O:Nat→Prop} {v:Value} {it:Item} (hx:bg ⟨w,A,m,No⟩ O v it) (hb:it.below N=true):bg ⟨w,A,m,N⟩ O v it:=by
 refine bg.ren (p:=id) (c:=⟨w,A,m,No⟩) (c':=⟨w,A,m,N⟩) ⟨fun _ _=>rfl,fun b hb _=>⟨hb,rfl⟩⟩ rfl hb ?_
 rw [Item.lU (p:=id) (fun _ _=>rfl) it hx.ids];exact hx
section
variable {P:Program} {w0:World} {T0:Bs} {b0:Nat}
theorem aK.of (l:List (Nat × Nat)) {s s':S} (hn:s'.n=s.n) (hb:b0≤s'.next) (hl:∀ x,x∈l→b0≤x.1) (he:Bf (pm l) s s'.next s'.env) (hr:lg (pm l) s.rows s'.next s'.rows):aK w0 T0 b0 s s':=by
 rintro H a w hH ⟨m,hm⟩
 have hlow:∀ i,i<b0→pm l i=i:=by
  intro i hi
  unfold pm
  cases h:lk l i with
  | none=>rfl
  | some j=>have:=hl _ (fG h);simp at this;omega
 have hren:mV (pm l) (aB T0 w0.heap.size m s w) (aB T0 w0.heap.size (fun i=>m (pm l i)) s' w):=
  {m:=fun _ _=>rfl,
   t:=by
    intro b ⟨h1,h2⟩ _
    refine ⟨⟨h1,fun i it hi e=>?_⟩,rfl⟩
    obtain ⟨_,h3,_⟩:=fM hr i it (fG hi)
    exact h2 _ _ h3 e }
 refine ⟨fun i=>m (pm l i),{ size:=by rw [hn];exact hm.size,nodef:=hm.nodef,below:=hm.below,env:=?_,held:=?_,rows:=?_,sep:=?_ }⟩
 ·intro r v hv
  obtain ⟨h1,h2⟩:=zS he r v (fG hv)
  refine Rv.ren hren v h2 ?_
  have:Rv (aB T0 w0.heap.size m s w) (s.get r) (a.tmps.getD r undef):=by
   simp only [S.get]
   cases hq:lk s.env r with
   | none=>exact .dead _
   | some y=>exact hm.env r y hq
  rw [←h1];exact this
 ·intro q hq
  have h1:=hH q hq
  refine Rv.ren hren q.1 (below_le hb _ h1) ?_
  rw [lU hlow _ h1];exact hm.held q hq
 ·intro i it hi
  obtain ⟨h1,h2,h3⟩:=fM hr i it (fG hi)
  exact ⟨h1,bg.ren hren rfl h3 (hm.rows _ _ h2).2⟩
 ·intro i j it jt b hi hj hbi hbj
  obtain ⟨_,h2,_⟩:=fM hr i it (fG hi)
  obtain ⟨_,h2',_⟩:=fM hr j jt (fG hj)
  exact vT hr i j it jt (fG hi) (fG hj) (hm.sep _ _ _ _ b h2 h2' hbi hbj)
theorem aK.refl (s:S):aK w0 T0 b0 s s:=fun _ _ _ _ h=>h
theorem aK.trans {s s' s'':S} (h:aK w0 T0 b0 s s') (h':aK w0 T0 b0 s' s''):aK w0 T0 b0 s s'':=fun H a w hH hr=>h' H a w hH (h H a w hH hr)
/-! ### What a function hands back -/
def sZ (T:Nat→Prop) (B:Nat) (w:World) (out:AV) (rows:List (Nat × Item)) (v:Value):Prop:=
 ∃ (m:Nat→Value) (N:Nat),Rv ⟨w,allow (bs T) B m rows,m,N⟩ out v ∧
  (∀ i it,lk rows i=some it→i<N∧bg ⟨w,allow (bs T) B m rows,m,N⟩ (B≤·) (m i) it) ∧
  (∀ i j it jt b,lk rows i=some it→lk rows j=some jt→blk (m i)=some b→blk (m j)=some b→i=j)
def Zm (T0:Bs) (B:Nat) (w:World) (out:AV) (rows:List (Nat × Item)) (v:Value):Prop:=
 ∃ (m:Nat→Value) (N:Nat),Rv ⟨w,allow T0 B m rows,m,N⟩ out v ∧
  (∀ i it,lk rows i=some it→i<N∧bg ⟨w,allow T0 B m rows,m,N⟩ (ownB T0 B) (m i) it) ∧
  (∀ i j it jt b,lk rows i=some it→lk rows j=some jt→blk (m i)=some b→blk (m j)=some b→i=j)
theorem bg.own {c:Ctx} {O O':Nat→Prop} (h:∀ b,O b→O' b) {v:Value} {it:Item} (hi:bg c O v it):bg c O' v it:=by
 cases it with
 | row e r=>obtain ⟨n,cells,hr,hn,ho,hO⟩:=hi;exact ⟨n,cells,hr,hn,ho,fun b hb=>h b (hO b hb)⟩
 | box e cs=>obtain ⟨g,vs,rfl,hg,hl,he⟩:=hi;exact ⟨g,vs,rfl,h g hg,hl,he⟩
 | map ks vs=>obtain ⟨g,es,clock,rfl,hg,r⟩:=hi;exact ⟨g,es,clock,rfl,h g hg,r⟩
 | iter mp since seen=>obtain ⟨g,q,sn,last,rfl,hg,r⟩:=hi;exact ⟨g,q,sn,last,rfl,h g hg,r⟩
 | siter t pos=>obtain ⟨g,rfl,hg,r⟩:=hi;exact ⟨g,rfl,h g hg,r⟩
theorem bg.Zu {c:Ctx} {O O':Nat→Prop} {v:Value} {it:Item} (hi:bg c O v it) (h:∀ b,Fv.blk v=some b→O' b):bg c O' v it:=by
 cases it with
 | row e r=>obtain ⟨n,cells,hr,hn,ho,hO⟩:=hi;exact ⟨n,cells,hr,hn,ho,h⟩
 | box e cs=>obtain ⟨g,vs,rfl,hg,hl,he⟩:=hi;exact ⟨g,vs,rfl,h g rfl,hl,he⟩
 | map ks vs=>obtain ⟨g,es,clock,rfl,hg,r⟩:=hi;exact ⟨g,es,clock,rfl,h g rfl,r⟩
 | iter mp since seen=>obtain ⟨g,q,sn,last,rfl,hg,r⟩:=hi;exact ⟨g,q,sn,last,rfl,h g rfl,r⟩
 | siter t pos=>obtain ⟨g,rfl,hg,r⟩:=hi;exact ⟨g,rfl,h g rfl,r⟩
theorem RZ {α:Type}:∀ {l:List (Nat × α)} {q:Nat × α},q∈l→∃ v,lk l q.1=some v
 |(j,x)::l,q,h=>by
  by_cases e:j=q.1
  ·exact ⟨x,by simp [lk,e]⟩
  ·cases List.mem_cons.1 h with
   | inl h=>subst h;exact absurd rfl e
   | inr h=>obtain ⟨v,hv⟩:=RZ h;exact ⟨v,by simp [lk,e,hv]⟩
theorem Zm.out {T:Nat→Prop} {B:Nat} {w:World} {out:AV} {rows:List (Nat × Item)} {v:Value} (h:Zm (bs T) B w out rows v):sZ T B w out rows v:=by
 obtain ⟨m,N,h1,h2,h3⟩:=h
 exact ⟨m,N,h1,fun i it hi=>⟨(h2 i it hi).1,((h2 i it hi).2).own fun b hb=>hb.resolve_right fun x=>x.1⟩,h3⟩
def aA (P:Program) (f:Nat) (args:List AV) (out:AV) (rows:List (Nat × Item)):Prop:=
 Enter P f∧∀ (w:World) (T:Nat→Prop) (vals:List Value),wu P w→eG ⟨w,T,fun _=>undef,0⟩ args vals →
  Calls P f vals.toArray w fun e w'=>∃ v,e=.returned v∧mQ w.heap.size w w'∧sZ T w.heap.size w' out rows v
def au:Nat→List AV→List (Nat × AV)
 | _,[]=>[]
 | k,x::l=>(k,x)::au (k+1) l
def Xj (P:Program) (s:S) (K:AV→Prop):ResultVar→Prop
 | .tmp t=>K (s.ev (.tmp t))
 | .cell t ty=>match s.get t with
  | .ptr i off=>match lk s.rows i with
   | some (.box _ cs)=>jg P ty (cs.drop off) K
   | _=>False
  | _=>False
def Ap (P:Program) (s:S):List ResultVar→(List AV→Prop)→Prop
 | [],K=>K []
 | x::l,K=>Xj P s (fun v=>Ap P s l (fun vs=>K (v::vs))) x
def nG:List AV→AV
 | [x]=>x
 | l=>.tup l
def aU (P:Program) (w0:World) (T0:Bs) (res:List ResultVar) (out:AV) (rows:List (Nat × Item)) (s:S):Prop:=
 ∀ (a:Act) (w:World),Rep w0 T0 [] s a w→∃ v,(∀ (fn:Func),fn.results=res.toArray→(results fn a.tmps).run P w=.ok v w)∧Zm T0 w0.heap.size w out rows v
def Post (P:Program) (w0:World) (T0:Bs) (res:List ResultVar) (out:AV) (rows:List (Nat × Item)):Exit→S→Prop
 | .normal,s=>aU P w0 T0 res out rows s
 | .ret,s=>aU P w0 T0 res out rows s
 | _,_=>False
@[congr] theorem aat {P:Program} {res:List ResultVar} {out:AV} {rows:List (Nat × Item)} {s s':S} (h:s=s'):aU P w0 T0 res out rows s=aU P w0 T0 res out rows s':=by rw [h]
def UC (tmps:Array Value):ResultVar→Sem Value
 | .tmp t=>pure (tmps.getD t undef)
 | .cell a t=>do loadVar t (←asAddr (tmps.getD a undef))
theorem uH {P:Program} {H:List (AV × Value)} {s:S} {a:Act} {w:World} {m:Nat→Value} (hm:bG w0 T0 H s a w m):∀ {res:List ResultVar} {K:List AV→Prop},Ap P s res K →
  ∃ l vs,K l∧(res.mapM (UC a.tmps)).run P w=.ok vs w∧eG (aB T0 w0.heap.size m s w) l vs
 | [],K,h=>⟨[],[],h,rfl,.nil⟩
 | x::res,K,h=>by
  have key:∃ v u,Ap P s res (fun vs=>K (v::vs))∧(UC a.tmps x).run P w=.ok u w∧Rv (aB T0 w0.heap.size m s w) v u:=by
   unfold Ap at h
   cases x with
   | tmp t=>exact ⟨_,_,h,rfl,hm.ev (.tmp t) trivial⟩
   | cell t ty=>
    simp only [Xj] at h
    split at h
    ·rename_i i off hg
     have hl:lk s.env t=some (.ptr i off):=by
      simp only [S.get] at hg
      cases hl:lk s.env t with
      | none=>rw [hl] at hg;cases hg
      | some y=>rw [hl] at hg;exact congrArg some hg
     have hp:=hm.env t _ hl
     split at h
     ·rename_i e cs hi
      generalize hvt:a.tmps.getD t undef=vt at hp
      cases hp with
      | ptr _ _ g _ hg=>
       obtain ⟨g',vs,hv,_,hl,hh⟩:=(hm.rows i _ hi).2
       have hmi:blk (m i)=some g:=hg
       rw [hv] at hmi;cases hmi
       obtain ⟨r,v,hk,hr,hrv⟩:=qw (c:=aB T0 w0.heap.size m s w) (a:=⟨g',off,none⟩) h (hl.drop off) fun j u hu=>by
        rw [Addr.add_lit]
        rw [List.getElem?_drop] at hu
        have:=cell_of_row w g' (off+j) vs.toArray e (0,0) hh
        show w.cell? _=_
        rw [this];simpa using hu
       refine ⟨r,v,hk,?_,hrv⟩
       have hr':(loadVar ty ⟨g',off,none⟩).run P w=.ok v w:=hr
       simp [UC,hvt,asAddr,hr']
     ·exact h.elim
    ·exact h.elim
  obtain ⟨v,u,hk,hr,hv⟩:=key
  obtain ⟨l,vs,hk',hr',hvs⟩:=uH hm hk
  refine ⟨v::l,u::vs,hk',?_,.cons _ _ _ _ hv hvs⟩
  rw [List.mapM_cons]
  simp [Sem.run_bind,hr,hr',Result.andThen]
def QG:List Value→Value
 | [v]=>v
 | l=>.tuple l.toArray
theorem Qr (fn:Func) (tmps:Array Value):results fn tmps=(fn.results.mapM (UC tmps) >>= fun vs=>pure (if h:vs.size=1 then vs[0] else .tuple vs)):=by
 unfold results
 congr 1
theorem nT {P:Program} {fn:Func} {res:List ResultVar} (h:fn.results=res.toArray) (tmps:Array Value) {w:World} {vs:List Value} (hr:(res.mapM (UC tmps)).run P w=.ok vs w) :
  (results fn tmps).run P w=.ok (QG vs) w:=by
 rw [Qr,h]
 have e2:=List.mapM_toArray (f:=UC tmps) (l:=res)
 rw [e2]
 simp only [Sem.run_bind,Sem.run_map,hr,Result.andThen]
 match vs with
 | []=>rfl
 | [v]=>rfl
 | v::v'::l=>simp [QG]
theorem aU.of {P:Program} (l:List (Nat × Nat)) (N:Nat) {res:List ResultVar} {out:AV} {rows:List (Nat × Item)} {s:S} (h:Ap P s res (fun vs=>nG vs=ren (pm l) out)) (hb:Fv.below N out=true) (hr:lg (pm l) s.rows N rows):aU P w0 T0 res out rows s:=by
 rintro a w ⟨m,hm⟩
 obtain ⟨vs,us,he,hrun,hvs⟩:=uH hm h
 have hrv:Rv (aB T0 w0.heap.size m s w) (nG vs) (QG us):=by
  cases hvs with
  | nil=>exact .tup _ _ .nil
  | cons x v l us hx ht=>
   cases ht with
   | nil=>exact hx
   | cons x' v' l' us' hx' ht'=>exact .tup _ _ (.cons _ _ _ _ hx (.cons _ _ _ _ hx' ht'))
 have hren:mV (pm l) (aB T0 w0.heap.size m s w) ⟨w,allow T0 w0.heap.size (fun i=>m (pm l i)) rows,fun i=>m (pm l i),N⟩:=
  {m:=fun _ _=>rfl,
   t:=by
    intro b ⟨h1,h2⟩ _
    refine ⟨⟨h1,fun i it hi e=>?_⟩,rfl⟩
    obtain ⟨_,h3,_⟩:=fM hr i it (fG hi)
    exact h2 _ _ h3 e }
 refine ⟨_,fun fn hf=>nT hf a.tmps hrun,fun i=>m (pm l i),N,Rv.ren hren out hb (by rw [←he];exact hrv),fun i it hi=>?_,fun i j it jt b hi hj hbi hbj=>?_⟩
 ·obtain ⟨h1,h2,h3⟩:=fM hr i it (fG hi)
  exact ⟨h1,bg.ren hren rfl h3 (hm.rows _ _ h2).2⟩
 ·obtain ⟨_,h2,_⟩:=fM hr i it (fG hi)
  obtain ⟨_,h2',_⟩:=fM hr j jt (fG hj)
  exact vT hr i j it jt (fG hi) (fG hj) (hm.sep _ _ _ _ b h2 h2' hbi hbj)
theorem uS {c:Ctx}:∀ {args:List AV} {vals:List Value} (k:Nat) (pre:List Value),pre.length=k→eG c args vals→∀ r v,lk (au k args) r=some v→∃ u,(pre++vals)[r]?=some u∧Rv c v u
 | _,_,k,pre,hk,.nil,r,v,h=>by simp [au,lk] at h
 | _,_,k,pre,hk,.cons x u l vs hx ht,r,v,h=>by
  simp only [au,lk] at h
  split at h
  ·rename_i e;subst e;cases h
   exact ⟨u,by rw [List.getElem?_append_right (by omega)];simp [hk],hx⟩
  ·obtain ⟨u',h1,h2⟩:=uS (k+1) (pre++[u]) (by simp [hk]) ht r v h
   exact ⟨u',by simpa using h1,h2⟩
theorem aA.of_run {f:Nat} {fn:Func} {c:Code} {args:List AV} {out:AV} {rows:List (Nat × Item)} (hf:P.funcs[f]?=some fn) (hb:fn.body=some c)
  (hnm:(fn.name == "runtime.NumGoroutine")=false) (hn:args.length≤fn.ntmps) (res:List ResultVar) (hres:fn.results=res.toArray)
  (h:∀ (w0:World) (T0:Bs) [uO P w0 T0],kD P w0 T0 0 c ⟨fn.ntmps,au 0 args,[],0⟩ (Post P w0 T0 res out rows)):aA P f args out rows:=by
 refine ⟨⟨fn,hf,by rw [hb];rfl,hnm⟩,fun w T vals hgl hv=>?_⟩
 haveI:uO P w (bs T):=⟨hgl,fun _ _ _ h=>h.1⟩
 refine calls_of_wp hf hb ?_
 have hlen:=hv.length
 have hle:eP (⟨w,T,fun _=>undef,0⟩:Ctx) (aB (bs T) w.heap.size (fun _=>undef) ⟨fn.ntmps,au 0 args,[],0⟩ w):=
  ⟨Nat.le_refl _,fun _ _=>rfl,fun b hb _=>⟨⟨.inr hb,fun i it hi=>by simp [lk] at hi⟩,rfl⟩⟩
 have hrep:bG w (bs T) [] ⟨fn.ntmps,au 0 args,[],0⟩ { tmps:=vals.toArray++Array.replicate (fn.ntmps - vals.toArray.size) undef,defers:=[] } w (fun _=>undef):=
  {size:=by simp;omega,nodef:=rfl,below:=bP.refl _ _,
   env:=by
    intro r v hr
    obtain ⟨u,h1,h2⟩:=uS 0 [] rfl hv r v hr
    have e:((vals.toArray++Array.replicate (fn.ntmps - vals.toArray.size) undef).getD r undef)=u:=by
     have h1':vals[r]?=some u:=by simpa using h1
     have hlt:r<vals.length:=(List.getElem?_eq_some_iff.1 h1').1
     rw [Array.getD_eq_getD_getElem?,Array.getElem?_append_left (by simpa using hlt)]
     simp [h1']
    rw [e];exact h2.mono hle,
   held:=fun p hp=>absurd hp (by simp),rows:=fun i it hi=>absurd hi (by simp [lk]),sep:=fun i j it jt b hi=>absurd hi (by simp [lk]) }
 refine wp_mono (h w (bs T) [] _ w (fun p hp=>absurd hp (by simp)) ⟨_,hrep⟩) ?_
 rintro e a w' ⟨s',hq,hr⟩
 have fin:aU P w (bs T) res out rows s'→a.defers=[]∧∃ v,(results fn a.tmps).run P w'=.ok v w'∧∃ v',Ending.returned v=.returned v'∧mQ w.heap.size w w'∧sZ T w.heap.size w' out rows v':=by
  intro hret
  obtain ⟨v,hv,hout⟩:=hret a w' hr
  obtain ⟨m,hm⟩:=hr
  exact ⟨hm.nodef,v,hv fn hres,v,rfl,(hm.below.mono fun b hb=>hb.1).below,hout.out⟩
 cases e with
 | normal=>exact fin hq
 | ret=>exact fin hq
 | _=>exact hq.elim
theorem aA.aG {f:Nat} {fn:Func} {c:Code} {args:List AV} {out:AV} {rows:List (Nat × Item)} (hf:P.funcs[f]?=some fn) (hb:fn.body=some c)
  (hnm:(fn.name == "runtime.NumGoroutine")=false) (hn:args.length≤fn.ntmps) (res:List ResultVar) (hres:fn.results=res.toArray)
  (h:∀ (w0:World) (T0:Bs) [uO P w0 T0],jP P w0 T0 0 c (Post P w0 T0 res out rows) ⟨fn.ntmps,au 0 args,[],0⟩):aA P f args out rows:=
 .of_run hf hb hnm hn res hres fun w0 T0=>.of (h w0 T0)
end
end Go.Fv
