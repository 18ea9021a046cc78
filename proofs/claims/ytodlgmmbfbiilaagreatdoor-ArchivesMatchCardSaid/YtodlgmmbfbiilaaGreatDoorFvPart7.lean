/-
  A part of the proof of the claim: walks over the program's functions and the plain laws that these need. No condition of its own.
-/
import Derived.Test.YtodlgmmbfbiilaaGreatDoorFvPart4
import Derived.Test.YtodlgmmbfbiilaaGreatDoorFvPart6
import Derived.Orders
import Derived.Still
set_option linter.unusedSectionVars false
set_option linter.unusedVariables false
set_option linter.unusedSimpArgs false
set_option linter.unnecessarySimpa false
/-
 Regions, code, loops, calls, contracts.
-/
namespace Go.Fv
open Go.RowKit
def Enter (P:Program) (f:Nat):Prop:=∃ fn,P.funcs[f]?=some fn∧fn.body.isNone=false∧(fn.name == "runtime.NumGoroutine")=false
class BrQ where
 q:Exit→S→Prop
class BrK where
 k:AV→S→Prop
class BrS where
 k:S→Prop
def ah (P:Program) (w0:World) (T0:Bs) (f:Nat) (args:List AV) (s:S) [K:BrK]:Prop:=
 Enter P f∧∀ (H:List (AV × Value)) (a:Act) (w:World) (m:Nat→Value) (vals:List Value),bH w0 T0 H s a w m→dZ (aB T0 w0.heap.size m s w) args vals →
  Calls P f vals.toArray w fun e w'=>∃ v,e=.returned v∧∃ r s',K.k r s'∧Rep w0 T0 ((r,v)::H) s' a w'
def Df (b0:Nat) (H:List (AV × Value)):Prop:=∀ p,p∈H→below b0 p.1=true
def aF (P:Program) (w0:World) (T0:Bs) (b0:Nat) (c:Code) (s:S) [Q:BrQ]:Prop:=
 ∀ (H:List (AV × Value)) (a:Act) (w:World),Df b0 H→Rep w0 T0 H s a w→(Code.loop c).wp P (fun e a' w'=>∃ s',Q.q e s'∧Rep w0 T0 H s' a' w') a w
def aN (P:Program) (w0:World) (T0:Bs) (b0:Nat) (id:Nat) (ops:Array Oper) (s:S) [Q:BrS]:Prop:=
 ∀ (H:List (AV × Value)) (a:Act) (w:World),Df b0 H→Rep w0 T0 H s a w→(Code.region id ops true).wp P (fun e a' w'=>e=.normal∧∃ s',Q.k s'∧Rep w0 T0 H s' a' w') a w
@[congr] theorem Xl {P:Program} {w0:World} {T0:Bs} {f:Nat} {args args':List AV} {s s':S} {K:BrK} (h:args=args') (h2:s=s'):@ah P w0 T0 f args s K=@ah P w0 T0 f args' s' K:=by rw [h,h2]
@[congr] theorem Xo {P:Program} {w0:World} {T0:Bs} {b0:Nat} {c:Code} {s s':S} {Q:BrQ} (h:s=s'):@aF P w0 T0 b0 c s Q=@aF P w0 T0 b0 c s' Q:=by rw [h]
@[congr] theorem Xm {P:Program} {w0:World} {T0:Bs} {b0 id:Nat} {ops:Array Oper} {s s':S} {Q:BrS} (h:s=s'):@aN P w0 T0 b0 id ops s Q=@aN P w0 T0 b0 id ops s' Q:=by rw [h]
def oV (P:Program) (w0:World) (T0:Bs) (c:Call) (s:S) (K:AV→S→Prop):Prop:=
 match c.callee with
 | .builtin .append=>match c.args.toList,c.argTypes.toList with
  | [x,y],[t,t2]=>bD (aC x) (oz P t t2 x y s K)
  | _,_=>False
 | .builtin .len=>match c.args.toList,c.argTypes.toList with
  | [x],[t]=>bD (aC x) (N8 P t x s K)
  | _,_=>False
 | .builtin .unsafeSliceData=>match c.args.toList,c.argTypes.toList with
  | [x],[_]=>bD (aC x) (zh x s K)
  | _,_=>False
 | .builtin .cap=>match c.args.toList,c.argTypes.toList with
  | [x],[t]=>bD (aC x) (JW P t x s K)
  | _,_=>False
 | .builtin .unsafeString=>match c.args.toList,c.argTypes.toList with
  | [x,n],[pt,_]=>bD (aC x∧aC n) (Kr P pt x n s K)
  | _,_=>False
 | .builtin .min=>bD (∀ x,x∈c.args.toList→aC x) (Ob false (evs s c.args.toList) (fun r=>K r s))
 | .builtin .max=>bD (∀ x,x∈c.args.toList→aC x) (Ob true (evs s c.args.toList) (fun r=>K r s))
 | .value g=>match s.ev g with
  | .fn f caps=>bD (aC g∧∀ x,x∈c.args.toList→aC x) (@ah P w0 T0 f (evs s c.args.toList++caps) s ⟨K⟩)
  | _=>False
 | _=>False
def sO (P:Program) (w0:World) (T0:Bs) (o:Oper) (s:S) (K:AV→S→Prop):Prop:=
 match o.op with
 | .move x=>xJ P o.type x s K
 | .assign x=>xJ P o.type x s K
 | .pick c x y=>bD (aC c) (FT c x y s K)
 | .extract x i=>bD (aC x) (lI x i s K)
 | .makeFunc fn first caps=>jL fn first caps s K
 | .box e x=>IE e x s K
 | .alloc e=>vT P e s K
 | .load t x=>match x with
  | .global g=>Qk P t g s K
  | x=>bD (aC x) (FD P t x s K)
 | .store t x v=>bD (aC x) (vW P t x v s K)
 | .nilCheck x=>bD (aC x) (FP x s K)
 | .fieldAddr t x k=>bD (aC x) (jr P t x k s K)
 | .indexAddr t x i=>bD (aC x∧aC i) (mG P t x i s K)
 | .makeSlice t l c=>bD (aC l∧aC c) (Ak P t l c s K)
 | .binOp op t x y _=>bD (aC x∧aC y) (Fq P op t y (s.ev x) (s.ev y) (fun r=>K r s))
 | .call c=>oV P w0 T0 c s K
 | .unOp op _ x=>bD (aC x) (Qo op x s K)
 | .convert a b x=>bD (aC x) (vU P a b x s K)
 | .index t x i=>bD (aC x∧aC i) (y7 P t x i s K)
 | .field t x k=>bD (aC x) (yY P t x k s K)
 | .slice t x lo hi mx=>bD (aC x) (CY P t x lo hi mx s K)
 | .buildSlice t len parts=>jB P t len parts s K
 | .build t parts=>rX P t parts s K
 | .lookup t x i ok=>uI P t x i ok s K
 | .makeMap t r=>qP P t r s K
 | .mapUpdate t x k v=>qR P t x k v s K
 | .mapEntry t x k=>qQ P t x k s K
 | .entryStore _ x st v=>lH x st v s K
 | .range t x=>vV P t x s K
 | .next x str=>J7 x str s K
 | .entry x=>CW x s K
 | _=>False
section
variable {P:Program} {w0:World} {T0:Bs} {s:S} [hG:uM P w0 T0]
theorem Fz {o:Oper} {K:AV→S→Prop} {c:Call} (ho:o.op=.call c) (h:oV P w0 T0 c s K):aY P w0 T0 o s K:=by
 obtain ⟨callee,args,argTypes⟩:=c
 unfold oV at h
 cases callee with
 | builtin b=>
  cases b<;>try (exact h.elim)
  case append=>
   dsimp only at h
   split at h
   ·rename_i x y t t2 e1 e2
    obtain ⟨hx,h⟩:=h
    have e1':args=#[x,y]:=by apply Array.ext';simpa using e1
    have e2':argTypes=#[t,t2]:=by apply Array.ext';simpa using e2
    subst e1' e2'
    exact BO ho hx h
   ·exact h.elim
  case len=>
   dsimp only at h
   split at h
   ·rename_i x t e1 e2
    obtain ⟨hx,h⟩:=h
    have e1':args=#[x]:=by apply Array.ext';simpa using e1
    have e2':argTypes=#[t]:=by apply Array.ext';simpa using e2
    subst e1' e2'
    exact N9 ho hx h
   ·exact h.elim
  case unsafeSliceData=>
   dsimp only at h
   split at h
   ·rename_i x t e1 e2
    obtain ⟨hx,h⟩:=h
    have e1':args=#[x]:=by apply Array.ext';simpa using e1
    have e2':argTypes=#[t]:=by apply Array.ext';simpa using e2
    subst e1' e2'
    exact FU ho hx h
   ·exact h.elim
  case cap=>
   dsimp only at h
   split at h
   ·rename_i x t e1 e2
    obtain ⟨hx,h⟩:=h
    have e1':args=#[x]:=by apply Array.ext';simpa using e1
    have e2':argTypes=#[t]:=by apply Array.ext';simpa using e2
    subst e1' e2'
    exact JX ho hx h
   ·exact h.elim
  case unsafeString=>
   dsimp only at h
   split at h
   ·rename_i x n pt it e1 e2
    obtain ⟨⟨hx,hn⟩,h⟩:=h
    have e1':args=#[x,n]:=by apply Array.ext';simpa using e1
    have e2':argTypes=#[pt,it]:=by apply Array.ext';simpa using e2
    subst e1' e2'
    exact Kt ho hx hn h
   ·exact h.elim
  case min=>exact FK (isMax:=false) ho h.1 h.2
  case max=>exact FK (isMax:=true) ho h.1 h.2
 | invoke r mth=>exact h.elim
 | value g=>
  dsimp only at h
  intro H a w next Q ⟨m,hm⟩ hn
  cases hg:s.ev g with
  | fn f caps=>
   rw [hg] at h
   obtain ⟨⟨hog,hoa⟩,⟨fn,hf,hb,hnm⟩,h⟩:=h
   have rg:=hm.ev g hog
   rw [hg] at rg
   generalize hvg:a.eval g=vg at rg
   cases rg with
   | fn _ _ cvals hc=>
    have hargs:=(hm.evs hoa).append hc
    have hcalls:=h H a w m _ hm hargs
    have hrun:(execOp a.eval o).run P w=.ok (.enter f ((args.toList.map a.eval++cvals).toArray)) w:=by
     unfold execOp;rw [ho]
     have e:(Array.map a.eval args++cvals.toArray)=(args.toList.map a.eval++cvals).toArray:=by
      apply Array.ext';simp
     have hnm':¬fn.name = "runtime.NumGoroutine" := by simpa using hnm
     have hb':¬fn.body=none:=by intro e;simp [e] at hb
     simp [resolve,hvg,Deferred.ofValue,invoke,callFunc,hf,hb',hnm',e]
    unfold Oper.wp
    rw [hrun]
    refine Calls.mono hcalls ?_
    rintro e w' ⟨v,rfl,r,s',hk,hr⟩
    exact hn r s' v w' hk hr
  | _=>rw [hg] at h;exact h.elim
theorem oW {o:Oper} {K:AV→S→Prop} (h:sO P w0 T0 o s K):aY P w0 T0 o s K:=by
 unfold sO at h
 cases ho:o.op<;>rw [ho] at h<;>try (exact h.elim)
 case move x=>exact zf (.inl ho) h
 case assign x=>exact zf (.inr ho) h
 case pick c x y=>exact J9 ho h.1 h.2
 case extract x i=>exact BP ho h.1 h.2
 case makeFunc fn first caps=>exact Am ho h
 case box e x=>exact N7 ho h
 case alloc e=>exact Gl ho h
 case load t x=>
  cases x with
  | global g=>exact (J3 ho h).op
  | _=>exact J4 ho h.1 h.2
 case store t x v=>exact Gy ho h.1 h.2
 case nilCheck x=>exact Oc ho h.1 h.2
 case fieldAddr t x k=>exact yZ ho h.1 h.2
 case indexAddr t x i=>exact y8 ho h.1.1 h.1.2 h.2
 case makeSlice t l c=>exact J6 ho h.1.1 h.1.2 h.2
 case binOp op t x y t'=>exact JQ ho h.1.1 h.1.2 h.2
 case call c=>exact Fz ho h
 case unOp op t x=>exact Qp ho h.1 h.2
 case convert t t' x=>exact Gp ho h.1 h.2
 case index t x i=>exact Gu ho h.1.1 h.1.2 h.2
 case field t x k=>exact Gs ho h.1 h.2
 case slice t x lo hi mx=>exact Gx ho h.1 h.2
 case buildSlice t len parts=>exact xH ho h
 case build t parts=>exact Gm ho h
 case lookup t x i ok=>exact FH ho h
 case makeMap t r=>exact BR ho h
 case mapUpdate t x k v=>exact FN ho h
 case mapEntry t x k=>exact FM ho h
 case entryStore t x st v=>exact Aj ho h
 case range t x=>exact Gw ho h
 case next x str=>exact J8 ho h
 case entry x=>exact Gq ho h
end
def je (d:Option Nat) (v:AV) (s:S) (Q:S→Prop):Prop:=
 match d with
 | none=>Q s
 | some d=>if d<s.n then Q (s.set d v) else False
def xu:Op→Prop
 | .pick c x y=>aC c∧aC x∧aC y
 | _=>False
def xK (P:Program) (w0:World) (T0:Bs) (o:Oper) (c:Bool) (s s1 s2:S) (k:S→Prop):Prop:=
 match yD s o.op with
 | some (pre,b)=>bD (c=true→pre∧xu o.op) (je o.dst (.opt c (.bool b)) s k)
 | none=>match XO P (peel s (OX o.op)) o.op with
  | some v=>bD (Fv.below s.next v=true) (bD (c=true→iF s (OX o.op)=true∧sO P w0 T0 o (peel s (OX o.op)) (fun r s'=>r=v∧s'=peel s (OX o.op))) (je o.dst (.opt c v) s k))
  | none=>@Ite c ⟨bD (iF s1 (OX o.op)=true) (sO P w0 T0 o (peel s1 (OX o.op)) (fun v s'=>je o.dst v s' k))⟩ ⟨je o.dst (.opt false (.bool false)) s2 k⟩
def Ql (P:Program) (w0:World) (T0:Bs) (ops:Array Oper) (o:Oper) (s:S) (k:S→Prop):Prop:=
 match o.guard with
 | none=>match yD s o.op with
  | some (pre,b)=>bD (pre∧xu o.op) (je o.dst (.bool b) s k)
  | none=>sO P w0 T0 o s (fun v s'=>je o.dst v s' k)
 | some (j,want)=>match (ops[j]?).bind (·.dst) with
  | some r=>match s.get r with
   | .bool b=>xK P w0 T0 o (bif want then b else !b) s (s.set r (.bool want)) (s.set r (.bool (!want))) k
   | .opt c (.bool b)=>xK P w0 T0 o (c && bif want then b else !b) s s s k
   | _=>False
  | none=>False
def FQ (P:Program) (w0:World) (T0:Bs) (ops:Array Oper):List Oper→S→(S→Prop)→Prop
 | [],s,Q=>Q s
 | o::rest,s,Q=>Ql P w0 T0 ops o s (fun s'=>FQ P w0 T0 ops rest s' Q)
section
variable {P:Program} {w0:World} {T0:Bs} {H:List (AV × Value)} [hG:uM P w0 T0]
theorem Rep.put {s:S} {a:Act} {w:World} {r:AV} {v:Value} {d:Option Nat} {Q:S→Prop} (h:Rep w0 T0 ((r,v)::H) s a w) (hq:je d r s Q):∃ s',Q s'∧Rep w0 T0 H s' (a.put d v) w:=by
 obtain ⟨m,hm⟩:=h
 cases d with
 | none=>exact ⟨s,hq,m,hm.qj⟩
 | some d=>
  simp only [je] at hq
  split at hq
  ·rename_i hd;exact ⟨_,hq,m,hm.qj.Zv (hm.held _ (.head _)) hd⟩
  ·exact hq.elim
theorem bH.know {s:S} {a:Act} {w:World} {m:Nat→Value} (h:bH w0 T0 H s a w m) {r:Nat} {x:AV} (hx:Rv (aB T0 w0.heap.size m s w) x (a.tmps.getD r undef)):bH w0 T0 H (s.set r x) a w m:=
 {size:=h.size,nodef:=h.nodef,below:=h.below,held:=h.held,rows:=h.rows,sep:=h.sep,
  env:=by
   intro q y hy
   have hy':(if r=q then some x else lk s.env q)=some y:=hy
   split at hy'
   ·rename_i e;subst e;cases hy';exact hx
   ·exact h.env q y hy' }
theorem tZ {s:S} {a:Act} {w:World} {o:Oper} {pre:Prop} {b:Bool} (h:yD s o.op=some (pre,b)) (hp:pre) (hok:xu o.op) (hr:Rep w0 T0 H s a w):(execOp a.eval o).run P w=.ok (.value (.bool b)) w:=by
 obtain ⟨m,hm⟩:=hr
 unfold yD at h
 cases ho:o.op<;>rw [ho] at h hok<;>try (cases h;done)
 rename_i c x y
 obtain ⟨h1,h2,h3⟩:=hok
 dsimp only at h
 split at h
 ·rename_i bc p q ec ex ey
  cases h
  obtain ⟨k1,k2,k3⟩:=hp
  have rc:=V8 hm h1 k1
  rw [ec] at rc
  generalize hvc:a.eval c=vc at rc
  cases rc
  have hrun:(execOp a.eval o).run P w=.ok (.value (if bc then a.eval x else a.eval y)) w:=by
   unfold execOp;rw [ho];simp [hvc,asBool,Sem.run_bind,Result.andThen]
  cases bc with
  | true=>
   have rx:=V8 hm h2 (k2 rfl)
   rw [ex] at rx
   generalize hvx:a.eval x=vx at rx hrun
   cases rx
   simpa using hrun
  | false=>
   have ry:=V8 hm h3 (k3 rfl)
   rw [ey] at ry
   generalize hvy:a.eval y=vy at ry hrun
   cases ry
   simpa using hrun
 ·cases h
theorem zi {o:Oper} {c:Bool} {s s1 s2:S} {k:S→Prop} (h:xK P w0 T0 o c s s1 s2 k) {a:Act} {w:World} (hr:Rep w0 T0 H s a w) {W:Bool} (hW:W=c) (hr1:c=true→Rep w0 T0 H s1 a w) (hr2:c=false→Rep w0 T0 H s2 a w) {K:Act→World→Prop} {Qc:Exit→Act→World→Prop}
  (hk:∀ s' a' w',k s'→Rep w0 T0 H s' a' w'→K a' w'):if W=true then o.wp P a w K Qc else K (a.put o.dst undef) w:=by
 subst hW
 unfold xK at h
 have skip:W=false→∀ (v:AV) (s:S),Rep w0 T0 H s a w→(∀ c,Rv c v undef)→je o.dst v s k→K (a.put o.dst undef) w:=by
  intro _ v s hr hv hp
  obtain ⟨m,hm⟩:=hr
  obtain ⟨s'',h2,hr2⟩:=Rep.put (v:=undef) (⟨m,hm.hold (hv _)⟩:Rep w0 T0 ((v,undef)::H) s a w) hp
  exact hk _ _ _ h2 hr2
 split at h
 ·rename_i pre b hg
  obtain ⟨hpre,hput⟩:=h
  cases W with
  | true=>
   simp only [if_true]
   obtain ⟨hp,hok⟩:=hpre rfl
   have hrun:=tZ (P:=P) hg hp hok hr
   unfold Oper.wp
   rw [hrun]
   obtain ⟨m,hm⟩:=hr
   obtain ⟨s'',h2,hr2⟩:=Rep.put (v:=.bool b) (⟨m,hm.hold (.opt true (.bool b) (.bool b) rfl (fun _=>.bool b) (fun e=>by cases e))⟩:Rep w0 T0 ((.opt true (.bool b),.bool b)::H) s a w) hput
   exact hk _ _ _ h2 hr2
  | false=>
   simp only [Bool.false_eq_true,if_false]
   exact skip rfl _ s hr (fun _=>.opt false _ _ rfl (fun e=>by cases e) (fun _=>rfl)) hput
 ·split at h
  ·rename_i v hv
   obtain ⟨hb,hpre,hput⟩:=h
   cases W with
   | true=>
    simp only [if_true]
    obtain ⟨hpc,hop⟩:=hpre rfl
    obtain ⟨m,hm⟩:=hr
    refine oW hop H a w _ _ ⟨m,hm.peel hpc⟩ ?_
    rintro r s' v' w' ⟨rfl,rfl⟩ ⟨m',hm'⟩
    have hv':=hm'.held _ (.head _)
    have hm2:=hm'.qj.ZG hpc
    obtain ⟨s'',h2,hr2⟩:=Rep.put (v:=v') (⟨m',hm2.hold (.opt true r v' hb (fun _=>hv') (fun e=>by cases e))⟩:Rep w0 T0 ((.opt true r,v')::H) s a w') hput
    exact hk _ _ _ h2 hr2
   | false=>
    simp only [Bool.false_eq_true,if_false]
    obtain ⟨m,hm⟩:=hr
    obtain ⟨s'',h2,hr2⟩:=Rep.put (v:=undef) (⟨m,hm.hold (.opt false v undef hb (fun e=>by cases e) (fun _=>rfl))⟩:Rep w0 T0 ((.opt false v,undef)::H) s a w) hput
    exact hk _ _ _ h2 hr2
  ·cases W with
   | true=>
    simp only [if_true]
    obtain ⟨hpc,hop⟩:=h.1 rfl
    obtain ⟨m1,hm1⟩:=hr1 rfl
    refine oW hop H a w _ _ ⟨m1,hm1.peel hpc⟩ ?_
    intro r s' v w' hk' hr'
    obtain ⟨s'',h2,hr2⟩:=hr'.put hk'
    exact hk _ _ _ h2 hr2
   | false=>
    simp only [Bool.false_eq_true,if_false]
    exact skip rfl _ s2 (hr2 rfl) (fun _=>.opt false _ _ rfl (fun e=>by cases e) (fun _=>rfl)) (h.2 rfl)
theorem FC {ops:Array Oper} {o:Oper} {s:S} {k:S→Prop} (h:Ql P w0 T0 ops o s k) {a:Act} {w:World} (hr:Rep w0 T0 H s a w) {K:Act→World→Prop} {Qc:Exit→Act→World→Prop}
  (hk:∀ s' a' w',k s'→Rep w0 T0 H s' a' w'→K a' w'):if Region.wanted o (yielded ops a.tmps) then o.wp P a w K Qc else K (a.put o.dst undef) w:=by
 unfold Ql at h
 cases hg:o.guard with
 | none=>
  rw [hg] at h
  rw [if_pos (by simp [Region.wanted,hg])]
  dsimp only at h
  split at h
  ·rename_i pre b hgp
   obtain ⟨⟨hp,hok⟩,hput⟩:=h
   have hrun:=tZ (P:=P) hgp hp hok hr
   unfold Oper.wp
   rw [hrun]
   obtain ⟨m,hm⟩:=hr
   obtain ⟨s'',h2,hr2⟩:=Rep.put (v:=.bool b) (⟨m,hm.hold (.bool b)⟩:Rep w0 T0 ((.bool b,.bool b)::H) s a w) hput
   exact hk _ _ _ h2 hr2
  ·refine oW h H a w _ _ hr ?_
   intro r s' v w' hk' hr'
   obtain ⟨s'',h2,hr2⟩:=hr'.put hk'
   exact hk _ _ _ h2 hr2
 | some jw=>
  obtain ⟨j,want⟩:=jw
  rw [hg] at h
  dsimp only at h
  cases hd:(ops[j]?).bind (·.dst) with
  | none=>rw [hd] at h;exact h.elim
  | some r=>
   rw [hd] at h
   dsimp only at h
   have hslot:∀ x,s.get r=x→x≠.dead→lk s.env r=some x:=by
    intro x hx hne
    simp only [S.get] at hx
    cases hl:lk s.env r with
    | none=>rw [hl] at hx;exact absurd hx.symm hne
    | some y=>rw [hl] at hx;exact congrArg some hx
   have hyield:∀ b,a.tmps.getD r undef=.bool b→yielded ops a.tmps j=some b:=by
    intro b hvv
    have h1:a.tmps[r]?=some (.bool b):=by
     rw [Array.getD_eq_getD_getElem?] at hvv
     cases hq:a.tmps[r]? with
     | none=>rw [hq] at hvv;simp [undef] at hvv
     | some y=>rw [hq] at hvv;simpa using hvv
    simp [yielded,hd,h1]
   have hyno:a.tmps.getD r undef=undef→yielded ops a.tmps j=none:=by
    intro hvv
    cases hq:a.tmps[r]? with
    | none=>simp [yielded,hd,hq]
    | some y=>
     rw [Array.getD_eq_getD_getElem?,hq] at hvv
     have:y=undef:=by simpa using hvv
     subst this
     simp [yielded,hd,hq,undef]
   split at h
   ·rename_i b hb
    have hl:=hslot _ hb (by simp)
    obtain ⟨m,hm⟩:=hr
    have hv:=hm.env r _ hl
    generalize hvv:a.tmps.getD r undef=vv at hv
    cases hv
    have hy:=hyield b hvv
    refine zi h ⟨m,hm⟩ ?_ ?_ ?_ hk
    ·cases want<;>cases b<;>simp [Region.wanted,hg,hy]
    ·intro hc
     refine ⟨m,hm.know ?_⟩
     rw [hvv]
     have:b=want:=by cases want<;>cases b<;>simp at hc<;>rfl
     rw [this];exact .bool want
    ·intro hc
     refine ⟨m,hm.know ?_⟩
     rw [hvv]
     have:b=!want:=by cases want<;>cases b<;>simp at hc<;>rfl
     rw [this];exact .bool _
   ·rename_i c b hb
    have hl:=hslot _ hb (by simp)
    have hr':=hr
    obtain ⟨m,hm⟩:=hr'
    have hv:=hm.env r _ hl
    refine zi h hr ?_ (fun _=>hr) (fun _=>hr) hk
    cases hv with
    | opt _ _ _ _ h1 h2=>
     cases c with
     | true=>
      have h1':=h1 rfl
      generalize hvv:a.tmps.getD r undef=vv at h1'
      cases h1'
      have hy:=hyield b hvv
      cases want<;>cases b<;>simp [Region.wanted,hg,hy]
     | false=>
      have hy:=hyno (h2 rfl)
      cases want<;>simp [Region.wanted,hg,hy]
   ·exact h.elim
theorem BG {ops:Array Oper} {Qc:Exit→Act→World→Prop}:∀ (l:List Oper) (s:S) (Q:S→Prop),FQ P w0 T0 ops l s Q→∀ (a:Act) (w:World),Rep w0 T0 H s a w →
  (∀ s' a' w',Q s'→Rep w0 T0 H s' a' w'→Qc .normal a' w')→wpList P ops Qc l a w
 | [],s,Q,h,a,w,hr,hq=>wpList_nil (hq s a w h hr)
 | o::rest,s,Q,h,a,w,hr,hq=>by
  unfold FQ at h
  refine wpList_step fun K hK=>?_
  exact FC h hr fun s' a' w' hk hr'=>hK _ _ (BG rest s' Q hk a' w' hr' hq)
end
/-! ### Regions whose order is drawn -/
inductive Ar where
 | done
 | first (i:Nat) (t:Ar)
 | cons (i:Nat) (t r:Ar)
 | stop
def O4 (o:Oper):Bool:=match o.guard,o.op with
 | none,.move _=>true
 | none,.assign _=>true
 | none,.fieldAddr _ _ _=>true
 | _,_=>false
def iJ (ops:Array Oper):Ar→Nat→Array Bool→Option (List Nat)→Bool
 | .done,_,listed,none=>(Region.ready .any ops listed).isEmpty
 | .first i t,n+1,listed,none=>((ops[i]?).map O4).getD false && Region.free .any ops listed i && (Region.ready .any ops listed).contains i && iJ ops t n (listed.setIfInBounds i true) none
 | .cons i t r,n+1,listed,none=>match Region.ready .any ops listed with
  | j::l=>i == j && iJ ops t n (listed.setIfInBounds i true) none && iJ ops r (n+1) listed (some l)
  | []=>false
 | .cons i t r,n+1,listed,some q=>match q with
  | j::l=>i == j && iJ ops t n (listed.setIfInBounds i true) none && iJ ops r (n+1) listed (some l)
  | []=>false
 | .stop,_+1,_,some q=>q.isEmpty
 | _,_,_,_=>false
def kU (P:Program) (w0:World) (T0:Bs) (ops:Array Oper):Ar→S→(S→Prop)→Prop
 | .done,s,Q=>Q s
 | .first i t,s,Q=>match ops[i]? with
  | some o=>match o.op with
   | .move x=>bD (aC x) (je o.dst (s.ev x) s (fun s'=>kU P w0 T0 ops t s' Q))
   | .assign x=>bD (aC x) (je o.dst (s.ev x) s (fun s'=>kU P w0 T0 ops t s' Q))
   | .fieldAddr ty x k=>bD (aC x) (jr P ty x k s (fun r s1=>je o.dst r s1 (fun s'=>kU P w0 T0 ops t s' Q)))
   | _=>False
  | none=>False
 | .cons i t r,s,Q=>match ops[i]? with
  | some o=>Ql P w0 T0 ops o s (fun s'=>kU P w0 T0 ops t s' Q)∧kU P w0 T0 ops r s Q
  | none=>False
 | .stop,_,_=>True
def thenS (next:S→Prop) (Q:Exit→S→Prop):Exit→S→Prop
 | .normal,s=>next s
 | e,s=>Q e s
def Dv (id:Nat) (Q:Exit→S→Prop):Exit→S→Prop
 | .exit i,s=>if i=id then Q .normal s else Q (.exit i) s
 | e,s=>Q e s
def Ru (c:Operand) (b:Bool) (s:S):S:=
 match c with
 | .tmp t=>s.set t (.bool b)
 | _=>s
def jK (P:Program) (w0:World) (T0:Bs) (b0:Nat):Code→(Exit→S→Prop)→S→Prop
 | .skip,Q,s=>Q .normal s
 | .label _,Q,s=>Q .normal s
 | .region id ops draw,Q,s=>match draw with
  | true=>@aN P w0 T0 b0 id ops s ⟨Q .normal⟩
  | false=>FQ P w0 T0 ops ops.toList s (Q .normal)
 | .seq x y,Q,s=>jK P w0 T0 b0 x (thenS (jK P w0 T0 b0 y Q) Q) s
 | .cond c x y,Q,s=>match s.ev c with
  | .bool b=>bD (aC c) (@Ite b ⟨jK P w0 T0 b0 x Q (Ru c true s)⟩ ⟨jK P w0 T0 b0 y Q (Ru c false s)⟩)
  | _=>False
 | .block id c,Q,s=>jK P w0 T0 b0 c (Dv id Q) s
 | .loop c,Q,s=>@aF P w0 T0 b0 c s ⟨Q⟩
 | .exit id,Q,s=>Q (.exit id) s
 | .ret,Q,s=>Q .ret s
 | _,_,_=>False
section
variable {P:Program} {w0:World} {T0:Bs} {b0:Nat} [hG:uM P w0 T0]
theorem rY:∀ (c:Code) (Q:Exit→S→Prop) (s:S),jK P w0 T0 b0 c Q s→∀ (H:List (AV × Value)) (a:Act) (w:World),Df b0 H→Rep w0 T0 H s a w →
  c.wp P (fun e a' w'=>∃ s',Q e s'∧Rep w0 T0 H s' a' w') a w:=by
 intro c
 induction c with
 | skip=>intro Q s h H a w hH hr;exact wp_skip ⟨s,h,hr⟩
 | label l=>intro Q s h H a w hH hr;exact wp_label ⟨s,h,hr⟩
 | region id ops draw=>
  intro Q s h H a w hH hr
  cases draw with
  | true=>
   exact wp_mono (h H a w hH hr) fun e a' w' ⟨he,s',hq,hr'⟩=>by subst he;exact ⟨s',hq,hr'⟩
  | false=>
   exact wp_region_list (BG ops.toList s (Q .normal) h a w hr fun s' a' w' hq hr'=>⟨s',hq,hr'⟩)
 | seq x y ihx ihy=>
  intro Q s h H a w hH hr
  refine wp_seq (wp_mono (ihx _ s h H a w hH hr) ?_)
  rintro e a' w' ⟨s',hq,hr'⟩
  cases e with
  | normal=>exact ihy Q s' hq H a' w' hH hr'
  | _=>exact ⟨s',hq,hr'⟩
 | cond c x y ihx ihy=>
  intro Q s h H a w hH hr
  simp only [jK] at h
  obtain ⟨m,hm⟩:=hr
  cases hc:s.ev c with
  | bool b=>
   rw [hc] at h
   obtain ⟨hok,h⟩:=h
   have rc:=hm.ev c hok
   rw [hc] at rc
   generalize hv:a.eval c=vc at rc
   cases rc
   have hk:Rep w0 T0 H (Ru c b s) a w:=by
    cases c with
    | tmp t=>exact ⟨m,hm.know (by have:a.tmps.getD t undef=.bool b:=hv;rw [this];exact .bool b)⟩
    | _=>exact ⟨m,hm⟩
   cases b with
   | true=>exact wp_cond_true hv (ihx Q _ (h.1 rfl) H a w hH hk)
   | false=>exact wp_cond_false hv (ihy Q _ (h.2 rfl) H a w hH hk)
  | _=>rw [hc] at h;exact h.elim
 | block id c ih=>
  intro Q s h H a w hH hr
  refine wp_block (wp_mono (ih _ s h H a w hH hr) ?_)
  rintro e a' w' ⟨s',hq,hr'⟩
  cases e with
  | exit i=>
   simp only [Dv] at hq
   simp only [Exit.inBlock]
   split at hq
   ·rename_i e;rw [if_pos e];exact ⟨s',hq,hr'⟩
   ·rename_i e;rw [if_neg e];exact ⟨s',hq,hr'⟩
  | _=>exact ⟨s',hq,hr'⟩
 | loop c ih=>intro Q s h H a w hH hr;exact h H a w hH hr
 | exit id=>intro Q s h H a w hH hr;exact wp_exit ⟨s,h,hr⟩
 | ret=>intro Q s h H a w hH hr;exact wp_ret ⟨s,h,hr⟩
 | _=>intro Q s h;exact h.elim
/-! ### States that say less -/
def aK (w0:World) (T0:Bs) (b0:Nat) (s s':S):Prop:=∀ (H:List (AV × Value)) (a:Act) (w:World),Df b0 H→Rep w0 T0 H s a w→Rep w0 T0 H s' a w
theorem aF.intro {c:Code} {s:S} {Q:Exit→S→Prop} {α:Type} (shape:α→S) (I:α→Prop) (μ:α→Nat) (x0:α) (h0:aK w0 T0 b0 s (shape x0)) (hI:I x0)
  (body:∀ x,I x→jK P w0 T0 b0 c (thenS (fun s'=>∃ x',aK w0 T0 b0 s' (shape x')∧I x'∧μ x'<μ x) Q) (shape x)):@aF P w0 T0 b0 c s ⟨Q⟩:=by
 intro H a w hH hr
 refine wp_loop_ghost (fun n a w=>∃ x,μ x=n∧I x∧Rep w0 T0 H (shape x) a w) (μ x0) ⟨x0,rfl,hI,h0 H a w hH hr⟩ ?_
 rintro n a w ⟨x,rfl,hx,hr⟩
 refine wp_mono (rY c _ _ (body x hx) H a w hH hr) ?_
 rintro e a' w' ⟨s',hq,hr'⟩
 cases e with
 | normal=>
  obtain ⟨x',he,hI',hlt⟩:=hq
  exact ⟨μ x',hlt,x',rfl,hI',he H a' w' hH hr'⟩
 | _=>exact ⟨s',hq,hr'⟩
def jY (P:Program) (w0:World) (T0:Bs) (b0:Nat) (c:Code) (s:S) (Q:Exit→S→Prop):Prop:=
 ∀ (H:List (AV × Value)) (a:Act) (w:World),Df b0 H→Rep w0 T0 H s a w→c.wp P (fun e a' w'=>∃ s',Q e s'∧Rep w0 T0 H s' a' w') a w
theorem jY.of {c:Code} {s:S} {Q:Exit→S→Prop} (h:jK P w0 T0 b0 c Q s):jY P w0 T0 b0 c s Q:=rY c Q s h
theorem jY.seq {x y:Code} {s:S} {Q:Exit→S→Prop} (h:jK P w0 T0 b0 x (thenS (fun s'=>jY P w0 T0 b0 y s' Q) Q) s):jY P w0 T0 b0 (.seq x y) s Q:=by
 intro H a w hH hr
 refine wp_seq (wp_mono (rY x _ s h H a w hH hr) ?_)
 rintro e a' w' ⟨s',hq,hr'⟩
 cases e with
 | normal=>exact hq H a' w' hH hr'
 | _=>exact ⟨s',hq,hr'⟩
theorem jY.cut {x y:Code} {s:S} {Q:Exit→S→Prop} {α:Type} (shape:α→S) (I:α→Prop) (h:jY P w0 T0 b0 x s (thenS (fun s'=>∃ z,aK w0 T0 b0 s' (shape z)∧I z) Q)) (h2:∀ z,I z→jY P w0 T0 b0 y (shape z) Q):jY P w0 T0 b0 (.seq x y) s Q:=by
 intro H a w hH hr
 refine wp_seq (wp_mono (h H a w hH hr) ?_)
 rintro e a' w' ⟨s',hq,hr'⟩
 cases e with
 | normal=>obtain ⟨z,he,hz⟩:=hq;exact h2 z hz H a' w' hH (he H a' w' hH hr')
 | _=>exact ⟨s',hq,hr'⟩
theorem jY.block {x:Code} {id:Nat} {s:S} {Q:Exit→S→Prop} (h:jY P w0 T0 b0 x s (Dv id Q)):jY P w0 T0 b0 (.block id x) s Q:=by
 intro H a w hH hr
 refine wp_block (wp_mono (h H a w hH hr) ?_)
 rintro e a' w' ⟨s',hq,hr'⟩
 cases e with
 | exit i=>
  simp only [Dv] at hq
  simp only [Exit.inBlock]
  split at hq
  ·rename_i e;rw [if_pos e];exact ⟨s',hq,hr'⟩
  ·rename_i e;rw [if_neg e];exact ⟨s',hq,hr'⟩
 | _=>exact ⟨s',hq,hr'⟩
theorem jY.ent {x:Code} {s s':S} {Q:Exit→S→Prop} (he:aK w0 T0 b0 s s') (h:jY P w0 T0 b0 x s' Q):jY P w0 T0 b0 x s Q:=
 fun H a w hH hr=>h H a w hH (he H a w hH hr)
theorem aF.run {c:Code} {s:S} {Q:Exit→S→Prop} {α:Type} (shape:α→S) (I:α→Prop) (μ:α→Nat) (x0:α) (h0:aK w0 T0 b0 s (shape x0)) (hI:I x0)
  (body:∀ x,I x→jY P w0 T0 b0 c (shape x) (thenS (fun s'=>∃ x',aK w0 T0 b0 s' (shape x')∧I x'∧μ x'<μ x) Q)):@aF P w0 T0 b0 c s ⟨Q⟩:=by
 intro H a w hH hr
 refine wp_loop_ghost (fun n a w=>∃ x,μ x=n∧I x∧Rep w0 T0 H (shape x) a w) (μ x0) ⟨x0,rfl,hI,h0 H a w hH hr⟩ ?_
 rintro n a w ⟨x,rfl,hx,hr⟩
 refine wp_mono (body x hx H a w hH hr) ?_
 rintro e a' w' ⟨s',hq,hr'⟩
 cases e with
 | normal=>
  obtain ⟨x',he,hI',hlt⟩:=hq
  exact ⟨μ x',hlt,x',rfl,hI',he H a' w' hH hr'⟩
 | _=>exact ⟨s',hq,hr'⟩
end
end Go.Fv
/-
 Regions whose order is drawn: every order is walked, moves first.
-/
namespace Go.Fv
open Go.RowKit
section
variable {P:Program} {w0:World} {T0:Bs} {b0:Nat} {H:List (AV × Value)} [hG:uM P w0 T0]
theorem Kq {ops:Array Oper} (hs:Region.noSelect ops=true) {Q:S→Prop}:∀ (t:Ar) (n:Nat) (listed:Array Bool) (q:Option (List Nat)),iJ ops t n listed q=true→∀ (s:S) (a:Act) (w:World),
  kU P w0 T0 ops t s Q→Rep w0 T0 H s a w →
  match q with
  | none=>wpAny P .any ops (fun e a' w'=>e=.normal∧∃ s',Q s'∧Rep w0 T0 H s' a' w') n listed a w
  | some l=>∃ n',n=n'+1∧∀ i,i∈l→wpOp P ops (fun e a' w'=>e=.normal∧∃ s',Q s'∧Rep w0 T0 H s' a' w') i (wpAny P .any ops (fun e a' w'=>e=.normal∧∃ s',Q s'∧Rep w0 T0 H s' a' w') n' (listed.setIfInBounds i true)) a w:=by
 intro t
 induction t with
 | done=>
  intro n listed q hok s a w h hr
  cases q with
  | none=>
   have hn:Region.ready .any ops listed=[]:=by
    cases n<;>simpa [iJ,List.isEmpty_iff] using hok
   exact wpAny_done hn ⟨rfl,s,h,hr⟩ n
  | some l=>cases n<;>simp [iJ] at hok
 | first i t ih=>
  intro n listed q hok s a w h hr
  cases n with
  | zero=>cases q<;>simp [iJ] at hok
  | succ n=>
   cases q with
   | some l=>simp [iJ] at hok
   | none=>
    simp only [iJ,Bool.and_eq_true] at hok
    obtain ⟨⟨⟨hm,hf⟩,hrd⟩,ht⟩:=hok
    unfold kU at h
    cases ho:ops[i]? with
    | none=>rw [ho] at h;exact h.elim
    | some o=>
     rw [ho] at h hm
     have hm':O4 o=true:=by simpa using hm
     have hg:o.guard=none:=by
      unfold O4 at hm';split at hm'<;>first|assumption|cases hm'
     have go:∀ x,(o.op=.move x∨o.op=.assign x)→bD (aC x) (je o.dst (s.ev x) s (fun s'=>kU P w0 T0 ops t s' Q)) →
       wpAny P .any ops (fun e a' w'=>e=.normal∧∃ s',Q s'∧Rep w0 T0 H s' a' w') (n+1) listed a w:=by
      rintro x hx ⟨hxo,hk⟩
      have hrun:∀ w,(execOp a.eval o).run P w=.ok (.value (a.eval x)) w:=by
       intro w;unfold execOp;rcases hx with hx|hx<;>rw [hx]<;>rfl
      have hy:Yields P ops o (a.eval x) a:=.inl ⟨by simp [Region.wanted,hg],hrun⟩
      refine wpAny_take ho hs hf hrd (by rintro c a w ⟨h,_⟩;cases h) hy ?_
      obtain ⟨m,hm⟩:=hr
      obtain ⟨s',h2,hr2⟩:=Rep.put (⟨m,hm.hold (hm.ev x hxo)⟩:Rep w0 T0 ((s.ev x,a.eval x)::H) s a w) hk
      exact ih n _ none ht s' _ w h2 hr2
     dsimp only at h
     cases hop:o.op<;>rw [hop] at h<;>first|exact h.elim|skip
     ·exact go _ (.inl hop) h
     ·exact go _ (.inr hop) h
     ·obtain ⟨hxo,hk⟩:=h
      obtain ⟨m,hm⟩:=hr
      obtain ⟨r,v,hk',hrun,hv⟩:=sJ hop hxo hk hm
      have hy:Yields P ops o v a:=.inl ⟨by simp [Region.wanted,hg],hrun⟩
      refine wpAny_take ho hs hf hrd (by rintro c a w ⟨h,_⟩;cases h) hy ?_
      obtain ⟨s',h2,hr2⟩:=Rep.put (⟨m,hm.hold hv⟩:Rep w0 T0 ((r,v)::H) s a w) hk'
      exact ih n _ none ht s' _ w h2 hr2
 | cons i t r iht ihr=>
  intro n listed q hok s a w h hr
  unfold kU at h
  cases ho:ops[i]? with
  | none=>rw [ho] at h;exact h.elim
  | some o=>
   rw [ho] at h
   obtain ⟨h1,h2⟩:=h
   have one:∀ n',iJ ops t n' (listed.setIfInBounds i true) none=true→wpOp P ops (fun e a' w'=>e=.normal∧∃ s',Q s'∧Rep w0 T0 H s' a' w') i (wpAny P .any ops (fun e a' w'=>e=.normal∧∃ s',Q s'∧Rep w0 T0 H s' a' w') n' (listed.setIfInBounds i true)) a w:=by
    intro n' ht
    unfold wpOp
    rw [ho]
    have:=FC (Qc:=fun e a' w'=>e=.normal∧∃ s',Q s'∧Rep w0 T0 H s' a' w') h1 hr fun s' a' w' hk hr'=>iht n' _ none ht s' a' w' hk hr'
    dsimp only at this ⊢
    split
    ·rename_i hw;rw [if_pos hw] at this;exact .inl this
    ·rename_i hw;rw [if_neg hw] at this;exact this
   cases n with
   | zero=>cases q<;>simp [iJ] at hok
   | succ n=>
    cases q with
    | none=>
     cases hrd:Region.ready .any ops listed with
     | nil=>simp [iJ,hrd] at hok
     | cons j l=>
      simp only [iJ,hrd,Bool.and_eq_true,beq_iff_eq] at hok
      obtain ⟨⟨rfl,ht⟩,hrest⟩:=hok
      have:=ihr (n+1) listed (some l) hrest s a w h2 hr
      obtain ⟨n',hn,hall⟩:=this
      cases hn
      refine wpAny_all hrd (by simp) fun k hk=>?_
      cases List.mem_cons.1 hk with
      | inl e=>subst e;exact one n ht
      | inr e=>exact hall k e
    | some l=>
     cases l with
     | nil=>simp [iJ] at hok
     | cons j l=>
      simp only [iJ,Bool.and_eq_true,beq_iff_eq] at hok
      obtain ⟨⟨rfl,ht⟩,hrest⟩:=hok
      have:=ihr (n+1) listed (some l) hrest s a w h2 hr
      obtain ⟨n',hn,hall⟩:=this
      cases hn
      refine ⟨n,rfl,fun k hk=>?_⟩
      cases List.mem_cons.1 hk with
      | inl e=>subst e;exact one n ht
      | inr e=>exact hall k e
 | stop=>
  intro n listed q hok s a w h hr
  cases n<;>cases q<;>simp [iJ] at hok
  subst hok
  exact ⟨_,rfl,fun i hi=>by cases hi⟩
theorem bH.drawn {s:S} {a:Act} {w:World} {m:Nat→Value} (h:bH w0 T0 H s a w m):bH w0 T0 H s a w.drew m:=by
 have hle:eG (aB T0 w0.heap.size m s w) (aB T0 w0.heap.size m s w.drew):=
  kG (Nat.le_refl _) (fun _ _=>rfl) (fun _ _ _=>rfl) fun i it b hi hb _=>⟨i,it,hi,hb⟩
 exact h.zI rfl rfl hle h.below.drew (fun i it hi=>⟨(h.rows i it hi).1,(h.rows i it hi).2.mono hle fun _ _=>rfl⟩) h.sep
theorem aN.intro {id:Nat} {ops:Array Oper} {s:S} {Q:S→Prop} (t:Ar) (hm:P.follows .mixedOrders=true) (hs:Region.noSelect ops=true) (ht:iJ ops t ops.size (Array.replicate ops.size false) none=true)
  (h:kU P w0 T0 ops t s Q):@aN P w0 T0 b0 id ops s ⟨Q⟩:=by
 intro H a w _ hr
 refine wp_region_any hm ?_
 have hr':Rep w0 T0 H s a { w with drawn:=w.drawn+1 }:=by
  obtain ⟨m,hm⟩:=hr
  exact ⟨m,hm.drawn⟩
 exact Kq hs t _ _ none ht s a _ h hr'
theorem aN.cut {id:Nat} {ops:Array Oper} {s:S} {Q:S→Prop} (t:Ar) (hm:P.follows .mixedOrders=true) (hs:Region.noSelect ops=true) (ht:iJ ops t ops.size (Array.replicate ops.size false) none=true) (shape:S)
  (h:kU P w0 T0 ops t s (fun s'=>aK w0 T0 b0 s' shape)) (hk:Q shape):@aN P w0 T0 b0 id ops s ⟨Q⟩:=by
 intro H a w hH hr
 refine wp_mono (aN.intro (b0:=b0) (id:=id) t hm hs ht h H a w hH hr) ?_
 rintro e a' w' ⟨he,s',hq,hr'⟩
 exact ⟨he,shape,hk,hq H a' w' hH hr'⟩
end
end Go.Fv
/-
 States that say less; contracts of functions; calls.
-/
namespace Go.Fv
open Go.RowKit
mutual
theorem yL (p:Nat→Nat):∀ x:AV,dV x=true→ren p x=x
 | .own i,h=>by simp [dV] at h
 | .ptr i o,h=>by simp [dV] at h
 | .elt i a b c,h=>by simp [dV] at h
 | .pre i k,h=>by simp [dV] at h
 | .agg cs,h=>by simp only [ren];rw [lu p cs (by simpa [dV] using h)]
 | .tup cs,h=>by simp only [ren];rw [lu p cs (by simpa [dV] using h)]
 | .fn f cs,h=>by simp only [ren];rw [lu p cs (by simpa [dV] using h)]
 | .cell cs,_=>rfl
 | .dead,_=>rfl
 | .nilS,_=>rfl
 | .bool _,_=>rfl
 | .int _ _,_=>rfl
 | .str _,_=>rfl
 | .ro _,_=>rfl
 | .raw _,_=>rfl
 | .mp _ _,_=>rfl
 | .opt b v,h=>by simp only [ren];rw [yL p v (by simpa [dV] using h)]
theorem lu (p:Nat→Nat):∀ x:List AV,dh x=true→iV p x=x
 | [],_=>rfl
 | x::l,h=>by
  simp only [dh,Bool.and_eq_true] at h
  simp only [iV];rw [yL p x h.1,lu p l h.2]
end
def Item.ren (p:Nat→Nat):Item→Item
 | .row e r=>.row e (yR p r)
 | .box e cs=>.box e (iV p cs)
 | .map ks vs=>.map (iV p ks) (iV p vs)
 | .iter mp since seen=>.iter (p mp) since seen
 | .siter t pos=>.siter t pos
def Item.below (n:Nat):Item→Bool
 | .row _ r=>qW n r
 | .box _ cs=>aX n cs
 | .map ks vs=>aX n ks && aX n vs
 | .iter mp _ _=>decide (mp<n)
 | .siter _ _=>true
class o9 (r:aO):Prop where
 ok:iM r=true
instance {l:List Bool}:o9 (.bools l):=⟨rfl⟩
instance {k:IntKind} {l:List Int}:o9 (.ints k l):=⟨rfl⟩
instance {l:List (List UInt8)}:o9 (.strs l):=⟨rfl⟩
class oC (l:List (List AV)):Prop where
 ok:l.all dh=true
class Gz {α:Type} (f:α→List AV):Prop where
 ok:∀ x,dh (f x)=true
class Dc (l:List AV):Prop where
 ok:dh l=true
instance {sz:Nat} {l:List (List AV)} [h:oC l]:o9 (.objs sz l):=⟨h.ok⟩
instance:oC []:=⟨rfl⟩
instance {x:List AV} {l:List (List AV)} [h:Dc x] [h2:oC l]:oC (x::l):=⟨by simp [List.all_cons,h.ok,h2.ok]⟩
instance {l l':List (List AV)} [h:oC l] [h2:oC l']:oC (l++l'):=⟨by simp [List.all_append,h.ok,h2.ok]⟩
instance {α:Type} {f:α→List AV} {l:List α} [h:Gz f]:oC (l.map f):=⟨by simp [List.all_map,List.all_eq_true,h.ok]⟩
instance {x:List AV} {n:Nat} [h:Dc x]:oC (List.replicate n x):=⟨by simp [List.all_eq_true,List.mem_replicate,h.ok]⟩
instance {α:Type} {f:α→List AV} {x:α} [h:Gz f]:Dc (f x):=⟨h.ok x⟩
instance {l:List (List AV)} {n:Nat} [h:oC l]:oC (l.take n):=⟨by have:=h.ok;simp only [List.all_eq_true] at *;exact fun x hx=>this x (List.mem_of_mem_take hx)⟩
instance {l:List (List AV)} {n:Nat} [h:oC l]:oC (l.drop n):=⟨by have:=h.ok;simp only [List.all_eq_true] at *;exact fun x hx=>this x (List.mem_of_mem_drop hx)⟩
theorem LP:∀ (l:List (List AV)) (n:Nat) (x:List AV),l.all dh=true→dh x=true→(l.set n x).all dh=true
 | [],_,_,_,_=>rfl
 | y::l,0,x,h,hx=>by simp only [List.all_cons,Bool.and_eq_true,List.set_cons_zero] at *;exact ⟨hx,h.2⟩
 | y::l,n+1,x,h,hx=>by simp only [List.all_cons,Bool.and_eq_true,List.set_cons_succ] at *;exact ⟨h.1,LP l n x h.2 hx⟩
instance {l:List (List AV)} {n:Nat} {x:List AV} [h:oC l] [h2:Dc x]:oC (l.set n x):=⟨LP _ _ _ h.ok h2.ok⟩
class wo (x:AV):Prop where
 ok:dV x=true
instance:Dc []:=⟨rfl⟩
instance {x:AV} {l:List AV} [h:wo x] [h2:Dc l]:Dc (x::l):=⟨by simp [dh,h.ok,h2.ok]⟩
instance {k:IntKind} {n:Int}:wo (.int k n):=⟨rfl⟩
instance {b:Bool}:wo (.bool b):=⟨rfl⟩
instance {s:List UInt8}:wo (.str s):=⟨rfl⟩
instance {r:aO}:wo (.ro r):=⟨rfl⟩
instance {r:List AV}:wo (.cell r):=⟨rfl⟩
instance:wo .nilS:=⟨rfl⟩
instance:wo .dead:=⟨rfl⟩
instance {v:Value}:wo (.raw v):=⟨rfl⟩
instance {ks vs:List AV}:wo (.mp ks vs):=⟨rfl⟩
theorem aI (r:aO) [h:o9 r]:iM r=true:=h.ok
theorem Vq (p:Nat→Nat):∀ (l:List (List AV)),l.all dh=true→l.map (iV p)=l:=fun l h=>by
 simp only [List.all_eq_true] at h
 conv=>rhs;rw [←List.map_id l]
 exact List.map_congr_left fun x hx=>lu p x (h x hx)
theorem Ud (p:Nat→Nat) {r:aO} (h:iM r=true):yR p r=r:=by
 cases r with
 | objs sz l=>simp only [yR];rw [Vq p l h]
 | _=>rfl
theorem CS (p:Nat→Nat) (r:aO) [h:o9 r]:yR p r=r:=Ud p h.ok
theorem jO (n:Nat) (r:aO) [h:o9 r]:qW n r=true:=MH n r h.ok
def pm (l:List (Nat × Nat)) (i:Nat):Nat:=match lk l i with|some j=>j|none=>i
def AQ (p:Nat→Nat) (s:S) (N:Nat):List (Nat × AV)→Prop
 | []=>True
 |(r,v)::l=>(s.get r=ren p v∧Fv.below N v=true)∧AQ p s N l
def kY (p:Nat→Nat) (rows:List (Nat × Item)) (N:Nat):List (Nat × Item)→Prop
 | []=>True
 |(i,it)::l=>(i<N∧lk rows (p i)=some (it.ren p)∧it.below N=true∧∀ x,x∈l→x.1=i∨p x.1≠p i)∧kY p rows N l
theorem fH {α:Type}:∀ {l:List (Nat × α)} {i:Nat} {v:α},lk l i=some v→(i,v)∈l
 |(j,x)::l,i,v,h=>by
  simp only [lk] at h
  split at h
  ·rename_i e;subst e;cases h;exact .head _
  ·exact .tail _ (fH h)
theorem zG {p:Nat→Nat} {s:S} {N:Nat}:∀ {l:List (Nat × AV)},AQ p s N l→∀ r v,(r,v)∈l→s.get r=ren p v∧Fv.below N v=true
 |(q,y)::l,h,r,v,hm=>by
  cases List.mem_cons.1 hm with
  | inl e=>cases e;exact h.1
  | inr e=>exact zG h.2 r v e
theorem fO {p:Nat→Nat} {rows:List (Nat × Item)} {N:Nat}:∀ {l:List (Nat × Item)},kY p rows N l→∀ i it,(i,it)∈l→i<N∧lk rows (p i)=some (it.ren p)∧it.below N=true
 |(q,y)::l,h,i,it,hm=>by
  cases List.mem_cons.1 hm with
  | inl e=>cases e;exact ⟨h.1.1,h.1.2.1,h.1.2.2.1⟩
  | inr e=>exact fO h.2 i it e
theorem vO {p:Nat→Nat} {rows:List (Nat × Item)} {N:Nat}:∀ {l:List (Nat × Item)},kY p rows N l→∀ i j it jt,(i,it)∈l→(j,jt)∈l→p i=p j→i=j
 |(q,y)::l,h,i,j,it,jt,hi,hj,e=>by
  cases List.mem_cons.1 hi with
  | inl e1=>
   cases e1
   cases List.mem_cons.1 hj with
   | inl e2=>cases e2;rfl
   | inr e2=>cases h.1.2.2.2 _ e2 with
    | inl e3=>exact e3.symm
    | inr e3=>exact absurd e.symm e3
  | inr e1=>
   cases List.mem_cons.1 hj with
   | inl e2=>
    cases e2
    cases h.1.2.2.2 _ e1 with
    | inl e3=>exact e3
    | inr e3=>exact absurd e e3
   | inr e2=>exact vO h.2 i j it jt e1 e2 e
theorem bf.ren {p:Nat→Nat} {c c':Ctx} (h:mO p c c') (hw:c'.w.heap=c.w.heap) {O:Nat→Prop} {v:Value} {it:Item} (hb:it.below c'.N=true) (hi:bf c O v (it.ren p)):bf c' O v it:=by
 have hh:∀ b:Nat,c'.w.heap[b]?=c.w.heap[b]?:=fun b=>by rw [hw]
 cases it with
 | row e r=>
  obtain ⟨n,cells,hr,hn,ho,hO⟩:=hi
  have h1:(yR p r).len=r.len:=by cases r<;>simp [yR,aO.len]
  have h2:(yR p r).sz=r.sz:=by cases r<;>rfl
  rw [h1] at hn;rw [h2] at ho
  exact ⟨n,cells,bT.ren h r hb hr,hn,sG ho fun g _=>hh g,hO⟩
 | box e cs=>
  obtain ⟨g,vs,rfl,hg,hl,he⟩:=hi
  exact ⟨g,vs,rfl,hg,bW.ren h cs hb hl,by rw [hh g];exact he⟩
 | map ks vs=>
  simp only [Item.below,Bool.and_eq_true] at hb
  obtain ⟨g,es,clock,rfl,hg,h1,h2,h3,h4,he⟩:=hi
  exact ⟨g,es,clock,rfl,hg,dZ.ren h ks hb.1 h1,dZ.ren h vs hb.2 h2,h3,h4,by rw [hh g];exact he⟩
 | iter mp since seen=>
  obtain ⟨g,q,sn,last,rfl,hg,h1,h2,h3,h4,he⟩:=hi
  have hlt:mp<c'.N:=by simpa [Item.below] using hb
  exact ⟨g,q,sn,last,rfl,hg,hlt,by rw [h.m mp hlt];exact h2,h3,h4,by rw [hh g];exact he⟩
 | siter t pos=>
  obtain ⟨g,rfl,hg,he⟩:=hi
  exact ⟨g,rfl,hg,by rw [hh g];exact he⟩
mutual
theorem lN {p:Nat→Nat} {b0:Nat} (hp:∀ i,i<b0→p i=i):∀ x:AV,Fv.below b0 x=true→ren p x=x
 | .own i,h=>by simp only [ren];rw [hp i (by simpa [Fv.below] using h)]
 | .ptr i o,h=>by simp only [ren];rw [hp i (by simpa [Fv.below] using h)]
 | .elt i a b c,h=>by simp only [ren];rw [hp i (by simpa [Fv.below] using h)]
 | .pre i k,h=>by simp only [ren];rw [hp i (by simpa [Fv.below] using h)]
 | .agg cs,h=>by simp only [ren];rw [mg hp cs (by simpa [Fv.below] using h)]
 | .tup cs,h=>by simp only [ren];rw [mg hp cs (by simpa [Fv.below] using h)]
 | .fn f cs,h=>by simp only [ren];rw [mg hp cs (by simpa [Fv.below] using h)]
 | .cell cs,_=>rfl
 | .dead,_=>rfl
 | .nilS,_=>rfl
 | .bool _,_=>rfl
 | .int _ _,_=>rfl
 | .str _,_=>rfl
 | .ro _,_=>rfl
 | .raw _,_=>rfl
 | .opt b v,h=>by simp only [ren];rw [lN hp v (by simpa [Fv.below] using h)]
 | .mp _ _,_=>rfl
theorem mg {p:Nat→Nat} {b0:Nat} (hp:∀ i,i<b0→p i=i):∀ x:List AV,aX b0 x=true→iV p x=x
 | [],_=>rfl
 | x::l,h=>by
  simp only [aX,Bool.and_eq_true] at h
  simp only [iV];rw [lN hp x h.1,mg hp l h.2]
end
theorem WG {p:Nat→Nat} {b0:Nat} (hp:∀ i,i<b0→p i=i) (r:aO) (h:qW b0 r=true):yR p r=r:=by
 cases r with
 | objs sz l=>
  simp only [qW,List.all_eq_true] at h
  simp only [yR]
  congr 1
  conv=>rhs;rw [←List.map_id l]
  exact List.map_congr_left fun x hx=>mg hp x (h x hx)
 | _=>rfl
theorem Item.lN {p:Nat→Nat} {b0:Nat} (hp:∀ i,i<b0→p i=i) (it:Item) (h:it.below b0=true):it.ren p=it:=by
 cases it with
 | row e r=>simp only [Item.ren];rw [WG hp r h]
 | box e cs=>simp only [Item.ren];rw [mg hp cs h]
 | map ks vs=>
  simp only [Item.below,Bool.and_eq_true] at h
  simp only [Item.ren];rw [mg hp ks h.1,mg hp vs h.2]
 | iter mp since seen=>simp only [Item.ren];rw [hp mp (by simpa [Item.below] using h)]
 | siter t pos=>rfl
theorem bf.ids {c:Ctx} {O:Nat→Prop} {v:Value} {it:Item} (h:bf c O v it):it.below c.N=true:=by
 cases it with
 | row e r=>obtain ⟨n,cells,hr,_⟩:=h;exact hr.ids
 | box e cs=>obtain ⟨g,vs,_,_,hl,_⟩:=h;exact hl.ids
 | map ks vs=>obtain ⟨g,es,clock,_,_,h1,h2,_⟩:=h;simp [Item.below,h1.ids,h2.ids]
 | iter mp since seen=>obtain ⟨g,q,sn,last,_,_,h1,_⟩:=h;simpa [Item.below] using h1
 | siter t pos=>rfl
theorem Rv.cut {w:World} {A:Nat→Prop} {m:Nat→Value} {No N:Nat} {x:AV} {u:Value} (hx:Rv ⟨w,A,m,No⟩ x u) (hb:Fv.below N x=true):Rv ⟨w,A,m,N⟩ x u:=by
 refine Rv.ren (p:=id) (c:=⟨w,A,m,No⟩) (c':=⟨w,A,m,N⟩) ⟨fun _ _=>rfl,fun b hb _=>⟨hb,rfl⟩⟩ x hb ?_
 rw [lN (p:=id) (fun _ _=>rfl) x hx.ids];exact hx
theorem bf.cut {w:World} {A:Nat→Prop} {m:Nat→Value} {No N:Nat} {O:Nat→Prop} {v:Value} {it:Item} (hx:bf ⟨w,A,m,No⟩ O v it) (hb:it.below N=true):bf ⟨w,A,m,N⟩ O v it:=by
 refine bf.ren (p:=id) (c:=⟨w,A,m,No⟩) (c':=⟨w,A,m,N⟩) ⟨fun _ _=>rfl,fun b hb _=>⟨hb,rfl⟩⟩ rfl hb ?_
 rw [Item.lN (p:=id) (fun _ _=>rfl) it hx.ids];exact hx
section
variable {P:Program} {w0:World} {T0:Bs} {b0:Nat}
theorem aK.of (l:List (Nat × Nat)) {s s':S} (hn:s'.n=s.n) (hb:b0≤s'.next) (hl:∀ x,x∈l→b0≤x.1) (he:AQ (pm l) s s'.next s'.env) (hr:kY (pm l) s.rows s'.next s'.rows):aK w0 T0 b0 s s':=by
 rintro H a w hH ⟨m,hm⟩
 have hlow:∀ i,i<b0→pm l i=i:=by
  intro i hi
  unfold pm
  cases h:lk l i with
  | none=>rfl
  | some j=>have:=hl _ (fH h);simp at this;omega
 have hren:mO (pm l) (aB T0 w0.heap.size m s w) (aB T0 w0.heap.size (fun i=>m (pm l i)) s' w):=
  {m:=fun _ _=>rfl,
   t:=by
    intro b ⟨h1,h2⟩ _
    refine ⟨⟨h1,fun i it hi e=>?_⟩,rfl⟩
    obtain ⟨_,h3,_⟩:=fO hr i it (fH hi)
    exact h2 _ _ h3 e }
 refine ⟨fun i=>m (pm l i),{ size:=by rw [hn];exact hm.size,nodef:=hm.nodef,below:=hm.below,env:=?_,held:=?_,rows:=?_,sep:=?_ }⟩
 ·intro r v hv
  obtain ⟨h1,h2⟩:=zG he r v (fH hv)
  refine Rv.ren hren v h2 ?_
  have:Rv (aB T0 w0.heap.size m s w) (s.get r) (a.tmps.getD r undef):=by
   simp only [S.get]
   cases hq:lk s.env r with
   | none=>exact .dead _
   | some y=>exact hm.env r y hq
  rw [←h1];exact this
 ·intro q hq
  have h1:=hH q hq
  refine Rv.ren hren q.1 (below_le hb _ h1) ?_
  rw [lN hlow _ h1];exact hm.held q hq
 ·intro i it hi
  obtain ⟨h1,h2,h3⟩:=fO hr i it (fH hi)
  exact ⟨h1,bf.ren hren rfl h3 (hm.rows _ _ h2).2⟩
 ·intro i j it jt b hi hj hbi hbj
  obtain ⟨_,h2,_⟩:=fO hr i it (fH hi)
  obtain ⟨_,h2',_⟩:=fO hr j jt (fH hj)
  exact vO hr i j it jt (fH hi) (fH hj) (hm.sep _ _ _ _ b h2 h2' hbi hbj)
theorem aK.refl (s:S):aK w0 T0 b0 s s:=fun _ _ _ _ h=>h
theorem aK.trans {s s' s'':S} (h:aK w0 T0 b0 s s') (h':aK w0 T0 b0 s' s''):aK w0 T0 b0 s s'':=fun H a w hH hr=>h' H a w hH (h H a w hH hr)
/-! ### What a function hands back -/
def sU (T:Nat→Prop) (B:Nat) (w:World) (out:AV) (rows:List (Nat × Item)) (v:Value):Prop:=
 ∃ (m:Nat→Value) (N:Nat),Rv ⟨w,allow (bs T) B m rows,m,N⟩ out v ∧
  (∀ i it,lk rows i=some it→i<N∧bf ⟨w,allow (bs T) B m rows,m,N⟩ (B≤·) (m i) it) ∧
  (∀ i j it jt b,lk rows i=some it→lk rows j=some jt→blk (m i)=some b→blk (m j)=some b→i=j)
def YT (T0:Bs) (B:Nat) (w:World) (out:AV) (rows:List (Nat × Item)) (v:Value):Prop:=
 ∃ (m:Nat→Value) (N:Nat),Rv ⟨w,allow T0 B m rows,m,N⟩ out v ∧
  (∀ i it,lk rows i=some it→i<N∧bf ⟨w,allow T0 B m rows,m,N⟩ (ownB T0 B) (m i) it) ∧
  (∀ i j it jt b,lk rows i=some it→lk rows j=some jt→blk (m i)=some b→blk (m j)=some b→i=j)
theorem bf.own {c:Ctx} {O O':Nat→Prop} (h:∀ b,O b→O' b) {v:Value} {it:Item} (hi:bf c O v it):bf c O' v it:=by
 cases it with
 | row e r=>obtain ⟨n,cells,hr,hn,ho,hO⟩:=hi;exact ⟨n,cells,hr,hn,ho,fun b hb=>h b (hO b hb)⟩
 | box e cs=>obtain ⟨g,vs,rfl,hg,hl,he⟩:=hi;exact ⟨g,vs,rfl,h g hg,hl,he⟩
 | map ks vs=>obtain ⟨g,es,clock,rfl,hg,r⟩:=hi;exact ⟨g,es,clock,rfl,h g hg,r⟩
 | iter mp since seen=>obtain ⟨g,q,sn,last,rfl,hg,r⟩:=hi;exact ⟨g,q,sn,last,rfl,h g hg,r⟩
 | siter t pos=>obtain ⟨g,rfl,hg,r⟩:=hi;exact ⟨g,rfl,h g hg,r⟩
theorem bf.Y1 {c:Ctx} {O O':Nat→Prop} {v:Value} {it:Item} (hi:bf c O v it) (h:∀ b,Fv.blk v=some b→O' b):bf c O' v it:=by
 cases it with
 | row e r=>obtain ⟨n,cells,hr,hn,ho,hO⟩:=hi;exact ⟨n,cells,hr,hn,ho,h⟩
 | box e cs=>obtain ⟨g,vs,rfl,hg,hl,he⟩:=hi;exact ⟨g,vs,rfl,h g rfl,hl,he⟩
 | map ks vs=>obtain ⟨g,es,clock,rfl,hg,r⟩:=hi;exact ⟨g,es,clock,rfl,h g rfl,r⟩
 | iter mp since seen=>obtain ⟨g,q,sn,last,rfl,hg,r⟩:=hi;exact ⟨g,q,sn,last,rfl,h g rfl,r⟩
 | siter t pos=>obtain ⟨g,rfl,hg,r⟩:=hi;exact ⟨g,rfl,h g rfl,r⟩
theorem Rz {α:Type}:∀ {l:List (Nat × α)} {q:Nat × α},q∈l→∃ v,lk l q.1=some v
 |(j,x)::l,q,h=>by
  by_cases e:j=q.1
  ·exact ⟨x,by simp [lk,e]⟩
  ·cases List.mem_cons.1 h with
   | inl h=>subst h;exact absurd rfl e
   | inr h=>obtain ⟨v,hv⟩:=Rz h;exact ⟨v,by simp [lk,e,hv]⟩
theorem YT.out {T:Nat→Prop} {B:Nat} {w:World} {out:AV} {rows:List (Nat × Item)} {v:Value} (h:YT (bs T) B w out rows v):sU T B w out rows v:=by
 obtain ⟨m,N,h1,h2,h3⟩:=h
 exact ⟨m,N,h1,fun i it hi=>⟨(h2 i it hi).1,((h2 i it hi).2).own fun b hb=>hb.resolve_right fun x=>x.1⟩,h3⟩
def aA (P:Program) (f:Nat) (args:List AV) (out:AV) (rows:List (Nat × Item)):Prop:=
 Enter P f∧∀ (w:World) (T:Nat→Prop) (vals:List Value),vX P w→dZ ⟨w,T,fun _=>undef,0⟩ args vals →
  Calls P f vals.toArray w fun e w'=>∃ v,e=.returned v∧mM w.heap.size w w'∧sU T w.heap.size w' out rows v
def au:Nat→List AV→List (Nat × AV)
 | _,[]=>[]
 | k,x::l=>(k,x)::au (k+1) l
def WH (P:Program) (s:S) (K:AV→Prop):ResultVar→Prop
 | .tmp t=>K (s.ev (.tmp t))
 | .cell t ty=>match s.get t with
  | .ptr i off=>match lk s.rows i with
   | some (.box _ cs)=>jc P ty (cs.drop off) K
   | _=>False
  | _=>False
def Aa (P:Program) (s:S):List ResultVar→(List AV→Prop)→Prop
 | [],K=>K []
 | x::l,K=>WH P s (fun v=>Aa P s l (fun vs=>K (v::vs))) x
def ni:List AV→AV
 | [x]=>x
 | l=>.tup l
def aT (P:Program) (w0:World) (T0:Bs) (res:List ResultVar) (out:AV) (rows:List (Nat × Item)) (s:S):Prop:=
 ∀ (a:Act) (w:World),Rep w0 T0 [] s a w→∃ v,(∀ (fn:Func),fn.results=res.toArray→(results fn a.tmps).run P w=.ok v w)∧YT T0 w0.heap.size w out rows v
def Post (P:Program) (w0:World) (T0:Bs) (res:List ResultVar) (out:AV) (rows:List (Nat × Item)):Exit→S→Prop
 | .normal,s=>aT P w0 T0 res out rows s
 | .ret,s=>aT P w0 T0 res out rows s
 | _,_=>False
@[congr] theorem ZO {P:Program} {res:List ResultVar} {out:AV} {rows:List (Nat × Item)} {s s':S} (h:s=s'):aT P w0 T0 res out rows s=aT P w0 T0 res out rows s':=by rw [h]
def Ue (tmps:Array Value):ResultVar→Sem Value
 | .tmp t=>pure (tmps.getD t undef)
 | .cell a t=>do loadVar t (←asAddr (tmps.getD a undef))
theorem uF {P:Program} {H:List (AV × Value)} {s:S} {a:Act} {w:World} {m:Nat→Value} (hm:bH w0 T0 H s a w m):∀ {res:List ResultVar} {K:List AV→Prop},Aa P s res K →
  ∃ l vs,K l∧(res.mapM (Ue a.tmps)).run P w=.ok vs w∧dZ (aB T0 w0.heap.size m s w) l vs
 | [],K,h=>⟨[],[],h,rfl,.nil⟩
 | x::res,K,h=>by
  have key:∃ v u,Aa P s res (fun vs=>K (v::vs))∧(Ue a.tmps x).run P w=.ok u w∧Rv (aB T0 w0.heap.size m s w) v u:=by
   unfold Aa at h
   cases x with
   | tmp t=>exact ⟨_,_,h,rfl,hm.ev (.tmp t) trivial⟩
   | cell t ty=>
    simp only [WH] at h
    split at h
    ·rename_i i off hg
     have hl:lk s.env t=some (.ptr i off):=by
      simp only [S.get] at hg
      cases hl:lk s.env t with
      | none=>rw [hl] at hg;cases hg
      | some y=>rw [hl] at hg;exact congrArg some hg
     have hp:=hm.env t _ hl
     split at h
     ·rename_i e cs hi
      generalize hvt:a.tmps.getD t undef=vt at hp
      cases hp with
      | ptr _ _ g _ hg=>
       obtain ⟨g',vs,hv,_,hl,hh⟩:=(hm.rows i _ hi).2
       have hmi:blk (m i)=some g:=hg
       rw [hv] at hmi;cases hmi
       obtain ⟨r,v,hk,hr,hrv⟩:=qh (c:=aB T0 w0.heap.size m s w) (a:=⟨g',off,none⟩) h (hl.drop off) fun j u hu=>by
        rw [Addr.add_lit]
        rw [List.getElem?_drop] at hu
        have:=cell_of_row w g' (off+j) vs.toArray e (0,0) hh
        show w.cell? _=_
        rw [this];simpa using hu
       refine ⟨r,v,hk,?_,hrv⟩
       have hr':(loadVar ty ⟨g',off,none⟩).run P w=.ok v w:=hr
       simp [Ue,hvt,asAddr,hr']
     ·exact h.elim
    ·exact h.elim
  obtain ⟨v,u,hk,hr,hv⟩:=key
  obtain ⟨l,vs,hk',hr',hvs⟩:=uF hm hk
  refine ⟨v::l,u::vs,hk',?_,.cons _ _ _ _ hv hvs⟩
  rw [List.mapM_cons]
  simp [Sem.run_bind,hr,hr',Result.andThen]
def Qg:List Value→Value
 | [v]=>v
 | l=>.tuple l.toArray
theorem PZ (fn:Func) (tmps:Array Value):results fn tmps=(fn.results.mapM (Ue tmps) >>= fun vs=>pure (if h:vs.size=1 then vs[0] else .tuple vs)):=by
 unfold results
 congr 1
theorem nP {P:Program} {fn:Func} {res:List ResultVar} (h:fn.results=res.toArray) (tmps:Array Value) {w:World} {vs:List Value} (hr:(res.mapM (Ue tmps)).run P w=.ok vs w) :
  (results fn tmps).run P w=.ok (Qg vs) w:=by
 rw [PZ,h]
 have e2:=List.mapM_toArray (f:=Ue tmps) (l:=res)
 rw [e2]
 simp only [Sem.run_bind,Sem.run_map,hr,Result.andThen]
 match vs with
 | []=>rfl
 | [v]=>rfl
 | v::v'::l=>simp [Qg]
theorem aT.of {P:Program} (l:List (Nat × Nat)) (N:Nat) {res:List ResultVar} {out:AV} {rows:List (Nat × Item)} {s:S} (h:Aa P s res (fun vs=>ni vs=ren (pm l) out)) (hb:Fv.below N out=true) (hr:kY (pm l) s.rows N rows):aT P w0 T0 res out rows s:=by
 rintro a w ⟨m,hm⟩
 obtain ⟨vs,us,he,hrun,hvs⟩:=uF hm h
 have hrv:Rv (aB T0 w0.heap.size m s w) (ni vs) (Qg us):=by
  cases hvs with
  | nil=>exact .tup _ _ .nil
  | cons x v l us hx ht=>
   cases ht with
   | nil=>exact hx
   | cons x' v' l' us' hx' ht'=>exact .tup _ _ (.cons _ _ _ _ hx (.cons _ _ _ _ hx' ht'))
 have hren:mO (pm l) (aB T0 w0.heap.size m s w) ⟨w,allow T0 w0.heap.size (fun i=>m (pm l i)) rows,fun i=>m (pm l i),N⟩:=
  {m:=fun _ _=>rfl,
   t:=by
    intro b ⟨h1,h2⟩ _
    refine ⟨⟨h1,fun i it hi e=>?_⟩,rfl⟩
    obtain ⟨_,h3,_⟩:=fO hr i it (fH hi)
    exact h2 _ _ h3 e }
 refine ⟨_,fun fn hf=>nP hf a.tmps hrun,fun i=>m (pm l i),N,Rv.ren hren out hb (by rw [←he];exact hrv),fun i it hi=>?_,fun i j it jt b hi hj hbi hbj=>?_⟩
 ·obtain ⟨h1,h2,h3⟩:=fO hr i it (fH hi)
  exact ⟨h1,bf.ren hren rfl h3 (hm.rows _ _ h2).2⟩
 ·obtain ⟨_,h2,_⟩:=fO hr i it (fH hi)
  obtain ⟨_,h2',_⟩:=fO hr j jt (fH hj)
  exact vO hr i j it jt (fH hi) (fH hj) (hm.sep _ _ _ _ b h2 h2' hbi hbj)
theorem uP {c:Ctx}:∀ {args:List AV} {vals:List Value} (k:Nat) (pre:List Value),pre.length=k→dZ c args vals→∀ r v,lk (au k args) r=some v→∃ u,(pre++vals)[r]?=some u∧Rv c v u
 | _,_,k,pre,hk,.nil,r,v,h=>by simp [au,lk] at h
 | _,_,k,pre,hk,.cons x u l vs hx ht,r,v,h=>by
  simp only [au,lk] at h
  split at h
  ·rename_i e;subst e;cases h
   exact ⟨u,by rw [List.getElem?_append_right (by omega)];simp [hk],hx⟩
  ·obtain ⟨u',h1,h2⟩:=uP (k+1) (pre++[u]) (by simp [hk]) ht r v h
   exact ⟨u',by simpa using h1,h2⟩
theorem aA.of_run {f:Nat} {fn:Func} {c:Code} {args:List AV} {out:AV} {rows:List (Nat × Item)} (hf:P.funcs[f]?=some fn) (hb:fn.body=some c)
  (hnm:(fn.name == "runtime.NumGoroutine")=false) (hn:args.length≤fn.ntmps) (res:List ResultVar) (hres:fn.results=res.toArray)
  (h:∀ (w0:World) (T0:Bs) [uM P w0 T0],jY P w0 T0 0 c ⟨fn.ntmps,au 0 args,[],0⟩ (Post P w0 T0 res out rows)):aA P f args out rows:=by
 refine ⟨⟨fn,hf,by rw [hb];rfl,hnm⟩,fun w T vals hgl hv=>?_⟩
 haveI:uM P w (bs T):=⟨hgl,fun _ _ _ h=>h.1⟩
 refine calls_of_wp hf hb ?_
 have hlen:=hv.length
 have hle:eG (⟨w,T,fun _=>undef,0⟩:Ctx) (aB (bs T) w.heap.size (fun _=>undef) ⟨fn.ntmps,au 0 args,[],0⟩ w):=
  ⟨Nat.le_refl _,fun _ _=>rfl,fun b hb _=>⟨⟨.inr hb,fun i it hi=>by simp [lk] at hi⟩,rfl⟩⟩
 have hrep:bH w (bs T) [] ⟨fn.ntmps,au 0 args,[],0⟩ { tmps:=vals.toArray++Array.replicate (fn.ntmps - vals.toArray.size) undef,defers:=[] } w (fun _=>undef):=
  {size:=by simp;omega,nodef:=rfl,below:=bM.refl _ _,
   env:=by
    intro r v hr
    obtain ⟨u,h1,h2⟩:=uP 0 [] rfl hv r v hr
    have e:((vals.toArray++Array.replicate (fn.ntmps - vals.toArray.size) undef).getD r undef)=u:=by
     have h1':vals[r]?=some u:=by simpa using h1
     have hlt:r<vals.length:=(List.getElem?_eq_some_iff.1 h1').1
     rw [Array.getD_eq_getD_getElem?,Array.getElem?_append_left (by simpa using hlt)]
     simp [h1']
    rw [e];exact h2.mono hle,
   held:=fun p hp=>absurd hp (by simp),rows:=fun i it hi=>absurd hi (by simp [lk]),sep:=fun i j it jt b hi=>absurd hi (by simp [lk]) }
 refine wp_mono (h w (bs T) [] _ w (fun p hp=>absurd hp (by simp)) ⟨_,hrep⟩) ?_
 rintro e a w' ⟨s',hq,hr⟩
 have fin:aT P w (bs T) res out rows s'→a.defers=[]∧∃ v,(results fn a.tmps).run P w'=.ok v w'∧∃ v',Ending.returned v=.returned v'∧mM w.heap.size w w'∧sU T w.heap.size w' out rows v':=by
  intro hret
  obtain ⟨v,hv,hout⟩:=hret a w' hr
  obtain ⟨m,hm⟩:=hr
  exact ⟨hm.nodef,v,hv fn hres,v,rfl,(hm.below.mono fun b hb=>hb.1).below,hout.out⟩
 cases e with
 | normal=>exact fin hq
 | ret=>exact fin hq
 | _=>exact hq.elim
theorem aA.aG {f:Nat} {fn:Func} {c:Code} {args:List AV} {out:AV} {rows:List (Nat × Item)} (hf:P.funcs[f]?=some fn) (hb:fn.body=some c)
  (hnm:(fn.name == "runtime.NumGoroutine")=false) (hn:args.length≤fn.ntmps) (res:List ResultVar) (hres:fn.results=res.toArray)
  (h:∀ (w0:World) (T0:Bs) [uM P w0 T0],jK P w0 T0 0 c (Post P w0 T0 res out rows) ⟨fn.ntmps,au 0 args,[],0⟩):aA P f args out rows:=
 .of_run hf hb hnm hn res hres fun w0 T0=>.of (h w0 T0)
end
end Go.Fv
