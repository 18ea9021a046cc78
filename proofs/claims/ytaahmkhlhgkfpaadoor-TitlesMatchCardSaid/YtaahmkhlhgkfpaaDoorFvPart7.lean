/-
  A part of the proof of the claim: walks over the program's functions and the plain laws that these need. No condition of its own.
-/
import Derived.Test.YtaahmkhlhgkfpaaDoorFvPart4
import Derived.Test.YtaahmkhlhgkfpaaDoorFvPart6
import Derived.Orders
import Derived.Still
import Derived.Scope
set_option linter.unusedSectionVars false
set_option linter.unusedVariables false
set_option linter.unusedSimpArgs false
set_option linter.unnecessarySimpa false
/-
 Regions, code, loops, calls, contracts.
-/
namespace Go.Fv
open Go.RowKit
def Enter (P:Program) (f:Nat):Prop:=∃ fn,P.funcs[f]?=some fn∧fn.body.isNone=false∧(fn.name == "runtime.NumGoroutine")=false
class Le where
 q:Exit→S→Prop
class La where
 k:AV→S→Prop
class Lh where
 k:S→Prop
def ak (P:Program) (w0:World) (T0:Bs) (f:Nat) (args:List AV) (s:S) [K:La]:Prop:=
 Enter P f∧∀ (H:List (AV × Value)) (a:Act) (w:World) (m:Nat→Value) (vals:List Value),aH w0 T0 H s a w m→bg (ah T0 w0.heap.size m s w) args vals →
  Calls P f vals.toArray w fun e w'=>∃ v,e=.returned v∧∃ r s',K.k r s'∧Rep w0 T0 ((r,v)::H) s' a w'
def sF (b0:Nat) (H:List (AV × Value)):Prop:=∀ p,p∈H→below b0 p.1=true
def aT (P:Program) (w0:World) (T0:Bs) (b0:Nat) (c:Code) (s:S) [Q:Le]:Prop:=
 ∀ (H:List (AV × Value)) (a:Act) (w:World),sF b0 H→Rep w0 T0 H s a w→(Code.loop c).wp P (fun e a' w'=>∃ s',Q.q e s'∧Rep w0 T0 H s' a' w') a w
def dW (P:Program) (w0:World) (T0:Bs) (b0:Nat) (id:Nat) (ops:Array Oper) (s:S) [Q:Lh]:Prop:=
 ∀ (H:List (AV × Value)) (a:Act) (w:World),sF b0 H→Rep w0 T0 H s a w→(Code.region id ops true).wp P (fun e a' w'=>e=.normal∧∃ s',Q.k s'∧Rep w0 T0 H s' a' w') a w
@[congr] theorem Ih {P:Program} {w0:World} {T0:Bs} {f:Nat} {args args':List AV} {s s':S} {K:La} (h:args=args') (h2:s=s'):@ak P w0 T0 f args s K=@ak P w0 T0 f args' s' K:=by rw [h,h2]
@[congr] theorem Ik {P:Program} {w0:World} {T0:Bs} {b0:Nat} {c:Code} {s s':S} {Q:Le} (h:s=s'):@aT P w0 T0 b0 c s Q=@aT P w0 T0 b0 c s' Q:=by rw [h]
@[congr] theorem Ii {P:Program} {w0:World} {T0:Bs} {b0 id:Nat} {ops:Array Oper} {s s':S} {Q:Lh} (h:s=s'):@dW P w0 T0 b0 id ops s Q=@dW P w0 T0 b0 id ops s' Q:=by rw [h]
def iW (P:Program) (w0:World) (T0:Bs) (c:Call) (s:S) (K:AV→S→Prop):Prop:=
 match c.callee with
 | .builtin .append=>match c.args.toList,c.argTypes.toList with
  | [x,y],[t,t2]=>aN (aj x) (iI P t t2 x y s K)
  | _,_=>False
 | .builtin .len=>match c.args.toList,c.argTypes.toList with
  | [x],[t]=>aN (aj x) (Bj P t x s K)
  | _,_=>False
 | .builtin .unsafeSliceData=>match c.args.toList,c.argTypes.toList with
  | [x],[_]=>aN (aj x) (pU x s K)
  | _,_=>False
 | .builtin .cap=>match c.args.toList,c.argTypes.toList with
  | [x],[t]=>aN (aj x) (yZ P t x s K)
  | _,_=>False
 | .builtin .unsafeString=>match c.args.toList,c.argTypes.toList with
  | [x,n],[pt,_]=>aN (aj x∧aj n) (zq P pt x n s K)
  | _,_=>False
 | .builtin .min=>aN (∀ x,x∈c.args.toList→aj x) (Bq false (evs s c.args.toList) (fun r=>K r s))
 | .builtin .max=>aN (∀ x,x∈c.args.toList→aj x) (Bq true (evs s c.args.toList) (fun r=>K r s))
 | .value g=>match s.ev g with
  | .fn f caps=>aN (aj g∧∀ x,x∈c.args.toList→aj x) (@ak P w0 T0 f (evs s c.args.toList++caps) s ⟨K⟩)
  | _=>False
 | _=>False
def kK (P:Program) (w0:World) (T0:Bs) (o:Oper) (s:S) (K:AV→S→Prop):Prop:=
 match o.op with
 | .move x=>nV P o.type x s K
 | .assign x=>nV P o.type x s K
 | .pick c x y=>aN (aj c) (vH c x y s K)
 | .extract x i=>aN (aj x) (fP x i s K)
 | .makeFunc fn first caps=>dZ fn first caps s K
 | .box e x=>xI e x s K
 | .alloc e=>mG P e s K
 | .load t x=>match x with
  | .global g=>Dq P t g s K
  | x=>aN (aj x) (uX P t x s K)
 | .store t x v=>aN (aj x) (mO P t x v s K)
 | .nilCheck x=>aN (aj x) (vF x s K)
 | .fieldAddr t x k=>aN (aj x) (dN P t x k s K)
 | .indexAddr t x i=>aN (aj x∧aj i) (gI P t x i s K)
 | .makeSlice t l c=>aN (aj l∧aj c) (qE P t l c s K)
 | .binOp op t x y _=>aN (aj x∧aj y) (uT P op t y (s.ev x) (s.ev y) (fun r=>K r s))
 | .call c=>iW P w0 T0 c s K
 | .unOp op _ x=>aN (aj x) (Dw op x s K)
 | .convert a b x=>aN (aj x) (mJ P a b x s K)
 | .index t x i=>aN (aj x∧aj i) (pJ P t x i s K)
 | .field t x k=>aN (aj x) (pz P t x k s K)
 | .slice t x lo hi mx=>aN (aj x) (rY P t x lo hi mx s K)
 | .buildSlice t len parts=>dS P t len parts s K
 | .build t parts=>kC P t parts s K
 | .lookup t x i ok=>lQ P t x i ok s K
 | .makeMap t r=>jJ P t r s K
 | .mapUpdate t x k v=>jL P t x k v s K
 | .mapEntry t x k=>jK P t x k s K
 | .entryStore _ x st v=>fO x st v s K
 | .range t x=>mM P t x s K
 | .next x str=>zi x str s K
 | .entry x=>rX x s K
 | _=>False
section
variable {P:Program} {w0:World} {T0:Bs} {s:S} [hG:mQ P w0 T0]
theorem uU {o:Oper} {K:AV→S→Prop} {c:Call} (ho:o.op=.call c) (h:iW P w0 T0 c s K):aA P w0 T0 o s K:=by
 obtain ⟨callee,args,argTypes⟩:=c
 unfold iW at h
 cases callee with
 | builtin b=>
  cases b<;>try (exact h.elim)
  case append=>
   dsimp only at h
   split at h
   ·rename_i x y t t2 e1 e2
    obtain ⟨hx,h⟩:=h
    have e1':args=#[x,y]:=by apply Array.ext';simpa using e1
    have e2':argTypes=#[t,t2]:=by apply Array.ext';simpa using e2
    subst e1' e2'
    exact rG ho hx h
   ·exact h.elim
  case len=>
   dsimp only at h
   split at h
   ·rename_i x t e1 e2
    obtain ⟨hx,h⟩:=h
    have e1':args=#[x]:=by apply Array.ext';simpa using e1
    have e2':argTypes=#[t]:=by apply Array.ext';simpa using e2
    subst e1' e2'
    exact Bl ho hx h
   ·exact h.elim
  case unsafeSliceData=>
   dsimp only at h
   split at h
   ·rename_i x t e1 e2
    obtain ⟨hx,h⟩:=h
    have e1':args=#[x]:=by apply Array.ext';simpa using e1
    have e2':argTypes=#[t]:=by apply Array.ext';simpa using e2
    subst e1' e2'
    exact vI ho hx h
   ·exact h.elim
  case cap=>
   dsimp only at h
   split at h
   ·rename_i x t e1 e2
    obtain ⟨hx,h⟩:=h
    have e1':args=#[x]:=by apply Array.ext';simpa using e1
    have e2':argTypes=#[t]:=by apply Array.ext';simpa using e2
    subst e1' e2'
    exact y5 ho hx h
   ·exact h.elim
  case unsafeString=>
   dsimp only at h
   split at h
   ·rename_i x n pt it e1 e2
    obtain ⟨⟨hx,hn⟩,h⟩:=h
    have e1':args=#[x,n]:=by apply Array.ext';simpa using e1
    have e2':argTypes=#[pt,it]:=by apply Array.ext';simpa using e2
    subst e1' e2'
    exact zu ho hx hn h
   ·exact h.elim
  case min=>exact vk (isMax:=false) ho h.1 h.2
  case max=>exact vk (isMax:=true) ho h.1 h.2
 | invoke r mth=>exact h.elim
 | value g=>
  dsimp only at h
  intro H a w next Q ⟨m,hm⟩ hn
  cases hg:s.ev g with
  | fn f caps=>
   rw [hg] at h
   obtain ⟨⟨hog,hoa⟩,⟨fn,hf,hb,hnm⟩,h⟩:=h
   have rg:=hm.ev g hog
   rw [hg] at rg
   generalize hvg:a.eval g=vg at rg
   cases rg with
   | fn _ _ cvals hc=>
    have hargs:=(hm.evs hoa).append hc
    have hcalls:=h H a w m _ hm hargs
    have hrun:(execOp a.eval o).run P w=.ok (.enter f ((args.toList.map a.eval++cvals).toArray)) w:=by
     unfold execOp;rw [ho]
     have e:(Array.map a.eval args++cvals.toArray)=(args.toList.map a.eval++cvals).toArray:=by
      apply Array.ext';simp
     have hnm':¬fn.name = "runtime.NumGoroutine" := by simpa using hnm
     have hb':¬fn.body=none:=by intro e;simp [e] at hb
     simp [resolve,hvg,Deferred.ofValue,invoke,callFunc,hf,hb',hnm',e]
    unfold Oper.wp
    rw [hrun]
    refine Calls.mono hcalls ?_
    rintro e w' ⟨v,rfl,r,s',hk,hr⟩
    exact hn r s' v w' hk hr
  | _=>rw [hg] at h;exact h.elim
theorem iY {o:Oper} {K:AV→S→Prop} (h:kK P w0 T0 o s K):aA P w0 T0 o s K:=by
 unfold kK at h
 cases ho:o.op<;>rw [ho] at h<;>try (exact h.elim)
 case move x=>exact pR (.inl ho) h
 case assign x=>exact pR (.inr ho) h
 case pick c x y=>exact zl ho h.1 h.2
 case extract x i=>exact rH ho h.1 h.2
 case makeFunc fn first caps=>exact qF ho h
 case box e x=>exact Bh ho h
 case alloc e=>exact vV ho h
 case load t x=>
  cases x with
  | global g=>exact (y8 ho h).op
  | _=>exact y9 ho h.1 h.2
 case store t x v=>exact wF ho h.1 h.2
 case nilCheck x=>exact Bv ho h.1 h.2
 case fieldAddr t x k=>exact pG ho h.1 h.2
 case indexAddr t x i=>exact pK ho h.1.1 h.1.2 h.2
 case makeSlice t l c=>exact zh ho h.1.1 h.1.2 h.2
 case binOp op t x y t'=>exact yU ho h.1.1 h.1.2 h.2
 case call c=>exact uU ho h
 case unOp op t x=>exact Dx ho h.1 h.2
 case convert t t' x=>exact vY ho h.1 h.2
 case index t x i=>exact wz ho h.1.1 h.1.2 h.2
 case field t x k=>exact wo ho h.1 h.2
 case slice t x lo hi mx=>exact wE ho h.1 h.2
 case buildSlice t len parts=>exact nU ho h
 case build t parts=>exact vW ho h
 case lookup t x i ok=>exact uY ho h
 case makeMap t r=>exact rM ho h
 case mapUpdate t x k v=>exact vC ho h
 case mapEntry t x k=>exact vw ho h
 case entryStore t x st v=>exact qC ho h
 case range t x=>exact wC ho h
 case next x str=>exact zk ho h
 case entry x=>exact vZ ho h
end
def dH (d:Option Nat) (v:AV) (s:S) (Q:S→Prop):Prop:=
 match d with
 | none=>Q s
 | some d=>if d<s.n then Q (s.set d v) else False
def nR:Op→Prop
 | .pick c x y=>aj c∧aj x∧aj y
 | _=>False
def nX (P:Program) (w0:World) (T0:Bs) (o:Oper) (c:Bool) (s s1 s2:S) (k:S→Prop):Prop:=
 match oJ s o.op with
 | some (pre,b)=>aN (c=true→pre∧nR o.op) (dH o.dst (.opt c (.bool b)) s k)
 | none=>match II P (peel s (Cb o.op)) o.op with
  | some v=>aN (Fv.below s.next v=true) (aN (c=true→cu s (Cb o.op)=true∧kK P w0 T0 o (peel s (Cb o.op)) (fun r s'=>r=v∧s'=peel s (Cb o.op))) (dH o.dst (.opt c v) s k))
  | none=>@Ite c ⟨aN (cu s1 (Cb o.op)=true) (kK P w0 T0 o (peel s1 (Cb o.op)) (fun v s'=>dH o.dst v s' k))⟩ ⟨dH o.dst (.opt false (.bool false)) s2 k⟩
def Dt (P:Program) (w0:World) (T0:Bs) (ops:Array Oper) (o:Oper) (s:S) (k:S→Prop):Prop:=
 match o.guard with
 | none=>match oJ s o.op with
  | some (pre,b)=>aN (pre∧nR o.op) (dH o.dst (.bool b) s k)
  | none=>kK P w0 T0 o s (fun v s'=>dH o.dst v s' k)
 | some (j,want)=>match (ops[j]?).bind (·.dst) with
  | some r=>match s.get r with
   | .bool b=>nX P w0 T0 o (bif want then b else !b) s (s.set r (.bool want)) (s.set r (.bool (!want))) k
   | .opt c (.bool b)=>nX P w0 T0 o (c && bif want then b else !b) s s s k
   | _=>False
  | none=>False
def vG (P:Program) (w0:World) (T0:Bs) (ops:Array Oper):List Oper→S→(S→Prop)→Prop
 | [],s,Q=>Q s
 | o::rest,s,Q=>Dt P w0 T0 ops o s (fun s'=>vG P w0 T0 ops rest s' Q)
section
variable {P:Program} {w0:World} {T0:Bs} {H:List (AV × Value)} [hG:mQ P w0 T0]
theorem Rep.put {s:S} {a:Act} {w:World} {r:AV} {v:Value} {d:Option Nat} {Q:S→Prop} (h:Rep w0 T0 ((r,v)::H) s a w) (hq:dH d r s Q):∃ s',Q s'∧Rep w0 T0 H s' (a.put d v) w:=by
 obtain ⟨m,hm⟩:=h
 cases d with
 | none=>exact ⟨s,hq,m,hm.ku⟩
 | some d=>
  simp only [dH] at hq
  split at hq
  ·rename_i hd;exact ⟨_,hq,m,hm.ku.JJ (hm.held _ (.head _)) hd⟩
  ·exact hq.elim
theorem aH.know {s:S} {a:Act} {w:World} {m:Nat→Value} (h:aH w0 T0 H s a w m) {r:Nat} {x:AV} (hx:Rv (ah T0 w0.heap.size m s w) x (a.tmps.getD r undef)):aH w0 T0 H (s.set r x) a w m:=
 {size:=h.size,nodef:=h.nodef,below:=h.below,held:=h.held,rows:=h.rows,sep:=h.sep,
  env:=by
   intro q y hy
   have hy':(if r=q then some x else lk s.env q)=some y:=hy
   split at hy'
   ·rename_i e;subst e;cases hy';exact hx
   ·exact h.env q y hy' }
theorem kU {s:S} {a:Act} {w:World} {o:Oper} {pre:Prop} {b:Bool} (h:oJ s o.op=some (pre,b)) (hp:pre) (hok:nR o.op) (hr:Rep w0 T0 H s a w):(execOp a.eval o).run P w=.ok (.value (.bool b)) w:=by
 obtain ⟨m,hm⟩:=hr
 unfold oJ at h
 cases ho:o.op<;>rw [ho] at h hok<;>try (cases h;done)
 rename_i c x y
 obtain ⟨h1,h2,h3⟩:=hok
 dsimp only at h
 split at h
 ·rename_i bc p q ec ex ey
  cases h
  obtain ⟨k1,k2,k3⟩:=hp
  have rc:=G6 hm h1 k1
  rw [ec] at rc
  generalize hvc:a.eval c=vc at rc
  cases rc
  have hrun:(execOp a.eval o).run P w=.ok (.value (if bc then a.eval x else a.eval y)) w:=by
   unfold execOp;rw [ho];simp [hvc,asBool,Sem.run_bind,Result.andThen]
  cases bc with
  | true=>
   have rx:=G6 hm h2 (k2 rfl)
   rw [ex] at rx
   generalize hvx:a.eval x=vx at rx hrun
   cases rx
   simpa using hrun
  | false=>
   have ry:=G6 hm h3 (k3 rfl)
   rw [ey] at ry
   generalize hvy:a.eval y=vy at ry hrun
   cases ry
   simpa using hrun
 ·cases h
theorem pV {o:Oper} {c:Bool} {s s1 s2:S} {k:S→Prop} (h:nX P w0 T0 o c s s1 s2 k) {a:Act} {w:World} (hr:Rep w0 T0 H s a w) {W:Bool} (hW:W=c) (hr1:c=true→Rep w0 T0 H s1 a w) (hr2:c=false→Rep w0 T0 H s2 a w) {K:Act→World→Prop} {Qc:Exit→Act→World→Prop}
  (hk:∀ s' a' w',k s'→Rep w0 T0 H s' a' w'→K a' w'):if W=true then o.wp P a w K Qc else K (a.put o.dst undef) w:=by
 subst hW
 unfold nX at h
 have skip:W=false→∀ (v:AV) (s:S),Rep w0 T0 H s a w→(∀ c,Rv c v undef)→dH o.dst v s k→K (a.put o.dst undef) w:=by
  intro _ v s hr hv hp
  obtain ⟨m,hm⟩:=hr
  obtain ⟨s'',h2,hr2⟩:=Rep.put (v:=undef) (⟨m,hm.hold (hv _)⟩:Rep w0 T0 ((v,undef)::H) s a w) hp
  exact hk _ _ _ h2 hr2
 split at h
 ·rename_i pre b hg
  obtain ⟨hpre,hput⟩:=h
  cases W with
  | true=>
   simp only [if_true]
   obtain ⟨hp,hok⟩:=hpre rfl
   have hrun:=kU (P:=P) hg hp hok hr
   unfold Oper.wp
   rw [hrun]
   obtain ⟨m,hm⟩:=hr
   obtain ⟨s'',h2,hr2⟩:=Rep.put (v:=.bool b) (⟨m,hm.hold (.opt true (.bool b) (.bool b) rfl (fun _=>.bool b) (fun e=>by cases e))⟩:Rep w0 T0 ((.opt true (.bool b),.bool b)::H) s a w) hput
   exact hk _ _ _ h2 hr2
  | false=>
   simp only [Bool.false_eq_true,if_false]
   exact skip rfl _ s hr (fun _=>.opt false _ _ rfl (fun e=>by cases e) (fun _=>rfl)) hput
 ·split at h
  ·rename_i v hv
   obtain ⟨hb,hpre,hput⟩:=h
   cases W with
   | true=>
    simp only [if_true]
    obtain ⟨hpc,hop⟩:=hpre rfl
    obtain ⟨m,hm⟩:=hr
    refine iY hop H a w _ _ ⟨m,hm.peel hpc⟩ ?_
    rintro r s' v' w' ⟨rfl,rfl⟩ ⟨m',hm'⟩
    have hv':=hm'.held _ (.head _)
    have hm2:=hm'.ku.JQ hpc
    obtain ⟨s'',h2,hr2⟩:=Rep.put (v:=v') (⟨m',hm2.hold (.opt true r v' hb (fun _=>hv') (fun e=>by cases e))⟩:Rep w0 T0 ((.opt true r,v')::H) s a w') hput
    exact hk _ _ _ h2 hr2
   | false=>
    simp only [Bool.false_eq_true,if_false]
    obtain ⟨m,hm⟩:=hr
    obtain ⟨s'',h2,hr2⟩:=Rep.put (v:=undef) (⟨m,hm.hold (.opt false v undef hb (fun e=>by cases e) (fun _=>rfl))⟩:Rep w0 T0 ((.opt false v,undef)::H) s a w) hput
    exact hk _ _ _ h2 hr2
  ·cases W with
   | true=>
    simp only [if_true]
    obtain ⟨hpc,hop⟩:=h.1 rfl
    obtain ⟨m1,hm1⟩:=hr1 rfl
    refine iY hop H a w _ _ ⟨m1,hm1.peel hpc⟩ ?_
    intro r s' v w' hk' hr'
    obtain ⟨s'',h2,hr2⟩:=hr'.put hk'
    exact hk _ _ _ h2 hr2
   | false=>
    simp only [Bool.false_eq_true,if_false]
    exact skip rfl _ s2 (hr2 rfl) (fun _=>.opt false _ _ rfl (fun e=>by cases e) (fun _=>rfl)) (h.2 rfl)
theorem uV {ops:Array Oper} {o:Oper} {s:S} {k:S→Prop} (h:Dt P w0 T0 ops o s k) {a:Act} {w:World} (hr:Rep w0 T0 H s a w) {K:Act→World→Prop} {Qc:Exit→Act→World→Prop}
  (hk:∀ s' a' w',k s'→Rep w0 T0 H s' a' w'→K a' w'):if Region.wanted o (yielded ops a.tmps) then o.wp P a w K Qc else K (a.put o.dst undef) w:=by
 unfold Dt at h
 cases hg:o.guard with
 | none=>
  rw [hg] at h
  rw [if_pos (by simp [Region.wanted,hg])]
  dsimp only at h
  split at h
  ·rename_i pre b hgp
   obtain ⟨⟨hp,hok⟩,hput⟩:=h
   have hrun:=kU (P:=P) hgp hp hok hr
   unfold Oper.wp
   rw [hrun]
   obtain ⟨m,hm⟩:=hr
   obtain ⟨s'',h2,hr2⟩:=Rep.put (v:=.bool b) (⟨m,hm.hold (.bool b)⟩:Rep w0 T0 ((.bool b,.bool b)::H) s a w) hput
   exact hk _ _ _ h2 hr2
  ·refine iY h H a w _ _ hr ?_
   intro r s' v w' hk' hr'
   obtain ⟨s'',h2,hr2⟩:=hr'.put hk'
   exact hk _ _ _ h2 hr2
 | some jw=>
  obtain ⟨j,want⟩:=jw
  rw [hg] at h
  dsimp only at h
  cases hd:(ops[j]?).bind (·.dst) with
  | none=>rw [hd] at h;exact h.elim
  | some r=>
   rw [hd] at h
   dsimp only at h
   have hslot:∀ x,s.get r=x→x≠.dead→lk s.env r=some x:=by
    intro x hx hne
    simp only [S.get] at hx
    cases hl:lk s.env r with
    | none=>rw [hl] at hx;exact absurd hx.symm hne
    | some y=>rw [hl] at hx;exact congrArg some hx
   have hyield:∀ b,a.tmps.getD r undef=.bool b→yielded ops a.tmps j=some b:=by
    intro b hvv
    have h1:a.tmps[r]?=some (.bool b):=by
     rw [Array.getD_eq_getD_getElem?] at hvv
     cases hq:a.tmps[r]? with
     | none=>rw [hq] at hvv;simp [undef] at hvv
     | some y=>rw [hq] at hvv;simpa using hvv
    simp [yielded,hd,h1]
   have hyno:a.tmps.getD r undef=undef→yielded ops a.tmps j=none:=by
    intro hvv
    cases hq:a.tmps[r]? with
    | none=>simp [yielded,hd,hq]
    | some y=>
     rw [Array.getD_eq_getD_getElem?,hq] at hvv
     have:y=undef:=by simpa using hvv
     subst this
     simp [yielded,hd,hq,undef]
   split at h
   ·rename_i b hb
    have hl:=hslot _ hb (by simp)
    obtain ⟨m,hm⟩:=hr
    have hv:=hm.env r _ hl
    generalize hvv:a.tmps.getD r undef=vv at hv
    cases hv
    have hy:=hyield b hvv
    refine pV h ⟨m,hm⟩ ?_ ?_ ?_ hk
    ·cases want<;>cases b<;>simp [Region.wanted,hg,hy]
    ·intro hc
     refine ⟨m,hm.know ?_⟩
     rw [hvv]
     have:b=want:=by cases want<;>cases b<;>simp at hc<;>rfl
     rw [this];exact .bool want
    ·intro hc
     refine ⟨m,hm.know ?_⟩
     rw [hvv]
     have:b=!want:=by cases want<;>cases b<;>simp at hc<;>rfl
     rw [this];exact .bool _
   ·rename_i c b hb
    have hl:=hslot _ hb (by simp)
    have hr':=hr
    obtain ⟨m,hm⟩:=hr'
    have hv:=hm.env r _ hl
    refine pV h hr ?_ (fun _=>hr) (fun _=>hr) hk
    cases hv with
    | opt _ _ _ _ h1 h2=>
     cases c with
     | true=>
      have h1':=h1 rfl
      generalize hvv:a.tmps.getD r undef=vv at h1'
      cases h1'
      have hy:=hyield b hvv
      cases want<;>cases b<;>simp [Region.wanted,hg,hy]
     | false=>
      have hy:=hyno (h2 rfl)
      cases want<;>simp [Region.wanted,hg,hy]
   ·exact h.elim
theorem rD {ops:Array Oper} {Qc:Exit→Act→World→Prop}:∀ (l:List Oper) (s:S) (Q:S→Prop),vG P w0 T0 ops l s Q→∀ (a:Act) (w:World),Rep w0 T0 H s a w →
  (∀ s' a' w',Q s'→Rep w0 T0 H s' a' w'→Qc .normal a' w')→wpList P ops Qc l a w
 | [],s,Q,h,a,w,hr,hq=>wpList_nil (hq s a w h hr)
 | o::rest,s,Q,h,a,w,hr,hq=>by
  unfold vG at h
  refine wpList_step fun K hK=>?_
  exact uV h hr fun s' a' w' hk hr'=>hK _ _ (rD rest s' Q hk a' w' hr' hq)
end
/-! ### Regions whose order is drawn -/
inductive qI where
 | done
 | first (i:Nat) (t:qI)
 | cons (i:Nat) (t r:qI)
 | stop
def Cc (o:Oper):Bool:=match o.guard,o.op with
 | none,.move _=>true
 | none,.assign _=>true
 | none,.fieldAddr _ _ _=>true
 | _,_=>false
def dh (ops:Array Oper):qI→Nat→Array Bool→Option (List Nat)→Bool
 | .done,_,listed,none=>(Region.ready .any ops listed).isEmpty
 | .first i t,n+1,listed,none=>((ops[i]?).map Cc).getD false && Region.free .any ops listed i && (Region.ready .any ops listed).contains i && dh ops t n (listed.setIfInBounds i true) none
 | .cons i t r,n+1,listed,none=>match Region.ready .any ops listed with
  | j::l=>i == j && dh ops t n (listed.setIfInBounds i true) none && dh ops r (n+1) listed (some l)
  | []=>false
 | .cons i t r,n+1,listed,some q=>match q with
  | j::l=>i == j && dh ops t n (listed.setIfInBounds i true) none && dh ops r (n+1) listed (some l)
  | []=>false
 | .stop,_+1,_,some q=>q.isEmpty
 | _,_,_,_=>false
def fE (P:Program) (w0:World) (T0:Bs) (ops:Array Oper):qI→S→(S→Prop)→Prop
 | .done,s,Q=>Q s
 | .first i t,s,Q=>match ops[i]? with
  | some o=>match o.op with
   | .move x=>aN (aj x) (dH o.dst (s.ev x) s (fun s'=>fE P w0 T0 ops t s' Q))
   | .assign x=>aN (aj x) (dH o.dst (s.ev x) s (fun s'=>fE P w0 T0 ops t s' Q))
   | .fieldAddr ty x k=>aN (aj x) (dN P ty x k s (fun r s1=>dH o.dst r s1 (fun s'=>fE P w0 T0 ops t s' Q)))
   | _=>False
  | none=>False
 | .cons i t r,s,Q=>match ops[i]? with
  | some o=>Dt P w0 T0 ops o s (fun s'=>fE P w0 T0 ops t s' Q)∧fE P w0 T0 ops r s Q
  | none=>False
 | .stop,_,_=>True
def thenS (next:S→Prop) (Q:Exit→S→Prop):Exit→S→Prop
 | .normal,s=>next s
 | e,s=>Q e s
def sS (id:Nat) (Q:Exit→S→Prop):Exit→S→Prop
 | .exit i,s=>if i=id then Q .normal s else Q (.exit i) s
 | e,s=>Q e s
def D5 (c:Operand) (b:Bool) (s:S):S:=
 match c with
 | .tmp t=>s.set t (.bool b)
 | _=>s
def Hr (Q:Exit→S→Prop):Exit→S→Prop
 | .goto _,_=>False
 | e,s=>Q e s
def dX (P:Program) (w0:World) (T0:Bs) (b0:Nat):Code→(Exit→S→Prop)→S→Prop
 | .skip,Q,s=>Q .normal s
 | .label _,Q,s=>Q .normal s
 | .region id ops draw,Q,s=>match draw with
  | true=>@dW P w0 T0 b0 id ops s ⟨Q .normal⟩
  | false=>vG P w0 T0 ops ops.toList s (Q .normal)
 | .seq x y,Q,s=>dX P w0 T0 b0 x (thenS (dX P w0 T0 b0 y Q) Q) s
 | .cond c x y,Q,s=>match s.ev c with
  | .bool b=>aN (aj c) (@Ite b ⟨dX P w0 T0 b0 x Q (D5 c true s)⟩ ⟨dX P w0 T0 b0 y Q (D5 c false s)⟩)
  | _=>False
 | .block id c,Q,s=>dX P w0 T0 b0 c (sS id Q) s
 | .loop c,Q,s=>@aT P w0 T0 b0 c s ⟨Q⟩
 | .exit id,Q,s=>Q (.exit id) s
 | .ret,Q,s=>Q .ret s
 | .scope c,Q,s=>dX P w0 T0 b0 c (Hr Q) s
 | _,_,_=>False
section
variable {P:Program} {w0:World} {T0:Bs} {b0:Nat} [hG:mQ P w0 T0]
theorem kD:∀ (c:Code) (Q:Exit→S→Prop) (s:S),dX P w0 T0 b0 c Q s→∀ (H:List (AV × Value)) (a:Act) (w:World),sF b0 H→Rep w0 T0 H s a w →
  c.wp P (fun e a' w'=>∃ s',Q e s'∧Rep w0 T0 H s' a' w') a w:=by
 intro c
 induction c with
 | skip=>intro Q s h H a w hH hr;exact wp_skip ⟨s,h,hr⟩
 | label l=>intro Q s h H a w hH hr;exact wp_label ⟨s,h,hr⟩
 | region id ops draw=>
  intro Q s h H a w hH hr
  cases draw with
  | true=>
   exact wp_mono (h H a w hH hr) fun e a' w' ⟨he,s',hq,hr'⟩=>by subst he;exact ⟨s',hq,hr'⟩
  | false=>
   exact wp_region_list (rD ops.toList s (Q .normal) h a w hr fun s' a' w' hq hr'=>⟨s',hq,hr'⟩)
 | seq x y ihx ihy=>
  intro Q s h H a w hH hr
  refine wp_seq (wp_mono (ihx _ s h H a w hH hr) ?_)
  rintro e a' w' ⟨s',hq,hr'⟩
  cases e with
  | normal=>exact ihy Q s' hq H a' w' hH hr'
  | _=>exact ⟨s',hq,hr'⟩
 | cond c x y ihx ihy=>
  intro Q s h H a w hH hr
  simp only [dX] at h
  obtain ⟨m,hm⟩:=hr
  cases hc:s.ev c with
  | bool b=>
   rw [hc] at h
   obtain ⟨hok,h⟩:=h
   have rc:=hm.ev c hok
   rw [hc] at rc
   generalize hv:a.eval c=vc at rc
   cases rc
   have hk:Rep w0 T0 H (D5 c b s) a w:=by
    cases c with
    | tmp t=>exact ⟨m,hm.know (by have:a.tmps.getD t undef=.bool b:=hv;rw [this];exact .bool b)⟩
    | _=>exact ⟨m,hm⟩
   cases b with
   | true=>exact wp_cond_true hv (ihx Q _ (h.1 rfl) H a w hH hk)
   | false=>exact wp_cond_false hv (ihy Q _ (h.2 rfl) H a w hH hk)
  | _=>rw [hc] at h;exact h.elim
 | block id c ih=>
  intro Q s h H a w hH hr
  refine wp_block (wp_mono (ih _ s h H a w hH hr) ?_)
  rintro e a' w' ⟨s',hq,hr'⟩
  cases e with
  | exit i=>
   simp only [sS] at hq
   simp only [Exit.inBlock]
   split at hq
   ·rename_i e;rw [if_pos e];exact ⟨s',hq,hr'⟩
   ·rename_i e;rw [if_neg e];exact ⟨s',hq,hr'⟩
  | _=>exact ⟨s',hq,hr'⟩
 | loop c ih=>intro Q s h H a w hH hr;exact h H a w hH hr
 | exit id=>intro Q s h H a w hH hr;exact wp_exit ⟨s,h,hr⟩
 | ret=>intro Q s h H a w hH hr;exact wp_ret ⟨s,h,hr⟩
 | scope c ih=>
  intro Q s h H a w hH hr
  refine wp_scope_straight (wp_mono (ih _ s h H a w hH hr) ?_)
  rintro e a' w' ⟨s',hq,hr'⟩
  cases e with
  | goto l=>exact hq.elim
  | _=>exact ⟨s',hq,hr'⟩
 | _=>intro Q s h;exact h.elim
/-! ### States that say less -/
def bQ (w0:World) (T0:Bs) (b0:Nat) (s s':S):Prop:=∀ (H:List (AV × Value)) (a:Act) (w:World),sF b0 H→Rep w0 T0 H s a w→Rep w0 T0 H s' a w
theorem aT.intro {c:Code} {s:S} {Q:Exit→S→Prop} {α:Type} (shape:α→S) (I:α→Prop) (μ:α→Nat) (x0:α) (h0:bQ w0 T0 b0 s (shape x0)) (hI:I x0)
  (body:∀ x,I x→dX P w0 T0 b0 c (thenS (fun s'=>∃ x',bQ w0 T0 b0 s' (shape x')∧I x'∧μ x'<μ x) Q) (shape x)):@aT P w0 T0 b0 c s ⟨Q⟩:=by
 intro H a w hH hr
 refine wp_loop_ghost (fun n a w=>∃ x,μ x=n∧I x∧Rep w0 T0 H (shape x) a w) (μ x0) ⟨x0,rfl,hI,h0 H a w hH hr⟩ ?_
 rintro n a w ⟨x,rfl,hx,hr⟩
 refine wp_mono (kD c _ _ (body x hx) H a w hH hr) ?_
 rintro e a' w' ⟨s',hq,hr'⟩
 cases e with
 | normal=>
  obtain ⟨x',he,hI',hlt⟩:=hq
  exact ⟨μ x',hlt,x',rfl,hI',he H a' w' hH hr'⟩
 | _=>exact ⟨s',hq,hr'⟩
def gV (P:Program) (w0:World) (T0:Bs) (b0:Nat) (c:Code) (s:S) (Q:Exit→S→Prop):Prop:=
 ∀ (H:List (AV × Value)) (a:Act) (w:World),sF b0 H→Rep w0 T0 H s a w→c.wp P (fun e a' w'=>∃ s',Q e s'∧Rep w0 T0 H s' a' w') a w
theorem gV.of {c:Code} {s:S} {Q:Exit→S→Prop} (h:dX P w0 T0 b0 c Q s):gV P w0 T0 b0 c s Q:=kD c Q s h
theorem gV.seq {x y:Code} {s:S} {Q:Exit→S→Prop} (h:dX P w0 T0 b0 x (thenS (fun s'=>gV P w0 T0 b0 y s' Q) Q) s):gV P w0 T0 b0 (.seq x y) s Q:=by
 intro H a w hH hr
 refine wp_seq (wp_mono (kD x _ s h H a w hH hr) ?_)
 rintro e a' w' ⟨s',hq,hr'⟩
 cases e with
 | normal=>exact hq H a' w' hH hr'
 | _=>exact ⟨s',hq,hr'⟩
theorem gV.cut {x y:Code} {s:S} {Q:Exit→S→Prop} {α:Type} (shape:α→S) (I:α→Prop) (h:gV P w0 T0 b0 x s (thenS (fun s'=>∃ z,bQ w0 T0 b0 s' (shape z)∧I z) Q)) (h2:∀ z,I z→gV P w0 T0 b0 y (shape z) Q):gV P w0 T0 b0 (.seq x y) s Q:=by
 intro H a w hH hr
 refine wp_seq (wp_mono (h H a w hH hr) ?_)
 rintro e a' w' ⟨s',hq,hr'⟩
 cases e with
 | normal=>obtain ⟨z,he,hz⟩:=hq;exact h2 z hz H a' w' hH (he H a' w' hH hr')
 | _=>exact ⟨s',hq,hr'⟩
theorem gV.block {x:Code} {id:Nat} {s:S} {Q:Exit→S→Prop} (h:gV P w0 T0 b0 x s (sS id Q)):gV P w0 T0 b0 (.block id x) s Q:=by
 intro H a w hH hr
 refine wp_block (wp_mono (h H a w hH hr) ?_)
 rintro e a' w' ⟨s',hq,hr'⟩
 cases e with
 | exit i=>
  simp only [sS] at hq
  simp only [Exit.inBlock]
  split at hq
  ·rename_i e;rw [if_pos e];exact ⟨s',hq,hr'⟩
  ·rename_i e;rw [if_neg e];exact ⟨s',hq,hr'⟩
 | _=>exact ⟨s',hq,hr'⟩
theorem aT.run {c:Code} {s:S} {Q:Exit→S→Prop} {α:Type} (shape:α→S) (I:α→Prop) (μ:α→Nat) (x0:α) (h0:bQ w0 T0 b0 s (shape x0)) (hI:I x0)
  (body:∀ x,I x→gV P w0 T0 b0 c (shape x) (thenS (fun s'=>∃ x',bQ w0 T0 b0 s' (shape x')∧I x'∧μ x'<μ x) Q)):@aT P w0 T0 b0 c s ⟨Q⟩:=by
 intro H a w hH hr
 refine wp_loop_ghost (fun n a w=>∃ x,μ x=n∧I x∧Rep w0 T0 H (shape x) a w) (μ x0) ⟨x0,rfl,hI,h0 H a w hH hr⟩ ?_
 rintro n a w ⟨x,rfl,hx,hr⟩
 refine wp_mono (body x hx H a w hH hr) ?_
 rintro e a' w' ⟨s',hq,hr'⟩
 cases e with
 | normal=>
  obtain ⟨x',he,hI',hlt⟩:=hq
  exact ⟨μ x',hlt,x',rfl,hI',he H a' w' hH hr'⟩
 | _=>exact ⟨s',hq,hr'⟩
end
end Go.Fv
/-
 States that say less; contracts of functions; calls.
-/
namespace Go.Fv
open Go.RowKit
mutual
theorem uD (p:Nat→Nat):∀ x:AV,bn x=true→ren p x=x
 | .own i,h=>by simp [bn] at h
 | .ptr i o,h=>by simp [bn] at h
 | .elt i a b c,h=>by simp [bn] at h
 | .pre i k,h=>by simp [bn] at h
 | .agg cs,h=>by simp only [ren];rw [fM p cs (by simpa [bn] using h)]
 | .tup cs,h=>by simp only [ren];rw [fM p cs (by simpa [bn] using h)]
 | .fn f cs,h=>by simp only [ren];rw [fM p cs (by simpa [bn] using h)]
 | .cell cs,_=>rfl
 | .dead,_=>rfl
 | .nilS,_=>rfl
 | .bool _,_=>rfl
 | .int _ _,_=>rfl
 | .str _,_=>rfl
 | .ro _,_=>rfl
 | .raw _,_=>rfl
 | .mp _ _,_=>rfl
 | .opt b v,h=>by simp only [ren];rw [uD p v (by simpa [bn] using h)]
theorem fM (p:Nat→Nat):∀ x:List AV,aU x=true→dR p x=x
 | [],_=>rfl
 | x::l,h=>by
  simp only [aU,Bool.and_eq_true] at h
  simp only [dR];rw [uD p x h.1,fM p l h.2]
end
def Item.ren (p:Nat→Nat):Item→Item
 | .row e r=>.row e (oV p r)
 | .box e cs=>.box e (dR p cs)
 | .map ks vs=>.map (dR p ks) (dR p vs)
 | .iter mp since seen=>.iter (p mp) since seen
 | .siter t pos=>.siter t pos
def Item.below (n:Nat):Item→Bool
 | .row _ r=>jO n r
 | .box _ cs=>aB n cs
 | .map ks vs=>aB n ks && aB n vs
 | .iter mp _ _=>decide (mp<n)
 | .siter _ _=>true
class jf (r:au):Prop where
 ok:dw r=true
instance {l:List Bool}:jf (.bools l):=⟨rfl⟩
instance {k:IntKind} {l:List Int}:jf (.ints k l):=⟨rfl⟩
instance {l:List (List UInt8)}:jf (.strs l):=⟨rfl⟩
class iL (l:List (List AV)):Prop where
 ok:l.all aU=true
class FC {α:Type} (f:α→List AV):Prop where
 ok:∀ x,aU (f x)=true
class sD (l:List AV):Prop where
 ok:aU l=true
instance {sz:Nat} {l:List (List AV)} [h:iL l]:jf (.objs sz l):=⟨h.ok⟩
instance:iL []:=⟨rfl⟩
instance {x:List AV} {l:List (List AV)} [h:sD x] [h2:iL l]:iL (x::l):=⟨by simp [List.all_cons,h.ok,h2.ok]⟩
instance {l l':List (List AV)} [h:iL l] [h2:iL l']:iL (l++l'):=⟨by simp [List.all_append,h.ok,h2.ok]⟩
instance {α:Type} {f:α→List AV} {l:List α} [h:FC f]:iL (l.map f):=⟨by simp [List.all_map,List.all_eq_true,h.ok]⟩
instance {x:List AV} {n:Nat} [h:sD x]:iL (List.replicate n x):=⟨by simp [List.all_eq_true,List.mem_replicate,h.ok]⟩
instance {α:Type} {f:α→List AV} {x:α} [h:FC f]:sD (f x):=⟨h.ok x⟩
instance {l:List (List AV)} {n:Nat} [h:iL l]:iL (l.take n):=⟨by have:=h.ok;simp only [List.all_eq_true] at *;exact fun x hx=>this x (List.mem_of_mem_take hx)⟩
instance {l:List (List AV)} {n:Nat} [h:iL l]:iL (l.drop n):=⟨by have:=h.ok;simp only [List.all_eq_true] at *;exact fun x hx=>this x (List.mem_of_mem_drop hx)⟩
theorem zW:∀ (l:List (List AV)) (n:Nat) (x:List AV),l.all aU=true→aU x=true→(l.set n x).all aU=true
 | [],_,_,_,_=>rfl
 | y::l,0,x,h,hx=>by simp only [List.all_cons,Bool.and_eq_true,List.set_cons_zero] at *;exact ⟨hx,h.2⟩
 | y::l,n+1,x,h,hx=>by simp only [List.all_cons,Bool.and_eq_true,List.set_cons_succ] at *;exact ⟨h.1,zW l n x h.2 hx⟩
instance {l:List (List AV)} {n:Nat} {x:List AV} [h:iL l] [h2:sD x]:iL (l.set n x):=⟨zW _ _ _ h.ok h2.ok⟩
class mW (x:AV):Prop where
 ok:bn x=true
instance:sD []:=⟨rfl⟩
instance {x:AV} {l:List AV} [h:mW x] [h2:sD l]:sD (x::l):=⟨by simp [aU,h.ok,h2.ok]⟩
instance {k:IntKind} {n:Int}:mW (.int k n):=⟨rfl⟩
instance {b:Bool}:mW (.bool b):=⟨rfl⟩
instance {s:List UInt8}:mW (.str s):=⟨rfl⟩
instance {r:au}:mW (.ro r):=⟨rfl⟩
instance {r:List AV}:mW (.cell r):=⟨rfl⟩
instance:mW .nilS:=⟨rfl⟩
instance:mW .dead:=⟨rfl⟩
instance {v:Value}:mW (.raw v):=⟨rfl⟩
instance {ks vs:List AV}:mW (.mp ks vs):=⟨rfl⟩
theorem dJ (r:au) [h:jf r]:dw r=true:=h.ok
theorem Gv (p:Nat→Nat):∀ (l:List (List AV)),l.all aU=true→l.map (dR p)=l:=fun l h=>by
 simp only [List.all_eq_true] at h
 conv=>rhs;rw [←List.map_id l]
 exact List.map_congr_left fun x hx=>fM p x (h x hx)
theorem Fb (p:Nat→Nat) {r:au} (h:dw r=true):oV p r=r:=by
 cases r with
 | objs sz l=>simp only [oV];rw [Gv p l h]
 | _=>rfl
theorem rV (p:Nat→Nat) (r:au) [h:jf r]:oV p r=r:=Fb p h.ok
theorem fH (n:Nat) (r:au) [h:jf r]:jO n r=true:=Am n r h.ok
def pm (l:List (Nat × Nat)) (i:Nat):Nat:=match lk l i with|some j=>j|none=>i
def zO (p:Nat→Nat) (s:S) (N:Nat):List (Nat × AV)→Prop
 | []=>True
 |(r,v)::l=>(s.get r=ren p v∧Fv.below N v=true)∧zO p s N l
def gG (p:Nat→Nat) (rows:List (Nat × Item)) (N:Nat):List (Nat × Item)→Prop
 | []=>True
 |(i,it)::l=>(i<N∧lk rows (p i)=some (it.ren p)∧it.below N=true∧∀ x,x∈l→x.1=i∨p x.1≠p i)∧gG p rows N l
theorem bJ {α:Type}:∀ {l:List (Nat × α)} {i:Nat} {v:α},lk l i=some v→(i,v)∈l
 |(j,x)::l,i,v,h=>by
  simp only [lk] at h
  split at h
  ·rename_i e;subst e;cases h;exact .head _
  ·exact .tail _ (bJ h)
theorem wK {p:Nat→Nat} {s:S} {N:Nat}:∀ {l:List (Nat × AV)},zO p s N l→∀ r v,(r,v)∈l→s.get r=ren p v∧Fv.below N v=true
 |(q,y)::l,h,r,v,hm=>by
  cases List.mem_cons.1 hm with
  | inl e=>cases e;exact h.1
  | inr e=>exact wK h.2 r v e
theorem bI {p:Nat→Nat} {rows:List (Nat × Item)} {N:Nat}:∀ {l:List (Nat × Item)},gG p rows N l→∀ i it,(i,it)∈l→i<N∧lk rows (p i)=some (it.ren p)∧it.below N=true
 |(q,y)::l,h,i,it,hm=>by
  cases List.mem_cons.1 hm with
  | inl e=>cases e;exact ⟨h.1.1,h.1.2.1,h.1.2.2.1⟩
  | inr e=>exact bI h.2 i it e
theorem mF {p:Nat→Nat} {rows:List (Nat × Item)} {N:Nat}:∀ {l:List (Nat × Item)},gG p rows N l→∀ i j it jt,(i,it)∈l→(j,jt)∈l→p i=p j→i=j
 |(q,y)::l,h,i,j,it,jt,hi,hj,e=>by
  cases List.mem_cons.1 hi with
  | inl e1=>
   cases e1
   cases List.mem_cons.1 hj with
   | inl e2=>cases e2;rfl
   | inr e2=>cases h.1.2.2.2 _ e2 with
    | inl e3=>exact e3.symm
    | inr e3=>exact absurd e.symm e3
  | inr e1=>
   cases List.mem_cons.1 hj with
   | inl e2=>
    cases e2
    cases h.1.2.2.2 _ e1 with
    | inl e3=>exact e3
    | inr e3=>exact absurd e e3
   | inr e2=>exact mF h.2 i j it jt e1 e2 e
theorem aG.ren {p:Nat→Nat} {c c':Ctx} (h:iK p c c') (hw:c'.w.heap=c.w.heap) {O:Nat→Prop} {v:Value} {it:Item} (hb:it.below c'.N=true) (hi:aG c O v (it.ren p)):aG c' O v it:=by
 have hh:∀ b:Nat,c'.w.heap[b]?=c.w.heap[b]?:=fun b=>by rw [hw]
 cases it with
 | row e r=>
  obtain ⟨n,cells,hr,hn,ho,hO⟩:=hi
  have h1:(oV p r).len=r.len:=by cases r<;>simp [oV,au.len]
  have h2:(oV p r).sz=r.sz:=by cases r<;>rfl
  rw [h1] at hn;rw [h2] at ho
  exact ⟨n,cells,aQ.ren h r hb hr,hn,kF ho fun g _=>hh g,hO⟩
 | box e cs=>
  obtain ⟨g,vs,rfl,hg,hl,he⟩:=hi
  exact ⟨g,vs,rfl,hg,aS.ren h cs hb hl,by rw [hh g];exact he⟩
 | map ks vs=>
  simp only [Item.below,Bool.and_eq_true] at hb
  obtain ⟨g,es,clock,rfl,hg,h1,h2,h3,h4,he⟩:=hi
  exact ⟨g,es,clock,rfl,hg,bg.ren h ks hb.1 h1,bg.ren h vs hb.2 h2,h3,h4,by rw [hh g];exact he⟩
 | iter mp since seen=>
  obtain ⟨g,q,sn,last,rfl,hg,h1,h2,h3,h4,he⟩:=hi
  have hlt:mp<c'.N:=by simpa [Item.below] using hb
  exact ⟨g,q,sn,last,rfl,hg,hlt,by rw [h.m mp hlt];exact h2,h3,h4,by rw [hh g];exact he⟩
 | siter t pos=>
  obtain ⟨g,rfl,hg,he⟩:=hi
  exact ⟨g,rfl,hg,by rw [hh g];exact he⟩
mutual
theorem jY {p:Nat→Nat} {b0:Nat} (hp:∀ i,i<b0→p i=i):∀ x:AV,Fv.below b0 x=true→ren p x=x
 | .own i,h=>by simp only [ren];rw [hp i (by simpa [Fv.below] using h)]
 | .ptr i o,h=>by simp only [ren];rw [hp i (by simpa [Fv.below] using h)]
 | .elt i a b c,h=>by simp only [ren];rw [hp i (by simpa [Fv.below] using h)]
 | .pre i k,h=>by simp only [ren];rw [hp i (by simpa [Fv.below] using h)]
 | .agg cs,h=>by simp only [ren];rw [gB hp cs (by simpa [Fv.below] using h)]
 | .tup cs,h=>by simp only [ren];rw [gB hp cs (by simpa [Fv.below] using h)]
 | .fn f cs,h=>by simp only [ren];rw [gB hp cs (by simpa [Fv.below] using h)]
 | .cell cs,_=>rfl
 | .dead,_=>rfl
 | .nilS,_=>rfl
 | .bool _,_=>rfl
 | .int _ _,_=>rfl
 | .str _,_=>rfl
 | .ro _,_=>rfl
 | .raw _,_=>rfl
 | .opt b v,h=>by simp only [ren];rw [jY hp v (by simpa [Fv.below] using h)]
 | .mp _ _,_=>rfl
theorem gB {p:Nat→Nat} {b0:Nat} (hp:∀ i,i<b0→p i=i):∀ x:List AV,aB b0 x=true→dR p x=x
 | [],_=>rfl
 | x::l,h=>by
  simp only [aB,Bool.and_eq_true] at h
  simp only [dR];rw [jY hp x h.1,gB hp l h.2]
end
theorem Hl {p:Nat→Nat} {b0:Nat} (hp:∀ i,i<b0→p i=i) (r:au) (h:jO b0 r=true):oV p r=r:=by
 cases r with
 | objs sz l=>
  simp only [jO,List.all_eq_true] at h
  simp only [oV]
  congr 1
  conv=>rhs;rw [←List.map_id l]
  exact List.map_congr_left fun x hx=>gB hp x (h x hx)
 | _=>rfl
theorem Item.jY {p:Nat→Nat} {b0:Nat} (hp:∀ i,i<b0→p i=i) (it:Item) (h:it.below b0=true):it.ren p=it:=by
 cases it with
 | row e r=>simp only [Item.ren];rw [Hl hp r h]
 | box e cs=>simp only [Item.ren];rw [gB hp cs h]
 | map ks vs=>
  simp only [Item.below,Bool.and_eq_true] at h
  simp only [Item.ren];rw [gB hp ks h.1,gB hp vs h.2]
 | iter mp since seen=>simp only [Item.ren];rw [hp mp (by simpa [Item.below] using h)]
 | siter t pos=>rfl
theorem aG.ids {c:Ctx} {O:Nat→Prop} {v:Value} {it:Item} (h:aG c O v it):it.below c.N=true:=by
 cases it with
 | row e r=>obtain ⟨n,cells,hr,_⟩:=h;exact hr.ids
 | box e cs=>obtain ⟨g,vs,_,_,hl,_⟩:=h;exact hl.ids
 | map ks vs=>obtain ⟨g,es,clock,_,_,h1,h2,_⟩:=h;simp [Item.below,h1.ids,h2.ids]
 | iter mp since seen=>obtain ⟨g,q,sn,last,_,_,h1,_⟩:=h;simpa [Item.below] using h1
 | siter t pos=>rfl
theorem Rv.cut {w:World} {A:Nat→Prop} {m:Nat→Value} {No N:Nat} {x:AV} {u:Value} (hx:Rv ⟨w,A,m,No⟩ x u) (hb:Fv.below N x=true):Rv ⟨w,A,m,N⟩ x u:=by
 refine Rv.ren (p:=id) (c:=⟨w,A,m,No⟩) (c':=⟨w,A,m,N⟩) ⟨fun _ _=>rfl,fun b hb _=>⟨hb,rfl⟩⟩ x hb ?_
 rw [jY (p:=id) (fun _ _=>rfl) x hx.ids];exact hx
theorem aG.cut {w:World} {A:Nat→Prop} {m:Nat→Value} {No N:Nat} {O:Nat→Prop} {v:Value} {it:Item} (hx:aG ⟨w,A,m,No⟩ O v it) (hb:it.below N=true):aG ⟨w,A,m,N⟩ O v it:=by
 refine aG.ren (p:=id) (c:=⟨w,A,m,No⟩) (c':=⟨w,A,m,N⟩) ⟨fun _ _=>rfl,fun b hb _=>⟨hb,rfl⟩⟩ rfl hb ?_
 rw [Item.jY (p:=id) (fun _ _=>rfl) it hx.ids];exact hx
section
variable {P:Program} {w0:World} {T0:Bs} {b0:Nat}
theorem bQ.of (l:List (Nat × Nat)) {s s':S} (hn:s'.n=s.n) (hb:b0≤s'.next) (hl:∀ x,x∈l→b0≤x.1) (he:zO (pm l) s s'.next s'.env) (hr:gG (pm l) s.rows s'.next s'.rows):bQ w0 T0 b0 s s':=by
 rintro H a w hH ⟨m,hm⟩
 have hlow:∀ i,i<b0→pm l i=i:=by
  intro i hi
  unfold pm
  cases h:lk l i with
  | none=>rfl
  | some j=>have:=hl _ (bJ h);simp at this;omega
 have hren:iK (pm l) (ah T0 w0.heap.size m s w) (ah T0 w0.heap.size (fun i=>m (pm l i)) s' w):=
  {m:=fun _ _=>rfl,
   t:=by
    intro b ⟨h1,h2⟩ _
    refine ⟨⟨h1,fun i it hi e=>?_⟩,rfl⟩
    obtain ⟨_,h3,_⟩:=bI hr i it (bJ hi)
    exact h2 _ _ h3 e }
 refine ⟨fun i=>m (pm l i),{ size:=by rw [hn];exact hm.size,nodef:=hm.nodef,below:=hm.below,env:=?_,held:=?_,rows:=?_,sep:=?_ }⟩
 ·intro r v hv
  obtain ⟨h1,h2⟩:=wK he r v (bJ hv)
  refine Rv.ren hren v h2 ?_
  have:Rv (ah T0 w0.heap.size m s w) (s.get r) (a.tmps.getD r undef):=by
   simp only [S.get]
   cases hq:lk s.env r with
   | none=>exact .dead _
   | some y=>exact hm.env r y hq
  rw [←h1];exact this
 ·intro q hq
  have h1:=hH q hq
  refine Rv.ren hren q.1 (below_le hb _ h1) ?_
  rw [jY hlow _ h1];exact hm.held q hq
 ·intro i it hi
  obtain ⟨h1,h2,h3⟩:=bI hr i it (bJ hi)
  exact ⟨h1,aG.ren hren rfl h3 (hm.rows _ _ h2).2⟩
 ·intro i j it jt b hi hj hbi hbj
  obtain ⟨_,h2,_⟩:=bI hr i it (bJ hi)
  obtain ⟨_,h2',_⟩:=bI hr j jt (bJ hj)
  exact mF hr i j it jt (bJ hi) (bJ hj) (hm.sep _ _ _ _ b h2 h2' hbi hbj)
theorem bQ.refl (s:S):bQ w0 T0 b0 s s:=fun _ _ _ _ h=>h
theorem bQ.trans {s s' s'':S} (h:bQ w0 T0 b0 s s') (h':bQ w0 T0 b0 s' s''):bQ w0 T0 b0 s s'':=fun H a w hH hr=>h' H a w hH (h H a w hH hr)
/-! ### What a function hands back -/
def kL (T:Nat→Prop) (B:Nat) (w:World) (out:AV) (rows:List (Nat × Item)) (v:Value):Prop:=
 ∃ (m:Nat→Value) (N:Nat),Rv ⟨w,allow (bs T) B m rows,m,N⟩ out v ∧
  (∀ i it,lk rows i=some it→i<N∧aG ⟨w,allow (bs T) B m rows,m,N⟩ (B≤·) (m i) it) ∧
  (∀ i j it jt b,lk rows i=some it→lk rows j=some jt→blk (m i)=some b→blk (m j)=some b→i=j)
def Jv (T0:Bs) (B:Nat) (w:World) (out:AV) (rows:List (Nat × Item)) (v:Value):Prop:=
 ∃ (m:Nat→Value) (N:Nat),Rv ⟨w,allow T0 B m rows,m,N⟩ out v ∧
  (∀ i it,lk rows i=some it→i<N∧aG ⟨w,allow T0 B m rows,m,N⟩ (ownB T0 B) (m i) it) ∧
  (∀ i j it jt b,lk rows i=some it→lk rows j=some jt→blk (m i)=some b→blk (m j)=some b→i=j)
theorem aG.own {c:Ctx} {O O':Nat→Prop} (h:∀ b,O b→O' b) {v:Value} {it:Item} (hi:aG c O v it):aG c O' v it:=by
 cases it with
 | row e r=>obtain ⟨n,cells,hr,hn,ho,hO⟩:=hi;exact ⟨n,cells,hr,hn,ho,fun b hb=>h b (hO b hb)⟩
 | box e cs=>obtain ⟨g,vs,rfl,hg,hl,he⟩:=hi;exact ⟨g,vs,rfl,h g hg,hl,he⟩
 | map ks vs=>obtain ⟨g,es,clock,rfl,hg,r⟩:=hi;exact ⟨g,es,clock,rfl,h g hg,r⟩
 | iter mp since seen=>obtain ⟨g,q,sn,last,rfl,hg,r⟩:=hi;exact ⟨g,q,sn,last,rfl,h g hg,r⟩
 | siter t pos=>obtain ⟨g,rfl,hg,r⟩:=hi;exact ⟨g,rfl,h g hg,r⟩
theorem aG.Jy {c:Ctx} {O O':Nat→Prop} {v:Value} {it:Item} (hi:aG c O v it) (h:∀ b,Fv.blk v=some b→O' b):aG c O' v it:=by
 cases it with
 | row e r=>obtain ⟨n,cells,hr,hn,ho,hO⟩:=hi;exact ⟨n,cells,hr,hn,ho,h⟩
 | box e cs=>obtain ⟨g,vs,rfl,hg,hl,he⟩:=hi;exact ⟨g,vs,rfl,h g rfl,hl,he⟩
 | map ks vs=>obtain ⟨g,es,clock,rfl,hg,r⟩:=hi;exact ⟨g,es,clock,rfl,h g rfl,r⟩
 | iter mp since seen=>obtain ⟨g,q,sn,last,rfl,hg,r⟩:=hi;exact ⟨g,q,sn,last,rfl,h g rfl,r⟩
 | siter t pos=>obtain ⟨g,rfl,hg,r⟩:=hi;exact ⟨g,rfl,h g rfl,r⟩
theorem D8 {α:Type}:∀ {l:List (Nat × α)} {q:Nat × α},q∈l→∃ v,lk l q.1=some v
 |(j,x)::l,q,h=>by
  by_cases e:j=q.1
  ·exact ⟨x,by simp [lk,e]⟩
  ·cases List.mem_cons.1 h with
   | inl h=>subst h;exact absurd rfl e
   | inr h=>obtain ⟨v,hv⟩:=D8 h;exact ⟨v,by simp [lk,e,hv]⟩
theorem Jv.out {T:Nat→Prop} {B:Nat} {w:World} {out:AV} {rows:List (Nat × Item)} {v:Value} (h:Jv (bs T) B w out rows v):kL T B w out rows v:=by
 obtain ⟨m,N,h1,h2,h3⟩:=h
 exact ⟨m,N,h1,fun i it hi=>⟨(h2 i it hi).1,((h2 i it hi).2).own fun b hb=>hb.resolve_right fun x=>x.1⟩,h3⟩
def aP (P:Program) (f:Nat) (args:List AV) (out:AV) (rows:List (Nat × Item)):Prop:=
 Enter P f∧∀ (w:World) (T:Nat→Prop) (vals:List Value),mV P w→bg ⟨w,T,fun _=>undef,0⟩ args vals →
  Calls P f vals.toArray w fun e w'=>∃ v,e=.returned v∧iJ w.heap.size w w'∧kL T w.heap.size w' out rows v
def aI:Nat→List AV→List (Nat × AV)
 | _,[]=>[]
 | k,x::l=>(k,x)::aI (k+1) l
def Ho (P:Program) (s:S) (K:AV→Prop):ResultVar→Prop
 | .tmp t=>K (s.ev (.tmp t))
 | .cell t ty=>match s.get t with
  | .ptr i off=>match lk s.rows i with
   | some (.box _ cs)=>dF P ty (cs.drop off) K
   | _=>False
  | _=>False
def qA (P:Program) (s:S):List ResultVar→(List AV→Prop)→Prop
 | [],K=>K []
 | x::l,K=>Ho P s (fun v=>qA P s l (fun vs=>K (v::vs))) x
def gZ:List AV→AV
 | [x]=>x
 | l=>.tup l
def bW (P:Program) (w0:World) (T0:Bs) (res:List ResultVar) (out:AV) (rows:List (Nat × Item)) (s:S):Prop:=
 ∀ (a:Act) (w:World),Rep w0 T0 [] s a w→∃ v,(∀ (fn:Func),fn.results=res.toArray→(results fn a.tmps).run P w=.ok v w)∧Jv T0 w0.heap.size w out rows v
def Post (P:Program) (w0:World) (T0:Bs) (res:List ResultVar) (out:AV) (rows:List (Nat × Item)):Exit→S→Prop
 | .normal,s=>bW P w0 T0 res out rows s
 | .ret,s=>bW P w0 T0 res out rows s
 | _,_=>False
@[congr] theorem JY {P:Program} {res:List ResultVar} {out:AV} {rows:List (Nat × Item)} {s s':S} (h:s=s'):bW P w0 T0 res out rows s=bW P w0 T0 res out rows s':=by rw [h]
def Fe (tmps:Array Value):ResultVar→Sem Value
 | .tmp t=>pure (tmps.getD t undef)
 | .cell a t=>do loadVar t (←asAddr (tmps.getD a undef))
theorem lH {P:Program} {H:List (AV × Value)} {s:S} {a:Act} {w:World} {m:Nat→Value} (hm:aH w0 T0 H s a w m):∀ {res:List ResultVar} {K:List AV→Prop},qA P s res K →
  ∃ l vs,K l∧(res.mapM (Fe a.tmps)).run P w=.ok vs w∧bg (ah T0 w0.heap.size m s w) l vs
 | [],K,h=>⟨[],[],h,rfl,.nil⟩
 | x::res,K,h=>by
  have key:∃ v u,qA P s res (fun vs=>K (v::vs))∧(Fe a.tmps x).run P w=.ok u w∧Rv (ah T0 w0.heap.size m s w) v u:=by
   unfold qA at h
   cases x with
   | tmp t=>exact ⟨_,_,h,rfl,hm.ev (.tmp t) trivial⟩
   | cell t ty=>
    simp only [Ho] at h
    split at h
    ·rename_i i off hg
     have hl:lk s.env t=some (.ptr i off):=by
      simp only [S.get] at hg
      cases hl:lk s.env t with
      | none=>rw [hl] at hg;cases hg
      | some y=>rw [hl] at hg;exact congrArg some hg
     have hp:=hm.env t _ hl
     split at h
     ·rename_i e cs hi
      generalize hvt:a.tmps.getD t undef=vt at hp
      cases hp with
      | ptr _ _ g _ hg=>
       obtain ⟨g',vs,hv,_,hl,hh⟩:=(hm.rows i _ hi).2
       have hmi:blk (m i)=some g:=hg
       rw [hv] at hmi;cases hmi
       obtain ⟨r,v,hk,hr,hrv⟩:=jq (c:=ah T0 w0.heap.size m s w) (a:=⟨g',off,none⟩) h (hl.drop off) fun j u hu=>by
        rw [Addr.add_lit]
        rw [List.getElem?_drop] at hu
        have:=cell_of_row w g' (off+j) vs.toArray e (0,0) hh
        show w.cell? _=_
        rw [this];simpa using hu
       refine ⟨r,v,hk,?_,hrv⟩
       have hr':(loadVar ty ⟨g',off,none⟩).run P w=.ok v w:=hr
       simp [Fe,hvt,asAddr,hr']
     ·exact h.elim
    ·exact h.elim
  obtain ⟨v,u,hk,hr,hv⟩:=key
  obtain ⟨l,vs,hk',hr',hvs⟩:=lH hm hk
  refine ⟨v::l,u::vs,hk',?_,.cons _ _ _ _ hv hvs⟩
  rw [List.mapM_cons]
  simp [Sem.run_bind,hr,hr',Result.andThen]
def Di:List Value→Value
 | [v]=>v
 | l=>.tuple l.toArray
theorem CU (fn:Func) (tmps:Array Value):results fn tmps=(fn.results.mapM (Fe tmps) >>= fun vs=>pure (if h:vs.size=1 then vs[0] else .tuple vs)):=by
 unfold results
 congr 1
theorem iE {P:Program} {fn:Func} {res:List ResultVar} (h:fn.results=res.toArray) (tmps:Array Value) {w:World} {vs:List Value} (hr:(res.mapM (Fe tmps)).run P w=.ok vs w) :
  (results fn tmps).run P w=.ok (Di vs) w:=by
 rw [CU,h]
 have e2:=List.mapM_toArray (f:=Fe tmps) (l:=res)
 rw [e2]
 simp only [Sem.run_bind,Sem.run_map,hr,Result.andThen]
 match vs with
 | []=>rfl
 | [v]=>rfl
 | v::v'::l=>simp [Di]
theorem bW.of {P:Program} (l:List (Nat × Nat)) (N:Nat) {res:List ResultVar} {out:AV} {rows:List (Nat × Item)} {s:S} (h:qA P s res (fun vs=>gZ vs=ren (pm l) out)) (hb:Fv.below N out=true) (hr:gG (pm l) s.rows N rows):bW P w0 T0 res out rows s:=by
 rintro a w ⟨m,hm⟩
 obtain ⟨vs,us,he,hrun,hvs⟩:=lH hm h
 have hrv:Rv (ah T0 w0.heap.size m s w) (gZ vs) (Di us):=by
  cases hvs with
  | nil=>exact .tup _ _ .nil
  | cons x v l us hx ht=>
   cases ht with
   | nil=>exact hx
   | cons x' v' l' us' hx' ht'=>exact .tup _ _ (.cons _ _ _ _ hx (.cons _ _ _ _ hx' ht'))
 have hren:iK (pm l) (ah T0 w0.heap.size m s w) ⟨w,allow T0 w0.heap.size (fun i=>m (pm l i)) rows,fun i=>m (pm l i),N⟩:=
  {m:=fun _ _=>rfl,
   t:=by
    intro b ⟨h1,h2⟩ _
    refine ⟨⟨h1,fun i it hi e=>?_⟩,rfl⟩
    obtain ⟨_,h3,_⟩:=bI hr i it (bJ hi)
    exact h2 _ _ h3 e }
 refine ⟨_,fun fn hf=>iE hf a.tmps hrun,fun i=>m (pm l i),N,Rv.ren hren out hb (by rw [←he];exact hrv),fun i it hi=>?_,fun i j it jt b hi hj hbi hbj=>?_⟩
 ·obtain ⟨h1,h2,h3⟩:=bI hr i it (bJ hi)
  exact ⟨h1,aG.ren hren rfl h3 (hm.rows _ _ h2).2⟩
 ·obtain ⟨_,h2,_⟩:=bI hr i it (bJ hi)
  obtain ⟨_,h2',_⟩:=bI hr j jt (bJ hj)
  exact mF hr i j it jt (bJ hi) (bJ hj) (hm.sep _ _ _ _ b h2 h2' hbi hbj)
theorem lV {c:Ctx}:∀ {args:List AV} {vals:List Value} (k:Nat) (pre:List Value),pre.length=k→bg c args vals→∀ r v,lk (aI k args) r=some v→∃ u,(pre++vals)[r]?=some u∧Rv c v u
 | _,_,k,pre,hk,.nil,r,v,h=>by simp [aI,lk] at h
 | _,_,k,pre,hk,.cons x u l vs hx ht,r,v,h=>by
  simp only [aI,lk] at h
  split at h
  ·rename_i e;subst e;cases h
   exact ⟨u,by rw [List.getElem?_append_right (by omega)];simp [hk],hx⟩
  ·obtain ⟨u',h1,h2⟩:=lV (k+1) (pre++[u]) (by simp [hk]) ht r v h
   exact ⟨u',by simpa using h1,h2⟩
theorem aP.of_run {f:Nat} {fn:Func} {c:Code} {args:List AV} {out:AV} {rows:List (Nat × Item)} (hf:P.funcs[f]?=some fn) (hb:fn.body=some c)
  (hnm:(fn.name == "runtime.NumGoroutine")=false) (hn:args.length≤fn.ntmps) (res:List ResultVar) (hres:fn.results=res.toArray)
  (h:∀ (w0:World) (T0:Bs) [mQ P w0 T0],gV P w0 T0 0 c ⟨fn.ntmps,aI 0 args,[],0⟩ (Post P w0 T0 res out rows)):aP P f args out rows:=by
 refine ⟨⟨fn,hf,by rw [hb];rfl,hnm⟩,fun w T vals hgl hv=>?_⟩
 haveI:mQ P w (bs T):=⟨hgl,fun _ _ _ h=>h.1⟩
 refine calls_of_wp hf hb ?_
 have hlen:=hv.length
 have hle:bC (⟨w,T,fun _=>undef,0⟩:Ctx) (ah (bs T) w.heap.size (fun _=>undef) ⟨fn.ntmps,aI 0 args,[],0⟩ w):=
  ⟨Nat.le_refl _,fun _ _=>rfl,fun b hb _=>⟨⟨.inr hb,fun i it hi=>by simp [lk] at hi⟩,rfl⟩⟩
 have hrep:aH w (bs T) [] ⟨fn.ntmps,aI 0 args,[],0⟩ { tmps:=vals.toArray++Array.replicate (fn.ntmps - vals.toArray.size) undef,defers:=[] } w (fun _=>undef):=
  {size:=by simp;omega,nodef:=rfl,below:=aO.refl _ _,
   env:=by
    intro r v hr
    obtain ⟨u,h1,h2⟩:=lV 0 [] rfl hv r v hr
    have e:((vals.toArray++Array.replicate (fn.ntmps - vals.toArray.size) undef).getD r undef)=u:=by
     have h1':vals[r]?=some u:=by simpa using h1
     have hlt:r<vals.length:=(List.getElem?_eq_some_iff.1 h1').1
     rw [Array.getD_eq_getD_getElem?,Array.getElem?_append_left (by simpa using hlt)]
     simp [h1']
    rw [e];exact h2.mono hle,
   held:=fun p hp=>absurd hp (by simp),rows:=fun i it hi=>absurd hi (by simp [lk]),sep:=fun i j it jt b hi=>absurd hi (by simp [lk]) }
 refine wp_mono (h w (bs T) [] _ w (fun p hp=>absurd hp (by simp)) ⟨_,hrep⟩) ?_
 rintro e a w' ⟨s',hq,hr⟩
 have fin:bW P w (bs T) res out rows s'→a.defers=[]∧∃ v,(results fn a.tmps).run P w'=.ok v w'∧∃ v',Ending.returned v=.returned v'∧iJ w.heap.size w w'∧kL T w.heap.size w' out rows v':=by
  intro hret
  obtain ⟨v,hv,hout⟩:=hret a w' hr
  obtain ⟨m,hm⟩:=hr
  exact ⟨hm.nodef,v,hv fn hres,v,rfl,(hm.below.mono fun b hb=>hb.1).below,hout.out⟩
 cases e with
 | normal=>exact fin hq
 | ret=>exact fin hq
 | _=>exact hq.elim
theorem aP.bH {f:Nat} {fn:Func} {c:Code} {args:List AV} {out:AV} {rows:List (Nat × Item)} (hf:P.funcs[f]?=some fn) (hb:fn.body=some c)
  (hnm:(fn.name == "runtime.NumGoroutine")=false) (hn:args.length≤fn.ntmps) (res:List ResultVar) (hres:fn.results=res.toArray)
  (h:∀ (w0:World) (T0:Bs) [mQ P w0 T0],dX P w0 T0 0 c (Post P w0 T0 res out rows) ⟨fn.ntmps,aI 0 args,[],0⟩):aP P f args out rows:=
 .of_run hf hb hnm hn res hres fun w0 T0=>.of (h w0 T0)
end
end Go.Fv
