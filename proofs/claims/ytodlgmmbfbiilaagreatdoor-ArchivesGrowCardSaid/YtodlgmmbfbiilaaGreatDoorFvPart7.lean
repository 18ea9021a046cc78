/-
  A part of the proof of the claim: walks over the program's functions and the plain laws that these need. No condition of its own.
-/
import Derived.Test.YtodlgmmbfbiilaaGreatDoorFvPart4
import Derived.Test.YtodlgmmbfbiilaaGreatDoorFvPart6
import Derived.Orders
import Derived.Still
set_option linter.unusedSectionVars false
set_option linter.unusedVariables false
set_option linter.unusedSimpArgs false
set_option linter.unnecessarySimpa false
/-
 Regions, code, loops, calls, contracts.
-/
namespace Go.Fv
open Go.RowKit
def Enter (P:Program) (f:Nat):Prop:=∃ fn,P.funcs[f]?=some fn∧fn.body.isNone=false∧(fn.name == "runtime.NumGoroutine")=false
class XQ where
 q:Exit→S→Prop
class XM where
 k:AV→S→Prop
class XR where
 k:S→Prop
def ah (P:Program) (w0:World) (T0:Bs) (f:Nat) (args:List AV) (s:S) [K:XM]:Prop:=
 Enter P f∧∀ (H:List (AV × Value)) (a:Act) (w:World) (m:Nat→Value) (vals:List Value),aY w0 T0 H s a w m→dF (au T0 w0.heap.size m s w) args vals →
  Calls P f vals.toArray w fun e w'=>∃ v,e=.returned v∧∃ r s',K.k r s'∧Rep w0 T0 ((r,v)::H) s' a w'
def zy (b0:Nat) (H:List (AV × Value)):Prop:=∀ p,p∈H→below b0 p.1=true
def aH (P:Program) (w0:World) (T0:Bs) (b0:Nat) (c:Code) (s:S) [Q:XQ]:Prop:=
 ∀ (H:List (AV × Value)) (a:Act) (w:World),zy b0 H→Rep w0 T0 H s a w→(Code.loop c).wp P (fun e a' w'=>∃ s',Q.q e s'∧Rep w0 T0 H s' a' w') a w
def bC (P:Program) (w0:World) (T0:Bs) (b0:Nat) (id:Nat) (ops:Array Oper) (s:S) [Q:XR]:Prop:=
 ∀ (H:List (AV × Value)) (a:Act) (w:World),zy b0 H→Rep w0 T0 H s a w→(Code.region id ops true).wp P (fun e a' w'=>e=.normal∧∃ s',Q.k s'∧Rep w0 T0 H s' a' w') a w
@[congr] theorem Sr {P:Program} {w0:World} {T0:Bs} {f:Nat} {args args':List AV} {s s':S} {K:XM} (h:args=args') (h2:s=s'):@ah P w0 T0 f args s K=@ah P w0 T0 f args' s' K:=by rw [h,h2]
@[congr] theorem SA {P:Program} {w0:World} {T0:Bs} {b0:Nat} {c:Code} {s s':S} {Q:XQ} (h:s=s'):@aH P w0 T0 b0 c s Q=@aH P w0 T0 b0 c s' Q:=by rw [h]
@[congr] theorem Sv {P:Program} {w0:World} {T0:Bs} {b0 id:Nat} {ops:Array Oper} {s s':S} {Q:XR} (h:s=s'):@bC P w0 T0 b0 id ops s Q=@bC P w0 T0 b0 id ops s' Q:=by rw [h]
def mM (P:Program) (w0:World) (T0:Bs) (c:Call) (s:S) (K:AV→S→Prop):Prop:=
 match c.callee with
 | .builtin .append=>match c.args.toList,c.argTypes.toList with
  | [x,y],[t,t2]=>aX (aA x) (lQ P t t2 x y s K)
  | _,_=>False
 | .builtin .len=>match c.args.toList,c.argTypes.toList with
  | [x],[t]=>aX (aA x) (I5 P t x s K)
  | _,_=>False
 | .builtin .unsafeSliceData=>match c.args.toList,c.argTypes.toList with
  | [x],[_]=>aX (aA x) (vZ x s K)
  | _,_=>False
 | .builtin .cap=>match c.args.toList,c.argTypes.toList with
  | [x],[t]=>aX (aA x) (FN P t x s K)
  | _,_=>False
 | .builtin .unsafeString=>match c.args.toList,c.argTypes.toList with
  | [x,n],[pt,_]=>aX (aA x∧aA n) (F8 P pt x n s K)
  | _,_=>False
 | .builtin .min=>aX (∀ x,x∈c.args.toList→aA x) (I9 false (evs s c.args.toList) (fun r=>K r s))
 | .builtin .max=>aX (∀ x,x∈c.args.toList→aA x) (I9 true (evs s c.args.toList) (fun r=>K r s))
 | .value g=>match s.ev g with
  | .fn f caps=>aX (aA g∧∀ x,x∈c.args.toList→aA x) (@ah P w0 T0 f (evs s c.args.toList++caps) s ⟨K⟩)
  | _=>False
 | _=>False
def mQ (P:Program) (w0:World) (T0:Bs) (o:Oper) (s:S) (K:AV→S→Prop):Prop:=
 match o.op with
 | .move x=>ug P o.type x s K
 | .assign x=>ug P o.type x s K
 | .pick c x y=>aX (aA c) (BJ c x y s K)
 | .extract x i=>aX (aA x) (jP x i s K)
 | .makeFunc fn first caps=>je fn first caps s K
 | .box e x=>Ee e x s K
 | .alloc e=>rO P e s K
 | .load t x=>match x with
  | .global g=>KI P t g s K
  | x=>aX (aA x) (Bv P t x s K)
 | .store t x v=>aX (aA x) (rU P t x v s K)
 | .nilCheck x=>aX (aA x) (BH x s K)
 | .fieldAddr t x k=>aX (aA x) (iJ P t x k s K)
 | .indexAddr t x i=>aX (aA x∧aA i) (kF P t x i s K)
 | .makeSlice t l c=>aX (aA l∧aA c) (xC P t l c s K)
 | .binOp op t x y _=>aX (aA x∧aA y) (Bl P op t y (s.ev x) (s.ev y) (fun r=>K r s))
 | .call c=>mM P w0 T0 c s K
 | .unOp op _ x=>aX (aA x) (KO op x s K)
 | .convert a b x=>aX (aA x) (rP P a b x s K)
 | .index t x i=>aX (aA x∧aA i) (vV P t x i s K)
 | .field t x k=>aX (aA x) (vS P t x k s K)
 | .slice t x lo hi mx=>aX (aA x) (zo P t x lo hi mx s K)
 | .buildSlice t len parts=>iO P t len parts s K
 | .build t parts=>oW P t parts s K
 | .lookup t x i ok=>qI P t x i ok s K
 | .makeMap t r=>nZ P t r s K
 | .mapUpdate t x k v=>oh P t x k v s K
 | .mapEntry t x k=>og P t x k s K
 | .entryStore _ x st v=>jO x st v s K
 | .range t x=>rQ P t x s K
 | .next x str=>FY x str s K
 | .entry x=>zl x s K
 | _=>False
section
variable {P:Program} {w0:World} {T0:Bs} {s:S} [hG:qL P w0 T0]
theorem Bo {o:Oper} {K:AV→S→Prop} {c:Call} (ho:o.op=.call c) (h:mM P w0 T0 c s K):aQ P w0 T0 o s K:=by
 obtain ⟨callee,args,argTypes⟩:=c
 unfold mM at h
 cases callee with
 | builtin b=>
  cases b<;>try (exact h.elim)
  case append=>
   dsimp only at h
   split at h
   ·rename_i x y t t2 e1 e2
    obtain ⟨hx,h⟩:=h
    have e1':args=#[x,y]:=by apply Array.ext';simpa using e1
    have e2':argTypes=#[t,t2]:=by apply Array.ext';simpa using e2
    subst e1' e2'
    exact yO ho hx h
   ·exact h.elim
  case len=>
   dsimp only at h
   split at h
   ·rename_i x t e1 e2
    obtain ⟨hx,h⟩:=h
    have e1':args=#[x]:=by apply Array.ext';simpa using e1
    have e2':argTypes=#[t]:=by apply Array.ext';simpa using e2
    subst e1' e2'
    exact I7 ho hx h
   ·exact h.elim
  case unsafeSliceData=>
   dsimp only at h
   split at h
   ·rename_i x t e1 e2
    obtain ⟨hx,h⟩:=h
    have e1':args=#[x]:=by apply Array.ext';simpa using e1
    have e2':argTypes=#[t]:=by apply Array.ext';simpa using e2
    subst e1' e2'
    exact BK ho hx h
   ·exact h.elim
  case cap=>
   dsimp only at h
   split at h
   ·rename_i x t e1 e2
    obtain ⟨hx,h⟩:=h
    have e1':args=#[x]:=by apply Array.ext';simpa using e1
    have e2':argTypes=#[t]:=by apply Array.ext';simpa using e2
    subst e1' e2'
    exact FP ho hx h
   ·exact h.elim
  case unsafeString=>
   dsimp only at h
   split at h
   ·rename_i x n pt it e1 e2
    obtain ⟨⟨hx,hn⟩,h⟩:=h
    have e1':args=#[x,n]:=by apply Array.ext';simpa using e1
    have e2':argTypes=#[pt,it]:=by apply Array.ext';simpa using e2
    subst e1' e2'
    exact F9 ho hx hn h
   ·exact h.elim
  case min=>exact BD (isMax:=false) ho h.1 h.2
  case max=>exact BD (isMax:=true) ho h.1 h.2
 | invoke r mth=>exact h.elim
 | value g=>
  dsimp only at h
  intro H a w next Q ⟨m,hm⟩ hn
  cases hg:s.ev g with
  | fn f caps=>
   rw [hg] at h
   obtain ⟨⟨hog,hoa⟩,⟨fn,hf,hb,hnm⟩,h⟩:=h
   have rg:=hm.ev g hog
   rw [hg] at rg
   generalize hvg:a.eval g=vg at rg
   cases rg with
   | fn _ _ cvals hc=>
    have hargs:=(hm.evs hoa).append hc
    have hcalls:=h H a w m _ hm hargs
    have hrun:(execOp a.eval o).run P w=.ok (.enter f ((args.toList.map a.eval++cvals).toArray)) w:=by
     unfold execOp;rw [ho]
     have e:(Array.map a.eval args++cvals.toArray)=(args.toList.map a.eval++cvals).toArray:=by
      apply Array.ext';simp
     have hnm':¬fn.name = "runtime.NumGoroutine" := by simpa using hnm
     have hb':¬fn.body=none:=by intro e;simp [e] at hb
     simp [resolve,hvg,Deferred.ofValue,invoke,callFunc,hf,hb',hnm',e]
    unfold Oper.wp
    rw [hrun]
    refine Calls.mono hcalls ?_
    rintro e w' ⟨v,rfl,r,s',hk,hr⟩
    exact hn r s' v w' hk hr
  | _=>rw [hg] at h;exact h.elim
theorem mO {o:Oper} {K:AV→S→Prop} (h:mQ P w0 T0 o s K):aQ P w0 T0 o s K:=by
 unfold mQ at h
 cases ho:o.op<;>rw [ho] at h<;>try (exact h.elim)
 case move x=>exact vY (.inl ho) h
 case assign x=>exact vY (.inr ho) h
 case pick c x y=>exact F5 ho h.1 h.2
 case extract x i=>exact yP ho h.1 h.2
 case makeFunc fn first caps=>exact xE ho h
 case box e x=>exact I4 ho h
 case alloc e=>exact Ci ho h
 case load t x=>
  cases x with
  | global g=>exact (FU ho h).op
  | _=>exact FV ho h.1 h.2
 case store t x v=>exact CV ho h.1 h.2
 case nilCheck x=>exact Ja ho h.1 h.2
 case fieldAddr t x k=>exact vT ho h.1 h.2
 case indexAddr t x i=>exact vW ho h.1.1 h.1.2 h.2
 case makeSlice t l c=>exact FX ho h.1.1 h.1.2 h.2
 case binOp op t x y t'=>exact FH ho h.1.1 h.1.2 h.2
 case call c=>exact Bo ho h
 case unOp op t x=>exact KP ho h.1 h.2
 case convert t t' x=>exact CB ho h.1 h.2
 case index t x i=>exact CP ho h.1.1 h.1.2 h.2
 case field t x k=>exact CJ ho h.1 h.2
 case slice t x lo hi mx=>exact CU ho h.1 h.2
 case buildSlice t len parts=>exact tZ ho h
 case build t parts=>exact Cj ho h
 case lookup t x i ok=>exact Bz ho h
 case makeMap t r=>exact yR ho h
 case mapUpdate t x k v=>exact BG ho h
 case mapEntry t x k=>exact BF ho h
 case entryStore t x st v=>exact xB ho h
 case range t x=>exact CS ho h
 case next x str=>exact FZ ho h
 case entry x=>exact CG ho h
end
def gZ (d:Option Nat) (v:AV) (s:S) (Q:S→Prop):Prop:=
 match d with
 | none=>Q s
 | some d=>if d<s.n then Q (s.set d v) else False
def tN:Op→Prop
 | .pick c x y=>aA c∧aA x∧aA y
 | _=>False
def uh (P:Program) (w0:World) (T0:Bs) (o:Oper) (c:Bool) (s s1 s2:S) (k:S→Prop):Prop:=
 match su s o.op with
 | some (pre,b)=>aX (c=true→pre∧tN o.op) (gZ o.dst (.opt c (.bool b)) s k)
 | none=>match PO P (peel s (JD o.op)) o.op with
  | some v=>aX (Fv.below s.next v=true) (aX (c=true→fJ s (JD o.op)=true∧mQ P w0 T0 o (peel s (JD o.op)) (fun r s'=>r=v∧s'=peel s (JD o.op))) (gZ o.dst (.opt c v) s k))
  | none=>@Ite c ⟨aX (fJ s1 (JD o.op)=true) (mQ P w0 T0 o (peel s1 (JD o.op)) (fun v s'=>gZ o.dst v s' k))⟩ ⟨gZ o.dst (.opt false (.bool false)) s2 k⟩
def KJ (P:Program) (w0:World) (T0:Bs) (ops:Array Oper) (o:Oper) (s:S) (k:S→Prop):Prop:=
 match o.guard with
 | none=>match su s o.op with
  | some (pre,b)=>aX (pre∧tN o.op) (gZ o.dst (.bool b) s k)
  | none=>mQ P w0 T0 o s (fun v s'=>gZ o.dst v s' k)
 | some (j,want)=>match (ops[j]?).bind (·.dst) with
  | some r=>match s.get r with
   | .bool b=>uh P w0 T0 o (bif want then b else !b) s (s.set r (.bool want)) (s.set r (.bool (!want))) k
   | .opt c (.bool b)=>uh P w0 T0 o (c && bif want then b else !b) s s s k
   | _=>False
  | none=>False
def BI (P:Program) (w0:World) (T0:Bs) (ops:Array Oper):List Oper→S→(S→Prop)→Prop
 | [],s,Q=>Q s
 | o::rest,s,Q=>KJ P w0 T0 ops o s (fun s'=>BI P w0 T0 ops rest s' Q)
section
variable {P:Program} {w0:World} {T0:Bs} {H:List (AV × Value)} [hG:qL P w0 T0]
theorem Rep.put {s:S} {a:Act} {w:World} {r:AV} {v:Value} {d:Option Nat} {Q:S→Prop} (h:Rep w0 T0 ((r,v)::H) s a w) (hq:gZ d r s Q):∃ s',Q s'∧Rep w0 T0 H s' (a.put d v) w:=by
 obtain ⟨m,hm⟩:=h
 cases d with
 | none=>exact ⟨s,hq,m,hm.nI⟩
 | some d=>
  simp only [gZ] at hq
  split at hq
  ·rename_i hd;exact ⟨_,hq,m,hm.nI.VE (hm.held _ (.head _)) hd⟩
  ·exact hq.elim
theorem aY.know {s:S} {a:Act} {w:World} {m:Nat→Value} (h:aY w0 T0 H s a w m) {r:Nat} {x:AV} (hx:Rv (au T0 w0.heap.size m s w) x (a.tmps.getD r undef)):aY w0 T0 H (s.set r x) a w m:=
 {size:=h.size,nodef:=h.nodef,below:=h.below,held:=h.held,rows:=h.rows,sep:=h.sep,
  env:=by
   intro q y hy
   have hy':(if r=q then some x else lk s.env q)=some y:=hy
   split at hy'
   ·rename_i e;subst e;cases hy';exact hx
   ·exact h.env q y hy' }
theorem qg {s:S} {a:Act} {w:World} {o:Oper} {pre:Prop} {b:Bool} (h:su s o.op=some (pre,b)) (hp:pre) (hok:tN o.op) (hr:Rep w0 T0 H s a w):(execOp a.eval o).run P w=.ok (.value (.bool b)) w:=by
 obtain ⟨m,hm⟩:=hr
 unfold su at h
 cases ho:o.op<;>rw [ho] at h hok<;>try (cases h;done)
 rename_i c x y
 obtain ⟨h1,h2,h3⟩:=hok
 dsimp only at h
 split at h
 ·rename_i bc p q ec ex ey
  cases h
  obtain ⟨k1,k2,k3⟩:=hp
  have rc:=QN hm h1 k1
  rw [ec] at rc
  generalize hvc:a.eval c=vc at rc
  cases rc
  have hrun:(execOp a.eval o).run P w=.ok (.value (if bc then a.eval x else a.eval y)) w:=by
   unfold execOp;rw [ho];simp [hvc,asBool,Sem.run_bind,Result.andThen]
  cases bc with
  | true=>
   have rx:=QN hm h2 (k2 rfl)
   rw [ex] at rx
   generalize hvx:a.eval x=vx at rx hrun
   cases rx
   simpa using hrun
  | false=>
   have ry:=QN hm h3 (k3 rfl)
   rw [ey] at ry
   generalize hvy:a.eval y=vy at ry hrun
   cases ry
   simpa using hrun
 ·cases h
theorem wo {o:Oper} {c:Bool} {s s1 s2:S} {k:S→Prop} (h:uh P w0 T0 o c s s1 s2 k) {a:Act} {w:World} (hr:Rep w0 T0 H s a w) {W:Bool} (hW:W=c) (hr1:c=true→Rep w0 T0 H s1 a w) (hr2:c=false→Rep w0 T0 H s2 a w) {K:Act→World→Prop} {Qc:Exit→Act→World→Prop}
  (hk:∀ s' a' w',k s'→Rep w0 T0 H s' a' w'→K a' w'):if W=true then o.wp P a w K Qc else K (a.put o.dst undef) w:=by
 subst hW
 unfold uh at h
 have skip:W=false→∀ (v:AV) (s:S),Rep w0 T0 H s a w→(∀ c,Rv c v undef)→gZ o.dst v s k→K (a.put o.dst undef) w:=by
  intro _ v s hr hv hp
  obtain ⟨m,hm⟩:=hr
  obtain ⟨s'',h2,hr2⟩:=Rep.put (v:=undef) (⟨m,hm.hold (hv _)⟩:Rep w0 T0 ((v,undef)::H) s a w) hp
  exact hk _ _ _ h2 hr2
 split at h
 ·rename_i pre b hg
  obtain ⟨hpre,hput⟩:=h
  cases W with
  | true=>
   simp only [if_true]
   obtain ⟨hp,hok⟩:=hpre rfl
   have hrun:=qg (P:=P) hg hp hok hr
   unfold Oper.wp
   rw [hrun]
   obtain ⟨m,hm⟩:=hr
   obtain ⟨s'',h2,hr2⟩:=Rep.put (v:=.bool b) (⟨m,hm.hold (.opt true (.bool b) (.bool b) rfl (fun _=>.bool b) (fun e=>by cases e))⟩:Rep w0 T0 ((.opt true (.bool b),.bool b)::H) s a w) hput
   exact hk _ _ _ h2 hr2
  | false=>
   simp only [Bool.false_eq_true,if_false]
   exact skip rfl _ s hr (fun _=>.opt false _ _ rfl (fun e=>by cases e) (fun _=>rfl)) hput
 ·split at h
  ·rename_i v hv
   obtain ⟨hb,hpre,hput⟩:=h
   cases W with
   | true=>
    simp only [if_true]
    obtain ⟨hpc,hop⟩:=hpre rfl
    obtain ⟨m,hm⟩:=hr
    refine mO hop H a w _ _ ⟨m,hm.peel hpc⟩ ?_
    rintro r s' v' w' ⟨rfl,rfl⟩ ⟨m',hm'⟩
    have hv':=hm'.held _ (.head _)
    have hm2:=hm'.nI.VN hpc
    obtain ⟨s'',h2,hr2⟩:=Rep.put (v:=v') (⟨m',hm2.hold (.opt true r v' hb (fun _=>hv') (fun e=>by cases e))⟩:Rep w0 T0 ((.opt true r,v')::H) s a w') hput
    exact hk _ _ _ h2 hr2
   | false=>
    simp only [Bool.false_eq_true,if_false]
    obtain ⟨m,hm⟩:=hr
    obtain ⟨s'',h2,hr2⟩:=Rep.put (v:=undef) (⟨m,hm.hold (.opt false v undef hb (fun e=>by cases e) (fun _=>rfl))⟩:Rep w0 T0 ((.opt false v,undef)::H) s a w) hput
    exact hk _ _ _ h2 hr2
  ·cases W with
   | true=>
    simp only [if_true]
    obtain ⟨hpc,hop⟩:=h.1 rfl
    obtain ⟨m1,hm1⟩:=hr1 rfl
    refine mO hop H a w _ _ ⟨m1,hm1.peel hpc⟩ ?_
    intro r s' v w' hk' hr'
    obtain ⟨s'',h2,hr2⟩:=hr'.put hk'
    exact hk _ _ _ h2 hr2
   | false=>
    simp only [Bool.false_eq_true,if_false]
    exact skip rfl _ s2 (hr2 rfl) (fun _=>.opt false _ _ rfl (fun e=>by cases e) (fun _=>rfl)) (h.2 rfl)
theorem Bq {ops:Array Oper} {o:Oper} {s:S} {k:S→Prop} (h:KJ P w0 T0 ops o s k) {a:Act} {w:World} (hr:Rep w0 T0 H s a w) {K:Act→World→Prop} {Qc:Exit→Act→World→Prop}
  (hk:∀ s' a' w',k s'→Rep w0 T0 H s' a' w'→K a' w'):if Region.wanted o (yielded ops a.tmps) then o.wp P a w K Qc else K (a.put o.dst undef) w:=by
 unfold KJ at h
 cases hg:o.guard with
 | none=>
  rw [hg] at h
  rw [if_pos (by simp [Region.wanted,hg])]
  dsimp only at h
  split at h
  ·rename_i pre b hgp
   obtain ⟨⟨hp,hok⟩,hput⟩:=h
   have hrun:=qg (P:=P) hgp hp hok hr
   unfold Oper.wp
   rw [hrun]
   obtain ⟨m,hm⟩:=hr
   obtain ⟨s'',h2,hr2⟩:=Rep.put (v:=.bool b) (⟨m,hm.hold (.bool b)⟩:Rep w0 T0 ((.bool b,.bool b)::H) s a w) hput
   exact hk _ _ _ h2 hr2
  ·refine mO h H a w _ _ hr ?_
   intro r s' v w' hk' hr'
   obtain ⟨s'',h2,hr2⟩:=hr'.put hk'
   exact hk _ _ _ h2 hr2
 | some jw=>
  obtain ⟨j,want⟩:=jw
  rw [hg] at h
  dsimp only at h
  cases hd:(ops[j]?).bind (·.dst) with
  | none=>rw [hd] at h;exact h.elim
  | some r=>
   rw [hd] at h
   dsimp only at h
   have hslot:∀ x,s.get r=x→x≠.dead→lk s.env r=some x:=by
    intro x hx hne
    simp only [S.get] at hx
    cases hl:lk s.env r with
    | none=>rw [hl] at hx;exact absurd hx.symm hne
    | some y=>rw [hl] at hx;exact congrArg some hx
   have hyield:∀ b,a.tmps.getD r undef=.bool b→yielded ops a.tmps j=some b:=by
    intro b hvv
    have h1:a.tmps[r]?=some (.bool b):=by
     rw [Array.getD_eq_getD_getElem?] at hvv
     cases hq:a.tmps[r]? with
     | none=>rw [hq] at hvv;simp [undef] at hvv
     | some y=>rw [hq] at hvv;simpa using hvv
    simp [yielded,hd,h1]
   have hyno:a.tmps.getD r undef=undef→yielded ops a.tmps j=none:=by
    intro hvv
    cases hq:a.tmps[r]? with
    | none=>simp [yielded,hd,hq]
    | some y=>
     rw [Array.getD_eq_getD_getElem?,hq] at hvv
     have:y=undef:=by simpa using hvv
     subst this
     simp [yielded,hd,hq,undef]
   split at h
   ·rename_i b hb
    have hl:=hslot _ hb (by simp)
    obtain ⟨m,hm⟩:=hr
    have hv:=hm.env r _ hl
    generalize hvv:a.tmps.getD r undef=vv at hv
    cases hv
    have hy:=hyield b hvv
    refine wo h ⟨m,hm⟩ ?_ ?_ ?_ hk
    ·cases want<;>cases b<;>simp [Region.wanted,hg,hy]
    ·intro hc
     refine ⟨m,hm.know ?_⟩
     rw [hvv]
     have:b=want:=by cases want<;>cases b<;>simp at hc<;>rfl
     rw [this];exact .bool want
    ·intro hc
     refine ⟨m,hm.know ?_⟩
     rw [hvv]
     have:b=!want:=by cases want<;>cases b<;>simp at hc<;>rfl
     rw [this];exact .bool _
   ·rename_i c b hb
    have hl:=hslot _ hb (by simp)
    have hr':=hr
    obtain ⟨m,hm⟩:=hr'
    have hv:=hm.env r _ hl
    refine wo h hr ?_ (fun _=>hr) (fun _=>hr) hk
    cases hv with
    | opt _ _ _ _ h1 h2=>
     cases c with
     | true=>
      have h1':=h1 rfl
      generalize hvv:a.tmps.getD r undef=vv at h1'
      cases h1'
      have hy:=hyield b hvv
      cases want<;>cases b<;>simp [Region.wanted,hg,hy]
     | false=>
      have hy:=hyno (h2 rfl)
      cases want<;>simp [Region.wanted,hg,hy]
   ·exact h.elim
theorem yD {ops:Array Oper} {Qc:Exit→Act→World→Prop}:∀ (l:List Oper) (s:S) (Q:S→Prop),BI P w0 T0 ops l s Q→∀ (a:Act) (w:World),Rep w0 T0 H s a w →
  (∀ s' a' w',Q s'→Rep w0 T0 H s' a' w'→Qc .normal a' w')→wpList P ops Qc l a w
 | [],s,Q,h,a,w,hr,hq=>wpList_nil (hq s a w h hr)
 | o::rest,s,Q,h,a,w,hr,hq=>by
  unfold BI at h
  refine wpList_step fun K hK=>?_
  exact Bq h hr fun s' a' w' hk hr'=>hK _ _ (yD rest s' Q hk a' w' hr' hq)
end
/-! ### Regions whose order is drawn -/
inductive xI where
 | done
 | first (i:Nat) (t:xI)
 | cons (i:Nat) (t r:xI)
 | stop
def JH (o:Oper):Bool:=match o.guard,o.op with
 | none,.move _=>true
 | none,.assign _=>true
 | none,.fieldAddr _ _ _=>true
 | _,_=>false
def gu (ops:Array Oper):xI→Nat→Array Bool→Option (List Nat)→Bool
 | .done,_,listed,none=>(Region.ready .any ops listed).isEmpty
 | .first i t,n+1,listed,none=>((ops[i]?).map JH).getD false && Region.free .any ops listed i && (Region.ready .any ops listed).contains i && gu ops t n (listed.setIfInBounds i true) none
 | .cons i t r,n+1,listed,none=>match Region.ready .any ops listed with
  | j::l=>i == j && gu ops t n (listed.setIfInBounds i true) none && gu ops r (n+1) listed (some l)
  | []=>false
 | .cons i t r,n+1,listed,some q=>match q with
  | j::l=>i == j && gu ops t n (listed.setIfInBounds i true) none && gu ops r (n+1) listed (some l)
  | []=>false
 | .stop,_+1,_,some q=>q.isEmpty
 | _,_,_,_=>false
def jE (P:Program) (w0:World) (T0:Bs) (ops:Array Oper):xI→S→(S→Prop)→Prop
 | .done,s,Q=>Q s
 | .first i t,s,Q=>match ops[i]? with
  | some o=>match o.op with
   | .move x=>aX (aA x) (gZ o.dst (s.ev x) s (fun s'=>jE P w0 T0 ops t s' Q))
   | .assign x=>aX (aA x) (gZ o.dst (s.ev x) s (fun s'=>jE P w0 T0 ops t s' Q))
   | .fieldAddr ty x k=>aX (aA x) (iJ P ty x k s (fun r s1=>gZ o.dst r s1 (fun s'=>jE P w0 T0 ops t s' Q)))
   | _=>False
  | none=>False
 | .cons i t r,s,Q=>match ops[i]? with
  | some o=>KJ P w0 T0 ops o s (fun s'=>jE P w0 T0 ops t s' Q)∧jE P w0 T0 ops r s Q
  | none=>False
 | .stop,_,_=>True
def thenS (next:S→Prop) (Q:Exit→S→Prop):Exit→S→Prop
 | .normal,s=>next s
 | e,s=>Q e s
def zH (id:Nat) (Q:Exit→S→Prop):Exit→S→Prop
 | .exit i,s=>if i=id then Q .normal s else Q (.exit i) s
 | e,s=>Q e s
def Mc (c:Operand) (b:Bool) (s:S):S:=
 match c with
 | .tmp t=>s.set t (.bool b)
 | _=>s
def jd (P:Program) (w0:World) (T0:Bs) (b0:Nat):Code→(Exit→S→Prop)→S→Prop
 | .skip,Q,s=>Q .normal s
 | .label _,Q,s=>Q .normal s
 | .region id ops draw,Q,s=>match draw with
  | true=>@bC P w0 T0 b0 id ops s ⟨Q .normal⟩
  | false=>BI P w0 T0 ops ops.toList s (Q .normal)
 | .seq x y,Q,s=>jd P w0 T0 b0 x (thenS (jd P w0 T0 b0 y Q) Q) s
 | .cond c x y,Q,s=>match s.ev c with
  | .bool b=>aX (aA c) (@Ite b ⟨jd P w0 T0 b0 x Q (Mc c true s)⟩ ⟨jd P w0 T0 b0 y Q (Mc c false s)⟩)
  | _=>False
 | .block id c,Q,s=>jd P w0 T0 b0 c (zH id Q) s
 | .loop c,Q,s=>@aH P w0 T0 b0 c s ⟨Q⟩
 | .exit id,Q,s=>Q (.exit id) s
 | .ret,Q,s=>Q .ret s
 | _,_,_=>False
section
variable {P:Program} {w0:World} {T0:Bs} {b0:Nat} [hG:qL P w0 T0]
theorem oZ:∀ (c:Code) (Q:Exit→S→Prop) (s:S),jd P w0 T0 b0 c Q s→∀ (H:List (AV × Value)) (a:Act) (w:World),zy b0 H→Rep w0 T0 H s a w →
  c.wp P (fun e a' w'=>∃ s',Q e s'∧Rep w0 T0 H s' a' w') a w:=by
 intro c
 induction c with
 | skip=>intro Q s h H a w hH hr;exact wp_skip ⟨s,h,hr⟩
 | label l=>intro Q s h H a w hH hr;exact wp_label ⟨s,h,hr⟩
 | region id ops draw=>
  intro Q s h H a w hH hr
  cases draw with
  | true=>
   exact wp_mono (h H a w hH hr) fun e a' w' ⟨he,s',hq,hr'⟩=>by subst he;exact ⟨s',hq,hr'⟩
  | false=>
   exact wp_region_list (yD ops.toList s (Q .normal) h a w hr fun s' a' w' hq hr'=>⟨s',hq,hr'⟩)
 | seq x y ihx ihy=>
  intro Q s h H a w hH hr
  refine wp_seq (wp_mono (ihx _ s h H a w hH hr) ?_)
  rintro e a' w' ⟨s',hq,hr'⟩
  cases e with
  | normal=>exact ihy Q s' hq H a' w' hH hr'
  | _=>exact ⟨s',hq,hr'⟩
 | cond c x y ihx ihy=>
  intro Q s h H a w hH hr
  simp only [jd] at h
  obtain ⟨m,hm⟩:=hr
  cases hc:s.ev c with
  | bool b=>
   rw [hc] at h
   obtain ⟨hok,h⟩:=h
   have rc:=hm.ev c hok
   rw [hc] at rc
   generalize hv:a.eval c=vc at rc
   cases rc
   have hk:Rep w0 T0 H (Mc c b s) a w:=by
    cases c with
    | tmp t=>exact ⟨m,hm.know (by have:a.tmps.getD t undef=.bool b:=hv;rw [this];exact .bool b)⟩
    | _=>exact ⟨m,hm⟩
   cases b with
   | true=>exact wp_cond_true hv (ihx Q _ (h.1 rfl) H a w hH hk)
   | false=>exact wp_cond_false hv (ihy Q _ (h.2 rfl) H a w hH hk)
  | _=>rw [hc] at h;exact h.elim
 | block id c ih=>
  intro Q s h H a w hH hr
  refine wp_block (wp_mono (ih _ s h H a w hH hr) ?_)
  rintro e a' w' ⟨s',hq,hr'⟩
  cases e with
  | exit i=>
   simp only [zH] at hq
   simp only [Exit.inBlock]
   split at hq
   ·rename_i e;rw [if_pos e];exact ⟨s',hq,hr'⟩
   ·rename_i e;rw [if_neg e];exact ⟨s',hq,hr'⟩
  | _=>exact ⟨s',hq,hr'⟩
 | loop c ih=>intro Q s h H a w hH hr;exact h H a w hH hr
 | exit id=>intro Q s h H a w hH hr;exact wp_exit ⟨s,h,hr⟩
 | ret=>intro Q s h H a w hH hr;exact wp_ret ⟨s,h,hr⟩
 | _=>intro Q s h;exact h.elim
/-! ### States that say less -/
def aK (w0:World) (T0:Bs) (b0:Nat) (s s':S):Prop:=∀ (H:List (AV × Value)) (a:Act) (w:World),zy b0 H→Rep w0 T0 H s a w→Rep w0 T0 H s' a w
theorem aH.intro {c:Code} {s:S} {Q:Exit→S→Prop} {α:Type} (shape:α→S) (I:α→Prop) (μ:α→Nat) (x0:α) (h0:aK w0 T0 b0 s (shape x0)) (hI:I x0)
  (body:∀ x,I x→jd P w0 T0 b0 c (thenS (fun s'=>∃ x',aK w0 T0 b0 s' (shape x')∧I x'∧μ x'<μ x) Q) (shape x)):@aH P w0 T0 b0 c s ⟨Q⟩:=by
 intro H a w hH hr
 refine wp_loop_ghost (fun n a w=>∃ x,μ x=n∧I x∧Rep w0 T0 H (shape x) a w) (μ x0) ⟨x0,rfl,hI,h0 H a w hH hr⟩ ?_
 rintro n a w ⟨x,rfl,hx,hr⟩
 refine wp_mono (oZ c _ _ (body x hx) H a w hH hr) ?_
 rintro e a' w' ⟨s',hq,hr'⟩
 cases e with
 | normal=>
  obtain ⟨x',he,hI',hlt⟩:=hq
  exact ⟨μ x',hlt,x',rfl,hI',he H a' w' hH hr'⟩
 | _=>exact ⟨s',hq,hr'⟩
def ig (P:Program) (w0:World) (T0:Bs) (b0:Nat) (c:Code) (s:S) (Q:Exit→S→Prop):Prop:=
 ∀ (H:List (AV × Value)) (a:Act) (w:World),zy b0 H→Rep w0 T0 H s a w→c.wp P (fun e a' w'=>∃ s',Q e s'∧Rep w0 T0 H s' a' w') a w
theorem ig.of {c:Code} {s:S} {Q:Exit→S→Prop} (h:jd P w0 T0 b0 c Q s):ig P w0 T0 b0 c s Q:=oZ c Q s h
theorem ig.seq {x y:Code} {s:S} {Q:Exit→S→Prop} (h:jd P w0 T0 b0 x (thenS (fun s'=>ig P w0 T0 b0 y s' Q) Q) s):ig P w0 T0 b0 (.seq x y) s Q:=by
 intro H a w hH hr
 refine wp_seq (wp_mono (oZ x _ s h H a w hH hr) ?_)
 rintro e a' w' ⟨s',hq,hr'⟩
 cases e with
 | normal=>exact hq H a' w' hH hr'
 | _=>exact ⟨s',hq,hr'⟩
theorem ig.cut {x y:Code} {s:S} {Q:Exit→S→Prop} {α:Type} (shape:α→S) (I:α→Prop) (h:ig P w0 T0 b0 x s (thenS (fun s'=>∃ z,aK w0 T0 b0 s' (shape z)∧I z) Q)) (h2:∀ z,I z→ig P w0 T0 b0 y (shape z) Q):ig P w0 T0 b0 (.seq x y) s Q:=by
 intro H a w hH hr
 refine wp_seq (wp_mono (h H a w hH hr) ?_)
 rintro e a' w' ⟨s',hq,hr'⟩
 cases e with
 | normal=>obtain ⟨z,he,hz⟩:=hq;exact h2 z hz H a' w' hH (he H a' w' hH hr')
 | _=>exact ⟨s',hq,hr'⟩
theorem ig.block {x:Code} {id:Nat} {s:S} {Q:Exit→S→Prop} (h:ig P w0 T0 b0 x s (zH id Q)):ig P w0 T0 b0 (.block id x) s Q:=by
 intro H a w hH hr
 refine wp_block (wp_mono (h H a w hH hr) ?_)
 rintro e a' w' ⟨s',hq,hr'⟩
 cases e with
 | exit i=>
  simp only [zH] at hq
  simp only [Exit.inBlock]
  split at hq
  ·rename_i e;rw [if_pos e];exact ⟨s',hq,hr'⟩
  ·rename_i e;rw [if_neg e];exact ⟨s',hq,hr'⟩
 | _=>exact ⟨s',hq,hr'⟩
theorem ig.ent {x:Code} {s s':S} {Q:Exit→S→Prop} (he:aK w0 T0 b0 s s') (h:ig P w0 T0 b0 x s' Q):ig P w0 T0 b0 x s Q:=
 fun H a w hH hr=>h H a w hH (he H a w hH hr)
theorem aH.run {c:Code} {s:S} {Q:Exit→S→Prop} {α:Type} (shape:α→S) (I:α→Prop) (μ:α→Nat) (x0:α) (h0:aK w0 T0 b0 s (shape x0)) (hI:I x0)
  (body:∀ x,I x→ig P w0 T0 b0 c (shape x) (thenS (fun s'=>∃ x',aK w0 T0 b0 s' (shape x')∧I x'∧μ x'<μ x) Q)):@aH P w0 T0 b0 c s ⟨Q⟩:=by
 intro H a w hH hr
 refine wp_loop_ghost (fun n a w=>∃ x,μ x=n∧I x∧Rep w0 T0 H (shape x) a w) (μ x0) ⟨x0,rfl,hI,h0 H a w hH hr⟩ ?_
 rintro n a w ⟨x,rfl,hx,hr⟩
 refine wp_mono (body x hx H a w hH hr) ?_
 rintro e a' w' ⟨s',hq,hr'⟩
 cases e with
 | normal=>
  obtain ⟨x',he,hI',hlt⟩:=hq
  exact ⟨μ x',hlt,x',rfl,hI',he H a' w' hH hr'⟩
 | _=>exact ⟨s',hq,hr'⟩
end
end Go.Fv
/-
 Regions whose order is drawn: every order is walked, moves first.
-/
namespace Go.Fv
open Go.RowKit
section
variable {P:Program} {w0:World} {T0:Bs} {b0:Nat} {H:List (AV × Value)} [hG:qL P w0 T0]
theorem F7 {ops:Array Oper} (hs:Region.noSelect ops=true) {Q:S→Prop}:∀ (t:xI) (n:Nat) (listed:Array Bool) (q:Option (List Nat)),gu ops t n listed q=true→∀ (s:S) (a:Act) (w:World),
  jE P w0 T0 ops t s Q→Rep w0 T0 H s a w →
  match q with
  | none=>wpAny P .any ops (fun e a' w'=>e=.normal∧∃ s',Q s'∧Rep w0 T0 H s' a' w') n listed a w
  | some l=>∃ n',n=n'+1∧∀ i,i∈l→wpOp P ops (fun e a' w'=>e=.normal∧∃ s',Q s'∧Rep w0 T0 H s' a' w') i (wpAny P .any ops (fun e a' w'=>e=.normal∧∃ s',Q s'∧Rep w0 T0 H s' a' w') n' (listed.setIfInBounds i true)) a w:=by
 intro t
 induction t with
 | done=>
  intro n listed q hok s a w h hr
  cases q with
  | none=>
   have hn:Region.ready .any ops listed=[]:=by
    cases n<;>simpa [gu,List.isEmpty_iff] using hok
   exact wpAny_done hn ⟨rfl,s,h,hr⟩ n
  | some l=>cases n<;>simp [gu] at hok
 | first i t ih=>
  intro n listed q hok s a w h hr
  cases n with
  | zero=>cases q<;>simp [gu] at hok
  | succ n=>
   cases q with
   | some l=>simp [gu] at hok
   | none=>
    simp only [gu,Bool.and_eq_true] at hok
    obtain ⟨⟨⟨hm,hf⟩,hrd⟩,ht⟩:=hok
    unfold jE at h
    cases ho:ops[i]? with
    | none=>rw [ho] at h;exact h.elim
    | some o=>
     rw [ho] at h hm
     have hm':JH o=true:=by simpa using hm
     have hg:o.guard=none:=by
      unfold JH at hm';split at hm'<;>first|assumption|cases hm'
     have go:∀ x,(o.op=.move x∨o.op=.assign x)→aX (aA x) (gZ o.dst (s.ev x) s (fun s'=>jE P w0 T0 ops t s' Q)) →
       wpAny P .any ops (fun e a' w'=>e=.normal∧∃ s',Q s'∧Rep w0 T0 H s' a' w') (n+1) listed a w:=by
      rintro x hx ⟨hxo,hk⟩
      have hrun:∀ w,(execOp a.eval o).run P w=.ok (.value (a.eval x)) w:=by
       intro w;unfold execOp;rcases hx with hx|hx<;>rw [hx]<;>rfl
      have hy:Yields P ops o (a.eval x) a:=.inl ⟨by simp [Region.wanted,hg],hrun⟩
      refine wpAny_take ho hs hf hrd (by rintro c a w ⟨h,_⟩;cases h) hy ?_
      obtain ⟨m,hm⟩:=hr
      obtain ⟨s',h2,hr2⟩:=Rep.put (⟨m,hm.hold (hm.ev x hxo)⟩:Rep w0 T0 ((s.ev x,a.eval x)::H) s a w) hk
      exact ih n _ none ht s' _ w h2 hr2
     dsimp only at h
     cases hop:o.op<;>rw [hop] at h<;>first|exact h.elim|skip
     ·exact go _ (.inl hop) h
     ·exact go _ (.inr hop) h
     ·obtain ⟨hxo,hk⟩:=h
      obtain ⟨m,hm⟩:=hr
      obtain ⟨r,v,hk',hrun,hv⟩:=pz hop hxo hk hm
      have hy:Yields P ops o v a:=.inl ⟨by simp [Region.wanted,hg],hrun⟩
      refine wpAny_take ho hs hf hrd (by rintro c a w ⟨h,_⟩;cases h) hy ?_
      obtain ⟨s',h2,hr2⟩:=Rep.put (⟨m,hm.hold hv⟩:Rep w0 T0 ((r,v)::H) s a w) hk'
      exact ih n _ none ht s' _ w h2 hr2
 | cons i t r iht ihr=>
  intro n listed q hok s a w h hr
  unfold jE at h
  cases ho:ops[i]? with
  | none=>rw [ho] at h;exact h.elim
  | some o=>
   rw [ho] at h
   obtain ⟨h1,h2⟩:=h
   have one:∀ n',gu ops t n' (listed.setIfInBounds i true) none=true→wpOp P ops (fun e a' w'=>e=.normal∧∃ s',Q s'∧Rep w0 T0 H s' a' w') i (wpAny P .any ops (fun e a' w'=>e=.normal∧∃ s',Q s'∧Rep w0 T0 H s' a' w') n' (listed.setIfInBounds i true)) a w:=by
    intro n' ht
    unfold wpOp
    rw [ho]
    have:=Bq (Qc:=fun e a' w'=>e=.normal∧∃ s',Q s'∧Rep w0 T0 H s' a' w') h1 hr fun s' a' w' hk hr'=>iht n' _ none ht s' a' w' hk hr'
    dsimp only at this ⊢
    split
    ·rename_i hw;rw [if_pos hw] at this;exact .inl this
    ·rename_i hw;rw [if_neg hw] at this;exact this
   cases n with
   | zero=>cases q<;>simp [gu] at hok
   | succ n=>
    cases q with
    | none=>
     cases hrd:Region.ready .any ops listed with
     | nil=>simp [gu,hrd] at hok
     | cons j l=>
      simp only [gu,hrd,Bool.and_eq_true,beq_iff_eq] at hok
      obtain ⟨⟨rfl,ht⟩,hrest⟩:=hok
      have:=ihr (n+1) listed (some l) hrest s a w h2 hr
      obtain ⟨n',hn,hall⟩:=this
      cases hn
      refine wpAny_all hrd (by simp) fun k hk=>?_
      cases List.mem_cons.1 hk with
      | inl e=>subst e;exact one n ht
      | inr e=>exact hall k e
    | some l=>
     cases l with
     | nil=>simp [gu] at hok
     | cons j l=>
      simp only [gu,Bool.and_eq_true,beq_iff_eq] at hok
      obtain ⟨⟨rfl,ht⟩,hrest⟩:=hok
      have:=ihr (n+1) listed (some l) hrest s a w h2 hr
      obtain ⟨n',hn,hall⟩:=this
      cases hn
      refine ⟨n,rfl,fun k hk=>?_⟩
      cases List.mem_cons.1 hk with
      | inl e=>subst e;exact one n ht
      | inr e=>exact hall k e
 | stop=>
  intro n listed q hok s a w h hr
  cases n<;>cases q<;>simp [gu] at hok
  subst hok
  exact ⟨_,rfl,fun i hi=>by cases hi⟩
theorem aY.drawn {s:S} {a:Act} {w:World} {m:Nat→Value} (h:aY w0 T0 H s a w m):aY w0 T0 H s a w.drew m:=by
 have hle:dI (au T0 w0.heap.size m s w) (au T0 w0.heap.size m s w.drew):=
  jq (Nat.le_refl _) (fun _ _=>rfl) (fun _ _ _=>rfl) fun i it b hi hb _=>⟨i,it,hi,hb⟩
 exact h.wM rfl rfl hle h.below.drew (fun i it hi=>⟨(h.rows i it hi).1,(h.rows i it hi).2.mono hle fun _ _=>rfl⟩) h.sep
theorem bC.intro {id:Nat} {ops:Array Oper} {s:S} {Q:S→Prop} (t:xI) (hm:P.follows .mixedOrders=true) (hs:Region.noSelect ops=true) (ht:gu ops t ops.size (Array.replicate ops.size false) none=true)
  (h:jE P w0 T0 ops t s Q):@bC P w0 T0 b0 id ops s ⟨Q⟩:=by
 intro H a w _ hr
 refine wp_region_any hm ?_
 have hr':Rep w0 T0 H s a { w with drawn:=w.drawn+1 }:=by
  obtain ⟨m,hm⟩:=hr
  exact ⟨m,hm.drawn⟩
 exact F7 hs t _ _ none ht s a _ h hr'
theorem bC.cut {id:Nat} {ops:Array Oper} {s:S} {Q:S→Prop} (t:xI) (hm:P.follows .mixedOrders=true) (hs:Region.noSelect ops=true) (ht:gu ops t ops.size (Array.replicate ops.size false) none=true) (shape:S)
  (h:jE P w0 T0 ops t s (fun s'=>aK w0 T0 b0 s' shape)) (hk:Q shape):@bC P w0 T0 b0 id ops s ⟨Q⟩:=by
 intro H a w hH hr
 refine wp_mono (bC.intro (b0:=b0) (id:=id) t hm hs ht h H a w hH hr) ?_
 rintro e a' w' ⟨he,s',hq,hr'⟩
 exact ⟨he,shape,hk,hq H a' w' hH hr'⟩
end
end Go.Fv
/-
 States that say less; contracts of functions; calls.
-/
namespace Go.Fv
open Go.RowKit
mutual
theorem vC (p:Nat→Nat):∀ x:AV,dA x=true→ren p x=x
 | .own i,h=>by simp [dA] at h
 | .ptr i o,h=>by simp [dA] at h
 | .elt i a b c,h=>by simp [dA] at h
 | .pre i k,h=>by simp [dA] at h
 | .agg cs,h=>by simp only [ren];rw [jM p cs (by simpa [dA] using h)]
 | .tup cs,h=>by simp only [ren];rw [jM p cs (by simpa [dA] using h)]
 | .fn f cs,h=>by simp only [ren];rw [jM p cs (by simpa [dA] using h)]
 | .cell cs,_=>rfl
 | .dead,_=>rfl
 | .nilS,_=>rfl
 | .bool _,_=>rfl
 | .int _ _,_=>rfl
 | .str _,_=>rfl
 | .ro _,_=>rfl
 | .raw _,_=>rfl
 | .mp _ _,_=>rfl
 | .opt b v,h=>by simp only [ren];rw [vC p v (by simpa [dA] using h)]
theorem jM (p:Nat→Nat):∀ x:List AV,bM x=true→gK p x=x
 | [],_=>rfl
 | x::l,h=>by
  simp only [bM,Bool.and_eq_true] at h
  simp only [gK];rw [vC p x h.1,jM p l h.2]
end
def Item.ren (p:Nat→Nat):Item→Item
 | .row e r=>.row e (vN p r)
 | .box e cs=>.box e (gK p cs)
 | .map ks vs=>.map (gK p ks) (gK p vs)
 | .iter mp since seen=>.iter (p mp) since seen
 | .siter t pos=>.siter t pos
def Item.below (n:Nat):Item→Bool
 | .row _ r=>ou n r
 | .box _ cs=>aP n cs
 | .map ks vs=>aP n ks && aP n vs
 | .iter mp _ _=>decide (mp<n)
 | .siter _ _=>true
class mV (r:aG):Prop where
 ok:gy r=true
instance {l:List Bool}:mV (.bools l):=⟨rfl⟩
instance {k:IntKind} {l:List Int}:mV (.ints k l):=⟨rfl⟩
instance {l:List (List UInt8)}:mV (.strs l):=⟨rfl⟩
class lS (l:List (List AV)):Prop where
 ok:l.all bM=true
class CW {α:Type} (f:α→List AV):Prop where
 ok:∀ x,bM (f x)=true
class zx (l:List AV):Prop where
 ok:bM l=true
instance {sz:Nat} {l:List (List AV)} [h:lS l]:mV (.objs sz l):=⟨h.ok⟩
instance:lS []:=⟨rfl⟩
instance {x:List AV} {l:List (List AV)} [h:zx x] [h2:lS l]:lS (x::l):=⟨by simp [List.all_cons,h.ok,h2.ok]⟩
instance {l l':List (List AV)} [h:lS l] [h2:lS l']:lS (l++l'):=⟨by simp [List.all_append,h.ok,h2.ok]⟩
instance {α:Type} {f:α→List AV} {l:List α} [h:CW f]:lS (l.map f):=⟨by simp [List.all_map,List.all_eq_true,h.ok]⟩
instance {x:List AV} {n:Nat} [h:zx x]:lS (List.replicate n x):=⟨by simp [List.all_eq_true,List.mem_replicate,h.ok]⟩
instance {α:Type} {f:α→List AV} {x:α} [h:CW f]:zx (f x):=⟨h.ok x⟩
instance {l:List (List AV)} {n:Nat} [h:lS l]:lS (l.take n):=⟨by have:=h.ok;simp only [List.all_eq_true] at *;exact fun x hx=>this x (List.mem_of_mem_take hx)⟩
instance {l:List (List AV)} {n:Nat} [h:lS l]:lS (l.drop n):=⟨by have:=h.ok;simp only [List.all_eq_true] at *;exact fun x hx=>this x (List.mem_of_mem_drop hx)⟩
theorem Hl:∀ (l:List (List AV)) (n:Nat) (x:List AV),l.all bM=true→bM x=true→(l.set n x).all bM=true
 | [],_,_,_,_=>rfl
 | y::l,0,x,h,hx=>by simp only [List.all_cons,Bool.and_eq_true,List.set_cons_zero] at *;exact ⟨hx,h.2⟩
 | y::l,n+1,x,h,hx=>by simp only [List.all_cons,Bool.and_eq_true,List.set_cons_succ] at *;exact ⟨h.1,Hl l n x h.2 hx⟩
instance {l:List (List AV)} {n:Nat} {x:List AV} [h:lS l] [h2:zx x]:lS (l.set n x):=⟨Hl _ _ _ h.ok h2.ok⟩
class rY (x:AV):Prop where
 ok:dA x=true
instance:zx []:=⟨rfl⟩
instance {x:AV} {l:List AV} [h:rY x] [h2:zx l]:zx (x::l):=⟨by simp [bM,h.ok,h2.ok]⟩
instance {k:IntKind} {n:Int}:rY (.int k n):=⟨rfl⟩
instance {b:Bool}:rY (.bool b):=⟨rfl⟩
instance {s:List UInt8}:rY (.str s):=⟨rfl⟩
instance {r:aG}:rY (.ro r):=⟨rfl⟩
instance {r:List AV}:rY (.cell r):=⟨rfl⟩
instance:rY .nilS:=⟨rfl⟩
instance:rY .dead:=⟨rfl⟩
instance {v:Value}:rY (.raw v):=⟨rfl⟩
instance {ks vs:List AV}:rY (.mp ks vs):=⟨rfl⟩
theorem aI (r:aG) [h:mV r]:gy r=true:=h.ok
theorem P5 (p:Nat→Nat):∀ (l:List (List AV)),l.all bM=true→l.map (gK p)=l:=fun l h=>by
 simp only [List.all_eq_true] at h
 conv=>rhs;rw [←List.map_id l]
 exact List.map_congr_left fun x hx=>jM p x (h x hx)
theorem Oq (p:Nat→Nat) {r:aG} (h:gy r=true):vN p r=r:=by
 cases r with
 | objs sz l=>simp only [vN];rw [P5 p l h]
 | _=>rfl
theorem zh (p:Nat→Nat) (r:aG) [h:mV r]:vN p r=r:=Oq p h.ok
theorem gQ (n:Nat) (r:aG) [h:mV r]:ou n r=true:=Ih n r h.ok
def pm (l:List (Nat × Nat)) (i:Nat):Nat:=match lk l i with|some j=>j|none=>i
def xU (p:Nat→Nat) (s:S) (N:Nat):List (Nat × AV)→Prop
 | []=>True
 |(r,v)::l=>(s.get r=ren p v∧Fv.below N v=true)∧xU p s N l
def mF (p:Nat→Nat) (rows:List (Nat × Item)) (N:Nat):List (Nat × Item)→Prop
 | []=>True
 |(i,it)::l=>(i<N∧lk rows (p i)=some (it.ren p)∧it.below N=true∧∀ x,x∈l→x.1=i∨p x.1≠p i)∧mF p rows N l
theorem dQ {α:Type}:∀ {l:List (Nat × α)} {i:Nat} {v:α},lk l i=some v→(i,v)∈l
 |(j,x)::l,i,v,h=>by
  simp only [lk] at h
  split at h
  ·rename_i e;subst e;cases h;exact .head _
  ·exact .tail _ (dQ h)
theorem wJ {p:Nat→Nat} {s:S} {N:Nat}:∀ {l:List (Nat × AV)},xU p s N l→∀ r v,(r,v)∈l→s.get r=ren p v∧Fv.below N v=true
 |(q,y)::l,h,r,v,hm=>by
  cases List.mem_cons.1 hm with
  | inl e=>cases e;exact h.1
  | inr e=>exact wJ h.2 r v e
theorem dS {p:Nat→Nat} {rows:List (Nat × Item)} {N:Nat}:∀ {l:List (Nat × Item)},mF p rows N l→∀ i it,(i,it)∈l→i<N∧lk rows (p i)=some (it.ren p)∧it.below N=true
 |(q,y)::l,h,i,it,hm=>by
  cases List.mem_cons.1 hm with
  | inl e=>cases e;exact ⟨h.1.1,h.1.2.1,h.1.2.2.1⟩
  | inr e=>exact dS h.2 i it e
theorem rM {p:Nat→Nat} {rows:List (Nat × Item)} {N:Nat}:∀ {l:List (Nat × Item)},mF p rows N l→∀ i j it jt,(i,it)∈l→(j,jt)∈l→p i=p j→i=j
 |(q,y)::l,h,i,j,it,jt,hi,hj,e=>by
  cases List.mem_cons.1 hi with
  | inl e1=>
   cases e1
   cases List.mem_cons.1 hj with
   | inl e2=>cases e2;rfl
   | inr e2=>cases h.1.2.2.2 _ e2 with
    | inl e3=>exact e3.symm
    | inr e3=>exact absurd e.symm e3
  | inr e1=>
   cases List.mem_cons.1 hj with
   | inl e2=>
    cases e2
    cases h.1.2.2.2 _ e1 with
    | inl e3=>exact e3
    | inr e3=>exact absurd e e3
   | inr e2=>exact rM h.2 i j it jt e1 e2 e
theorem aV.ren {p:Nat→Nat} {c c':Ctx} (h:kH p c c') (hw:c'.w.heap=c.w.heap) {O:Nat→Prop} {v:Value} {it:Item} (hb:it.below c'.N=true) (hi:aV c O v (it.ren p)):aV c' O v it:=by
 have hh:∀ b:Nat,c'.w.heap[b]?=c.w.heap[b]?:=fun b=>by rw [hw]
 cases it with
 | row e r=>
  obtain ⟨n,cells,hr,hn,ho,hO⟩:=hi
  have h1:(vN p r).len=r.len:=by cases r<;>simp [vN,aG.len]
  have h2:(vN p r).sz=r.sz:=by cases r<;>rfl
  rw [h1] at hn;rw [h2] at ho
  exact ⟨n,cells,bG.ren h r hb hr,hn,o8 ho fun g _=>hh g,hO⟩
 | box e cs=>
  obtain ⟨g,vs,rfl,hg,hl,he⟩:=hi
  exact ⟨g,vs,rfl,hg,bJ.ren h cs hb hl,by rw [hh g];exact he⟩
 | map ks vs=>
  simp only [Item.below,Bool.and_eq_true] at hb
  obtain ⟨g,es,clock,rfl,hg,h1,h2,h3,h4,he⟩:=hi
  exact ⟨g,es,clock,rfl,hg,dF.ren h ks hb.1 h1,dF.ren h vs hb.2 h2,h3,h4,by rw [hh g];exact he⟩
 | iter mp since seen=>
  obtain ⟨g,q,sn,last,rfl,hg,h1,h2,h3,h4,he⟩:=hi
  have hlt:mp<c'.N:=by simpa [Item.below] using hb
  exact ⟨g,q,sn,last,rfl,hg,hlt,by rw [h.m mp hlt];exact h2,h3,h4,by rw [hh g];exact he⟩
 | siter t pos=>
  obtain ⟨g,rfl,hg,he⟩:=hi
  exact ⟨g,rfl,hg,by rw [hh g];exact he⟩
mutual
theorem jT {p:Nat→Nat} {b0:Nat} (hp:∀ i,i<b0→p i=i):∀ x:AV,Fv.below b0 x=true→ren p x=x
 | .own i,h=>by simp only [ren];rw [hp i (by simpa [Fv.below] using h)]
 | .ptr i o,h=>by simp only [ren];rw [hp i (by simpa [Fv.below] using h)]
 | .elt i a b c,h=>by simp only [ren];rw [hp i (by simpa [Fv.below] using h)]
 | .pre i k,h=>by simp only [ren];rw [hp i (by simpa [Fv.below] using h)]
 | .agg cs,h=>by simp only [ren];rw [kE hp cs (by simpa [Fv.below] using h)]
 | .tup cs,h=>by simp only [ren];rw [kE hp cs (by simpa [Fv.below] using h)]
 | .fn f cs,h=>by simp only [ren];rw [kE hp cs (by simpa [Fv.below] using h)]
 | .cell cs,_=>rfl
 | .dead,_=>rfl
 | .nilS,_=>rfl
 | .bool _,_=>rfl
 | .int _ _,_=>rfl
 | .str _,_=>rfl
 | .ro _,_=>rfl
 | .raw _,_=>rfl
 | .opt b v,h=>by simp only [ren];rw [jT hp v (by simpa [Fv.below] using h)]
 | .mp _ _,_=>rfl
theorem kE {p:Nat→Nat} {b0:Nat} (hp:∀ i,i<b0→p i=i):∀ x:List AV,aP b0 x=true→gK p x=x
 | [],_=>rfl
 | x::l,h=>by
  simp only [aP,Bool.and_eq_true] at h
  simp only [gK];rw [jT hp x h.1,kE hp l h.2]
end
theorem Rh {p:Nat→Nat} {b0:Nat} (hp:∀ i,i<b0→p i=i) (r:aG) (h:ou b0 r=true):vN p r=r:=by
 cases r with
 | objs sz l=>
  simp only [ou,List.all_eq_true] at h
  simp only [vN]
  congr 1
  conv=>rhs;rw [←List.map_id l]
  exact List.map_congr_left fun x hx=>kE hp x (h x hx)
 | _=>rfl
theorem Item.jT {p:Nat→Nat} {b0:Nat} (hp:∀ i,i<b0→p i=i) (it:Item) (h:it.below b0=true):it.ren p=it:=by
 cases it with
 | row e r=>simp only [Item.ren];rw [Rh hp r h]
 | box e cs=>simp only [Item.ren];rw [kE hp cs h]
 | map ks vs=>
  simp only [Item.below,Bool.and_eq_true] at h
  simp only [Item.ren];rw [kE hp ks h.1,kE hp vs h.2]
 | iter mp since seen=>simp only [Item.ren];rw [hp mp (by simpa [Item.below] using h)]
 | siter t pos=>rfl
theorem aV.ids {c:Ctx} {O:Nat→Prop} {v:Value} {it:Item} (h:aV c O v it):it.below c.N=true:=by
 cases it with
 | row e r=>obtain ⟨n,cells,hr,_⟩:=h;exact hr.ids
 | box e cs=>obtain ⟨g,vs,_,_,hl,_⟩:=h;exact hl.ids
 | map ks vs=>obtain ⟨g,es,clock,_,_,h1,h2,_⟩:=h;simp [Item.below,h1.ids,h2.ids]
 | iter mp since seen=>obtain ⟨g,q,sn,last,_,_,h1,_⟩:=h;simpa [Item.below] using h1
 | siter t pos=>rfl
theorem Rv.cut {w:World} {A:Nat→Prop} {m:Nat→Value} {No N:Nat} {x:AV} {u:Value} (hx:Rv ⟨w,A,m,No⟩ x u) (hb:Fv.below N x=true):Rv ⟨w,A,m,N⟩ x u:=by
 refine Rv.ren (p:=id) (c:=⟨w,A,m,No⟩) (c':=⟨w,A,m,N⟩) ⟨fun _ _=>rfl,fun b hb _=>⟨hb,rfl⟩⟩ x hb ?_
 rw [jT (p:=id) (fun _ _=>rfl) x hx.ids];exact hx
theorem aV.cut {w:World} {A:Nat→Prop} {m:Nat→Value} {No N:Nat} {O:Nat→Prop} {v:Value} {it:Item} (hx:aV ⟨w,A,m,No⟩ O v it) (hb:it.below N=true):aV ⟨w,A,m,N⟩ O v it:=by
 refine aV.ren (p:=id) (c:=⟨w,A,m,No⟩) (c':=⟨w,A,m,N⟩) ⟨fun _ _=>rfl,fun b hb _=>⟨hb,rfl⟩⟩ rfl hb ?_
 rw [Item.jT (p:=id) (fun _ _=>rfl) it hx.ids];exact hx
section
variable {P:Program} {w0:World} {T0:Bs} {b0:Nat}
theorem aK.of (l:List (Nat × Nat)) {s s':S} (hn:s'.n=s.n) (hb:b0≤s'.next) (hl:∀ x,x∈l→b0≤x.1) (he:xU (pm l) s s'.next s'.env) (hr:mF (pm l) s.rows s'.next s'.rows):aK w0 T0 b0 s s':=by
 rintro H a w hH ⟨m,hm⟩
 have hlow:∀ i,i<b0→pm l i=i:=by
  intro i hi
  unfold pm
  cases h:lk l i with
  | none=>rfl
  | some j=>have:=hl _ (dQ h);simp at this;omega
 have hren:kH (pm l) (au T0 w0.heap.size m s w) (au T0 w0.heap.size (fun i=>m (pm l i)) s' w):=
  {m:=fun _ _=>rfl,
   t:=by
    intro b ⟨h1,h2⟩ _
    refine ⟨⟨h1,fun i it hi e=>?_⟩,rfl⟩
    obtain ⟨_,h3,_⟩:=dS hr i it (dQ hi)
    exact h2 _ _ h3 e }
 refine ⟨fun i=>m (pm l i),{ size:=by rw [hn];exact hm.size,nodef:=hm.nodef,below:=hm.below,env:=?_,held:=?_,rows:=?_,sep:=?_ }⟩
 ·intro r v hv
  obtain ⟨h1,h2⟩:=wJ he r v (dQ hv)
  refine Rv.ren hren v h2 ?_
  have:Rv (au T0 w0.heap.size m s w) (s.get r) (a.tmps.getD r undef):=by
   simp only [S.get]
   cases hq:lk s.env r with
   | none=>exact .dead _
   | some y=>exact hm.env r y hq
  rw [←h1];exact this
 ·intro q hq
  have h1:=hH q hq
  refine Rv.ren hren q.1 (below_le hb _ h1) ?_
  rw [jT hlow _ h1];exact hm.held q hq
 ·intro i it hi
  obtain ⟨h1,h2,h3⟩:=dS hr i it (dQ hi)
  exact ⟨h1,aV.ren hren rfl h3 (hm.rows _ _ h2).2⟩
 ·intro i j it jt b hi hj hbi hbj
  obtain ⟨_,h2,_⟩:=dS hr i it (dQ hi)
  obtain ⟨_,h2',_⟩:=dS hr j jt (dQ hj)
  exact rM hr i j it jt (dQ hi) (dQ hj) (hm.sep _ _ _ _ b h2 h2' hbi hbj)
theorem aK.refl (s:S):aK w0 T0 b0 s s:=fun _ _ _ _ h=>h
theorem aK.trans {s s' s'':S} (h:aK w0 T0 b0 s s') (h':aK w0 T0 b0 s' s''):aK w0 T0 b0 s s'':=fun H a w hH hr=>h' H a w hH (h H a w hH hr)
/-! ### What a function hands back -/
def pK (T:Nat→Prop) (B:Nat) (w:World) (out:AV) (rows:List (Nat × Item)) (v:Value):Prop:=
 ∃ (m:Nat→Value) (N:Nat),Rv ⟨w,allow (bs T) B m rows,m,N⟩ out v ∧
  (∀ i it,lk rows i=some it→i<N∧aV ⟨w,allow (bs T) B m rows,m,N⟩ (B≤·) (m i) it) ∧
  (∀ i j it jt b,lk rows i=some it→lk rows j=some jt→blk (m i)=some b→blk (m j)=some b→i=j)
def UU (T0:Bs) (B:Nat) (w:World) (out:AV) (rows:List (Nat × Item)) (v:Value):Prop:=
 ∃ (m:Nat→Value) (N:Nat),Rv ⟨w,allow T0 B m rows,m,N⟩ out v ∧
  (∀ i it,lk rows i=some it→i<N∧aV ⟨w,allow T0 B m rows,m,N⟩ (ownB T0 B) (m i) it) ∧
  (∀ i j it jt b,lk rows i=some it→lk rows j=some jt→blk (m i)=some b→blk (m j)=some b→i=j)
theorem aV.own {c:Ctx} {O O':Nat→Prop} (h:∀ b,O b→O' b) {v:Value} {it:Item} (hi:aV c O v it):aV c O' v it:=by
 cases it with
 | row e r=>obtain ⟨n,cells,hr,hn,ho,hO⟩:=hi;exact ⟨n,cells,hr,hn,ho,fun b hb=>h b (hO b hb)⟩
 | box e cs=>obtain ⟨g,vs,rfl,hg,hl,he⟩:=hi;exact ⟨g,vs,rfl,h g hg,hl,he⟩
 | map ks vs=>obtain ⟨g,es,clock,rfl,hg,r⟩:=hi;exact ⟨g,es,clock,rfl,h g hg,r⟩
 | iter mp since seen=>obtain ⟨g,q,sn,last,rfl,hg,r⟩:=hi;exact ⟨g,q,sn,last,rfl,h g hg,r⟩
 | siter t pos=>obtain ⟨g,rfl,hg,r⟩:=hi;exact ⟨g,rfl,h g hg,r⟩
theorem aV.U7 {c:Ctx} {O O':Nat→Prop} {v:Value} {it:Item} (hi:aV c O v it) (h:∀ b,Fv.blk v=some b→O' b):aV c O' v it:=by
 cases it with
 | row e r=>obtain ⟨n,cells,hr,hn,ho,hO⟩:=hi;exact ⟨n,cells,hr,hn,ho,h⟩
 | box e cs=>obtain ⟨g,vs,rfl,hg,hl,he⟩:=hi;exact ⟨g,vs,rfl,h g rfl,hl,he⟩
 | map ks vs=>obtain ⟨g,es,clock,rfl,hg,r⟩:=hi;exact ⟨g,es,clock,rfl,h g rfl,r⟩
 | iter mp since seen=>obtain ⟨g,q,sn,last,rfl,hg,r⟩:=hi;exact ⟨g,q,sn,last,rfl,h g rfl,r⟩
 | siter t pos=>obtain ⟨g,rfl,hg,r⟩:=hi;exact ⟨g,rfl,h g rfl,r⟩
theorem MC {α:Type}:∀ {l:List (Nat × α)} {q:Nat × α},q∈l→∃ v,lk l q.1=some v
 |(j,x)::l,q,h=>by
  by_cases e:j=q.1
  ·exact ⟨x,by simp [lk,e]⟩
  ·cases List.mem_cons.1 h with
   | inl h=>subst h;exact absurd rfl e
   | inr h=>obtain ⟨v,hv⟩:=MC h;exact ⟨v,by simp [lk,e,hv]⟩
theorem UU.out {T:Nat→Prop} {B:Nat} {w:World} {out:AV} {rows:List (Nat × Item)} {v:Value} (h:UU (bs T) B w out rows v):pK T B w out rows v:=by
 obtain ⟨m,N,h1,h2,h3⟩:=h
 exact ⟨m,N,h1,fun i it hi=>⟨(h2 i it hi).1,((h2 i it hi).2).own fun b hb=>hb.resolve_right fun x=>x.1⟩,h3⟩
def aC (P:Program) (f:Nat) (args:List AV) (out:AV) (rows:List (Nat × Item)):Prop:=
 Enter P f∧∀ (w:World) (T:Nat→Prop) (vals:List Value),rV P w→dF ⟨w,T,fun _=>undef,0⟩ args vals →
  Calls P f vals.toArray w fun e w'=>∃ v,e=.returned v∧iY w.heap.size w w'∧pK T w.heap.size w' out rows v
def aB:Nat→List AV→List (Nat × AV)
 | _,[]=>[]
 | k,x::l=>(k,x)::aB (k+1) l
def Ri (P:Program) (s:S) (K:AV→Prop):ResultVar→Prop
 | .tmp t=>K (s.ev (.tmp t))
 | .cell t ty=>match s.get t with
  | .ptr i off=>match lk s.rows i with
   | some (.box _ cs)=>gY P ty (cs.drop off) K
   | _=>False
  | _=>False
def wZ (P:Program) (s:S):List ResultVar→(List AV→Prop)→Prop
 | [],K=>K []
 | x::l,K=>Ri P s (fun v=>wZ P s l (fun vs=>K (v::vs))) x
def kQ:List AV→AV
 | [x]=>x
 | l=>.tup l
def bg (P:Program) (w0:World) (T0:Bs) (res:List ResultVar) (out:AV) (rows:List (Nat × Item)) (s:S):Prop:=
 ∀ (a:Act) (w:World),Rep w0 T0 [] s a w→∃ v,(∀ (fn:Func),fn.results=res.toArray→(results fn a.tmps).run P w=.ok v w)∧UU T0 w0.heap.size w out rows v
def Post (P:Program) (w0:World) (T0:Bs) (res:List ResultVar) (out:AV) (rows:List (Nat × Item)):Exit→S→Prop
 | .normal,s=>bg P w0 T0 res out rows s
 | .ret,s=>bg P w0 T0 res out rows s
 | _,_=>False
@[congr] theorem VY {P:Program} {res:List ResultVar} {out:AV} {rows:List (Nat × Item)} {s s':S} (h:s=s'):bg P w0 T0 res out rows s=bg P w0 T0 res out rows s':=by rw [h]
def Ou (tmps:Array Value):ResultVar→Sem Value
 | .tmp t=>pure (tmps.getD t undef)
 | .cell a t=>do loadVar t (←asAddr (tmps.getD a undef))
theorem qF {P:Program} {H:List (AV × Value)} {s:S} {a:Act} {w:World} {m:Nat→Value} (hm:aY w0 T0 H s a w m):∀ {res:List ResultVar} {K:List AV→Prop},wZ P s res K →
  ∃ l vs,K l∧(res.mapM (Ou a.tmps)).run P w=.ok vs w∧dF (au T0 w0.heap.size m s w) l vs
 | [],K,h=>⟨[],[],h,rfl,.nil⟩
 | x::res,K,h=>by
  have key:∃ v u,wZ P s res (fun vs=>K (v::vs))∧(Ou a.tmps x).run P w=.ok u w∧Rv (au T0 w0.heap.size m s w) v u:=by
   unfold wZ at h
   cases x with
   | tmp t=>exact ⟨_,_,h,rfl,hm.ev (.tmp t) trivial⟩
   | cell t ty=>
    simp only [Ri] at h
    split at h
    ·rename_i i off hg
     have hl:lk s.env t=some (.ptr i off):=by
      simp only [S.get] at hg
      cases hl:lk s.env t with
      | none=>rw [hl] at hg;cases hg
      | some y=>rw [hl] at hg;exact congrArg some hg
     have hp:=hm.env t _ hl
     split at h
     ·rename_i e cs hi
      generalize hvt:a.tmps.getD t undef=vt at hp
      cases hp with
      | ptr _ _ g _ hg=>
       obtain ⟨g',vs,hv,_,hl,hh⟩:=(hm.rows i _ hi).2
       have hmi:blk (m i)=some g:=hg
       rw [hv] at hmi;cases hmi
       obtain ⟨r,v,hk,hr,hrv⟩:=nG (c:=au T0 w0.heap.size m s w) (a:=⟨g',off,none⟩) h (hl.drop off) fun j u hu=>by
        rw [Addr.add_lit]
        rw [List.getElem?_drop] at hu
        have:=cell_of_row w g' (off+j) vs.toArray e (0,0) hh
        show w.cell? _=_
        rw [this];simpa using hu
       refine ⟨r,v,hk,?_,hrv⟩
       have hr':(loadVar ty ⟨g',off,none⟩).run P w=.ok v w:=hr
       simp [Ou,hvt,asAddr,hr']
     ·exact h.elim
    ·exact h.elim
  obtain ⟨v,u,hk,hr,hv⟩:=key
  obtain ⟨l,vs,hk',hr',hvs⟩:=qF hm hk
  refine ⟨v::l,u::vs,hk',?_,.cons _ _ _ _ hv hvs⟩
  rw [List.mapM_cons]
  simp [Sem.run_bind,hr,hr',Result.andThen]
def KE:List Value→Value
 | [v]=>v
 | l=>.tuple l.toArray
theorem Kt (fn:Func) (tmps:Array Value):results fn tmps=(fn.results.mapM (Ou tmps) >>= fun vs=>pure (if h:vs.size=1 then vs[0] else .tuple vs)):=by
 unfold results
 congr 1
theorem lC {P:Program} {fn:Func} {res:List ResultVar} (h:fn.results=res.toArray) (tmps:Array Value) {w:World} {vs:List Value} (hr:(res.mapM (Ou tmps)).run P w=.ok vs w) :
  (results fn tmps).run P w=.ok (KE vs) w:=by
 rw [Kt,h]
 have e2:=List.mapM_toArray (f:=Ou tmps) (l:=res)
 rw [e2]
 simp only [Sem.run_bind,Sem.run_map,hr,Result.andThen]
 match vs with
 | []=>rfl
 | [v]=>rfl
 | v::v'::l=>simp [KE]
theorem bg.of {P:Program} (l:List (Nat × Nat)) (N:Nat) {res:List ResultVar} {out:AV} {rows:List (Nat × Item)} {s:S} (h:wZ P s res (fun vs=>kQ vs=ren (pm l) out)) (hb:Fv.below N out=true) (hr:mF (pm l) s.rows N rows):bg P w0 T0 res out rows s:=by
 rintro a w ⟨m,hm⟩
 obtain ⟨vs,us,he,hrun,hvs⟩:=qF hm h
 have hrv:Rv (au T0 w0.heap.size m s w) (kQ vs) (KE us):=by
  cases hvs with
  | nil=>exact .tup _ _ .nil
  | cons x v l us hx ht=>
   cases ht with
   | nil=>exact hx
   | cons x' v' l' us' hx' ht'=>exact .tup _ _ (.cons _ _ _ _ hx (.cons _ _ _ _ hx' ht'))
 have hren:kH (pm l) (au T0 w0.heap.size m s w) ⟨w,allow T0 w0.heap.size (fun i=>m (pm l i)) rows,fun i=>m (pm l i),N⟩:=
  {m:=fun _ _=>rfl,
   t:=by
    intro b ⟨h1,h2⟩ _
    refine ⟨⟨h1,fun i it hi e=>?_⟩,rfl⟩
    obtain ⟨_,h3,_⟩:=dS hr i it (dQ hi)
    exact h2 _ _ h3 e }
 refine ⟨_,fun fn hf=>lC hf a.tmps hrun,fun i=>m (pm l i),N,Rv.ren hren out hb (by rw [←he];exact hrv),fun i it hi=>?_,fun i j it jt b hi hj hbi hbj=>?_⟩
 ·obtain ⟨h1,h2,h3⟩:=dS hr i it (dQ hi)
  exact ⟨h1,aV.ren hren rfl h3 (hm.rows _ _ h2).2⟩
 ·obtain ⟨_,h2,_⟩:=dS hr i it (dQ hi)
  obtain ⟨_,h2',_⟩:=dS hr j jt (dQ hj)
  exact rM hr i j it jt (dQ hi) (dQ hj) (hm.sep _ _ _ _ b h2 h2' hbi hbj)
theorem qN {c:Ctx}:∀ {args:List AV} {vals:List Value} (k:Nat) (pre:List Value),pre.length=k→dF c args vals→∀ r v,lk (aB k args) r=some v→∃ u,(pre++vals)[r]?=some u∧Rv c v u
 | _,_,k,pre,hk,.nil,r,v,h=>by simp [aB,lk] at h
 | _,_,k,pre,hk,.cons x u l vs hx ht,r,v,h=>by
  simp only [aB,lk] at h
  split at h
  ·rename_i e;subst e;cases h
   exact ⟨u,by rw [List.getElem?_append_right (by omega)];simp [hk],hx⟩
  ·obtain ⟨u',h1,h2⟩:=qN (k+1) (pre++[u]) (by simp [hk]) ht r v h
   exact ⟨u',by simpa using h1,h2⟩
theorem aC.of_run {f:Nat} {fn:Func} {c:Code} {args:List AV} {out:AV} {rows:List (Nat × Item)} (hf:P.funcs[f]?=some fn) (hb:fn.body=some c)
  (hnm:(fn.name == "runtime.NumGoroutine")=false) (hn:args.length≤fn.ntmps) (res:List ResultVar) (hres:fn.results=res.toArray)
  (h:∀ (w0:World) (T0:Bs) [qL P w0 T0],ig P w0 T0 0 c ⟨fn.ntmps,aB 0 args,[],0⟩ (Post P w0 T0 res out rows)):aC P f args out rows:=by
 refine ⟨⟨fn,hf,by rw [hb];rfl,hnm⟩,fun w T vals hgl hv=>?_⟩
 haveI:qL P w (bs T):=⟨hgl,fun _ _ _ h=>h.1⟩
 refine calls_of_wp hf hb ?_
 have hlen:=hv.length
 have hle:dI (⟨w,T,fun _=>undef,0⟩:Ctx) (au (bs T) w.heap.size (fun _=>undef) ⟨fn.ntmps,aB 0 args,[],0⟩ w):=
  ⟨Nat.le_refl _,fun _ _=>rfl,fun b hb _=>⟨⟨.inr hb,fun i it hi=>by simp [lk] at hi⟩,rfl⟩⟩
 have hrep:aY w (bs T) [] ⟨fn.ntmps,aB 0 args,[],0⟩ { tmps:=vals.toArray++Array.replicate (fn.ntmps - vals.toArray.size) undef,defers:=[] } w (fun _=>undef):=
  {size:=by simp;omega,nodef:=rfl,below:=bn.refl _ _,
   env:=by
    intro r v hr
    obtain ⟨u,h1,h2⟩:=qN 0 [] rfl hv r v hr
    have e:((vals.toArray++Array.replicate (fn.ntmps - vals.toArray.size) undef).getD r undef)=u:=by
     have h1':vals[r]?=some u:=by simpa using h1
     have hlt:r<vals.length:=(List.getElem?_eq_some_iff.1 h1').1
     rw [Array.getD_eq_getD_getElem?,Array.getElem?_append_left (by simpa using hlt)]
     simp [h1']
    rw [e];exact h2.mono hle,
   held:=fun p hp=>absurd hp (by simp),rows:=fun i it hi=>absurd hi (by simp [lk]),sep:=fun i j it jt b hi=>absurd hi (by simp [lk]) }
 refine wp_mono (h w (bs T) [] _ w (fun p hp=>absurd hp (by simp)) ⟨_,hrep⟩) ?_
 rintro e a w' ⟨s',hq,hr⟩
 have fin:bg P w (bs T) res out rows s'→a.defers=[]∧∃ v,(results fn a.tmps).run P w'=.ok v w'∧∃ v',Ending.returned v=.returned v'∧iY w.heap.size w w'∧pK T w.heap.size w' out rows v':=by
  intro hret
  obtain ⟨v,hv,hout⟩:=hret a w' hr
  obtain ⟨m,hm⟩:=hr
  exact ⟨hm.nodef,v,hv fn hres,v,rfl,(hm.below.mono fun b hb=>hb.1).below,hout.out⟩
 cases e with
 | normal=>exact fin hq
 | ret=>exact fin hq
 | _=>exact hq.elim
theorem aC.aJ {f:Nat} {fn:Func} {c:Code} {args:List AV} {out:AV} {rows:List (Nat × Item)} (hf:P.funcs[f]?=some fn) (hb:fn.body=some c)
  (hnm:(fn.name == "runtime.NumGoroutine")=false) (hn:args.length≤fn.ntmps) (res:List ResultVar) (hres:fn.results=res.toArray)
  (h:∀ (w0:World) (T0:Bs) [qL P w0 T0],jd P w0 T0 0 c (Post P w0 T0 res out rows) ⟨fn.ntmps,aB 0 args,[],0⟩):aC P f args out rows:=
 .of_run hf hb hnm hn res hres fun w0 T0=>.of (h w0 T0)
end
end Go.Fv
