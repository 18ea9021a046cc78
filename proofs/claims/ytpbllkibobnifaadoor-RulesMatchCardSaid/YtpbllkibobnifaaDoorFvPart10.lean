/-
  A part of the proof of the claim: walks over the program's functions and the plain laws that these need. No condition of its own.
-/
import Derived.Test.YtpbllkibobnifaaDoorFvPart9
set_option linter.unusedSectionVars false
set_option linter.unusedVariables false
set_option linter.unusedSimpArgs false
set_option linter.unnecessarySimpa false
namespace Go.Fv
open Go.RowKit
section
variable {P:Program} {w0:World} {T0:Bs} {ops:Array Oper} [hG:qB P w0 T0]
def MJ (env1 env:List (Nat × AV)):Prop:=∀ r x,lk env1 r=some x→x=.dead∨lk env r=some x∨lk env r=some (.opt true x)
theorem bC.restrict {H:List (AV × Value)} {s:S} {a:Act} {w:World} {m:Nat→Value} (h:bC w0 T0 H s a w m) {env1:List (Nat × AV)} (he:MJ env1 s.env):bC w0 T0 H { s with env:=env1 } a w m:=
 {size:=h.size,nodef:=h.nodef,below:=h.below,held:=h.held,rows:=h.rows,sep:=h.sep,
  env:=by
   intro r v hv
   rcases he r v hv with rfl|hx|hx
   ·exact .dead _
   ·exact h.env r v hx
   ·have:=h.env r _ hx
    cases this with
    | opt _ _ _ _ h1 _=>exact h1 rfl }
theorem aT.frame {o:Oper} {s:S} {env1:List (Nat × AV)} {v:AV} {R:List (Nat × Item)} {N:Nat} (h:aT P w0 T0 o { s with env:=env1 } (fun r s'=>r=v∧s'.rows=R∧s'.next=N)) (he:MJ env1 s.env) :
  aT P w0 T0 o s (fun r s'=>r=v∧s'={ s with rows:=R,next:=N }):=by
 intro H a w next Q ⟨m,hm⟩ hn
 let E:List (AV × Value):=s.env.map fun p=>(s.get p.1,a.tmps.getD p.1 undef)
 have hE:∀ r x,lk s.env r=some x→(x,a.tmps.getD r undef)∈E:=by
  intro r x hx
  have:∀ l:List (Nat × AV),lk l r=some x→∃ p,p∈l∧p.1=r:=by
   intro l
   induction l with
   | nil=>intro h;simp [lk] at h
   | cons q l ih=>
    intro h
    simp only [lk] at h
    split at h
    ·rename_i e;exact ⟨q,.head _,e⟩
    ·obtain ⟨p,hp,e⟩:=ih h;exact ⟨p,.tail _ hp,e⟩
  obtain ⟨p,hp,e⟩:=this _ hx
  refine List.mem_map.2 ⟨p,hp,?_⟩
  subst e
  simp [S.get,hx]
 have hm1:bC w0 T0 (E++H) { s with env:=env1 } a w m:=by
  have h1:=hm.restrict he
  refine { h1 with held:=?_ }
  intro p hp
  rcases List.mem_append.1 hp with hp|hp
  ·obtain ⟨q,hq,rfl⟩:=List.mem_map.1 hp
   show Rv _ (s.get q.1) _
   simp only [S.get]
   cases hl:lk s.env q.1 with
   | none=>exact .dead _
   | some x=>exact hm.env _ _ hl
  ·exact hm.held p hp
 refine h (E++H) a w next Q ⟨m,hm1⟩ ?_
 rintro r s' val w' ⟨rfl,hr,hx⟩ ⟨m',hm'⟩
 refine hn _ _ val w' ⟨rfl,rfl⟩ ⟨m',?_⟩
 subst hr;subst hx
 refine { size:=hm.size,nodef:=hm'.nodef,below:=hm'.below,rows:=hm'.rows,sep:=hm'.sep,env:=?_,held:=?_ }
 ·intro r x hx
  exact hm'.held _ (List.mem_cons_of_mem _ (List.mem_append_left _ (hE r x hx)))
 ·intro p hp
  rcases List.mem_cons.1 hp with rfl|hp
  ·exact hm'.held _ (.head _)
  ·exact hm'.held p (List.mem_cons_of_mem _ (List.mem_append_right _ hp))
theorem oK (s:S):∀ l:List Operand,MJ (fB s l) s.env
 | []=>by intro r x h;simp [fB,lk] at h
 | .tmp t::l=>by
  intro r x h
  simp only [fB,lk] at h
  split at h
  ·rename_i e;subst e;cases h
   simp only [S.get]
   cases hl:lk s.env t with
   | none=>exact .inl rfl
   | some y=>exact .inr (.inl rfl)
  ·exact oK s l r x h
 | .const _::l=>by intro r x h;exact oK s l r x h
 | .func _::l=>by intro r x h;exact oK s l r x h
 | .global _::l=>by intro r x h;exact oK s l r x h
theorem qZ (s:S):∀ l:List Operand,fD s l=true→MJ (jD s l) s.env
 | [],_=>by intro r x h;simp [jD,lk] at h
 | .tmp t::l,hc=>by
  intro r x h
  simp only [fD] at hc
  simp only [jD,lk] at h
  split at h
  ·rename_i e;subst e;cases h
   cases hg:s.get t with
   | opt c v=>
    rw [hg] at hc
    simp only [Bool.and_eq_true] at hc
    simp only [S.get] at hg
    cases hl:lk s.env t with
    | none=>rw [hl] at hg;cases hg
    | some y=>rw [hl] at hg;simp only at hg;subst hg;rw [hc.1];exact .inr (.inr rfl)
   | _=>
    simp only [S.get] at hg
    cases hl:lk s.env t with
    | none=>rw [hl] at hg;simp only at hg;first|(cases hg;done)|(cases hg;exact .inl rfl)
    | some y=>rw [hl] at hg;simp only at hg;subst hg;exact .inr (.inl rfl)
  ·refine qZ s l ?_ r x h
   split at hc
   ·simp only [Bool.and_eq_true] at hc;exact hc.2
   ·exact hc
 | .const _::l,hc=>by intro r x h;exact qZ s l (by simpa [fD] using hc) r x h
 | .func _::l,hc=>by intro r x h;exact qZ s l (by simpa [fD] using hc) r x h
 | .global _::l,hc=>by intro r x h;exact qZ s l (by simpa [fD] using hc) r x h
theorem iY {s s':S}:∀ l:List Operand,(∀ t,.tmp t∈l→s'.get t=s.get t)→fB s' l=fB s l
 | [],_=>rfl
 | .tmp t::l,h=>by simp only [fB];rw [h t (.head _),iY l fun t ht=>h t (.tail _ ht)]
 | .const _::l,h=>by simp only [fB];exact iY l fun t ht=>h t (.tail _ ht)
 | .func _::l,h=>by simp only [fB];exact iY l fun t ht=>h t (.tail _ ht)
 | .global _::l,h=>by simp only [fB];exact iY l fun t ht=>h t (.tail _ ht)
theorem iZ {s s':S}:∀ l:List Operand,(∀ t,.tmp t∈l→s'.get t=s.get t)→jD s' l=jD s l∧fD s' l=fD s l
 | [],_=>⟨rfl,rfl⟩
 | .tmp t::l,h=>by simp only [jD,fD];rw [h t (.head _),(iZ l fun t ht=>h t (.tail _ ht)).1,(iZ l fun t ht=>h t (.tail _ ht)).2];exact ⟨rfl,rfl⟩
 | .const _::l,h=>by simp only [jD,fD];exact iZ l fun t ht=>h t (.tail _ ht)
 | .func _::l,h=>by simp only [jD,fD];exact iZ l fun t ht=>h t (.tail _ ht)
 | .global _::l,h=>by simp only [jD,fD];exact iZ l fun t ht=>h t (.tail _ ht)
def QS (P:Program) (w0:World) (T0:Bs) (ops:Array Oper) (o:Oper) (n:Nat) (get:Nat→AV) (h h':uj) (v:AV):Prop:=
 ∀ env,(∀ r,r∈o.looksAt ops→S.get ⟨n,env,[],0⟩ r=get r) →
  ∀ (H:List (AV × Value)) (a:Act) (w:World) (K:Act→World→Prop) (Qx:Exit→Act→World→Prop),Rep w0 T0 H ⟨n,env,h.1,h.2⟩ a w →
   (∀ val w',Rep w0 T0 ((v,val)::H) ⟨n,env,h'.1,h'.2⟩ a w'→K (a.put o.dst val) w') →
   if Region.wanted o (yielded ops a.tmps)=true then o.wp P a w K Qx else K (a.put o.dst undef) w
theorem zy {s:S} {o:Oper} (h:gd ops s o=some none):o.guard=none:=by
 unfold gd at h
 split at h
 ·assumption
 ·split at h
  ·split at h<;>simp at h
  ·simp at h
theorem Oy {H:List (AV × Value)} {s:S} {o:Oper} {c:Bool} (h:gd ops s o=some (some c)) {a:Act} {w:World} (hr:Rep w0 T0 H s a w):Region.wanted o (yielded ops a.tmps)=c:=by
 unfold gd at h
 cases hg:o.guard with
 | none=>rw [hg] at h;simp at h
 | some jw=>
  obtain ⟨j,want⟩:=jw
  rw [hg] at h
  dsimp only at h
  cases hd:(ops[j]?).bind (·.dst) with
  | none=>rw [hd] at h;simp at h
  | some r=>
   rw [hd] at h
   dsimp only at h
   have hslot:∀ x,s.get r=x→x≠.dead→lk s.env r=some x:=by
    intro x hx hne
    simp only [S.get] at hx
    cases hl:lk s.env r with
    | none=>rw [hl] at hx;exact absurd hx.symm hne
    | some y=>rw [hl] at hx;exact congrArg some hx
   have hyield:∀ b,a.tmps.getD r undef=.bool b→yielded ops a.tmps j=some b:=by
    intro b hvv
    have h1:a.tmps[r]?=some (.bool b):=by
     rw [Array.getD_eq_getD_getElem?] at hvv
     cases hq:a.tmps[r]? with
     | none=>rw [hq] at hvv;simp [undef] at hvv
     | some y=>rw [hq] at hvv;simpa using hvv
    simp [yielded,hd,h1]
   have hyno:a.tmps.getD r undef=undef→yielded ops a.tmps j=none:=by
    intro hvv
    cases hq:a.tmps[r]? with
    | none=>simp [yielded,hd,hq]
    | some y=>
     rw [Array.getD_eq_getD_getElem?,hq] at hvv
     have:y=undef:=by simpa using hvv
     subst this
     simp [yielded,hd,hq,undef]
   obtain ⟨m,hm⟩:=hr
   split at h
   ·rename_i b hb
    have hl:=hslot _ hb (by simp)
    have hv:=hm.env r _ hl
    generalize hvv:a.tmps.getD r undef=vv at hv
    cases hv
    have hy:=hyield b hvv
    simp only [Option.some.injEq] at h
    subst h
    cases want<;>cases b<;>simp [Region.wanted,hg,hy]
   ·rename_i c b hb
    have hl:=hslot _ hb (by simp)
    have hv:=hm.env r _ hl
    simp only [Option.some.injEq] at h
    subst h
    cases hv with
    | opt _ _ _ _ h1 h2=>
     cases c with
     | true=>
      have h1':=h1 rfl
      generalize hvv:a.tmps.getD r undef=vv at h1'
      cases h1'
      have hy:=hyield b hvv
      cases want<;>cases b<;>simp [Region.wanted,hg,hy]
     | false=>
      have hy:=hyno (h2 rfl)
      cases want<;>simp [Region.wanted,hg,hy]
   ·simp at h
theorem QD {s s':S} {o:Oper} (h:∀ r,r∈o.looksAt ops→s'.get r=s.get r):gd ops s' o=gd ops s o:=by
 unfold gd
 cases hg:o.guard with
 | none=>rfl
 | some jw=>
  obtain ⟨j,want⟩:=jw
  dsimp only
  cases hd:(ops[j]?).bind (·.dst) with
  | none=>rfl
  | some r=>
   dsimp only
   rw [h r (by simp [Oper.looksAt,hg,hd])]
theorem QS.plain {o:Oper} {s:S} {h h':uj} {v:AV} (hg:o.guard=none) (hop:∀ env,(∀ r,r∈o.looksAt ops→S.get ⟨s.n,env,[],0⟩ r=s.get r)→aT P w0 T0 o ⟨s.n,env,h.1,h.2⟩ (fun r s'=>r=v∧s'=⟨s.n,env,h'.1,h'.2⟩)) :
  QS P w0 T0 ops o s.n s.get h h' v:=by
 intro env he H a w K Qx hr hk
 rw [if_pos (by simp [Region.wanted,hg])]
 refine hop env he H a w K Qx hr ?_
 rintro r s' val w' ⟨rfl,rfl⟩ hr'
 exact hk val w' hr'
theorem QS.guarded {o:Oper} {s:S} {h h':uj} {v:AV} {c:Bool} (hg:gd ops s o=some (some c))
  (hop:c=true→∀ env,(∀ r,r∈o.looksAt ops→S.get ⟨s.n,env,[],0⟩ r=s.get r)→aT P w0 T0 o ⟨s.n,env,h.1,h.2⟩ (fun r s'=>r=v∧s'=⟨s.n,env,h'.1,h'.2⟩))
  (hno:c=false→h'=h∧Fv.below h.2 v=true):QS P w0 T0 ops o s.n s.get h h' (.opt c v):=by
 intro env he H a w K Qx hr hk
 have hgd:gd ops ⟨s.n,env,h.1,h.2⟩ o=some (some c):=by rw [←hg];exact QD he
 rw [Oy hgd hr]
 cases c with
 | true=>
  simp only [if_true]
  refine hop rfl env he H a w K Qx hr ?_
  rintro r s' val w' ⟨rfl,rfl⟩ ⟨m',hm'⟩
  have hv:=hm'.held _ (.head _)
  exact hk val w' ⟨m',hm'.mO.hold (.opt true _ val hv.ids (fun _=>hv) (fun e=>by cases e))⟩
 | false=>
  obtain ⟨rfl,hb⟩:=hno rfl
  simp only [Bool.false_eq_true,if_false]
  obtain ⟨m,hm⟩:=hr
  exact hk undef w ⟨m,hm.hold (.opt false v undef hb (fun e=>by cases e) (fun _=>rfl))⟩
theorem FN {o:Oper} {s:S} (hl:∀ t,.tmp t∈gY o.op→t∈o.looksAt ops) {h:uj} {R:List (Nat × Item)} {N:Nat} {v:AV}
  (hv:qw P w0 T0 o ⟨s.n,fB s (gY o.op),h.1,h.2⟩ (fun r s'=>r=v∧s'.rows=R∧s'.next=N)) :
  ∀ env,(∀ r,r∈o.looksAt ops→S.get ⟨s.n,env,[],0⟩ r=s.get r)→aT P w0 T0 o ⟨s.n,env,h.1,h.2⟩ (fun r s'=>r=v∧s'=⟨s.n,env,R,N⟩):=by
 intro env he
 have e:fB ⟨s.n,env,h.1,h.2⟩ (gY o.op)=fB s (gY o.op):=iY _ fun t ht=>he t (hl t ht)
 have:=mQ hv
 rw [←e] at this
 exact this.frame (s:=⟨s.n,env,h.1,h.2⟩) (oK _ _)
theorem FP {o:Oper} {s:S} (hl:∀ t,.tmp t∈gY o.op→t∈o.looksAt ops) {h:uj} {R:List (Nat × Item)} {N:Nat} {v:AV} (hc:fD s (gY o.op)=true)
  (hv:qw P w0 T0 o ⟨s.n,jD s (gY o.op),h.1,h.2⟩ (fun r s'=>r=v∧s'.rows=R∧s'.next=N)) :
  ∀ env,(∀ r,r∈o.looksAt ops→S.get ⟨s.n,env,[],0⟩ r=s.get r)→aT P w0 T0 o ⟨s.n,env,h.1,h.2⟩ (fun r s'=>r=v∧s'=⟨s.n,env,R,N⟩):=by
 intro env he
 have e:=iZ (s:=s) (s':=⟨s.n,env,h.1,h.2⟩) (gY o.op) fun t ht=>he t (hl t ht)
 have:=mQ hv
 rw [←e.1] at this
 exact this.frame (s:=⟨s.n,env,h.1,h.2⟩) (qZ _ _ (by rw [e.2];exact hc))
theorem Ik {o:Oper} {s:S} (hl:∀ t,.tmp t∈gY o.op→t∈o.looksAt ops) {h:uj} {R:List (Nat × Item)} {N:Nat} {pre:Prop} {b:Bool} (hg:vS ⟨s.n,fB s (gY o.op),R,N⟩ o.op=some (pre,b)) (hp:pre) (hok:uM o.op) :
  ∀ env,(∀ r,r∈o.looksAt ops→S.get ⟨s.n,env,[],0⟩ r=s.get r)→aT P w0 T0 o ⟨s.n,env,h.1,h.2⟩ (fun r s'=>r=.bool b∧s'=⟨s.n,env,h.1,h.2⟩):=by
 intro env he
 have e:fB ⟨s.n,env,h.1,h.2⟩ (gY o.op)=fB s (gY o.op):=iY _ fun t ht=>he t (hl t ht)
 have hg':vS ⟨s.n,fB s (gY o.op),h.1,h.2⟩ o.op=some (pre,b):=hg
 intro H a w next Q ⟨m,hm⟩ hn
 have hm1:=hm.restrict (oK ⟨s.n,env,h.1,h.2⟩ (gY o.op))
 rw [e] at hm1
 have hrun:=qQ (P:=P) hg' hp hok ⟨m,hm1⟩
 unfold Oper.wp
 rw [hrun]
 exact hn _ _ (.bool b) w ⟨rfl,rfl⟩ ⟨m,hm.hold (.bool b)⟩
end
def qI (T:List Nat) (i q:Nat):Bool:=(T.getD i 0).testBit q
def Bd (ops:Array Oper):List Nat:=
 ops.toList.foldl (fun acc o=>acc++[o.after.toList.foldl (fun s e=>bif Region.binds .any e then s ||| 2 ^ e.on ||| acc.getD e.on 0 else s) 0]) []
def kP (es:List Nat) (i:Nat):Nat:=(List.range i).countP fun j=>es.elem j
def wC (ops:Array Oper) (f:Nat→Oper→Bool):Bool:=(List.range ops.size).all fun i=>match ops[i]? with
 | some o=>f i o
 | none=>true
theorem gW {ops:Array Oper} {f:Nat→Oper→Bool} (h:wC ops f=true) {i:Nat} {o:Oper} (hi:ops[i]?=some o):f i o=true:=by
 have h1:=List.all_eq_true.1 h i (List.mem_range.2 (Array.getElem?_eq_some_iff.1 hi).1)
 simpa [hi] using h1
def vZ (ops:Array Oper) (es:List Nat) (tb:List (Nat × List Nat)) (T:List Nat):Bool:=
 Region.noSelect ops &&
 wC ops (fun (i:Nat) (o:Oper)=>o.after.all fun e=>!Region.binds .any e || decide (e.on<i)) &&
 wC ops (fun (i:Nat) (o:Oper)=>(List.range ops.size).all fun q=>!qI T i q || o.after.any fun e=>Region.binds .any e && (e.on == q || qI T e.on q)) &&
 wC ops (fun (i:Nat) (o:Oper)=>match o.dst with
  | none=>true
  | some r=>wC ops fun (j:Nat) (oj:Oper)=>j == i || oj.dst != some r) &&
 wC ops (fun (i:Nat) (o:Oper)=>wC ops fun (j:Nat) (oj:Oper)=>match oj.dst with
  | none=>true
  | some r=>!(o.looksAt ops).contains r || (qI T i j && decide (j<i)) || (!qI T i j && (decide (i<j) && qI T j i))) &&
 wC ops (fun (i:Nat) (o:Oper)=>(gY o.op).all fun x=>match x with
  | .tmp t=>(o.looksAt ops).contains t
  | _=>true) &&
 (List.range es.length).all (fun k=>match es[k]? with
  | some i=>decide (i<ops.size) && kP es i == k && (match es[k+1]? with
   | some i'=>qI T i' i
   | none=>true)
  | none=>true) &&
 wC ops (fun (i:Nat) (o:Oper)=>es.elem i || (List.range (es.length+1)).all fun k=>k == kP es i || (oH tb i).contains k || (es.drop k).any (fun e=>qI T i e) || (es.take k).any (fun e=>qI T e i)) &&
 kP es ops.size == es.length
structure lW (ops:Array Oper) (es:List Nat) (tb:List (Nat × List Nat)) (T:List Nat):Prop where
 sel:Region.noSelect ops=true
 low:∀ (i:Nat) (o:Oper),ops[i]?=some o→∀ e,e∈o.after→Region.binds .any e=true→e.on<i
 anc:∀ (i:Nat) (o:Oper),ops[i]?=some o→∀ q,q<ops.size→qI T i q=true→∃ e,e∈o.after∧Region.binds .any e=true∧(e.on=q∨qI T e.on q=true)
 dst:∀ (i:Nat) (o:Oper) (r j:Nat) (oj:Oper),ops[i]?=some o→ops[j]?=some oj→o.dst=some r→oj.dst=some r→j=i
 look:∀ (i:Nat) (o:Oper) (r j:Nat) (oj:Oper),ops[i]?=some o→ops[j]?=some oj→oj.dst=some r→r∈o.looksAt ops→(qI T i j=true∧j<i)∨(qI T i j=false∧i<j∧qI T j i=true)
 reads:∀ (i:Nat) (o:Oper),ops[i]?=some o→∀ t,.tmp t∈gY o.op→t∈o.looksAt ops
 es1:∀ k i,es[k]?=some i→i<ops.size∧kP es i=k
 es2:∀ k i i',es[k]?=some i→es[k+1]?=some i'→qI T i' i=true
 heaps:∀ (i:Nat) (o:Oper),ops[i]?=some o→es.elem i=false→∀ k,k≤es.length→k=kP es i∨k∈oH tb i∨(∃ k' e,k≤k'∧es[k']?=some e∧qI T i e=true)∨(∃ k' e,k'<k∧es[k']?=some e∧qI T e i=true)
 tot:kP es ops.size=es.length
theorem lW.of {ops:Array Oper} {es:List Nat} {tb:List (Nat × List Nat)} {T:List Nat} (h:vZ ops es tb T=true):lW ops es tb T:=by
 simp only [vZ,Bool.and_eq_true] at h
 obtain ⟨⟨⟨⟨⟨⟨⟨⟨h1,h2⟩,h3⟩,h4⟩,h5⟩,h6⟩,h7⟩,h8⟩,h9⟩:=h
 refine ⟨h1,?_,?_,?_,?_,?_,?_,?_,?_,by simpa using h9⟩
 ·intro i o hi e he hb
  have:=gW h2 hi
  have:=Array.all_eq_true_iff_forall_mem.1 this e he
  simpa [hb] using this
 ·intro i o hi q hq hb
  have:=gW h3 hi
  have:=List.all_eq_true.1 this q (List.mem_range.2 hq)
  simp only [hb,Bool.not_true,Bool.false_or] at this
  obtain ⟨e,he,hh⟩:=Array.any_eq_true'.1 this
  simp only [Bool.and_eq_true,Bool.or_eq_true,beq_iff_eq] at hh
  exact ⟨e,he,hh.1,hh.2⟩
 ·intro i o r j oj hi hj hd hdj
  have:=gW h4 hi
  rw [hd] at this
  have:=gW this hj
  simp only [Bool.or_eq_true,beq_iff_eq,hdj,bne_self_eq_false,Bool.false_eq_true,or_false] at this
  exact this
 ·intro i o r j oj hi hj hd hr
  have:=gW (gW h5 hi) hj
  rw [hd] at this
  simp only [Bool.or_eq_true,Bool.not_eq_true',Bool.and_eq_true,decide_eq_true_eq] at this
  rcases this with (h0|h0)|h0
  ·have:(o.looksAt ops).contains r=true:=by simpa using hr
   rw [this] at h0;cases h0
  ·exact .inl h0
  ·exact .inr h0
 ·intro i o hi t ht
  have:=List.all_eq_true.1 (gW h6 hi) _ ht
  simpa using this
 ·intro k i hk
  have hlt:k<es.length:=(List.getElem?_eq_some_iff.1 hk).1
  have:=List.all_eq_true.1 h7 k (List.mem_range.2 hlt)
  rw [hk] at this
  simp only [Bool.and_eq_true,decide_eq_true_eq,beq_iff_eq] at this
  exact this.1
 ·intro k i i' hk hk'
  have hlt:k<es.length:=(List.getElem?_eq_some_iff.1 hk).1
  have:=List.all_eq_true.1 h7 k (List.mem_range.2 hlt)
  rw [hk,hk'] at this
  simp only [Bool.and_eq_true] at this
  exact this.2
 ·intro i o hi he k hk
  have:=gW h8 hi
  rw [he,Bool.false_or] at this
  have:=List.all_eq_true.1 this k (List.mem_range.2 (by omega))
  simp only [Bool.or_eq_true,beq_iff_eq,List.any_eq_true,List.contains_iff_mem] at this
  rcases this with ((h0|h0)|⟨e,he,hb⟩)|⟨e,he,hb⟩
  ·exact .inl h0
  ·exact .inr (.inl h0)
  ·obtain ⟨q,hq⟩:=List.mem_iff_getElem?.1 he
   rw [List.getElem?_drop] at hq
   exact .inr (.inr (.inl ⟨k+q,e,by omega,hq,hb⟩))
  ·obtain ⟨q,hq⟩:=List.mem_iff_getElem?.1 he
   rw [List.getElem?_take] at hq
   split at hq
   ·exact .inr (.inr (.inr ⟨q,e,by assumption,hq,hb⟩))
   ·cases hq
def MF (ops:Array Oper) (r:Nat):Option Nat:=(List.range ops.size).find? fun i=>match ops[i]? with
 | some o=>o.dst == some r
 | none=>false
theorem oq {ops:Array Oper} {r j:Nat} (h:MF ops r=some j):∃ o,ops[j]?=some o∧o.dst=some r:=by
 have:=List.find?_some h
 cases ho:ops[j]? with
 | none=>rw [ho] at this;cases this
 | some o=>rw [ho] at this;exact ⟨o,rfl,by simpa using this⟩
theorem lW.MF {ops:Array Oper} {es:List Nat} {tb:List (Nat × List Nat)} {T:List Nat} (h:lW ops es tb T) {i:Nat} {o:Oper} {r:Nat} (hi:ops[i]?=some o) (hd:o.dst=some r):Fv.MF ops r=some i:=by
 cases hx:Fv.MF ops r with
 | none=>
  have:=List.find?_eq_none.1 hx i (List.mem_range.2 (Array.getElem?_eq_some_iff.1 hi).1)
  simp [hi,hd] at this
 | some j=>
  obtain ⟨oj,hj,hdj⟩:=oq hx
  rw [h.dst i o r j oj hi hj hd hdj]
section
variable {P:Program} {w0:World} {T0:Bs} {ops:Array Oper} {es:List Nat} {tb:List (Nat × List Nat)} {T:List Nat} [hG:qB P w0 T0]
def jo (ops:Array Oper) (s0:S) (vs:List AV) (i r:Nat):AV:=match MF ops r with
 | some j=>if j<i then vs.getD j .dead else s0.get r
 | none=>s0.get r
theorem QS.congr {o:Oper} {n:Nat} {get get':Nat→AV} {h h':uj} {v:AV} (hq:QS P w0 T0 ops o n get h h' v) (he:∀ r,r∈o.looksAt ops→get' r=get r):QS P w0 T0 ops o n get' h h' v:=
 fun env hen=>hq env fun r hr=>(hen r hr).trans (he r hr)
structure vw (P:Program) (w0:World) (T0:Bs) (ops:Array Oper) (es:List Nat) (s0:S) (i:Nat) (vs:List AV) (hs:List uj):Prop where
 quiet:∀ j o,j<i→ops[j]?=some o→es.elem j=false→∃ h,hs[kP es j]?=some h∧QS P w0 T0 ops o s0.n (jo ops s0 vs j) h h (vs.getD j .dead)
 eff:∀ j o,j<i→ops[j]?=some o→es.elem j=true→∃ h h',hs[kP es j]?=some h∧hs[kP es j+1]?=some h'∧QS P w0 T0 ops o s0.n (jo ops s0 vs j) h h' (vs.getD j .dead)
 put:∀ j o d,j<i→ops[j]?=some o→o.dst=some d→d<s0.n
theorem ku {s0:S} {vs:List AV} {v:AV} {j:Nat} (h:j≤vs.length) (r:Nat):jo ops s0 (vs++[v]) j r=jo ops s0 vs j r:=by
 unfold jo
 split
 ·rename_i q _
  split
  ·rename_i hq
   simp only [List.getD_eq_getElem?_getD]
   rw [List.getElem?_append_left (by omega)]
  ·rfl
 ·rfl
theorem qR {vs:List AV} {v:AV} {j:Nat} (h:j<vs.length):(vs++[v]).getD j .dead=vs.getD j .dead:=by
 simp only [List.getD_eq_getElem?_getD]
 rw [List.getElem?_append_left h]
theorem jR {vs:List AV} {v:AV}:(vs++[v]).getD vs.length .dead=v:=by
 simp [List.getD_eq_getElem?_getD]
theorem Ee (i:Nat):kP es (i+1)=kP es i+(bif es.elem i then 1 else 0):=by
 unfold kP
 rw [List.range_succ,List.countP_append,List.countP_singleton]
 cases es.elem i<;>rfl
def rE (P:Program) (w0:World) (T0:Bs) (n:Nat) (x:Acc) (h:uj):Prop:=match x.g with
 | none=>Rx P w0 T0 x.o ⟨n,x.env,h.1,h.2⟩ x.v
 | some c=>Fv.below h.2 x.v=true∧(c=true→Rx P w0 T0 x.o ⟨n,x.env,h.1,h.2⟩ x.v)
theorem Bj {n:Nat} {x:Acc} {hs:List uj}:∀ {l:List Nat},Ei P w0 T0 n x hs l→∀ k,k∈l→∃ h,hs[k]?=some h∧rE P w0 T0 n x h
 | k'::l,h,k,hk=>by
  unfold Ei at h
  rcases List.mem_cons.1 hk with rfl|hk
  ·cases hh:hs[k]? with
   | none=>rw [hh] at h;exact h.1.elim
   | some q=>rw [hh] at h;exact ⟨q,rfl,h.1⟩
  ·exact Bj h.2 k hk
theorem O1 {n:Nat} {hs:List uj} (l:List Acc) (h:redo P w0 T0 n hs l) (x:Acc) (hx:x∈l) (k:Nat) (hk:k∈x.ks):∃ h,hs[k]?=some h∧rE P w0 T0 n x h:=by
 induction l with
 | nil=>cases hx
 | cons y l ih=>
  obtain ⟨h1,h2⟩:=(h:Ei P w0 T0 n y hs y.ks∧redo P w0 T0 n hs l)
  rcases List.mem_cons.1 hx with rfl|hx
  ·exact Bj h1 k hk
  ·exact ih h2 hx
theorem Ba {ks:List Nat} {x y:Acc} {l:List Acc} (h:y∈l):y∈nO ks x l:=by
 unfold nO;split
 ·exact h
 ·exact .tail _ h
theorem yO {ks:List Nat} {x:Acc} {l:List Acc} {k:Nat} (h:k∈ks):x∈nO ks x l:=by
 unfold nO;split
 ·cases h
 ·exact .head _
def LY (P:Program) (w0:World) (T0:Bs) (ops:Array Oper) (es:List Nat) (tb:List (Nat × List Nat)) (s0:S) (i:Nat) (vs:List AV) (acc:List Acc):Prop:=
 ∀ j o,j<i→ops[j]?=some o→es.elem j=false→∀ k,k∈oH tb j →
  (∀ h,QS P w0 T0 ops o s0.n (jo ops s0 vs j) h h (vs.getD j .dead))∨∃ x,x∈acc∧x.ks=oH tb j∧∀ h,rE P w0 T0 s0.n x h→QS P w0 T0 ops o s0.n (jo ops s0 vs j) h h (vs.getD j .dead)
theorem Nh (hok:lW ops es tb T) {s0 s:S} {i:Nat} {o:Oper} {vs:List AV} {hs hs':List uj} {v:AV} {Q:S→Prop} (hi:ops[i]?=some o) (hlen:vs.length=i) (hn:s.n=s0.n) (hget:∀ r,s.get r=jo ops s0 vs i r)
  (hd:vw P w0 T0 ops es s0 i vs hs) (hlh:hs.length=kP es i+1) (hpre:∀ (k:Nat) (h:uj),hs[k]?=some h→hs'[k]?=some h)
  (hq:es.elem i=false→∃ h,hs'[kP es i]?=some h∧QS P w0 T0 ops o s0.n (jo ops s0 vs i) h h v)
  (he:es.elem i=true→∃ h h',hs'[kP es i]?=some h∧hs'[kP es i+1]?=some h'∧QS P w0 T0 ops o s0.n (jo ops s0 vs i) h h' v)
  (hput:gU o.dst v s Q):∃ s',Q s'∧s'.n=s0.n∧s'.rows=s.rows∧s'.next=s.next∧(∀ r,s'.get r=jo ops s0 (vs++[v]) (i+1) r)∧vw P w0 T0 ops es s0 (i+1) (vs++[v]) hs':=by
 have hnew:∀ d,o.dst=some d→jo ops s0 (vs++[v]) (i+1) d=v:=by
  intro d hdd
  unfold jo
  rw [hok.MF hi hdd]
  simp only [Nat.lt_succ_self,if_true]
  rw [←hlen];exact jR
 have hold:∀ r,o.dst≠some r→jo ops s0 (vs++[v]) (i+1) r=s.get r:=by
  intro r hr
  rw [hget]
  unfold jo
  cases hx:MF ops r with
  | none=>rfl
  | some j=>
   dsimp only
   have hne:j≠i:=by
    rintro rfl
    obtain ⟨oj,hj,hdj⟩:=oq hx
    rw [hi] at hj;cases hj
    exact hr hdj
   by_cases hji:j<i
   ·rw [if_pos hji,if_pos (by omega),qR (by omega)]
   ·rw [if_neg hji,if_neg (by omega)]
 have hdone:(∀ d,o.dst=some d→d<s0.n)→vw P w0 T0 ops es s0 (i+1) (vs++[v]) hs':=by
  intro hdn
  refine ⟨?_,?_,?_⟩
  ·intro j oj hj hoj hej
   by_cases e:j=i
   ·subst e
    rw [hi] at hoj;cases hoj
    obtain ⟨h,hh,hqs⟩:=hq hej
    refine ⟨h,hh,?_⟩
    rw [show (vs++[v]).getD j .dead=v from by rw [←hlen];exact jR]
    exact hqs.congr fun r _=>ku (by omega) r
   ·obtain ⟨h,hh,hqs⟩:=hd.quiet j oj (by omega) hoj hej
    refine ⟨h,hpre _ _ hh,?_⟩
    rw [qR (by omega)]
    exact hqs.congr fun r _=>ku (by omega) r
  ·intro j oj hj hoj hej
   by_cases e:j=i
   ·subst e
    rw [hi] at hoj;cases hoj
    obtain ⟨h,h',hh,hh',hqs⟩:=he hej
    refine ⟨h,h',hh,hh',?_⟩
    rw [show (vs++[v]).getD j .dead=v from by rw [←hlen];exact jR]
    exact hqs.congr fun r _=>ku (by omega) r
   ·obtain ⟨h,h',hh,hh',hqs⟩:=hd.eff j oj (by omega) hoj hej
    refine ⟨h,h',hpre _ _ hh,hpre _ _ hh',?_⟩
    rw [qR (by omega)]
    exact hqs.congr fun r _=>ku (by omega) r
  ·intro j oj d hj hoj hdj
   by_cases e:j=i
   ·subst e
    rw [hi] at hoj;cases hoj
    exact hdn d hdj
   ·exact hd.put j oj d (by omega) hoj hdj
 unfold gU at hput
 cases hdst:o.dst with
 | none=>
  rw [hdst] at hput
  exact ⟨s,hput,hn,rfl,rfl,fun r=>(hold r (by rw [hdst];simp)).symm,hdone fun d h=>by rw [hdst] at h;cases h⟩
 | some d=>
  rw [hdst] at hput
  dsimp only at hput
  split at hput
  ·rename_i hlt
   refine ⟨s.set d v,hput,hn,rfl,rfl,fun r=>?_,hdone fun d' h=>by rw [hdst] at h;cases h;rw [←hn];exact hlt⟩
   by_cases e:d=r
   ·subst e
    rw [hnew d hdst]
    simp [S.get,S.set,lk]
   ·rw [hold r (by rw [hdst];simpa using e)]
    simp [S.get,S.set,lk,e]
  ·exact hput.elim
end
end Go.Fv
/-
 Operations whose result is fixed by the state.
-/
namespace Go.Fv
open Go.RowKit
def gV (F:(AV→S→Prop)→Prop):Prop:=∀ K,F K→∃ v s',K v s'∧∀ K':AV→S→Prop,K' v s'→F K'
theorem gV.pure (v:AV) (s:S):gV (fun K=>K v s):=fun K h=>⟨v,s,h,fun _ h=>h⟩
theorem gV.chk {p:Prop} {F:(AV→S→Prop)→Prop} (h:gV F):gV (fun K=>aZ p (F K)):=fun K hk=>by
 obtain ⟨v,s,h1,h2⟩:=h K hk.2
 exact ⟨v,s,h1,fun K' hk'=>⟨hk.1,h2 K' hk'⟩⟩
theorem gV.Xb {k:IntKind} {e:Int} (s:S):gV (fun K=>dh k e (fun n=>K (.int k n) s)):=fun K h=>
 ⟨.int k (k.wrap e),s,h _ rfl (dA _ _),fun K' hk' n hn _=>by subst hn;exact hk'⟩
section
variable {P:Program} {w0:World} {T0:Bs} {s:S}
theorem Ul (e:TypeId) (x:Operand):gV (EF e x s):=by
 intro K h
 unfold EF at h ⊢
 cases hb:iC (s.ev x) with
 | none=>rw [hb] at h;exact h.elim
 | some cs=>rw [hb] at h;exact (gV.pure _ _).chk K h
theorem OG (e:TypeId):gV (sO P e s):=by
 intro K h
 unfold sO at h ⊢
 cases hb:zeroOf P e with
 | none=>rw [hb] at h;exact h.elim
 | some z=>rw [hb] at h;exact (gV.pure _ _).chk K h
theorem OL (t:TypeId) (x v:Operand):gV (sV P t x v s):=by
 intro K h
 unfold sV at h ⊢
 cases hb:iC (s.ev v) with
 | none=>rw [hb] at h;exact h.elim
 | some cs=>
  rw [hb] at h
  refine (gV.chk ?_) K h
  intro K h
  cases hx:s.ev x<;>rw [hx] at h<;>try (exact h.elim)
  ·rename_i i off
   dsimp only at h ⊢
   cases hl:lk s.rows i with
   | none=>rw [hl] at h;exact h.elim
   | some it=>cases it with
    | row e r=>rw [hl] at h;exact h.elim
    | map _ _=>rw [hl] at h;exact h.elim
    | iter _ _ _=>rw [hl] at h;exact h.elim
    | siter _ _=>rw [hl] at h;exact h.elim
    | box e bs=>rw [hl] at h;exact (gV.pure _ _).chk K h
  ·rename_i i sz idx off
   dsimp only at h ⊢
   cases hl:lk s.rows i with
   | none=>rw [hl] at h;exact h.elim
   | some it=>cases it with
    | box e bs=>rw [hl] at h;exact h.elim
    | map _ _=>rw [hl] at h;exact h.elim
    | iter _ _ _=>rw [hl] at h;exact h.elim
    | siter _ _=>rw [hl] at h;exact h.elim
    | row e r=>
     rw [hl] at h
     refine (gV.chk ?_) K h
     intro K h
     cases hq:lH r idx off cs with
     | none=>rw [hq] at h;exact h.elim
     | some r'=>rw [hq] at h;exact (gV.pure _ _) K h
theorem QY (t:TypeId) (l c:Operand):gV (yc P t l c s):=by
 intro K h
 unfold yc at h ⊢
 split at h
 ·rename_i e k n k2 n2 h1 h2 h3
  cases hz:zeroOf P e with
  | none=>rw [hz] at h;exact h.elim
  | some z=>rw [hz] at h;exact (gV.pure _ _).chk.chk K h
 ·exact h.elim
theorem AX (t:TypeId) (len:Nat) (parts:Array (Nat × Operand)):gV (iG P t len parts s):=by
 intro K h
 unfold iG at h ⊢
 split at h
 ·rename_i e h1
  cases hz:zeroOf P e with
  | none=>rw [hz] at h;exact h.elim
  | some z=>
   rw [hz] at h
   refine (gV.chk (gV.chk ?_)) K h
   intro K h
   split at h
   ·rename_i r hr;exact gV.pure _ _ K h
   ·exact h.elim
 ·exact h.elim
theorem OH (t:TypeId) (parts:Array (Nat × Operand)):gV (pW P t parts s):=by
 intro K h
 unfold pW at h ⊢
 split at h
 ·rename_i d z h1 h2
  refine (gV.chk (gV.chk ?_)) K h
  intro K h
  split at h
  ·rename_i r hr;exact gV.pure _ _ K h
  ·exact h.elim
 ·exact h.elim
theorem Fq (fn:Fn) (first caps:Array Operand):gV (iT fn first caps s):=by
 intro K h
 unfold iT at h ⊢
 cases fn with
 | func f=>
  dsimp only at h ⊢
  cases hf:first.toList with
  | nil=>rw [hf] at h;exact (gV.pure _ _).chk K h
  | cons x l=>
   rw [hf] at h
   cases l with
   | nil=>exact (gV.pure _ _).chk K h
   | cons _ _=>exact h.elim
 | _=>exact h.elim
theorem yK (t t2:TypeId) (ax:AV) (y:Operand) (s:S):gV (jJ P t t2 ax y s):=by
 intro K h
 unfold jJ at h ⊢
 split at h
 ·rename_i e i h1 h2
  split at h
  ·rename_i e' r h3
   split at h
   ·rename_i r2 h4
    split at h
    ·rename_i r3 h5
     split at h
     ·rename_i z h6
      exact (gV.pure _ _).chk.chk.chk K h
     ·exact h.elim
    ·exact h.elim
   ·exact h.elim
  ·exact h.elim
 ·exact h.elim
theorem mg (t t2:TypeId) (x y:Operand):gV (kG P t t2 x y s):=yK t t2 _ y s
theorem yL (t t2:TypeId) (x y:Operand):gV (jK P t t2 x y s):=by
 intro K h
 unfold jK at h ⊢
 split at h
 ·rename_i r
  split at h
  ·split at h
   ·split at h
    ·exact (mg t t2 _ y).chk K h
    ·exact h.elim
   ·exact h.elim
  ·split at h
   ·exact (mg t t2 _ y).chk K h
   ·exact h.elim
  ·exact mg t t2 _ y K h
 ·split at h
  ·split at h
   ·split at h
    ·exact (yK t t2 _ y _).chk K h
    ·exact h.elim
   ·exact h.elim
  ·exact mg t t2 _ y K h
 ·exact mg t t2 _ y K h
theorem Iy (t t2:TypeId) (x y:Operand):gV (lU P t t2 x y s):=by
 intro K h
 unfold lU at h ⊢
 cases hx:s.ev x<;>rw [hx] at h<;>try (exact yL t t2 x y K h)
 cases hy:s.ev y<;>rw [hy] at h<;>try (exact yL t t2 x y K h)
 dsimp only at h ⊢
 split at h
 ·split at h
  ·split at h
   ·split at h
    ·exact (gV.pure _ _).chk.chk K h
    ·exact h.elim
   ·exact h.elim
  ·exact h.elim
 ·exact h.elim
theorem Um (x:Operand):gV (BX x s):=by
 intro K h
 unfold BX at h ⊢
 split at h
 all_goals first|exact h.elim|(rename_i hx;exact gV.pure _ _ K h)
theorem IB (x:Operand) (i:Nat):gV (jM x i s):=by
 intro K h
 unfold jM at h ⊢
 split at h
 ·rename_i l hx
  split at h
  ·rename_i v hv;exact gV.pure _ _ K h
  ·exact h.elim
 ·exact h.elim
theorem VT (op:UnOp) (x:Operand):gV (LM op x s):=by
 intro K h
 unfold LM at h ⊢
 cases hx:s.ev x<;>rw [hx] at h<;>try (exact h.elim)
 ·cases op<;>first|exact h.elim|exact gV.pure _ _ K h
 ·cases op<;>first|exact h.elim|exact gV.Xb _ K h
theorem Iz (a b:TypeId) (x:Operand):gV (rP P a b x s):=by
 intro K h
 unfold rP at h ⊢
 split at h
 ·rename_i d1 d2 h1 h2
  cases d2<;>try (exact h.elim)
  ·cases hx:s.ev x<;>rw [hx] at h<;>try (exact h.elim)
   exact gV.Xb _ K h
  ·cases hx:s.ev x<;>rw [hx] at h<;>try (exact h.elim)
   ·exact (gV.pure _ _).chk K h
   ·exact gV.pure _ _ K h
   ·rename_i r
    cases r<;>try (exact h.elim)
    rename_i k l
    cases k<;>try (exact h.elim)
    cases d1<;>try (exact h.elim)
    exact (gV.pure _ _).chk K h
   ·rename_i i
    dsimp only at h ⊢
    split at h
    ·rename_i l e h3 ; exact (gV.pure _ _).chk K h
    ·exact h.elim
 ·exact h.elim
theorem OI (a b:TypeId) (x:Operand):gV (sQ P a b x s):=by
 intro K h
 unfold sQ at h ⊢
 split at h
 ·split at h
  ·exact ((gV.pure _ _).chk) K h
  ·exact h.elim
 ·split at h
  ·rename_i k n hn
   obtain ⟨hs,h⟩:=h
   split at h
   ·rename_i hl
    obtain ⟨r,s',h1,h2⟩:=gV.pure _ _ K h
    exact ⟨r,s',h1,fun K' h'=>⟨hs,by rw [if_pos hl];exact h2 K' h'⟩⟩
   ·rename_i hl
    obtain ⟨r,s',h1,h2⟩:=gV.pure _ _ K h
    exact ⟨r,s',h1,fun K' h'=>⟨hs,by rw [if_neg hl];exact h2 K' h'⟩⟩
  ·exact Iz a b x K h
 ·exact Iz a b x K h
theorem QZ (m:Bool) (xs:List AV):gV (fun K=>JE m xs (fun r=>K r s)):=by
 intro K h
 unfold JE at h ⊢
 split at h
 ·exact (gV.pure _ s).chk K h
 ·exact (gV.pure _ s).chk K h
 ·exact h.elim
theorem IE (t:TypeId) (x:Operand):gV (uY P t x s):=by
 intro K h
 unfold uY at h ⊢
 split at h
 ·split at h
  ·rename_i e h1
   split at h
   ·rename_i z h2;exact (gV.pure _ _).chk K h
   ·exact h.elim
  ·exact h.elim
 ·exact (gV.pure _ _).chk K h
 ·rename_i h1 h2
  exact (gV.pure _ _).chk K h
theorem IC (t:TypeId) (r:Option Operand):gV (oU P t r s):=by
 intro K h
 cases r with
 | none=>exact gV.pure _ _ K h
 | some _=>exact h.elim
theorem KH (t:TypeId) (x k v:Operand):gV (oW P t x k v s):=by
 intro K h
 unfold oW at h ⊢
 cases ht:P.underlying t with
 | none=>rw [ht] at h;exact h.elim
 | some d=>
  rw [ht] at h
  cases d<;>try (exact h.elim)
  dsimp only at h ⊢
  cases hx:s.ev x<;>rw [hx] at h<;>try (exact h.elim)
  dsimp only at h ⊢
  split at h
  ·rename_i hi
   exact ((gV.pure _ _).chk.chk) K h
  ·exact h.elim
theorem QX (ks vs:List AV) (k:AV) (z:Value) (i:Nat):gV (Oo ks vs k z i s):=by
 intro K h
 unfold Oo at h ⊢
 cases z<;>first|exact h.elim|exact ((gV.pure _ _).chk) K h
theorem KG (t:TypeId) (x k:Operand):gV (oV P t x k s):=by
 intro K h
 unfold oV at h ⊢
 cases ht:P.underlying t with
 | none=>rw [ht] at h;exact h.elim
 | some d=>
  rw [ht] at h
  cases d<;>try (exact h.elim)
  rename_i kt et
  dsimp only at h ⊢
  cases hz:zeroOf P et with
  | none=>rw [hz] at h;exact h.elim
  | some z=>
   rw [hz] at h
   dsimp only at h ⊢
   cases hx:s.ev x<;>rw [hx] at h<;>try (exact h.elim)
   dsimp only at h ⊢
   split at h
   ·rename_i hi
    exact ((QX _ _ _ z _).chk.chk) K h
   ·exact h.elim
theorem Fp (x st v:Operand):gV (jL x st v s):=by
 intro K h
 unfold jL at h ⊢
 cases hx:s.ev x<;>rw [hx] at h<;>try (exact h.elim)
 dsimp only at h ⊢
 split at h
 ·rename_i hi
  split at h
  ·rename_i hs
   exact ((gV.pure _ _).chk.chk) K h
  ·exact h.elim
 ·exact h.elim
theorem OJ (t:TypeId) (x:Operand):gV (sS P t x s):=by
 intro K h
 unfold sS at h ⊢
 cases ht:P.underlying t with
 | none=>rw [ht] at h;exact h.elim
 | some d=>
  rw [ht] at h
  cases d<;>try (exact h.elim)
  ·dsimp only at h ⊢
   cases hx:s.ev x<;>rw [hx] at h<;>try (exact h.elim)
   exact ((gV.pure _ _).chk) K h
  ·dsimp only at h ⊢
   cases hx:s.ev x<;>rw [hx] at h<;>try (exact h.elim)
   dsimp only at h ⊢
   split at h
   ·rename_i hi
    exact ((gV.pure _ _).chk) K h
   ·exact h.elim
theorem Q5 {o:Oper} (hl:AA o.op=true):gV (qw P w0 T0 o s):=by
 intro K h
 unfold qw at h ⊢
 cases ho:o.op<;>rw [ho] at h hl<;>try (cases hl;done)
 case move x=>exact IE _ _ K h
 case assign x=>exact IE _ _ K h
 case extract x i=>exact (IB x i).chk K h
 case makeFunc fn first caps=>exact Fq _ _ _ K h
 case box e x=>exact Ul _ _ K h
 case alloc e=>exact OG _ K h
 case store t x v=>exact (OL t x v).chk K h
 case nilCheck x=>exact (Um x).chk K h
 case makeSlice t l c=>exact (QY t l c).chk K h
 case unOp op t x=>exact (VT op x).chk K h
 case convert t t' x=>exact (OI t t' x).chk K h
 case buildSlice t len parts=>exact AX _ _ _ K h
 case build t parts=>exact OH _ _ K h
 case makeMap t r=>exact IC _ _ K h
 case mapUpdate t x k v=>exact KH _ _ _ _ K h
 case mapEntry t x k=>exact KG _ _ _ K h
 case entryStore t x st v=>exact Fp _ _ _ K h
 case range t x=>exact OJ _ _ K h
 case call c=>
  obtain ⟨callee,args,argTypes⟩:=c
  dsimp only [AA] at hl
  dsimp only [mP] at h ⊢
  cases callee with
  | builtin b=>
   cases b<;>try (cases hl;done)
   case append=>
    dsimp only at h ⊢
    split at h
    ·rename_i x y t t2 h1 h2
     exact (Iy t t2 x y).chk K h
    ·exact h.elim
   case min=>exact (QZ false _).chk K h
   case max=>exact (QZ true _).chk K h
  | _=>cases hl
end
section
variable {P:Program} {w0:World} {T0:Bs} {ops:Array Oper} {es:List Nat} {tb:List (Nat × List Nat)} {T:List Nat} [hG:qB P w0 T0]
structure xg (P:Program) (w0:World) (T0:Bs) (ops:Array Oper) (es:List Nat) (tb:List (Nat × List Nat)) (s0:S) (hs0:List uj) (Q:S→Prop) (vs:List AV) (hs:List uj) (s:S):Prop where
 q:Q s
 n:s.n=s0.n
 len:hs.length=kP es ops.size+1
 last:hs[kP es ops.size]?=some (s.rows,s.next)
 get:∀ r,s.get r=jo ops s0 vs ops.size r
 done:vw P w0 T0 ops es s0 ops.size vs hs
 re:∀ (j:Nat) (o:Oper),ops[j]?=some o→es.elem j=false→∀ k,k∈oH tb j→∀ h,hs[k]?=some h→QS P w0 T0 ops o s0.n (jo ops s0 vs j) h h (vs.getD j .dead)
 pre:∀ (k:Nat) (h:uj),hs0[k]?=some h→hs[k]?=some h
theorem LY.step {s0:S} {i:Nat} {vs:List AV} {v:AV} {acc acc':List Acc} {o:Oper} (hre:LY P w0 T0 ops es tb s0 i vs acc) (hlen:vs.length=i) (hi:ops[i]?=some o) (hsub:∀ x,x∈acc→x∈acc')
  (hnew:es.elem i=false→∀ k,k∈oH tb i→(∀ h,QS P w0 T0 ops o s0.n (jo ops s0 vs i) h h v)∨∃ x,x∈acc'∧x.ks=oH tb i∧∀ h,rE P w0 T0 s0.n x h→QS P w0 T0 ops o s0.n (jo ops s0 vs i) h h v) :
  LY P w0 T0 ops es tb s0 (i+1) (vs++[v]) acc':=by
 intro j oj hj hoj hej k hk
 by_cases e:j=i
 ·subst e
  rw [hi] at hoj;cases hoj
  have hv:(vs++[v]).getD j .dead=v:=by rw [←hlen];exact jR
  rcases hnew hej k hk with h|⟨x,hx,hks,h⟩
  ·exact .inl fun h'=>by rw [hv];exact (h h').congr fun r _=>ku (by omega) r
  ·exact .inr ⟨x,hx,hks,fun h' hc=>by rw [hv];exact (h h' hc).congr fun r _=>ku (by omega) r⟩
 ·rcases hre j oj (by omega) hoj hej k hk with h|⟨x,hx,hks,h⟩
  ·exact .inl fun h'=>by rw [qR (by omega)];exact (h h').congr fun r _=>ku (by omega) r
  ·exact .inr ⟨x,hsub x hx,hks,fun h' hc=>by rw [qR (by omega)];exact (h h' hc).congr fun r _=>ku (by omega) r⟩
theorem EG (hok:lW ops es tb T) {s0:S}:∀ (l:List Oper) (i:Nat) (acc:List Acc) (hs:List uj) (s:S) (vs:List AV) (Q:S→Prop),ops.toList.drop i=l→i≤ops.size→vs.length=i→hs.length=kP es i+1→hs[kP es i]?=some (s.rows,s.next)→s.n=s0.n →
  (∀ r,s.get r=jo ops s0 vs i r)→vw P w0 T0 ops es s0 i vs hs→LY P w0 T0 ops es tb s0 i vs acc→iH P w0 T0 ops es tb l i acc hs s Q→∃ vs' hs' sf,xg P w0 T0 ops es tb s0 hs Q vs' hs' sf:=by
 intro l
 induction l with
 | nil=>
  intro i acc hs s vs Q hdr hile hlen hhl hcur hn hget hd hre h
  have hi:i=ops.size:=by
   have:=List.drop_eq_nil_iff.1 hdr
   simp at this;omega
  subst hi
  obtain ⟨hredo,hq⟩:=h
  refine ⟨vs,hs,s,hq,hn,hhl,hcur,hget,hd,?_,fun _ _ h=>h⟩
  intro j o hj he k hk h hh
  rcases hre j o (Array.getElem?_eq_some_iff.1 hj).1 hj he k hk with h0|⟨x,hx,hks,h0⟩
  ·exact h0 h
  ·obtain ⟨h',hh',hc⟩:=O1 _ hredo x hx k (by rw [hks];exact hk)
   rw [hh] at hh';cases hh'
   rw [hn] at hc
   exact h0 h hc
 | cons o l ih=>
  intro i acc hs s vs Q hdr hile hlen hhl hcur hn hget hd hre h
  have hi:ops[i]?=some o:=by
   have h1:(ops.toList.drop i)[0]?=some o:=by rw [hdr];rfl
   rw [List.getElem?_drop] at h1
   simpa using h1
  have hilt:i<ops.size:=(Array.getElem?_eq_some_iff.1 hi).1
  have hdr':ops.toList.drop (i+1)=l:=by
   have:(ops.toList.drop i).drop 1=l:=by rw [hdr];rfl
   rwa [List.drop_drop] at this
  have hrd:=hok.reads i o hi
  have hgetQ:∀ {h h':uj} {v:AV},QS P w0 T0 ops o s.n s.get h h' v→QS P w0 T0 ops o s0.n (jo ops s0 vs i) h h' v:=by
   intro h h' v hq
   rw [←hn]
   exact hq.congr fun r _=>(hget r).symm
  have hown1:es.elem i=false→kP es (i+1)=kP es i:=fun e=>by rw [Ee,e];rfl
  have hown2:es.elem i=true→kP es (i+1)=kP es i+1:=fun e=>by rw [Ee,e];rfl
  -- a quiet operation
  have quiet:es.elem i=false→∀ (v:AV) (acc':List Acc),(∀ x,x∈acc→x∈acc')→QS P w0 T0 ops o s.n s.get (s.rows,s.next) (s.rows,s.next) v →
    (∀ k,k∈oH tb i→(∀ h,QS P w0 T0 ops o s.n s.get h h v)∨∃ x,x∈acc'∧x.ks=oH tb i∧∀ h,rE P w0 T0 s0.n x h→QS P w0 T0 ops o s.n s.get h h v) →
    gU o.dst v s (fun s'=>iH P w0 T0 ops es tb l (i+1) acc' hs s' Q)→∃ vs' hs' sf,xg P w0 T0 ops es tb s0 hs Q vs' hs' sf:=by
   intro he v acc' hsub hqs hnew hput
   obtain ⟨s',hk,hn',hr',hx',hg',hd'⟩:=Nh hok hi hlen hn hget hd hhl (fun _ _ h=>h) (fun _=>⟨_,hcur,hgetQ hqs⟩) (fun e=>by rw [he] at e;cases e) hput
   refine ih (i+1) acc' hs s' (vs++[v]) Q hdr' hilt (by simp [hlen]) (by rw [hown1 he];exact hhl) (by rw [hown1 he,hr',hx'];exact hcur) hn' hg' hd' ?_ hk
   refine hre.step hlen hi hsub fun _ k hk=>?_
   rcases hnew k hk with h0|⟨x,hx,hks,h0⟩
   ·exact .inl fun h=>hgetQ (h0 h)
   ·exact .inr ⟨x,hx,hks,fun h hc=>hgetQ (h0 h hc)⟩
  have eff:es.elem i=true→∀ (v:AV) (R:List (Nat × Item)) (N:Nat),QS P w0 T0 ops o s.n s.get (s.rows,s.next) (R,N) v →
    gU o.dst v { s with rows:=R,next:=N } (fun s'=>iH P w0 T0 ops es tb l (i+1) acc (hs++[(R,N)]) s' Q)→∃ vs' hs' sf,xg P w0 T0 ops es tb s0 hs Q vs' hs' sf:=by
   intro he v R N hqs hput
   have hpre:∀ (k:Nat) (h:uj),hs[k]?=some h→(hs++[(R,N)])[k]?=some h:=by
    intro k h hk
    rw [List.getElem?_append_left (List.getElem?_eq_some_iff.1 hk).1];exact hk
   have hlast:(hs++[(R,N)])[kP es i+1]?=some (R,N):=by
    rw [←hhl];simp
   obtain ⟨s',hk,hn',hr',hx',hg',hd'⟩:=Nh (s:={ s with rows:=R,next:=N }) hok hi hlen hn hget hd hhl hpre (fun e=>by rw [he] at e;cases e) (fun _=>⟨_,_,hpre _ _ hcur,hlast,hgetQ hqs⟩) hput
   obtain ⟨vs',hs',sf,hend⟩:=ih (i+1) acc (hs++[(R,N)]) s' (vs++[v]) Q hdr' hilt (by simp [hlen]) (by rw [hown2 he];simp [hhl]) (by rw [hown2 he,hr',hx'];exact hlast) hn' hg' hd'
    (hre.step hlen hi (fun _ h=>h) fun e=>by rw [he] at e;cases e) hk
   exact ⟨vs',hs',sf,{ hend with pre:=fun k h hk=>hend.pre k h (hpre k h hk) }⟩
  unfold iH at h
  cases hg:gd ops s o with
  | none=>rw [hg] at h;exact h.elim
  | some g=>
   rw [hg] at h
   simp only [XB] at h
   rw [Aj] at h
   cases he:es.elem i with
   | true=>
    rw [he] at h
    simp only [Wv] at h
    cases g with
    | none=>
     dsimp only at h
     have hx:∃ v R N,qw P w0 T0 o ⟨s.n,fB s (gY o.op),s.rows,s.next⟩ (fun r s'=>r=v∧s'.rows=R∧s'.next=N)∧gU o.dst v { s with rows:=R,next:=N } (fun s'=>iH P w0 T0 ops es tb l (i+1) acc (hs++[(R,N)]) s' Q):=by
      cases hl:AA o.op with
      | false=>
       rw [hl] at h
       obtain ⟨v,R,N,h1,h2,h3⟩:=h
       exact ⟨v,R,N,h1,jA h2 h3⟩
      | true=>
       rw [hl] at h
       obtain ⟨v,t,⟨h2,h3⟩,hall⟩:=Q5 hl _ h
       exact ⟨v,t.rows,t.next,hall _ ⟨rfl,rfl,rfl⟩,jA h2 h3⟩
     obtain ⟨v,R,N,hA,hB⟩:=hx
     exact eff he v R N (QS.plain (h:=(s.rows,s.next)) (h':=(R,N)) (zy hg) (FN (h:=(s.rows,s.next)) hrd hA)) hB
    | some c=>
     dsimp only at h
     cases c with
     | true=>
      obtain ⟨v,R,N,⟨hpc,hA⟩,h2,h3⟩:=h.1 rfl
      exact eff he (.opt true v) R N (QS.guarded (h:=(s.rows,s.next)) (h':=(R,N)) hg (fun _=>FP (h:=(s.rows,s.next)) hrd hpc hA) (fun e=>by cases e)) (jA h2 h3)
     | false=>
      obtain ⟨h2,h3⟩:=h.2 rfl
      exact eff he (.opt false (.bool false)) s.rows s.next (QS.guarded (h:=(s.rows,s.next)) (h':=(s.rows,s.next)) hg (fun e=>by cases e) (fun _=>⟨rfl,rfl⟩)) (jA h2 h3)
   | false=>
    rw [he] at h
    simp only [Wv] at h
    have gen:∀ v,I7 P w0 T0 o g s v→gU o.dst (IK g v) s (fun s'=>iH P w0 T0 ops es tb l (i+1) (nO (oH tb i) ⟨o,g,yM g s (gY o.op),v,oH tb i⟩ acc) hs s' Q)→∃ vs' hs' sf,xg P w0 T0 ops es tb s0 hs Q vs' hs' sf:=by
     intro v hA hput
     cases g with
     | none=>
      refine quiet he v _ (fun x hx=>Ba hx) (QS.plain (h:=(s.rows,s.next)) (h':=(s.rows,s.next)) (zy hg) (FN (h:=(s.rows,s.next)) hrd hA)) ?_ hput
      intro k hk
      refine .inr ⟨_,yO hk,rfl,fun h hc=>QS.plain (h:=h) (h':=h) (zy hg) (FN (h:=h) hrd ?_)⟩
      simp only [rE,Rx] at hc
      rw [←hn] at hc
      exact hc
     | some c=>
      refine quiet he (.opt c v) _ (fun x hx=>Ba hx) (QS.guarded (h:=(s.rows,s.next)) (h':=(s.rows,s.next)) hg (fun e=>FP (h:=(s.rows,s.next)) hrd (hA.2 e).1 (hA.2 e).2) (fun _=>⟨rfl,hA.1⟩)) ?_ hput
      intro k hk
      refine .inr ⟨_,yO hk,rfl,fun h hc=>?_⟩
      simp only [rE,Rx] at hc
      rw [←hn] at hc
      exact QS.guarded (h:=h) (h':=h) hg (fun e=>FP (h:=h) hrd (hA.2 e).1 (hc.2 e)) (fun _=>⟨rfl,hc.1⟩)
    unfold V3 at h
    cases hp:vS ⟨s.n,fB s (gY o.op),s.rows,s.next⟩ o.op with
    | some pb=>
     obtain ⟨pre,b⟩:=pb
     rw [hp] at h
     cases g with
     | none=>
      obtain ⟨⟨h1,h2⟩,h3,h4⟩:=h
      have hall:∀ h:uj,QS P w0 T0 ops o s.n s.get h h (.bool b):=fun h=>QS.plain (zy hg) (Ik hrd hp h1 h2)
      exact quiet he _ acc (fun _ h=>h) (hall _) (fun _ _=>.inl hall) (jA h3 h4)
     | some c=>
      obtain ⟨h1,h3,h4⟩:=h
      have hall:∀ h:uj,QS P w0 T0 ops o s.n s.get h h (.opt c (.bool b)):=fun h=>QS.guarded hg (fun e=>Ik hrd hp (h1 e).1 (h1 e).2) (fun _=>⟨rfl,rfl⟩)
      exact quiet he _ acc (fun _ h=>h) (hall _) (fun _ _=>.inl hall) (jA h3 h4)
    | none=>
     rw [hp] at h
     dsimp only at h
     cases hv:TY P ⟨s.n,yM g s (gY o.op),s.rows,s.next⟩ o.op with
     | some v=>
      rw [hv] at h
      obtain ⟨h1,h3,h4⟩:=h
      exact gen v h1 (jA h3 h4)
     | none=>
      rw [hv] at h
      have call:(∃ v,I7 P w0 T0 o g s v∧aZ (ou o.dst s.n) (iH P w0 T0 ops es tb l (i+1) (nO (oH tb i) ⟨o,g,yM g s (gY o.op),v,oH tb i⟩ acc) hs (mX o.dst (IK g v) s) Q))→∃ vs' hs' sf,xg P w0 T0 ops es tb s0 hs Q vs' hs' sf:=by
       rintro ⟨v,h1,h3,h4⟩
       exact gen v h1 (jA h3 h4)
      cases g with
      | some c=>exact call h
      | none=>
       cases hl:AA o.op with
       | false=>rw [hl] at h;exact call h
       | true=>
        rw [hl] at h
        obtain ⟨v,t,⟨⟨hr,hx⟩,h3,h4⟩,hall⟩:=Q5 hl _ h
        exact gen v (hall _ ⟨rfl,hr,hx⟩) (jA h3 h4)
end
end Go.Fv
