/-
  A part of the proof of the claim: walks over the program's functions and the plain laws that these need. No condition of its own.
-/
import Derived.Test.YtodlgmmbfbiilaaGreatDoorFvPart8
set_option linter.unusedSectionVars false
set_option linter.unusedVariables false
set_option linter.unusedSimpArgs false
set_option linter.unnecessarySimpa false
namespace Go.Fv
open Go.RowKit
section
variable {P:Program} {w0:World} {T0:Bs} {ops:Array Oper} [hG:rQ P w0 T0]
def Ol (env1 env:List (Nat × AV)):Prop:=∀ r x,lk env1 r=some x→x=.dead∨lk env r=some x∨lk env r=some (.opt true x)
theorem aV.restrict {H:List (AV × Value)} {s:S} {a:Act} {w:World} {m:Nat→Value} (h:aV w0 T0 H s a w m) {env1:List (Nat × AV)} (he:Ol env1 s.env):aV w0 T0 H { s with env:=env1 } a w m:=
 {size:=h.size,nodef:=h.nodef,below:=h.below,held:=h.held,rows:=h.rows,sep:=h.sep,
  env:=by
   intro r v hv
   rcases he r v hv with rfl|hx|hx
   ·exact .dead _
   ·exact h.env r v hx
   ·have:=h.env r _ hx
    cases this with
    | opt _ _ _ _ h1 _=>exact h1 rfl }
theorem aN.frame {o:Oper} {s:S} {env1:List (Nat × AV)} {v:AV} {R:List (Nat × Item)} {N:Nat} (h:aN P w0 T0 o { s with env:=env1 } (fun r s'=>r=v∧s'.rows=R∧s'.next=N)) (he:Ol env1 s.env) :
  aN P w0 T0 o s (fun r s'=>r=v∧s'={ s with rows:=R,next:=N }):=by
 intro H a w next Q ⟨m,hm⟩ hn
 let E:List (AV × Value):=s.env.map fun p=>(s.get p.1,a.tmps.getD p.1 undef)
 have hE:∀ r x,lk s.env r=some x→(x,a.tmps.getD r undef)∈E:=by
  intro r x hx
  have:∀ l:List (Nat × AV),lk l r=some x→∃ p,p∈l∧p.1=r:=by
   intro l
   induction l with
   | nil=>intro h;simp [lk] at h
   | cons q l ih=>
    intro h
    simp only [lk] at h
    split at h
    ·rename_i e;exact ⟨q,.head _,e⟩
    ·obtain ⟨p,hp,e⟩:=ih h;exact ⟨p,.tail _ hp,e⟩
  obtain ⟨p,hp,e⟩:=this _ hx
  refine List.mem_map.2 ⟨p,hp,?_⟩
  subst e
  simp [S.get,hx]
 have hm1:aV w0 T0 (E++H) { s with env:=env1 } a w m:=by
  have h1:=hm.restrict he
  refine { h1 with held:=?_ }
  intro p hp
  rcases List.mem_append.1 hp with hp|hp
  ·obtain ⟨q,hq,rfl⟩:=List.mem_map.1 hp
   show Rv _ (s.get q.1) _
   simp only [S.get]
   cases hl:lk s.env q.1 with
   | none=>exact .dead _
   | some x=>exact hm.env _ _ hl
  ·exact hm.held p hp
 refine h (E++H) a w next Q ⟨m,hm1⟩ ?_
 rintro r s' val w' ⟨rfl,hr,hx⟩ ⟨m',hm'⟩
 refine hn _ _ val w' ⟨rfl,rfl⟩ ⟨m',?_⟩
 subst hr;subst hx
 refine { size:=hm.size,nodef:=hm'.nodef,below:=hm'.below,rows:=hm'.rows,sep:=hm'.sep,env:=?_,held:=?_ }
 ·intro r x hx
  exact hm'.held _ (List.mem_cons_of_mem _ (List.mem_append_left _ (hE r x hx)))
 ·intro p hp
  rcases List.mem_cons.1 hp with rfl|hp
  ·exact hm'.held _ (.head _)
  ·exact hm'.held p (List.mem_cons_of_mem _ (List.mem_append_right _ hp))
theorem oL (s:S):∀ l:List Operand,Ol (eX s l) s.env
 | []=>by intro r x h;simp [eX,lk] at h
 | .tmp t::l=>by
  intro r x h
  simp only [eX,lk] at h
  split at h
  ·rename_i e;subst e;cases h
   simp only [S.get]
   cases hl:lk s.env t with
   | none=>exact .inl rfl
   | some y=>exact .inr (.inl rfl)
  ·exact oL s l r x h
 | .const _::l=>by intro r x h;exact oL s l r x h
 | .func _::l=>by intro r x h;exact oL s l r x h
 | .global _::l=>by intro r x h;exact oL s l r x h
theorem qY (s:S):∀ l:List Operand,fA s l=true→Ol (jK s l) s.env
 | [],_=>by intro r x h;simp [jK,lk] at h
 | .tmp t::l,hc=>by
  intro r x h
  simp only [fA] at hc
  simp only [jK,lk] at h
  split at h
  ·rename_i e;subst e;cases h
   cases hg:s.get t with
   | opt c v=>
    rw [hg] at hc
    simp only [Bool.and_eq_true] at hc
    simp only [S.get] at hg
    cases hl:lk s.env t with
    | none=>rw [hl] at hg;cases hg
    | some y=>rw [hl] at hg;simp only at hg;subst hg;rw [hc.1];exact .inr (.inr rfl)
   | _=>
    simp only [S.get] at hg
    cases hl:lk s.env t with
    | none=>rw [hl] at hg;simp only at hg;first|(cases hg;done)|(cases hg;exact .inl rfl)
    | some y=>rw [hl] at hg;simp only at hg;subst hg;exact .inr (.inl rfl)
  ·refine qY s l ?_ r x h
   split at hc
   ·simp only [Bool.and_eq_true] at hc;exact hc.2
   ·exact hc
 | .const _::l,hc=>by intro r x h;exact qY s l (by simpa [fA] using hc) r x h
 | .func _::l,hc=>by intro r x h;exact qY s l (by simpa [fA] using hc) r x h
 | .global _::l,hc=>by intro r x h;exact qY s l (by simpa [fA] using hc) r x h
theorem iZ {s s':S}:∀ l:List Operand,(∀ t,.tmp t∈l→s'.get t=s.get t)→eX s' l=eX s l
 | [],_=>rfl
 | .tmp t::l,h=>by simp only [eX];rw [h t (.head _),iZ l fun t ht=>h t (.tail _ ht)]
 | .const _::l,h=>by simp only [eX];exact iZ l fun t ht=>h t (.tail _ ht)
 | .func _::l,h=>by simp only [eX];exact iZ l fun t ht=>h t (.tail _ ht)
 | .global _::l,h=>by simp only [eX];exact iZ l fun t ht=>h t (.tail _ ht)
theorem jc {s s':S}:∀ l:List Operand,(∀ t,.tmp t∈l→s'.get t=s.get t)→jK s' l=jK s l∧fA s' l=fA s l
 | [],_=>⟨rfl,rfl⟩
 | .tmp t::l,h=>by simp only [jK,fA];rw [h t (.head _),(jc l fun t ht=>h t (.tail _ ht)).1,(jc l fun t ht=>h t (.tail _ ht)).2];exact ⟨rfl,rfl⟩
 | .const _::l,h=>by simp only [jK,fA];exact jc l fun t ht=>h t (.tail _ ht)
 | .func _::l,h=>by simp only [jK,fA];exact jc l fun t ht=>h t (.tail _ ht)
 | .global _::l,h=>by simp only [jK,fA];exact jc l fun t ht=>h t (.tail _ ht)
def QS (P:Program) (w0:World) (T0:Bs) (ops:Array Oper) (o:Oper) (n:Nat) (get:Nat→AV) (h h':uj) (v:AV):Prop:=
 ∀ env,(∀ r,r∈o.looksAt ops→S.get ⟨n,env,[],0⟩ r=get r) →
  ∀ (H:List (AV × Value)) (a:Act) (w:World) (K:Act→World→Prop) (Qx:Exit→Act→World→Prop),Rep w0 T0 H ⟨n,env,h.1,h.2⟩ a w →
   (∀ val w',Rep w0 T0 ((v,val)::H) ⟨n,env,h'.1,h'.2⟩ a w'→K (a.put o.dst val) w') →
   if Region.wanted o (yielded ops a.tmps)=true then o.wp P a w K Qx else K (a.put o.dst undef) w
theorem zK {s:S} {o:Oper} (h:gd ops s o=some none):o.guard=none:=by
 unfold gd at h
 split at h
 ·assumption
 ·split at h
  ·split at h<;>simp at h
  ·simp at h
theorem PY {H:List (AV × Value)} {s:S} {o:Oper} {c:Bool} (h:gd ops s o=some (some c)) {a:Act} {w:World} (hr:Rep w0 T0 H s a w):Region.wanted o (yielded ops a.tmps)=c:=by
 unfold gd at h
 cases hg:o.guard with
 | none=>rw [hg] at h;simp at h
 | some jw=>
  obtain ⟨j,want⟩:=jw
  rw [hg] at h
  dsimp only at h
  cases hd:(ops[j]?).bind (·.dst) with
  | none=>rw [hd] at h;simp at h
  | some r=>
   rw [hd] at h
   dsimp only at h
   have hslot:∀ x,s.get r=x→x≠.dead→lk s.env r=some x:=by
    intro x hx hne
    simp only [S.get] at hx
    cases hl:lk s.env r with
    | none=>rw [hl] at hx;exact absurd hx.symm hne
    | some y=>rw [hl] at hx;exact congrArg some hx
   have hyield:∀ b,a.tmps.getD r undef=.bool b→yielded ops a.tmps j=some b:=by
    intro b hvv
    have h1:a.tmps[r]?=some (.bool b):=by
     rw [Array.getD_eq_getD_getElem?] at hvv
     cases hq:a.tmps[r]? with
     | none=>rw [hq] at hvv;simp [undef] at hvv
     | some y=>rw [hq] at hvv;simpa using hvv
    simp [yielded,hd,h1]
   have hyno:a.tmps.getD r undef=undef→yielded ops a.tmps j=none:=by
    intro hvv
    cases hq:a.tmps[r]? with
    | none=>simp [yielded,hd,hq]
    | some y=>
     rw [Array.getD_eq_getD_getElem?,hq] at hvv
     have:y=undef:=by simpa using hvv
     subst this
     simp [yielded,hd,hq,undef]
   obtain ⟨m,hm⟩:=hr
   split at h
   ·rename_i b hb
    have hl:=hslot _ hb (by simp)
    have hv:=hm.env r _ hl
    generalize hvv:a.tmps.getD r undef=vv at hv
    cases hv
    have hy:=hyield b hvv
    simp only [Option.some.injEq] at h
    subst h
    cases want<;>cases b<;>simp [Region.wanted,hg,hy]
   ·rename_i c b hb
    have hl:=hslot _ hb (by simp)
    have hv:=hm.env r _ hl
    simp only [Option.some.injEq] at h
    subst h
    cases hv with
    | opt _ _ _ _ h1 h2=>
     cases c with
     | true=>
      have h1':=h1 rfl
      generalize hvv:a.tmps.getD r undef=vv at h1'
      cases h1'
      have hy:=hyield b hvv
      cases want<;>cases b<;>simp [Region.wanted,hg,hy]
     | false=>
      have hy:=hyno (h2 rfl)
      cases want<;>simp [Region.wanted,hg,hy]
   ·simp at h
theorem SX {s s':S} {o:Oper} (h:∀ r,r∈o.looksAt ops→s'.get r=s.get r):gd ops s' o=gd ops s o:=by
 unfold gd
 cases hg:o.guard with
 | none=>rfl
 | some jw=>
  obtain ⟨j,want⟩:=jw
  dsimp only
  cases hd:(ops[j]?).bind (·.dst) with
  | none=>rfl
  | some r=>
   dsimp only
   rw [h r (by simp [Oper.looksAt,hg,hd])]
theorem QS.plain {o:Oper} {s:S} {h h':uj} {v:AV} (hg:o.guard=none) (hop:∀ env,(∀ r,r∈o.looksAt ops→S.get ⟨s.n,env,[],0⟩ r=s.get r)→aN P w0 T0 o ⟨s.n,env,h.1,h.2⟩ (fun r s'=>r=v∧s'=⟨s.n,env,h'.1,h'.2⟩)) :
  QS P w0 T0 ops o s.n s.get h h' v:=by
 intro env he H a w K Qx hr hk
 rw [if_pos (by simp [Region.wanted,hg])]
 refine hop env he H a w K Qx hr ?_
 rintro r s' val w' ⟨rfl,rfl⟩ hr'
 exact hk val w' hr'
theorem QS.guarded {o:Oper} {s:S} {h h':uj} {v:AV} {c:Bool} (hg:gd ops s o=some (some c))
  (hop:c=true→∀ env,(∀ r,r∈o.looksAt ops→S.get ⟨s.n,env,[],0⟩ r=s.get r)→aN P w0 T0 o ⟨s.n,env,h.1,h.2⟩ (fun r s'=>r=v∧s'=⟨s.n,env,h'.1,h'.2⟩))
  (hno:c=false→h'=h∧Fv.below h.2 v=true):QS P w0 T0 ops o s.n s.get h h' (.opt c v):=by
 intro env he H a w K Qx hr hk
 have hgd:gd ops ⟨s.n,env,h.1,h.2⟩ o=some (some c):=by rw [←hg];exact SX he
 rw [PY hgd hr]
 cases c with
 | true=>
  simp only [if_true]
  refine hop rfl env he H a w K Qx hr ?_
  rintro r s' val w' ⟨rfl,rfl⟩ ⟨m',hm'⟩
  have hv:=hm'.held _ (.head _)
  exact hk val w' ⟨m',hm'.nX.hold (.opt true _ val hv.ids (fun _=>hv) (fun e=>by cases e))⟩
 | false=>
  obtain ⟨rfl,hb⟩:=hno rfl
  simp only [Bool.false_eq_true,if_false]
  obtain ⟨m,hm⟩:=hr
  exact hk undef w ⟨m,hm.hold (.opt false v undef hb (fun e=>by cases e) (fun _=>rfl))⟩
theorem Gw {o:Oper} {s:S} (hl:∀ t,.tmp t∈ig o.op→t∈o.looksAt ops) {h:uj} {R:List (Nat × Item)} {N:Nat} {v:AV}
  (hv:qy P w0 T0 o ⟨s.n,eX s (ig o.op),h.1,h.2⟩ (fun r s'=>r=v∧s'.rows=R∧s'.next=N)) :
  ∀ env,(∀ r,r∈o.looksAt ops→S.get ⟨s.n,env,[],0⟩ r=s.get r)→aN P w0 T0 o ⟨s.n,env,h.1,h.2⟩ (fun r s'=>r=v∧s'=⟨s.n,env,R,N⟩):=by
 intro env he
 have e:eX ⟨s.n,env,h.1,h.2⟩ (ig o.op)=eX s (ig o.op):=iZ _ fun t ht=>he t (hl t ht)
 have:=mX hv
 rw [←e] at this
 exact this.frame (s:=⟨s.n,env,h.1,h.2⟩) (oL _ _)
theorem Gx {o:Oper} {s:S} (hl:∀ t,.tmp t∈ig o.op→t∈o.looksAt ops) {h:uj} {R:List (Nat × Item)} {N:Nat} {v:AV} (hc:fA s (ig o.op)=true)
  (hv:qy P w0 T0 o ⟨s.n,jK s (ig o.op),h.1,h.2⟩ (fun r s'=>r=v∧s'.rows=R∧s'.next=N)) :
  ∀ env,(∀ r,r∈o.looksAt ops→S.get ⟨s.n,env,[],0⟩ r=s.get r)→aN P w0 T0 o ⟨s.n,env,h.1,h.2⟩ (fun r s'=>r=v∧s'=⟨s.n,env,R,N⟩):=by
 intro env he
 have e:=jc (s:=s) (s':=⟨s.n,env,h.1,h.2⟩) (ig o.op) fun t ht=>he t (hl t ht)
 have:=mX hv
 rw [←e.1] at this
 exact this.frame (s:=⟨s.n,env,h.1,h.2⟩) (qY _ _ (by rw [e.2];exact hc))
theorem Jc {o:Oper} {s:S} (hl:∀ t,.tmp t∈ig o.op→t∈o.looksAt ops) {h:uj} {R:List (Nat × Item)} {N:Nat} {pre:Prop} {b:Bool} (hg:vW ⟨s.n,eX s (ig o.op),R,N⟩ o.op=some (pre,b)) (hp:pre) (hok:uJ o.op) :
  ∀ env,(∀ r,r∈o.looksAt ops→S.get ⟨s.n,env,[],0⟩ r=s.get r)→aN P w0 T0 o ⟨s.n,env,h.1,h.2⟩ (fun r s'=>r=.bool b∧s'=⟨s.n,env,h.1,h.2⟩):=by
 intro env he
 have e:eX ⟨s.n,env,h.1,h.2⟩ (ig o.op)=eX s (ig o.op):=iZ _ fun t ht=>he t (hl t ht)
 have hg':vW ⟨s.n,eX s (ig o.op),h.1,h.2⟩ o.op=some (pre,b):=hg
 intro H a w next Q ⟨m,hm⟩ hn
 have hm1:=hm.restrict (oL ⟨s.n,env,h.1,h.2⟩ (ig o.op))
 rw [e] at hm1
 have hrun:=qO (P:=P) hg' hp hok ⟨m,hm1⟩
 unfold Oper.wp
 rw [hrun]
 exact hn _ _ (.bool b) w ⟨rfl,rfl⟩ ⟨m,hm.hold (.bool b)⟩
end
def qH (T:List Nat) (i q:Nat):Bool:=(T.getD i 0).testBit q
def Za (ops:Array Oper):List Nat:=
 ops.toList.foldl (fun acc o=>acc++[o.after.toList.foldl (fun s e=>bif Region.binds .any e then s ||| 2 ^ e.on ||| acc.getD e.on 0 else s) 0]) []
def kV (es:List Nat) (i:Nat):Nat:=(List.range i).countP fun j=>es.elem j
def wE (ops:Array Oper) (f:Nat→Oper→Bool):Bool:=(List.range ops.size).all fun i=>match ops[i]? with
 | some o=>f i o
 | none=>true
theorem gY {ops:Array Oper} {f:Nat→Oper→Bool} (h:wE ops f=true) {i:Nat} {o:Oper} (hi:ops[i]?=some o):f i o=true:=by
 have h1:=List.all_eq_true.1 h i (List.mem_range.2 (Array.getElem?_eq_some_iff.1 hi).1)
 simpa [hi] using h1
def Tn (ops:Array Oper) (es:List Nat) (tb:List (Nat × List Nat)) (T:List Nat):Bool:=
 Region.noSelect ops &&
 wE ops (fun (i:Nat) (o:Oper)=>o.after.all fun e=>!Region.binds .any e || decide (e.on<i)) &&
 wE ops (fun (i:Nat) (o:Oper)=>(List.range ops.size).all fun q=>!qH T i q || o.after.any fun e=>Region.binds .any e && (e.on == q || qH T e.on q)) &&
 wE ops (fun (i:Nat) (o:Oper)=>match o.dst with
  | none=>true
  | some r=>wE ops fun (j:Nat) (oj:Oper)=>j == i || oj.dst != some r) &&
 wE ops (fun (i:Nat) (o:Oper)=>wE ops fun (j:Nat) (oj:Oper)=>match oj.dst with
  | none=>true
  | some r=>!(o.looksAt ops).contains r || (qH T i j && decide (j<i)) || (!qH T i j && (decide (i<j) && qH T j i))) &&
 wE ops (fun (i:Nat) (o:Oper)=>(ig o.op).all fun x=>match x with
  | .tmp t=>(o.looksAt ops).contains t
  | _=>true) &&
 (List.range es.length).all (fun k=>match es[k]? with
  | some i=>decide (i<ops.size) && kV es i == k && (match es[k+1]? with
   | some i'=>qH T i' i
   | none=>true)
  | none=>true) &&
 wE ops (fun (i:Nat) (o:Oper)=>es.elem i || (List.range (es.length+1)).all fun k=>k == kV es i || (oG tb i).contains k || (es.drop k).any (fun e=>qH T i e) || (es.take k).any (fun e=>qH T e i)) &&
 kV es ops.size == es.length
structure mZ (ops:Array Oper) (es:List Nat) (tb:List (Nat × List Nat)) (T:List Nat):Prop where
 sel:Region.noSelect ops=true
 low:∀ (i:Nat) (o:Oper),ops[i]?=some o→∀ e,e∈o.after→Region.binds .any e=true→e.on<i
 anc:∀ (i:Nat) (o:Oper),ops[i]?=some o→∀ q,q<ops.size→qH T i q=true→∃ e,e∈o.after∧Region.binds .any e=true∧(e.on=q∨qH T e.on q=true)
 dst:∀ (i:Nat) (o:Oper) (r j:Nat) (oj:Oper),ops[i]?=some o→ops[j]?=some oj→o.dst=some r→oj.dst=some r→j=i
 look:∀ (i:Nat) (o:Oper) (r j:Nat) (oj:Oper),ops[i]?=some o→ops[j]?=some oj→oj.dst=some r→r∈o.looksAt ops→(qH T i j=true∧j<i)∨(qH T i j=false∧i<j∧qH T j i=true)
 reads:∀ (i:Nat) (o:Oper),ops[i]?=some o→∀ t,.tmp t∈ig o.op→t∈o.looksAt ops
 es1:∀ k i,es[k]?=some i→i<ops.size∧kV es i=k
 es2:∀ k i i',es[k]?=some i→es[k+1]?=some i'→qH T i' i=true
 heaps:∀ (i:Nat) (o:Oper),ops[i]?=some o→es.elem i=false→∀ k,k≤es.length→k=kV es i∨k∈oG tb i∨(∃ k' e,k≤k'∧es[k']?=some e∧qH T i e=true)∨(∃ k' e,k'<k∧es[k']?=some e∧qH T e i=true)
 tot:kV es ops.size=es.length
theorem mZ.of {ops:Array Oper} {es:List Nat} {tb:List (Nat × List Nat)} {T:List Nat} (h:Tn ops es tb T=true):mZ ops es tb T:=by
 simp only [Tn,Bool.and_eq_true] at h
 obtain ⟨⟨⟨⟨⟨⟨⟨⟨h1,h2⟩,h3⟩,h4⟩,h5⟩,h6⟩,h7⟩,h8⟩,h9⟩:=h
 refine ⟨h1,?_,?_,?_,?_,?_,?_,?_,?_,by simpa using h9⟩
 ·intro i o hi e he hb
  have:=gY h2 hi
  have:=Array.all_eq_true_iff_forall_mem.1 this e he
  simpa [hb] using this
 ·intro i o hi q hq hb
  have:=gY h3 hi
  have:=List.all_eq_true.1 this q (List.mem_range.2 hq)
  simp only [hb,Bool.not_true,Bool.false_or] at this
  obtain ⟨e,he,hh⟩:=Array.any_eq_true'.1 this
  simp only [Bool.and_eq_true,Bool.or_eq_true,beq_iff_eq] at hh
  exact ⟨e,he,hh.1,hh.2⟩
 ·intro i o r j oj hi hj hd hdj
  have:=gY h4 hi
  rw [hd] at this
  have:=gY this hj
  simp only [Bool.or_eq_true,beq_iff_eq,hdj,bne_self_eq_false,Bool.false_eq_true,or_false] at this
  exact this
 ·intro i o r j oj hi hj hd hr
  have:=gY (gY h5 hi) hj
  rw [hd] at this
  simp only [Bool.or_eq_true,Bool.not_eq_true',Bool.and_eq_true,decide_eq_true_eq] at this
  rcases this with (h0|h0)|h0
  ·have:(o.looksAt ops).contains r=true:=by simpa using hr
   rw [this] at h0;cases h0
  ·exact .inl h0
  ·exact .inr h0
 ·intro i o hi t ht
  have:=List.all_eq_true.1 (gY h6 hi) _ ht
  simpa using this
 ·intro k i hk
  have hlt:k<es.length:=(List.getElem?_eq_some_iff.1 hk).1
  have:=List.all_eq_true.1 h7 k (List.mem_range.2 hlt)
  rw [hk] at this
  simp only [Bool.and_eq_true,decide_eq_true_eq,beq_iff_eq] at this
  exact this.1
 ·intro k i i' hk hk'
  have hlt:k<es.length:=(List.getElem?_eq_some_iff.1 hk).1
  have:=List.all_eq_true.1 h7 k (List.mem_range.2 hlt)
  rw [hk,hk'] at this
  simp only [Bool.and_eq_true] at this
  exact this.2
 ·intro i o hi he k hk
  have:=gY h8 hi
  rw [he,Bool.false_or] at this
  have:=List.all_eq_true.1 this k (List.mem_range.2 (by omega))
  simp only [Bool.or_eq_true,beq_iff_eq,List.any_eq_true,List.contains_iff_mem] at this
  rcases this with ((h0|h0)|⟨e,he,hb⟩)|⟨e,he,hb⟩
  ·exact .inl h0
  ·exact .inr (.inl h0)
  ·obtain ⟨q,hq⟩:=List.mem_iff_getElem?.1 he
   rw [List.getElem?_drop] at hq
   exact .inr (.inr (.inl ⟨k+q,e,by omega,hq,hb⟩))
  ·obtain ⟨q,hq⟩:=List.mem_iff_getElem?.1 he
   rw [List.getElem?_take] at hq
   split at hq
   ·exact .inr (.inr (.inr ⟨q,e,by assumption,hq,hb⟩))
   ·cases hq
def Oe (ops:Array Oper) (r:Nat):Option Nat:=(List.range ops.size).find? fun i=>match ops[i]? with
 | some o=>o.dst == some r
 | none=>false
theorem og {ops:Array Oper} {r j:Nat} (h:Oe ops r=some j):∃ o,ops[j]?=some o∧o.dst=some r:=by
 have:=List.find?_some h
 cases ho:ops[j]? with
 | none=>rw [ho] at this;cases this
 | some o=>rw [ho] at this;exact ⟨o,rfl,by simpa using this⟩
theorem mZ.Oe {ops:Array Oper} {es:List Nat} {tb:List (Nat × List Nat)} {T:List Nat} (h:mZ ops es tb T) {i:Nat} {o:Oper} {r:Nat} (hi:ops[i]?=some o) (hd:o.dst=some r):Fv.Oe ops r=some i:=by
 cases hx:Fv.Oe ops r with
 | none=>
  have:=List.find?_eq_none.1 hx i (List.mem_range.2 (Array.getElem?_eq_some_iff.1 hi).1)
  simp [hi,hd] at this
 | some j=>
  obtain ⟨oj,hj,hdj⟩:=og hx
  rw [h.dst i o r j oj hi hj hd hdj]
section
variable {P:Program} {w0:World} {T0:Bs} {ops:Array Oper} {es:List Nat} {tb:List (Nat × List Nat)} {T:List Nat} [hG:rQ P w0 T0]
def jQ (ops:Array Oper) (s0:S) (vs:List AV) (i r:Nat):AV:=match Oe ops r with
 | some j=>if j<i then vs.getD j .dead else s0.get r
 | none=>s0.get r
theorem QS.congr {o:Oper} {n:Nat} {get get':Nat→AV} {h h':uj} {v:AV} (hq:QS P w0 T0 ops o n get h h' v) (he:∀ r,r∈o.looksAt ops→get' r=get r):QS P w0 T0 ops o n get' h h' v:=
 fun env hen=>hq env fun r hr=>(hen r hr).trans (he r hr)
structure uY (P:Program) (w0:World) (T0:Bs) (ops:Array Oper) (es:List Nat) (s0:S) (i:Nat) (vs:List AV) (hs:List uj):Prop where
 quiet:∀ j o,j<i→ops[j]?=some o→es.elem j=false→∃ h,hs[kV es j]?=some h∧QS P w0 T0 ops o s0.n (jQ ops s0 vs j) h h (vs.getD j .dead)
 eff:∀ j o,j<i→ops[j]?=some o→es.elem j=true→∃ h h',hs[kV es j]?=some h∧hs[kV es j+1]?=some h'∧QS P w0 T0 ops o s0.n (jQ ops s0 vs j) h h' (vs.getD j .dead)
 put:∀ j o d,j<i→ops[j]?=some o→o.dst=some d→d<s0.n
theorem kL {s0:S} {vs:List AV} {v:AV} {j:Nat} (h:j≤vs.length) (r:Nat):jQ ops s0 (vs++[v]) j r=jQ ops s0 vs j r:=by
 unfold jQ
 split
 ·rename_i q _
  split
  ·rename_i hq
   simp only [List.getD_eq_getElem?_getD]
   rw [List.getElem?_append_left (by omega)]
  ·rfl
 ·rfl
theorem qQ {vs:List AV} {v:AV} {j:Nat} (h:j<vs.length):(vs++[v]).getD j .dead=vs.getD j .dead:=by
 simp only [List.getD_eq_getElem?_getD]
 rw [List.getElem?_append_left h]
theorem kC {vs:List AV} {v:AV}:(vs++[v]).getD vs.length .dead=v:=by
 simp [List.getD_eq_getElem?_getD]
theorem EN (i:Nat):kV es (i+1)=kV es i+(bif es.elem i then 1 else 0):=by
 unfold kV
 rw [List.range_succ,List.countP_append,List.countP_singleton]
 cases es.elem i<;>rfl
def rD (P:Program) (w0:World) (T0:Bs) (n:Nat) (x:Acc) (h:uj):Prop:=match x.g with
 | none=>Ut P w0 T0 x.o ⟨n,x.env,h.1,h.2⟩ x.v
 | some c=>Fv.below h.2 x.v=true∧(c=true→Ut P w0 T0 x.o ⟨n,x.env,h.1,h.2⟩ x.v)
theorem BM {n:Nat} {x:Acc} {hs:List uj}:∀ {l:List Nat},ES P w0 T0 n x hs l→∀ k,k∈l→∃ h,hs[k]?=some h∧rD P w0 T0 n x h
 | k'::l,h,k,hk=>by
  unfold ES at h
  rcases List.mem_cons.1 hk with rfl|hk
  ·cases hh:hs[k]? with
   | none=>rw [hh] at h;exact h.1.elim
   | some q=>rw [hh] at h;exact ⟨q,rfl,h.1⟩
  ·exact BM h.2 k hk
theorem Qy {n:Nat} {hs:List uj} (l:List Acc) (h:redo P w0 T0 n hs l) (x:Acc) (hx:x∈l) (k:Nat) (hk:k∈x.ks):∃ h,hs[k]?=some h∧rD P w0 T0 n x h:=by
 induction l with
 | nil=>cases hx
 | cons y l ih=>
  obtain ⟨h1,h2⟩:=(h:ES P w0 T0 n y hs y.ks∧redo P w0 T0 n hs l)
  rcases List.mem_cons.1 hx with rfl|hx
  ·exact BM h1 k hk
  ·exact ih h2 hx
theorem BA {ks:List Nat} {x y:Acc} {l:List Acc} (h:y∈l):y∈nP ks x l:=by
 unfold nP;split
 ·exact h
 ·exact .tail _ h
theorem y8 {ks:List Nat} {x:Acc} {l:List Acc} {k:Nat} (h:k∈ks):x∈nP ks x l:=by
 unfold nP;split
 ·cases h
 ·exact .head _
def NQ (P:Program) (w0:World) (T0:Bs) (ops:Array Oper) (es:List Nat) (tb:List (Nat × List Nat)) (s0:S) (i:Nat) (vs:List AV) (acc:List Acc):Prop:=
 ∀ j o,j<i→ops[j]?=some o→es.elem j=false→∀ k,k∈oG tb j →
  (∀ h,QS P w0 T0 ops o s0.n (jQ ops s0 vs j) h h (vs.getD j .dead))∨∃ x,x∈acc∧x.ks=oG tb j∧∀ h,rD P w0 T0 s0.n x h→QS P w0 T0 ops o s0.n (jQ ops s0 vs j) h h (vs.getD j .dead)
theorem OD (hok:mZ ops es tb T) {s0 s:S} {i:Nat} {o:Oper} {vs:List AV} {hs hs':List uj} {v:AV} {Q:S→Prop} (hi:ops[i]?=some o) (hlen:vs.length=i) (hn:s.n=s0.n) (hget:∀ r,s.get r=jQ ops s0 vs i r)
  (hd:uY P w0 T0 ops es s0 i vs hs) (hlh:hs.length=kV es i+1) (hpre:∀ (k:Nat) (h:uj),hs[k]?=some h→hs'[k]?=some h)
  (hq:es.elem i=false→∃ h,hs'[kV es i]?=some h∧QS P w0 T0 ops o s0.n (jQ ops s0 vs i) h h v)
  (he:es.elem i=true→∃ h h',hs'[kV es i]?=some h∧hs'[kV es i+1]?=some h'∧QS P w0 T0 ops o s0.n (jQ ops s0 vs i) h h' v)
  (hput:gK o.dst v s Q):∃ s',Q s'∧s'.n=s0.n∧s'.rows=s.rows∧s'.next=s.next∧(∀ r,s'.get r=jQ ops s0 (vs++[v]) (i+1) r)∧uY P w0 T0 ops es s0 (i+1) (vs++[v]) hs':=by
 have hnew:∀ d,o.dst=some d→jQ ops s0 (vs++[v]) (i+1) d=v:=by
  intro d hdd
  unfold jQ
  rw [hok.Oe hi hdd]
  simp only [Nat.lt_succ_self,if_true]
  rw [←hlen];exact kC
 have hold:∀ r,o.dst≠some r→jQ ops s0 (vs++[v]) (i+1) r=s.get r:=by
  intro r hr
  rw [hget]
  unfold jQ
  cases hx:Oe ops r with
  | none=>rfl
  | some j=>
   dsimp only
   have hne:j≠i:=by
    rintro rfl
    obtain ⟨oj,hj,hdj⟩:=og hx
    rw [hi] at hj;cases hj
    exact hr hdj
   by_cases hji:j<i
   ·rw [if_pos hji,if_pos (by omega),qQ (by omega)]
   ·rw [if_neg hji,if_neg (by omega)]
 have hdone:(∀ d,o.dst=some d→d<s0.n)→uY P w0 T0 ops es s0 (i+1) (vs++[v]) hs':=by
  intro hdn
  refine ⟨?_,?_,?_⟩
  ·intro j oj hj hoj hej
   by_cases e:j=i
   ·subst e
    rw [hi] at hoj;cases hoj
    obtain ⟨h,hh,hqs⟩:=hq hej
    refine ⟨h,hh,?_⟩
    rw [show (vs++[v]).getD j .dead=v from by rw [←hlen];exact kC]
    exact hqs.congr fun r _=>kL (by omega) r
   ·obtain ⟨h,hh,hqs⟩:=hd.quiet j oj (by omega) hoj hej
    refine ⟨h,hpre _ _ hh,?_⟩
    rw [qQ (by omega)]
    exact hqs.congr fun r _=>kL (by omega) r
  ·intro j oj hj hoj hej
   by_cases e:j=i
   ·subst e
    rw [hi] at hoj;cases hoj
    obtain ⟨h,h',hh,hh',hqs⟩:=he hej
    refine ⟨h,h',hh,hh',?_⟩
    rw [show (vs++[v]).getD j .dead=v from by rw [←hlen];exact kC]
    exact hqs.congr fun r _=>kL (by omega) r
   ·obtain ⟨h,h',hh,hh',hqs⟩:=hd.eff j oj (by omega) hoj hej
    refine ⟨h,h',hpre _ _ hh,hpre _ _ hh',?_⟩
    rw [qQ (by omega)]
    exact hqs.congr fun r _=>kL (by omega) r
  ·intro j oj d hj hoj hdj
   by_cases e:j=i
   ·subst e
    rw [hi] at hoj;cases hoj
    exact hdn d hdj
   ·exact hd.put j oj d (by omega) hoj hdj
 unfold gK at hput
 cases hdst:o.dst with
 | none=>
  rw [hdst] at hput
  exact ⟨s,hput,hn,rfl,rfl,fun r=>(hold r (by rw [hdst];simp)).symm,hdone fun d h=>by rw [hdst] at h;cases h⟩
 | some d=>
  rw [hdst] at hput
  dsimp only at hput
  split at hput
  ·rename_i hlt
   refine ⟨s.set d v,hput,hn,rfl,rfl,fun r=>?_,hdone fun d' h=>by rw [hdst] at h;cases h;rw [←hn];exact hlt⟩
   by_cases e:d=r
   ·subst e
    rw [hnew d hdst]
    simp [S.get,S.set,lk]
   ·rw [hold r (by rw [hdst];simpa using e)]
    simp [S.get,S.set,lk,e]
  ·exact hput.elim
end
end Go.Fv
/-
 Operations whose result is fixed by the state.
-/
namespace Go.Fv
open Go.RowKit
def iJ (F:(AV→S→Prop)→Prop):Prop:=∀ K,F K→∃ v s',K v s'∧∀ K':AV→S→Prop,K' v s'→F K'
theorem iJ.pure (v:AV) (s:S):iJ (fun K=>K v s):=fun K h=>⟨v,s,h,fun _ h=>h⟩
theorem iJ.no:iJ (fun _=>False):=fun _ h=>h.elim
theorem iJ.chk {p:Prop} {F:(AV→S→Prop)→Prop} (h:iJ F):iJ (fun K=>aW p (F K)):=fun K hk=>by
 obtain ⟨v,s,h1,h2⟩:=h K hk.2
 exact ⟨v,s,h1,fun K' hk'=>⟨hk.1,h2 K' hk'⟩⟩
theorem iJ.Y8 {k:IntKind} {e:Int} (s:S):iJ (fun K=>bZ k e (fun n=>K (.int k n) s)):=fun K h=>
 ⟨.int k (k.wrap e),s,h _ rfl (bY _ _),fun K' hk' n hn _=>by subst hn;exact hk'⟩
section
variable {P:Program} {w0:World} {T0:Bs} {s:S}
theorem Wi (e:TypeId) (x:Operand):iJ (Fq e x s):=by
 intro K h
 unfold Fq at h ⊢
 cases hb:iD (s.ev x) with
 | none=>rw [hb] at h;exact h.elim
 | some cs=>rw [hb] at h;exact (iJ.pure _ _).chk K h
theorem P9 (e:TypeId):iJ (tq P e s):=by
 intro K h
 unfold tq at h ⊢
 cases hb:zeroOf P e with
 | none=>rw [hb] at h;exact h.elim
 | some z=>rw [hb] at h;exact (iJ.pure _ _).chk K h
theorem Qe (t:TypeId) (x v:Operand):iJ (tH P t x v s):=by
 intro K h
 unfold tH at h ⊢
 cases hb:iD (s.ev v) with
 | none=>rw [hb] at h;exact h.elim
 | some cs=>
  rw [hb] at h
  refine (iJ.chk ?_) K h
  intro K h
  cases hx:s.ev x<;>rw [hx] at h<;>try (exact h.elim)
  ·rename_i i off
   dsimp only at h ⊢
   cases hl:lk s.rows i with
   | none=>rw [hl] at h;exact h.elim
   | some it=>cases it with
    | row e r=>rw [hl] at h;exact h.elim
    | map _ _=>rw [hl] at h;exact h.elim
    | iter _ _ _=>rw [hl] at h;exact h.elim
    | siter _ _=>rw [hl] at h;exact h.elim
    | box e bs=>rw [hl] at h;exact (iJ.pure _ _).chk K h
  ·rename_i i sz idx off
   dsimp only at h ⊢
   cases hl:lk s.rows i with
   | none=>rw [hl] at h;exact h.elim
   | some it=>cases it with
    | box e bs=>rw [hl] at h;exact h.elim
    | map _ _=>rw [hl] at h;exact h.elim
    | iter _ _ _=>rw [hl] at h;exact h.elim
    | siter _ _=>rw [hl] at h;exact h.elim
    | row e r=>
     rw [hl] at h
     refine (iJ.chk ?_) K h
     intro K h
     cases hq:lK r idx off cs with
     | none=>rw [hq] at h;exact h.elim
     | some r'=>rw [hq] at h;exact (iJ.pure _ _) K h
theorem Tv (t:TypeId) (l c:Operand):iJ (yE P t l c s):=by
 intro K h
 unfold yE at h ⊢
 split at h
 ·rename_i e k n k2 n2 h1 h2 h3
  cases hz:zeroOf P e with
  | none=>rw [hz] at h;exact h.elim
  | some z=>rw [hz] at h;exact (iJ.pure _ _).chk.chk K h
 ·exact h.elim
theorem Bj (t:TypeId) (len:Nat) (parts:Array (Nat × Operand)):iJ (iI P t len parts s):=by
 intro K h
 unfold iI at h ⊢
 split at h
 ·rename_i e h1
  cases hz:zeroOf P e with
  | none=>rw [hz] at h;exact h.elim
  | some z=>
   rw [hz] at h
   refine (iJ.chk (iJ.chk ?_)) K h
   intro K h
   split at h
   ·rename_i r hr;exact iJ.pure _ _ K h
   ·exact h.elim
 ·exact h.elim
theorem Qa (t:TypeId) (parts:Array (Nat × Operand)):iJ (qh P t parts s):=by
 intro K h
 unfold qh at h ⊢
 split at h
 ·rename_i d z h1 h2
  refine (iJ.chk (iJ.chk ?_)) K h
  intro K h
  split at h
  ·rename_i r hr;exact iJ.pure _ _ K h
  ·exact h.elim
 ·exact h.elim
theorem Gi (fn:Fn) (first caps:Array Operand):iJ (iT fn first caps s):=by
 intro K h
 unfold iT at h ⊢
 split at h
 ·exact (iJ.pure _ _).chk K h
 ·exact h.elim
theorem pU (t t2:TypeId) (x y:Operand):iJ (jF P t t2 x y s):=by
 intro K h
 unfold jF at h ⊢
 split at h
 ·rename_i e i h1 h2
  split at h
  ·rename_i e' r h3
   split at h
   ·rename_i r2 h4
    split at h
    ·rename_i r3 h5
     split at h
     ·rename_i z h6
      exact (iJ.pure _ _).chk.chk.chk K h
     ·exact h.elim
    ·exact h.elim
   ·exact h.elim
  ·exact h.elim
 ·exact h.elim
theorem Jm (t t2:TypeId) (x y:Operand):iJ (lU P t t2 x y s):=by
 intro K h
 unfold lU at h ⊢
 split at h
 ·rename_i r
  split at h
  ·split at h
   ·split at h
    ·exact (pU t t2 _ y).chk K h
    ·exact h.elim
   ·exact h.elim
  ·split at h
   ·exact (pU t t2 _ y).chk K h
   ·exact h.elim
  ·exact pU t t2 _ y K h
 ·exact pU t t2 _ y K h
theorem Wj (x:Operand):iJ (Df x s):=by
 intro K h
 unfold Df at h ⊢
 split at h
 all_goals first|exact h.elim|(rename_i hx;exact iJ.pure _ _ K h)
theorem Jo (x:Operand) (i:Nat):iJ (jX x i s):=by
 intro K h
 unfold jX at h ⊢
 split at h
 ·rename_i l hx
  split at h
  ·rename_i v hv;exact iJ.pure _ _ K h
  ·exact h.elim
 ·exact h.elim
theorem Ya (op:UnOp) (x:Operand):iJ (NG op x s):=by
 intro K h
 unfold NG at h ⊢
 cases hx:s.ev x<;>rw [hx] at h<;>try (exact h.elim)
 ·cases op<;>first|exact h.elim|exact iJ.pure _ _ K h
 ·cases op<;>first|exact h.elim|exact iJ.Y8 _ K h
theorem Tq (a b:TypeId) (x:Operand):iJ (uT P a b x s):=by
 intro K h
 unfold uT at h ⊢
 split at h
 ·rename_i d1 d2 h1 h2
  cases d2<;>try (exact h.elim)
  ·cases hx:s.ev x<;>rw [hx] at h<;>try (exact h.elim)
   exact iJ.Y8 _ K h
  ·cases hx:s.ev x<;>rw [hx] at h<;>try (exact h.elim)
   ·exact (iJ.pure _ _).chk K h
   ·exact iJ.pure _ _ K h
   ·rename_i r
    cases r<;>try (exact h.elim)
    rename_i k l
    cases k<;>try (exact h.elim)
    cases d1<;>try (exact h.elim)
    exact (iJ.pure _ _).chk K h
   ·rename_i i
    dsimp only at h ⊢
    split at h
    ·rename_i l e h3 ; exact (iJ.pure _ _).chk K h
    ·exact h.elim
 ·exact h.elim
theorem Qb (a b:TypeId) (x:Operand):iJ (tu P a b x s):=by
 intro K h
 unfold tu at h ⊢
 split at h
 ·split at h
  ·exact ((iJ.pure _ _).chk) K h
  ·exact h.elim
 ·exact Tq a b x K h
theorem Tz (m:Bool) (xs:List AV):iJ (fun K=>KI m xs (fun r=>K r s)):=by
 intro K h
 unfold KI at h ⊢
 split at h
 ·exact (iJ.pure _ s).chk K h
 ·exact (iJ.pure _ s).chk K h
 ·exact h.elim
theorem Jq (t:TypeId) (x:Operand):iJ (uU P t x s):=by
 intro K h
 unfold uU at h ⊢
 split at h
 ·split at h
  ·rename_i e h1
   split at h
   ·rename_i z h2;exact (iJ.pure _ _).chk K h
   ·exact h.elim
  ·exact h.elim
 ·exact (iJ.pure _ _).chk K h
 ·rename_i h1 h2
  exact (iJ.pure _ _).chk K h
theorem Jp (t:TypeId) (r:Option Operand):iJ (oP P t r s):=by
 intro K h
 cases r with
 | none=>exact iJ.pure _ _ K h
 | some _=>exact h.elim
theorem L6 (t:TypeId) (x k v:Operand):iJ (oU P t x k v s):=by
 intro K h
 unfold oU at h ⊢
 cases ht:P.underlying t with
 | none=>rw [ht] at h;exact h.elim
 | some d=>
  rw [ht] at h
  cases d<;>try (exact h.elim)
  dsimp only at h ⊢
  cases hx:s.ev x<;>rw [hx] at h<;>try (exact h.elim)
  dsimp only at h ⊢
  split at h
  ·rename_i hi
   exact ((iJ.pure _ _).chk.chk) K h
  ·exact h.elim
theorem Tt (ks vs:List AV) (k:AV) (z:Value) (i:Nat):iJ (PV ks vs k z i s):=by
 intro K h
 unfold PV at h ⊢
 cases z<;>first|exact h.elim|exact ((iJ.pure _ _).chk) K h
theorem LZ (t:TypeId) (x k:Operand):iJ (oQ P t x k s):=by
 intro K h
 unfold oQ at h ⊢
 cases ht:P.underlying t with
 | none=>rw [ht] at h;exact h.elim
 | some d=>
  rw [ht] at h
  cases d<;>try (exact h.elim)
  rename_i kt et
  dsimp only at h ⊢
  cases hz:zeroOf P et with
  | none=>rw [hz] at h;exact h.elim
  | some z=>
   rw [hz] at h
   dsimp only at h ⊢
   cases hx:s.ev x<;>rw [hx] at h<;>try (exact h.elim)
   dsimp only at h ⊢
   split at h
   ·rename_i hi
    exact ((Tt _ _ _ z _).chk.chk) K h
   ·exact h.elim
theorem Gh (x st v:Operand):iJ (jW x st v s):=by
 intro K h
 unfold jW at h ⊢
 cases hx:s.ev x<;>rw [hx] at h<;>try (exact h.elim)
 dsimp only at h ⊢
 split at h
 ·rename_i hi
  split at h
  ·rename_i hs
   exact ((iJ.pure _ _).chk.chk) K h
  ·exact h.elim
 ·exact h.elim
theorem Qd (t:TypeId) (x:Operand):iJ (tC P t x s):=by
 intro K h
 unfold tC at h ⊢
 cases ht:P.underlying t with
 | none=>rw [ht] at h;exact h.elim
 | some d=>
  rw [ht] at h
  cases d<;>try (exact h.elim)
  ·dsimp only at h ⊢
   cases hx:s.ev x<;>rw [hx] at h<;>try (exact h.elim)
   exact ((iJ.pure _ _).chk) K h
  ·dsimp only at h ⊢
   cases hx:s.ev x<;>rw [hx] at h<;>try (exact h.elim)
   dsimp only at h ⊢
   split at h
   ·rename_i hi
    exact ((iJ.pure _ _).chk) K h
   ·exact h.elim
theorem TA {o:Oper} (hl:A8 o.op=true):iJ (qy P w0 T0 o s):=by
 intro K h
 unfold qy at h ⊢
 cases ho:o.op<;>rw [ho] at h hl<;>try (cases hl;done)
 case move x=>exact Jq _ _ K h
 case assign x=>exact Jq _ _ K h
 case extract x i=>exact (Jo x i).chk K h
 case makeFunc fn first caps=>exact Gi _ _ _ K h
 case box e x=>exact Wi _ _ K h
 case alloc e=>exact P9 _ K h
 case store t x v=>exact (Qe t x v).chk K h
 case nilCheck x=>exact (Wj x).chk K h
 case makeSlice t l c=>exact (Tv t l c).chk K h
 case unOp op t x=>exact (Ya op x).chk K h
 case convert t t' x=>exact (Qb t t' x).chk K h
 case buildSlice t len parts=>exact Bj _ _ _ K h
 case build t parts=>exact Qa _ _ K h
 case makeMap t r=>exact Jp _ _ K h
 case mapUpdate t x k v=>exact L6 _ _ _ _ K h
 case mapEntry t x k=>exact LZ _ _ _ K h
 case entryStore t x st v=>exact Gh _ _ _ K h
 case range t x=>exact Qd _ _ K h
 case call c=>
  obtain ⟨callee,args,argTypes⟩:=c
  dsimp only [A8] at hl
  dsimp only [mW] at h ⊢
  cases callee with
  | builtin b=>
   cases b<;>try (cases hl;done)
   case append=>
    dsimp only at h ⊢
    split at h
    ·rename_i x y t t2 h1 h2
     exact (Jm t t2 x y).chk K h
    ·exact h.elim
   case min=>exact (Tz false _).chk K h
   case max=>exact (Tz true _).chk K h
  | _=>cases hl
end
section
variable {P:Program} {w0:World} {T0:Bs} {ops:Array Oper} {es:List Nat} {tb:List (Nat × List Nat)} {T:List Nat} [hG:rQ P w0 T0]
structure xq (P:Program) (w0:World) (T0:Bs) (ops:Array Oper) (es:List Nat) (tb:List (Nat × List Nat)) (s0:S) (hs0:List uj) (Q:S→Prop) (vs:List AV) (hs:List uj) (s:S):Prop where
 q:Q s
 n:s.n=s0.n
 len:hs.length=kV es ops.size+1
 last:hs[kV es ops.size]?=some (s.rows,s.next)
 get:∀ r,s.get r=jQ ops s0 vs ops.size r
 done:uY P w0 T0 ops es s0 ops.size vs hs
 re:∀ (j:Nat) (o:Oper),ops[j]?=some o→es.elem j=false→∀ k,k∈oG tb j→∀ h,hs[k]?=some h→QS P w0 T0 ops o s0.n (jQ ops s0 vs j) h h (vs.getD j .dead)
 pre:∀ (k:Nat) (h:uj),hs0[k]?=some h→hs[k]?=some h
theorem NQ.step {s0:S} {i:Nat} {vs:List AV} {v:AV} {acc acc':List Acc} {o:Oper} (hre:NQ P w0 T0 ops es tb s0 i vs acc) (hlen:vs.length=i) (hi:ops[i]?=some o) (hsub:∀ x,x∈acc→x∈acc')
  (hnew:es.elem i=false→∀ k,k∈oG tb i→(∀ h,QS P w0 T0 ops o s0.n (jQ ops s0 vs i) h h v)∨∃ x,x∈acc'∧x.ks=oG tb i∧∀ h,rD P w0 T0 s0.n x h→QS P w0 T0 ops o s0.n (jQ ops s0 vs i) h h v) :
  NQ P w0 T0 ops es tb s0 (i+1) (vs++[v]) acc':=by
 intro j oj hj hoj hej k hk
 by_cases e:j=i
 ·subst e
  rw [hi] at hoj;cases hoj
  have hv:(vs++[v]).getD j .dead=v:=by rw [←hlen];exact kC
  rcases hnew hej k hk with h|⟨x,hx,hks,h⟩
  ·exact .inl fun h'=>by rw [hv];exact (h h').congr fun r _=>kL (by omega) r
  ·exact .inr ⟨x,hx,hks,fun h' hc=>by rw [hv];exact (h h' hc).congr fun r _=>kL (by omega) r⟩
 ·rcases hre j oj (by omega) hoj hej k hk with h|⟨x,hx,hks,h⟩
  ·exact .inl fun h'=>by rw [qQ (by omega)];exact (h h').congr fun r _=>kL (by omega) r
  ·exact .inr ⟨x,hsub x hx,hks,fun h' hc=>by rw [qQ (by omega)];exact (h h' hc).congr fun r _=>kL (by omega) r⟩
theorem Q8 (hok:mZ ops es tb T) {s0:S}:∀ (l:List Oper) (i:Nat) (acc:List Acc) (hs:List uj) (s:S) (vs:List AV) (Q:S→Prop),ops.toList.drop i=l→i≤ops.size→vs.length=i→hs.length=kV es i+1→hs[kV es i]?=some (s.rows,s.next)→s.n=s0.n →
  (∀ r,s.get r=jQ ops s0 vs i r)→uY P w0 T0 ops es s0 i vs hs→NQ P w0 T0 ops es tb s0 i vs acc→lq P w0 T0 ops es tb l i acc hs s Q→∃ vs' hs' sf,xq P w0 T0 ops es tb s0 hs Q vs' hs' sf:=by
 intro l
 induction l with
 | nil=>
  intro i acc hs s vs Q hdr hile hlen hhl hcur hn hget hd hre h
  have hi:i=ops.size:=by
   have:=List.drop_eq_nil_iff.1 hdr
   simp at this;omega
  subst hi
  obtain ⟨hredo,hq⟩:=h
  refine ⟨vs,hs,s,hq,hn,hhl,hcur,hget,hd,?_,fun _ _ h=>h⟩
  intro j o hj he k hk h hh
  rcases hre j o (Array.getElem?_eq_some_iff.1 hj).1 hj he k hk with h0|⟨x,hx,hks,h0⟩
  ·exact h0 h
  ·obtain ⟨h',hh',hc⟩:=Qy _ hredo x hx k (by rw [hks];exact hk)
   rw [hh] at hh';cases hh'
   rw [hn] at hc
   exact h0 h hc
 | cons o l ih=>
  intro i acc hs s vs Q hdr hile hlen hhl hcur hn hget hd hre h
  have hi:ops[i]?=some o:=by
   have h1:(ops.toList.drop i)[0]?=some o:=by rw [hdr];rfl
   rw [List.getElem?_drop] at h1
   simpa using h1
  have hilt:i<ops.size:=(Array.getElem?_eq_some_iff.1 hi).1
  have hdr':ops.toList.drop (i+1)=l:=by
   have:(ops.toList.drop i).drop 1=l:=by rw [hdr];rfl
   rwa [List.drop_drop] at this
  have hrd:=hok.reads i o hi
  have hgetQ:∀ {h h':uj} {v:AV},QS P w0 T0 ops o s.n s.get h h' v→QS P w0 T0 ops o s0.n (jQ ops s0 vs i) h h' v:=by
   intro h h' v hq
   rw [←hn]
   exact hq.congr fun r _=>(hget r).symm
  have hown1:es.elem i=false→kV es (i+1)=kV es i:=fun e=>by rw [EN,e];rfl
  have hown2:es.elem i=true→kV es (i+1)=kV es i+1:=fun e=>by rw [EN,e];rfl
  -- a quiet operation
  have quiet:es.elem i=false→∀ (v:AV) (acc':List Acc),(∀ x,x∈acc→x∈acc')→QS P w0 T0 ops o s.n s.get (s.rows,s.next) (s.rows,s.next) v →
    (∀ k,k∈oG tb i→(∀ h,QS P w0 T0 ops o s.n s.get h h v)∨∃ x,x∈acc'∧x.ks=oG tb i∧∀ h,rD P w0 T0 s0.n x h→QS P w0 T0 ops o s.n s.get h h v) →
    gK o.dst v s (fun s'=>lq P w0 T0 ops es tb l (i+1) acc' hs s' Q)→∃ vs' hs' sf,xq P w0 T0 ops es tb s0 hs Q vs' hs' sf:=by
   intro he v acc' hsub hqs hnew hput
   obtain ⟨s',hk,hn',hr',hx',hg',hd'⟩:=OD hok hi hlen hn hget hd hhl (fun _ _ h=>h) (fun _=>⟨_,hcur,hgetQ hqs⟩) (fun e=>by rw [he] at e;cases e) hput
   refine ih (i+1) acc' hs s' (vs++[v]) Q hdr' hilt (by simp [hlen]) (by rw [hown1 he];exact hhl) (by rw [hown1 he,hr',hx'];exact hcur) hn' hg' hd' ?_ hk
   refine hre.step hlen hi hsub fun _ k hk=>?_
   rcases hnew k hk with h0|⟨x,hx,hks,h0⟩
   ·exact .inl fun h=>hgetQ (h0 h)
   ·exact .inr ⟨x,hx,hks,fun h hc=>hgetQ (h0 h hc)⟩
  have eff:es.elem i=true→∀ (v:AV) (R:List (Nat × Item)) (N:Nat),QS P w0 T0 ops o s.n s.get (s.rows,s.next) (R,N) v →
    gK o.dst v { s with rows:=R,next:=N } (fun s'=>lq P w0 T0 ops es tb l (i+1) acc (hs++[(R,N)]) s' Q)→∃ vs' hs' sf,xq P w0 T0 ops es tb s0 hs Q vs' hs' sf:=by
   intro he v R N hqs hput
   have hpre:∀ (k:Nat) (h:uj),hs[k]?=some h→(hs++[(R,N)])[k]?=some h:=by
    intro k h hk
    rw [List.getElem?_append_left (List.getElem?_eq_some_iff.1 hk).1];exact hk
   have hlast:(hs++[(R,N)])[kV es i+1]?=some (R,N):=by
    rw [←hhl];simp
   obtain ⟨s',hk,hn',hr',hx',hg',hd'⟩:=OD (s:={ s with rows:=R,next:=N }) hok hi hlen hn hget hd hhl hpre (fun e=>by rw [he] at e;cases e) (fun _=>⟨_,_,hpre _ _ hcur,hlast,hgetQ hqs⟩) hput
   obtain ⟨vs',hs',sf,hend⟩:=ih (i+1) acc (hs++[(R,N)]) s' (vs++[v]) Q hdr' hilt (by simp [hlen]) (by rw [hown2 he];simp [hhl]) (by rw [hown2 he,hr',hx'];exact hlast) hn' hg' hd'
    (hre.step hlen hi (fun _ h=>h) fun e=>by rw [he] at e;cases e) hk
   exact ⟨vs',hs',sf,{ hend with pre:=fun k h hk=>hend.pre k h (hpre k h hk) }⟩
  unfold lq at h
  cases hg:gd ops s o with
  | none=>rw [hg] at h;exact h.elim
  | some g=>
   rw [hg] at h
   simp only [ZM] at h
   rw [AB] at h
   cases he:es.elem i with
   | true=>
    rw [he] at h
    simp only [YF] at h
    cases g with
    | none=>
     dsimp only at h
     have hx:∃ v R N,qy P w0 T0 o ⟨s.n,eX s (ig o.op),s.rows,s.next⟩ (fun r s'=>r=v∧s'.rows=R∧s'.next=N)∧gK o.dst v { s with rows:=R,next:=N } (fun s'=>lq P w0 T0 ops es tb l (i+1) acc (hs++[(R,N)]) s' Q):=by
      cases hl:A8 o.op with
      | false=>
       rw [hl] at h
       obtain ⟨v,R,N,h1,h2,h3⟩:=h
       exact ⟨v,R,N,h1,jH h2 h3⟩
      | true=>
       rw [hl] at h
       obtain ⟨v,t,⟨h2,h3⟩,hall⟩:=TA hl _ h
       exact ⟨v,t.rows,t.next,hall _ ⟨rfl,rfl,rfl⟩,jH h2 h3⟩
     obtain ⟨v,R,N,hA,hB⟩:=hx
     exact eff he v R N (QS.plain (h:=(s.rows,s.next)) (h':=(R,N)) (zK hg) (Gw (h:=(s.rows,s.next)) hrd hA)) hB
    | some c=>
     dsimp only at h
     cases c with
     | true=>
      obtain ⟨v,R,N,⟨hpc,hA⟩,h2,h3⟩:=h.1 rfl
      exact eff he (.opt true v) R N (QS.guarded (h:=(s.rows,s.next)) (h':=(R,N)) hg (fun _=>Gx (h:=(s.rows,s.next)) hrd hpc hA) (fun e=>by cases e)) (jH h2 h3)
     | false=>
      obtain ⟨h2,h3⟩:=h.2 rfl
      exact eff he (.opt false (.bool false)) s.rows s.next (QS.guarded (h:=(s.rows,s.next)) (h':=(s.rows,s.next)) hg (fun e=>by cases e) (fun _=>⟨rfl,rfl⟩)) (jH h2 h3)
   | false=>
    rw [he] at h
    simp only [YF] at h
    have gen:∀ v,JU P w0 T0 o g s v→gK o.dst (Ju g v) s (fun s'=>lq P w0 T0 ops es tb l (i+1) (nP (oG tb i) ⟨o,g,y5 g s (ig o.op),v,oG tb i⟩ acc) hs s' Q)→∃ vs' hs' sf,xq P w0 T0 ops es tb s0 hs Q vs' hs' sf:=by
     intro v hA hput
     cases g with
     | none=>
      refine quiet he v _ (fun x hx=>BA hx) (QS.plain (h:=(s.rows,s.next)) (h':=(s.rows,s.next)) (zK hg) (Gw (h:=(s.rows,s.next)) hrd hA)) ?_ hput
      intro k hk
      refine .inr ⟨_,y8 hk,rfl,fun h hc=>QS.plain (h:=h) (h':=h) (zK hg) (Gw (h:=h) hrd ?_)⟩
      simp only [rD,Ut] at hc
      rw [←hn] at hc
      exact hc
     | some c=>
      refine quiet he (.opt c v) _ (fun x hx=>BA hx) (QS.guarded (h:=(s.rows,s.next)) (h':=(s.rows,s.next)) hg (fun e=>Gx (h:=(s.rows,s.next)) hrd (hA.2 e).1 (hA.2 e).2) (fun _=>⟨rfl,hA.1⟩)) ?_ hput
      intro k hk
      refine .inr ⟨_,y8 hk,rfl,fun h hc=>?_⟩
      simp only [rD,Ut] at hc
      rw [←hn] at hc
      exact QS.guarded (h:=h) (h':=h) hg (fun e=>Gx (h:=h) hrd (hA.2 e).1 (hc.2 e)) (fun _=>⟨rfl,hc.1⟩)
    unfold Yl at h
    cases hp:vW ⟨s.n,eX s (ig o.op),s.rows,s.next⟩ o.op with
    | some pb=>
     obtain ⟨pre,b⟩:=pb
     rw [hp] at h
     cases g with
     | none=>
      obtain ⟨⟨h1,h2⟩,h3,h4⟩:=h
      have hall:∀ h:uj,QS P w0 T0 ops o s.n s.get h h (.bool b):=fun h=>QS.plain (zK hg) (Jc hrd hp h1 h2)
      exact quiet he _ acc (fun _ h=>h) (hall _) (fun _ _=>.inl hall) (jH h3 h4)
     | some c=>
      obtain ⟨h1,h3,h4⟩:=h
      have hall:∀ h:uj,QS P w0 T0 ops o s.n s.get h h (.opt c (.bool b)):=fun h=>QS.guarded hg (fun e=>Jc hrd hp (h1 e).1 (h1 e).2) (fun _=>⟨rfl,rfl⟩)
      exact quiet he _ acc (fun _ h=>h) (hall _) (fun _ _=>.inl hall) (jH h3 h4)
    | none=>
     rw [hp] at h
     dsimp only at h
     cases hv:VY P ⟨s.n,y5 g s (ig o.op),s.rows,s.next⟩ o.op with
     | some v=>
      rw [hv] at h
      obtain ⟨h1,h3,h4⟩:=h
      exact gen v h1 (jH h3 h4)
     | none=>
      rw [hv] at h
      have call:(∃ v,JU P w0 T0 o g s v∧aW (oq o.dst s.n) (lq P w0 T0 ops es tb l (i+1) (nP (oG tb i) ⟨o,g,y5 g s (ig o.op),v,oG tb i⟩ acc) hs (mY o.dst (Ju g v) s) Q))→∃ vs' hs' sf,xq P w0 T0 ops es tb s0 hs Q vs' hs' sf:=by
       rintro ⟨v,h1,h3,h4⟩
       exact gen v h1 (jH h3 h4)
      cases g with
      | some c=>exact call h
      | none=>
       cases hl:A8 o.op with
       | false=>rw [hl] at h;exact call h
       | true=>
        rw [hl] at h
        obtain ⟨v,t,⟨⟨hr,hx⟩,h3,h4⟩,hall⟩:=TA hl _ h
        exact gen v (hall _ ⟨rfl,hr,hx⟩) (jH h3 h4)
end
section
variable {P:Program} {w0:World} {T0:Bs} {b0:Nat} {ops:Array Oper} {es:List Nat} {tb:List (Nat × List Nat)} {T:List Nat} {H:List (AV × Value)} [hG:rQ P w0 T0]
theorem Ox {L:Array Bool} {i:Nat} (h:L.getD i true=false):L.getD i false=false:=by
 rcases Nat.lt_or_ge i L.size with h'|h'
 ·simpa [h'] using h
 ·simp [Array.getElem?_eq_none h']
theorem V3 {L:Array Bool} {i:Nat} (hi:i<L.size) (h:L.getD i false=false):L.getD i true=false:=by
 simpa [hi] using h
theorem S9 (m j:Nat):(Array.replicate m false).getD j false=false:=by
 rcases Nat.lt_or_ge j m with h|h
 ·simp [h]
 ·simp [Array.getElem?_eq_none,h]
def wF (L:Array Bool) (n:Nat):Nat:=(List.range n).countP fun j=>!L.getD j false
theorem EM {L:Array Bool} {i:Nat} (hs:i<L.size) (hi:L.getD i false=false):∀ n,wF (L.setIfInBounds i true) n+(if i<n then 1 else 0)=wF L n
 | 0=>by simp [wF]
 | n+1=>by
  have ih:=EM hs hi n
  unfold wF at *
  rw [List.range_succ,List.countP_append,List.countP_append,List.countP_singleton,List.countP_singleton]
  by_cases e:i=n
  ·subst e
   have h1:(L.setIfInBounds i true).getD i false=true:=by simp [hs]
   rw [h1,hi]
   simp at ih ⊢
   omega
  ·rw [getD_set_ne false e]
   by_cases h2:i<n
   ·rw [if_pos h2] at ih;rw [if_pos (show i<n+1 by omega)];omega
   ·rw [if_neg h2] at ih;rw [if_neg (show ¬i<n+1 by omega)];omega
theorem MF {L:Array Bool} {n:Nat} (h:wF L n=0):∀ i,i<n→L.getD i false=true:=by
 intro i hi
 unfold wF at h
 have:=List.countP_eq_zero.1 h i (List.mem_range.2 hi)
 simpa using this
def uX (ops:Array Oper) (s0:S) (vs:List AV) (L:Array Bool) (r:Nat):AV:=match Oe ops r with
 | some j=>bif L.getD j false then vs.getD j .dead else s0.get r
 | none=>s0.get r
structure Rl (w0:World) (T0:Bs) (H:List (AV × Value)) (ops:Array Oper) (es:List Nat) (s0:S) (vs:List AV) (hs:List uj) (L:Array Bool) (k:Nat) (env:List (Nat × AV)) (a:Act) (w:World):Prop where
 size:L.size=ops.size
 closed:∀ (i:Nat) (o:Oper),ops[i]?=some o→L.getD i false=true→∀ e,e∈o.after→Region.binds .any e=true→L.getD e.on false=true
 kle:k≤es.length
 es:∀ (q i:Nat),es[q]?=some i→(L.getD i false=true↔q<k)
 get:∀ r,S.get ⟨s0.n,env,[],0⟩ r=uX ops s0 vs L r
 rep:∃ h,hs[k]?=some h∧Rep w0 T0 H ⟨s0.n,env,h.1,h.2⟩ a w
theorem uq (hok:mZ ops es tb T) {L:Array Bool} (hsz:L.size=ops.size) (hc:∀ (i:Nat) (o:Oper),ops[i]?=some o→L.getD i false=true→∀ e,e∈o.after→Region.binds .any e=true→L.getD e.on false=true) :
  ∀ (i:Nat) (o:Oper),ops[i]?=some o→(∀ e,e∈o.after→Region.binds .any e=true→L.getD e.on false=true)→∀ q,q<ops.size→qH T i q=true→L.getD q false=true:=by
 intro i
 induction i using Nat.strongRecOn with
 | _ i ih=>
  intro o hi hd q hq hb
  obtain ⟨e,he,hbd,hx⟩:=hok.anc i o hi q hq hb
  rcases hx with rfl|hx
  ·exact hd e he hbd
  ·have hlt:=hok.low i o hi e he hbd
   have hL:=hd e he hbd
   cases hoe:ops[e.on]? with
   | none=>
    have:=Array.getElem?_eq_none_iff.1 hoe
    have hi':=(Array.getElem?_eq_some_iff.1 hi).1
    omega
   | some oe=>exact ih e.on hlt oe hoe (hc e.on oe hoe hL) q hq hx
theorem Wh (hok:mZ ops es tb T) {s0 sf:S} {Q:S→Prop} {vs:List AV} {hs:List uj} {hs0:List uj} (hend:xq P w0 T0 ops es tb s0 hs0 Q vs hs sf) :
  ∀ (fuel:Nat) (L:Array Bool) (k:Nat) (env:List (Nat × AV)) (a:Act) (w:World),wF L ops.size=fuel→Rl w0 T0 H ops es s0 vs hs L k env a w →
   wpAny P .any ops (fun e a' w'=>e=.normal∧∃ s',Q s'∧Rep w0 T0 H s' a' w') fuel L a w:=by
 have fin:∀ (L:Array Bool) (k:Nat) (env:List (Nat × AV)) (a:Act) (w:World),(∀ i,i<ops.size→L.getD i false=true)→Rl w0 T0 H ops es s0 vs hs L k env a w→∃ s',Q s'∧Rep w0 T0 H s' a w:=by
  intro L k env a w hall inv
  have hk:k=es.length:=by
   rcases Nat.lt_or_ge k es.length with hlt|hge
   ·have h1:=inv.es k es[k] (List.getElem?_eq_getElem hlt)
    have h2:=hok.es1 k es[k] (List.getElem?_eq_getElem hlt)
    have:=h1.1 (hall _ h2.1)
    omega
   ·have:=inv.kle;omega
  obtain ⟨h,hh,m,hm⟩:=inv.rep
  have hl:=hend.last
  rw [hok.tot,←hk,hh] at hl
  cases hl
  refine ⟨sf,hend.q,m,?_⟩
  refine { size:=by rw [hend.n];exact hm.size,nodef:=hm.nodef,below:=hm.below,held:=hm.held,rows:=hm.rows,sep:=hm.sep,env:=?_ }
  intro r v hv
  have hg:S.get ⟨s0.n,env,[],0⟩ r=v:=by
   rw [inv.get r]
   have h1:=hend.get r
   have h2:sf.get r=v:=by simp [S.get,hv]
   rw [←h2,h1]
   unfold uX jQ
   cases hx:Oe ops r with
   | none=>rfl
   | some j=>
    obtain ⟨o,ho,_⟩:=og hx
    have hlt:=(Array.getElem?_eq_some_iff.1 ho).1
    simp [hall j hlt,hlt]
  simp only [S.get] at hg
  cases hl:lk env r with
  | none=>rw [hl] at hg;simp only at hg;subst hg;exact .dead _
  | some v'=>rw [hl] at hg;simp only at hg;subst hg;exact hm.env r v' hl
 intro fuel
 induction fuel with
 | zero=>
  intro L k env a w hf inv
  have hall:=MF hf
  refine ⟨?_,rfl,fin L k env a w hall inv⟩
  apply List.eq_nil_iff_forall_not_mem.2
  intro j hj
  obtain ⟨h1,o,ho,_⟩:=mem_ready.1 hj
  have hlt:=(Array.getElem?_eq_some_iff.1 ho).1
  have h2:=hall j hlt
  rw [Ox h1] at h2
  cases h2
 | succ fuel ih=>
  intro L k env a w hf inv
  refine ⟨?_,?_⟩
  ·intro hr
   refine ⟨rfl,fin L k env a w ?_ inv⟩
   intro i
   induction i using Nat.strongRecOn with
   | _ i ihi=>
    intro hi
    cases hL:L.getD i false with
    | true=>rfl
    | false=>
     exfalso
     obtain ⟨o,ho⟩:∃ o,ops[i]?=some o:=⟨ops[i],Array.getElem?_eq_getElem hi⟩
     have hmem:i∈Region.ready .any ops L:=mem_ready.2 ⟨V3 (by rw [inv.size];exact hi) hL,o,ho,fun e he hb=>ihi e.on (hok.low i o ho e he hb) (Nat.lt_trans (hok.low i o ho e he hb) hi)⟩
     rw [hr] at hmem;cases hmem
  ·intro i hi
   obtain ⟨hun,o,ho,hdep⟩:=mem_ready.1 hi
   have hlt:=(Array.getElem?_eq_some_iff.1 ho).1
   have hL:L.getD i false=false:=Ox hun
   have hanc:=uq hok inv.size inv.closed i o ho hdep
   -- what the operation looks at
   have hagree:∀ r,r∈o.looksAt ops→S.get ⟨s0.n,env,[],0⟩ r=jQ ops s0 vs i r:=by
    intro r hr
    rw [inv.get r]
    unfold uX jQ
    cases hx:Oe ops r with
    | none=>rfl
    | some j=>
     obtain ⟨oj,hj,hdj⟩:=og hx
     have hjlt:=(Array.getElem?_eq_some_iff.1 hj).1
     rcases hok.look i o r j oj ho hj hdj hr with ⟨hb,hji⟩|⟨hb,hij,hb'⟩
     ·dsimp only
      rw [hanc j hjlt hb,if_pos hji];rfl
     ·have hLj:L.getD j false=false:=by
       cases hLj:L.getD j false with
       | false=>rfl
       | true=>
        have:=uq hok inv.size inv.closed j oj hj (inv.closed j oj hj hLj) i hlt hb'
        rw [hL] at this;cases this
      dsimp only
      rw [hLj,if_neg (by omega)];rfl
   -- one more is listed
   have next:∀ (k':Nat) (h':uj) (val:Value) (w':World),hs[k']?=some h'→k'≤es.length→(∀ (q j:Nat),es[q]?=some j→((L.setIfInBounds i true).getD j false=true↔q<k')) →
     Rep w0 T0 ((vs.getD i .dead,val)::H) ⟨s0.n,env,h'.1,h'.2⟩ a w' →
     wpAny P .any ops (fun e a' w'=>e=.normal∧∃ s',Q s'∧Rep w0 T0 H s' a' w') fuel (L.setIfInBounds i true) (a.put o.dst val) w':=by
    intro k' h' val w' hh' hk' hes' ⟨m',hm'⟩
    have hop:=EM (by rw [inv.size];exact hlt) hL ops.size
    rw [if_pos hlt] at hop
    have hclosed:∀ (j:Nat) (oj:Oper),ops[j]?=some oj→(L.setIfInBounds i true).getD j false=true→∀ e,e∈oj.after→Region.binds .any e=true→(L.setIfInBounds i true).getD e.on false=true:=by
     intro j oj hj hLj e he hb
     by_cases hij:i=j
     ·subst hij
      rw [ho] at hj;cases hj
      exact getD_set_true (hdep e he hb)
     ·rw [getD_set_ne false hij] at hLj
      exact getD_set_true (inv.closed j oj hj hLj e he hb)
    have hset:∀ r,o.dst≠some r→uX ops s0 vs (L.setIfInBounds i true) r=uX ops s0 vs L r:=by
     intro r hr
     unfold uX
     cases hx:Oe ops r with
     | none=>rfl
     | some j=>
      dsimp only
      have hne:i≠j:=by
       rintro rfl
       obtain ⟨oj,hj,hdj⟩:=og hx
       rw [ho] at hj;cases hj
       exact hr hdj
      rw [getD_set_ne false hne]
    cases hd:o.dst with
    | none=>
     refine ih _ k' env _ w' (by omega) { size:=by simpa using inv.size,closed:=hclosed,kle:=hk',es:=hes',get:=fun r=>?_,rep:=⟨h',hh',m',hm'.nX⟩ }
     rw [hset r (by rw [hd];simp)];exact inv.get r
    | some d=>
     have hdn:d<s0.n:=hend.done.put i o d hlt ho hd
     have hput:=hm'.nX.Yk (hm'.held _ (.head _)) (d:=d) hdn
     refine ih _ k' ((d,vs.getD i .dead)::env) _ w' (by omega) { size:=by simpa using inv.size,closed:=hclosed,kle:=hk',es:=hes',get:=fun r=>?_,rep:=⟨h',hh',m',hput⟩ }
     by_cases e:d=r
     ·subst e
      have hx:=hok.Oe ho hd
      have hL1:(L.setIfInBounds i true).getD i false=true:=by
       have:i<L.size:=by rw [inv.size];exact hlt
       simp [this]
      unfold uX
      rw [hx]
      dsimp only
      rw [hL1]
      simp [S.get,lk]
     ·rw [hset r (by rw [hd];simpa using e),←inv.get r]
      simp [S.get,lk,e]
   obtain ⟨h,hh,hrep⟩:=inv.rep
   unfold wpOp
   rw [ho]
   dsimp only
   have wrap:∀ {A B:Prop} {b:Bool} {C:Prop},(if b=true then A else B)→(if b=true then A∨C else B):=by
    intro A B b C h
    cases b with
    | true=>simpa using Or.inl h
    | false=>simpa using h
   apply wrap
   cases he:es.elem i with
   | false=>
    have hes':∀ (q j:Nat),es[q]?=some j→((L.setIfInBounds i true).getD j false=true↔q<k):=by
     intro q j hq
     have hne:i≠j:=by
      rintro rfl
      have:es.elem i=true:=by simpa using List.mem_of_getElem? hq
      rw [he] at this;cases this
     rw [getD_set_ne false hne]
     exact inv.es q j hq
    have hqs:QS P w0 T0 ops o s0.n (jQ ops s0 vs i) h h (vs.getD i .dead):=by
     rcases hok.heaps i o ho he k inv.kle with h0|h0|⟨k',e,hk',hke,hb⟩|⟨k',e,hk',hke,hb⟩
     ·obtain ⟨h2,hh2,hq⟩:=hend.done.quiet i o hlt ho he
      rw [←h0,hh] at hh2;cases hh2
      exact hq
     ·exact hend.re i o ho he k h0 h hh
     ·have h1:=hanc e (hok.es1 k' e hke).1 hb
      have:=(inv.es k' e hke).1 h1
      omega
     ·have h1:=(inv.es k' e hke).2 hk'
      cases hoe:ops[e]? with
      | none=>
       have h2:=Array.getElem?_eq_none_iff.1 hoe
       have h3:=(hok.es1 k' e hke).1
       omega
      | some oe=>
       have:=uq hok inv.size inv.closed e oe hoe (inv.closed e oe hoe h1) i hlt hb
       rw [hL] at this;cases this
    exact hqs env hagree H a w _ _ hrep fun val w' hr'=>next k h val w' hh inv.kle hes' hr'
   | true=>
    obtain ⟨q,hq⟩:=List.mem_iff_getElem?.1 (show i∈es by simpa using he)
    obtain ⟨_,hown⟩:=hok.es1 q i hq
    have hge:¬q<k:=fun hlt'=>by
     have:=(inv.es q i hq).2 hlt'
     rw [hL] at this;cases this
    have hqk:q=k:=by
     cases q with
     | zero=>omega
     | succ q=>
      have hqlt:q<es.length:=by
       have:=(List.getElem?_eq_some_iff.1 hq).1;omega
      have h1:=hok.es2 q es[q] i (List.getElem?_eq_getElem hqlt) hq
      have h2:=hanc es[q] (hok.es1 q _ (List.getElem?_eq_getElem hqlt)).1 h1
      have h3:=(inv.es q _ (List.getElem?_eq_getElem hqlt)).1 h2
      omega
    subst hqk
    obtain ⟨h1,h2,hh1,hh2,hqs⟩:=hend.done.eff i o hlt ho he
    rw [hown,hh] at hh1;cases hh1
    rw [hown] at hh2
    have hqlt:q<es.length:=(List.getElem?_eq_some_iff.1 hq).1
    have hes':∀ (q' j:Nat),es[q']?=some j→((L.setIfInBounds i true).getD j false=true↔q'<q+1):=by
     intro q' j hq'
     by_cases e:i=j
     ·subst e
      have h3:=(hok.es1 q' i hq').2
      have:i<L.size:=by rw [inv.size];exact hlt
      have h4:(L.setIfInBounds i true).getD i false=true:=by simp [this]
      rw [h4]
      constructor
      ·intro _;omega
      ·intro _;rfl
     ·rw [getD_set_ne false e]
      have h3:=(hok.es1 q' j hq').2
      have hne:q'≠q:=by
       rintro rfl
       rw [hq] at hq';cases hq';exact e rfl
      rw [inv.es q' j hq']
      omega
    exact hqs env hagree H a w _ _ hrep fun val w' hr'=>next (q+1) h2 val w' hh2 hqlt hes' hr'
theorem bC.lex {id:Nat} {s:S} {Q:S→Prop} (es:List Nat) (tb:List (Nat × List Nat)) (hm:P.follows .mixedOrders=true) (hok:Tn ops es tb (Za ops)=true)
  (h:lq P w0 T0 ops es tb ops.toList 0 [] [(s.rows,s.next)] s Q):@bC P w0 T0 b0 id ops s ⟨Q⟩:=by
 intro H a w _ hr
 refine wp_region_any hm ?_
 have hr':Rep w0 T0 H s a { w with drawn:=w.drawn+1 }:=by
  obtain ⟨m,hm⟩:=hr
  exact ⟨m,hm.drawn⟩
 have ok:=mZ.of hok
 have hg0:∀ r,s.get r=jQ ops s [] 0 r:=by
  intro r;unfold jQ;split<;>simp
 obtain ⟨vs,hs,sf,hend⟩:=Q8 ok ops.toList 0 [] [(s.rows,s.next)] s [] Q rfl (Nat.zero_le _) rfl rfl rfl rfl hg0
  ⟨fun j o h=>absurd h (by omega),fun j o h=>absurd h (by omega),fun j o d h=>absurd h (by omega)⟩ (fun j o h=>absurd h (by omega)) h
 have hL:∀ j,(Array.replicate ops.size false).getD j false=false:=fun j=>S9 _ j
 have hop:wF (Array.replicate ops.size false) ops.size=ops.size:=by
  unfold wF
  have:(List.range ops.size).countP (fun j=>!(Array.replicate ops.size false).getD j false)=(List.range ops.size).length:=by
   apply List.countP_eq_length.2
   intro j _
   rw [hL j];rfl
  rw [this,List.length_range]
 refine Wh ok hend ops.size (Array.replicate ops.size false) 0 s.env a _ hop ?_
 refine { size:=by simp,closed:=fun i o _ h=>(by rw [hL] at h;cases h),kle:=Nat.zero_le _,es:=fun q i _=>(by rw [hL];simp),get:=fun r=>?_,rep:=⟨_,hend.pre 0 _ rfl,hr'⟩ }
 unfold uX
 split
 ·rw [hL];rfl
 ·rfl
end
end Go.Fv
