/-
  A part of the proof of the claim: walks over the program's functions and the plain laws that these need. No condition of its own.
-/
import Derived.Test.YtodlgmmbfbiilaaGreatDoorFvPart8
set_option linter.unusedSectionVars false
set_option linter.unusedVariables false
set_option linter.unusedSimpArgs false
set_option linter.unnecessarySimpa false
namespace Go.Fv
open Go.RowKit
def sS (T:List Nat) (i q:Nat):Bool:=(T.getD i 0).testBit q
def Xq (ops:Array Oper):List Nat:=
 ops.toList.foldl (fun acc o=>acc++[o.after.toList.foldl (fun s e=>bif Region.binds .any e then s ||| 2 ^ e.on ||| acc.getD e.on 0 else s) 0]) []
def lY (es:List Nat) (i:Nat):Nat:=(List.range i).countP fun j=>es.elem j
def xM (ops:Array Oper) (f:Nat→Oper→Bool):Bool:=(List.range ops.size).all fun i=>match ops[i]? with
 | some o=>f i o
 | none=>true
theorem iU {ops:Array Oper} {f:Nat→Oper→Bool} (h:xM ops f=true) {i:Nat} {o:Oper} (hi:ops[i]?=some o):f i o=true:=by
 have h1:=List.all_eq_true.1 h i (List.mem_range.2 (Array.getElem?_eq_some_iff.1 hi).1)
 simpa [hi] using h1
def Ro (ops:Array Oper) (es:List Nat) (tb:List (Nat × List Nat)) (T:List Nat):Bool:=
 Region.noSelect ops &&
 xM ops (fun (i:Nat) (o:Oper)=>o.after.all fun e=>!Region.binds .any e || decide (e.on<i)) &&
 xM ops (fun (i:Nat) (o:Oper)=>(List.range ops.size).all fun q=>!sS T i q || o.after.any fun e=>Region.binds .any e && (e.on == q || sS T e.on q)) &&
 xM ops (fun (i:Nat) (o:Oper)=>match o.dst with
  | none=>true
  | some r=>xM ops fun (j:Nat) (oj:Oper)=>j == i || oj.dst != some r) &&
 xM ops (fun (i:Nat) (o:Oper)=>xM ops fun (j:Nat) (oj:Oper)=>match oj.dst with
  | none=>true
  | some r=>!(o.looksAt ops).contains r || (sS T i j && decide (j<i)) || (!sS T i j && (decide (i<j) && sS T j i))) &&
 xM ops (fun (i:Nat) (o:Oper)=>(jc o.op).all fun x=>match x with
  | .tmp t=>(o.looksAt ops).contains t
  | _=>true) &&
 (List.range es.length).all (fun k=>match es[k]? with
  | some i=>decide (i<ops.size) && lY es i == k && (match es[k+1]? with
   | some i'=>sS T i' i
   | none=>true)
  | none=>true) &&
 xM ops (fun (i:Nat) (o:Oper)=>es.elem i || (List.range (es.length+1)).all fun k=>k == lY es i || (o8 tb i).contains k || (es.drop k).any (fun e=>sS T i e) || (es.take k).any (fun e=>sS T e i)) &&
 lY es ops.size == es.length
structure oO (ops:Array Oper) (es:List Nat) (tb:List (Nat × List Nat)) (T:List Nat):Prop where
 sel:Region.noSelect ops=true
 low:∀ (i:Nat) (o:Oper),ops[i]?=some o→∀ e,e∈o.after→Region.binds .any e=true→e.on<i
 anc:∀ (i:Nat) (o:Oper),ops[i]?=some o→∀ q,q<ops.size→sS T i q=true→∃ e,e∈o.after∧Region.binds .any e=true∧(e.on=q∨sS T e.on q=true)
 dst:∀ (i:Nat) (o:Oper) (r j:Nat) (oj:Oper),ops[i]?=some o→ops[j]?=some oj→o.dst=some r→oj.dst=some r→j=i
 look:∀ (i:Nat) (o:Oper) (r j:Nat) (oj:Oper),ops[i]?=some o→ops[j]?=some oj→oj.dst=some r→r∈o.looksAt ops→(sS T i j=true∧j<i)∨(sS T i j=false∧i<j∧sS T j i=true)
 reads:∀ (i:Nat) (o:Oper),ops[i]?=some o→∀ t,.tmp t∈jc o.op→t∈o.looksAt ops
 es1:∀ k i,es[k]?=some i→i<ops.size∧lY es i=k
 es2:∀ k i i',es[k]?=some i→es[k+1]?=some i'→sS T i' i=true
 heaps:∀ (i:Nat) (o:Oper),ops[i]?=some o→es.elem i=false→∀ k,k≤es.length→k=lY es i∨k∈o8 tb i∨(∃ k' e,k≤k'∧es[k']?=some e∧sS T i e=true)∨(∃ k' e,k'<k∧es[k']?=some e∧sS T e i=true)
 tot:lY es ops.size=es.length
theorem oO.of {ops:Array Oper} {es:List Nat} {tb:List (Nat × List Nat)} {T:List Nat} (h:Ro ops es tb T=true):oO ops es tb T:=by
 simp only [Ro,Bool.and_eq_true] at h
 obtain ⟨⟨⟨⟨⟨⟨⟨⟨h1,h2⟩,h3⟩,h4⟩,h5⟩,h6⟩,h7⟩,h8⟩,h9⟩:=h
 refine ⟨h1,?_,?_,?_,?_,?_,?_,?_,?_,by simpa using h9⟩
 ·intro i o hi e he hb
  have:=iU h2 hi
  have:=Array.all_eq_true_iff_forall_mem.1 this e he
  simpa [hb] using this
 ·intro i o hi q hq hb
  have:=iU h3 hi
  have:=List.all_eq_true.1 this q (List.mem_range.2 hq)
  simp only [hb,Bool.not_true,Bool.false_or] at this
  obtain ⟨e,he,hh⟩:=Array.any_eq_true'.1 this
  simp only [Bool.and_eq_true,Bool.or_eq_true,beq_iff_eq] at hh
  exact ⟨e,he,hh.1,hh.2⟩
 ·intro i o r j oj hi hj hd hdj
  have:=iU h4 hi
  rw [hd] at this
  have:=iU this hj
  simp only [Bool.or_eq_true,beq_iff_eq,hdj,bne_self_eq_false,Bool.false_eq_true,or_false] at this
  exact this
 ·intro i o r j oj hi hj hd hr
  have:=iU (iU h5 hi) hj
  rw [hd] at this
  simp only [Bool.or_eq_true,Bool.not_eq_true',Bool.and_eq_true,decide_eq_true_eq] at this
  rcases this with (h0|h0)|h0
  ·have:(o.looksAt ops).contains r=true:=by simpa using hr
   rw [this] at h0;cases h0
  ·exact .inl h0
  ·exact .inr h0
 ·intro i o hi t ht
  have:=List.all_eq_true.1 (iU h6 hi) _ ht
  simpa using this
 ·intro k i hk
  have hlt:k<es.length:=(List.getElem?_eq_some_iff.1 hk).1
  have:=List.all_eq_true.1 h7 k (List.mem_range.2 hlt)
  rw [hk] at this
  simp only [Bool.and_eq_true,decide_eq_true_eq,beq_iff_eq] at this
  exact this.1
 ·intro k i i' hk hk'
  have hlt:k<es.length:=(List.getElem?_eq_some_iff.1 hk).1
  have:=List.all_eq_true.1 h7 k (List.mem_range.2 hlt)
  rw [hk,hk'] at this
  simp only [Bool.and_eq_true] at this
  exact this.2
 ·intro i o hi he k hk
  have:=iU h8 hi
  rw [he,Bool.false_or] at this
  have:=List.all_eq_true.1 this k (List.mem_range.2 (by omega))
  simp only [Bool.or_eq_true,beq_iff_eq,List.any_eq_true,List.contains_iff_mem] at this
  rcases this with ((h0|h0)|⟨e,he,hb⟩)|⟨e,he,hb⟩
  ·exact .inl h0
  ·exact .inr (.inl h0)
  ·obtain ⟨q,hq⟩:=List.mem_iff_getElem?.1 he
   rw [List.getElem?_drop] at hq
   exact .inr (.inr (.inl ⟨k+q,e,by omega,hq,hb⟩))
  ·obtain ⟨q,hq⟩:=List.mem_iff_getElem?.1 he
   rw [List.getElem?_take] at hq
   split at hq
   ·exact .inr (.inr (.inr ⟨q,e,by assumption,hq,hb⟩))
   ·cases hq
def Oh (ops:Array Oper) (r:Nat):Option Nat:=(List.range ops.size).find? fun i=>match ops[i]? with
 | some o=>o.dst == some r
 | none=>false
theorem o7 {ops:Array Oper} {r j:Nat} (h:Oh ops r=some j):∃ o,ops[j]?=some o∧o.dst=some r:=by
 have:=List.find?_some h
 cases ho:ops[j]? with
 | none=>rw [ho] at this;cases this
 | some o=>rw [ho] at this;exact ⟨o,rfl,by simpa using this⟩
theorem oO.Oh {ops:Array Oper} {es:List Nat} {tb:List (Nat × List Nat)} {T:List Nat} (h:oO ops es tb T) {i:Nat} {o:Oper} {r:Nat} (hi:ops[i]?=some o) (hd:o.dst=some r):Fv.Oh ops r=some i:=by
 cases hx:Fv.Oh ops r with
 | none=>
  have:=List.find?_eq_none.1 hx i (List.mem_range.2 (Array.getElem?_eq_some_iff.1 hi).1)
  simp [hi,hd] at this
 | some j=>
  obtain ⟨oj,hj,hdj⟩:=o7 hx
  rw [h.dst i o r j oj hi hj hd hdj]
section
variable {P:Program} {w0:World} {T0:Bs} {ops:Array Oper} {es:List Nat} {tb:List (Nat × List Nat)} {T:List Nat} [hG:uq P w0 T0]
def kR (ops:Array Oper) (s0:S) (vs:List AV) (i r:Nat):AV:=match Oh ops r with
 | some j=>if j<i then vs.getD j .dead else s0.get r
 | none=>s0.get r
theorem QS.congr {o:Oper} {n:Nat} {get get':Nat→AV} {h h':vY} {v:AV} (hq:QS P w0 T0 ops o n get h h' v) (he:∀ r,r∈o.looksAt ops→get' r=get r):QS P w0 T0 ops o n get' h h' v:=
 fun env hen=>hq env fun r hr=>(hen r hr).trans (he r hr)
structure xE (P:Program) (w0:World) (T0:Bs) (ops:Array Oper) (es:List Nat) (s0:S) (i:Nat) (vs:List AV) (hs:List vY):Prop where
 quiet:∀ j o,j<i→ops[j]?=some o→es.elem j=false→∃ h,hs[lY es j]?=some h∧QS P w0 T0 ops o s0.n (kR ops s0 vs j) h h (vs.getD j .dead)
 eff:∀ j o,j<i→ops[j]?=some o→es.elem j=true→∃ h h',hs[lY es j]?=some h∧hs[lY es j+1]?=some h'∧QS P w0 T0 ops o s0.n (kR ops s0 vs j) h h' (vs.getD j .dead)
 put:∀ j o d,j<i→ops[j]?=some o→o.dst=some d→d<s0.n
theorem lG {s0:S} {vs:List AV} {v:AV} {j:Nat} (h:j≤vs.length) (r:Nat):kR ops s0 (vs++[v]) j r=kR ops s0 vs j r:=by
 unfold kR
 split
 ·rename_i q _
  split
  ·rename_i hq
   simp only [List.getD_eq_getElem?_getD]
   rw [List.getElem?_append_left (by omega)]
  ·rfl
 ·rfl
theorem tu {vs:List AV} {v:AV} {j:Nat} (h:j<vs.length):(vs++[v]).getD j .dead=vs.getD j .dead:=by
 simp only [List.getD_eq_getElem?_getD]
 rw [List.getElem?_append_left h]
theorem kY {vs:List AV} {v:AV}:(vs++[v]).getD vs.length .dead=v:=by
 simp [List.getD_eq_getElem?_getD]
theorem Fp (i:Nat):lY es (i+1)=lY es i+(bif es.elem i then 1 else 0):=by
 unfold lY
 rw [List.range_succ,List.countP_append,List.countP_singleton]
 cases es.elem i<;>rfl
def sD (P:Program) (w0:World) (T0:Bs) (n:Nat) (x:Acc) (h:vY):Prop:=match x.g with
 | none=>SE P w0 T0 x.o ⟨n,x.env,h.1,h.2⟩ x.v
 | some c=>Fv.below h.2 x.v=true∧(c=true→SE P w0 T0 x.o ⟨n,x.env,h.1,h.2⟩ x.v)
theorem Dh {n:Nat} {x:Acc} {hs:List vY}:∀ {l:List Nat},FU P w0 T0 n x hs l→∀ k,k∈l→∃ h,hs[k]?=some h∧sD P w0 T0 n x h
 | k'::l,h,k,hk=>by
  unfold FU at h
  rcases List.mem_cons.1 hk with rfl|hk
  ·cases hh:hs[k]? with
   | none=>rw [hh] at h;exact h.1.elim
   | some q=>rw [hh] at h;exact ⟨q,rfl,h.1⟩
  ·exact Dh h.2 k hk
theorem QT {n:Nat} {hs:List vY} (l:List Acc) (h:redo P w0 T0 n hs l) (x:Acc) (hx:x∈l) (k:Nat) (hk:k∈x.ks):∃ h,hs[k]?=some h∧sD P w0 T0 n x h:=by
 induction l with
 | nil=>cases hx
 | cons y l ih=>
  obtain ⟨h1,h2⟩:=(h:FU P w0 T0 n y hs y.ks∧redo P w0 T0 n hs l)
  rcases List.mem_cons.1 hx with rfl|hx
  ·exact Dh h1 k hk
  ·exact ih h2 hx
theorem Ee {ks:List Nat} {x y:Acc} {l:List Acc} (h:y∈l):y∈oW ks x l:=by
 unfold oW;split
 ·exact h
 ·exact .tail _ h
theorem zO {ks:List Nat} {x:Acc} {l:List Acc} {k:Nat} (h:k∈ks):x∈oW ks x l:=by
 unfold oW;split
 ·cases h
 ·exact .head _
def Pg (P:Program) (w0:World) (T0:Bs) (ops:Array Oper) (es:List Nat) (tb:List (Nat × List Nat)) (s0:S) (i:Nat) (vs:List AV) (acc:List Acc):Prop:=
 ∀ j o,j<i→ops[j]?=some o→es.elem j=false→∀ k,k∈o8 tb j →
  (∀ h,QS P w0 T0 ops o s0.n (kR ops s0 vs j) h h (vs.getD j .dead))∨∃ x,x∈acc∧x.ks=o8 tb j∧∀ h,sD P w0 T0 s0.n x h→QS P w0 T0 ops o s0.n (kR ops s0 vs j) h h (vs.getD j .dead)
theorem Pj (hok:oO ops es tb T) {s0 s:S} {i:Nat} {o:Oper} {vs:List AV} {hs hs':List vY} {v:AV} {Q:S→Prop} (hi:ops[i]?=some o) (hlen:vs.length=i) (hn:s.n=s0.n) (hget:∀ r,s.get r=kR ops s0 vs i r)
  (hd:xE P w0 T0 ops es s0 i vs hs) (hlh:hs.length=lY es i+1) (hpre:∀ (k:Nat) (h:vY),hs[k]?=some h→hs'[k]?=some h)
  (hq:es.elem i=false→∃ h,hs'[lY es i]?=some h∧QS P w0 T0 ops o s0.n (kR ops s0 vs i) h h v)
  (he:es.elem i=true→∃ h h',hs'[lY es i]?=some h∧hs'[lY es i+1]?=some h'∧QS P w0 T0 ops o s0.n (kR ops s0 vs i) h h' v)
  (hput:iQ o.dst v s Q):∃ s',Q s'∧s'.n=s0.n∧s'.rows=s.rows∧s'.next=s.next∧(∀ r,s'.get r=kR ops s0 (vs++[v]) (i+1) r)∧xE P w0 T0 ops es s0 (i+1) (vs++[v]) hs':=by
 have hnew:∀ d,o.dst=some d→kR ops s0 (vs++[v]) (i+1) d=v:=by
  intro d hdd
  unfold kR
  rw [hok.Oh hi hdd]
  simp only [Nat.lt_succ_self,if_true]
  rw [←hlen];exact kY
 have hold:∀ r,o.dst≠some r→kR ops s0 (vs++[v]) (i+1) r=s.get r:=by
  intro r hr
  rw [hget]
  unfold kR
  cases hx:Oh ops r with
  | none=>rfl
  | some j=>
   dsimp only
   have hne:j≠i:=by
    rintro rfl
    obtain ⟨oj,hj,hdj⟩:=o7 hx
    rw [hi] at hj;cases hj
    exact hr hdj
   by_cases hji:j<i
   ·rw [if_pos hji,if_pos (by omega),tu (by omega)]
   ·rw [if_neg hji,if_neg (by omega)]
 have hdone:(∀ d,o.dst=some d→d<s0.n)→xE P w0 T0 ops es s0 (i+1) (vs++[v]) hs':=by
  intro hdn
  refine ⟨?_,?_,?_⟩
  ·intro j oj hj hoj hej
   by_cases e:j=i
   ·subst e
    rw [hi] at hoj;cases hoj
    obtain ⟨h,hh,hqs⟩:=hq hej
    refine ⟨h,hh,?_⟩
    rw [show (vs++[v]).getD j .dead=v from by rw [←hlen];exact kY]
    exact hqs.congr fun r _=>lG (by omega) r
   ·obtain ⟨h,hh,hqs⟩:=hd.quiet j oj (by omega) hoj hej
    refine ⟨h,hpre _ _ hh,?_⟩
    rw [tu (by omega)]
    exact hqs.congr fun r _=>lG (by omega) r
  ·intro j oj hj hoj hej
   by_cases e:j=i
   ·subst e
    rw [hi] at hoj;cases hoj
    obtain ⟨h,h',hh,hh',hqs⟩:=he hej
    refine ⟨h,h',hh,hh',?_⟩
    rw [show (vs++[v]).getD j .dead=v from by rw [←hlen];exact kY]
    exact hqs.congr fun r _=>lG (by omega) r
   ·obtain ⟨h,h',hh,hh',hqs⟩:=hd.eff j oj (by omega) hoj hej
    refine ⟨h,h',hpre _ _ hh,hpre _ _ hh',?_⟩
    rw [tu (by omega)]
    exact hqs.congr fun r _=>lG (by omega) r
  ·intro j oj d hj hoj hdj
   by_cases e:j=i
   ·subst e
    rw [hi] at hoj;cases hoj
    exact hdn d hdj
   ·exact hd.put j oj d (by omega) hoj hdj
 unfold iQ at hput
 cases hdst:o.dst with
 | none=>
  rw [hdst] at hput
  exact ⟨s,hput,hn,rfl,rfl,fun r=>(hold r (by rw [hdst];simp)).symm,hdone fun d h=>by rw [hdst] at h;cases h⟩
 | some d=>
  rw [hdst] at hput
  dsimp only at hput
  split at hput
  ·rename_i hlt
   refine ⟨s.set d v,hput,hn,rfl,rfl,fun r=>?_,hdone fun d' h=>by rw [hdst] at h;cases h;rw [←hn];exact hlt⟩
   by_cases e:d=r
   ·subst e
    rw [hnew d hdst]
    simp [S.get,S.set,lk]
   ·rw [hold r (by rw [hdst];simpa using e)]
    simp [S.get,S.set,lk,e]
  ·exact hput.elim
end
end Go.Fv
/-
 Operations whose result is fixed by the state.
-/
namespace Go.Fv
open Go.RowKit
def jl (F:(AV→S→Prop)→Prop):Prop:=∀ K,F K→∃ v s',K v s'∧∀ K':AV→S→Prop,K' v s'→F K'
theorem jl.pure (v:AV) (s:S):jl (fun K=>K v s):=fun K h=>⟨v,s,h,fun _ h=>h⟩
theorem jl.no:jl (fun _=>False):=fun _ h=>h.elim
theorem jl.chk {p:Prop} {F:(AV→S→Prop)→Prop} (h:jl F):jl (fun K=>bn p (F K)):=fun K hk=>by
 obtain ⟨v,s,h1,h2⟩:=h K hk.2
 exact ⟨v,s,h1,fun K' hk'=>⟨hk.1,h2 K' hk'⟩⟩
theorem jl.Xz {k:IntKind} {e:Int} (s:S):jl (fun K=>bW k e (fun n=>K (.int k n) s)):=fun K h=>
 ⟨.int k (k.wrap e),s,h _ rfl (dM _ _),fun K' hk' n hn _=>by subst hn;exact hk'⟩
section
variable {P:Program} {w0:World} {T0:Bs} {s:S}
theorem UZ (e:TypeId) (x:Operand):jl (FK e x s):=by
 intro K h
 unfold FK at h ⊢
 cases hb:jk (s.ev x) with
 | none=>rw [hb] at h;exact h.elim
 | some cs=>rw [hb] at h;exact (jl.pure _ _).chk K h
theorem P9 (e:TypeId):jl (uj P e s):=by
 intro K h
 unfold uj at h ⊢
 cases hb:zeroOf P e with
 | none=>rw [hb] at h;exact h.elim
 | some z=>rw [hb] at h;exact (jl.pure _ _).chk K h
theorem PN (t:TypeId) (x v:Operand):jl (tX P t x v s):=by
 intro K h
 unfold tX at h ⊢
 cases hb:jk (s.ev v) with
 | none=>rw [hb] at h;exact h.elim
 | some cs=>
  rw [hb] at h
  refine (jl.chk ?_) K h
  intro K h
  cases hx:s.ev x<;>rw [hx] at h<;>try (exact h.elim)
  ·rename_i i off
   dsimp only at h ⊢
   cases hl:lk s.rows i with
   | none=>rw [hl] at h;exact h.elim
   | some it=>cases it with
    | row e r=>rw [hl] at h;exact h.elim
    | map _ _=>rw [hl] at h;exact h.elim
    | iter _ _ _=>rw [hl] at h;exact h.elim
    | siter _ _=>rw [hl] at h;exact h.elim
    | box e bs=>rw [hl] at h;exact (jl.pure _ _).chk K h
  ·rename_i i sz idx off
   dsimp only at h ⊢
   cases hl:lk s.rows i with
   | none=>rw [hl] at h;exact h.elim
   | some it=>cases it with
    | box e bs=>rw [hl] at h;exact h.elim
    | map _ _=>rw [hl] at h;exact h.elim
    | iter _ _ _=>rw [hl] at h;exact h.elim
    | siter _ _=>rw [hl] at h;exact h.elim
    | row e r=>
     rw [hl] at h
     refine (jl.chk ?_) K h
     intro K h
     cases hq:mD r idx off cs with
     | none=>rw [hq] at h;exact h.elim
     | some r'=>rw [hq] at h;exact (jl.pure _ _) K h
theorem Ua (t:TypeId) (l c:Operand):jl (yX P t l c s):=by
 intro K h
 unfold yX at h ⊢
 split at h
 ·rename_i e k n k2 n2 h1 h2 h3
  cases hz:zeroOf P e with
  | none=>rw [hz] at h;exact h.elim
  | some z=>rw [hz] at h;exact (jl.pure _ _).chk.chk K h
 ·exact h.elim
theorem CQ (t:TypeId) (len:Nat) (parts:Array (Nat × Operand)):jl (ji P t len parts s):=by
 intro K h
 unfold ji at h ⊢
 split at h
 ·rename_i e h1
  cases hz:zeroOf P e with
  | none=>rw [hz] at h;exact h.elim
  | some z=>
   rw [hz] at h
   refine (jl.chk (jl.chk ?_)) K h
   intro K h
   split at h
   ·rename_i r hr;exact jl.pure _ _ K h
   ·exact h.elim
 ·exact h.elim
theorem PL (t:TypeId) (parts:Array (Nat × Operand)):jl (qH P t parts s):=by
 intro K h
 unfold qH at h ⊢
 split at h
 ·rename_i d z h1 h2
  refine (jl.chk (jl.chk ?_)) K h
  intro K h
  split at h
  ·rename_i r hr;exact jl.pure _ _ K h
  ·exact h.elim
 ·exact h.elim
theorem I5 (fn:Fn) (first caps:Array Operand):jl (jE fn first caps s):=by
 intro K h
 unfold jE at h ⊢
 split at h
 ·exact (jl.pure _ _).chk K h
 ·exact h.elim
theorem vP (t t2:TypeId) (x y:Operand):jl (lH P t t2 x y s):=by
 intro K h
 unfold lH at h ⊢
 split at h
 ·rename_i e i h1 h2
  split at h
  ·rename_i e' r h3
   split at h
   ·rename_i r2 h4
    split at h
    ·rename_i r3 h5
     split at h
     ·rename_i z h6
      exact (jl.pure _ _).chk.chk.chk K h
     ·exact h.elim
    ·exact h.elim
   ·exact h.elim
  ·exact h.elim
 ·exact h.elim
theorem Jh (t t2:TypeId) (x y:Operand):jl (ny P t t2 x y s):=by
 intro K h
 unfold ny at h ⊢
 split at h
 ·rename_i r
  split at h
  ·split at h
   ·split at h
    ·exact (vP t t2 _ y).chk K h
    ·exact h.elim
   ·exact h.elim
  ·exact vP t t2 _ y K h
 ·exact vP t t2 _ y K h
theorem U1 (x:Operand):jl (Dy x s):=by
 intro K h
 unfold Dy at h ⊢
 split at h
 all_goals first|exact h.elim|(rename_i hx;exact jl.pure _ _ K h)
theorem JY (x:Operand) (i:Nat):jl (kQ x i s):=by
 intro K h
 unfold kQ at h ⊢
 split at h
 ·rename_i l hx
  split at h
  ·rename_i v hv;exact jl.pure _ _ K h
  ·exact h.elim
 ·exact h.elim
theorem WU (op:UnOp) (x:Operand):jl (LY op x s):=by
 intro K h
 unfold LY at h ⊢
 cases hx:s.ev x<;>rw [hx] at h<;>try (exact h.elim)
 ·cases op<;>first|exact h.elim|exact jl.pure _ _ K h
 ·cases op<;>first|exact h.elim|exact jl.Xz _ K h
theorem Uc (a b:TypeId) (x:Operand):jl (vT P a b x s):=by
 intro K h
 unfold vT at h ⊢
 split at h
 ·rename_i d1 d2 h1 h2
  cases d2<;>try (exact h.elim)
  ·cases hx:s.ev x<;>rw [hx] at h<;>try (exact h.elim)
   exact jl.Xz _ K h
  ·cases hx:s.ev x<;>rw [hx] at h<;>try (exact h.elim)
   ·exact jl.pure _ _ K h
   ·rename_i r
    cases r<;>try (exact h.elim)
    rename_i k l
    cases k<;>try (exact h.elim)
    cases d1<;>try (exact h.elim)
    exact (jl.pure _ _).chk K h
   ·rename_i i
    dsimp only at h ⊢
    split at h
    ·rename_i l e h3 ; exact (jl.pure _ _).chk K h
    ·exact h.elim
 ·exact h.elim
theorem QU (a b:TypeId) (x:Operand):jl (um P a b x s):=by
 intro K h
 unfold um at h ⊢
 split at h
 ·split at h
  ·exact ((jl.pure _ _).chk) K h
  ·exact h.elim
 ·exact Uc a b x K h
theorem Tq (m:Bool) (xs:List AV):jl (fun K=>KL m xs (fun r=>K r s)):=by
 intro K h
 unfold KL at h ⊢
 split at h
 ·exact (jl.pure _ s).chk K h
 ·exact (jl.pure _ s).chk K h
 ·exact h.elim
theorem KG (t:TypeId) (x:Operand):jl (vJ P t x s):=by
 intro K h
 unfold vJ at h ⊢
 split at h
 ·split at h
  ·rename_i e h1
   split at h
   ·rename_i z h2;exact (jl.pure _ _).chk K h
   ·exact h.elim
  ·exact h.elim
 ·exact (jl.pure _ _).chk K h
 ·rename_i h1 h2
  exact (jl.pure _ _).chk K h
theorem Jf (t:TypeId) (r:Option Operand):jl (pR P t r s):=by
 intro K h
 cases r with
 | none=>exact jl.pure _ _ K h
 | some _=>exact h.elim
theorem Nj (t:TypeId) (x k v:Operand):jl (o9 P t x k v s):=by
 intro K h
 unfold o9 at h ⊢
 cases ht:P.underlying t with
 | none=>rw [ht] at h;exact h.elim
 | some d=>
  rw [ht] at h
  cases d<;>try (exact h.elim)
  dsimp only at h ⊢
  cases hx:s.ev x<;>rw [hx] at h<;>try (exact h.elim)
  dsimp only at h ⊢
  split at h
  ·rename_i hi
   exact ((jl.pure _ _).chk.chk) K h
  ·exact h.elim
theorem Si (ks vs:List AV) (k:AV) (z:Value) (i:Nat):jl (PE ks vs k z i s):=by
 intro K h
 unfold PE at h ⊢
 cases z<;>first|exact h.elim|exact ((jl.pure _ _).chk) K h
theorem Nw (t:TypeId) (x k:Operand):jl (pU P t x k s):=by
 intro K h
 unfold pU at h ⊢
 cases ht:P.underlying t with
 | none=>rw [ht] at h;exact h.elim
 | some d=>
  rw [ht] at h
  cases d<;>try (exact h.elim)
  rename_i kt et
  dsimp only at h ⊢
  cases hz:zeroOf P et with
  | none=>rw [hz] at h;exact h.elim
  | some z=>
   rw [hz] at h
   dsimp only at h ⊢
   cases hx:s.ev x<;>rw [hx] at h<;>try (exact h.elim)
   dsimp only at h ⊢
   split at h
   ·rename_i hi
    exact ((Si _ _ _ z _).chk.chk) K h
   ·exact h.elim
theorem Hq (x st v:Operand):jl (kP x st v s):=by
 intro K h
 unfold kP at h ⊢
 cases hx:s.ev x<;>rw [hx] at h<;>try (exact h.elim)
 dsimp only at h ⊢
 split at h
 ·rename_i hi
  split at h
  ·rename_i hs
   exact ((jl.pure _ _).chk.chk) K h
  ·exact h.elim
 ·exact h.elim
theorem Qp (t:TypeId) (x:Operand):jl (uQ P t x s):=by
 intro K h
 unfold uQ at h ⊢
 cases ht:P.underlying t with
 | none=>rw [ht] at h;exact h.elim
 | some d=>
  rw [ht] at h
  cases d<;>try (exact h.elim)
  ·dsimp only at h ⊢
   cases hx:s.ev x<;>rw [hx] at h<;>try (exact h.elim)
   exact ((jl.pure _ _).chk) K h
  ·dsimp only at h ⊢
   cases hx:s.ev x<;>rw [hx] at h<;>try (exact h.elim)
   dsimp only at h ⊢
   split at h
   ·rename_i hi
    exact ((jl.pure _ _).chk) K h
   ·exact h.elim
theorem RU {o:Oper} (hl:Ea o.op=true):jl (rD P w0 T0 o s):=by
 intro K h
 unfold rD at h ⊢
 cases ho:o.op<;>rw [ho] at h hl<;>try (cases hl;done)
 case move x=>exact KG _ _ K h
 case assign x=>exact KG _ _ K h
 case extract x i=>exact (JY x i).chk K h
 case makeFunc fn first caps=>exact I5 _ _ _ K h
 case box e x=>exact UZ _ _ K h
 case alloc e=>exact P9 _ K h
 case store t x v=>exact (PN t x v).chk K h
 case nilCheck x=>exact (U1 x).chk K h
 case makeSlice t l c=>exact (Ua t l c).chk K h
 case unOp op t x=>exact (WU op x).chk K h
 case convert t t' x=>exact (QU t t' x).chk K h
 case buildSlice t len parts=>exact CQ _ _ _ K h
 case build t parts=>exact PL _ _ K h
 case makeMap t r=>exact Jf _ _ K h
 case mapUpdate t x k v=>exact Nj _ _ _ _ K h
 case mapEntry t x k=>exact Nw _ _ _ K h
 case entryStore t x st v=>exact Hq _ _ _ K h
 case range t x=>exact Qp _ _ K h
 case call c=>
  obtain ⟨callee,args,argTypes⟩:=c
  dsimp only [Ea] at hl
  dsimp only [nR] at h ⊢
  cases callee with
  | builtin b=>
   cases b<;>try (cases hl;done)
   case append=>
    dsimp only at h ⊢
    split at h
    ·rename_i x y t t2 h1 h2
     exact (Jh t t2 x y).chk K h
    ·exact h.elim
   case min=>exact (Tq false _).chk K h
   case max=>exact (Tq true _).chk K h
  | _=>cases hl
end
section
variable {P:Program} {w0:World} {T0:Bs} {ops:Array Oper} {es:List Nat} {tb:List (Nat × List Nat)} {T:List Nat} [hG:uq P w0 T0]
structure yZ (P:Program) (w0:World) (T0:Bs) (ops:Array Oper) (es:List Nat) (tb:List (Nat × List Nat)) (s0:S) (hs0:List vY) (Q:S→Prop) (vs:List AV) (hs:List vY) (s:S):Prop where
 q:Q s
 n:s.n=s0.n
 len:hs.length=lY es ops.size+1
 last:hs[lY es ops.size]?=some (s.rows,s.next)
 get:∀ r,s.get r=kR ops s0 vs ops.size r
 done:xE P w0 T0 ops es s0 ops.size vs hs
 re:∀ (j:Nat) (o:Oper),ops[j]?=some o→es.elem j=false→∀ k,k∈o8 tb j→∀ h,hs[k]?=some h→QS P w0 T0 ops o s0.n (kR ops s0 vs j) h h (vs.getD j .dead)
 pre:∀ (k:Nat) (h:vY),hs0[k]?=some h→hs[k]?=some h
theorem Pg.step {s0:S} {i:Nat} {vs:List AV} {v:AV} {acc acc':List Acc} {o:Oper} (hre:Pg P w0 T0 ops es tb s0 i vs acc) (hlen:vs.length=i) (hi:ops[i]?=some o) (hsub:∀ x,x∈acc→x∈acc')
  (hnew:es.elem i=false→∀ k,k∈o8 tb i→(∀ h,QS P w0 T0 ops o s0.n (kR ops s0 vs i) h h v)∨∃ x,x∈acc'∧x.ks=o8 tb i∧∀ h,sD P w0 T0 s0.n x h→QS P w0 T0 ops o s0.n (kR ops s0 vs i) h h v) :
  Pg P w0 T0 ops es tb s0 (i+1) (vs++[v]) acc':=by
 intro j oj hj hoj hej k hk
 by_cases e:j=i
 ·subst e
  rw [hi] at hoj;cases hoj
  have hv:(vs++[v]).getD j .dead=v:=by rw [←hlen];exact kY
  rcases hnew hej k hk with h|⟨x,hx,hks,h⟩
  ·exact .inl fun h'=>by rw [hv];exact (h h').congr fun r _=>lG (by omega) r
  ·exact .inr ⟨x,hx,hks,fun h' hc=>by rw [hv];exact (h h' hc).congr fun r _=>lG (by omega) r⟩
 ·rcases hre j oj (by omega) hoj hej k hk with h|⟨x,hx,hks,h⟩
  ·exact .inl fun h'=>by rw [tu (by omega)];exact (h h').congr fun r _=>lG (by omega) r
  ·exact .inr ⟨x,hsub x hx,hks,fun h' hc=>by rw [tu (by omega)];exact (h h' hc).congr fun r _=>lG (by omega) r⟩
theorem Qu (hok:oO ops es tb T) {s0:S}:∀ (l:List Oper) (i:Nat) (acc:List Acc) (hs:List vY) (s:S) (vs:List AV) (Q:S→Prop),ops.toList.drop i=l→i≤ops.size→vs.length=i→hs.length=lY es i+1→hs[lY es i]?=some (s.rows,s.next)→s.n=s0.n →
  (∀ r,s.get r=kR ops s0 vs i r)→xE P w0 T0 ops es s0 i vs hs→Pg P w0 T0 ops es tb s0 i vs acc→lZ P w0 T0 ops es tb l i acc hs s Q→∃ vs' hs' sf,yZ P w0 T0 ops es tb s0 hs Q vs' hs' sf:=by
 intro l
 induction l with
 | nil=>
  intro i acc hs s vs Q hdr hile hlen hhl hcur hn hget hd hre h
  have hi:i=ops.size:=by
   have:=List.drop_eq_nil_iff.1 hdr
   simp at this;omega
  subst hi
  obtain ⟨hredo,hq⟩:=h
  refine ⟨vs,hs,s,hq,hn,hhl,hcur,hget,hd,?_,fun _ _ h=>h⟩
  intro j o hj he k hk h hh
  rcases hre j o (Array.getElem?_eq_some_iff.1 hj).1 hj he k hk with h0|⟨x,hx,hks,h0⟩
  ·exact h0 h
  ·obtain ⟨h',hh',hc⟩:=QT _ hredo x hx k (by rw [hks];exact hk)
   rw [hh] at hh';cases hh'
   rw [hn] at hc
   exact h0 h hc
 | cons o l ih=>
  intro i acc hs s vs Q hdr hile hlen hhl hcur hn hget hd hre h
  have hi:ops[i]?=some o:=by
   have h1:(ops.toList.drop i)[0]?=some o:=by rw [hdr];rfl
   rw [List.getElem?_drop] at h1
   simpa using h1
  have hilt:i<ops.size:=(Array.getElem?_eq_some_iff.1 hi).1
  have hdr':ops.toList.drop (i+1)=l:=by
   have:(ops.toList.drop i).drop 1=l:=by rw [hdr];rfl
   rwa [List.drop_drop] at this
  have hrd:=hok.reads i o hi
  have hgetQ:∀ {h h':vY} {v:AV},QS P w0 T0 ops o s.n s.get h h' v→QS P w0 T0 ops o s0.n (kR ops s0 vs i) h h' v:=by
   intro h h' v hq
   rw [←hn]
   exact hq.congr fun r _=>(hget r).symm
  have hown1:es.elem i=false→lY es (i+1)=lY es i:=fun e=>by rw [Fp,e];rfl
  have hown2:es.elem i=true→lY es (i+1)=lY es i+1:=fun e=>by rw [Fp,e];rfl
  -- a quiet operation
  have quiet:es.elem i=false→∀ (v:AV) (acc':List Acc),(∀ x,x∈acc→x∈acc')→QS P w0 T0 ops o s.n s.get (s.rows,s.next) (s.rows,s.next) v →
    (∀ k,k∈o8 tb i→(∀ h,QS P w0 T0 ops o s.n s.get h h v)∨∃ x,x∈acc'∧x.ks=o8 tb i∧∀ h,sD P w0 T0 s0.n x h→QS P w0 T0 ops o s.n s.get h h v) →
    iQ o.dst v s (fun s'=>lZ P w0 T0 ops es tb l (i+1) acc' hs s' Q)→∃ vs' hs' sf,yZ P w0 T0 ops es tb s0 hs Q vs' hs' sf:=by
   intro he v acc' hsub hqs hnew hput
   obtain ⟨s',hk,hn',hr',hx',hg',hd'⟩:=Pj hok hi hlen hn hget hd hhl (fun _ _ h=>h) (fun _=>⟨_,hcur,hgetQ hqs⟩) (fun e=>by rw [he] at e;cases e) hput
   refine ih (i+1) acc' hs s' (vs++[v]) Q hdr' hilt (by simp [hlen]) (by rw [hown1 he];exact hhl) (by rw [hown1 he,hr',hx'];exact hcur) hn' hg' hd' ?_ hk
   refine hre.step hlen hi hsub fun _ k hk=>?_
   rcases hnew k hk with h0|⟨x,hx,hks,h0⟩
   ·exact .inl fun h=>hgetQ (h0 h)
   ·exact .inr ⟨x,hx,hks,fun h hc=>hgetQ (h0 h hc)⟩
  have eff:es.elem i=true→∀ (v:AV) (R:List (Nat × Item)) (N:Nat),QS P w0 T0 ops o s.n s.get (s.rows,s.next) (R,N) v →
    iQ o.dst v { s with rows:=R,next:=N } (fun s'=>lZ P w0 T0 ops es tb l (i+1) acc (hs++[(R,N)]) s' Q)→∃ vs' hs' sf,yZ P w0 T0 ops es tb s0 hs Q vs' hs' sf:=by
   intro he v R N hqs hput
   have hpre:∀ (k:Nat) (h:vY),hs[k]?=some h→(hs++[(R,N)])[k]?=some h:=by
    intro k h hk
    rw [List.getElem?_append_left (List.getElem?_eq_some_iff.1 hk).1];exact hk
   have hlast:(hs++[(R,N)])[lY es i+1]?=some (R,N):=by
    rw [←hhl];simp
   obtain ⟨s',hk,hn',hr',hx',hg',hd'⟩:=Pj (s:={ s with rows:=R,next:=N }) hok hi hlen hn hget hd hhl hpre (fun e=>by rw [he] at e;cases e) (fun _=>⟨_,_,hpre _ _ hcur,hlast,hgetQ hqs⟩) hput
   obtain ⟨vs',hs',sf,hend⟩:=ih (i+1) acc (hs++[(R,N)]) s' (vs++[v]) Q hdr' hilt (by simp [hlen]) (by rw [hown2 he];simp [hhl]) (by rw [hown2 he,hr',hx'];exact hlast) hn' hg' hd'
    (hre.step hlen hi (fun _ h=>h) fun e=>by rw [he] at e;cases e) hk
   exact ⟨vs',hs',sf,{ hend with pre:=fun k h hk=>hend.pre k h (hpre k h hk) }⟩
  unfold lZ at h
  cases hg:gd ops s o with
  | none=>rw [hg] at h;exact h.elim
  | some g=>
   rw [hg] at h
   simp only [Yd] at h
   rw [Ce] at h
   cases he:es.elem i with
   | true=>
    rw [he] at h
    simp only [Xb] at h
    cases g with
    | none=>
     dsimp only at h
     have hx:∃ v R N,rD P w0 T0 o ⟨s.n,gG s (jc o.op),s.rows,s.next⟩ (fun r s'=>r=v∧s'.rows=R∧s'.next=N)∧iQ o.dst v { s with rows:=R,next:=N } (fun s'=>lZ P w0 T0 ops es tb l (i+1) acc (hs++[(R,N)]) s' Q):=by
      cases hl:Ea o.op with
      | false=>
       rw [hl] at h
       obtain ⟨v,R,N,h1,h2,h3⟩:=h
       exact ⟨v,R,N,h1,jR h2 h3⟩
      | true=>
       rw [hl] at h
       obtain ⟨v,t,⟨h2,h3⟩,hall⟩:=RU hl _ h
       exact ⟨v,t.rows,t.next,hall _ ⟨rfl,rfl,rfl⟩,jR h2 h3⟩
     obtain ⟨v,R,N,hA,hB⟩:=hx
     exact eff he v R N (QS.plain (h:=(s.rows,s.next)) (h':=(R,N)) (AZ hg) (IZ (h:=(s.rows,s.next)) hrd hA)) hB
    | some c=>
     dsimp only at h
     cases c with
     | true=>
      obtain ⟨v,R,N,⟨hpc,hA⟩,h2,h3⟩:=h.1 rfl
      exact eff he (.opt true v) R N (QS.guarded (h:=(s.rows,s.next)) (h':=(R,N)) hg (fun _=>Ir (h:=(s.rows,s.next)) hrd hpc hA) (fun e=>by cases e)) (jR h2 h3)
     | false=>
      obtain ⟨h2,h3⟩:=h.2 rfl
      exact eff he (.opt false (.bool false)) s.rows s.next (QS.guarded (h:=(s.rows,s.next)) (h':=(s.rows,s.next)) hg (fun e=>by cases e) (fun _=>⟨rfl,rfl⟩)) (jR h2 h3)
   | false=>
    rw [he] at h
    simp only [Xb] at h
    have gen:∀ v,KN P w0 T0 o g s v→iQ o.dst (KP g v) s (fun s'=>lZ P w0 T0 ops es tb l (i+1) (oW (o8 tb i) ⟨o,g,Aj g s (jc o.op),v,o8 tb i⟩ acc) hs s' Q)→∃ vs' hs' sf,yZ P w0 T0 ops es tb s0 hs Q vs' hs' sf:=by
     intro v hA hput
     cases g with
     | none=>
      refine quiet he v _ (fun x hx=>Ee hx) (QS.plain (h:=(s.rows,s.next)) (h':=(s.rows,s.next)) (AZ hg) (IZ (h:=(s.rows,s.next)) hrd hA)) ?_ hput
      intro k hk
      refine .inr ⟨_,zO hk,rfl,fun h hc=>QS.plain (h:=h) (h':=h) (AZ hg) (IZ (h:=h) hrd ?_)⟩
      simp only [sD,SE] at hc
      rw [←hn] at hc
      exact hc
     | some c=>
      refine quiet he (.opt c v) _ (fun x hx=>Ee hx) (QS.guarded (h:=(s.rows,s.next)) (h':=(s.rows,s.next)) hg (fun e=>Ir (h:=(s.rows,s.next)) hrd (hA.2 e).1 (hA.2 e).2) (fun _=>⟨rfl,hA.1⟩)) ?_ hput
      intro k hk
      refine .inr ⟨_,zO hk,rfl,fun h hc=>?_⟩
      simp only [sD,SE] at hc
      rw [←hn] at hc
      exact QS.guarded (h:=h) (h':=h) hg (fun e=>Ir (h:=h) hrd (hA.2 e).1 (hc.2 e)) (fun _=>⟨rfl,hc.1⟩)
    unfold VY at h
    cases hp:yD ⟨s.n,gG s (jc o.op),s.rows,s.next⟩ o.op with
    | some pb=>
     obtain ⟨pre,b⟩:=pb
     rw [hp] at h
     cases g with
     | none=>
      obtain ⟨⟨h1,h2⟩,h3,h4⟩:=h
      have hall:∀ h:vY,QS P w0 T0 ops o s.n s.get h h (.bool b):=fun h=>QS.plain (AZ hg) (Js hrd hp h1 h2)
      exact quiet he _ acc (fun _ h=>h) (hall _) (fun _ _=>.inl hall) (jR h3 h4)
     | some c=>
      obtain ⟨h1,h3,h4⟩:=h
      have hall:∀ h:vY,QS P w0 T0 ops o s.n s.get h h (.opt c (.bool b)):=fun h=>QS.guarded hg (fun e=>Js hrd hp (h1 e).1 (h1 e).2) (fun _=>⟨rfl,rfl⟩)
      exact quiet he _ acc (fun _ h=>h) (hall _) (fun _ _=>.inl hall) (jR h3 h4)
    | none=>
     rw [hp] at h
     dsimp only at h
     cases hv:Uy P ⟨s.n,Aj g s (jc o.op),s.rows,s.next⟩ o.op with
     | some v=>
      rw [hv] at h
      obtain ⟨h1,h3,h4⟩:=h
      exact gen v h1 (jR h3 h4)
     | none=>
      rw [hv] at h
      have call:(∃ v,KN P w0 T0 o g s v∧bn (pF o.dst s.n) (lZ P w0 T0 ops es tb l (i+1) (oW (o8 tb i) ⟨o,g,Aj g s (jc o.op),v,o8 tb i⟩ acc) hs (oh o.dst (KP g v) s) Q))→∃ vs' hs' sf,yZ P w0 T0 ops es tb s0 hs Q vs' hs' sf:=by
       rintro ⟨v,h1,h3,h4⟩
       exact gen v h1 (jR h3 h4)
      cases g with
      | some c=>exact call h
      | none=>
       cases hl:Ea o.op with
       | false=>rw [hl] at h;exact call h
       | true=>
        rw [hl] at h
        obtain ⟨v,t,⟨⟨hr,hx⟩,h3,h4⟩,hall⟩:=RU hl _ h
        exact gen v (hall _ ⟨rfl,hr,hx⟩) (jR h3 h4)
end
section
variable {P:Program} {w0:World} {T0:Bs} {b0:Nat} {ops:Array Oper} {es:List Nat} {tb:List (Nat × List Nat)} {T:List Nat} {H:List (AV × Value)} [hG:uq P w0 T0]
theorem Ov {L:Array Bool} {i:Nat} (h:L.getD i true=false):L.getD i false=false:=by
 rcases Nat.lt_or_ge i L.size with h'|h'
 ·simpa [h'] using h
 ·simp [Array.getElem?_eq_none h']
theorem Uo {L:Array Bool} {i:Nat} (hi:i<L.size) (h:L.getD i false=false):L.getD i true=false:=by
 simpa [hi] using h
theorem SX (m j:Nat):(Array.replicate m false).getD j false=false:=by
 rcases Nat.lt_or_ge j m with h|h
 ·simp [h]
 ·simp [Array.getElem?_eq_none,h]
def wW (L:Array Bool) (n:Nat):Nat:=(List.range n).countP fun j=>!L.getD j false
theorem Gs {L:Array Bool} {i:Nat} (hs:i<L.size) (hi:L.getD i false=false):∀ n,wW (L.setIfInBounds i true) n+(if i<n then 1 else 0)=wW L n
 | 0=>by simp [wW]
 | n+1=>by
  have ih:=Gs hs hi n
  unfold wW at *
  rw [List.range_succ,List.countP_append,List.countP_append,List.countP_singleton,List.countP_singleton]
  by_cases e:i=n
  ·subst e
   have h1:(L.setIfInBounds i true).getD i false=true:=by simp [hs]
   rw [h1,hi]
   simp at ih ⊢
   omega
  ·rw [getD_set_ne false e]
   by_cases h2:i<n
   ·rw [if_pos h2] at ih;rw [if_pos (show i<n+1 by omega)];omega
   ·rw [if_neg h2] at ih;rw [if_neg (show ¬i<n+1 by omega)];omega
theorem NP {L:Array Bool} {n:Nat} (h:wW L n=0):∀ i,i<n→L.getD i false=true:=by
 intro i hi
 unfold wW at h
 have:=List.countP_eq_zero.1 h i (List.mem_range.2 hi)
 simpa using this
def wK (ops:Array Oper) (s0:S) (vs:List AV) (L:Array Bool) (r:Nat):AV:=match Oh ops r with
 | some j=>bif L.getD j false then vs.getD j .dead else s0.get r
 | none=>s0.get r
structure SK (w0:World) (T0:Bs) (H:List (AV × Value)) (ops:Array Oper) (es:List Nat) (s0:S) (vs:List AV) (hs:List vY) (L:Array Bool) (k:Nat) (env:List (Nat × AV)) (a:Act) (w:World):Prop where
 size:L.size=ops.size
 closed:∀ (i:Nat) (o:Oper),ops[i]?=some o→L.getD i false=true→∀ e,e∈o.after→Region.binds .any e=true→L.getD e.on false=true
 kle:k≤es.length
 es:∀ (q i:Nat),es[q]?=some i→(L.getD i false=true↔q<k)
 get:∀ r,S.get ⟨s0.n,env,[],0⟩ r=wK ops s0 vs L r
 rep:∃ h,hs[k]?=some h∧Rep w0 T0 H ⟨s0.n,env,h.1,h.2⟩ a w
theorem wJ (hok:oO ops es tb T) {L:Array Bool} (hsz:L.size=ops.size) (hc:∀ (i:Nat) (o:Oper),ops[i]?=some o→L.getD i false=true→∀ e,e∈o.after→Region.binds .any e=true→L.getD e.on false=true) :
  ∀ (i:Nat) (o:Oper),ops[i]?=some o→(∀ e,e∈o.after→Region.binds .any e=true→L.getD e.on false=true)→∀ q,q<ops.size→sS T i q=true→L.getD q false=true:=by
 intro i
 induction i using Nat.strongRecOn with
 | _ i ih=>
  intro o hi hd q hq hb
  obtain ⟨e,he,hbd,hx⟩:=hok.anc i o hi q hq hb
  rcases hx with rfl|hx
  ·exact hd e he hbd
  ·have hlt:=hok.low i o hi e he hbd
   have hL:=hd e he hbd
   cases hoe:ops[e.on]? with
   | none=>
    have:=Array.getElem?_eq_none_iff.1 hoe
    have hi':=(Array.getElem?_eq_some_iff.1 hi).1
    omega
   | some oe=>exact ih e.on hlt oe hoe (hc e.on oe hoe hL) q hq hx
theorem UF (hok:oO ops es tb T) {s0 sf:S} {Q:S→Prop} {vs:List AV} {hs:List vY} {hs0:List vY} (hend:yZ P w0 T0 ops es tb s0 hs0 Q vs hs sf) :
  ∀ (fuel:Nat) (L:Array Bool) (k:Nat) (env:List (Nat × AV)) (a:Act) (w:World),wW L ops.size=fuel→SK w0 T0 H ops es s0 vs hs L k env a w →
   wpAny P .any ops (fun e a' w'=>e=.normal∧∃ s',Q s'∧Rep w0 T0 H s' a' w') fuel L a w:=by
 have fin:∀ (L:Array Bool) (k:Nat) (env:List (Nat × AV)) (a:Act) (w:World),(∀ i,i<ops.size→L.getD i false=true)→SK w0 T0 H ops es s0 vs hs L k env a w→∃ s',Q s'∧Rep w0 T0 H s' a w:=by
  intro L k env a w hall inv
  have hk:k=es.length:=by
   rcases Nat.lt_or_ge k es.length with hlt|hge
   ·have h1:=inv.es k es[k] (List.getElem?_eq_getElem hlt)
    have h2:=hok.es1 k es[k] (List.getElem?_eq_getElem hlt)
    have:=h1.1 (hall _ h2.1)
    omega
   ·have:=inv.kle;omega
  obtain ⟨h,hh,m,hm⟩:=inv.rep
  have hl:=hend.last
  rw [hok.tot,←hk,hh] at hl
  cases hl
  refine ⟨sf,hend.q,m,?_⟩
  refine { size:=by rw [hend.n];exact hm.size,nodef:=hm.nodef,below:=hm.below,held:=hm.held,rows:=hm.rows,sep:=hm.sep,env:=?_ }
  intro r v hv
  have hg:S.get ⟨s0.n,env,[],0⟩ r=v:=by
   rw [inv.get r]
   have h1:=hend.get r
   have h2:sf.get r=v:=by simp [S.get,hv]
   rw [←h2,h1]
   unfold wK kR
   cases hx:Oh ops r with
   | none=>rfl
   | some j=>
    obtain ⟨o,ho,_⟩:=o7 hx
    have hlt:=(Array.getElem?_eq_some_iff.1 ho).1
    simp [hall j hlt,hlt]
  simp only [S.get] at hg
  cases hl:lk env r with
  | none=>rw [hl] at hg;simp only at hg;subst hg;exact .dead _
  | some v'=>rw [hl] at hg;simp only at hg;subst hg;exact hm.env r v' hl
 intro fuel
 induction fuel with
 | zero=>
  intro L k env a w hf inv
  have hall:=NP hf
  refine ⟨?_,rfl,fin L k env a w hall inv⟩
  apply List.eq_nil_iff_forall_not_mem.2
  intro j hj
  obtain ⟨h1,o,ho,_⟩:=mem_ready.1 hj
  have hlt:=(Array.getElem?_eq_some_iff.1 ho).1
  have h2:=hall j hlt
  rw [Ov h1] at h2
  cases h2
 | succ fuel ih=>
  intro L k env a w hf inv
  refine ⟨?_,?_⟩
  ·intro hr
   refine ⟨rfl,fin L k env a w ?_ inv⟩
   intro i
   induction i using Nat.strongRecOn with
   | _ i ihi=>
    intro hi
    cases hL:L.getD i false with
    | true=>rfl
    | false=>
     exfalso
     obtain ⟨o,ho⟩:∃ o,ops[i]?=some o:=⟨ops[i],Array.getElem?_eq_getElem hi⟩
     have hmem:i∈Region.ready .any ops L:=mem_ready.2 ⟨Uo (by rw [inv.size];exact hi) hL,o,ho,fun e he hb=>ihi e.on (hok.low i o ho e he hb) (Nat.lt_trans (hok.low i o ho e he hb) hi)⟩
     rw [hr] at hmem;cases hmem
  ·intro i hi
   obtain ⟨hun,o,ho,hdep⟩:=mem_ready.1 hi
   have hlt:=(Array.getElem?_eq_some_iff.1 ho).1
   have hL:L.getD i false=false:=Ov hun
   have hanc:=wJ hok inv.size inv.closed i o ho hdep
   -- what the operation looks at
   have hagree:∀ r,r∈o.looksAt ops→S.get ⟨s0.n,env,[],0⟩ r=kR ops s0 vs i r:=by
    intro r hr
    rw [inv.get r]
    unfold wK kR
    cases hx:Oh ops r with
    | none=>rfl
    | some j=>
     obtain ⟨oj,hj,hdj⟩:=o7 hx
     have hjlt:=(Array.getElem?_eq_some_iff.1 hj).1
     rcases hok.look i o r j oj ho hj hdj hr with ⟨hb,hji⟩|⟨hb,hij,hb'⟩
     ·dsimp only
      rw [hanc j hjlt hb,if_pos hji];rfl
     ·have hLj:L.getD j false=false:=by
       cases hLj:L.getD j false with
       | false=>rfl
       | true=>
        have:=wJ hok inv.size inv.closed j oj hj (inv.closed j oj hj hLj) i hlt hb'
        rw [hL] at this;cases this
      dsimp only
      rw [hLj,if_neg (by omega)];rfl
   -- one more is listed
   have next:∀ (k':Nat) (h':vY) (val:Value) (w':World),hs[k']?=some h'→k'≤es.length→(∀ (q j:Nat),es[q]?=some j→((L.setIfInBounds i true).getD j false=true↔q<k')) →
     Rep w0 T0 ((vs.getD i .dead,val)::H) ⟨s0.n,env,h'.1,h'.2⟩ a w' →
     wpAny P .any ops (fun e a' w'=>e=.normal∧∃ s',Q s'∧Rep w0 T0 H s' a' w') fuel (L.setIfInBounds i true) (a.put o.dst val) w':=by
    intro k' h' val w' hh' hk' hes' ⟨m',hm'⟩
    have hop:=Gs (by rw [inv.size];exact hlt) hL ops.size
    rw [if_pos hlt] at hop
    have hclosed:∀ (j:Nat) (oj:Oper),ops[j]?=some oj→(L.setIfInBounds i true).getD j false=true→∀ e,e∈oj.after→Region.binds .any e=true→(L.setIfInBounds i true).getD e.on false=true:=by
     intro j oj hj hLj e he hb
     by_cases hij:i=j
     ·subst hij
      rw [ho] at hj;cases hj
      exact getD_set_true (hdep e he hb)
     ·rw [getD_set_ne false hij] at hLj
      exact getD_set_true (inv.closed j oj hj hLj e he hb)
    have hset:∀ r,o.dst≠some r→wK ops s0 vs (L.setIfInBounds i true) r=wK ops s0 vs L r:=by
     intro r hr
     unfold wK
     cases hx:Oh ops r with
     | none=>rfl
     | some j=>
      dsimp only
      have hne:i≠j:=by
       rintro rfl
       obtain ⟨oj,hj,hdj⟩:=o7 hx
       rw [ho] at hj;cases hj
       exact hr hdj
      rw [getD_set_ne false hne]
    cases hd:o.dst with
    | none=>
     refine ih _ k' env _ w' (by omega) { size:=by simpa using inv.size,closed:=hclosed,kle:=hk',es:=hes',get:=fun r=>?_,rep:=⟨h',hh',m',hm'.oU⟩ }
     rw [hset r (by rw [hd];simp)];exact inv.get r
    | some d=>
     have hdn:d<s0.n:=hend.done.put i o d hlt ho hd
     have hput:=hm'.oU.V9 (hm'.held _ (.head _)) (d:=d) hdn
     refine ih _ k' ((d,vs.getD i .dead)::env) _ w' (by omega) { size:=by simpa using inv.size,closed:=hclosed,kle:=hk',es:=hes',get:=fun r=>?_,rep:=⟨h',hh',m',hput⟩ }
     by_cases e:d=r
     ·subst e
      have hx:=hok.Oh ho hd
      have hL1:(L.setIfInBounds i true).getD i false=true:=by
       have:i<L.size:=by rw [inv.size];exact hlt
       simp [this]
      unfold wK
      rw [hx]
      dsimp only
      rw [hL1]
      simp [S.get,lk]
     ·rw [hset r (by rw [hd];simpa using e),←inv.get r]
      simp [S.get,lk,e]
   obtain ⟨h,hh,hrep⟩:=inv.rep
   unfold wpOp
   rw [ho]
   dsimp only
   have wrap:∀ {A B:Prop} {b:Bool} {C:Prop},(if b=true then A else B)→(if b=true then A∨C else B):=by
    intro A B b C h
    cases b with
    | true=>simpa using Or.inl h
    | false=>simpa using h
   apply wrap
   cases he:es.elem i with
   | false=>
    have hes':∀ (q j:Nat),es[q]?=some j→((L.setIfInBounds i true).getD j false=true↔q<k):=by
     intro q j hq
     have hne:i≠j:=by
      rintro rfl
      have:es.elem i=true:=by simpa using List.mem_of_getElem? hq
      rw [he] at this;cases this
     rw [getD_set_ne false hne]
     exact inv.es q j hq
    have hqs:QS P w0 T0 ops o s0.n (kR ops s0 vs i) h h (vs.getD i .dead):=by
     rcases hok.heaps i o ho he k inv.kle with h0|h0|⟨k',e,hk',hke,hb⟩|⟨k',e,hk',hke,hb⟩
     ·obtain ⟨h2,hh2,hq⟩:=hend.done.quiet i o hlt ho he
      rw [←h0,hh] at hh2;cases hh2
      exact hq
     ·exact hend.re i o ho he k h0 h hh
     ·have h1:=hanc e (hok.es1 k' e hke).1 hb
      have:=(inv.es k' e hke).1 h1
      omega
     ·have h1:=(inv.es k' e hke).2 hk'
      cases hoe:ops[e]? with
      | none=>
       have h2:=Array.getElem?_eq_none_iff.1 hoe
       have h3:=(hok.es1 k' e hke).1
       omega
      | some oe=>
       have:=wJ hok inv.size inv.closed e oe hoe (inv.closed e oe hoe h1) i hlt hb
       rw [hL] at this;cases this
    exact hqs env hagree H a w _ _ hrep fun val w' hr'=>next k h val w' hh inv.kle hes' hr'
   | true=>
    obtain ⟨q,hq⟩:=List.mem_iff_getElem?.1 (show i∈es by simpa using he)
    obtain ⟨_,hown⟩:=hok.es1 q i hq
    have hge:¬q<k:=fun hlt'=>by
     have:=(inv.es q i hq).2 hlt'
     rw [hL] at this;cases this
    have hqk:q=k:=by
     cases q with
     | zero=>omega
     | succ q=>
      have hqlt:q<es.length:=by
       have:=(List.getElem?_eq_some_iff.1 hq).1;omega
      have h1:=hok.es2 q es[q] i (List.getElem?_eq_getElem hqlt) hq
      have h2:=hanc es[q] (hok.es1 q _ (List.getElem?_eq_getElem hqlt)).1 h1
      have h3:=(inv.es q _ (List.getElem?_eq_getElem hqlt)).1 h2
      omega
    subst hqk
    obtain ⟨h1,h2,hh1,hh2,hqs⟩:=hend.done.eff i o hlt ho he
    rw [hown,hh] at hh1;cases hh1
    rw [hown] at hh2
    have hqlt:q<es.length:=(List.getElem?_eq_some_iff.1 hq).1
    have hes':∀ (q' j:Nat),es[q']?=some j→((L.setIfInBounds i true).getD j false=true↔q'<q+1):=by
     intro q' j hq'
     by_cases e:i=j
     ·subst e
      have h3:=(hok.es1 q' i hq').2
      have:i<L.size:=by rw [inv.size];exact hlt
      have h4:(L.setIfInBounds i true).getD i false=true:=by simp [this]
      rw [h4]
      constructor
      ·intro _;omega
      ·intro _;rfl
     ·rw [getD_set_ne false e]
      have h3:=(hok.es1 q' j hq').2
      have hne:q'≠q:=by
       rintro rfl
       rw [hq] at hq';cases hq';exact e rfl
      rw [inv.es q' j hq']
      omega
    exact hqs env hagree H a w _ _ hrep fun val w' hr'=>next (q+1) h2 val w' hh2 hqlt hes' hr'
theorem aQ.lex {id:Nat} {s:S} {Q:S→Prop} (es:List Nat) (tb:List (Nat × List Nat)) (hm:P.follows .mixedOrders=true) (hok:Ro ops es tb (Xq ops)=true)
  (h:lZ P w0 T0 ops es tb ops.toList 0 [] [(s.rows,s.next)] s Q):@aQ P w0 T0 b0 id ops s ⟨Q⟩:=by
 intro H a w _ hr
 refine wp_region_any hm ?_
 have hr':Rep w0 T0 H s a { w with drawn:=w.drawn+1 }:=by
  obtain ⟨m,hm⟩:=hr
  exact ⟨m,hm.drawn⟩
 have ok:=oO.of hok
 have hg0:∀ r,s.get r=kR ops s [] 0 r:=by
  intro r;unfold kR;split<;>simp
 obtain ⟨vs,hs,sf,hend⟩:=Qu ok ops.toList 0 [] [(s.rows,s.next)] s [] Q rfl (Nat.zero_le _) rfl rfl rfl rfl hg0
  ⟨fun j o h=>absurd h (by omega),fun j o h=>absurd h (by omega),fun j o d h=>absurd h (by omega)⟩ (fun j o h=>absurd h (by omega)) h
 have hL:∀ j,(Array.replicate ops.size false).getD j false=false:=fun j=>SX _ j
 have hop:wW (Array.replicate ops.size false) ops.size=ops.size:=by
  unfold wW
  have:(List.range ops.size).countP (fun j=>!(Array.replicate ops.size false).getD j false)=(List.range ops.size).length:=by
   apply List.countP_eq_length.2
   intro j _
   rw [hL j];rfl
  rw [this,List.length_range]
 refine UF ok hend ops.size (Array.replicate ops.size false) 0 s.env a _ hop ?_
 refine { size:=by simp,closed:=fun i o _ h=>(by rw [hL] at h;cases h),kle:=Nat.zero_le _,es:=fun q i _=>(by rw [hL];simp),get:=fun r=>?_,rep:=⟨_,hend.pre 0 _ rfl,hr'⟩ }
 unfold wK
 split
 ·rw [hL];rfl
 ·rfl
end
end Go.Fv
/-! Regions whose order is drawn, where operations that change the state may change places: a tree of these; the others are walked once, and shown again where the heap changes. -/
namespace Go.Fv
open Go.RowKit
def qN (ks:List Nat):List (Nat × Acc)→List (Nat × Acc)
 | []=>[]
 | x::l=>bif wM ks x.1 then x::qN ks l else qN ks l
def Oo (P:Program) (w0:World) (T0:Bs) (n:Nat) (o:Oper) (g:Option Bool) (env:List (Nat × AV)) (v:AV) (R:List (Nat × Item)) (N:Nat):Prop:=match g with
 | .none=>SE P w0 T0 o ⟨n,env,R,N⟩ v
 | .some c=>Fv.below N v=true∧(c=true→SE P w0 T0 o ⟨n,env,R,N⟩ v)
def Jv (P:Program) (w0:World) (T0:Bs) (n:Nat) (R:List (Nat × Item)) (N:Nat):List (Nat × Acc)→Prop
 | []=>True
 |(_,⟨o,g,env,v,_⟩)::l=>Oo P w0 T0 n o g env v R N∧Jv P w0 T0 n R N l
section
variable {P:Program} {w0:World} {T0:Bs} {b0:Nat} {ops:Array Oper} {T:List Nat} {H:List (AV × Value)} [hG:uq P w0 T0]
def Cl (ops:Array Oper) (V:Array Bool):Prop:=∀ (i:Nat) (o:Oper),ops[i]?=some o→V.getD i false=true→∀ e,e∈o.after→Region.binds .any e=true→V.getD e.on false=true
def Dp (V:Array Bool) (o:Oper):Prop:=∀ e,e∈o.after→Region.binds .any e=true→V.getD e.on false=true
theorem Bd {s0:S} {vs:List AV} {V:Array Bool} {i:Nat} {v:AV} (h:V.getD i false=false) (r:Nat):wK ops s0 (vs.set i v) V r=wK ops s0 vs V r:=by
 unfold wK
 split
 ·rename_i j _
  by_cases e:i=j
  ·subst e;rw [h];rfl
  ·simp [List.getD_eq_getElem?_getD,List.getElem?_set,e]
 ·rfl
structure P8 (P:Program) (w0:World) (T0:Bs) (ops:Array Oper) (s0:S) (vs:List AV) (V:Array Bool) (Pd:List Nat) (acc:List (Nat × Acc)) (s:S):Prop where
 vsize:V.size=ops.size
 vlen:vs.length=ops.size
 cl:Cl ops V
 n:s.n=s0.n
 sget:∀ r,s.get r=wK ops s0 vs V r
 pd:∀ j,j∈Pd→V.getD j false=true∧∀ o,ops[j]?=some o→∃ U:Array Bool,U.size=ops.size∧Cl ops U∧(∀ i,U.getD i false=true→V.getD i false=true)∧Dp U o∧U.getD j false=false ∧
  QS P w0 T0 ops o s0.n (wK ops s0 vs U) (s.rows,s.next) (s.rows,s.next) (vs.getD j .dead) ∧
  ((∀ h,QS P w0 T0 ops o s0.n (wK ops s0 vs U) h h (vs.getD j .dead))∨∃ x,(j,x)∈acc∧∀ h,sD P w0 T0 s0.n x h→QS P w0 T0 ops o s0.n (wK ops s0 vs U) h h (vs.getD j .dead))
 put:∀ j o d,V.getD j false=true→ops[j]?=some o→o.dst=some d→d<s0.n
structure RInv (w0:World) (T0:Bs) (H:List (AV × Value)) (ops:Array Oper) (s0:S) (vs:List AV) (V:Array Bool) (Pd:List Nat) (s:S) (L:Array Bool) (env:List (Nat × AV)) (a:Act) (w:World):Prop where
 size:L.size=ops.size
 cl:Cl ops L
 sub:∀ i,L.getD i false=true→V.getD i false=true
 get:∀ r,S.get ⟨s0.n,env,[],0⟩ r=wK ops s0 vs L r
 rep:Rep w0 T0 H ⟨s0.n,env,s.rows,s.next⟩ a w
 pd:∀ i,V.getD i false=true→L.getD i false=false→i∈Pd
theorem Cl.set {V:Array Bool} {i:Nat} {o:Oper} (h:Cl ops V) (ho:ops[i]?=some o) (hd:Dp V o):Cl ops (V.setIfInBounds i true):=by
 intro j oj hj hLj e he hb
 by_cases hij:i=j
 ·subst hij
  rw [ho] at hj;cases hj
  exact getD_set_true (hd e he hb)
 ·rw [getD_set_ne false hij] at hLj
  exact getD_set_true (h j oj hj hLj e he hb)
theorem Oz (hok:oO ops [] [] T) {s0:S} {vs:List AV} {V:Array Bool} {i:Nat} {o:Oper} {g:Nat→AV} (ho:ops[i]?=some o) (hs:V.size=ops.size) (hg:∀ r,g r=wK ops s0 vs V r) :
  ∀ r,(match o.dst with|some d=>if d=r then vs.getD i .dead else g r|none=>g r)=wK ops s0 vs (V.setIfInBounds i true) r:=by
 intro r
 have hilt:=(Array.getElem?_eq_some_iff.1 ho).1
 have hV:(V.setIfInBounds i true).getD i false=true:=by
  have:i<V.size:=by rw [hs];exact hilt
  simp [this]
 have old:o.dst≠some r→g r=wK ops s0 vs (V.setIfInBounds i true) r:=by
  intro hne
  rw [hg r]
  unfold wK
  cases hx:Oh ops r with
  | none=>rfl
  | some j=>
   dsimp only
   have hij:i≠j:=by
    rintro rfl
    obtain ⟨oj,hj,hdj⟩:=o7 hx
    rw [ho] at hj;cases hj
    exact hne hdj
   rw [getD_set_ne false hij]
 cases hd:o.dst with
 | none=>exact old (by rw [hd];simp)
 | some d=>
  dsimp only
  by_cases e:d=r
  ·subst e
   rw [if_pos rfl]
   unfold wK
   rw [hok.Oh ho hd]
   dsimp only
   rw [hV];rfl
  ·rw [if_neg e]
   exact old (by rw [hd];simpa using e)
theorem Kr {n d r:Nat} {v:AV} {env:List (Nat × AV)} {R:List (Nat × Item)} {N:Nat}:S.get ⟨n,(d,v)::env,R,N⟩ r=if d=r then v else S.get ⟨n,env,R,N⟩ r:=by
 by_cases e:d=r
 ·subst e;simp [S.get,lk]
 ·simp [S.get,lk,e]
theorem RInv.more (hok:oO ops [] [] T) {s0:S} {vs:List AV} {L:Array Bool} {env:List (Nat × AV)} {a:Act} {w':World} {i:Nat} {o:Oper} {R:List (Nat × Item)} {N:Nat} {val:Value}
  (ho:ops[i]?=some o) (hs:L.size=ops.size) (hg:∀ r,S.get ⟨s0.n,env,[],0⟩ r=wK ops s0 vs L r) (hput:∀ d,o.dst=some d→d<s0.n)
  (hr:Rep w0 T0 ((vs.getD i .dead,val)::H) ⟨s0.n,env,R,N⟩ a w') :
  ∃ env',(∀ r,S.get ⟨s0.n,env',[],0⟩ r=wK ops s0 vs (L.setIfInBounds i true) r)∧Rep w0 T0 H ⟨s0.n,env',R,N⟩ (a.put o.dst val) w':=by
 obtain ⟨m',hm'⟩:=hr
 have hst:=Oz hok (s0:=s0) (vs:=vs) ho hs hg
 cases hd:o.dst with
 | none=>
  rw [hd] at hst
  exact ⟨env,hst,m',hm'.oU⟩
 | some d=>
  rw [hd] at hst
  have h2:=hm'.oU.V9 (hm'.held _ (.head _)) (d:=d) (hput d hd)
  exact ⟨(d,vs.getD i .dead)::env,fun r=>by rw [Kr];exact hst r,m',h2⟩
end
theorem ou {ks:List Nat} {x:Nat × Acc} (hk:wM ks x.1=true):∀ {l:List (Nat × Acc)},x∈l→x∈qN ks l
 | y::l,h=>by
  unfold qN
  rcases List.mem_cons.1 h with rfl|h
  ·rw [hk];exact .head _
  ·cases wM ks y.1 with
   | true=>exact .tail _ (ou hk h)
   | false=>exact ou hk h
theorem Fq {l:List Nat} {i:Nat}:wM l i=true↔i∈l:=by
 rw [Ce];simp
section
variable {P:Program} {w0:World} {T0:Bs} {b0:Nat} {ops:Array Oper} {T:List Nat} {H:List (AV × Value)} [hG:uq P w0 T0]
theorem Qv {n:Nat} {R:List (Nat × Item)} {N:Nat} {x:Nat × Acc} {l:List (Nat × Acc)} (h:Jv P w0 T0 n R N l) (hx:x∈l):sD P w0 T0 n x.2 (R,N):=by
 induction l with
 | nil=>cases hx
 | cons y l ih=>
  obtain ⟨j,o,g,env,v,ks⟩:=y
  have h1:Oo P w0 T0 n o g env v R N:=h.1
  have h2:Jv P w0 T0 n R N l:=h.2
  rcases List.mem_cons.1 hx with rfl|hx
  ·unfold Oo at h1;unfold sD
   cases g with
   | none=>exact h1
   | some c=>exact h1
  ·exact ih h2 hx
theorem vH {vs:List AV} {i:Nat} {v:AV} (h:i<vs.length):(vs.set i v).getD i .dead=v:=by
 simp [List.getD_eq_getElem?_getD,h]
theorem Af {vs:List AV} {i j:Nat} {v:AV} (h:i≠j):(vs.set i v).getD j .dead=vs.getD j .dead:=by
 simp [List.getD_eq_getElem?_getD,List.getElem?_set,h]
theorem LD (hok:oO ops [] [] T) {s0 s:S} {vs:List AV} {V:Array Bool} {i:Nat} {o:Oper} {v:AV} {R:List (Nat × Item)} {N:Nat} (ho:ops[i]?=some o) (hs:V.size=ops.size) (hl:vs.length=ops.size) (hV:V.getD i false=false) (hg:∀ r,s.get r=wK ops s0 vs V r) :
  ∀ r,(oh o.dst v ⟨s.n,s.env,R,N⟩).get r=wK ops s0 (vs.set i v) (V.setIfInBounds i true) r:=by
 intro r
 have hilt:=(Array.getElem?_eq_some_iff.1 ho).1
 have h:=Oz hok (s0:=s0) (vs:=vs.set i v) (g:=s.get) ho hs (fun r=>(hg r).trans (Bd hV r).symm) r
 rw [vH (by omega)] at h
 rw [←h]
 unfold oh
 cases o.dst with
 | none=>rfl
 | some d=>exact Kr
theorem P8.quiet (hok:oO ops [] [] T) {s0 s:S} {vs:List AV} {V:Array Bool} {Pd:List Nat} {acc acc':List (Nat × Acc)} {i:Nat} {o:Oper} {v:AV} (hv:P8 P w0 T0 ops s0 vs V Pd acc s) (ho:ops[i]?=some o) (hd:Dp V o) (hV:V.getD i false=false)
  (hq:QS P w0 T0 ops o s.n s.get (s.rows,s.next) (s.rows,s.next) v) (hr:(∀ h,QS P w0 T0 ops o s.n s.get h h v)∨∃ x,(i,x)∈acc'∧∀ h,sD P w0 T0 s.n x h→QS P w0 T0 ops o s.n s.get h h v)
  (hsub:∀ x,x∈acc→x∈acc') (hdst:pF o.dst s.n):P8 P w0 T0 ops s0 (vs.set i v) (V.setIfInBounds i true) (i::Pd) acc' (oh o.dst v s):=by
 have hilt:=(Array.getElem?_eq_some_iff.1 ho).1
 have hVs:(V.setIfInBounds i true).getD i false=true:=by
  have:i<V.size:=by rw [hv.vsize];exact hilt
  simp [this]
 have hup:∀ j,V.getD j false=true→(V.setIfInBounds i true).getD j false=true:=fun j hj=>getD_set_true hj
 have hrows:(oh o.dst v s).rows=s.rows∧(oh o.dst v s).next=s.next∧(oh o.dst v s).n=s.n:=by
  unfold oh;cases o.dst<;>exact ⟨rfl,rfl,rfl⟩
 have conv:∀ {h h':vY},QS P w0 T0 ops o s.n s.get h h' v→QS P w0 T0 ops o s0.n (wK ops s0 (vs.set i v) V) h h' ((vs.set i v).getD i .dead):=by
  intro h h' hh
  rw [vH (by rw [hv.vlen];exact hilt),←hv.n]
  exact hh.congr fun r _=>by rw [Bd hV];exact (hv.sget r).symm
 refine ⟨by simpa using hv.vsize,by simpa using hv.vlen,hv.cl.set ho hd,by rw [hrows.2.2];exact hv.n,?_,?_,?_⟩
 ·exact LD hok (R:=s.rows) (N:=s.next) ho hv.vsize hv.vlen hV hv.sget
 ·intro j hj
  rcases List.mem_cons.1 hj with rfl|hj
  ·refine ⟨hVs,fun o' ho'=>?_⟩
   rw [ho] at ho';cases ho'
   refine ⟨V,hv.vsize,hv.cl,hup,hd,hV,?_,?_⟩
   ·rw [hrows.1,hrows.2.1];exact conv hq
   ·rcases hr with h|⟨x,hx,h⟩
    ·exact .inl fun h'=>conv (h h')
    ·exact .inr ⟨x,hx,fun h' hc=>conv (h h' (by rw [hv.n];exact hc))⟩
  ·obtain ⟨h1,h2⟩:=hv.pd j hj
   have hne:i≠j:=by rintro rfl;rw [hV] at h1;cases h1
   refine ⟨hup j h1,fun o' ho'=>?_⟩
   obtain ⟨U,u1,u2,u3,u4,u5,u6,u7⟩:=h2 o' ho'
   have hUi:U.getD i false=false:=by
    cases hu:U.getD i false with
    | false=>rfl
    | true=>have:=u3 i hu;rw [hV] at this;cases this
   have cv:∀ {h h':vY},QS P w0 T0 ops o' s0.n (wK ops s0 vs U) h h' (vs.getD j .dead)→QS P w0 T0 ops o' s0.n (wK ops s0 (vs.set i v) U) h h' ((vs.set i v).getD j .dead):=by
    intro h h' hh
    rw [Af hne]
    exact hh.congr fun r _=>Bd hUi r
   refine ⟨U,u1,u2,fun k hk=>hup k (u3 k hk),u4,u5,?_,?_⟩
   ·rw [hrows.1,hrows.2.1];exact cv u6
   ·rcases u7 with h|⟨x,hx,h⟩
    ·exact .inl fun h'=>cv (h h')
    ·exact .inr ⟨x,hsub _ hx,fun h' hc=>cv (h h' hc)⟩
 ·intro j oj d hj hoj hdj
  by_cases e:i=j
  ·subst e
   rw [ho] at hoj;cases hoj
   rw [hdj] at hdst
   rw [←hv.n];exact hdst
  ·rw [getD_set_ne false e] at hj
   exact hv.put j oj d hj hoj hdj
theorem P8.eff (hok:oO ops [] [] T) {s0 s:S} {vs:List AV} {V:Array Bool} {Pd ks:List Nat} {acc:List (Nat × Acc)} {i:Nat} {o:Oper} {v:AV} {R:List (Nat × Item)} {N:Nat} (hv:P8 P w0 T0 ops s0 vs V Pd acc s) (ho:ops[i]?=some o) (hd:Dp V o) (hV:V.getD i false=false)
  (hks:∀ j,j∈ks→j∈Pd) (hre:Jv P w0 T0 s.n R N (qN ks acc)) (hdst:pF o.dst s.n):P8 P w0 T0 ops s0 (vs.set i v) (V.setIfInBounds i true) ks (qN ks acc) (oh o.dst v ⟨s.n,s.env,R,N⟩):=by
 have hilt:=(Array.getElem?_eq_some_iff.1 ho).1
 have hup:∀ j,V.getD j false=true→(V.setIfInBounds i true).getD j false=true:=fun j hj=>getD_set_true hj
 have hrows:(oh o.dst v ⟨s.n,s.env,R,N⟩).rows=R∧(oh o.dst v ⟨s.n,s.env,R,N⟩).next=N∧(oh o.dst v ⟨s.n,s.env,R,N⟩).n=s.n:=by
  unfold oh;cases o.dst<;>exact ⟨rfl,rfl,rfl⟩
 refine ⟨by simpa using hv.vsize,by simpa using hv.vlen,hv.cl.set ho hd,by rw [hrows.2.2];exact hv.n,?_,?_,?_⟩
 ·exact LD hok ho hv.vsize hv.vlen hV hv.sget
 ·intro j hj
  obtain ⟨h1,h2⟩:=hv.pd j (hks j hj)
  have hne:i≠j:=by rintro rfl;rw [hV] at h1;cases h1
  refine ⟨hup j h1,fun o' ho'=>?_⟩
  obtain ⟨U,u1,u2,u3,u4,u5,u6,u7⟩:=h2 o' ho'
  have hUi:U.getD i false=false:=by
   cases hu:U.getD i false with
   | false=>rfl
   | true=>have:=u3 i hu;rw [hV] at this;cases this
  have cv:∀ {h h':vY},QS P w0 T0 ops o' s0.n (wK ops s0 vs U) h h' (vs.getD j .dead)→QS P w0 T0 ops o' s0.n (wK ops s0 (vs.set i v) U) h h' ((vs.set i v).getD j .dead):=by
   intro h h' hh
   rw [Af hne]
   exact hh.congr fun r _=>Bd hUi r
  refine ⟨U,u1,u2,fun k hk=>hup k (u3 k hk),u4,u5,?_,?_⟩
  ·rw [hrows.1,hrows.2.1]
   rcases u7 with h|⟨x,hx,h⟩
   ·exact cv (h _)
   ·have:=Qv hre (ou (x:=(j,x)) (Fq.2 hj) hx)
    rw [hv.n] at this
    exact cv (h _ this)
  ·rcases u7 with h|⟨x,hx,h⟩
   ·exact .inl fun h'=>cv (h h')
   ·exact .inr ⟨x,ou (x:=(j,x)) (Fq.2 hj) hx,fun h' hc=>cv (h h' hc)⟩
 ·intro j oj d hj hoj hdj
  by_cases e:i=j
  ·subst e
   rw [ho] at hoj;cases hoj
   rw [hdj] at hdst
   rw [←hv.n];exact hdst
  ·rw [getD_set_ne false e] at hj
   exact hv.put j oj d hj hoj hdj
end
end Go.Fv
