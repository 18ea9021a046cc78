/-
  A part of the proof of the claim: walks over the program's functions and the plain laws that these need. No condition of its own.
-/
import Derived.Test.YtaahmkhlhgkfpaaDoorFvPart8
set_option linter.unusedSectionVars false
set_option linter.unusedVariables false
set_option linter.unusedSimpArgs false
set_option linter.unnecessarySimpa false
namespace Go.Fv
open Go.RowKit
def kQ (T:List Nat) (i q:Nat):Bool:=(T.getD i 0).testBit q
def Ky (ops:Array Oper):List Nat:=
 ops.toList.foldl (fun acc o=>acc++[o.after.toList.foldl (fun s e=>bif Region.binds .any e then s ||| 2 ^ e.on ||| acc.getD e.on 0 else s) 0]) []
def gQ (es:List Nat) (i:Nat):Nat:=(List.range i).countP fun j=>es.elem j
def oO (ops:Array Oper) (f:Nat→Oper→Bool):Bool:=(List.range ops.size).all fun i=>match ops[i]? with
 | some o=>f i o
 | none=>true
theorem dK {ops:Array Oper} {f:Nat→Oper→Bool} (h:oO ops f=true) {i:Nat} {o:Oper} (hi:ops[i]?=some o):f i o=true:=by
 have h1:=List.all_eq_true.1 h i (List.mem_range.2 (Array.getElem?_eq_some_iff.1 hi).1)
 simpa [hi] using h1
def Gw (ops:Array Oper) (es:List Nat) (tb:List (Nat × List Nat)) (T:List Nat):Bool:=
 Region.noSelect ops &&
 oO ops (fun (i:Nat) (o:Oper)=>o.after.all fun e=>!Region.binds .any e || decide (e.on<i)) &&
 oO ops (fun (i:Nat) (o:Oper)=>(List.range ops.size).all fun q=>!kQ T i q || o.after.any fun e=>Region.binds .any e && (e.on == q || kQ T e.on q)) &&
 oO ops (fun (i:Nat) (o:Oper)=>match o.dst with
  | none=>true
  | some r=>oO ops fun (j:Nat) (oj:Oper)=>j == i || oj.dst != some r) &&
 oO ops (fun (i:Nat) (o:Oper)=>oO ops fun (j:Nat) (oj:Oper)=>match oj.dst with
  | none=>true
  | some r=>!(o.looksAt ops).contains r || (kQ T i j && decide (j<i)) || (!kQ T i j && (decide (i<j) && kQ T j i))) &&
 oO ops (fun (i:Nat) (o:Oper)=>(dL o.op).all fun x=>match x with
  | .tmp t=>(o.looksAt ops).contains t
  | _=>true) &&
 (List.range es.length).all (fun k=>match es[k]? with
  | some i=>decide (i<ops.size) && gQ es i == k && (match es[k+1]? with
   | some i'=>kQ T i' i
   | none=>true)
  | none=>true) &&
 oO ops (fun (i:Nat) (o:Oper)=>es.elem i || (List.range (es.length+1)).all fun k=>k == gQ es i || (jE tb i).contains k || (es.drop k).any (fun e=>kQ T i e) || (es.take k).any (fun e=>kQ T e i)) &&
 gQ es ops.size == es.length
structure je (ops:Array Oper) (es:List Nat) (tb:List (Nat × List Nat)) (T:List Nat):Prop where
 sel:Region.noSelect ops=true
 low:∀ (i:Nat) (o:Oper),ops[i]?=some o→∀ e,e∈o.after→Region.binds .any e=true→e.on<i
 anc:∀ (i:Nat) (o:Oper),ops[i]?=some o→∀ q,q<ops.size→kQ T i q=true→∃ e,e∈o.after∧Region.binds .any e=true∧(e.on=q∨kQ T e.on q=true)
 dst:∀ (i:Nat) (o:Oper) (r j:Nat) (oj:Oper),ops[i]?=some o→ops[j]?=some oj→o.dst=some r→oj.dst=some r→j=i
 look:∀ (i:Nat) (o:Oper) (r j:Nat) (oj:Oper),ops[i]?=some o→ops[j]?=some oj→oj.dst=some r→r∈o.looksAt ops→(kQ T i j=true∧j<i)∨(kQ T i j=false∧i<j∧kQ T j i=true)
 reads:∀ (i:Nat) (o:Oper),ops[i]?=some o→∀ t,.tmp t∈dL o.op→t∈o.looksAt ops
 es1:∀ k i,es[k]?=some i→i<ops.size∧gQ es i=k
 es2:∀ k i i',es[k]?=some i→es[k+1]?=some i'→kQ T i' i=true
 heaps:∀ (i:Nat) (o:Oper),ops[i]?=some o→es.elem i=false→∀ k,k≤es.length→k=gQ es i∨k∈jE tb i∨(∃ k' e,k≤k'∧es[k']?=some e∧kQ T i e=true)∨(∃ k' e,k'<k∧es[k']?=some e∧kQ T e i=true)
 tot:gQ es ops.size=es.length
theorem je.of {ops:Array Oper} {es:List Nat} {tb:List (Nat × List Nat)} {T:List Nat} (h:Gw ops es tb T=true):je ops es tb T:=by
 simp only [Gw,Bool.and_eq_true] at h
 obtain ⟨⟨⟨⟨⟨⟨⟨⟨h1,h2⟩,h3⟩,h4⟩,h5⟩,h6⟩,h7⟩,h8⟩,h9⟩:=h
 refine ⟨h1,?_,?_,?_,?_,?_,?_,?_,?_,by simpa using h9⟩
 ·intro i o hi e he hb
  have:=dK h2 hi
  have:=Array.all_eq_true_iff_forall_mem.1 this e he
  simpa [hb] using this
 ·intro i o hi q hq hb
  have:=dK h3 hi
  have:=List.all_eq_true.1 this q (List.mem_range.2 hq)
  simp only [hb,Bool.not_true,Bool.false_or] at this
  obtain ⟨e,he,hh⟩:=Array.any_eq_true'.1 this
  simp only [Bool.and_eq_true,Bool.or_eq_true,beq_iff_eq] at hh
  exact ⟨e,he,hh.1,hh.2⟩
 ·intro i o r j oj hi hj hd hdj
  have:=dK h4 hi
  rw [hd] at this
  have:=dK this hj
  simp only [Bool.or_eq_true,beq_iff_eq,hdj,bne_self_eq_false,Bool.false_eq_true,or_false] at this
  exact this
 ·intro i o r j oj hi hj hd hr
  have:=dK (dK h5 hi) hj
  rw [hd] at this
  simp only [Bool.or_eq_true,Bool.not_eq_true',Bool.and_eq_true,decide_eq_true_eq] at this
  rcases this with (h0|h0)|h0
  ·have:(o.looksAt ops).contains r=true:=by simpa using hr
   rw [this] at h0;cases h0
  ·exact .inl h0
  ·exact .inr h0
 ·intro i o hi t ht
  have:=List.all_eq_true.1 (dK h6 hi) _ ht
  simpa using this
 ·intro k i hk
  have hlt:k<es.length:=(List.getElem?_eq_some_iff.1 hk).1
  have:=List.all_eq_true.1 h7 k (List.mem_range.2 hlt)
  rw [hk] at this
  simp only [Bool.and_eq_true,decide_eq_true_eq,beq_iff_eq] at this
  exact this.1
 ·intro k i i' hk hk'
  have hlt:k<es.length:=(List.getElem?_eq_some_iff.1 hk).1
  have:=List.all_eq_true.1 h7 k (List.mem_range.2 hlt)
  rw [hk,hk'] at this
  simp only [Bool.and_eq_true] at this
  exact this.2
 ·intro i o hi he k hk
  have:=dK h8 hi
  rw [he,Bool.false_or] at this
  have:=List.all_eq_true.1 this k (List.mem_range.2 (by omega))
  simp only [Bool.or_eq_true,beq_iff_eq,List.any_eq_true,List.contains_iff_mem] at this
  rcases this with ((h0|h0)|⟨e,he,hb⟩)|⟨e,he,hb⟩
  ·exact .inl h0
  ·exact .inr (.inl h0)
  ·obtain ⟨q,hq⟩:=List.mem_iff_getElem?.1 he
   rw [List.getElem?_drop] at hq
   exact .inr (.inr (.inl ⟨k+q,e,by omega,hq,hb⟩))
  ·obtain ⟨q,hq⟩:=List.mem_iff_getElem?.1 he
   rw [List.getElem?_take] at hq
   split at hq
   ·exact .inr (.inr (.inr ⟨q,e,by assumption,hq,hb⟩))
   ·cases hq
def DK (ops:Array Oper) (r:Nat):Option Nat:=(List.range ops.size).find? fun i=>match ops[i]? with
 | some o=>o.dst == some r
 | none=>false
theorem jA {ops:Array Oper} {r j:Nat} (h:DK ops r=some j):∃ o,ops[j]?=some o∧o.dst=some r:=by
 have:=List.find?_some h
 cases ho:ops[j]? with
 | none=>rw [ho] at this;cases this
 | some o=>rw [ho] at this;exact ⟨o,rfl,by simpa using this⟩
theorem je.DK {ops:Array Oper} {es:List Nat} {tb:List (Nat × List Nat)} {T:List Nat} (h:je ops es tb T) {i:Nat} {o:Oper} {r:Nat} (hi:ops[i]?=some o) (hd:o.dst=some r):Fv.DK ops r=some i:=by
 cases hx:Fv.DK ops r with
 | none=>
  have:=List.find?_eq_none.1 hx i (List.mem_range.2 (Array.getElem?_eq_some_iff.1 hi).1)
  simp [hi,hd] at this
 | some j=>
  obtain ⟨oj,hj,hdj⟩:=jA hx
  rw [h.dst i o r j oj hi hj hd hdj]
section
variable {P:Program} {w0:World} {T0:Bs} {ops:Array Oper} {es:List Nat} {tb:List (Nat × List Nat)} {T:List Nat} [hG:mQ P w0 T0]
def fK (ops:Array Oper) (s0:S) (vs:List AV) (i r:Nat):AV:=match DK ops r with
 | some j=>if j<i then vs.getD j .dead else s0.get r
 | none=>s0.get r
theorem QS.congr {o:Oper} {n:Nat} {get get':Nat→AV} {h h':nD} {v:AV} (hq:QS P w0 T0 ops o n get h h' v) (he:∀ r,r∈o.looksAt ops→get' r=get r):QS P w0 T0 ops o n get' h h' v:=
 fun env hen=>hq env fun r hr=>(hen r hr).trans (he r hr)
structure nZ (P:Program) (w0:World) (T0:Bs) (ops:Array Oper) (es:List Nat) (s0:S) (i:Nat) (vs:List AV) (hs:List nD):Prop where
 quiet:∀ j o,j<i→ops[j]?=some o→es.elem j=false→∃ h,hs[gQ es j]?=some h∧QS P w0 T0 ops o s0.n (fK ops s0 vs j) h h (vs.getD j .dead)
 eff:∀ j o,j<i→ops[j]?=some o→es.elem j=true→∃ h h',hs[gQ es j]?=some h∧hs[gQ es j+1]?=some h'∧QS P w0 T0 ops o s0.n (fK ops s0 vs j) h h' (vs.getD j .dead)
 put:∀ j o d,j<i→ops[j]?=some o→o.dst=some d→d<s0.n
theorem gu {s0:S} {vs:List AV} {v:AV} {j:Nat} (h:j≤vs.length) (r:Nat):fK ops s0 (vs++[v]) j r=fK ops s0 vs j r:=by
 unfold fK
 split
 ·rename_i q _
  split
  ·rename_i hq
   simp only [List.getD_eq_getElem?_getD]
   rw [List.getElem?_append_left (by omega)]
  ·rfl
 ·rfl
theorem kV {vs:List AV} {v:AV} {j:Nat} (h:j<vs.length):(vs++[v]).getD j .dead=vs.getD j .dead:=by
 simp only [List.getD_eq_getElem?_getD]
 rw [List.getElem?_append_left h]
theorem fU {vs:List AV} {v:AV}:(vs++[v]).getD vs.length .dead=v:=by
 simp [List.getD_eq_getElem?_getD]
theorem xq (i:Nat):gQ es (i+1)=gQ es i+(bif es.elem i then 1 else 0):=by
 unfold gQ
 rw [List.range_succ,List.countP_append,List.countP_singleton]
 cases es.elem i<;>rfl
def lG (P:Program) (w0:World) (T0:Bs) (n:Nat) (x:Acc) (h:nD):Prop:=match x.g with
 | none=>Hf P w0 T0 x.o ⟨n,x.env,h.1,h.2⟩ x.v
 | some c=>Fv.below h.2 x.v=true∧(c=true→Hf P w0 T0 x.o ⟨n,x.env,h.1,h.2⟩ x.v)
theorem uG {n:Nat} {x:Acc} {hs:List nD}:∀ {l:List Nat},xu P w0 T0 n x hs l→∀ k,k∈l→∃ h,hs[k]?=some h∧lG P w0 T0 n x h
 | k'::l,h,k,hk=>by
  unfold xu at h
  rcases List.mem_cons.1 hk with rfl|hk
  ·cases hh:hs[k]? with
   | none=>rw [hh] at h;exact h.1.elim
   | some q=>rw [hh] at h;exact ⟨q,rfl,h.1⟩
  ·exact uG h.2 k hk
theorem E8 {n:Nat} {hs:List nD} (l:List Acc) (h:redo P w0 T0 n hs l) (x:Acc) (hx:x∈l) (k:Nat) (hk:k∈x.ks):∃ h,hs[k]?=some h∧lG P w0 T0 n x h:=by
 induction l with
 | nil=>cases hx
 | cons y l ih=>
  obtain ⟨h1,h2⟩:=(h:xu P w0 T0 n y hs y.ks∧redo P w0 T0 n hs l)
  rcases List.mem_cons.1 hx with rfl|hx
  ·exact uG h1 k hk
  ·exact ih h2 hx
theorem uy {ks:List Nat} {x y:Acc} {l:List Acc} (h:y∈l):y∈jm ks x l:=by
 unfold jm;split
 ·exact h
 ·exact .tail _ h
theorem qV {ks:List Nat} {x:Acc} {l:List Acc} {k:Nat} (h:k∈ks):x∈jm ks x l:=by
 unfold jm;split
 ·cases h
 ·exact .head _
def DI (P:Program) (w0:World) (T0:Bs) (ops:Array Oper) (es:List Nat) (tb:List (Nat × List Nat)) (s0:S) (i:Nat) (vs:List AV) (acc:List Acc):Prop:=
 ∀ j o,j<i→ops[j]?=some o→es.elem j=false→∀ k,k∈jE tb j →
  (∀ h,QS P w0 T0 ops o s0.n (fK ops s0 vs j) h h (vs.getD j .dead))∨∃ x,x∈acc∧x.ks=jE tb j∧∀ h,lG P w0 T0 s0.n x h→QS P w0 T0 ops o s0.n (fK ops s0 vs j) h h (vs.getD j .dead)
theorem D6 (hok:je ops es tb T) {s0 s:S} {i:Nat} {o:Oper} {vs:List AV} {hs hs':List nD} {v:AV} {Q:S→Prop} (hi:ops[i]?=some o) (hlen:vs.length=i) (hn:s.n=s0.n) (hget:∀ r,s.get r=fK ops s0 vs i r)
  (hd:nZ P w0 T0 ops es s0 i vs hs) (hlh:hs.length=gQ es i+1) (hpre:∀ (k:Nat) (h:nD),hs[k]?=some h→hs'[k]?=some h)
  (hq:es.elem i=false→∃ h,hs'[gQ es i]?=some h∧QS P w0 T0 ops o s0.n (fK ops s0 vs i) h h v)
  (he:es.elem i=true→∃ h h',hs'[gQ es i]?=some h∧hs'[gQ es i+1]?=some h'∧QS P w0 T0 ops o s0.n (fK ops s0 vs i) h h' v)
  (hput:dH o.dst v s Q):∃ s',Q s'∧s'.n=s0.n∧s'.rows=s.rows∧s'.next=s.next∧(∀ r,s'.get r=fK ops s0 (vs++[v]) (i+1) r)∧nZ P w0 T0 ops es s0 (i+1) (vs++[v]) hs':=by
 have hnew:∀ d,o.dst=some d→fK ops s0 (vs++[v]) (i+1) d=v:=by
  intro d hdd
  unfold fK
  rw [hok.DK hi hdd]
  simp only [Nat.lt_succ_self,if_true]
  rw [←hlen];exact fU
 have hold:∀ r,o.dst≠some r→fK ops s0 (vs++[v]) (i+1) r=s.get r:=by
  intro r hr
  rw [hget]
  unfold fK
  cases hx:DK ops r with
  | none=>rfl
  | some j=>
   dsimp only
   have hne:j≠i:=by
    rintro rfl
    obtain ⟨oj,hj,hdj⟩:=jA hx
    rw [hi] at hj;cases hj
    exact hr hdj
   by_cases hji:j<i
   ·rw [if_pos hji,if_pos (by omega),kV (by omega)]
   ·rw [if_neg hji,if_neg (by omega)]
 have hdone:(∀ d,o.dst=some d→d<s0.n)→nZ P w0 T0 ops es s0 (i+1) (vs++[v]) hs':=by
  intro hdn
  refine ⟨?_,?_,?_⟩
  ·intro j oj hj hoj hej
   by_cases e:j=i
   ·subst e
    rw [hi] at hoj;cases hoj
    obtain ⟨h,hh,hqs⟩:=hq hej
    refine ⟨h,hh,?_⟩
    rw [show (vs++[v]).getD j .dead=v from by rw [←hlen];exact fU]
    exact hqs.congr fun r _=>gu (by omega) r
   ·obtain ⟨h,hh,hqs⟩:=hd.quiet j oj (by omega) hoj hej
    refine ⟨h,hpre _ _ hh,?_⟩
    rw [kV (by omega)]
    exact hqs.congr fun r _=>gu (by omega) r
  ·intro j oj hj hoj hej
   by_cases e:j=i
   ·subst e
    rw [hi] at hoj;cases hoj
    obtain ⟨h,h',hh,hh',hqs⟩:=he hej
    refine ⟨h,h',hh,hh',?_⟩
    rw [show (vs++[v]).getD j .dead=v from by rw [←hlen];exact fU]
    exact hqs.congr fun r _=>gu (by omega) r
   ·obtain ⟨h,h',hh,hh',hqs⟩:=hd.eff j oj (by omega) hoj hej
    refine ⟨h,h',hpre _ _ hh,hpre _ _ hh',?_⟩
    rw [kV (by omega)]
    exact hqs.congr fun r _=>gu (by omega) r
  ·intro j oj d hj hoj hdj
   by_cases e:j=i
   ·subst e
    rw [hi] at hoj;cases hoj
    exact hdn d hdj
   ·exact hd.put j oj d (by omega) hoj hdj
 unfold dH at hput
 cases hdst:o.dst with
 | none=>
  rw [hdst] at hput
  exact ⟨s,hput,hn,rfl,rfl,fun r=>(hold r (by rw [hdst];simp)).symm,hdone fun d h=>by rw [hdst] at h;cases h⟩
 | some d=>
  rw [hdst] at hput
  dsimp only at hput
  split at hput
  ·rename_i hlt
   refine ⟨s.set d v,hput,hn,rfl,rfl,fun r=>?_,hdone fun d' h=>by rw [hdst] at h;cases h;rw [←hn];exact hlt⟩
   by_cases e:d=r
   ·subst e
    rw [hnew d hdst]
    simp [S.get,S.set,lk]
   ·rw [hold r (by rw [hdst];simpa using e)]
    simp [S.get,S.set,lk,e]
  ·exact hput.elim
end
end Go.Fv
/-
 Operations whose result is fixed by the state.
-/
namespace Go.Fv
open Go.RowKit
def dO (F:(AV→S→Prop)→Prop):Prop:=∀ K,F K→∃ v s',K v s'∧∀ K':AV→S→Prop,K' v s'→F K'
theorem dO.pure (v:AV) (s:S):dO (fun K=>K v s):=fun K h=>⟨v,s,h,fun _ h=>h⟩
theorem dO.no:dO (fun _=>False):=fun _ h=>h.elim
theorem dO.chk {p:Prop} {F:(AV→S→Prop)→Prop} (h:dO F):dO (fun K=>aN p (F K)):=fun K hk=>by
 obtain ⟨v,s,h1,h2⟩:=h K hk.2
 exact ⟨v,s,h1,fun K' hk'=>⟨hk.1,h2 K' hk'⟩⟩
theorem dO.Kw {k:IntKind} {e:Int} (s:S):dO (fun K=>dB k e (fun n=>K (.int k n) s)):=fun K h=>
 ⟨.int k (k.wrap e),s,h _ rfl (bf _ _),fun K' hk' n hn _=>by subst hn;exact hk'⟩
section
variable {P:Program} {w0:World} {T0:Bs} {s:S}
theorem IU (e:TypeId) (x:Operand):dO (xI e x s):=by
 intro K h
 unfold xI at h ⊢
 cases hb:dP (s.ev x) with
 | none=>rw [hb] at h;exact h.elim
 | some cs=>rw [hb] at h;exact (dO.pure _ _).chk K h
theorem EN (e:TypeId):dO (mG P e s):=by
 intro K h
 unfold mG at h ⊢
 cases hb:zeroOf P e with
 | none=>rw [hb] at h;exact h.elim
 | some z=>rw [hb] at h;exact (dO.pure _ _).chk K h
theorem ES (t:TypeId) (x v:Operand):dO (mO P t x v s):=by
 intro K h
 unfold mO at h ⊢
 cases hb:dP (s.ev v) with
 | none=>rw [hb] at h;exact h.elim
 | some cs=>
  rw [hb] at h
  refine (dO.chk ?_) K h
  intro K h
  cases hx:s.ev x<;>rw [hx] at h<;>try (exact h.elim)
  ·rename_i i off
   dsimp only at h ⊢
   cases hl:lk s.rows i with
   | none=>rw [hl] at h;exact h.elim
   | some it=>cases it with
    | row e r=>rw [hl] at h;exact h.elim
    | map _ _=>rw [hl] at h;exact h.elim
    | iter _ _ _=>rw [hl] at h;exact h.elim
    | siter _ _=>rw [hl] at h;exact h.elim
    | box e bs=>rw [hl] at h;exact (dO.pure _ _).chk K h
  ·rename_i i sz idx off
   dsimp only at h ⊢
   cases hl:lk s.rows i with
   | none=>rw [hl] at h;exact h.elim
   | some it=>cases it with
    | box e bs=>rw [hl] at h;exact h.elim
    | map _ _=>rw [hl] at h;exact h.elim
    | iter _ _ _=>rw [hl] at h;exact h.elim
    | siter _ _=>rw [hl] at h;exact h.elim
    | row e r=>
     rw [hl] at h
     refine (dO.chk ?_) K h
     intro K h
     cases hq:iF r idx off cs with
     | none=>rw [hq] at h;exact h.elim
     | some r'=>rw [hq] at h;exact (dO.pure _ _) K h
theorem Gy (t:TypeId) (l c:Operand):dO (qE P t l c s):=by
 intro K h
 unfold qE at h ⊢
 split at h
 ·rename_i e k n k2 n2 h1 h2 h3
  cases hz:zeroOf P e with
  | none=>rw [hz] at h;exact h.elim
  | some z=>rw [hz] at h;exact (dO.pure _ _).chk.chk K h
 ·exact h.elim
theorem um (t:TypeId) (len:Nat) (parts:Array (Nat × Operand)):dO (dS P t len parts s):=by
 intro K h
 unfold dS at h ⊢
 split at h
 ·rename_i e h1
  cases hz:zeroOf P e with
  | none=>rw [hz] at h;exact h.elim
  | some z=>
   rw [hz] at h
   refine (dO.chk (dO.chk ?_)) K h
   intro K h
   split at h
   ·rename_i r hr;exact dO.pure _ _ K h
   ·exact h.elim
 ·exact h.elim
theorem EO (t:TypeId) (parts:Array (Nat × Operand)):dO (kC P t parts s):=by
 intro K h
 unfold kC at h ⊢
 split at h
 ·rename_i d z h1 h2
  refine (dO.chk (dO.chk ?_)) K h
  intro K h
  split at h
  ·rename_i r hr;exact dO.pure _ _ K h
  ·exact h.elim
 ·exact h.elim
theorem yD (fn:Fn) (first caps:Array Operand):dO (dZ fn first caps s):=by
 intro K h
 unfold dZ at h ⊢
 split at h
 ·exact (dO.pure _ _).chk K h
 ·exact h.elim
theorem jV (t t2:TypeId) (x y:Operand):dO (fA P t t2 x y s):=by
 intro K h
 unfold fA at h ⊢
 split at h
 ·rename_i e i h1 h2
  split at h
  ·rename_i e' r h3
   split at h
   ·rename_i r2 h4
    split at h
    ·rename_i r3 h5
     split at h
     ·rename_i z h6
      exact (dO.pure _ _).chk.chk.chk K h
     ·exact h.elim
    ·exact h.elim
   ·exact h.elim
  ·exact h.elim
 ·exact h.elim
theorem Aa (t t2:TypeId) (x y:Operand):dO (iI P t t2 x y s):=by
 intro K h
 unfold iI at h ⊢
 split at h
 ·rename_i r
  split at h
  ·split at h
   ·split at h
    ·exact (jV t t2 _ y).chk K h
    ·exact h.elim
   ·exact h.elim
  ·split at h
   ·exact (jV t t2 _ y).chk K h
   ·exact h.elim
  ·exact jV t t2 _ y K h
 ·exact jV t t2 _ y K h
theorem IV (x:Operand):dO (vF x s):=by
 intro K h
 unfold vF at h ⊢
 split at h
 all_goals first|exact h.elim|(rename_i hx;exact dO.pure _ _ K h)
theorem Ad (x:Operand) (i:Nat):dO (fP x i s):=by
 intro K h
 unfold fP at h ⊢
 split at h
 ·rename_i l hx
  split at h
  ·rename_i v hv;exact dO.pure _ _ K h
  ·exact h.elim
 ·exact h.elim
theorem JF (op:UnOp) (x:Operand):dO (Dw op x s):=by
 intro K h
 unfold Dw at h ⊢
 cases hx:s.ev x<;>rw [hx] at h<;>try (exact h.elim)
 ·cases op<;>first|exact h.elim|exact dO.pure _ _ K h
 ·cases op<;>first|exact h.elim|exact dO.Kw _ K h
theorem Ac (a b:TypeId) (x:Operand):dO (lN P a b x s):=by
 intro K h
 unfold lN at h ⊢
 split at h
 ·rename_i d1 d2 h1 h2
  cases d2<;>try (exact h.elim)
  ·cases hx:s.ev x<;>rw [hx] at h<;>try (exact h.elim)
   exact dO.Kw _ K h
  ·cases hx:s.ev x<;>rw [hx] at h<;>try (exact h.elim)
   ·exact (dO.pure _ _).chk K h
   ·exact dO.pure _ _ K h
   ·rename_i r
    cases r<;>try (exact h.elim)
    rename_i k l
    cases k<;>try (exact h.elim)
    cases d1<;>try (exact h.elim)
    exact (dO.pure _ _).chk K h
   ·rename_i i
    dsimp only at h ⊢
    split at h
    ·rename_i l e h3 ; exact (dO.pure _ _).chk K h
    ·exact h.elim
 ·exact h.elim
theorem EP (a b:TypeId) (x:Operand):dO (mJ P a b x s):=by
 intro K h
 unfold mJ at h ⊢
 split at h
 ·split at h
  ·exact ((dO.pure _ _).chk) K h
  ·exact h.elim
 ·split at h
  ·rename_i k n hn
   obtain ⟨hs,h⟩:=h
   split at h
   ·rename_i hl
    obtain ⟨r,s',h1,h2⟩:=dO.pure _ _ K h
    exact ⟨r,s',h1,fun K' h'=>⟨hs,by rw [if_pos hl];exact h2 K' h'⟩⟩
   ·rename_i hl
    obtain ⟨r,s',h1,h2⟩:=dO.pure _ _ K h
    exact ⟨r,s',h1,fun K' h'=>⟨hs,by rw [if_neg hl];exact h2 K' h'⟩⟩
  ·exact Ac a b x K h
 ·exact Ac a b x K h
theorem Gz (m:Bool) (xs:List AV):dO (fun K=>Bq m xs (fun r=>K r s)):=by
 intro K h
 unfold Bq at h ⊢
 split at h
 ·exact (dO.pure _ s).chk K h
 ·exact (dO.pure _ s).chk K h
 ·exact h.elim
theorem Af (t:TypeId) (x:Operand):dO (nV P t x s):=by
 intro K h
 unfold nV at h ⊢
 split at h
 ·split at h
  ·rename_i e h1
   split at h
   ·rename_i z h2;exact (dO.pure _ _).chk K h
   ·exact h.elim
  ·exact h.elim
 ·exact (dO.pure _ _).chk K h
 ·rename_i h1 h2
  exact (dO.pure _ _).chk K h
theorem Ae (t:TypeId) (r:Option Operand):dO (jJ P t r s):=by
 intro K h
 cases r with
 | none=>exact dO.pure _ _ K h
 | some _=>exact h.elim
theorem CB (t:TypeId) (x k v:Operand):dO (jL P t x k v s):=by
 intro K h
 unfold jL at h ⊢
 cases ht:P.underlying t with
 | none=>rw [ht] at h;exact h.elim
 | some d=>
  rw [ht] at h
  cases d<;>try (exact h.elim)
  dsimp only at h ⊢
  cases hx:s.ev x<;>rw [hx] at h<;>try (exact h.elim)
  dsimp only at h ⊢
  split at h
  ·rename_i hi
   exact ((dO.pure _ _).chk.chk) K h
  ·exact h.elim
theorem Gx (ks vs:List AV) (k:AV) (z:Value) (i:Nat):dO (ED ks vs k z i s):=by
 intro K h
 unfold ED at h ⊢
 cases z<;>first|exact h.elim|exact ((dO.pure _ _).chk) K h
theorem Cm (t:TypeId) (x k:Operand):dO (jK P t x k s):=by
 intro K h
 unfold jK at h ⊢
 cases ht:P.underlying t with
 | none=>rw [ht] at h;exact h.elim
 | some d=>
  rw [ht] at h
  cases d<;>try (exact h.elim)
  rename_i kt et
  dsimp only at h ⊢
  cases hz:zeroOf P et with
  | none=>rw [hz] at h;exact h.elim
  | some z=>
   rw [hz] at h
   dsimp only at h ⊢
   cases hx:s.ev x<;>rw [hx] at h<;>try (exact h.elim)
   dsimp only at h ⊢
   split at h
   ·rename_i hi
    exact ((Gx _ _ _ z _).chk.chk) K h
   ·exact h.elim
theorem yC (x st v:Operand):dO (fO x st v s):=by
 intro K h
 unfold fO at h ⊢
 cases hx:s.ev x<;>rw [hx] at h<;>try (exact h.elim)
 dsimp only at h ⊢
 split at h
 ·rename_i hi
  split at h
  ·rename_i hs
   exact ((dO.pure _ _).chk.chk) K h
  ·exact h.elim
 ·exact h.elim
theorem ER (t:TypeId) (x:Operand):dO (mM P t x s):=by
 intro K h
 unfold mM at h ⊢
 cases ht:P.underlying t with
 | none=>rw [ht] at h;exact h.elim
 | some d=>
  rw [ht] at h
  cases d<;>try (exact h.elim)
  ·dsimp only at h ⊢
   cases hx:s.ev x<;>rw [hx] at h<;>try (exact h.elim)
   exact ((dO.pure _ _).chk) K h
  ·dsimp only at h ⊢
   cases hx:s.ev x<;>rw [hx] at h<;>try (exact h.elim)
   dsimp only at h ⊢
   split at h
   ·rename_i hi
    exact ((dO.pure _ _).chk) K h
   ·exact h.elim
theorem GH {o:Oper} (hl:tX o.op=true):dO (kK P w0 T0 o s):=by
 intro K h
 unfold kK at h ⊢
 cases ho:o.op<;>rw [ho] at h hl<;>try (cases hl;done)
 case move x=>exact Af _ _ K h
 case assign x=>exact Af _ _ K h
 case extract x i=>exact (Ad x i).chk K h
 case makeFunc fn first caps=>exact yD _ _ _ K h
 case box e x=>exact IU _ _ K h
 case alloc e=>exact EN _ K h
 case store t x v=>exact (ES t x v).chk K h
 case nilCheck x=>exact (IV x).chk K h
 case makeSlice t l c=>exact (Gy t l c).chk K h
 case unOp op t x=>exact (JF op x).chk K h
 case convert t t' x=>exact (EP t t' x).chk K h
 case buildSlice t len parts=>exact um _ _ _ K h
 case build t parts=>exact EO _ _ K h
 case makeMap t r=>exact Ae _ _ K h
 case mapUpdate t x k v=>exact CB _ _ _ _ K h
 case mapEntry t x k=>exact Cm _ _ _ K h
 case entryStore t x st v=>exact yC _ _ _ K h
 case range t x=>exact ER _ _ K h
 case call c=>
  obtain ⟨callee,args,argTypes⟩:=c
  dsimp only [tX] at hl
  dsimp only [iW] at h ⊢
  cases callee with
  | builtin b=>
   cases b<;>try (cases hl;done)
   case append=>
    dsimp only at h ⊢
    split at h
    ·rename_i x y t t2 h1 h2
     exact (Aa t t2 x y).chk K h
    ·exact h.elim
   case min=>exact (Gz false _).chk K h
   case max=>exact (Gz true _).chk K h
  | _=>cases hl
end
section
variable {P:Program} {w0:World} {T0:Bs} {ops:Array Oper} {es:List Nat} {tb:List (Nat × List Nat)} {T:List Nat} [hG:mQ P w0 T0]
structure pX (P:Program) (w0:World) (T0:Bs) (ops:Array Oper) (es:List Nat) (tb:List (Nat × List Nat)) (s0:S) (hs0:List nD) (Q:S→Prop) (vs:List AV) (hs:List nD) (s:S):Prop where
 q:Q s
 n:s.n=s0.n
 len:hs.length=gQ es ops.size+1
 last:hs[gQ es ops.size]?=some (s.rows,s.next)
 get:∀ r,s.get r=fK ops s0 vs ops.size r
 done:nZ P w0 T0 ops es s0 ops.size vs hs
 re:∀ (j:Nat) (o:Oper),ops[j]?=some o→es.elem j=false→∀ k,k∈jE tb j→∀ h,hs[k]?=some h→QS P w0 T0 ops o s0.n (fK ops s0 vs j) h h (vs.getD j .dead)
 pre:∀ (k:Nat) (h:nD),hs0[k]?=some h→hs[k]?=some h
theorem DI.step {s0:S} {i:Nat} {vs:List AV} {v:AV} {acc acc':List Acc} {o:Oper} (hre:DI P w0 T0 ops es tb s0 i vs acc) (hlen:vs.length=i) (hi:ops[i]?=some o) (hsub:∀ x,x∈acc→x∈acc')
  (hnew:es.elem i=false→∀ k,k∈jE tb i→(∀ h,QS P w0 T0 ops o s0.n (fK ops s0 vs i) h h v)∨∃ x,x∈acc'∧x.ks=jE tb i∧∀ h,lG P w0 T0 s0.n x h→QS P w0 T0 ops o s0.n (fK ops s0 vs i) h h v) :
  DI P w0 T0 ops es tb s0 (i+1) (vs++[v]) acc':=by
 intro j oj hj hoj hej k hk
 by_cases e:j=i
 ·subst e
  rw [hi] at hoj;cases hoj
  have hv:(vs++[v]).getD j .dead=v:=by rw [←hlen];exact fU
  rcases hnew hej k hk with h|⟨x,hx,hks,h⟩
  ·exact .inl fun h'=>by rw [hv];exact (h h').congr fun r _=>gu (by omega) r
  ·exact .inr ⟨x,hx,hks,fun h' hc=>by rw [hv];exact (h h' hc).congr fun r _=>gu (by omega) r⟩
 ·rcases hre j oj (by omega) hoj hej k hk with h|⟨x,hx,hks,h⟩
  ·exact .inl fun h'=>by rw [kV (by omega)];exact (h h').congr fun r _=>gu (by omega) r
  ·exact .inr ⟨x,hsub x hx,hks,fun h' hc=>by rw [kV (by omega)];exact (h h' hc).congr fun r _=>gu (by omega) r⟩
theorem Fq (hok:je ops es tb T) {s0:S}:∀ (l:List Oper) (i:Nat) (acc:List Acc) (hs:List nD) (s:S) (vs:List AV) (Q:S→Prop),ops.toList.drop i=l→i≤ops.size→vs.length=i→hs.length=gQ es i+1→hs[gQ es i]?=some (s.rows,s.next)→s.n=s0.n →
  (∀ r,s.get r=fK ops s0 vs i r)→nZ P w0 T0 ops es s0 i vs hs→DI P w0 T0 ops es tb s0 i vs acc→ig P w0 T0 ops es tb l i acc hs s Q→∃ vs' hs' sf,pX P w0 T0 ops es tb s0 hs Q vs' hs' sf:=by
 intro l
 induction l with
 | nil=>
  intro i acc hs s vs Q hdr hile hlen hhl hcur hn hget hd hre h
  have hi:i=ops.size:=by
   have:=List.drop_eq_nil_iff.1 hdr
   simp at this;omega
  subst hi
  obtain ⟨hredo,hq⟩:=h
  refine ⟨vs,hs,s,hq,hn,hhl,hcur,hget,hd,?_,fun _ _ h=>h⟩
  intro j o hj he k hk h hh
  rcases hre j o (Array.getElem?_eq_some_iff.1 hj).1 hj he k hk with h0|⟨x,hx,hks,h0⟩
  ·exact h0 h
  ·obtain ⟨h',hh',hc⟩:=E8 _ hredo x hx k (by rw [hks];exact hk)
   rw [hh] at hh';cases hh'
   rw [hn] at hc
   exact h0 h hc
 | cons o l ih=>
  intro i acc hs s vs Q hdr hile hlen hhl hcur hn hget hd hre h
  have hi:ops[i]?=some o:=by
   have h1:(ops.toList.drop i)[0]?=some o:=by rw [hdr];rfl
   rw [List.getElem?_drop] at h1
   simpa using h1
  have hilt:i<ops.size:=(Array.getElem?_eq_some_iff.1 hi).1
  have hdr':ops.toList.drop (i+1)=l:=by
   have:(ops.toList.drop i).drop 1=l:=by rw [hdr];rfl
   rwa [List.drop_drop] at this
  have hrd:=hok.reads i o hi
  have hgetQ:∀ {h h':nD} {v:AV},QS P w0 T0 ops o s.n s.get h h' v→QS P w0 T0 ops o s0.n (fK ops s0 vs i) h h' v:=by
   intro h h' v hq
   rw [←hn]
   exact hq.congr fun r _=>(hget r).symm
  have hown1:es.elem i=false→gQ es (i+1)=gQ es i:=fun e=>by rw [xq,e];rfl
  have hown2:es.elem i=true→gQ es (i+1)=gQ es i+1:=fun e=>by rw [xq,e];rfl
  -- a quiet operation
  have quiet:es.elem i=false→∀ (v:AV) (acc':List Acc),(∀ x,x∈acc→x∈acc')→QS P w0 T0 ops o s.n s.get (s.rows,s.next) (s.rows,s.next) v →
    (∀ k,k∈jE tb i→(∀ h,QS P w0 T0 ops o s.n s.get h h v)∨∃ x,x∈acc'∧x.ks=jE tb i∧∀ h,lG P w0 T0 s0.n x h→QS P w0 T0 ops o s.n s.get h h v) →
    dH o.dst v s (fun s'=>ig P w0 T0 ops es tb l (i+1) acc' hs s' Q)→∃ vs' hs' sf,pX P w0 T0 ops es tb s0 hs Q vs' hs' sf:=by
   intro he v acc' hsub hqs hnew hput
   obtain ⟨s',hk,hn',hr',hx',hg',hd'⟩:=D6 hok hi hlen hn hget hd hhl (fun _ _ h=>h) (fun _=>⟨_,hcur,hgetQ hqs⟩) (fun e=>by rw [he] at e;cases e) hput
   refine ih (i+1) acc' hs s' (vs++[v]) Q hdr' hilt (by simp [hlen]) (by rw [hown1 he];exact hhl) (by rw [hown1 he,hr',hx'];exact hcur) hn' hg' hd' ?_ hk
   refine hre.step hlen hi hsub fun _ k hk=>?_
   rcases hnew k hk with h0|⟨x,hx,hks,h0⟩
   ·exact .inl fun h=>hgetQ (h0 h)
   ·exact .inr ⟨x,hx,hks,fun h hc=>hgetQ (h0 h hc)⟩
  have eff:es.elem i=true→∀ (v:AV) (R:List (Nat × Item)) (N:Nat),QS P w0 T0 ops o s.n s.get (s.rows,s.next) (R,N) v →
    dH o.dst v { s with rows:=R,next:=N } (fun s'=>ig P w0 T0 ops es tb l (i+1) acc (hs++[(R,N)]) s' Q)→∃ vs' hs' sf,pX P w0 T0 ops es tb s0 hs Q vs' hs' sf:=by
   intro he v R N hqs hput
   have hpre:∀ (k:Nat) (h:nD),hs[k]?=some h→(hs++[(R,N)])[k]?=some h:=by
    intro k h hk
    rw [List.getElem?_append_left (List.getElem?_eq_some_iff.1 hk).1];exact hk
   have hlast:(hs++[(R,N)])[gQ es i+1]?=some (R,N):=by
    rw [←hhl];simp
   obtain ⟨s',hk,hn',hr',hx',hg',hd'⟩:=D6 (s:={ s with rows:=R,next:=N }) hok hi hlen hn hget hd hhl hpre (fun e=>by rw [he] at e;cases e) (fun _=>⟨_,_,hpre _ _ hcur,hlast,hgetQ hqs⟩) hput
   obtain ⟨vs',hs',sf,hend⟩:=ih (i+1) acc (hs++[(R,N)]) s' (vs++[v]) Q hdr' hilt (by simp [hlen]) (by rw [hown2 he];simp [hhl]) (by rw [hown2 he,hr',hx'];exact hlast) hn' hg' hd'
    (hre.step hlen hi (fun _ h=>h) fun e=>by rw [he] at e;cases e) hk
   exact ⟨vs',hs',sf,{ hend with pre:=fun k h hk=>hend.pre k h (hpre k h hk) }⟩
  unfold ig at h
  cases hg:gd ops s o with
  | none=>rw [hg] at h;exact h.elim
  | some g=>
   rw [hg] at h
   simp only [KP] at h
   rw [sW] at h
   cases he:es.elem i with
   | true=>
    rw [he] at h
    simp only [JZ] at h
    cases g with
    | none=>
     dsimp only at h
     have hx:∃ v R N,kK P w0 T0 o ⟨s.n,bY s (dL o.op),s.rows,s.next⟩ (fun r s'=>r=v∧s'.rows=R∧s'.next=N)∧dH o.dst v { s with rows:=R,next:=N } (fun s'=>ig P w0 T0 ops es tb l (i+1) acc (hs++[(R,N)]) s' Q):=by
      cases hl:tX o.op with
      | false=>
       rw [hl] at h
       obtain ⟨v,R,N,h1,h2,h3⟩:=h
       exact ⟨v,R,N,h1,fD h2 h3⟩
      | true=>
       rw [hl] at h
       obtain ⟨v,t,⟨h2,h3⟩,hall⟩:=GH hl _ h
       exact ⟨v,t.rows,t.next,hall _ ⟨rfl,rfl,rfl⟩,fD h2 h3⟩
     obtain ⟨v,R,N,hA,hB⟩:=hx
     exact eff he v R N (QS.plain (h:=(s.rows,s.next)) (h':=(R,N)) (rQ hg) (yM (h:=(s.rows,s.next)) hrd hA)) hB
    | some c=>
     dsimp only at h
     cases c with
     | true=>
      obtain ⟨v,R,N,⟨hpc,hA⟩,h2,h3⟩:=h.1 rfl
      exact eff he (.opt true v) R N (QS.guarded (h:=(s.rows,s.next)) (h':=(R,N)) hg (fun _=>yN (h:=(s.rows,s.next)) hrd hpc hA) (fun e=>by cases e)) (fD h2 h3)
     | false=>
      obtain ⟨h2,h3⟩:=h.2 rfl
      exact eff he (.opt false (.bool false)) s.rows s.next (QS.guarded (h:=(s.rows,s.next)) (h':=(s.rows,s.next)) hg (fun e=>by cases e) (fun _=>⟨rfl,rfl⟩)) (fD h2 h3)
   | false=>
    rw [he] at h
    simp only [JZ] at h
    have gen:∀ v,AL P w0 T0 o g s v→dH o.dst (Ag g v) s (fun s'=>ig P w0 T0 ops es tb l (i+1) (jm (jE tb i) ⟨o,g,qR g s (dL o.op),v,jE tb i⟩ acc) hs s' Q)→∃ vs' hs' sf,pX P w0 T0 ops es tb s0 hs Q vs' hs' sf:=by
     intro v hA hput
     cases g with
     | none=>
      refine quiet he v _ (fun x hx=>uy hx) (QS.plain (h:=(s.rows,s.next)) (h':=(s.rows,s.next)) (rQ hg) (yM (h:=(s.rows,s.next)) hrd hA)) ?_ hput
      intro k hk
      refine .inr ⟨_,qV hk,rfl,fun h hc=>QS.plain (h:=h) (h':=h) (rQ hg) (yM (h:=h) hrd ?_)⟩
      simp only [lG,Hf] at hc
      rw [←hn] at hc
      exact hc
     | some c=>
      refine quiet he (.opt c v) _ (fun x hx=>uy hx) (QS.guarded (h:=(s.rows,s.next)) (h':=(s.rows,s.next)) hg (fun e=>yN (h:=(s.rows,s.next)) hrd (hA.2 e).1 (hA.2 e).2) (fun _=>⟨rfl,hA.1⟩)) ?_ hput
      intro k hk
      refine .inr ⟨_,qV hk,rfl,fun h hc=>?_⟩
      simp only [lG,Hf] at hc
      rw [←hn] at hc
      exact QS.guarded (h:=h) (h':=h) hg (fun e=>yN (h:=h) hrd (hA.2 e).1 (hc.2 e)) (fun _=>⟨rfl,hc.1⟩)
    unfold JK at h
    cases hp:oJ ⟨s.n,bY s (dL o.op),s.rows,s.next⟩ o.op with
    | some pb=>
     obtain ⟨pre,b⟩:=pb
     rw [hp] at h
     cases g with
     | none=>
      obtain ⟨⟨h1,h2⟩,h3,h4⟩:=h
      have hall:∀ h:nD,QS P w0 T0 ops o s.n s.get h h (.bool b):=fun h=>QS.plain (rQ hg) (zT hrd hp h1 h2)
      exact quiet he _ acc (fun _ h=>h) (hall _) (fun _ _=>.inl hall) (fD h3 h4)
     | some c=>
      obtain ⟨h1,h3,h4⟩:=h
      have hall:∀ h:nD,QS P w0 T0 ops o s.n s.get h h (.opt c (.bool b)):=fun h=>QS.guarded hg (fun e=>zT hrd hp (h1 e).1 (h1 e).2) (fun _=>⟨rfl,rfl⟩)
      exact quiet he _ acc (fun _ h=>h) (hall _) (fun _ _=>.inl hall) (fD h3 h4)
    | none=>
     rw [hp] at h
     dsimp only at h
     cases hv:II P ⟨s.n,qR g s (dL o.op),s.rows,s.next⟩ o.op with
     | some v=>
      rw [hv] at h
      obtain ⟨h1,h3,h4⟩:=h
      exact gen v h1 (fD h3 h4)
     | none=>
      rw [hv] at h
      have call:(∃ v,AL P w0 T0 o g s v∧aN (jB o.dst s.n) (ig P w0 T0 ops es tb l (i+1) (jm (jE tb i) ⟨o,g,qR g s (dL o.op),v,jE tb i⟩ acc) hs (jc o.dst (Ag g v) s) Q))→∃ vs' hs' sf,pX P w0 T0 ops es tb s0 hs Q vs' hs' sf:=by
       rintro ⟨v,h1,h3,h4⟩
       exact gen v h1 (fD h3 h4)
      cases g with
      | some c=>exact call h
      | none=>
       cases hl:tX o.op with
       | false=>rw [hl] at h;exact call h
       | true=>
        rw [hl] at h
        obtain ⟨v,t,⟨⟨hr,hx⟩,h3,h4⟩,hall⟩:=GH hl _ h
        exact gen v (hall _ ⟨rfl,hr,hx⟩) (fD h3 h4)
end
section
variable {P:Program} {w0:World} {T0:Bs} {b0:Nat} {ops:Array Oper} {es:List Nat} {tb:List (Nat × List Nat)} {T:List Nat} {H:List (AV × Value)} [hG:mQ P w0 T0]
theorem DY {L:Array Bool} {i:Nat} (h:L.getD i true=false):L.getD i false=false:=by
 rcases Nat.lt_or_ge i L.size with h'|h'
 ·simpa [h'] using h
 ·simp [Array.getElem?_eq_none h']
theorem IJ {L:Array Bool} {i:Nat} (hi:i<L.size) (h:L.getD i false=false):L.getD i true=false:=by
 simpa [hi] using h
theorem Gp (m j:Nat):(Array.replicate m false).getD j false=false:=by
 rcases Nat.lt_or_ge j m with h|h
 ·simp [h]
 ·simp [Array.getElem?_eq_none,h]
def oP (L:Array Bool) (n:Nat):Nat:=(List.range n).countP fun j=>!L.getD j false
theorem xg {L:Array Bool} {i:Nat} (hs:i<L.size) (hi:L.getD i false=false):∀ n,oP (L.setIfInBounds i true) n+(if i<n then 1 else 0)=oP L n
 | 0=>by simp [oP]
 | n+1=>by
  have ih:=xg hs hi n
  unfold oP at *
  rw [List.range_succ,List.countP_append,List.countP_append,List.countP_singleton,List.countP_singleton]
  by_cases e:i=n
  ·subst e
   have h1:(L.setIfInBounds i true).getD i false=true:=by simp [hs]
   rw [h1,hi]
   simp at ih ⊢
   omega
  ·rw [getD_set_ne false e]
   by_cases h2:i<n
   ·rw [if_pos h2] at ih;rw [if_pos (show i<n+1 by omega)];omega
   ·rw [if_neg h2] at ih;rw [if_neg (show ¬i<n+1 by omega)];omega
theorem CP {L:Array Bool} {n:Nat} (h:oP L n=0):∀ i,i<n→L.getD i false=true:=by
 intro i hi
 unfold oP at h
 have:=List.countP_eq_zero.1 h i (List.mem_range.2 hi)
 simpa using this
def nY (ops:Array Oper) (s0:S) (vs:List AV) (L:Array Bool) (r:Nat):AV:=match DK ops r with
 | some j=>bif L.getD j false then vs.getD j .dead else s0.get r
 | none=>s0.get r
structure FI (w0:World) (T0:Bs) (H:List (AV × Value)) (ops:Array Oper) (es:List Nat) (s0:S) (vs:List AV) (hs:List nD) (L:Array Bool) (k:Nat) (env:List (Nat × AV)) (a:Act) (w:World):Prop where
 size:L.size=ops.size
 closed:∀ (i:Nat) (o:Oper),ops[i]?=some o→L.getD i false=true→∀ e,e∈o.after→Region.binds .any e=true→L.getD e.on false=true
 kle:k≤es.length
 es:∀ (q i:Nat),es[q]?=some i→(L.getD i false=true↔q<k)
 get:∀ r,S.get ⟨s0.n,env,[],0⟩ r=nY ops s0 vs L r
 rep:∃ h,hs[k]?=some h∧Rep w0 T0 H ⟨s0.n,env,h.1,h.2⟩ a w
theorem nI (hok:je ops es tb T) {L:Array Bool} (hsz:L.size=ops.size) (hc:∀ (i:Nat) (o:Oper),ops[i]?=some o→L.getD i false=true→∀ e,e∈o.after→Region.binds .any e=true→L.getD e.on false=true) :
  ∀ (i:Nat) (o:Oper),ops[i]?=some o→(∀ e,e∈o.after→Region.binds .any e=true→L.getD e.on false=true)→∀ q,q<ops.size→kQ T i q=true→L.getD q false=true:=by
 intro i
 induction i using Nat.strongRecOn with
 | _ i ih=>
  intro o hi hd q hq hb
  obtain ⟨e,he,hbd,hx⟩:=hok.anc i o hi q hq hb
  rcases hx with rfl|hx
  ·exact hd e he hbd
  ·have hlt:=hok.low i o hi e he hbd
   have hL:=hd e he hbd
   cases hoe:ops[e.on]? with
   | none=>
    have:=Array.getElem?_eq_none_iff.1 hoe
    have hi':=(Array.getElem?_eq_some_iff.1 hi).1
    omega
   | some oe=>exact ih e.on hlt oe hoe (hc e.on oe hoe hL) q hq hx
theorem IQ (hok:je ops es tb T) {s0 sf:S} {Q:S→Prop} {vs:List AV} {hs:List nD} {hs0:List nD} (hend:pX P w0 T0 ops es tb s0 hs0 Q vs hs sf) :
  ∀ (fuel:Nat) (L:Array Bool) (k:Nat) (env:List (Nat × AV)) (a:Act) (w:World),oP L ops.size=fuel→FI w0 T0 H ops es s0 vs hs L k env a w →
   wpAny P .any ops (fun e a' w'=>e=.normal∧∃ s',Q s'∧Rep w0 T0 H s' a' w') fuel L a w:=by
 have fin:∀ (L:Array Bool) (k:Nat) (env:List (Nat × AV)) (a:Act) (w:World),(∀ i,i<ops.size→L.getD i false=true)→FI w0 T0 H ops es s0 vs hs L k env a w→∃ s',Q s'∧Rep w0 T0 H s' a w:=by
  intro L k env a w hall inv
  have hk:k=es.length:=by
   rcases Nat.lt_or_ge k es.length with hlt|hge
   ·have h1:=inv.es k es[k] (List.getElem?_eq_getElem hlt)
    have h2:=hok.es1 k es[k] (List.getElem?_eq_getElem hlt)
    have:=h1.1 (hall _ h2.1)
    omega
   ·have:=inv.kle;omega
  obtain ⟨h,hh,m,hm⟩:=inv.rep
  have hl:=hend.last
  rw [hok.tot,←hk,hh] at hl
  cases hl
  refine ⟨sf,hend.q,m,?_⟩
  refine { size:=by rw [hend.n];exact hm.size,nodef:=hm.nodef,below:=hm.below,held:=hm.held,rows:=hm.rows,sep:=hm.sep,env:=?_ }
  intro r v hv
  have hg:S.get ⟨s0.n,env,[],0⟩ r=v:=by
   rw [inv.get r]
   have h1:=hend.get r
   have h2:sf.get r=v:=by simp [S.get,hv]
   rw [←h2,h1]
   unfold nY fK
   cases hx:DK ops r with
   | none=>rfl
   | some j=>
    obtain ⟨o,ho,_⟩:=jA hx
    have hlt:=(Array.getElem?_eq_some_iff.1 ho).1
    simp [hall j hlt,hlt]
  simp only [S.get] at hg
  cases hl:lk env r with
  | none=>rw [hl] at hg;simp only at hg;subst hg;exact .dead _
  | some v'=>rw [hl] at hg;simp only at hg;subst hg;exact hm.env r v' hl
 intro fuel
 induction fuel with
 | zero=>
  intro L k env a w hf inv
  have hall:=CP hf
  refine ⟨?_,rfl,fin L k env a w hall inv⟩
  apply List.eq_nil_iff_forall_not_mem.2
  intro j hj
  obtain ⟨h1,o,ho,_⟩:=mem_ready.1 hj
  have hlt:=(Array.getElem?_eq_some_iff.1 ho).1
  have h2:=hall j hlt
  rw [DY h1] at h2
  cases h2
 | succ fuel ih=>
  intro L k env a w hf inv
  refine ⟨?_,?_⟩
  ·intro hr
   refine ⟨rfl,fin L k env a w ?_ inv⟩
   intro i
   induction i using Nat.strongRecOn with
   | _ i ihi=>
    intro hi
    cases hL:L.getD i false with
    | true=>rfl
    | false=>
     exfalso
     obtain ⟨o,ho⟩:∃ o,ops[i]?=some o:=⟨ops[i],Array.getElem?_eq_getElem hi⟩
     have hmem:i∈Region.ready .any ops L:=mem_ready.2 ⟨IJ (by rw [inv.size];exact hi) hL,o,ho,fun e he hb=>ihi e.on (hok.low i o ho e he hb) (Nat.lt_trans (hok.low i o ho e he hb) hi)⟩
     rw [hr] at hmem;cases hmem
  ·intro i hi
   obtain ⟨hun,o,ho,hdep⟩:=mem_ready.1 hi
   have hlt:=(Array.getElem?_eq_some_iff.1 ho).1
   have hL:L.getD i false=false:=DY hun
   have hanc:=nI hok inv.size inv.closed i o ho hdep
   -- what the operation looks at
   have hagree:∀ r,r∈o.looksAt ops→S.get ⟨s0.n,env,[],0⟩ r=fK ops s0 vs i r:=by
    intro r hr
    rw [inv.get r]
    unfold nY fK
    cases hx:DK ops r with
    | none=>rfl
    | some j=>
     obtain ⟨oj,hj,hdj⟩:=jA hx
     have hjlt:=(Array.getElem?_eq_some_iff.1 hj).1
     rcases hok.look i o r j oj ho hj hdj hr with ⟨hb,hji⟩|⟨hb,hij,hb'⟩
     ·dsimp only
      rw [hanc j hjlt hb,if_pos hji];rfl
     ·have hLj:L.getD j false=false:=by
       cases hLj:L.getD j false with
       | false=>rfl
       | true=>
        have:=nI hok inv.size inv.closed j oj hj (inv.closed j oj hj hLj) i hlt hb'
        rw [hL] at this;cases this
      dsimp only
      rw [hLj,if_neg (by omega)];rfl
   -- one more is listed
   have next:∀ (k':Nat) (h':nD) (val:Value) (w':World),hs[k']?=some h'→k'≤es.length→(∀ (q j:Nat),es[q]?=some j→((L.setIfInBounds i true).getD j false=true↔q<k')) →
     Rep w0 T0 ((vs.getD i .dead,val)::H) ⟨s0.n,env,h'.1,h'.2⟩ a w' →
     wpAny P .any ops (fun e a' w'=>e=.normal∧∃ s',Q s'∧Rep w0 T0 H s' a' w') fuel (L.setIfInBounds i true) (a.put o.dst val) w':=by
    intro k' h' val w' hh' hk' hes' ⟨m',hm'⟩
    have hop:=xg (by rw [inv.size];exact hlt) hL ops.size
    rw [if_pos hlt] at hop
    have hclosed:∀ (j:Nat) (oj:Oper),ops[j]?=some oj→(L.setIfInBounds i true).getD j false=true→∀ e,e∈oj.after→Region.binds .any e=true→(L.setIfInBounds i true).getD e.on false=true:=by
     intro j oj hj hLj e he hb
     by_cases hij:i=j
     ·subst hij
      rw [ho] at hj;cases hj
      exact getD_set_true (hdep e he hb)
     ·rw [getD_set_ne false hij] at hLj
      exact getD_set_true (inv.closed j oj hj hLj e he hb)
    have hset:∀ r,o.dst≠some r→nY ops s0 vs (L.setIfInBounds i true) r=nY ops s0 vs L r:=by
     intro r hr
     unfold nY
     cases hx:DK ops r with
     | none=>rfl
     | some j=>
      dsimp only
      have hne:i≠j:=by
       rintro rfl
       obtain ⟨oj,hj,hdj⟩:=jA hx
       rw [ho] at hj;cases hj
       exact hr hdj
      rw [getD_set_ne false hne]
    cases hd:o.dst with
    | none=>
     refine ih _ k' env _ w' (by omega) { size:=by simpa using inv.size,closed:=hclosed,kle:=hk',es:=hes',get:=fun r=>?_,rep:=⟨h',hh',m',hm'.ku⟩ }
     rw [hset r (by rw [hd];simp)];exact inv.get r
    | some d=>
     have hdn:d<s0.n:=hend.done.put i o d hlt ho hd
     have hput:=hm'.ku.JJ (hm'.held _ (.head _)) (d:=d) hdn
     refine ih _ k' ((d,vs.getD i .dead)::env) _ w' (by omega) { size:=by simpa using inv.size,closed:=hclosed,kle:=hk',es:=hes',get:=fun r=>?_,rep:=⟨h',hh',m',hput⟩ }
     by_cases e:d=r
     ·subst e
      have hx:=hok.DK ho hd
      have hL1:(L.setIfInBounds i true).getD i false=true:=by
       have:i<L.size:=by rw [inv.size];exact hlt
       simp [this]
      unfold nY
      rw [hx]
      dsimp only
      rw [hL1]
      simp [S.get,lk]
     ·rw [hset r (by rw [hd];simpa using e),←inv.get r]
      simp [S.get,lk,e]
   obtain ⟨h,hh,hrep⟩:=inv.rep
   unfold wpOp
   rw [ho]
   dsimp only
   have wrap:∀ {A B:Prop} {b:Bool} {C:Prop},(if b=true then A else B)→(if b=true then A∨C else B):=by
    intro A B b C h
    cases b with
    | true=>simpa using Or.inl h
    | false=>simpa using h
   apply wrap
   cases he:es.elem i with
   | false=>
    have hes':∀ (q j:Nat),es[q]?=some j→((L.setIfInBounds i true).getD j false=true↔q<k):=by
     intro q j hq
     have hne:i≠j:=by
      rintro rfl
      have:es.elem i=true:=by simpa using List.mem_of_getElem? hq
      rw [he] at this;cases this
     rw [getD_set_ne false hne]
     exact inv.es q j hq
    have hqs:QS P w0 T0 ops o s0.n (fK ops s0 vs i) h h (vs.getD i .dead):=by
     rcases hok.heaps i o ho he k inv.kle with h0|h0|⟨k',e,hk',hke,hb⟩|⟨k',e,hk',hke,hb⟩
     ·obtain ⟨h2,hh2,hq⟩:=hend.done.quiet i o hlt ho he
      rw [←h0,hh] at hh2;cases hh2
      exact hq
     ·exact hend.re i o ho he k h0 h hh
     ·have h1:=hanc e (hok.es1 k' e hke).1 hb
      have:=(inv.es k' e hke).1 h1
      omega
     ·have h1:=(inv.es k' e hke).2 hk'
      cases hoe:ops[e]? with
      | none=>
       have h2:=Array.getElem?_eq_none_iff.1 hoe
       have h3:=(hok.es1 k' e hke).1
       omega
      | some oe=>
       have:=nI hok inv.size inv.closed e oe hoe (inv.closed e oe hoe h1) i hlt hb
       rw [hL] at this;cases this
    exact hqs env hagree H a w _ _ hrep fun val w' hr'=>next k h val w' hh inv.kle hes' hr'
   | true=>
    obtain ⟨q,hq⟩:=List.mem_iff_getElem?.1 (show i∈es by simpa using he)
    obtain ⟨_,hown⟩:=hok.es1 q i hq
    have hge:¬q<k:=fun hlt'=>by
     have:=(inv.es q i hq).2 hlt'
     rw [hL] at this;cases this
    have hqk:q=k:=by
     cases q with
     | zero=>omega
     | succ q=>
      have hqlt:q<es.length:=by
       have:=(List.getElem?_eq_some_iff.1 hq).1;omega
      have h1:=hok.es2 q es[q] i (List.getElem?_eq_getElem hqlt) hq
      have h2:=hanc es[q] (hok.es1 q _ (List.getElem?_eq_getElem hqlt)).1 h1
      have h3:=(inv.es q _ (List.getElem?_eq_getElem hqlt)).1 h2
      omega
    subst hqk
    obtain ⟨h1,h2,hh1,hh2,hqs⟩:=hend.done.eff i o hlt ho he
    rw [hown,hh] at hh1;cases hh1
    rw [hown] at hh2
    have hqlt:q<es.length:=(List.getElem?_eq_some_iff.1 hq).1
    have hes':∀ (q' j:Nat),es[q']?=some j→((L.setIfInBounds i true).getD j false=true↔q'<q+1):=by
     intro q' j hq'
     by_cases e:i=j
     ·subst e
      have h3:=(hok.es1 q' i hq').2
      have:i<L.size:=by rw [inv.size];exact hlt
      have h4:(L.setIfInBounds i true).getD i false=true:=by simp [this]
      rw [h4]
      constructor
      ·intro _;omega
      ·intro _;rfl
     ·rw [getD_set_ne false e]
      have h3:=(hok.es1 q' j hq').2
      have hne:q'≠q:=by
       rintro rfl
       rw [hq] at hq';cases hq';exact e rfl
      rw [inv.es q' j hq']
      omega
    exact hqs env hagree H a w _ _ hrep fun val w' hr'=>next (q+1) h2 val w' hh2 hqlt hes' hr'
theorem dW.lex {id:Nat} {s:S} {Q:S→Prop} (es:List Nat) (tb:List (Nat × List Nat)) (hm:P.follows .mixedOrders=true) (hok:Gw ops es tb (Ky ops)=true)
  (h:ig P w0 T0 ops es tb ops.toList 0 [] [(s.rows,s.next)] s Q):@dW P w0 T0 b0 id ops s ⟨Q⟩:=by
 intro H a w _ hr
 refine wp_region_any hm ?_
 have hr':Rep w0 T0 H s a { w with drawn:=w.drawn+1 }:=by
  obtain ⟨m,hm⟩:=hr
  exact ⟨m,hm.drawn⟩
 have ok:=je.of hok
 have hg0:∀ r,s.get r=fK ops s [] 0 r:=by
  intro r;unfold fK;split<;>simp
 obtain ⟨vs,hs,sf,hend⟩:=Fq ok ops.toList 0 [] [(s.rows,s.next)] s [] Q rfl (Nat.zero_le _) rfl rfl rfl rfl hg0
  ⟨fun j o h=>absurd h (by omega),fun j o h=>absurd h (by omega),fun j o d h=>absurd h (by omega)⟩ (fun j o h=>absurd h (by omega)) h
 have hL:∀ j,(Array.replicate ops.size false).getD j false=false:=fun j=>Gp _ j
 have hop:oP (Array.replicate ops.size false) ops.size=ops.size:=by
  unfold oP
  have:(List.range ops.size).countP (fun j=>!(Array.replicate ops.size false).getD j false)=(List.range ops.size).length:=by
   apply List.countP_eq_length.2
   intro j _
   rw [hL j];rfl
  rw [this,List.length_range]
 refine IQ ok hend ops.size (Array.replicate ops.size false) 0 s.env a _ hop ?_
 refine { size:=by simp,closed:=fun i o _ h=>(by rw [hL] at h;cases h),kle:=Nat.zero_le _,es:=fun q i _=>(by rw [hL];simp),get:=fun r=>?_,rep:=⟨_,hend.pre 0 _ rfl,hr'⟩ }
 unfold nY
 split
 ·rw [hL];rfl
 ·rfl
end
end Go.Fv
/-! Regions whose order is drawn, where operations that change the state may change places: a tree of these; the others are walked once, and shown again where the heap changes. -/
namespace Go.Fv
open Go.RowKit
def jM (ks:List Nat):List (Nat × Acc)→List (Nat × Acc)
 | []=>[]
 | x::l=>bif oC ks x.1 then x::jM ks l else jM ks l
def Ei (P:Program) (w0:World) (T0:Bs) (n:Nat) (o:Oper) (g:Option Bool) (env:List (Nat × AV)) (v:AV) (R:List (Nat × Item)) (N:Nat):Prop:=match g with
 | .none=>Hf P w0 T0 o ⟨n,env,R,N⟩ v
 | .some c=>Fv.below N v=true∧(c=true→Hf P w0 T0 o ⟨n,env,R,N⟩ v)
def AO (P:Program) (w0:World) (T0:Bs) (n:Nat) (R:List (Nat × Item)) (N:Nat):List (Nat × Acc)→Prop
 | []=>True
 |(_,⟨o,g,env,v,_⟩)::l=>Ei P w0 T0 n o g env v R N∧AO P w0 T0 n R N l
section
variable {P:Program} {w0:World} {T0:Bs} {b0:Nat} {ops:Array Oper} {T:List Nat} {H:List (AV × Value)} [hG:mQ P w0 T0]
def Cl (ops:Array Oper) (V:Array Bool):Prop:=∀ (i:Nat) (o:Oper),ops[i]?=some o→V.getD i false=true→∀ e,e∈o.after→Region.binds .any e=true→V.getD e.on false=true
def Dp (V:Array Bool) (o:Oper):Prop:=∀ e,e∈o.after→Region.binds .any e=true→V.getD e.on false=true
theorem rW {s0:S} {vs:List AV} {V:Array Bool} {i:Nat} {v:AV} (h:V.getD i false=false) (r:Nat):nY ops s0 (vs.set i v) V r=nY ops s0 vs V r:=by
 unfold nY
 split
 ·rename_i j _
  by_cases e:i=j
  ·subst e;rw [h];rfl
  ·simp [List.getD_eq_getElem?_getD,List.getElem?_set,e]
 ·rfl
structure Es (P:Program) (w0:World) (T0:Bs) (ops:Array Oper) (s0:S) (vs:List AV) (V:Array Bool) (Pd:List Nat) (acc:List (Nat × Acc)) (s:S):Prop where
 vsize:V.size=ops.size
 vlen:vs.length=ops.size
 cl:Cl ops V
 n:s.n=s0.n
 sget:∀ r,s.get r=nY ops s0 vs V r
 pd:∀ j,j∈Pd→V.getD j false=true∧∀ o,ops[j]?=some o→∃ U:Array Bool,U.size=ops.size∧Cl ops U∧(∀ i,U.getD i false=true→V.getD i false=true)∧Dp U o∧U.getD j false=false ∧
  QS P w0 T0 ops o s0.n (nY ops s0 vs U) (s.rows,s.next) (s.rows,s.next) (vs.getD j .dead) ∧
  ((∀ h,QS P w0 T0 ops o s0.n (nY ops s0 vs U) h h (vs.getD j .dead))∨∃ x,(j,x)∈acc∧∀ h,lG P w0 T0 s0.n x h→QS P w0 T0 ops o s0.n (nY ops s0 vs U) h h (vs.getD j .dead))
 put:∀ j o d,V.getD j false=true→ops[j]?=some o→o.dst=some d→d<s0.n
structure RInv (w0:World) (T0:Bs) (H:List (AV × Value)) (ops:Array Oper) (s0:S) (vs:List AV) (V:Array Bool) (Pd:List Nat) (s:S) (L:Array Bool) (env:List (Nat × AV)) (a:Act) (w:World):Prop where
 size:L.size=ops.size
 cl:Cl ops L
 sub:∀ i,L.getD i false=true→V.getD i false=true
 get:∀ r,S.get ⟨s0.n,env,[],0⟩ r=nY ops s0 vs L r
 rep:Rep w0 T0 H ⟨s0.n,env,s.rows,s.next⟩ a w
 pd:∀ i,V.getD i false=true→L.getD i false=false→i∈Pd
theorem Cl.set {V:Array Bool} {i:Nat} {o:Oper} (h:Cl ops V) (ho:ops[i]?=some o) (hd:Dp V o):Cl ops (V.setIfInBounds i true):=by
 intro j oj hj hLj e he hb
 by_cases hij:i=j
 ·subst hij
  rw [ho] at hj;cases hj
  exact getD_set_true (hd e he hb)
 ·rw [getD_set_ne false hij] at hLj
  exact getD_set_true (h j oj hj hLj e he hb)
theorem Ej (hok:je ops [] [] T) {s0:S} {vs:List AV} {V:Array Bool} {i:Nat} {o:Oper} {g:Nat→AV} (ho:ops[i]?=some o) (hs:V.size=ops.size) (hg:∀ r,g r=nY ops s0 vs V r) :
  ∀ r,(match o.dst with|some d=>if d=r then vs.getD i .dead else g r|none=>g r)=nY ops s0 vs (V.setIfInBounds i true) r:=by
 intro r
 have hilt:=(Array.getElem?_eq_some_iff.1 ho).1
 have hV:(V.setIfInBounds i true).getD i false=true:=by
  have:i<V.size:=by rw [hs];exact hilt
  simp [this]
 have old:o.dst≠some r→g r=nY ops s0 vs (V.setIfInBounds i true) r:=by
  intro hne
  rw [hg r]
  unfold nY
  cases hx:DK ops r with
  | none=>rfl
  | some j=>
   dsimp only
   have hij:i≠j:=by
    rintro rfl
    obtain ⟨oj,hj,hdj⟩:=jA hx
    rw [ho] at hj;cases hj
    exact hne hdj
   rw [getD_set_ne false hij]
 cases hd:o.dst with
 | none=>exact old (by rw [hd];simp)
 | some d=>
  dsimp only
  by_cases e:d=r
  ·subst e
   rw [if_pos rfl]
   unfold nY
   rw [hok.DK ho hd]
   dsimp only
   rw [hV];rfl
  ·rw [if_neg e]
   exact old (by rw [hd];simpa using e)
theorem zU {n d r:Nat} {v:AV} {env:List (Nat × AV)} {R:List (Nat × Item)} {N:Nat}:S.get ⟨n,(d,v)::env,R,N⟩ r=if d=r then v else S.get ⟨n,env,R,N⟩ r:=by
 by_cases e:d=r
 ·subst e;simp [S.get,lk]
 ·simp [S.get,lk,e]
theorem RInv.more (hok:je ops [] [] T) {s0:S} {vs:List AV} {L:Array Bool} {env:List (Nat × AV)} {a:Act} {w':World} {i:Nat} {o:Oper} {R:List (Nat × Item)} {N:Nat} {val:Value}
  (ho:ops[i]?=some o) (hs:L.size=ops.size) (hg:∀ r,S.get ⟨s0.n,env,[],0⟩ r=nY ops s0 vs L r) (hput:∀ d,o.dst=some d→d<s0.n)
  (hr:Rep w0 T0 ((vs.getD i .dead,val)::H) ⟨s0.n,env,R,N⟩ a w') :
  ∃ env',(∀ r,S.get ⟨s0.n,env',[],0⟩ r=nY ops s0 vs (L.setIfInBounds i true) r)∧Rep w0 T0 H ⟨s0.n,env',R,N⟩ (a.put o.dst val) w':=by
 obtain ⟨m',hm'⟩:=hr
 have hst:=Ej hok (s0:=s0) (vs:=vs) ho hs hg
 cases hd:o.dst with
 | none=>
  rw [hd] at hst
  exact ⟨env,hst,m',hm'.ku⟩
 | some d=>
  rw [hd] at hst
  have h2:=hm'.ku.JJ (hm'.held _ (.head _)) (d:=d) (hput d hd)
  exact ⟨(d,vs.getD i .dead)::env,fun r=>by rw [zU];exact hst r,m',h2⟩
end
end Go.Fv
