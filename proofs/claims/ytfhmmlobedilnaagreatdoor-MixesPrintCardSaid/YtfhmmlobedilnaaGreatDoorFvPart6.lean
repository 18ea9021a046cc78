/-
  A part of the proof of the claim: walks over the program's functions and the plain laws that these need. No condition of its own.
-/
import Derived.Test.YtfhmmlobedilnaaGreatDoorFvPart5
import Derived.Lib.OthersKept
import Derived.Lib.TrimU
import Derived.Lib.TrailingZeros
import Derived.Lib.ItoaNum
set_option linter.unusedSectionVars false
set_option linter.unusedVariables false
set_option linter.unusedSimpArgs false
set_option linter.unnecessarySimpa false
/-
 Maps: made, written, gone through.
-/
namespace Go.Fv
open Go.RowKit
open Go.ChangeMaps (setBlock)
def kY (ks:List AV) (k:AV):List AV:=match bV ks k with|some _=>ks|none=>ks++[k]
def yZ (ks vs:List AV) (k v:AV):List AV:=match bV ks k with|some j=>vs.set j v|none=>vs++[v]
def yu (ks:List AV) (k:AV):Nat:=match bV ks k with|some j=>j|none=>ks.length
def yw (ks vs:List AV) (k z:AV):List AV:=match bV ks k with|some _=>vs|none=>vs++[z]
def jW (P:Program) (t:TypeId) (r:Option Operand) (s:S) (K:AV→S→Prop):Prop:=
 match r with
 | none=>K (.own s.next) (s.add (.map [] []))
 | some _=>False
def jY (P:Program) (t:TypeId) (x k v:Operand) (s:S) (K:AV→S→Prop):Prop:=
 match P.underlying t with
 | some (.map kt et)=>match s.ev x with
  | .own i=>match lk s.rows i with
   | some (.map ks vs)=>aN (aj x∧aj k∧aj v) (aN (Maps.Keyed P kt∧oJ P kt (s.ev k)∧uK P kt ks) (K .dead (s.upd i (.map (kY ks (s.ev k)) (yZ ks vs (s.ev k) (s.ev v))))))
   | _=>False
  | _=>False
 | _=>False
def Gi (ks vs:List AV) (k:AV) (z:Value) (i:Nat) (s:S) (K:AV→S→Prop):Prop:=
 match z with
 | .bool b=>aN (b=false∧vs.all Nh=true) (K (.tup [.bool (tN ks vs k),.raw (.int .i64 (yu ks k))]) (s.upd i (.map (kY ks k) (yw ks vs k (.bool false)))))
 | .int q n=>aN (n=0∧vs.all (N7 q)=true) (K (.tup [.int q (zC ks vs k),.raw (.int .i64 (yu ks k))]) (s.upd i (.map (kY ks k) (yw ks vs k (.int q 0)))))
 | _=>False
def jX (P:Program) (t:TypeId) (x k:Operand) (s:S) (K:AV→S→Prop):Prop:=
 match P.underlying t with
 | some (.map kt et)=>match zeroOf P et with
  | some z=>match s.ev x with
   | .own i=>match lk s.rows i with
    | some (.map ks vs)=>aN (aj x∧aj k) (aN (aO P et z∧Maps.Keyed P kt∧oJ P kt (s.ev k)∧uK P kt ks) (Gi ks vs (s.ev k) z i s K))
    | _=>False
   | _=>False
  | none=>False
 | _=>False
def gJ (x st v:Operand) (s:S) (K:AV→S→Prop):Prop:=
 match s.ev x with
 | .own i=>match lk s.rows i with
  | some (.map ks vs)=>match s.ev st with
   | .raw (.int _ n)=>aN (aj x∧aj st∧aj v) (aN (0≤n∧n<vs.length) (K .dead (s.upd i (.map ks (vs.set n.toNat (s.ev v))))))
   | _=>False
  | _=>False
 | _=>False
def nS (P:Program) (t:TypeId) (x:Operand) (s:S) (K:AV→S→Prop):Prop:=
 match P.underlying t with
 | some (.map kt et)=>match s.ev x with
  | .own i=>match lk s.rows i with
   | some (.map ks vs)=>aN (aj x) (K (.ptr s.next 0) (s.add (.iter i ks.length [])))
   | _=>False
  | _=>False
 | some .string=>match s.ev x with
  | .str l=>aN (aj x) (K (.ptr s.next 0) (s.add (.siter l 0)))
  | _=>False
 | _=>False
def JA (l:List UInt8) (p:Nat):Int:=((Utf8.decode ⟨l.toArray⟩ p).1:Nat)
def EJ (l:List UInt8) (p:Nat):Nat:=(Utf8.decode ⟨l.toArray⟩ p).2
class OE where
 k:AV→S→Prop
def uM (ks vs:List AV) (i mp:Nat) (seen:List Nat) (s:S) [K:OE]:Prop:=
 (∀ j kx vx,j∉seen→ks[j]?=some kx→vs[j]?=some vx→K.k (.tup [.bool true,kx,vx]) (s.upd i (.iter mp ks.length (seen++[j]))))∧((∀ j,j<ks.length→j∈seen)→K.k (.tup [.bool false]) s)
@[congr] theorem JW {ks ks' vs vs':List AV} {i i' mp mp':Nat} {seen seen':List Nat} {s s':S} {K:OE} (h1:ks=ks') (h2:vs=vs') (h3:i=i') (h4:mp=mp') (h5:seen=seen') (h6:s=s'):@uM ks vs i mp seen s K=@uM ks' vs' i' mp' seen' s' K:=by rw [h1,h2,h3,h4,h5,h6]
theorem uM.intro {ks vs:List AV} {i mp:Nat} {seen:List Nat} {s:S} {K:AV→S→Prop} (h1:∀ j kx vx,j∉seen→ks[j]?=some kx→vs[j]?=some vx→K (.tup [.bool true,kx,vx]) (s.upd i (.iter mp ks.length (seen++[j]))))
  (h2:(∀ j,j<ks.length→j∈seen)→K (.tup [.bool false]) s):@uM ks vs i mp seen s ⟨K⟩:=⟨h1,h2⟩
def AB (x:Operand) (str:Bool) (s:S) (K:AV→S→Prop):Prop:=
 match str with
 | true=>match s.ev x with
  | .ptr i 0=>match lk s.rows i with
   | some (.siter l p)=>aN (aj x) (aN (l.length≤9223372036854775807) (@Ite (decide ((p:Int)<l.length)) ⟨K (.tup [.bool true,.int .i64 p,.int .i32 (JA l p)]) (s.upd i (.siter l (p+EJ l p)))⟩ ⟨K (.tup [.bool false]) s⟩))
   | _=>False
  | _=>False
 | false=>match s.ev x with
  | .ptr i 0=>match lk s.rows i with
   | some (.iter mp since seen)=>match lk s.rows mp with
    | some (.map ks vs)=>aN (aj x) (aN (since=ks.length) (@uM ks vs i mp seen s ⟨K⟩))
    | _=>False
   | _=>False
  | _=>False
class OB where
 k:AV→S→Prop
def Bf (ks vs:List AV) (j:Nat) (s:S) [K:OB]:Prop:=j<ks.length∧∀ kx vx,ks[j]?=some kx→vs[j]?=some vx→K.k (.tup [kx,vx]) s
@[congr] theorem Ll {ks ks' vs vs':List AV} {j j':Nat} {s s':S} {K:OB} (h1:ks=ks') (h2:vs=vs') (h3:j=j') (h4:s=s'):@Bf ks vs j s K=@Bf ks' vs' j' s' K:=by rw [h1,h2,h3,h4]
theorem Bf.intro {ks vs:List AV} {j:Nat} {s:S} {K:AV→S→Prop} {kx vx:AV} (h1:ks[j]?=some kx) (h2:vs[j]?=some vx) (hk:K (.tup [kx,vx]) s):@Bf ks vs j s ⟨K⟩:=
 ⟨(List.getElem?_eq_some_iff.1 h1).1,fun kx' vx' e1 e2=>by rw [h1] at e1;rw [h2] at e2;cases e1;cases e2;exact hk⟩
def uF (x:Operand) (s:S) (K:AV→S→Prop):Prop:=
 match s.ev x with
 | .ptr i 0=>match lk s.rows i with
  | some (.iter mp since seen)=>match seen.getLast? with
   | some j=>match lk s.rows mp with
    | some (.map ks vs)=>aN (aj x) (aN (since=ks.length) (@Bf ks vs j s ⟨K⟩))
    | _=>False
   | none=>False
  | _=>False
 | _=>False
section
variable {P:Program} {w0:World} {T0:Bs} {o:Oper} {s:S} {K:AV→S→Prop}
theorem oC {w:World} {g:Nat} {ob:Obj} (o':Obj) (h:w.heap[g]?=some ob):(setBlock w g o').heap[g]?=some o':=by
 have:=(Array.getElem?_eq_some_iff.1 h).1
 simp [setBlock,Array.getElem?_setIfInBounds,this]
theorem dK {w:World} {g b:Nat} (o':Obj) (h:b≠g):(setBlock w g o').heap[b]?=w.heap[b]?:=by
 simp [setBlock,Array.getElem?_setIfInBounds,Ne.symm h]
theorem aK.setBlock {w0 w:World} (h:aK (fun b=>T0.g b∧T0.a b) w0 w) {g:Nat} (hg:ownB T0 w0.heap.size g) (o':Obj):aK (fun b=>T0.g b∧T0.a b) w0 (setBlock w g o'):=
 h.step rfl rfl rfl (by simp [Go.ChangeMaps.setBlock]) fun k hk hk2=>dK o' (fun e=>by
  subst e
  rcases hg with hg|hg
  ·omega
  ·exact hk2 hg)
theorem uf {t:TypeId} {r:Option Operand} (ho:o.op=.makeMap t r) (h:jW P t r s K):aB P w0 T0 o s K:=by
 unfold jW at h
 cases r with
 | some _=>exact h.elim
 | none=>
  refine aB.mem fun H a w m hm=>?_
  have hnew:=hm.new (w':=w.alloc (.map #[] 0)) (hm.below.alloc _) (fun b hb=>Below.heap_alloc w _ b hb) (.map [] []) (.map (some w.heap.size)) (fun b hb=>by cases hb;exact Nat.le_refl _)
   (fun c hle hw=>⟨w.heap.size,#[],0,rfl,.inl hm.lt,.nil,.nil,fun i e he=>by simp at he,⟨rfl,by simp⟩,by rw [hw];exact heap_alloc_new w _⟩)
  refine ⟨_,_,_,_,_,h,.inl ?_,ig hnew rfl⟩
  unfold execOp;rw [ho]
  have:=run_makeMap (P:=P) t w
  simp [this]
theorem jR {H:List (AV × Value)} {a:Act} {w:World} {m:Nat→Value} (hm:aF w0 T0 H s a w m) {i:Nat} {ks vs:List AV} (hi:lk s.rows i=some (.map ks vs)) {g:Nat} {es:Array MapEntry} {clock:Nat} (hv:m i=.map (some g)) (hg:ownB T0 w0.heap.size g) (hh:w.heap[g]?=some (.map es clock))
  {ks' vs':List AV} {es':Array MapEntry} {clock':Nat} (h1:bI (ak T0 w0.heap.size m s w) ks' (es'.toList.map MapEntry.key)) (h2:bI (ak T0 w0.heap.size m s w) vs' (es'.toList.map MapEntry.val)) (h3:∀ (i:Nat) (e:MapEntry),es'[i]?=some e→e.born=i) (h4:zk es' clock') :
  aF w0 T0 H (s.upd i (.map ks' vs')) a (setBlock w g (.map es' clock')) m:=
 hm.upd (aK.setBlock hm.below hg _) hi (fun b hb hne=>dK _ (fun e=>hne (by rw [hv,e];rfl))) _ (fun c hle hw hmm hN=>⟨g,es',clock',hv,hg,h1.mono hle,h2.mono hle,h3,h4,by rw [hw];exact oC _ hh⟩)
theorem map_push {c:Ctx} {ks vs:List AV} {es:Array MapEntry} {clock:Nat} {k v:AV} {kv vv:Value} (h1:bI c ks (es.toList.map MapEntry.key)) (h2:bI c vs (es.toList.map MapEntry.val)) (h3:∀ (i:Nat) (e:MapEntry),es[i]?=some e→e.born=i) (h4:zk es clock)
  (hk:Rv c k kv) (hv:Rv c v vv) (hno:∀ e∈es.toList,e.key≠kv) :
  bI c (ks++[k]) ((es.push ⟨kv,vv,clock⟩).toList.map MapEntry.key)∧bI c (vs++[v]) ((es.push ⟨kv,vv,clock⟩).toList.map MapEntry.val)∧(∀ (i:Nat) (e:MapEntry),(es.push ⟨kv,vv,clock⟩)[i]?=some e→e.born=i)∧zk (es.push ⟨kv,vv,clock⟩) (clock+1):=by
 obtain ⟨rfl,hn⟩:=h4
 refine ⟨?_,?_,?_,by simp [Array.size_push],?_⟩
 ·simp only [Array.toList_push,List.map_append,List.map_cons,List.map_nil]
  exact h1.append (.cons _ _ _ _ hk .nil)
 ·simp only [Array.toList_push,List.map_append,List.map_cons,List.map_nil]
  exact h2.append (.cons _ _ _ _ hv .nil)
 ·intro i e he
  rw [Array.getElem?_push] at he
  split at he
  ·rename_i e1;cases he;exact e1.symm
  ·exact h3 i e he
 ·simp only [Array.toList_push,List.map_append,List.map_cons,List.map_nil]
  refine List.nodup_append.2 ⟨hn,by simp,fun a ha b hb=>?_⟩
  simp only [List.mem_singleton] at hb
  subst hb
  obtain ⟨x,hx,rfl⟩:=List.mem_map.1 ha
  exact hno x hx
theorem vX {c:Ctx} {ks vs:List AV} {es:Array MapEntry} {clock:Nat} {j:Nat} {v:AV} {vv:Value} (f:MapEntry→MapEntry) (h1:bI c ks (es.toList.map MapEntry.key)) (h2:bI c vs (es.toList.map MapEntry.val)) (h3:∀ (i:Nat) (e:MapEntry),es[i]?=some e→e.born=i) (h4:zk es clock)
  (hb:∀ e,(f e).born=e.born) (hk:∀ e,es[j]?=some e→(f e).key=e.key) (hf:∀ e,(f e).val=vv) (hv:Rv c v vv) :
  bI c ks ((es.modify j f).toList.map MapEntry.key)∧bI c (vs.set j v) ((es.modify j f).toList.map MapEntry.val)∧(∀ (i:Nat) (e:MapEntry),(es.modify j f)[i]?=some e→e.born=i)∧zk (es.modify j f) clock:=by
 have hkeys:=MapKept.modify_keys (es:=es) j f hk
 refine ⟨by rw [hkeys];exact h1,?_,?_,by rw [Array.size_modify];exact h4.1,by rw [hkeys];exact h4.2⟩
 ·have e:(es.modify j f).toList.map MapEntry.val=(es.toList.map MapEntry.val).set j vv:=by
   apply List.ext_getElem?
   intro i
   simp only [List.getElem?_map,Array.getElem?_toList,Array.getElem?_modify,List.getElem?_set,List.length_map,Array.length_toList]
   by_cases hij:j=i
   ·subst hij
    by_cases hlt:j<es.size
    ·simp [hlt,hf]
    ·simp [hlt,Array.getElem?_eq_none (Nat.le_of_not_lt hlt)]
   ·simp [hij]
  rw [e]
  exact h2.set j hv
 ·intro i e he
  rw [Array.getElem?_modify] at he
  split at he
  ·rename_i e1;subst e1
   simp only [Option.map_eq_some_iff] at he
   obtain ⟨e',he',rfl⟩:=he
   rw [hb];exact h3 _ e' he'
  ·exact h3 i e he
theorem wW {t:TypeId} {x k v:Operand} (ho:o.op=.mapUpdate t x k v) (h:jY P t x k v s K):aB P w0 T0 o s K:=by
 unfold jY at h
 cases ht:P.underlying t with
 | none=>rw [ht] at h;exact h.elim
 | some d=>
  rw [ht] at h
  cases d with
  | map kt et=>
   dsimp only at h
   refine aB.mem fun H a w m hm=>?_
   cases hx:s.ev x with
   | own i=>
    rw [hx] at h
    dsimp only at h
    cases hi:lk s.rows i with
    | none=>rw [hi] at h;exact h.elim
    | some it=>
     rw [hi] at h
     cases it with
     | map ks vs=>
      obtain ⟨⟨hox,hok,hov⟩,⟨hK,hkt,hks⟩,hk⟩:=h
      have rx:=hm.ev x hox
      have rk:=hm.ev k hok
      have rv:=hm.ev v hov
      rw [hx] at rx
      obtain ⟨g,es,clock,hv,hg,h1,h2,h3,h4,hh⟩:=(hm.rows i _ hi).2
      have hvx:a.eval x=.map (some g):=by
       generalize a.eval x=vx at rx
       cases rx with|own _ _ _=>exact hv
      obtain ⟨hvk,hwf⟩:=eH _ hkt.1 rk
      obtain ⟨lx,hlx⟩:=hkt.2 hwf
      rw [←hvk] at hlx
      have hck:(Instr.checkKey false 10000 kt (a.eval k)).run P w=.ok () w:=hK.check w false hlx
      have hst:=hK.stays w hlx
      have hget:(getObj g).run P w=.ok (.map es clock) w:=MapKept.run_getObj_map hh
      have hset:∀ o',(setObj g o').run P w=.ok () (setBlock w g o'):=fun o'=>MapKept.run_setObj_map o' hh
      rcases pR w hK hks hkt h1 rk h4.2 with ⟨e1,e2,e3⟩|⟨j,e,e1,e2,e3,e4⟩
      ·obtain ⟨q1,q2,q3,q4⟩:=map_push h1 h2 h3 h4 rk rv e3
       have hrep:=jR hm hi hv hg hh q1 q2 q3 q4
       refine ⟨.dead,undef,_,_,_,?_,.inr ⟨?_,rfl⟩,hrep.hold (.dead _)⟩
       ·simpa only [kY,yZ,e1] using hk
       ·unfold execOp;rw [ho]
        simp [Instr.mapUpdate,run_underlying ht,hvx,Sem.run_bind,Result.andThen,hget,hck,e2,hset]
      ·obtain ⟨q1,q2,q3,q4⟩:=vX (j:=j) (fun e=>{ e with key:=a.eval k,val:=a.eval v }) h1 h2 h3 h4 (fun _=>rfl) (fun e' he'=>by rw [e2] at he';cases he';exact e3.symm) (fun _=>rfl) rv
       have hrep:=jR hm hi hv hg hh q1 q2 q3 q4
       refine ⟨.dead,undef,_,_,_,?_,.inr ⟨?_,rfl⟩,hrep.hold (.dead _)⟩
       ·simpa only [kY,yZ,e1] using hk
       ·unfold execOp;rw [ho]
        simp [Instr.mapUpdate,run_underlying ht,hvx,Sem.run_bind,Result.andThen,hget,hck,e4,hset,e2,e3,hst]
     | _=>exact h.elim
   | _=>rw [hx] at h;exact h.elim
  | _=>exact h.elim
theorem wV {t:TypeId} {x k:Operand} (ho:o.op=.mapEntry t x k) (h:jX P t x k s K):aB P w0 T0 o s K:=by
 unfold jX at h
 cases ht:P.underlying t with
 | none=>rw [ht] at h;exact h.elim
 | some d=>
  rw [ht] at h
  cases d with
  | map kt et=>
   dsimp only at h
   cases hz:zeroOf P et with
   | none=>rw [hz] at h;exact h.elim
   | some z=>
   rw [hz] at h
   dsimp only at h
   refine aB.mem fun H a w m hm=>?_
   cases hx:s.ev x with
   | own i=>
    rw [hx] at h
    dsimp only at h
    cases hi:lk s.rows i with
    | none=>rw [hi] at h;exact h.elim
    | some it=>
     rw [hi] at h
     cases it with
     | map ks vs=>
      obtain ⟨⟨hox,hok⟩,⟨hez,hK,hkt,hks⟩,hk⟩:=h
      obtain ⟨inf,hinf,hiz,his,hib⟩:=hez.ex
      have hzr:(zeroValue et).run P w=.ok z w:=by simp [zeroValue,typeInfo,hinf,hiz]
      have rx:=hm.ev x hox
      have rk:=hm.ev k hok
      rw [hx] at rx
      obtain ⟨g,es,clock,hv,hg,h1,h2,h3,h4,hh⟩:=(hm.rows i _ hi).2
      have hvx:a.eval x=.map (some g):=by
       generalize a.eval x=vx at rx
       cases rx with|own _ _ _=>exact hv
      obtain ⟨hvk,hwf⟩:=eH _ hkt.1 rk
      obtain ⟨lx,hlx⟩:=hkt.2 hwf
      rw [←hvk] at hlx
      have hck:(Instr.checkKey false 10000 kt (a.eval k)).run P w=.ok () w:=hK.check w false hlx
      have hst:=hK.stays w hlx
      have hget:(getObj g).run P w=.ok (.map es clock) w:=MapKept.run_getObj_map hh
      have hset:∀ o',(setObj g o').run P w=.ok () (setBlock w g o'):=fun o'=>MapKept.run_setObj_map o' hh
      have hlen:ks.length=es.size:=by have:=h1.length;simpa using this.symm
      rcases pR w hK hks hkt h1 rk h4.2 with ⟨e1,e2,e3⟩|⟨j,e,e1,e2,e3,e4⟩
      ·have key:∀ y:AV,Rv (ak T0 w0.heap.size m s w) y z→K (.tup [y,.raw (.int .i64 (yu ks (s.ev k)))]) (s.upd i (.map (kY ks (s.ev k)) (yw ks vs (s.ev k) y))) →
         ∃ r v s' w' m',K r s'∧((execOp a.eval o).run P w=.ok (.value v) w'∨((execOp a.eval o).run P w=.ok .skip w'∧v=undef))∧aF w0 T0 ((r,v)::H) s' a w' m':=by
        intro y hy hk
        obtain ⟨q1,q2,q3,q4⟩:=map_push h1 h2 h3 h4 rk hy e3
        have hrep:=jR hm hi hv hg hh q1 q2 q3 q4
        have hc:clock=es.size:=h4.1
        refine ⟨_,.tuple #[z,.int .i64 (clock:Nat)],_,setBlock w g (.map (es.push ⟨a.eval k,z,clock⟩) (clock+1)),m,hk,.inl ?_,?_⟩
        ·unfold execOp;rw [ho]
         simp [Instr.mapEntry,run_underlying ht,hvx,Sem.run_bind,Result.andThen,hget,hck,e2,hset,hzr,goInt]
        ·simp only [kY,yw,e1,yu,hlen,←hc]
         have hle:bK (ak T0 w0.heap.size m s w) (ak T0 w0.heap.size m (s.upd i (.map (ks++[s.ev k]) (vs++[y]))) (setBlock w g (.map (es.push ⟨a.eval k,z,clock⟩) (clock+1)))):=by
          refine fK (Nat.le_refl _) (fun _ _=>rfl) (fun b hb hno=>dK _ (fun e=>hno i _ hi (by rw [hv,e];rfl))) ?_
          intro i' it' b hi' hb _
          have hi'':lk (put s.rows i (.map (ks++[s.ev k]) (vs++[y]))) i'=some it':=hi'
          rw [vV] at hi''
          split at hi''
          ·rename_i e;subst e;exact ⟨_,_,hi,hb⟩
          ·exact ⟨_,_,hi'',hb⟩
         exact hrep.hold (.tup _ [z,.int .i64 (clock:Nat)] (.cons _ _ _ _ (hy.mono hle) (.cons _ _ _ _ (.raw _) .nil)))
       unfold Gi at hk
       split at hk
       ·obtain ⟨⟨rfl,hall⟩,hk⟩:=hk
        refine key _ (.bool false) ?_
        simpa only [tN,kJ,e1,Option.bind_none] using hk
       ·obtain ⟨⟨rfl,hall⟩,hk⟩:=hk
        refine key _ (.int _ 0 (Bd _)) ?_
        simpa only [zC,kJ,e1,Option.bind_none] using hk
       ·exact hk.elim
      ·obtain ⟨y,hy,hyv⟩:=h2.get' (i:=j) (v:=e.val) (by simp [e2])
       have hmem:y∈vs:=List.mem_of_getElem? hy
       have key:K (.tup [y,.raw (.int .i64 (yu ks (s.ev k)))]) (s.upd i (.map ks vs)) →
         ∃ r v s' w' m',K r s'∧((execOp a.eval o).run P w=.ok (.value v) w'∨((execOp a.eval o).run P w=.ok .skip w'∧v=undef))∧aF w0 T0 ((r,v)::H) s' a w' m':=by
        intro hk
        have hkeys:=MapKept.modify_keys (es:=es) j (fun e=>{ e with key:=a.eval k }) (fun e' he'=>by rw [e2] at he';cases he';exact e3.symm)
        have hvals:(es.modify j fun e=>{ e with key:=a.eval k }).toList.map MapEntry.val=es.toList.map MapEntry.val:=by
         apply List.ext_getElem?
         intro i
         simp only [List.getElem?_map,Array.getElem?_toList,Array.getElem?_modify]
         by_cases hij:j=i
         ·subst hij;cases es[j]?<;>simp
         ·simp [hij]
        have hrep:=jR hm hi hv hg hh (es':=es.modify j fun e=>{ e with key:=a.eval k }) (clock':=clock) (by rw [hkeys];exact h1) (by rw [hvals];exact h2) (by
         intro i e he
         rw [Array.getElem?_modify] at he
         split at he
         ·rename_i e1;subst e1
          simp only [Option.map_eq_some_iff] at he
          obtain ⟨e',he',rfl⟩:=he
          exact h3 _ e' he'
         ·exact h3 i e he) ⟨by rw [Array.size_modify];exact h4.1,by rw [hkeys];exact h4.2⟩
        refine ⟨_,.tuple #[e.val,.int .i64 (j:Nat)],_,setBlock w g (.map (es.modify j fun e=>{ e with key:=a.eval k }) clock),m,hk,.inl ?_,?_⟩
        ·unfold execOp;rw [ho]
         have hbj:e.born=j:=h3 j e e2
         simp [Instr.mapEntry,run_underlying ht,hvx,Sem.run_bind,Result.andThen,hget,hck,e4,hset,e2,e3,hst,goInt,hbj]
        ·simp only [yu,e1]
         have hle:bK (ak T0 w0.heap.size m s w) (ak T0 w0.heap.size m (s.upd i (.map ks vs)) (setBlock w g (.map (es.modify j fun e=>{ e with key:=a.eval k }) clock))):=by
          refine fK (Nat.le_refl _) (fun _ _=>rfl) (fun b hb hno=>dK _ (fun e=>hno i _ hi (by rw [hv,e];rfl))) ?_
          intro i' it' b hi' hb _
          have hi'':lk (put s.rows i (.map ks vs)) i'=some it':=hi'
          rw [vV] at hi''
          split at hi''
          ·rename_i e;subst e;exact ⟨_,_,hi,hb⟩
          ·exact ⟨_,_,hi'',hb⟩
         exact hrep.hold (.tup _ [e.val,.int .i64 (j:Nat)] (.cons _ _ _ _ (hyv.mono hle) (.cons _ _ _ _ (.raw _) .nil)))
       unfold Gi at hk
       split at hk
       ·obtain ⟨⟨rfl,hall⟩,hk⟩:=hk
        have:=List.all_eq_true.1 hall y hmem
        cases y<;>simp [Nh] at this
        refine key ?_
        simpa only [kY,yw,tN,kJ,e1,Option.bind_some,hy] using hk
       ·obtain ⟨⟨rfl,hall⟩,hk⟩:=hk
        have:=List.all_eq_true.1 hall y hmem
        cases y<;>simp [N7] at this
        subst this
        refine key ?_
        simpa only [kY,yw,zC,kJ,e1,Option.bind_some,hy] using hk
       ·exact hk.elim
     | _=>exact h.elim
   | _=>rw [hx] at h;exact h.elim
  | _=>exact h.elim
theorem rX {t:TypeId} {x st v:Operand} (ho:o.op=.entryStore t x st v) (h:gJ x st v s K):aB P w0 T0 o s K:=by
 unfold gJ at h
 refine aB.mem fun H a w m hm=>?_
 cases hx:s.ev x with
 | own i=>
  rw [hx] at h
  dsimp only at h
  cases hi:lk s.rows i with
  | none=>rw [hi] at h;exact h.elim
  | some it=>
   rw [hi] at h
   cases it with
   | map ks vs=>
    dsimp only at h
    split at h
    ·rename_i q n hst
     obtain ⟨⟨hox,hos,hov⟩,⟨h0,hlt⟩,hk⟩:=h
     have rx:=hm.ev x hox
     have rs:=hm.ev st hos
     have rv:=hm.ev v hov
     rw [hx] at rx
     rw [hst] at rs
     obtain ⟨g,es,clock,hv,hg,h1,h2,h3,h4,hh⟩:=(hm.rows i _ hi).2
     have hvx:a.eval x=.map (some g):=by
      generalize a.eval x=vx at rx
      cases rx with|own _ _ _=>exact hv
     have hvs:a.eval st=.int q n:=by
      generalize a.eval st=vx at rs
      cases rs;rfl
     have hget:(getObj g).run P w=.ok (.map es clock) w:=MapKept.run_getObj_map hh
     have hset:∀ o',(setObj g o').run P w=.ok () (setBlock w g o'):=fun o'=>MapKept.run_setObj_map o' hh
     have hlen:vs.length=es.size:=by have:=h2.length;simpa using this.symm
     obtain ⟨q1,q2,q3,q4⟩:=vX (j:=n.toNat) (fun e=>{ e with val:=a.eval v }) h1 h2 h3 h4 (fun _=>rfl) (fun _ _=>rfl) (fun _=>rfl) rv
     have hrep:=jR hm hi hv hg hh q1 q2 q3 q4
     refine ⟨.dead,undef,_,_,_,hk,.inr ⟨?_,rfl⟩,hrep.hold (.dead _)⟩
     have hfi:es.findIdx? (fun e=>(e.born:Int) == n)=some n.toNat:=by
      rw [Array.findIdx?_eq_some_iff_getElem]
      refine ⟨by omega,?_,fun j hj=>?_⟩
      ·have:=h3 n.toNat _ (Array.getElem?_eq_getElem (by omega:n.toNat<es.size))
       simp only [this,beq_iff_eq];omega
      ·have hj':j<es.size:=by omega
       have:=h3 j _ (Array.getElem?_eq_getElem hj')
       simp only [this,beq_iff_eq,Bool.not_eq_true]
       simp;omega
     unfold execOp;rw [ho]
     simp [Instr.entryStore,hvx,hvs,asInt,asIntOf,Sem.run_bind,Result.andThen,hget,hfi,hset]
    ·exact h.elim
   | _=>exact h.elim
 | _=>rw [hx] at h;exact h.elim
theorem x9 {t:TypeId} {x:Operand} (ho:o.op=.range t x) (h:nS P t x s K):aB P w0 T0 o s K:=by
 unfold nS at h
 cases ht:P.underlying t with
 | none=>rw [ht] at h;exact h.elim
 | some d=>
  rw [ht] at h
  cases d with
  | map kt et=>
   dsimp only at h
   refine aB.mem fun H a w m hm=>?_
   cases hx:s.ev x with
   | own i=>
    rw [hx] at h
    dsimp only at h
    cases hi:lk s.rows i with
    | none=>rw [hi] at h;exact h.elim
    | some it=>
     rw [hi] at h
     cases it with
     | map ks vs=>
      obtain ⟨hox,hk⟩:=h
      have rx:=hm.ev x hox
      rw [hx] at rx
      obtain ⟨hin,g,es,clock,hv,hg,h1,h2,h3,h4,hh⟩:=hm.rows i _ hi
      have hvx:a.eval x=.map (some g):=by
       generalize a.eval x=vx at rx
       cases rx with|own _ _ _=>exact hv
      have hlen:ks.length=es.size:=by have:=h1.length;simpa using this.symm
      have hc:clock=ks.length:=by rw [hlen];exact h4.1
      have hnew:=hm.new (w':=w.alloc (.mapIter (some g) clock #[] clock)) (hm.below.alloc _) (fun b hb=>Below.heap_alloc w _ b hb) (.iter i ks.length []) (.pointer (some ⟨w.heap.size,0,none⟩)) (fun b hb=>by cases hb;exact Nat.le_refl _)
       (fun c hle hw=>⟨w.heap.size,g,#[],clock,rfl,.inl hm.lt,Nat.lt_of_lt_of_le hin hle.n,by rw [hle.m i hin];exact hv,rfl,hc,by rw [hw,←hc];exact heap_alloc_new w _⟩)
      refine ⟨_,_,_,_,_,hk,.inl ?_,hnew.hold (.ptr s.next 0 w.heap.size (Nat.lt_succ_self _) (by show blk (Fv.upd m s.next _ s.next)=_;rw [upd_same];rfl))⟩
      unfold execOp;rw [ho]
      have hr:=run_range_map (P:=P) w t kt et g es clock ht hh
      simp [hvx,hr]
     | _=>exact h.elim
   | _=>rw [hx] at h;exact h.elim
  | string=>
   dsimp only at h
   refine aB.mem fun H a w m hm=>?_
   cases hx:s.ev x with
   | str l=>
    rw [hx] at h
    obtain ⟨hox,hk⟩:=h
    have rx:=hm.ev x hox
    rw [hx] at rx
    have hvx:a.eval x=.string ⟨l.toArray⟩:=by
     generalize a.eval x=vx at rx
     cases rx with|str _ _=>rfl
    have hnew:=hm.new (w':=w.alloc (.stringIter ⟨l.toArray⟩ 0)) (hm.below.alloc _) (fun b hb=>Below.heap_alloc w _ b hb) (.siter l 0) (.pointer (some ⟨w.heap.size,0,none⟩)) (fun b hb=>by cases hb;exact Nat.le_refl _)
     (fun c hle hw=>⟨w.heap.size,rfl,.inl hm.lt,by rw [hw];exact heap_alloc_new w _⟩)
    refine ⟨_,_,_,_,_,hk,.inl ?_,hnew.hold (.ptr s.next 0 w.heap.size (Nat.lt_succ_self _) (by show blk (Fv.upd m s.next _ s.next)=_;rw [upd_same];rfl))⟩
    unfold execOp;rw [ho]
    simp [hvx,Instr.range,run_underlying ht]
   | _=>rw [hx] at h;exact h.elim
  | _=>exact h.elim
theorem AL {x:Operand} {str:Bool} (ho:o.op=.next x str) (h:AB x str s K):aB P w0 T0 o s K:=by
 unfold AB at h
 cases str with
 | true=>
  dsimp only at h
  refine aB.mem fun H a w m hm=>?_
  split at h
  ·rename_i i hx
   split at h
   ·rename_i l p hi
    obtain ⟨hox,hlm,h1,h2⟩:=h
    have rx:=hm.ev x hox
    rw [hx] at rx
    obtain ⟨hin,gi,hvi,hgi,hhi⟩:=hm.rows i _ hi
    have hvx:a.eval x=.pointer (some ⟨gi,0,none⟩):=by
     generalize a.eval x=vx at rx
     cases rx with
     | ptr _ _ g _ hg=>
      have hg':blk (m i)=some g:=hg
      rw [hvi] at hg';cases hg';rfl
    have hsz:(⟨l.toArray⟩:ByteArray).size=l.length:=rfl
    by_cases hp:p<l.length
    ·have hk:=h1 (decide_eq_true (by omega))
     have hr:=Lib.run_next_any_at (P:=P) w gi ⟨l.toArray⟩ p o.type hhi (by rw [hsz];exact hp)
     have hrl:=Lib.rune_le ⟨l.toArray⟩ p
     have hrep:=hm.upd (w':=w.iterAt gi ⟨l.toArray⟩ (p+EJ l p)) (hm.below.step rfl rfl rfl (by rw [Lib.iterAt_size];exact Nat.le_refl _) fun k hk hk2=>Lib.iterAt_other w gi k _ _ fun e=>by
       subst e
       rcases hgi with hg|hg
       ·omega
       ·exact hk2 hg) hi (fun b hb hne=>Lib.iterAt_other w gi b _ _ fun e=>hne (by rw [hvi,e];rfl)) (.siter l (p+EJ l p)) (fun c hle hw hmm hN=>⟨gi,hvi,hgi,by rw [hw];exact Lib.iterAt_heap w gi _ p _ hhi⟩)
     refine ⟨_,_,_,_,_,hk,.inl ?_,hrep.hold (.tup _ [.bool true,.int .i64 p,.int .i32 (Utf8.decode ⟨l.toArray⟩ p).1] (.cons _ _ _ _ (.bool true) (.cons _ _ _ _ (.int .i64 _ (eY.2 (by omega))) (.cons _ _ _ _ (.int .i32 _ (zf.2 (by unfold JA;omega))) .nil))))⟩
     unfold execOp;rw [ho]
     simp [hvx,hr];rfl
    ·have hk:=h2 (decide_eq_false (by omega))
     have hr:=Lib.run_next_end_at (P:=P) w gi ⟨l.toArray⟩ p o.type hhi (by rw [hsz];exact hp)
     refine ⟨_,_,_,_,_,hk,.inl ?_,hm.hold (.tup _ [.bool false] (.cons _ _ _ _ (.bool false) .nil))⟩
     unfold execOp;rw [ho]
     simp [hvx,hr]
   ·exact h.elim
  ·exact h.elim
 | false=>
  dsimp only at h
  refine aB.mem fun H a w m hm=>?_
  split at h
  ·rename_i i hx
   split at h
   ·rename_i mp since seen hi
    split at h
    ·rename_i ks vs hmp
     obtain ⟨hox,rfl,hn1,hn2⟩:=h
     have rx:=hm.ev x hox
     rw [hx] at rx
     obtain ⟨hin,gi,q,sn,last,hvi,hgi,hmpn,hmpq,rfl,hlast,hhi⟩:=hm.rows i _ hi
     obtain ⟨g,es,clock,hv,hg,h1,h2,h3,h4,hh⟩:=(hm.rows mp _ hmp).2
     have hqg:q=g:=by
      have hmpq':m mp=.map (some q):=hmpq
      rw [hv] at hmpq';cases hmpq';rfl
     subst hqg
     have hvx:a.eval x=.pointer (some ⟨gi,0,none⟩):=by
      generalize a.eval x=vx at rx
      cases rx with
      | ptr _ _ g' _ hg'=>
       have:blk (m i)=some g':=hg'
       rw [hvi] at this;cases this;rfl
     have hlen:ks.length=es.size:=by have:=h1.length;simpa using this.symm
     have hc:clock=ks.length:=by rw [hlen];exact h4.1
     have hold:∀ y∈es.toList,y.born<ks.length:=fun y hy=>by
      obtain ⟨j,hj⟩:=List.getElem?_of_mem hy
      have hj':es[j]?=some y:=by simpa using hj
      rw [h3 j y hj',hlen];exact (Array.getElem?_eq_some_iff.1 hj').1
     have hinn:∀ e,e∈(leftOf es seen.toArray).toList→∃ j,es[j]?=some e∧e.born=j∧j∉seen:=by
      intro e he
      simp only [leftOf,Array.toList_filter,List.mem_filter,Bool.not_eq_true',Array.contains_eq_mem,List.mem_toArray,decide_eq_false_iff_not] at he
      obtain ⟨j,hj⟩:=List.getElem?_of_mem he.1
      have hj':es[j]?=some e:=by simpa using hj
      have:=h3 j e hj'
      exact ⟨j,hj',this,by rw [←this];exact he.2⟩
     have hall0:(leftOf es seen.toArray).size=0→∀ j,j<ks.length→j∈seen:=by
      intro hz j hj
      by_cases hjs:j∈seen
      ·exact hjs
      ·have hj':j<es.size:=by omega
       have hm0:es[j]∈(leftOf es seen.toArray).toList:=by
        simp only [leftOf,Array.toList_filter,List.mem_filter,Bool.not_eq_true',Array.contains_eq_mem,List.mem_toArray,decide_eq_false_iff_not]
        exact ⟨by simp,by rw [h3 j _ (Array.getElem?_eq_getElem hj')];exact hjs⟩
       have:(leftOf es seen.toArray).toList=[]:=List.eq_nil_of_length_eq_zero (by simpa using hz)
       rw [this] at hm0;cases hm0
     rcases run_next_at (P:=P) w o.type gi q ks.length last seen.toArray es clock hhi hh hold (Nat.le_of_eq hlast.symm) with ⟨hz,hr⟩|⟨e,he,w1,hw1,hr⟩
     ·refine ⟨_,_,s,w,m,hn2 (hall0 hz),.inl ?_,hm.hold (.tup _ [.bool false] (.cons _ _ _ _ (.bool false) .nil))⟩
      unfold execOp;rw [ho];simp [hvx,hr]
     ·obtain ⟨j,hj1,hj2,hj3⟩:=hinn e he
      obtain ⟨kx,hkx,hkv⟩:=h1.get' (i:=j) (v:=e.key) (by simp [hj1])
      obtain ⟨vx,hvx2,hvv⟩:=h2.get' (i:=j) (v:=e.val) (by simp [hj1])
      have hm1:aF w0 T0 H s a w1 m:=by
       rcases hw1 with rfl|rfl
       ·exact hm
       ·exact hm.drew
      have hh1:w1.heap=w.heap:=by rcases hw1 with rfl|rfl<;>rfl
      have hle0:bK (ak T0 w0.heap.size m s w) (ak T0 w0.heap.size m s w1):=⟨Nat.le_refl _,fun _ _=>rfl,fun b hb _=>⟨hb,by show w1.heap[b]?=_;rw [hh1];rfl⟩⟩
      have hrep:aF w0 T0 H (s.upd i (.iter mp ks.length (seen++[j]))) a (setBlock w1 gi (.mapIter (some q) ks.length (seen.toArray.push e.born) clock)) m:=
       hm1.upd (aK.setBlock hm1.below hgi _) hi (fun b hb hne=>dK _ (fun e=>hne (by rw [hvi,e];rfl))) _ (fun c hle hw hmm hN=>⟨gi,q,seen.toArray.push e.born,clock,hvi,hgi,by rw [hN];exact hmpn,by rw [hmm];exact hmpq,by rw [hj2];simp,hc,by rw [hw];exact oC (ob:=.mapIter (some q) ks.length seen.toArray last) _ (by rw [hh1];exact hhi)⟩)
      refine ⟨_,.tuple #[.bool true,e.key,e.val],_,_,m,hn1 j kx vx hj3 hkx hvx2,.inl ?_,hrep.hold ?_⟩
      ·unfold execOp;rw [ho];simp [hvx,hr]
      ·have hle:bK (ak T0 w0.heap.size m s w1) (ak T0 w0.heap.size m (s.upd i (.iter mp ks.length (seen++[j]))) (setBlock w1 gi (.mapIter (some q) ks.length (seen.toArray.push e.born) clock))):=by
        refine fK (Nat.le_refl _) (fun _ _=>rfl) (fun b hb hno=>dK _ (fun e=>hno i _ hi (by rw [hvi,e];rfl))) ?_
        intro i' it' b hi' hb _
        have hi'':lk (put s.rows i (.iter mp ks.length (seen++[j]))) i'=some it':=hi'
        rw [vV] at hi''
        split at hi''
        ·rename_i e;subst e;exact ⟨_,_,hi,hb⟩
        ·exact ⟨_,_,hi'',hb⟩
       exact .tup _ [.bool true,e.key,e.val] (.cons _ _ _ _ (.bool true) (.cons _ _ _ _ ((hkv.mono hle0).mono hle) (.cons _ _ _ _ ((hvv.mono hle0).mono hle) .nil)))
    ·exact h.elim
   ·exact h.elim
  ·exact h.elim
theorem xQ {x:Operand} (ho:o.op=.entry x) (h:uF x s K):aB P w0 T0 o s K:=by
 unfold uF at h
 refine aB.mem fun H a w m hm=>?_
 split at h
 ·rename_i i hx
  split at h
  ·rename_i mp since seen hi
   split at h
   ·rename_i j hj
    split at h
    ·rename_i ks vs hmp
     obtain ⟨hox,rfl,hn1,hn2⟩:=h
     have rx:=hm.ev x hox
     rw [hx] at rx
     obtain ⟨hin,gi,q,sn,last,hvi,hgi,hmpn,hmpq,rfl,hlast,hhi⟩:=hm.rows i _ hi
     obtain ⟨g,es,clock,hv,hg,h1,h2,h3,h4,hh⟩:=(hm.rows mp _ hmp).2
     have hqg:q=g:=by
      have hmpq':m mp=.map (some q):=hmpq
      rw [hv] at hmpq';cases hmpq';rfl
     subst hqg
     have hvx:a.eval x=.pointer (some ⟨gi,0,none⟩):=by
      generalize a.eval x=vx at rx
      cases rx with
      | ptr _ _ g' _ hg'=>
       have:blk (m i)=some g':=hg'
       rw [hvi] at this;cases this;rfl
     have hlen:ks.length=es.size:=by have:=h1.length;simpa using this.symm
     have hc:clock=ks.length:=by rw [hlen];exact h4.1
     have hj':j<es.size:=by omega
     obtain ⟨sn',rfl⟩:∃ l,seen=l++[j]:=by
      rw [List.getLast?_eq_some_iff] at hj;exact hj
     have hb:es[j].born=j:=h3 j _ (Array.getElem?_eq_getElem hj')
     have hnd:(es.toList.map (·.born)).Nodup:=by
      have e:es.toList.map (·.born)=List.range es.size:=by
       refine List.ext_getElem (by simp) fun k k1 k2=>?_
       have hk:k<es.size:=by simpa using k1
       simp only [List.getElem_map,List.getElem_range,Array.getElem_toList]
       exact h3 k _ (Array.getElem?_eq_getElem hk)
      rw [e];exact List.nodup_range
     have hr:=run_entry_at (P:=P) w gi q ks.length sn'.toArray es clock es[j] (by have h':=hhi;rw [hlast] at h';rw [hb,hc];refine Eq.trans (b:=(ak T0 w0.heap.size m s w).w.heap[gi]?) rfl (h'.trans (by simp))) hh (by simp) hnd
     obtain ⟨kx,hkx,hkv⟩:=h1.get' (i:=j) (v:=es[j].key) (by simp [hj'])
     obtain ⟨vx,hvx2,hvv⟩:=h2.get' (i:=j) (v:=es[j].val) (by simp [hj'])
     refine ⟨_,.tuple #[es[j].key,es[j].val],s,w,m,hn2 kx vx hkx hvx2,.inl ?_,hm.hold (.tup _ [es[j].key,es[j].val] (.cons _ _ _ _ hkv (.cons _ _ _ _ hvv .nil)))⟩
     unfold execOp;rw [ho];simp [hvx,hr]
    ·exact h.elim
   ·exact h.elim
  ·exact h.elim
 ·exact h.elim
end
end Go.Fv
/-
 Operations that are carried out only under a condition: what they leave, said under that condition.
-/
namespace Go.Fv
open Go.RowKit
def Nj (s:S):Operand→Bool
 | .tmp t=>match s.get t with | .opt c _=>c|_=>true
 | _=>true
def Nk (s:S):Operand→AV
 | .tmp t=>match s.get t with | .opt _ v=>v|v=>v
 | x=>s.ev x
def iL (s:S):List Operand→List (Nat × AV)
 | []=>[]
 | .tmp t::l=>match s.get t with | .opt _ v=>(t,v)::iL s l|_=>iL s l
 | _::l=>iL s l
def dI (s:S):List Operand→Bool
 | []=>true
 | .tmp t::l=>match s.get t with | .opt c _=>c && dI s l|_=>dI s l
 | _::l=>dI s l
def peel (s:S) (l:List Operand):S:={ s with env:=iL s l++s.env }
def D6:Op→List Operand
 | .move x=>[x]
 | .assign x=>[x]
 | .binOp _ _ x y _=>[x,y]
 | .unOp _ _ x=>[x]
 | .index _ x i=>[x,i]
 | .indexAddr _ x i=>[x,i]
 | .lookup _ x i _=>[x,i]
 | .load _ x=>[x]
 | .field _ x _=>[x]
 | .fieldAddr _ x _=>[x]
 | .nilCheck x=>[x]
 | .convert _ _ x=>[x]
 | .extract x _=>[x]
 | .call c=>c.args.toList
 | .slice _ x lo hi mx=>x::(lo.toList++(hi.toList++mx.toList))
 | _=>[]
def NC (op:BinOp) (x y:AV):Option AV:=
 match x,y with
 | .int k a,.int _ b=>match op with
  | .add=>some (.int k (a+b))
  | .sub=>some (.int k (a - b))
  | .mul=>some (.int k (a*b))
  | .quo=>some (.int k (a.tdiv b))
  | .rem=>some (.int k (a.tmod b))
  | .and=>some (.int k (jy .and k a b))
  | .or=>some (.int k (jy .or k a b))
  | .xor=>some (.int k (jy .xor k a b))
  | .andNot=>some (.int k (jy .andNot k a b))
  | .shl=>some (.int k (MP k a b))
  | .shr=>some (.int k (JC k a b))
  | .eql=>some (.bool (decide (a=b)))
  | .neq=>some (.bool (decide (¬a=b)))
  | .lss=>some (.bool (decide (a<b)))
  | .leq=>some (.bool (decide (a≤b)))
  | .gtr=>some (.bool (decide (b<a)))
  | .geq=>some (.bool (decide (b≤a)))
 | .str a,.str b=>match op with
  | .add=>some (.str (a++b))
  | .eql=>some (.bool (decide (a=b)))
  | .neq=>some (.bool (decide (¬a=b)))
  | .lss=>some (.bool (Op.bytesLess a b))
  | .leq=>some (.bool (Op.bytesLess a b || decide (a=b)))
  | .gtr=>some (.bool (!(Op.bytesLess a b || decide (a=b))))
  | .geq=>some (.bool (!Op.bytesLess a b))
  | _=>none
 | .bool a,.bool b=>match op with
  | .eql=>some (.bool (decide (a=b)))
  | .neq=>some (.bool (decide (¬a=b)))
  | _=>none
 | .agg a,.agg b=>match op with
  | .eql=>some (.bool (AZ a b))
  | .neq=>some (.bool (!AZ a b))
  | _=>none
 | _,_=>none
def ND (s:S):AV→Option AV
 | .str l=>some (.int .i64 l.length)
 | .ro r=>some (.int .i64 r.len)
 | .own i=>match lk s.rows i with
  | some (.row _ r)=>some (.int .i64 r.len)
  | _=>none
 | .nilS=>some (.int .i64 0)
 | _=>none
def gHead:List AV→Option AV
 | x::_=>some x
 | []=>none
def BL (P:Program) (t:TypeId) (cs:List AV):Option AV:=
 match P.underlying t with
 | some d=>bif zl d then some (.agg (cs.take (P.cellsOf t))) else gHead cs
 | none=>none
def Oh (s:S) (m:Bool) (x y:Operand):Option AV:=match s.ev x,s.ev y with
 | .int k a,.int _ b=>some (.int k (if m then max a b else min a b))
 | _,_=>none
def Ls (P:Program) (t:TypeId) (m:Option (List AV × List AV)) (k:AV) (ok:Bool):Option AV:=
 match P.underlying t with
 | some (.map _ et)=>match zeroOf P et with
  | some z=>match m with
   | some (ks,vs)=>match z with
    | .bool _=>some (bif ok then .tup [.bool (tN ks vs k),.bool (bV ks k).isSome] else .bool (tN ks vs k))
    | .int q _=>some (bif ok then .tup [.int q (zC ks vs k),.bool (bV ks k).isSome] else .int q (zC ks vs k))
    | .string _=>some (bif ok then .tup [.str (Gn ks vs k),.bool (bV ks k).isSome] else .str (Gn ks vs k))
    | z=>some (bif ok then .tup [xA ks vs k (yN z),.bool (bV ks k).isSome] else xA ks vs k (yN z))
   | none=>none
  | none=>none
 | _=>none
def Kz (P:Program) (s:S):Op→Option AV
 | .move (.const (.slice _ _ _))=>none
 | .assign (.const (.slice _ _ _))=>none
 | .move x=>some (s.ev x)
 | .assign x=>some (s.ev x)
 | .binOp op _ x y _=>NC op (s.ev x) (s.ev y)
 | .unOp op _ x=>match op,s.ev x with
  | .not,.bool b=>some (.bool (!b))
  | _,_=>none
 | .call c=>match c.callee,c.args.toList with
  | .builtin .len,[x]=>ND s (s.ev x)
  | .builtin .min,[x,y]=>Oh s false x y
  | .builtin .max,[x,y]=>Oh s true x y
  | _,_=>none
 | .index _ x i=>match s.ev x,s.ev i with
  | .str l,.int _ n=>some (.int .u8 (l.getD n.toNat 0).toNat)
  | _,_=>none
 | .indexAddr t x i=>match s.ev x,s.ev i with
  | .ro r,.int _ n=>some (.cell (dR r n.toNat))
  | .own j,.int _ n=>match lk s.rows j with
   | some (.row _ r)=>some (.elt j r.sz n.toNat 0)
   | _=>none
  | .ptr j off,.int _ n=>match P.underlying t with
   | some (.array _ e)=>some (.ptr j (off+n.toNat*P.cellsOf e))
   | _=>none
  | .cell cs,.int _ n=>match P.underlying t with
   | some (.array _ e)=>some (.cell (cs.drop (n.toNat*P.cellsOf e)))
   | _=>none
  | .elt j sz idx off,.int _ n=>match P.underlying t with
   | some (.array _ e)=>some (.elt j sz idx (off+n.toNat*P.cellsOf e))
   | _=>none
  | _,_=>none
 | .nilCheck x=>some (s.ev x)
 | .lookup t x i ok=>Ls P t (mapOf s (s.ev x)) (s.ev i) ok
 | .convert _ b x=>match P.underlying b,s.ev x with
  | some (.int k),.int _ n=>some (.int k n)
  | _,_=>none
 | .load t x=>match s.ev x with
  | .cell cs=>BL P t cs
  | .ptr i off=>match lk s.rows i with
   | some (.box _ cs)=>BL P t (cs.drop off)
   | _=>none
  | .elt i _ idx off=>match lk s.rows i with
   | some (.row _ r)=>BL P t ((dR r idx).drop off)
   | _=>none
  | _=>none
 | .field t x k=>match P.underlying t,s.ev x with
  | some (.struct fs),.agg cs=>match fs[k]? with
   | some f=>BL P f.type (cs.drop f.offset)
   | none=>none
  | _,_=>none
 | .fieldAddr t x k=>match P.underlying t with
  | some (.struct fs)=>match fs[k]? with
   | some f=>match s.ev x with
    | .cell cs=>some (.cell (cs.drop f.offset))
    | .ptr i off=>some (.ptr i (off+f.offset))
    | .elt i sz idx off=>some (.elt i sz idx (off+f.offset))
    | _=>none
   | none=>none
  | _=>none
 | .extract x i=>match s.ev x with
  | .tup l=>l[i]?
  | _=>none
 | .slice _ x lo hi _=>match s.ev x with
  | .str l=>match bnd s lo 0,bnd s hi l.length with
   | some p,some q=>some (.str ((l.drop p.toNat).take (q.toNat - p.toNat)))
   | _,_=>none
  | .ro r=>match bnd s lo 0,bnd s hi r.len with
   | some p,some q=>some (.ro (bn r p.toNat q.toNat))
   | _,_=>none
  | _=>none
 | _=>none
def pW (s:S):Op→Option (Prop × Bool)
 | .pick c x y=>match Nk s c,Nk s x,Nk s y with
  | .bool b,.bool p,.bool q=>some (Nj s c=true∧(b=true→Nj s x=true)∧(b=false→Nj s y=true),cond b p q)
  | _,_,_=>none
 | _=>none
section
variable {w0 w:World} {T0:Bs} {H:List (AV × Value)} {s:S} {a:Act} {m:Nat→Value}
theorem Jh (h:aF w0 T0 H s a w m) {x:Operand} (hx:aj x) (hc:Nj s x=true):Rv (ak T0 w0.heap.size m s w) (Nk s x) (a.eval x):=by
 cases x with
 | tmp t=>
  simp only [Nj,Nk,S.get,Act.eval] at *
  cases hl:lk s.env t with
  | none=>exact .dead _
  | some v=>
   have hv:=h.env t v hl
   rw [hl] at hc
   cases v<;>try exact hv
   cases hv with
   | opt _ _ _ hb hv _=>exact hv hc
 | const v=>exact h.ev _ hx
 | func f=>exact h.ev _ hx
 | global g=>exact h.ev _ hx
theorem CS {l:List Operand} {r:Nat} {v:AV} (hc:dI s l=true) (h:lk (iL s l) r=some v):s.get r=.opt true v:=by
 induction l with
 | nil=>simp [iL,lk] at h
 | cons x l ih=>
  cases x with
  | tmp t=>
   simp only [iL] at h
   simp only [dI] at hc
   split at h
   ·rename_i c v' he
    rw [he] at hc
    simp only [Bool.and_eq_true] at hc
    simp only [lk] at h
    split at h
    ·rename_i e;subst e;cases h;rw [he,hc.1]
    ·exact ih hc.2 h
   ·rename_i hne
    refine ih ?_ h
    split at hc
    ·rename_i c v' he;exact absurd he (hne c v')
    ·exact hc
  | const v=>exact ih (by simpa [dI] using hc) (by simpa [iL] using h)
  | func f=>exact ih (by simpa [dI] using hc) (by simpa [iL] using h)
  | global g=>exact ih (by simpa [dI] using hc) (by simpa [iL] using h)
theorem zJ {α:Type}:∀ (l l':List (Nat × α)) (i:Nat),lk (l++l') i=match lk l i with|some v=>some v|none=>lk l' i
 | [],_,_=>rfl
 |(j,v)::l,l',i=>by
  simp only [List.cons_append,lk]
  split
  ·rfl
  ·exact zJ l l' i
theorem aF.peel (h:aF w0 T0 H s a w m) {l:List Operand} (hc:dI s l=true):aF w0 T0 H (Fv.peel s l) a w m:=
 {size:=h.size,nodef:=h.nodef,below:=h.below,held:=h.held,rows:=h.rows,sep:=h.sep,
  env:=by
   intro r v hv
   have hv':lk (iL s l++s.env) r=some v:=hv
   rw [zJ] at hv'
   cases hq:lk (iL s l) r with
   | none=>rw [hq] at hv';exact h.env r v hv'
   | some v'=>
    rw [hq] at hv';cases hv'
    have:=CS hc hq
    simp only [S.get] at this
    cases hl:lk s.env r with
    | none=>rw [hl] at this;cases this
    | some y=>
     rw [hl] at this
     cases this
     have:=h.env r _ hl
     cases this with
     | opt _ _ _ _ hx _=>exact hx rfl }
theorem aF.MR {l:List Operand} (hpc:dI s l=true) (h:aF w0 T0 H (Fv.peel s l) a w m):aF w0 T0 H s a w m:=
 {size:=h.size,nodef:=h.nodef,below:=h.below,held:=h.held,rows:=h.rows,sep:=h.sep,
  env:=by
   intro r v hv
   cases hq:lk (iL s l) r with
   | none=>exact h.env r v (by show lk (iL s l++s.env) r=some v;rw [zJ,hq];exact hv)
   | some v'=>
    have hx:Rv (ak T0 w0.heap.size m s w) v' (a.tmps.getD r undef):=h.env r v' (by show lk (iL s l++s.env) r=some v';rw [zJ,hq])
    have hc:=CS hpc hq
    simp only [S.get,hv] at hc
    subst hc
    exact .opt _ _ _ hx.ids (fun _=>hx) (fun e=>by cases e) }
end
end Go.Fv
/-
 Package-level variables of an integer type: each holds an integer, which one is not told.
-/
namespace Go.Fv
open Go.RowKit
def vI (P:Program) (g:Nat):Option IntKind:=match P.globals[g]? with
 | some gl=>match P.underlying gl.type with
  | some (.int k)=>some k
  | _=>none
 | none=>none
inductive GK where
 | int (k:IntKind)
 | tab
 | pow
 | err
def Dj (P:Program) (g:Nat):Bool:=match P.globals[g]? with
 | some gl=>gl.name == "math/bits.deBruijn64tab"
 | none=>false
def CV (P:Program) (g:Nat):Bool:=match P.globals[g]? with
 | some gl=>gl.name == "internal/strconv.uint64pow10"
 | none=>false
def yB (P:Program) (g:Nat):Bool:=match P.globals[g]? with
 | some gl=>gl.name == "strconv.ErrSyntax" || gl.name == "strconv.ErrRange"
 | none=>false
def IC (P:Program) (g:Nat):Option GK:=match vI P g with
 | some k=>some (.int k)
 | none=>if Dj P g then some .tab else if CV P g then some .pow else if yB P g then some .err else none
def Ba:GK→Obj→Prop
 | .int k,ob=>∃ (n:Int) (t:TypeId),gq k n∧ob=.cells #[.int k n] t (0,0)
 | .tab,ob=>∃ t:TypeId,ob=.cells (Lib.deBruijn64tab.map fun (z:Nat)=>Value.int .u8 (z:Int)).toArray t (0,0)
 | .pow,ob=>∃ t:TypeId,ob=.cells (Lib.pow10Tab.map fun z=>Value.int .u64 z).toArray t (0,0)
 | .err,ob=>∃ (t tp:TypeId) (p:Value),ob=.cells #[.iface tp p] t (0,0)
def lH (P:Program) (w:World):Prop:=∀ (g:Nat) (k:GK),IC P g=some k→∃ ob,w.heap[g]?=some ob∧Ba k ob
theorem KC {P:Program} {g:Nat} {k:IntKind} (h:vI P g=some k):IC P g=some (.int k):=by unfold IC;rw [h]
theorem lH.int {P:Program} {w:World} (hw:lH P w) {g:Nat} {k:IntKind} (h:vI P g=some k):∃ (n:Int) (t:TypeId),gq k n∧w.heap[g]?=some (.cells #[.int k n] t (0,0)):=by
 obtain ⟨ob,hh,n,t,hk,rfl⟩:=hw g _ (KC h)
 exact ⟨n,t,hk,hh⟩
class lC (P:Program) (w0:World) (T0:Bs):Prop where
 ok:lH P w0
 ng:∀ (g:Nat) (k:GK),IC P g=some k→¬(T0.g g∧T0.a g)
theorem lH.later {P:Program} {w0 w:World} (g0:Nat→Prop) (h:lH P w0) (hb:aK g0 w0 w) (hn:∀ (g:Nat) (k:GK),IC P g=some k→¬g0 g):lH P w:=by
 intro g k hg
 obtain ⟨ob,hh,ho⟩:=h g k hg
 have hlt:=(Array.getElem?_eq_some_iff.1 hh).1
 exact ⟨ob,by rw [hb.block g hlt (hn g k hg)];exact hh,ho⟩
section
variable {P:Program} {w0:World} {T0:Bs} {o:Oper} {s:S} {K:AV→S→Prop}
theorem lC.at [h:lC P w0 T0] {H:List (AV × Value)} {s:S} {a:Act} {w:World} {m:Nat→Value} (hm:aF w0 T0 H s a w m):lH P w:=h.ok.later _ hm.below h.ng
class OW where
 k:Int→Prop
def DL (k:IntKind) [K:OW]:Prop:=∀ n,gq k n→K.k n
theorem DL.intro {k:IntKind} {K:Int→Prop} (h:∀ n,gq k n→K n):@DL k ⟨K⟩:=h
theorem DL.i64 {K:Int→Prop} (h:∀ n,(-9223372036854775808≤n∧n≤9223372036854775807)→K n):@DL .i64 ⟨K⟩:=fun n hn=>h n (eY.1 hn)
def Ez (P:Program) (t:TypeId) (g:Nat) (s:S) (K:AV→S→Prop):Prop:=
 match vI P g,P.underlying t with
 | some k,some (.int k')=>aN (k=k'∧P.cellsOf t=1) (@DL k ⟨fun n=>K (.int k n) s⟩)
 | _,_=>False
theorem Au [hG:lC P w0 T0] {t:TypeId} {g:Nat} (ho:o.op=.load t (.global g)) (h:Ez P t g s K):bf P w0 T0 o s K:=by
 unfold Ez at h
 intro H a w m hm
 split at h
 ·rename_i k k' hk ht
  obtain ⟨⟨rfl,hc⟩,h⟩:=h
  obtain ⟨n,t',hn,hh⟩:=(lC.at (P:=P) hm).int hk
  have hl:dS P t [.int k n] (fun v=>v=.int k n):=by
   unfold dS
   rw [ht]
   simp [zl,zD,A8]
  have hv:aV (ak T0 w0.heap.size m s w) [.int k n] [.int k n]:=.cons _ _ _ _ (.int k n hn) rfl .nil
  obtain ⟨r,v,hr,hrun,hrv⟩:=jF (c:=ak T0 w0.heap.size m s w) (a:=⟨g,0,none⟩) hl hv (fun j u hu=>by
   have:=kH hh (j:=j) (u:=u) (by simpa using hu)
   exact this)
  subst hr
  refine ⟨_,v,h n hn,?_,hrv⟩
  have hr':(loadVar t ⟨g,0,none⟩).run P w=.ok v w:=hrun
  unfold execOp;rw [ho]
  simp [Act.eval,Instr.loadAt,Instr.sureAddr,hr']
 ·exact h.elim
end
end Go.Fv
/-
 append to a nil slice that stands in a slot.
-/
namespace Go.Fv
open Go.RowKit
section
variable {P:Program} {w0:World} {T0:Bs} {o:Oper} {s:S} {K:AV→S→Prop}
def gI (P:Program) (t t2:TypeId) (x y:Operand) (s:S) (K:AV→S→Prop):Prop:=
 match x with
 | .tmp r=>match s.get r with
  | .nilS=>match P.underlying t with
   | some (.slice e)=>match zeroOf P e with
    | some z=>aN (aO P e z) (iD P t t2 (.tmp r) y ((s.add (.row e (iJ z 0))).set r (.own s.next)) K)
    | none=>False
   | _=>False
  | .pre i n=>match lk s.rows i with
   | some (.row _ r')=>aN (r'.len=n) (iD P t t2 (.tmp r) y (s.set r (.own i)) K)
   | _=>False
  | _=>iD P t t2 (.tmp r) y s K
 | .const v=>match v with
  | .slice none 0 0=>match P.underlying t with
   | some (.slice e)=>match zeroOf P e with
    | some z=>aN (aO P e z) (gG P t t2 (.own s.next) y (s.add (.row e (iJ z 0))) K)
    | none=>False
   | _=>False
  | v=>iD P t t2 (.const v) y s K
 | x=>iD P t t2 x y s K
theorem aF.Fp {H:List (AV × Value)} {s:S} {a:Act} {w:World} {m:Nat→Value} (h:aF w0 T0 H s a w m) {r:Nat} {x:AV} (hx:Rv (ak T0 w0.heap.size m s w) x (a.tmps.getD r undef)):aF w0 T0 H (s.set r x) a w m:=
 {size:=h.size,nodef:=h.nodef,below:=h.below,held:=h.held,rows:=h.rows,sep:=h.sep,
  env:=by
   intro q y hy
   have hy':(if r=q then some x else lk s.env q)=some y:=hy
   split at hy'
   ·rename_i e;subst e;cases hy';exact hx
   ·exact h.env q y hy' }
theorem lg {t t2:TypeId} {x y:Operand} (ho:o.op=.call { callee:=.builtin .append,args:=#[x,y],argTypes:=#[t,t2] }) (hx:aj x) (h:gI P t t2 x y s K):aB P w0 T0 o s K:=by
 unfold gI at h
 split at h
 ·rename_i r
  split at h
  ·rename_i hr
   split at h
   ·rename_i e he
    split at h
    ·rename_i z hz
     obtain ⟨hez,h⟩:=h
     intro H a w next Q ⟨m,hm⟩ hn
     have hl:lk s.env r=some .nilS:=by
      simp only [S.get] at hr
      cases hq:lk s.env r with
      | none=>rw [hq] at hr;cases hr
      | some y=>rw [hq] at hr;exact congrArg some hr
     have hv:a.tmps.getD r undef=.slice none 0 0:=by
      have:=hm.env r _ hl
      generalize a.tmps.getD r undef=v at this
      cases this;rfl
     have h1:=zN hm hez
     have h2:=h1.iI.Fp (r:=r) (x:=.own s.next) (by rw [hv];exact h1.held _ (.head _))
     exact dY ho hx h H a w next Q ⟨_,h2⟩ hn
    ·exact h.elim
   ·exact h.elim
  ·rename_i i n hr
   split at h
   ·rename_i e r' hi
    obtain ⟨hrn,h⟩:=h
    intro H a w next Q ⟨m,hm⟩ hn
    have hl:lk s.env r=some (.pre i n):=by
     simp only [S.get] at hr
     cases hq:lk s.env r with
     | none=>rw [hq] at hr;cases hr
     | some y=>rw [hq] at hr;exact congrArg some hr
    have hx2:=hm.env r _ hl
    obtain ⟨k,cells,hrc,hk,how,hO⟩:=(hm.rows i _ hi).2
    have hv:Rv (ak T0 w0.heap.size m s w) (.own i) (a.tmps.getD r undef):=by
     generalize a.tmps.getD r undef=v at hx2
     cases hx2 with
     | pre _ _ l cap ad hi2 hv hnl=>
      have hv':m i=.slice ad l cap:=hv
      have hln:l=n:=by
       rcases how.2 with ⟨hv2,hq⟩|⟨g,cap2,cur,fz,hv2,_⟩
       ·rw [hv2] at hv';cases hv';omega
       ·rw [hv2] at hv';cases hv';omega
      subst hln
      rw [←hv]
      exact .own i hi2 (by rw [hv];rfl)
    exact dY ho hx h H a w next Q ⟨_,hm.Fp hv⟩ hn
   ·exact h.elim
  ·exact dY ho hx h
 ·split at h
  ·split at h
   ·rename_i e he
    split at h
    ·rename_i z hz
     obtain ⟨hez,h⟩:=h
     refine aB.mem fun H a w m hm=>?_
     have h1:=zN hm hez
     obtain ⟨r,v,s',w',m',hk,hr,hv⟩:=mO (x:=.const (.slice none 0 0)) ho h1.iI (h1.held _ (.head _)) h
     exact ⟨r,v,s',w',m',hk,hr,hv⟩
    ·exact h.elim
   ·exact h.elim
  ·exact dY ho hx h
 ·exact dY ho hx h
end
end Go.Fv
