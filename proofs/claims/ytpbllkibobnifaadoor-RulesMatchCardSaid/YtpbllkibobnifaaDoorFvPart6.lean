/-
  A part of the proof of the claim: walks over the program's functions and the plain laws that these need. No condition of its own.
-/
import Derived.Test.YtpbllkibobnifaaDoorFvPart5
import Derived.Lib.OthersKept
import Derived.Lib.TrimU
import Derived.Lib.TrailingZeros
import Derived.Lib.ItoaNum
set_option linter.unusedSectionVars false
set_option linter.unusedVariables false
set_option linter.unusedSimpArgs false
set_option linter.unnecessarySimpa false
/-
 Maps: made, written, gone through.
-/
namespace Go.Fv
open Go.RowKit
open Go.ChangeMaps (setBlock)
def oQ (ks:List AV) (k:AV):List AV:=match dL ks k with|some _=>ks|none=>ks++[k]
def BI (ks vs:List AV) (k v:AV):List AV:=match dL ks k with|some j=>vs.set j v|none=>vs++[v]
def DK (ks:List AV) (k:AV):Nat:=match dL ks k with|some j=>j|none=>ks.length
def DL (ks vs:List AV) (k z:AV):List AV:=match dL ks k with|some _=>vs|none=>vs++[z]
def oU (P:Program) (t:TypeId) (r:Option Operand) (s:S) (K:AV→S→Prop):Prop:=
 match r with
 | none=>K (.own s.next) (s.add (.map [] []))
 | some _=>False
def oW (P:Program) (t:TypeId) (x k v:Operand) (s:S) (K:AV→S→Prop):Prop:=
 match P.underlying t with
 | some (.map kt et)=>match s.ev x with
  | .own i=>match lk s.rows i with
   | some (.map ks vs)=>aZ (au x∧au k∧au v) (aZ (Maps.Keyed P kt∧zT P kt (s.ev k)∧yu P kt ks) (K .dead (s.upd i (.map (oQ ks (s.ev k)) (BI ks vs (s.ev k) (s.ev v))))))
   | _=>False
  | _=>False
 | _=>False
def Oo (ks vs:List AV) (k:AV) (z:Value) (i:Nat) (s:S) (K:AV→S→Prop):Prop:=
 match z with
 | .bool b=>aZ (b=false∧vs.all Xm=true) (K (.tup [.bool (E5 ks vs k),.raw (.int .i64 (DK ks k))]) (s.upd i (.map (oQ ks k) (DL ks vs k (.bool false)))))
 | .int q n=>aZ (n=0∧vs.all (Xn q)=true) (K (.tup [.int q (E8 ks vs k),.raw (.int .i64 (DK ks k))]) (s.upd i (.map (oQ ks k) (DL ks vs k (.int q 0)))))
 | _=>False
def oV (P:Program) (t:TypeId) (x k:Operand) (s:S) (K:AV→S→Prop):Prop:=
 match P.underlying t with
 | some (.map kt et)=>match zeroOf P et with
  | some z=>match s.ev x with
   | .own i=>match lk s.rows i with
    | some (.map ks vs)=>aZ (au x∧au k) (aZ (bH P et z∧Maps.Keyed P kt∧zT P kt (s.ev k)∧yu P kt ks) (Oo ks vs (s.ev k) z i s K))
    | _=>False
   | _=>False
  | none=>False
 | _=>False
def jL (x st v:Operand) (s:S) (K:AV→S→Prop):Prop:=
 match s.ev x with
 | .own i=>match lk s.rows i with
  | some (.map ks vs)=>match s.ev st with
   | .raw (.int _ n)=>aZ (au x∧au st∧au v) (aZ (0≤n∧n<vs.length) (K .dead (s.upd i (.map ks (vs.set n.toNat (s.ev v))))))
   | _=>False
  | _=>False
 | _=>False
def sS (P:Program) (t:TypeId) (x:Operand) (s:S) (K:AV→S→Prop):Prop:=
 match P.underlying t with
 | some (.map kt et)=>match s.ev x with
  | .own i=>match lk s.rows i with
   | some (.map ks vs)=>aZ (au x) (K (.ptr s.next 0) (s.add (.iter i ks.length [])))
   | _=>False
  | _=>False
 | some .string=>match s.ev x with
  | .str l=>aZ (au x) (K (.ptr s.next 0) (s.add (.siter l 0)))
  | _=>False
 | _=>False
def RQ (l:List UInt8) (p:Nat):Int:=((Utf8.decode ⟨l.toArray⟩ p).1:Nat)
def LU (l:List UInt8) (p:Nat):Nat:=(Utf8.decode ⟨l.toArray⟩ p).2
class Yj where
 k:AV→S→Prop
def zV (ks vs:List AV) (i mp:Nat) (seen:List Nat) (s:S) [K:Yj]:Prop:=
 (∀ j kx vx,j∉seen→ks[j]?=some kx→vs[j]?=some vx→K.k (.tup [.bool true,kx,vx]) (s.upd i (.iter mp ks.length (seen++[j]))))∧((∀ j,j<ks.length→j∈seen)→K.k (.tup [.bool false]) s)
@[congr] theorem Ti {ks ks' vs vs':List AV} {i i' mp mp':Nat} {seen seen':List Nat} {s s':S} {K:Yj} (h1:ks=ks') (h2:vs=vs') (h3:i=i') (h4:mp=mp') (h5:seen=seen') (h6:s=s'):@zV ks vs i mp seen s K=@zV ks' vs' i' mp' seen' s' K:=by rw [h1,h2,h3,h4,h5,h6]
theorem zV.intro {ks vs:List AV} {i mp:Nat} {seen:List Nat} {s:S} {K:AV→S→Prop} (h1:∀ j kx vx,j∉seen→ks[j]?=some kx→vs[j]?=some vx→K (.tup [.bool true,kx,vx]) (s.upd i (.iter mp ks.length (seen++[j]))))
  (h2:(∀ j,j<ks.length→j∈seen)→K (.tup [.bool false]) s):@zV ks vs i mp seen s ⟨K⟩:=⟨h1,h2⟩
def GU (x:Operand) (str:Bool) (s:S) (K:AV→S→Prop):Prop:=
 match str with
 | true=>match s.ev x with
  | .ptr i 0=>match lk s.rows i with
   | some (.siter l p)=>aZ (au x) (aZ (l.length≤9223372036854775807) (@Ite (decide ((p:Int)<l.length)) ⟨K (.tup [.bool true,.int .i64 p,.int .i32 (RQ l p)]) (s.upd i (.siter l (p+LU l p)))⟩ ⟨K (.tup [.bool false]) s⟩))
   | _=>False
  | _=>False
 | false=>match s.ev x with
  | .ptr i 0=>match lk s.rows i with
   | some (.iter mp since seen)=>match lk s.rows mp with
    | some (.map ks vs)=>aZ (au x) (aZ (since=ks.length) (@zV ks vs i mp seen s ⟨K⟩))
    | _=>False
   | _=>False
  | _=>False
class Yg where
 k:AV→S→Prop
def Hr (ks vs:List AV) (j:Nat) (s:S) [K:Yg]:Prop:=j<ks.length∧∀ kx vx,ks[j]?=some kx→vs[j]?=some vx→K.k (.tup [kx,vx]) s
@[congr] theorem UZ {ks ks' vs vs':List AV} {j j':Nat} {s s':S} {K:Yg} (h1:ks=ks') (h2:vs=vs') (h3:j=j') (h4:s=s'):@Hr ks vs j s K=@Hr ks' vs' j' s' K:=by rw [h1,h2,h3,h4]
theorem Hr.intro {ks vs:List AV} {j:Nat} {s:S} {K:AV→S→Prop} {kx vx:AV} (h1:ks[j]?=some kx) (h2:vs[j]?=some vx) (hk:K (.tup [kx,vx]) s):@Hr ks vs j s ⟨K⟩:=
 ⟨(List.getElem?_eq_some_iff.1 h1).1,fun kx' vx' e1 e2=>by rw [h1] at e1;rw [h2] at e2;cases e1;cases e2;exact hk⟩
def zL (x:Operand) (s:S) (K:AV→S→Prop):Prop:=
 match s.ev x with
 | .ptr i 0=>match lk s.rows i with
  | some (.iter mp since seen)=>match seen.getLast? with
   | some j=>match lk s.rows mp with
    | some (.map ks vs)=>aZ (au x) (aZ (since=ks.length) (@Hr ks vs j s ⟨K⟩))
    | _=>False
   | none=>False
  | _=>False
 | _=>False
section
variable {P:Program} {w0:World} {T0:Bs} {o:Oper} {s:S} {K:AV→S→Prop}
theorem tX {w:World} {g:Nat} {ob:Obj} (o':Obj) (h:w.heap[g]?=some ob):(setBlock w g o').heap[g]?=some o':=by
 have:=(Array.getElem?_eq_some_iff.1 h).1
 simp [setBlock,Array.getElem?_setIfInBounds,this]
theorem fO {w:World} {g b:Nat} (o':Obj) (h:b≠g):(setBlock w g o').heap[b]?=w.heap[b]?:=by
 simp [setBlock,Array.getElem?_setIfInBounds,Ne.symm h]
theorem bK.setBlock {w0 w:World} (h:bK (fun b=>T0.g b∧T0.a b) w0 w) {g:Nat} (hg:ownB T0 w0.heap.size g) (o':Obj):bK (fun b=>T0.g b∧T0.a b) w0 (setBlock w g o'):=
 h.step rfl rfl rfl (by simp [Go.ChangeMaps.setBlock]) fun k hk hk2=>fO o' (fun e=>by
  subst e
  rcases hg with hg|hg
  ·omega
  ·exact hk2 hg)
theorem zh {t:TypeId} {r:Option Operand} (ho:o.op=.makeMap t r) (h:oU P t r s K):aT P w0 T0 o s K:=by
 unfold oU at h
 cases r with
 | some _=>exact h.elim
 | none=>
  refine aT.mem fun H a w m hm=>?_
  have hnew:=hm.new (w':=w.alloc (.map #[] 0)) (hm.below.alloc _) (fun b hb=>Below.heap_alloc w _ b hb) (.map [] []) (.map (some w.heap.size)) (fun b hb=>by cases hb;exact Nat.le_refl _)
   (fun c hle hw=>⟨w.heap.size,#[],0,rfl,.inl hm.lt,.nil,.nil,fun i e he=>by simp at he,⟨rfl,by simp⟩,by rw [hw];exact heap_alloc_new w _⟩)
  refine ⟨_,_,_,_,_,h,.inl ?_,lZ hnew rfl⟩
  unfold execOp;rw [ho]
  have:=run_makeMap (P:=P) t w
  simp [this]
theorem oI {H:List (AV × Value)} {a:Act} {w:World} {m:Nat→Value} (hm:bC w0 T0 H s a w m) {i:Nat} {ks vs:List AV} (hi:lk s.rows i=some (.map ks vs)) {g:Nat} {es:Array MapEntry} {clock:Nat} (hv:m i=.map (some g)) (hg:ownB T0 w0.heap.size g) (hh:w.heap[g]?=some (.map es clock))
  {ks' vs':List AV} {es':Array MapEntry} {clock':Nat} (h1:dH (aA T0 w0.heap.size m s w) ks' (es'.toList.map MapEntry.key)) (h2:dH (aA T0 w0.heap.size m s w) vs' (es'.toList.map MapEntry.val)) (h3:∀ (i:Nat) (e:MapEntry),es'[i]?=some e→e.born=i) (h4:EN es' clock') :
  bC w0 T0 H (s.upd i (.map ks' vs')) a (setBlock w g (.map es' clock')) m:=
 hm.upd (bK.setBlock hm.below hg _) hi (fun b hb hne=>fO _ (fun e=>hne (by rw [hv,e];rfl))) _ (fun c hle hw hmm hN=>⟨g,es',clock',hv,hg,h1.mono hle,h2.mono hle,h3,h4,by rw [hw];exact tX _ hh⟩)
theorem map_push {c:Ctx} {ks vs:List AV} {es:Array MapEntry} {clock:Nat} {k v:AV} {kv vv:Value} (h1:dH c ks (es.toList.map MapEntry.key)) (h2:dH c vs (es.toList.map MapEntry.val)) (h3:∀ (i:Nat) (e:MapEntry),es[i]?=some e→e.born=i) (h4:EN es clock)
  (hk:Rv c k kv) (hv:Rv c v vv) (hno:∀ e∈es.toList,e.key≠kv) :
  dH c (ks++[k]) ((es.push ⟨kv,vv,clock⟩).toList.map MapEntry.key)∧dH c (vs++[v]) ((es.push ⟨kv,vv,clock⟩).toList.map MapEntry.val)∧(∀ (i:Nat) (e:MapEntry),(es.push ⟨kv,vv,clock⟩)[i]?=some e→e.born=i)∧EN (es.push ⟨kv,vv,clock⟩) (clock+1):=by
 obtain ⟨rfl,hn⟩:=h4
 refine ⟨?_,?_,?_,by simp [Array.size_push],?_⟩
 ·simp only [Array.toList_push,List.map_append,List.map_cons,List.map_nil]
  exact h1.append (.cons _ _ _ _ hk .nil)
 ·simp only [Array.toList_push,List.map_append,List.map_cons,List.map_nil]
  exact h2.append (.cons _ _ _ _ hv .nil)
 ·intro i e he
  rw [Array.getElem?_push] at he
  split at he
  ·rename_i e1;cases he;exact e1.symm
  ·exact h3 i e he
 ·simp only [Array.toList_push,List.map_append,List.map_cons,List.map_nil]
  refine List.nodup_append.2 ⟨hn,by simp,fun a ha b hb=>?_⟩
  simp only [List.mem_singleton] at hb
  subst hb
  obtain ⟨x,hx,rfl⟩:=List.mem_map.1 ha
  exact hno x hx
theorem A8 {c:Ctx} {ks vs:List AV} {es:Array MapEntry} {clock:Nat} {j:Nat} {v:AV} {vv:Value} (f:MapEntry→MapEntry) (h1:dH c ks (es.toList.map MapEntry.key)) (h2:dH c vs (es.toList.map MapEntry.val)) (h3:∀ (i:Nat) (e:MapEntry),es[i]?=some e→e.born=i) (h4:EN es clock)
  (hb:∀ e,(f e).born=e.born) (hk:∀ e,es[j]?=some e→(f e).key=e.key) (hf:∀ e,(f e).val=vv) (hv:Rv c v vv) :
  dH c ks ((es.modify j f).toList.map MapEntry.key)∧dH c (vs.set j v) ((es.modify j f).toList.map MapEntry.val)∧(∀ (i:Nat) (e:MapEntry),(es.modify j f)[i]?=some e→e.born=i)∧EN (es.modify j f) clock:=by
 have hkeys:=MapKept.modify_keys (es:=es) j f hk
 refine ⟨by rw [hkeys];exact h1,?_,?_,by rw [Array.size_modify];exact h4.1,by rw [hkeys];exact h4.2⟩
 ·have e:(es.modify j f).toList.map MapEntry.val=(es.toList.map MapEntry.val).set j vv:=by
   apply List.ext_getElem?
   intro i
   simp only [List.getElem?_map,Array.getElem?_toList,Array.getElem?_modify,List.getElem?_set,List.length_map,Array.length_toList]
   by_cases hij:j=i
   ·subst hij
    by_cases hlt:j<es.size
    ·simp [hlt,hf]
    ·simp [hlt,Array.getElem?_eq_none (Nat.le_of_not_lt hlt)]
   ·simp [hij]
  rw [e]
  exact h2.set j hv
 ·intro i e he
  rw [Array.getElem?_modify] at he
  split at he
  ·rename_i e1;subst e1
   simp only [Option.map_eq_some_iff] at he
   obtain ⟨e',he',rfl⟩:=he
   rw [hb];exact h3 _ e' he'
  ·exact h3 i e he
theorem BU {t:TypeId} {x k v:Operand} (ho:o.op=.mapUpdate t x k v) (h:oW P t x k v s K):aT P w0 T0 o s K:=by
 unfold oW at h
 cases ht:P.underlying t with
 | none=>rw [ht] at h;exact h.elim
 | some d=>
  rw [ht] at h
  cases d with
  | map kt et=>
   dsimp only at h
   refine aT.mem fun H a w m hm=>?_
   cases hx:s.ev x with
   | own i=>
    rw [hx] at h
    dsimp only at h
    cases hi:lk s.rows i with
    | none=>rw [hi] at h;exact h.elim
    | some it=>
     rw [hi] at h
     cases it with
     | map ks vs=>
      obtain ⟨⟨hox,hok,hov⟩,⟨hK,hkt,hks⟩,hk⟩:=h
      have rx:=hm.ev x hox
      have rk:=hm.ev k hok
      have rv:=hm.ev v hov
      rw [hx] at rx
      obtain ⟨g,es,clock,hv,hg,h1,h2,h3,h4,hh⟩:=(hm.rows i _ hi).2
      have hvx:a.eval x=.map (some g):=by
       generalize a.eval x=vx at rx
       cases rx with|own _ _ _=>exact hv
      obtain ⟨hvk,hwf⟩:=iD _ hkt.1 rk
      obtain ⟨lx,hlx⟩:=hkt.2 hwf
      rw [←hvk] at hlx
      have hck:(Instr.checkKey false 10000 kt (a.eval k)).run P w=.ok () w:=hK.check w false hlx
      have hst:=hK.stays w hlx
      have hget:(getObj g).run P w=.ok (.map es clock) w:=MapKept.run_getObj_map hh
      have hset:∀ o',(setObj g o').run P w=.ok () (setBlock w g o'):=fun o'=>MapKept.run_setObj_map o' hh
      rcases vK w hK hks hkt h1 rk h4.2 with ⟨e1,e2,e3⟩|⟨j,e,e1,e2,e3,e4⟩
      ·obtain ⟨q1,q2,q3,q4⟩:=map_push h1 h2 h3 h4 rk rv e3
       have hrep:=oI hm hi hv hg hh q1 q2 q3 q4
       refine ⟨.dead,undef,_,_,_,?_,.inr ⟨?_,rfl⟩,hrep.hold (.dead _)⟩
       ·simpa only [oQ,BI,e1] using hk
       ·unfold execOp;rw [ho]
        simp [Instr.mapUpdate,run_underlying ht,hvx,Sem.run_bind,Result.andThen,hget,hck,e2,hset]
      ·obtain ⟨q1,q2,q3,q4⟩:=A8 (j:=j) (fun e=>{ e with key:=a.eval k,val:=a.eval v }) h1 h2 h3 h4 (fun _=>rfl) (fun e' he'=>by rw [e2] at he';cases he';exact e3.symm) (fun _=>rfl) rv
       have hrep:=oI hm hi hv hg hh q1 q2 q3 q4
       refine ⟨.dead,undef,_,_,_,?_,.inr ⟨?_,rfl⟩,hrep.hold (.dead _)⟩
       ·simpa only [oQ,BI,e1] using hk
       ·unfold execOp;rw [ho]
        simp [Instr.mapUpdate,run_underlying ht,hvx,Sem.run_bind,Result.andThen,hget,hck,e4,hset,e2,e3,hst]
     | _=>exact h.elim
   | _=>rw [hx] at h;exact h.elim
  | _=>exact h.elim
theorem BR {t:TypeId} {x k:Operand} (ho:o.op=.mapEntry t x k) (h:oV P t x k s K):aT P w0 T0 o s K:=by
 unfold oV at h
 cases ht:P.underlying t with
 | none=>rw [ht] at h;exact h.elim
 | some d=>
  rw [ht] at h
  cases d with
  | map kt et=>
   dsimp only at h
   cases hz:zeroOf P et with
   | none=>rw [hz] at h;exact h.elim
   | some z=>
   rw [hz] at h
   dsimp only at h
   refine aT.mem fun H a w m hm=>?_
   cases hx:s.ev x with
   | own i=>
    rw [hx] at h
    dsimp only at h
    cases hi:lk s.rows i with
    | none=>rw [hi] at h;exact h.elim
    | some it=>
     rw [hi] at h
     cases it with
     | map ks vs=>
      obtain ⟨⟨hox,hok⟩,⟨hez,hK,hkt,hks⟩,hk⟩:=h
      obtain ⟨inf,hinf,hiz,his,hib⟩:=hez.ex
      have hzr:(zeroValue et).run P w=.ok z w:=by simp [zeroValue,typeInfo,hinf,hiz]
      have rx:=hm.ev x hox
      have rk:=hm.ev k hok
      rw [hx] at rx
      obtain ⟨g,es,clock,hv,hg,h1,h2,h3,h4,hh⟩:=(hm.rows i _ hi).2
      have hvx:a.eval x=.map (some g):=by
       generalize a.eval x=vx at rx
       cases rx with|own _ _ _=>exact hv
      obtain ⟨hvk,hwf⟩:=iD _ hkt.1 rk
      obtain ⟨lx,hlx⟩:=hkt.2 hwf
      rw [←hvk] at hlx
      have hck:(Instr.checkKey false 10000 kt (a.eval k)).run P w=.ok () w:=hK.check w false hlx
      have hst:=hK.stays w hlx
      have hget:(getObj g).run P w=.ok (.map es clock) w:=MapKept.run_getObj_map hh
      have hset:∀ o',(setObj g o').run P w=.ok () (setBlock w g o'):=fun o'=>MapKept.run_setObj_map o' hh
      have hlen:ks.length=es.size:=by have:=h1.length;simpa using this.symm
      rcases vK w hK hks hkt h1 rk h4.2 with ⟨e1,e2,e3⟩|⟨j,e,e1,e2,e3,e4⟩
      ·have key:∀ y:AV,Rv (aA T0 w0.heap.size m s w) y z→K (.tup [y,.raw (.int .i64 (DK ks (s.ev k)))]) (s.upd i (.map (oQ ks (s.ev k)) (DL ks vs (s.ev k) y))) →
         ∃ r v s' w' m',K r s'∧((execOp a.eval o).run P w=.ok (.value v) w'∨((execOp a.eval o).run P w=.ok .skip w'∧v=undef))∧bC w0 T0 ((r,v)::H) s' a w' m':=by
        intro y hy hk
        obtain ⟨q1,q2,q3,q4⟩:=map_push h1 h2 h3 h4 rk hy e3
        have hrep:=oI hm hi hv hg hh q1 q2 q3 q4
        have hc:clock=es.size:=h4.1
        refine ⟨_,.tuple #[z,.int .i64 (clock:Nat)],_,setBlock w g (.map (es.push ⟨a.eval k,z,clock⟩) (clock+1)),m,hk,.inl ?_,?_⟩
        ·unfold execOp;rw [ho]
         simp [Instr.mapEntry,run_underlying ht,hvx,Sem.run_bind,Result.andThen,hget,hck,e2,hset,hzr,goInt]
        ·simp only [oQ,DL,e1,DK,hlen,←hc]
         have hle:dK (aA T0 w0.heap.size m s w) (aA T0 w0.heap.size m (s.upd i (.map (ks++[s.ev k]) (vs++[y]))) (setBlock w g (.map (es.push ⟨a.eval k,z,clock⟩) (clock+1)))):=by
          refine ji (Nat.le_refl _) (fun _ _=>rfl) (fun b hb hno=>fO _ (fun e=>hno i _ hi (by rw [hv,e];rfl))) ?_
          intro i' it' b hi' hb _
          have hi'':lk (put s.rows i (.map (ks++[s.ev k]) (vs++[y]))) i'=some it':=hi'
          rw [xO] at hi''
          split at hi''
          ·rename_i e;subst e;exact ⟨_,_,hi,hb⟩
          ·exact ⟨_,_,hi'',hb⟩
         exact hrep.hold (.tup _ [z,.int .i64 (clock:Nat)] (.cons _ _ _ _ (hy.mono hle) (.cons _ _ _ _ (.raw _) .nil)))
       unfold Oo at hk
       split at hk
       ·obtain ⟨⟨rfl,hall⟩,hk⟩:=hk
        refine key _ (.bool false) ?_
        simpa only [E5,mW,e1,Option.bind_none] using hk
       ·obtain ⟨⟨rfl,hall⟩,hk⟩:=hk
        refine key _ (.int _ 0 (Ho _)) ?_
        simpa only [E8,mW,e1,Option.bind_none] using hk
       ·exact hk.elim
      ·obtain ⟨y,hy,hyv⟩:=h2.get' (i:=j) (v:=e.val) (by simp [e2])
       have hmem:y∈vs:=List.mem_of_getElem? hy
       have key:K (.tup [y,.raw (.int .i64 (DK ks (s.ev k)))]) (s.upd i (.map ks vs)) →
         ∃ r v s' w' m',K r s'∧((execOp a.eval o).run P w=.ok (.value v) w'∨((execOp a.eval o).run P w=.ok .skip w'∧v=undef))∧bC w0 T0 ((r,v)::H) s' a w' m':=by
        intro hk
        have hkeys:=MapKept.modify_keys (es:=es) j (fun e=>{ e with key:=a.eval k }) (fun e' he'=>by rw [e2] at he';cases he';exact e3.symm)
        have hvals:(es.modify j fun e=>{ e with key:=a.eval k }).toList.map MapEntry.val=es.toList.map MapEntry.val:=by
         apply List.ext_getElem?
         intro i
         simp only [List.getElem?_map,Array.getElem?_toList,Array.getElem?_modify]
         by_cases hij:j=i
         ·subst hij;cases es[j]?<;>simp
         ·simp [hij]
        have hrep:=oI hm hi hv hg hh (es':=es.modify j fun e=>{ e with key:=a.eval k }) (clock':=clock) (by rw [hkeys];exact h1) (by rw [hvals];exact h2) (by
         intro i e he
         rw [Array.getElem?_modify] at he
         split at he
         ·rename_i e1;subst e1
          simp only [Option.map_eq_some_iff] at he
          obtain ⟨e',he',rfl⟩:=he
          exact h3 _ e' he'
         ·exact h3 i e he) ⟨by rw [Array.size_modify];exact h4.1,by rw [hkeys];exact h4.2⟩
        refine ⟨_,.tuple #[e.val,.int .i64 (j:Nat)],_,setBlock w g (.map (es.modify j fun e=>{ e with key:=a.eval k }) clock),m,hk,.inl ?_,?_⟩
        ·unfold execOp;rw [ho]
         have hbj:e.born=j:=h3 j e e2
         simp [Instr.mapEntry,run_underlying ht,hvx,Sem.run_bind,Result.andThen,hget,hck,e4,hset,e2,e3,hst,goInt,hbj]
        ·simp only [DK,e1]
         have hle:dK (aA T0 w0.heap.size m s w) (aA T0 w0.heap.size m (s.upd i (.map ks vs)) (setBlock w g (.map (es.modify j fun e=>{ e with key:=a.eval k }) clock))):=by
          refine ji (Nat.le_refl _) (fun _ _=>rfl) (fun b hb hno=>fO _ (fun e=>hno i _ hi (by rw [hv,e];rfl))) ?_
          intro i' it' b hi' hb _
          have hi'':lk (put s.rows i (.map ks vs)) i'=some it':=hi'
          rw [xO] at hi''
          split at hi''
          ·rename_i e;subst e;exact ⟨_,_,hi,hb⟩
          ·exact ⟨_,_,hi'',hb⟩
         exact hrep.hold (.tup _ [e.val,.int .i64 (j:Nat)] (.cons _ _ _ _ (hyv.mono hle) (.cons _ _ _ _ (.raw _) .nil)))
       unfold Oo at hk
       split at hk
       ·obtain ⟨⟨rfl,hall⟩,hk⟩:=hk
        have:=List.all_eq_true.1 hall y hmem
        cases y<;>simp [Xm] at this
        refine key ?_
        simpa only [oQ,DL,E5,mW,e1,Option.bind_some,hy] using hk
       ·obtain ⟨⟨rfl,hall⟩,hk⟩:=hk
        have:=List.all_eq_true.1 hall y hmem
        cases y<;>simp [Xn] at this
        subst this
        refine key ?_
        simpa only [oQ,DL,E8,mW,e1,Option.bind_some,hy] using hk
       ·exact hk.elim
     | _=>exact h.elim
   | _=>rw [hx] at h;exact h.elim
  | _=>exact h.elim
theorem x9 {t:TypeId} {x st v:Operand} (ho:o.op=.entryStore t x st v) (h:jL x st v s K):aT P w0 T0 o s K:=by
 unfold jL at h
 refine aT.mem fun H a w m hm=>?_
 cases hx:s.ev x with
 | own i=>
  rw [hx] at h
  dsimp only at h
  cases hi:lk s.rows i with
  | none=>rw [hi] at h;exact h.elim
  | some it=>
   rw [hi] at h
   cases it with
   | map ks vs=>
    dsimp only at h
    split at h
    ·rename_i q n hst
     obtain ⟨⟨hox,hos,hov⟩,⟨h0,hlt⟩,hk⟩:=h
     have rx:=hm.ev x hox
     have rs:=hm.ev st hos
     have rv:=hm.ev v hov
     rw [hx] at rx
     rw [hst] at rs
     obtain ⟨g,es,clock,hv,hg,h1,h2,h3,h4,hh⟩:=(hm.rows i _ hi).2
     have hvx:a.eval x=.map (some g):=by
      generalize a.eval x=vx at rx
      cases rx with|own _ _ _=>exact hv
     have hvs:a.eval st=.int q n:=by
      generalize a.eval st=vx at rs
      cases rs;rfl
     have hget:(getObj g).run P w=.ok (.map es clock) w:=MapKept.run_getObj_map hh
     have hset:∀ o',(setObj g o').run P w=.ok () (setBlock w g o'):=fun o'=>MapKept.run_setObj_map o' hh
     have hlen:vs.length=es.size:=by have:=h2.length;simpa using this.symm
     obtain ⟨q1,q2,q3,q4⟩:=A8 (j:=n.toNat) (fun e=>{ e with val:=a.eval v }) h1 h2 h3 h4 (fun _=>rfl) (fun _ _=>rfl) (fun _=>rfl) rv
     have hrep:=oI hm hi hv hg hh q1 q2 q3 q4
     refine ⟨.dead,undef,_,_,_,hk,.inr ⟨?_,rfl⟩,hrep.hold (.dead _)⟩
     have hfi:es.findIdx? (fun e=>(e.born:Int) == n)=some n.toNat:=by
      rw [Array.findIdx?_eq_some_iff_getElem]
      refine ⟨by omega,?_,fun j hj=>?_⟩
      ·have:=h3 n.toNat _ (Array.getElem?_eq_getElem (by omega:n.toNat<es.size))
       simp only [this,beq_iff_eq];omega
      ·have hj':j<es.size:=by omega
       have:=h3 j _ (Array.getElem?_eq_getElem hj')
       simp only [this,beq_iff_eq,Bool.not_eq_true]
       simp;omega
     unfold execOp;rw [ho]
     simp [Instr.entryStore,hvx,hvs,asInt,asIntOf,Sem.run_bind,Result.andThen,hget,hfi,hset]
    ·exact h.elim
   | _=>exact h.elim
 | _=>rw [hx] at h;exact h.elim
theorem Dx {t:TypeId} {x:Operand} (ho:o.op=.range t x) (h:sS P t x s K):aT P w0 T0 o s K:=by
 unfold sS at h
 cases ht:P.underlying t with
 | none=>rw [ht] at h;exact h.elim
 | some d=>
  rw [ht] at h
  cases d with
  | map kt et=>
   dsimp only at h
   refine aT.mem fun H a w m hm=>?_
   cases hx:s.ev x with
   | own i=>
    rw [hx] at h
    dsimp only at h
    cases hi:lk s.rows i with
    | none=>rw [hi] at h;exact h.elim
    | some it=>
     rw [hi] at h
     cases it with
     | map ks vs=>
      obtain ⟨hox,hk⟩:=h
      have rx:=hm.ev x hox
      rw [hx] at rx
      obtain ⟨hin,g,es,clock,hv,hg,h1,h2,h3,h4,hh⟩:=hm.rows i _ hi
      have hvx:a.eval x=.map (some g):=by
       generalize a.eval x=vx at rx
       cases rx with|own _ _ _=>exact hv
      have hlen:ks.length=es.size:=by have:=h1.length;simpa using this.symm
      have hc:clock=ks.length:=by rw [hlen];exact h4.1
      have hnew:=hm.new (w':=w.alloc (.mapIter (some g) clock #[] clock)) (hm.below.alloc _) (fun b hb=>Below.heap_alloc w _ b hb) (.iter i ks.length []) (.pointer (some ⟨w.heap.size,0,none⟩)) (fun b hb=>by cases hb;exact Nat.le_refl _)
       (fun c hle hw=>⟨w.heap.size,g,#[],clock,rfl,.inl hm.lt,Nat.lt_of_lt_of_le hin hle.n,by rw [hle.m i hin];exact hv,rfl,hc,by rw [hw,←hc];exact heap_alloc_new w _⟩)
      refine ⟨_,_,_,_,_,hk,.inl ?_,hnew.hold (.ptr s.next 0 w.heap.size (Nat.lt_succ_self _) (by show blk (Fv.upd m s.next _ s.next)=_;rw [upd_same];rfl))⟩
      unfold execOp;rw [ho]
      have hr:=run_range_map (P:=P) w t kt et g es clock ht hh
      simp [hvx,hr]
     | _=>exact h.elim
   | _=>rw [hx] at h;exact h.elim
  | string=>
   dsimp only at h
   refine aT.mem fun H a w m hm=>?_
   cases hx:s.ev x with
   | str l=>
    rw [hx] at h
    obtain ⟨hox,hk⟩:=h
    have rx:=hm.ev x hox
    rw [hx] at rx
    have hvx:a.eval x=.string ⟨l.toArray⟩:=by
     generalize a.eval x=vx at rx
     cases rx with|str _ _=>rfl
    have hnew:=hm.new (w':=w.alloc (.stringIter ⟨l.toArray⟩ 0)) (hm.below.alloc _) (fun b hb=>Below.heap_alloc w _ b hb) (.siter l 0) (.pointer (some ⟨w.heap.size,0,none⟩)) (fun b hb=>by cases hb;exact Nat.le_refl _)
     (fun c hle hw=>⟨w.heap.size,rfl,.inl hm.lt,by rw [hw];exact heap_alloc_new w _⟩)
    refine ⟨_,_,_,_,_,hk,.inl ?_,hnew.hold (.ptr s.next 0 w.heap.size (Nat.lt_succ_self _) (by show blk (Fv.upd m s.next _ s.next)=_;rw [upd_same];rfl))⟩
    unfold execOp;rw [ho]
    simp [hvx,Instr.range,run_underlying ht]
   | _=>rw [hx] at h;exact h.elim
  | _=>exact h.elim
theorem GV {x:Operand} {str:Bool} (ho:o.op=.next x str) (h:GU x str s K):aT P w0 T0 o s K:=by
 unfold GU at h
 cases str with
 | true=>
  dsimp only at h
  refine aT.mem fun H a w m hm=>?_
  split at h
  ·rename_i i hx
   split at h
   ·rename_i l p hi
    obtain ⟨hox,hlm,h1,h2⟩:=h
    have rx:=hm.ev x hox
    rw [hx] at rx
    obtain ⟨hin,gi,hvi,hgi,hhi⟩:=hm.rows i _ hi
    have hvx:a.eval x=.pointer (some ⟨gi,0,none⟩):=by
     generalize a.eval x=vx at rx
     cases rx with
     | ptr _ _ g _ hg=>
      have hg':blk (m i)=some g:=hg
      rw [hvi] at hg';cases hg';rfl
    have hsz:(⟨l.toArray⟩:ByteArray).size=l.length:=rfl
    by_cases hp:p<l.length
    ·have hk:=h1 (decide_eq_true (by omega))
     have hr:=Lib.run_next_any_at (P:=P) w gi ⟨l.toArray⟩ p o.type hhi (by rw [hsz];exact hp)
     have hrl:=Lib.rune_le ⟨l.toArray⟩ p
     have hrep:=hm.upd (w':=w.iterAt gi ⟨l.toArray⟩ (p+LU l p)) (hm.below.step rfl rfl rfl (by rw [Lib.iterAt_size];exact Nat.le_refl _) fun k hk hk2=>Lib.iterAt_other w gi k _ _ fun e=>by
       subst e
       rcases hgi with hg|hg
       ·omega
       ·exact hk2 hg) hi (fun b hb hne=>Lib.iterAt_other w gi b _ _ fun e=>hne (by rw [hvi,e];rfl)) (.siter l (p+LU l p)) (fun c hle hw hmm hN=>⟨gi,hvi,hgi,by rw [hw];exact Lib.iterAt_heap w gi _ p _ hhi⟩)
     refine ⟨_,_,_,_,_,hk,.inl ?_,hrep.hold (.tup _ [.bool true,.int .i64 p,.int .i32 (Utf8.decode ⟨l.toArray⟩ p).1] (.cons _ _ _ _ (.bool true) (.cons _ _ _ _ (.int .i64 _ (kY.2 (by omega))) (.cons _ _ _ _ (.int .i32 _ (EK.2 (by unfold RQ;omega))) .nil))))⟩
     unfold execOp;rw [ho]
     simp [hvx,hr];rfl
    ·have hk:=h2 (decide_eq_false (by omega))
     have hr:=Lib.run_next_end_at (P:=P) w gi ⟨l.toArray⟩ p o.type hhi (by rw [hsz];exact hp)
     refine ⟨_,_,_,_,_,hk,.inl ?_,hm.hold (.tup _ [.bool false] (.cons _ _ _ _ (.bool false) .nil))⟩
     unfold execOp;rw [ho]
     simp [hvx,hr]
   ·exact h.elim
  ·exact h.elim
 | false=>
  dsimp only at h
  refine aT.mem fun H a w m hm=>?_
  split at h
  ·rename_i i hx
   split at h
   ·rename_i mp since seen hi
    split at h
    ·rename_i ks vs hmp
     obtain ⟨hox,rfl,hn1,hn2⟩:=h
     have rx:=hm.ev x hox
     rw [hx] at rx
     obtain ⟨hin,gi,q,sn,last,hvi,hgi,hmpn,hmpq,rfl,hlast,hhi⟩:=hm.rows i _ hi
     obtain ⟨g,es,clock,hv,hg,h1,h2,h3,h4,hh⟩:=(hm.rows mp _ hmp).2
     have hqg:q=g:=by
      have hmpq':m mp=.map (some q):=hmpq
      rw [hv] at hmpq';cases hmpq';rfl
     subst hqg
     have hvx:a.eval x=.pointer (some ⟨gi,0,none⟩):=by
      generalize a.eval x=vx at rx
      cases rx with
      | ptr _ _ g' _ hg'=>
       have:blk (m i)=some g':=hg'
       rw [hvi] at this;cases this;rfl
     have hlen:ks.length=es.size:=by have:=h1.length;simpa using this.symm
     have hc:clock=ks.length:=by rw [hlen];exact h4.1
     have hold:∀ y∈es.toList,y.born<ks.length:=fun y hy=>by
      obtain ⟨j,hj⟩:=List.getElem?_of_mem hy
      have hj':es[j]?=some y:=by simpa using hj
      rw [h3 j y hj',hlen];exact (Array.getElem?_eq_some_iff.1 hj').1
     have hinn:∀ e,e∈(leftOf es seen.toArray).toList→∃ j,es[j]?=some e∧e.born=j∧j∉seen:=by
      intro e he
      simp only [leftOf,Array.toList_filter,List.mem_filter,Bool.not_eq_true',Array.contains_eq_mem,List.mem_toArray,decide_eq_false_iff_not] at he
      obtain ⟨j,hj⟩:=List.getElem?_of_mem he.1
      have hj':es[j]?=some e:=by simpa using hj
      have:=h3 j e hj'
      exact ⟨j,hj',this,by rw [←this];exact he.2⟩
     have hall0:(leftOf es seen.toArray).size=0→∀ j,j<ks.length→j∈seen:=by
      intro hz j hj
      by_cases hjs:j∈seen
      ·exact hjs
      ·have hj':j<es.size:=by omega
       have hm0:es[j]∈(leftOf es seen.toArray).toList:=by
        simp only [leftOf,Array.toList_filter,List.mem_filter,Bool.not_eq_true',Array.contains_eq_mem,List.mem_toArray,decide_eq_false_iff_not]
        exact ⟨by simp,by rw [h3 j _ (Array.getElem?_eq_getElem hj')];exact hjs⟩
       have:(leftOf es seen.toArray).toList=[]:=List.eq_nil_of_length_eq_zero (by simpa using hz)
       rw [this] at hm0;cases hm0
     rcases run_next_at (P:=P) w o.type gi q ks.length last seen.toArray es clock hhi hh hold (Nat.le_of_eq hlast.symm) with ⟨hz,hr⟩|⟨e,he,w1,hw1,hr⟩
     ·refine ⟨_,_,s,w,m,hn2 (hall0 hz),.inl ?_,hm.hold (.tup _ [.bool false] (.cons _ _ _ _ (.bool false) .nil))⟩
      unfold execOp;rw [ho];simp [hvx,hr]
     ·obtain ⟨j,hj1,hj2,hj3⟩:=hinn e he
      obtain ⟨kx,hkx,hkv⟩:=h1.get' (i:=j) (v:=e.key) (by simp [hj1])
      obtain ⟨vx,hvx2,hvv⟩:=h2.get' (i:=j) (v:=e.val) (by simp [hj1])
      have hm1:bC w0 T0 H s a w1 m:=by
       rcases hw1 with rfl|rfl
       ·exact hm
       ·exact hm.drew
      have hh1:w1.heap=w.heap:=by rcases hw1 with rfl|rfl<;>rfl
      have hle0:dK (aA T0 w0.heap.size m s w) (aA T0 w0.heap.size m s w1):=⟨Nat.le_refl _,fun _ _=>rfl,fun b hb _=>⟨hb,by show w1.heap[b]?=_;rw [hh1];rfl⟩⟩
      have hrep:bC w0 T0 H (s.upd i (.iter mp ks.length (seen++[j]))) a (setBlock w1 gi (.mapIter (some q) ks.length (seen.toArray.push e.born) clock)) m:=
       hm1.upd (bK.setBlock hm1.below hgi _) hi (fun b hb hne=>fO _ (fun e=>hne (by rw [hvi,e];rfl))) _ (fun c hle hw hmm hN=>⟨gi,q,seen.toArray.push e.born,clock,hvi,hgi,by rw [hN];exact hmpn,by rw [hmm];exact hmpq,by rw [hj2];simp,hc,by rw [hw];exact tX (ob:=.mapIter (some q) ks.length seen.toArray last) _ (by rw [hh1];exact hhi)⟩)
      refine ⟨_,.tuple #[.bool true,e.key,e.val],_,_,m,hn1 j kx vx hj3 hkx hvx2,.inl ?_,hrep.hold ?_⟩
      ·unfold execOp;rw [ho];simp [hvx,hr]
      ·have hle:dK (aA T0 w0.heap.size m s w1) (aA T0 w0.heap.size m (s.upd i (.iter mp ks.length (seen++[j]))) (setBlock w1 gi (.mapIter (some q) ks.length (seen.toArray.push e.born) clock))):=by
        refine ji (Nat.le_refl _) (fun _ _=>rfl) (fun b hb hno=>fO _ (fun e=>hno i _ hi (by rw [hvi,e];rfl))) ?_
        intro i' it' b hi' hb _
        have hi'':lk (put s.rows i (.iter mp ks.length (seen++[j]))) i'=some it':=hi'
        rw [xO] at hi''
        split at hi''
        ·rename_i e;subst e;exact ⟨_,_,hi,hb⟩
        ·exact ⟨_,_,hi'',hb⟩
       exact .tup _ [.bool true,e.key,e.val] (.cons _ _ _ _ (.bool true) (.cons _ _ _ _ ((hkv.mono hle0).mono hle) (.cons _ _ _ _ ((hvv.mono hle0).mono hle) .nil)))
    ·exact h.elim
   ·exact h.elim
  ·exact h.elim
theorem Dk {x:Operand} (ho:o.op=.entry x) (h:zL x s K):aT P w0 T0 o s K:=by
 unfold zL at h
 refine aT.mem fun H a w m hm=>?_
 split at h
 ·rename_i i hx
  split at h
  ·rename_i mp since seen hi
   split at h
   ·rename_i j hj
    split at h
    ·rename_i ks vs hmp
     obtain ⟨hox,rfl,hn1,hn2⟩:=h
     have rx:=hm.ev x hox
     rw [hx] at rx
     obtain ⟨hin,gi,q,sn,last,hvi,hgi,hmpn,hmpq,rfl,hlast,hhi⟩:=hm.rows i _ hi
     obtain ⟨g,es,clock,hv,hg,h1,h2,h3,h4,hh⟩:=(hm.rows mp _ hmp).2
     have hqg:q=g:=by
      have hmpq':m mp=.map (some q):=hmpq
      rw [hv] at hmpq';cases hmpq';rfl
     subst hqg
     have hvx:a.eval x=.pointer (some ⟨gi,0,none⟩):=by
      generalize a.eval x=vx at rx
      cases rx with
      | ptr _ _ g' _ hg'=>
       have:blk (m i)=some g':=hg'
       rw [hvi] at this;cases this;rfl
     have hlen:ks.length=es.size:=by have:=h1.length;simpa using this.symm
     have hc:clock=ks.length:=by rw [hlen];exact h4.1
     have hj':j<es.size:=by omega
     obtain ⟨sn',rfl⟩:∃ l,seen=l++[j]:=by
      rw [List.getLast?_eq_some_iff] at hj;exact hj
     have hb:es[j].born=j:=h3 j _ (Array.getElem?_eq_getElem hj')
     have hnd:(es.toList.map (·.born)).Nodup:=by
      have e:es.toList.map (·.born)=List.range es.size:=by
       refine List.ext_getElem (by simp) fun k k1 k2=>?_
       have hk:k<es.size:=by simpa using k1
       simp only [List.getElem_map,List.getElem_range,Array.getElem_toList]
       exact h3 k _ (Array.getElem?_eq_getElem hk)
      rw [e];exact List.nodup_range
     have hr:=run_entry_at (P:=P) w gi q ks.length sn'.toArray es clock es[j] (by have h':=hhi;rw [hlast] at h';rw [hb,hc];refine Eq.trans (b:=(aA T0 w0.heap.size m s w).w.heap[gi]?) rfl (h'.trans (by simp))) hh (by simp) hnd
     obtain ⟨kx,hkx,hkv⟩:=h1.get' (i:=j) (v:=es[j].key) (by simp [hj'])
     obtain ⟨vx,hvx2,hvv⟩:=h2.get' (i:=j) (v:=es[j].val) (by simp [hj'])
     refine ⟨_,.tuple #[es[j].key,es[j].val],s,w,m,hn2 kx vx hkx hvx2,.inl ?_,hm.hold (.tup _ [es[j].key,es[j].val] (.cons _ _ _ _ hkv (.cons _ _ _ _ hvv .nil)))⟩
     unfold execOp;rw [ho];simp [hvx,hr]
    ·exact h.elim
   ·exact h.elim
  ·exact h.elim
 ·exact h.elim
end
end Go.Fv
/-
 Operations that are carried out only under a condition: what they leave, said under that condition.
-/
namespace Go.Fv
open Go.RowKit
def WA (s:S):Operand→Bool
 | .tmp t=>match s.get t with | .opt c _=>c|_=>true
 | _=>true
def WB (s:S):Operand→AV
 | .tmp t=>match s.get t with | .opt _ v=>v|v=>v
 | x=>s.ev x
def kV (s:S):List Operand→List (Nat × AV)
 | []=>[]
 | .tmp t::l=>match s.get t with | .opt _ v=>(t,v)::kV s l|_=>kV s l
 | _::l=>kV s l
def fD (s:S):List Operand→Bool
 | []=>true
 | .tmp t::l=>match s.get t with | .opt c _=>c && fD s l|_=>fD s l
 | _::l=>fD s l
def peel (s:S) (l:List Operand):S:={ s with env:=kV s l++s.env }
def Kv:Op→List Operand
 | .move x=>[x]
 | .assign x=>[x]
 | .binOp _ _ x y _=>[x,y]
 | .unOp _ _ x=>[x]
 | .index _ x i=>[x,i]
 | .indexAddr _ x i=>[x,i]
 | .lookup _ x i _=>[x,i]
 | .load _ x=>[x]
 | .field _ x _=>[x]
 | .fieldAddr _ x _=>[x]
 | .nilCheck x=>[x]
 | .convert _ _ x=>[x]
 | .extract x _=>[x]
 | .call c=>c.args.toList
 | .slice _ x lo hi mx=>x::(lo.toList++(hi.toList++mx.toList))
 | _=>[]
def WU (op:BinOp) (x y:AV):Option AV:=
 match x,y with
 | .int k a,.int _ b=>match op with
  | .add=>some (.int k (a+b))
  | .sub=>some (.int k (a - b))
  | .mul=>some (.int k (a*b))
  | .quo=>some (.int k (a.tdiv b))
  | .rem=>some (.int k (a.tmod b))
  | .and=>some (.int k (iJ .and k a b))
  | .or=>some (.int k (iJ .or k a b))
  | .xor=>some (.int k (iJ .xor k a b))
  | .andNot=>some (.int k (iJ .andNot k a b))
  | .shl=>some (.int k (V9 k a b))
  | .shr=>some (.int k (Ll k a b))
  | .eql=>some (.bool (decide (a=b)))
  | .neq=>some (.bool (decide (¬a=b)))
  | .lss=>some (.bool (decide (a<b)))
  | .leq=>some (.bool (decide (a≤b)))
  | .gtr=>some (.bool (decide (b<a)))
  | .geq=>some (.bool (decide (b≤a)))
 | .str a,.str b=>match op with
  | .add=>some (.str (a++b))
  | .eql=>some (.bool (decide (a=b)))
  | .neq=>some (.bool (decide (¬a=b)))
  | .lss=>some (.bool (Op.bytesLess a b))
  | .leq=>some (.bool (Op.bytesLess a b || decide (a=b)))
  | .gtr=>some (.bool (!(Op.bytesLess a b || decide (a=b))))
  | .geq=>some (.bool (!Op.bytesLess a b))
  | _=>none
 | .bool a,.bool b=>match op with
  | .eql=>some (.bool (decide (a=b)))
  | .neq=>some (.bool (decide (¬a=b)))
  | _=>none
 | .agg a,.agg b=>match op with
  | .eql=>some (.bool (Hf a b))
  | .neq=>some (.bool (!Hf a b))
  | _=>none
 | _,_=>none
def WV (s:S):AV→Option AV
 | .str l=>some (.int .i64 l.length)
 | .ro r=>some (.int .i64 r.len)
 | .own i=>match lk s.rows i with
  | some (.row _ r)=>some (.int .i64 r.len)
  | _=>none
 | .nilS=>some (.int .i64 0)
 | _=>none
def gHead:List AV→Option AV
 | x::_=>some x
 | []=>none
def Ij (P:Program) (t:TypeId) (cs:List AV):Option AV:=
 match P.underlying t with
 | some d=>bif EP d then some (.agg (cs.take (P.cellsOf t))) else gHead cs
 | none=>none
def XC (s:S) (m:Bool) (x y:Operand):Option AV:=match s.ev x,s.ev y with
 | .int k a,.int _ b=>some (.int k (if m then max a b else min a b))
 | _,_=>none
def U8 (P:Program) (t:TypeId) (m:Option (List AV × List AV)) (k:AV) (ok:Bool):Option AV:=
 match P.underlying t with
 | some (.map _ et)=>match zeroOf P et with
  | some z=>match m with
   | some (ks,vs)=>match z with
    | .bool _=>some (bif ok then .tup [.bool (E5 ks vs k),.bool (dL ks k).isSome] else .bool (E5 ks vs k))
    | .int q _=>some (bif ok then .tup [.int q (E8 ks vs k),.bool (dL ks k).isSome] else .int q (E8 ks vs k))
    | .string _=>some (bif ok then .tup [.str (Oz ks vs k),.bool (dL ks k).isSome] else .str (Oz ks vs k))
    | z=>some (bif ok then .tup [uG ks vs k (FK z),.bool (dL ks k).isSome] else uG ks vs k (FK z))
   | none=>none
  | none=>none
 | _=>none
def TY (P:Program) (s:S):Op→Option AV
 | .move (.const (.slice _ _ _))=>none
 | .assign (.const (.slice _ _ _))=>none
 | .move x=>some (s.ev x)
 | .assign x=>some (s.ev x)
 | .binOp op _ x y _=>WU op (s.ev x) (s.ev y)
 | .unOp op _ x=>match op,s.ev x with
  | .not,.bool b=>some (.bool (!b))
  | _,_=>none
 | .call c=>match c.callee,c.args.toList with
  | .builtin .len,[x]=>WV s (s.ev x)
  | .builtin .min,[x,y]=>XC s false x y
  | .builtin .max,[x,y]=>XC s true x y
  | _,_=>none
 | .index _ x i=>match s.ev x,s.ev i with
  | .str l,.int _ n=>some (.int .u8 (l.getD n.toNat 0).toNat)
  | _,_=>none
 | .indexAddr t x i=>match s.ev x,s.ev i with
  | .ro r,.int _ n=>some (.cell (aN r n.toNat))
  | .own j,.int _ n=>match lk s.rows j with
   | some (.row _ r)=>some (.elt j r.sz n.toNat 0)
   | _=>none
  | .ptr j off,.int _ n=>match P.underlying t with
   | some (.array _ e)=>some (.ptr j (off+n.toNat*P.cellsOf e))
   | _=>none
  | .cell cs,.int _ n=>match P.underlying t with
   | some (.array _ e)=>some (.cell (cs.drop (n.toNat*P.cellsOf e)))
   | _=>none
  | .elt j sz idx off,.int _ n=>match P.underlying t with
   | some (.array _ e)=>some (.elt j sz idx (off+n.toNat*P.cellsOf e))
   | _=>none
  | _,_=>none
 | .nilCheck x=>some (s.ev x)
 | .lookup t x i ok=>U8 P t (mapOf s (s.ev x)) (s.ev i) ok
 | .convert _ b x=>match P.underlying b,s.ev x with
  | some (.int k),.int _ n=>some (.int k n)
  | _,_=>none
 | .load t x=>match s.ev x with
  | .cell cs=>Ij P t cs
  | .ptr i off=>match lk s.rows i with
   | some (.box _ cs)=>Ij P t (cs.drop off)
   | _=>none
  | .elt i _ idx off=>match lk s.rows i with
   | some (.row _ r)=>Ij P t ((aN r idx).drop off)
   | _=>none
  | _=>none
 | .field t x k=>match P.underlying t,s.ev x with
  | some (.struct fs),.agg cs=>match fs[k]? with
   | some f=>Ij P f.type (cs.drop f.offset)
   | none=>none
  | _,_=>none
 | .fieldAddr t x k=>match P.underlying t with
  | some (.struct fs)=>match fs[k]? with
   | some f=>match s.ev x with
    | .cell cs=>some (.cell (cs.drop f.offset))
    | .ptr i off=>some (.ptr i (off+f.offset))
    | .elt i sz idx off=>some (.elt i sz idx (off+f.offset))
    | _=>none
   | none=>none
  | _=>none
 | .extract x i=>match s.ev x with
  | .tup l=>l[i]?
  | _=>none
 | .slice _ x lo hi _=>match s.ev x with
  | .str l=>match bnd s lo 0,bnd s hi l.length with
   | some p,some q=>some (.str ((l.drop p.toNat).take (q.toNat - p.toNat)))
   | _,_=>none
  | .ro r=>match bnd s lo 0,bnd s hi r.len with
   | some p,some q=>some (.ro (dJ r p.toNat q.toNat))
   | _,_=>none
  | _=>none
 | _=>none
def vS (s:S):Op→Option (Prop × Bool)
 | .pick c x y=>match WB s c,WB s x,WB s y with
  | .bool b,.bool p,.bool q=>some (WA s c=true∧(b=true→WA s x=true)∧(b=false→WA s y=true),cond b p q)
  | _,_,_=>none
 | _=>none
section
variable {w0 w:World} {T0:Bs} {H:List (AV × Value)} {s:S} {a:Act} {m:Nat→Value}
theorem Rq (h:bC w0 T0 H s a w m) {x:Operand} (hx:au x) (hc:WA s x=true):Rv (aA T0 w0.heap.size m s w) (WB s x) (a.eval x):=by
 cases x with
 | tmp t=>
  simp only [WA,WB,S.get,Act.eval] at *
  cases hl:lk s.env t with
  | none=>exact .dead _
  | some v=>
   have hv:=h.env t v hl
   rw [hl] at hc
   cases v<;>try exact hv
   cases hv with
   | opt _ _ _ hb hv _=>exact hv hc
 | const v=>exact h.ev _ hx
 | func f=>exact h.ev _ hx
 | global g=>exact h.ev _ hx
theorem IX {l:List Operand} {r:Nat} {v:AV} (hc:fD s l=true) (h:lk (kV s l) r=some v):s.get r=.opt true v:=by
 induction l with
 | nil=>simp [kV,lk] at h
 | cons x l ih=>
  cases x with
  | tmp t=>
   simp only [kV] at h
   simp only [fD] at hc
   split at h
   ·rename_i c v' he
    rw [he] at hc
    simp only [Bool.and_eq_true] at hc
    simp only [lk] at h
    split at h
    ·rename_i e;subst e;cases h;rw [he,hc.1]
    ·exact ih hc.2 h
   ·rename_i hne
    refine ih ?_ h
    split at hc
    ·rename_i c v' he;exact absurd he (hne c v')
    ·exact hc
  | const v=>exact ih (by simpa [fD] using hc) (by simpa [kV] using h)
  | func f=>exact ih (by simpa [fD] using hc) (by simpa [kV] using h)
  | global g=>exact ih (by simpa [fD] using hc) (by simpa [kV] using h)
theorem Fz {α:Type}:∀ (l l':List (Nat × α)) (i:Nat),lk (l++l') i=match lk l i with|some v=>some v|none=>lk l' i
 | [],_,_=>rfl
 |(j,v)::l,l',i=>by
  simp only [List.cons_append,lk]
  split
  ·rfl
  ·exact Fz l l' i
theorem bC.peel (h:bC w0 T0 H s a w m) {l:List Operand} (hc:fD s l=true):bC w0 T0 H (Fv.peel s l) a w m:=
 {size:=h.size,nodef:=h.nodef,below:=h.below,held:=h.held,rows:=h.rows,sep:=h.sep,
  env:=by
   intro r v hv
   have hv':lk (kV s l++s.env) r=some v:=hv
   rw [Fz] at hv'
   cases hq:lk (kV s l) r with
   | none=>rw [hq] at hv';exact h.env r v hv'
   | some v'=>
    rw [hq] at hv';cases hv'
    have:=IX hc hq
    simp only [S.get] at this
    cases hl:lk s.env r with
    | none=>rw [hl] at this;cases this
    | some y=>
     rw [hl] at this
     cases this
     have:=h.env r _ hl
     cases this with
     | opt _ _ _ _ hx _=>exact hx rfl }
theorem bC.Wi {l:List Operand} (hpc:fD s l=true) (h:bC w0 T0 H (Fv.peel s l) a w m):bC w0 T0 H s a w m:=
 {size:=h.size,nodef:=h.nodef,below:=h.below,held:=h.held,rows:=h.rows,sep:=h.sep,
  env:=by
   intro r v hv
   cases hq:lk (kV s l) r with
   | none=>exact h.env r v (by show lk (kV s l++s.env) r=some v;rw [Fz,hq];exact hv)
   | some v'=>
    have hx:Rv (aA T0 w0.heap.size m s w) v' (a.tmps.getD r undef):=h.env r v' (by show lk (kV s l++s.env) r=some v';rw [Fz,hq])
    have hc:=IX hpc hq
    simp only [S.get,hv] at hc
    subst hc
    exact .opt _ _ _ hx.ids (fun _=>hx) (fun e=>by cases e) }
end
end Go.Fv
/-
 Package-level variables of an integer type: each holds an integer, which one is not told.
-/
namespace Go.Fv
open Go.RowKit
def Aw (P:Program) (g:Nat):Option IntKind:=match P.globals[g]? with
 | some gl=>match P.underlying gl.type with
  | some (.int k)=>some k
  | _=>none
 | none=>none
inductive GK where
 | int (k:IntKind)
 | tab
 | pow
 | err
def Ey (P:Program) (g:Nat):Bool:=match P.globals[g]? with
 | some gl=>gl.name == "math/bits.deBruijn64tab"
 | none=>false
def IZ (P:Program) (g:Nat):Bool:=match P.globals[g]? with
 | some gl=>gl.name == "internal/strconv.uint64pow10"
 | none=>false
def MK (P:Program) (g:Nat):Bool:=match P.globals[g]? with
 | some gl=>gl.name == "strconv.ErrSyntax" || gl.name == "strconv.ErrRange"
 | none=>false
def Ub (P:Program) (g:Nat):Option GK:=match Aw P g with
 | some k=>some (.int k)
 | none=>if Ey P g then some .tab else if IZ P g then some .pow else if MK P g then some .err else none
def JU:GK→Obj→Prop
 | .int k,ob=>∃ (n:Int) (t:TypeId),jf k n∧ob=.cells #[.int k n] t (0,0)
 | .tab,ob=>∃ t:TypeId,ob=.cells (Lib.deBruijn64tab.map fun (z:Nat)=>Value.int .u8 (z:Int)).toArray t (0,0)
 | .pow,ob=>∃ t:TypeId,ob=.cells (Lib.pow10Tab.map fun z=>Value.int .u64 z).toArray t (0,0)
 | .err,ob=>∃ (t tp:TypeId) (p:Value),ob=.cells #[.iface tp p] t (0,0)
def kX (P:Program) (w:World):Prop:=∀ (g:Nat) (k:GK),Ub P g=some k→∃ ob,w.heap[g]?=some ob∧JU k ob
theorem Uc {P:Program} {g:Nat} {k:IntKind} (h:Aw P g=some k):Ub P g=some (.int k):=by unfold Ub;rw [h]
theorem kX.int {P:Program} {w:World} (hw:kX P w) {g:Nat} {k:IntKind} (h:Aw P g=some k):∃ (n:Int) (t:TypeId),jf k n∧w.heap[g]?=some (.cells #[.int k n] t (0,0)):=by
 obtain ⟨ob,hh,n,t,hk,rfl⟩:=hw g _ (Uc h)
 exact ⟨n,t,hk,hh⟩
class qB (P:Program) (w0:World) (T0:Bs):Prop where
 ok:kX P w0
 ng:∀ (g:Nat) (k:GK),Ub P g=some k→¬(T0.g g∧T0.a g)
theorem kX.later {P:Program} {w0 w:World} (g0:Nat→Prop) (h:kX P w0) (hb:bK g0 w0 w) (hn:∀ (g:Nat) (k:GK),Ub P g=some k→¬g0 g):kX P w:=by
 intro g k hg
 obtain ⟨ob,hh,ho⟩:=h g k hg
 have hlt:=(Array.getElem?_eq_some_iff.1 hh).1
 exact ⟨ob,by rw [hb.block g hlt (hn g k hg)];exact hh,ho⟩
section
variable {P:Program} {w0:World} {T0:Bs} {o:Oper} {s:S} {K:AV→S→Prop}
theorem qB.at [h:qB P w0 T0] {H:List (AV × Value)} {s:S} {a:Act} {w:World} {m:Nat→Value} (hm:bC w0 T0 H s a w m):kX P w:=h.ok.later _ hm.below h.ng
class Yu where
 k:Int→Prop
def JO (k:IntKind) [K:Yu]:Prop:=∀ n,jf k n→K.k n
theorem JO.intro {k:IntKind} {K:Int→Prop} (h:∀ n,jf k n→K n):@JO k ⟨K⟩:=h
theorem JO.i64 {K:Int→Prop} (h:∀ n,(-9223372036854775808≤n∧n≤9223372036854775807)→K n):@JO .i64 ⟨K⟩:=fun n hn=>h n (kY.1 hn)
def LG (P:Program) (t:TypeId) (g:Nat) (s:S) (K:AV→S→Prop):Prop:=
 match Aw P g,P.underlying t with
 | some k,some (.int k')=>aZ (k=k'∧P.cellsOf t=1) (@JO k ⟨fun n=>K (.int k n) s⟩)
 | _,_=>False
theorem GI [hG:qB P w0 T0] {t:TypeId} {g:Nat} (ho:o.op=.load t (.global g)) (h:LG P t g s K):cZ P w0 T0 o s K:=by
 unfold LG at h
 intro H a w m hm
 split at h
 ·rename_i k k' hk ht
  obtain ⟨⟨rfl,hc⟩,h⟩:=h
  obtain ⟨n,t',hn,hh⟩:=(qB.at (P:=P) hm).int hk
  have hl:gK P t [.int k n] (fun v=>v=.int k n):=by
   unfold gK
   rw [ht]
   simp [EP,Fh,qA]
  have hv:cO (aA T0 w0.heap.size m s w) [.int k n] [.int k n]:=.cons _ _ _ _ (.int k n hn) rfl .nil
  obtain ⟨r,v,hr,hrun,hrv⟩:=nR (c:=aA T0 w0.heap.size m s w) (a:=⟨g,0,none⟩) hl hv (fun j u hu=>by
   have:=pF hh (j:=j) (u:=u) (by simpa using hu)
   exact this)
  subst hr
  refine ⟨_,v,h n hn,?_,hrv⟩
  have hr':(loadVar t ⟨g,0,none⟩).run P w=.ok v w:=hrun
  unfold execOp;rw [ho]
  simp [Act.eval,Instr.loadAt,Instr.sureAddr,hr']
 ·exact h.elim
end
end Go.Fv
/-
 append to a nil slice that stands in a slot.
-/
namespace Go.Fv
open Go.RowKit
section
variable {P:Program} {w0:World} {T0:Bs} {o:Oper} {s:S} {K:AV→S→Prop}
def jK (P:Program) (t t2:TypeId) (x y:Operand) (s:S) (K:AV→S→Prop):Prop:=
 match x with
 | .tmp r=>match s.get r with
  | .nilS=>match P.underlying t with
   | some (.slice e)=>match zeroOf P e with
    | some z=>aZ (bH P e z) (kG P t t2 (.tmp r) y ((s.add (.row e (jO z 0))).set r (.own s.next)) K)
    | none=>False
   | _=>False
  | .pre i n=>match lk s.rows i with
   | some (.row _ r')=>aZ (r'.len=n) (kG P t t2 (.tmp r) y (s.set r (.own i)) K)
   | _=>False
  | _=>kG P t t2 (.tmp r) y s K
 | .const v=>match v with
  | .slice none 0 0=>match P.underlying t with
   | some (.slice e)=>match zeroOf P e with
    | some z=>aZ (bH P e z) (jJ P t t2 (.own s.next) y (s.add (.row e (jO z 0))) K)
    | none=>False
   | _=>False
  | v=>kG P t t2 (.const v) y s K
 | x=>kG P t t2 x y s K
theorem bC.QN {H:List (AV × Value)} {s:S} {a:Act} {w:World} {m:Nat→Value} (h:bC w0 T0 H s a w m) {r:Nat} {x:AV} (hx:Rv (aA T0 w0.heap.size m s w) x (a.tmps.getD r undef)):bC w0 T0 H (s.set r x) a w m:=
 {size:=h.size,nodef:=h.nodef,below:=h.below,held:=h.held,rows:=h.rows,sep:=h.sep,
  env:=by
   intro q y hy
   have hy':(if r=q then some x else lk s.env q)=some y:=hy
   split at hy'
   ·rename_i e;subst e;cases hy';exact hx
   ·exact h.env q y hy' }
theorem qj {t t2:TypeId} {x y:Operand} (ho:o.op=.call { callee:=.builtin .append,args:=#[x,y],argTypes:=#[t,t2] }) (hx:au x) (h:jK P t t2 x y s K):aT P w0 T0 o s K:=by
 unfold jK at h
 split at h
 ·rename_i r
  split at h
  ·rename_i hr
   split at h
   ·rename_i e he
    split at h
    ·rename_i z hz
     obtain ⟨hez,h⟩:=h
     intro H a w next Q ⟨m,hm⟩ hn
     have hl:lk s.env r=some .nilS:=by
      simp only [S.get] at hr
      cases hq:lk s.env r with
      | none=>rw [hq] at hr;cases hr
      | some y=>rw [hq] at hr;exact congrArg some hr
     have hv:a.tmps.getD r undef=.slice none 0 0:=by
      have:=hm.env r _ hl
      generalize a.tmps.getD r undef=v at this
      cases this;rfl
     have h1:=zG hm hez
     have h2:=h1.mO.QN (r:=r) (x:=.own s.next) (by rw [hv];exact h1.held _ (.head _))
     exact iq ho hx h H a w next Q ⟨_,h2⟩ hn
    ·exact h.elim
   ·exact h.elim
  ·rename_i i n hr
   split at h
   ·rename_i e r' hi
    obtain ⟨hrn,h⟩:=h
    intro H a w next Q ⟨m,hm⟩ hn
    have hl:lk s.env r=some (.pre i n):=by
     simp only [S.get] at hr
     cases hq:lk s.env r with
     | none=>rw [hq] at hr;cases hr
     | some y=>rw [hq] at hr;exact congrArg some hr
    have hx2:=hm.env r _ hl
    obtain ⟨k,cells,hrc,hk,how,hO⟩:=(hm.rows i _ hi).2
    have hv:Rv (aA T0 w0.heap.size m s w) (.own i) (a.tmps.getD r undef):=by
     generalize a.tmps.getD r undef=v at hx2
     cases hx2 with
     | pre _ _ l cap ad hi2 hv hnl=>
      have hv':m i=.slice ad l cap:=hv
      have hln:l=n:=by
       rcases how.2 with ⟨hv2,hq⟩|⟨g,cap2,cur,fz,hv2,_⟩
       ·rw [hv2] at hv';cases hv';omega
       ·rw [hv2] at hv';cases hv';omega
      subst hln
      rw [←hv]
      exact .own i hi2 (by rw [hv];rfl)
    exact iq ho hx h H a w next Q ⟨_,hm.QN hv⟩ hn
   ·exact h.elim
  ·exact iq ho hx h
 ·split at h
  ·split at h
   ·rename_i e he
    split at h
    ·rename_i z hz
     obtain ⟨hez,h⟩:=h
     refine aT.mem fun H a w m hm=>?_
     have h1:=zG hm hez
     obtain ⟨r,v,s',w',m',hk,hr,hv⟩:=rO (x:=.const (.slice none 0 0)) ho h1.mO (h1.held _ (.head _)) h
     exact ⟨r,v,s',w',m',hk,hr,hv⟩
    ·exact h.elim
   ·exact h.elim
  ·exact iq ho hx h
 ·exact iq ho hx h
end
end Go.Fv
