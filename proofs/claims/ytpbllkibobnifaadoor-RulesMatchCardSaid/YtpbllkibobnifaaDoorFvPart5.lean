/-
  A part of the proof of the claim: walks over the program's functions and the plain laws that these need. No condition of its own.
-/
import Derived.Test.YtpbllkibobnifaaDoorFvPart4
import Derived.Laws.StructEq
import Derived.Laws.Pointers
import Derived.Lib.SliceRun
import Derived.WalkSpells
import Derived.WideLaws
import Derived.Laws.IdiomStrings
import Derived.MapKept
import Derived.Maps.Keyed
import Derived.Maps.RangeRun
import Derived.Laws.IdiomRangeMap
import Derived.ChangeMaps4
set_option linter.unusedSectionVars false
set_option linter.unusedVariables false
set_option linter.unusedSimpArgs false
set_option linter.unnecessarySimpa false
/-
 Equality of structs, cell by cell; a slice compared with nil.
-/
namespace Go.Fv
open Go.RowKit
inductive Kd where
 | b
 | i (k:IntKind)
 | s
def kd:AV→Option Kd
 | .bool _=>some .b
 | .int k _=>some (.i k)
 | .str _=>some .s
 | _=>none
def AO:List AV→Option (List Kd)
 | []=>some []
 | x::l=>match kd x with
  | some k=>match AO l with
   | some r=>some (k::r)
   | none=>none
  | none=>none
def Am (P:Program) (fk:TypeId→Option (List Kd)):Nat→List Field→Option (List Kd)
 | _,[]=>some []
 | off,f::fs=>match fk f.type with
  | some ks=>bif (decide (f.offset=off) && !(f.name == "_") && decide (P.cellsOf f.type=ks.length)) then match Am P fk (off+ks.length) fs with
    | some r=>some (ks++r)
    | none=>none
   else none
  | none=>none
def flatK (P:Program):Nat→TypeId→Option (List Kd)
 | 0,_=>none
 | d+1,t=>match P.underlying t with
  | some .bool=>some [.b]
  | some (.int k)=>some [.i k]
  | some .string=>some [.s]
  | some (.struct fs)=>bif P.stoodInHeld t then none else Am P (flatK P d) 0 fs.toList
  | _=>none
def Vo (P:Program) (t:TypeId) (ks:List Kd):Prop:=flatK P 8 t=some ks∧P.eqGuardType P.depth t=false
def eq1:AV→AV→Bool
 | .bool a,.bool b=>decide (a=b)
 | .int _ a,.int _ b=>decide (a=b)
 | .str a,.str b=>decide (a=b)
 | _,_=>false
def Hf:List AV→List AV→Bool
 | [],[]=>true
 | x::xs,y::ys=>eq1 x y && Hf xs ys
 | _,_=>false
theorem pJ:∀ {l:List AV} {ks:List Kd},AO l=some ks→l.length=ks.length
 | [],_,h=>by cases h;rfl
 | x::l,ks,h=>by
  simp only [AO] at h
  split at h
  ·split at h
   ·rename_i r hr;cases h;simp [pJ hr]
   ·cases h
  ·cases h
theorem xK:∀ {k1 k2:List Kd} {l:List AV},AO l=some (k1++k2)→AO (l.take k1.length)=some k1∧AO (l.drop k1.length)=some k2
 | [],k2,l,h=>by simpa [AO] using h
 | k::k1,k2,[],h=>by simp [AO] at h
 | k::k1,k2,x::l,h=>by
  simp only [AO,List.cons_append] at h
  split at h
  ·rename_i q hq
   split at h
   ·rename_i r hr
    cases h
    obtain ⟨h1,h2⟩:=xK (k1:=k1) hr
    refine ⟨?_,by simpa using h2⟩
    simp only [List.length_cons,List.take_succ_cons,AO,hq,h1]
   ·cases h
  ·cases h
theorem DN:∀ {xs ys:List AV} (n:Nat),xs.length=ys.length→Hf xs ys=(Hf (xs.take n) (ys.take n) && Hf (xs.drop n) (ys.drop n))
 | [],[],n,_=>by simp [Hf]
 | x::xs,y::ys,0,_=>by simp [Hf]
 | x::xs,y::ys,n+1,h=>by
  simp only [List.take_succ_cons,List.drop_succ_cons,Hf]
  rw [DN (xs:=xs) n (by simpa using h),Bool.and_assoc]
 | [],y::ys,n,h=>by simp at h
 | x::xs,[],n,h=>by simp at h
section
variable {P:Program} {w:World} {c:Ctx}
def PS (P:Program) (w:World) (c:Ctx) (n:Nat) (fk:TypeId→Option (List Kd)):Prop:=
 ∀ (t:TypeId) (ks:List Kd),fk t=some ks→P.cellsOf t=ks.length→∀ (VS US:List Value) (off:Nat) (xs ys:List AV),cO c xs ((VS.drop off).take ks.length)→cO c ys ((US.drop off).take ks.length)→AO xs=some ks→AO ys=some ks →
  ∃ a b,(part t VS.toArray off).run P w=.ok a w∧(part t US.toArray off).run P w=.ok b w∧(Op.equalIn n t a b).run P w=.ok (Hf xs ys) w
theorem qM {n:Nat} {fk:TypeId→Option (List Kd)} (ih:PS P w c n fk) (VS US:List Value):∀ (fs:List Field) (off:Nat) (ks:List Kd),Am P fk off fs=some ks→∀ (xs ys:List AV),
  cO c xs ((VS.drop off).take ks.length)→cO c ys ((US.drop off).take ks.length)→AO xs=some ks→AO ys=some ks→(Op.eqFields n VS.toArray US.toArray fs).run P w=.ok (Hf xs ys) w
 | [],off,ks,h,xs,ys,_,_,kx,ky=>by
  simp only [Am,Option.some.injEq] at h
  subst h
  have h1:=pJ kx
  have h2:=pJ ky
  obtain rfl:=List.eq_nil_of_length_eq_zero h1
  obtain rfl:=List.eq_nil_of_length_eq_zero h2
  rfl
 | f::fs,off,ks,h,xs,ys,hx,hy,kx,ky=>by
  simp only [Am] at h
  split at h
  ·rename_i k1 hk1
   cases hb:(decide (f.offset=off) && !(f.name == "_") && decide (P.cellsOf f.type=k1.length)) with
   | false=>rw [hb] at h;cases h
   | true=>
    rw [hb] at h
    simp only [cond_true] at h
    split at h
    ·rename_i k2 hk2
     cases h
     simp only [Bool.and_eq_true,decide_eq_true_eq,Bool.not_eq_true',beq_eq_false_iff_ne] at hb
     obtain ⟨⟨ho,hn⟩,hc⟩:=hb
     obtain ⟨kx1,kx2⟩:=xK kx
     obtain ⟨ky1,ky2⟩:=xK ky
     have tk:∀ (Z:List Value),((Z.drop off).take (k1++k2).length).take k1.length=(Z.drop off).take k1.length:=fun Z=>by
      rw [List.take_take,List.length_append,Nat.min_eq_left (by omega)]
     have dr:∀ (Z:List Value),((Z.drop off).take (k1++k2).length).drop k1.length=(Z.drop (off+k1.length)).take k2.length:=fun Z=>by
      rw [List.drop_take,List.drop_drop,List.length_append,Nat.add_sub_cancel_left]
     have hx1:=hx.take k1.length
     have hx2:=hx.drop k1.length
     have hy1:=hy.take k1.length
     have hy2:=hy.drop k1.length
     rw [tk] at hx1 hy1
     rw [dr] at hx2 hy2
     obtain ⟨a,b,ha,hb',he⟩:=ih f.type k1 hk1 hc VS US off _ _ hx1 hy1 kx1 ky1
     have ih2:=qM ih VS US fs (off+k1.length) k2 hk2 _ _ hx2 hy2 kx2 ky2
     have hl:xs.length=ys.length:=by rw [pJ kx,pJ ky]
     rw [DN k1.length hl]
     simp only [Op.eqFields,ho]
     rw [if_pos hn]
     simp only [Sem.run_bind,ha,hb',he,Result.andThen]
     cases Hf (xs.take k1.length) (ys.take k1.length) with
     | false=>rfl
     | true=>simpa using ih2
    ·cases h
  ·cases h
theorem one_cell {t:TypeId} {D:TypeDesc} (ht:P.underlying t=some D) (hd:EP D=false) {k:Kd} {VS:List Value} {off:Nat} {xs:List AV} (hx:cO c xs ((VS.drop off).take 1)) (kx:AO xs=some [k]) :
  ∃ x v,xs=[x]∧kd x=some k∧Rv c x v∧(part t VS.toArray off).run P w=.ok v w:=by
 have hl:=pJ kx
 match xs,hl with
 | [x],_=>
  have hk:kd x=some k:=by
   simp only [AO] at kx
   split at kx
   ·rename_i q hq;cases kx;exact hq
   ·cases kx
  generalize hq:(VS.drop off).take 1=dv at hx
  cases hx with
  | cons _ v _ us hv h1 ht'=>
   have hcell:VS[off]?=some v:=by
    have:((VS.drop off).take 1)[0]?=some v:=by rw [hq];rfl
    rw [List.getElem?_take] at this
    simpa using this
   exact ⟨x,v,rfl,hk,hv,by simp [part,lK ht,hd,hcell,Sem.run_bind,Result.andThen]⟩
theorem ML:∀ (d n:Nat),d≤n→PS P w c n (flatK P d)
 | 0,n,_=>fun t ks h=>by cases h
 | d+1,0,h=>by omega
 | d+1,n+1,hn=>by
  intro t ks hf hc VS US off xs ys hx hy kx ky
  unfold flatK at hf
  cases ht:P.underlying t with
  | none=>rw [ht] at hf;cases hf
  | some D=>
   rw [ht] at hf
   cases D<;>simp only [reduceCtorEq,Option.some.injEq] at hf
   case bool=>
    subst hf
    obtain ⟨x,v,rfl,k1,r1,p1⟩:=one_cell (w:=w) ht rfl hx kx
    obtain ⟨y,u,rfl,k2,r2,p2⟩:=one_cell (w:=w) ht rfl hy ky
    refine ⟨v,u,p1,p2,?_⟩
    cases r1<;>simp [kd] at k1
    cases r2<;>simp [kd] at k2
    rename_i a b
    rw [run_equalIn_bool w n t a b ht]
    cases a<;>cases b<;>rfl
   case int k'=>
    subst hf
    obtain ⟨x,v,rfl,k1,r1,p1⟩:=one_cell (w:=w) ht rfl hx kx
    obtain ⟨y,u,rfl,k2,r2,p2⟩:=one_cell (w:=w) ht rfl hy ky
    refine ⟨v,u,p1,p2,?_⟩
    cases r1<;>simp [kd] at k1
    cases r2<;>simp [kd] at k2
    subst k1;subst k2
    rw [run_equalIn_int w n t _ _ _ _ ht]
    simp only [Hf,eq1,Bool.and_true]
    congr 1
   case string=>
    subst hf
    obtain ⟨x,v,rfl,k1,r1,p1⟩:=one_cell (w:=w) ht rfl hx kx
    obtain ⟨y,u,rfl,k2,r2,p2⟩:=one_cell (w:=w) ht rfl hy ky
    refine ⟨v,u,p1,p2,?_⟩
    cases r1<;>simp [kd] at k1
    cases r2<;>simp [kd] at k2
    rename_i a _ b _
    rw [run_equalIn_string w n t _ _ ht]
    have e1:∀ l:List UInt8,(ByteArray.mk l.toArray).toList=l:=fun l=>by rw [ByteArray.toList_eq]
    rw [e1,e1]
    simp only [Hf,eq1,Bool.and_true]
    congr 1
    rw [Bool.eq_iff_iff];simp
   case struct fs=>
    cases hp:P.stoodInHeld t with
    | true=>rw [hp] at hf;cases hf
    | false=>
     rw [hp] at hf
     simp only [cond_false] at hf
     obtain ⟨i,hi⟩:=info_of_underlying ht
     have hs:=dw (P:=P) hi w
     have hpt:∀ Z:List Value,(part t Z.toArray off).run P w=.ok (.agg ((Z.drop off).take ks.length).toArray) w:=by
      intro Z
      simp [part,lK ht,EP,hs,Sem.run_bind,Result.andThen,List.extract_eq_take_drop,hc]
     refine ⟨_,_,hpt VS,hpt US,?_⟩
     have hfo:P.fieldsOf t=fs:=by unfold Program.fieldsOf;rw [ht]
     rw [run_equalIn_struct w n t _ _ (by rw [hfo];exact ht) hp,hfo]
     refine qM (ML d n (by omega)) _ _ fs.toList 0 ks hf xs ys ?_ ?_ kx ky
     ·rw [List.drop_zero,List.take_take,Nat.min_self];exact hx
     ·rw [List.drop_zero,List.take_take,Nat.min_self];exact hy
theorem DR {t:TypeId} {ks:List Kd} {xs ys:List AV} {vs us:List Value} (h:Vo P t ks) (hst:∃ fs,P.underlying t=some (.struct fs)) (hx:cO c xs vs) (hy:cO c ys us) (kx:AO xs=some ks) (ky:AO ys=some ks) :
  (Op.equalIn 10000 t (.agg vs.toArray) (.agg us.toArray)).run P w=.ok (Hf xs ys) w:=by
 obtain ⟨fs,ht⟩:=hst
 have hf:=h.1
 unfold flatK at hf
 rw [ht] at hf
 simp only at hf
 cases hp:P.stoodInHeld t with
 | true=>rw [hp] at hf;cases hf
 | false=>
  rw [hp] at hf
  simp only [cond_false] at hf
  have hfo:P.fieldsOf t=fs:=by unfold Program.fieldsOf;rw [ht]
  have tk:∀ {xs:List AV} {vs:List Value},cO c xs vs→AO xs=some ks→(vs.drop 0).take ks.length=vs:=by
   intro xs vs h k
   rw [List.drop_zero]
   exact List.take_of_length_le (by have h1:=h.length;have h2:=pJ k;omega)
  rw [show (10000:Nat)=9999+1 from rfl,run_equalIn_struct w 9999 t _ _ (by rw [hfo];exact ht) hp,hfo]
  exact qM (ML 7 9999 (by omega)) _ _ fs.toList 0 ks hf xs ys (by rw [tk hx kx];exact hx) (by rw [tk hy ky];exact hy) kx ky
end
def Ru:AV→Option Bool
 | .cell _=>some false
 | .ptr _ _=>some false
 | .raw v=>match v with
  | .pointer none=>some true
  | _=>none
 | _=>none
def Xl:AV→Option Bool
 | .raw v=>match v with
  | .nilIface=>some true
  | .iface _ _=>some false
  | _=>none
 | .ifc _ _=>some false
 | _=>none
def LK (P:Program) (op:BinOp) (t:TypeId) (x:AV) (v:Value) (K:AV→Prop):Prop:=
 match Ru x,Ru (.raw v),P.underlying t with
 | some b,some true,some (.pointer _)=>match op with
  | .eql=>K (.bool b)
  | .neq=>K (.bool (!b))
  | _=>False
 | _,_,_=>False
theorem zB {c:Ctx} {x:AV} {v:Value} {b:Bool} (h:Xl x=some b) (hr:Rv c x v):(b=true∧v=.nilIface)∨(b=false∧∃ u y,v=.iface u y):=by
 cases hr with
 | raw v=>
  simp only [Xl] at h
  split at h
  ·cases h;exact .inl ⟨rfl,rfl⟩
  ·cases h;exact .inr ⟨rfl,_,_,rfl⟩
  ·cases h
 | ifc t x u hu=>cases h;exact .inr ⟨rfl,_,_,rfl⟩
 | _=>cases h
theorem I4 {c:Ctx} {x:AV} {v:Value} {b:Bool} (h:Ru x=some b) (hr:Rv c x v):∃ p:Option Addr,v=.pointer p∧p.isNone=b:=by
 cases hr with
 | cell cs vs a _ _ _=>cases h;exact ⟨some a,rfl,rfl⟩
 | ptr i off g _ _=>cases h;exact ⟨_,rfl,rfl⟩
 | raw v=>
  simp only [Ru] at h
  split at h
  ·cases h;exact ⟨none,rfl,rfl⟩
  ·cases h
 | _=>cases h
def Gu (P:Program) (op:BinOp) (t:TypeId) (x y:AV) (K:AV→Prop):Prop:=
 match x,y with
 | .agg xs,.agg ys=>match AO xs,P.underlying t with
  | some ks,some (.struct _)=>match op with
   | .eql=>aZ (Vo P t ks) (aZ (AO ys=some ks) (K (.bool (Hf xs ys))))
   | .neq=>aZ (Vo P t ks) (aZ (AO ys=some ks) (K (.bool (!Hf xs ys))))
   | _=>False
  | _,_=>False
 | .ro r,.nilS=>match op,P.underlying t with
  | .eql,some (.slice _)=>qA (r.len=0) (K (.bool true))∧K (.bool false)
  | .neq,some (.slice _)=>qA (r.len=0) (K (.bool false))∧K (.bool true)
  | _,_=>False
 | x,.raw v=>LK P op t x v K
 | x,y=>uh P op t x y K
section
variable {P:Program} {w0:World} {T0:Bs} {o:Oper} {s:S} {K:AV→S→Prop}
theorem Gv {op:BinOp} {t t':TypeId} {x y:Operand} (ho:o.op=.binOp op t x y t') (hx:au x) (hy:au y)
  (h:Gu P op t (s.ev x) (s.ev y) (fun r=>K r s)):cZ P w0 T0 o s K:=by
 unfold Gu at h
 split at h
 ·rename_i xs ys ex ey
  intro H a w m hm
  have rx:=hm.ev x hx
  have ry:=hm.ev y hy
  rw [ex] at rx
  rw [ey] at ry
  generalize hvx:a.eval x=vx at rx
  generalize hvy:a.eval y=vy at ry
  cases rx with
  | agg _ vs hvs=>
   cases ry with
   | agg _ us hus=>
    split at h
    ·rename_i ks fs hk ht
     split at h
     ·obtain ⟨he,hk2,h⟩:=h
      refine ⟨_,_,h,?_,.bool _⟩
      unfold execOp
      rw [ho]
      simp [Sem.run_bind,hvx,hvy,run_eqGuard_agg w _ t x y _ _ he.2,run_eql_struct,DR (w:=w) he ⟨fs,ht⟩ hvs hus hk hk2,Result.andThen]
     ·obtain ⟨he,hk2,h⟩:=h
      refine ⟨_,_,h,?_,.bool _⟩
      unfold execOp
      rw [ho]
      simp [Sem.run_bind,hvx,hvy,run_eqGuard_agg w _ t x y _ _ he.2,run_neq_struct,DR (w:=w) he ⟨fs,ht⟩ hvs hus hk hk2,Result.andThen]
     ·exact h.elim
    ·exact h.elim
 ·rename_i r ex ey
  intro H a w m hm
  have rx:=hm.ev x hx
  have ry:=hm.ev y hy
  rw [ex] at rx
  rw [ey] at ry
  generalize hvx:a.eval x=vx at rx
  generalize hvy:a.eval y=vy at ry
  cases ry
  have hz:vx=.slice none 0 0→r.len=0:=by
   intro e
   cases rx with
   | roNil _ hr=>
    have:=hr.len;have:=hr.pos;simp at *
    rcases Nat.mul_eq_zero.1 (by omega:r.len*r.sz=0) with e|e<;>omega
   | ro=>cases e
  have hsl:∃ (ad:Option Addr) (n cp:Nat),vx=.slice ad n cp∧(ad=none→vx=.slice none 0 0):=by
   cases rx with
   | roNil _ hr=>exact ⟨none,0,0,rfl,fun _=>rfl⟩
   | ro _ ad n cp=>exact ⟨some ad,n,cp,rfl,fun e=>by cases e⟩
  obtain ⟨ad,n,cp,e,hn⟩:=hsl
  split at h
  ·rename_i e' ht
   have hr:(binOp .eql t vx (.slice none 0 0)).run P w=.ok (.bool ad.isNone) w:=by rw [e];exact Lib.run_eql_slice_nil w _ _ ad n cp 0 0 ht
   have hrun:=lq .eql t t' x y ho a.eval w _ (by rw [hvx,e];simp) (by rw [hvx,e];simp) (by rw [hvx,hvy];exact hr)
   cases ad with
   | none=>exact ⟨_,_,h.1 (hz (hn rfl)),hrun,.bool _⟩
   | some g=>exact ⟨_,_,h.2,hrun,.bool _⟩
  ·rename_i e' ht
   have hr:(binOp .neq t vx (.slice none 0 0)).run P w=.ok (.bool (!ad.isNone)) w:=by rw [e];exact run_neq_slice_nil_any w _ _ ad n cp 0 0 ht
   have hrun:=lq .neq t t' x y ho a.eval w _ (by rw [hvx,e];simp) (by rw [hvx,e];simp) (by rw [hvx,hvy];exact hr)
   cases ad with
   | none=>exact ⟨_,_,h.1 (hz (hn rfl)),hrun,.bool _⟩
   | some g=>exact ⟨_,_,h.2,hrun,.bool _⟩
  ·exact h.elim
 ·rename_i v ey
  intro H a w m hm
  have rx:=hm.ev x hx
  have ry:=hm.ev y hy
  rw [ey] at ry
  generalize hvx:a.eval x=vx at rx
  generalize hvy:a.eval y=vy at ry
  unfold LK at h
  split at h
  ·rename_i b e h1 h2 ht
   obtain ⟨p,rfl,hp⟩:=I4 h1 rx
   obtain ⟨q,rfl,hq⟩:=I4 h2 ry
   have hq0:q=none:=by cases q with|none=>rfl|some a=>cases hq
   subst hq0
   have ht':P.underlying t=some (.pointer (P.pointee t)):=by
    rw [ht];unfold Program.pointee;rw [ht]
   split at h
   ·have hr:(binOp .eql t (.pointer p) (.pointer none)).run P w=.ok (.bool b) w:=by rw [←hp];exact run_eql_pointer_nil w t p ht'
    exact ⟨_,_,h,lq .eql t t' x y ho a.eval w _ (by rw [hvx];simp) (by rw [hvx];simp) (by rw [hvx,hvy];exact hr),.bool _⟩
   ·have hr:(binOp .neq t (.pointer p) (.pointer none)).run P w=.ok (.bool (!b)) w:=by rw [←hp];exact run_neq_pointer_nil w t p ht'
    exact ⟨_,_,h,lq .neq t t' x y ho a.eval w _ (by rw [hvx];simp) (by rw [hvx];simp) (by rw [hvx,hvy];exact hr),.bool _⟩
   ·exact h.elim
  ·exact h.elim
 ·exact Jz ho hx hy h
def AB:Operand→Bool
 | .const v=>match v with
  | .nilIface=>true
  | _=>false
 | _=>false
theorem KE {y:Operand} (h:AB y=true):y=.const .nilIface:=by
 unfold AB at h
 split at h
 ·split at h
  ·rfl
  ·cases h
 ·cases h
def BK (P:Program) (op:BinOp) (t:TypeId) (y:Operand) (a b:AV) (K:AV→Prop):Prop:=
 cond (AB y) (match Xl a,P.underlying t with
  | some c,some (.interface _)=>match op with
   | .eql=>K (.bool c)
   | .neq=>K (.bool (!c))
   | _=>False
  | _,_=>False) (Gu P op t a b K)
theorem Hz (op:BinOp) (t t':TypeId) (x:Operand) (ho:o.op=.binOp op t x (.const .nilIface) t') (ρ:Operand→Value) (w:World) (v:Value) (hρ:ρ (.const .nilIface)=.nilIface)
  (h1:∀ c,ρ x≠.agg c) (hr:(binOp op t (ρ x) .nilIface).run P w=.ok v w):(execOp ρ o).run P w=.ok (.value v) w:=by
 have hg:eqGuard op t x (.const .nilIface) (ρ x) .nilIface=pure ():=by
  unfold eqGuard
  generalize ρ x=vx
  cases op<;>first|rfl|(cases vx<;>simp)
 unfold execOp
 rw [ho]
 simp [Sem.run_bind,hρ,hg,hr,Result.andThen]
theorem Gq {op:BinOp} {t t':TypeId} {x y:Operand} (ho:o.op=.binOp op t x y t') (hx:au x) (hy:au y)
  (h:BK P op t y (s.ev x) (s.ev y) (fun r=>K r s)):cZ P w0 T0 o s K:=by
 unfold BK at h
 cases hn:AB y with
 | false=>rw [hn] at h;exact Gv ho hx hy h
 | true=>
  rw [hn] at h
  have e:=KE hn
  subst e
  simp only [cond_true] at h
  intro H a w m hm
  have rx:=hm.ev x hx
  generalize hvx:a.eval x=vx at rx
  split at h
  ·rename_i c ms h1 ht
   have ht':P.underlying t=some (.interface (P.methodsAt t)):=by
    rw [ht];unfold Program.methodsAt;rw [ht]
   split at h
   ·have hr:(binOp .eql t vx .nilIface).run P w=.ok (.bool c) w:=by
     rcases zB h1 rx with ⟨rfl,rfl⟩|⟨rfl,u,z,rfl⟩
     ·exact run_eql_nil_nil w t ht'
     ·exact run_eql_held_nil w t u z ht'
    exact ⟨_,_,h,Hz .eql t t' x ho a.eval w _ rfl (by rw [hvx];rcases zB h1 rx with ⟨_,rfl⟩|⟨_,u,z,rfl⟩<;>simp) (by rw [hvx];exact hr),.bool _⟩
   ·have hr:(binOp .neq t vx .nilIface).run P w=.ok (.bool (!c)) w:=by
     rcases zB h1 rx with ⟨rfl,rfl⟩|⟨rfl,u,z,rfl⟩
     ·exact run_neq_nil_nil w t ht'
     ·exact run_neq_held_nil w t u z ht'
    exact ⟨_,_,h,Hz .neq t t' x ho a.eval w _ rfl (by rw [hvx];rcases zB h1 rx with ⟨_,rfl⟩|⟨_,u,z,rfl⟩<;>simp) (by rw [hvx];exact hr),.bool _⟩
   ·exact h.elim
  ·exact h.elim
theorem Gp {op:BinOp} {t t':TypeId} {x y:Operand} (ho:o.op=.binOp op t x y t') (hx:au x) (hy:au y)
  (h:BK P op t y (s.ev x) (s.ev y) (fun r=>K r s)):aT P w0 T0 o s K:=(Gq ho hx hy h).op
end
end Go.Fv
/-
 A text's bytes as a row of the call's own.
-/
namespace Go.Fv
open Go.RowKit
def jV (l:List UInt8):List Int:=l.map fun b=>(b.toNat:Int)
def TM (n:Int):List UInt8:=(Utf8.encode n).data.toList
theorem Qn (n:Int):(TM n).length≤4:=by
 unfold TM Utf8.encode
 dsimp only
 repeat' split
 all_goals simp
theorem Qo {n:Int} (h:0≤n∧n<128):Utf8.encode n=⟨[UInt8.ofNat n.toNat].toArray⟩:=by
 have hv:Utf8.valid n=true:=by unfold Utf8.valid;simp;omega
 have hlt:n.toNat<128:=by omega
 unfold Utf8.encode
 simp only [hv,if_true]
 rw [if_pos hlt]
def sQ (P:Program) (src dst:TypeId) (x:Operand) (s:S) (K:AV→S→Prop):Prop:=
 match P.underlying dst with
 | some (.slice e)=>match s.ev x with
  | .str l=>aZ (P.underlying src=some .string∧P.underlying e=some (.int .u8)∧e=5) (K (.own s.next) (s.add (.row e (.ints .u8 (jV l)))))
  | _=>False
 | some .string=>match s.ev x with
  | .int _ n=>aZ ((P.underlying src).isSome=true) (if 0≤n∧n<128 then K (.str [UInt8.ofNat n.toNat]) s else K (.str (TM n)) s)
  | _=>rP P src dst x s K
 | _=>rP P src dst x s K
section
variable {P:Program} {w0:World} {T0:Bs} {o:Oper} {s:S} {K:AV→S→Prop}
theorem Dj {src dst:TypeId} {x:Operand} (ho:o.op=.convert src dst x) (hx:au x) (h:sQ P src dst x s K):aT P w0 T0 o s K:=by
 unfold sQ at h
 split at h
 ·rename_i e hd
  split at h
  ·rename_i l hl
   obtain ⟨⟨hs,he,he5⟩,hk⟩:=h
   refine aT.mem fun H a w m hm=>?_
   have rx:=hm.ev x hx
   rw [hl] at rx
   generalize hvx:a.eval x=vx at rx
   cases rx with
   | str _ hlen=>
    have hr:=run_bytes_of_string (P:=P) w src dst e ⟨l.toArray⟩ hs hd he
    have hsz:(⟨l.toArray⟩:ByteArray).size=l.length:=by simp [ByteArray.size]
    rw [hsz] at hr
    have hge:=grownCap_ge w l.length 0 e
    have hle:=grownCap_le_maxLen w l.length 0 e hlen
    have hrow:(bytesRow ⟨l.toArray⟩ (grownCap w l.length 0 e)).size=grownCap w l.length 0 e:=by
     simp [bytesRow,hsz];omega
    have htk:(bytesRow ⟨l.toArray⟩ (grownCap w l.length 0 e)).toList.take (l.length*1)=(jV l).map (Value.int .u8):=by
     have e1:(bytesRow ⟨l.toArray⟩ (grownCap w l.length 0 e)).toList=(l.map fun b=>Value.int .u8 b.toNat)++List.replicate (grownCap w l.length 0 e - l.length) (.int .u8 0):=by
      simp [bytesRow,hsz]
     rw [e1,Nat.mul_one]
     have e2:(l.map fun b=>Value.int .u8 b.toNat).length=l.length:=by simp
     rw [←e2,List.take_left']
     ·simp [jV]
     ·rfl
    generalize bytesRow ⟨l.toArray⟩ (grownCap w l.length 0 e)=cur at *
    generalize grownCap w l.length 0 e=cap at *
    have hin:∀ x,x∈jV l→jf .u8 x:=by
     intro x hx
     obtain ⟨b,_,rfl⟩:=List.mem_map.1 hx
     have:=b.toNat_lt
     exact um.2 ⟨by omega,by omega⟩
    have hnew:=(hm.drew).new (w':=w.drew.alloc (.cells cur e (cur.size,cur.size+1))) (hm.drew.below.alloc _) (fun b hb=>Below.heap_alloc w.drew _ b hb) (.row e (.ints .u8 (jV l))) (.slice (some ⟨w.heap.size,0,none⟩) l.length cap) (fun b hb=>by cases hb;exact Nat.le_refl _)
     (fun c hle' hw=>⟨l.length,(jV l).map (Value.int .u8),.ints .u8 _ hin,by simp [aF.len,jV],⟨by simp [aF.sz,jV],.inr ⟨w.heap.size,cap,cur,(cur.size,cur.size+1),rfl,.inr ⟨Nat.le_refl _,he5⟩,by rw [hw];exact heap_alloc_new w.drew _,hge,hle,by simp [aF.sz,hrow],htk⟩⟩,fun b hb=>by cases hb;exact .inl hm.lt⟩)
    refine ⟨_,_,_,_,_,hk,.inl ?_,lZ hnew rfl⟩
    unfold execOp;rw [ho]
    simp [hvx,hr]
  ·exact h.elim
 ·rename_i hd
  split at h
  ·rename_i k n hn
   obtain ⟨hs,hk⟩:=h
   refine cZ.op fun H a w m hm=>?_
   have rx:=hm.ev x hx
   rw [hn] at rx
   generalize hvx:a.eval x=vx at rx
   cases rx
   have hr:=run_convert_int_string (P:=P) w src dst k n hs hd
   have fin:∀ r v,K r s→(convert src dst (a.eval x)).run P w=.ok v w→Rv (aA T0 w0.heap.size m s w) r v→∃ r v,K r s∧(execOp a.eval o).run P w=.ok (.value v) w∧Rv (aA T0 w0.heap.size m s w) r v:=by
    intro r v hk hr hv
    refine ⟨r,v,hk,?_,hv⟩
    unfold execOp;rw [ho];simp [hr]
   by_cases hl:0≤n∧n<128
   ·rw [if_pos hl] at hk
    rw [Qo hl] at hr
    exact fin _ _ hk (by rw [hvx];exact hr) (.str _ (by simp [maxLen]))
   ·rw [if_neg hl] at hk
    refine fin _ _ hk (by rw [hvx];exact hr) ?_
    have h4:=Qn n
    exact .str (TM n) (by unfold maxLen;omega)
  ·exact wK ho hx h
 ·exact wK ho hx h
end
end Go.Fv
/-
 Maps: made, read, written, gone through.
-/
namespace Go.Fv
open Go.RowKit
open Go.ChangeMaps (setBlock)
/-! ### Keys -/
mutual
def l7:AV→Bool
 | .bool _=>true
 | .int _ _=>true
 | .str _=>true
 | .agg cs=>pK cs
 | _=>false
def pK:List AV→Bool
 | []=>true
 | x::l=>l7 x && pK l
end
mutual
def BJ:AV→Value
 | .bool b=>.bool b
 | .int k n=>.int k n
 | .str s=>.string ⟨s.toArray⟩
 | .agg cs=>.agg (ug cs).toArray
 | _=>undef
def ug:List AV→List Value
 | []=>[]
 | x::l=>BJ x::ug l
end
mutual
def Xf:AV→Prop
 | .int k n=>jf k n
 | .str s=>s.length≤maxLen
 | .agg cs=>Wp cs
 | _=>True
def Wp:List AV→Prop
 | []=>True
 | x::l=>Xf x∧Wp l
end
mutual
theorem iD {c:Ctx}:∀ (x:AV) {v:Value},l7 x=true→Rv c x v→v=BJ x∧Xf x
 | .bool b,_,_,h=>by cases h;exact ⟨rfl,trivial⟩
 | .int k n,_,_,h=>by cases h with|int _ _ hk=>exact ⟨rfl,hk⟩
 | .str s,_,_,h=>by cases h with|str _ hk=>exact ⟨rfl,hk⟩
 | .agg cs,_,e,h=>by
  cases h with
  | agg _ vs hl=>
   obtain ⟨h1,h2⟩:=AP cs (by simpa only [l7] using e) hl
   subst h1
   exact ⟨rfl,h2⟩
theorem AP {c:Ctx}:∀ (x:List AV) {v:List Value},pK x=true→cO c x v→v=ug x∧Wp x
 | [],_,_,h=>by cases h;exact ⟨rfl,trivial⟩
 | x::l,_,e,h=>by
  simp only [pK,Bool.and_eq_true] at e
  cases h with
  | cons _ u _ us hu h1 ht=>
   obtain ⟨h1,h2⟩:=iD x e.1 hu
   obtain ⟨h3,h4⟩:=AP l e.2 ht
   exact ⟨by rw [h1,h3];rfl,h2,h4⟩
end
mutual
theorem Jy:∀ (x y:AV),l7 x=true→l7 y=true→BJ x=BJ y→x=y
 | .bool _,y,_,hy,h=>by cases y<;>simp_all [BJ,l7,undef]
 | .int _ _,y,_,hy,h=>by cases y<;>simp_all [BJ,l7,undef]
 | .str s,y,_,hy,h=>by
  cases y<;>simp_all [BJ,l7,undef]
 | .agg cs,y,hx,hy,h=>by
  cases y with
  | agg cs'=>
   simp only [BJ,Value.agg.injEq] at h
   have h':ug cs=ug cs':=by simpa using congrArg Array.toList h
   rw [ED cs cs' (by simpa only [l7] using hx) (by simpa only [l7] using hy) h']
  | _=>simp_all [BJ,l7,undef]
theorem ED:∀ (x y:List AV),pK x=true→pK y=true→ug x=ug y→x=y
 | [],[],_,_,_=>rfl
 | [],_::_,_,_,h=>by simp [ug] at h
 | _::_,[],_,_,h=>by simp [ug] at h
 | x::l,y::l',hx,hy,h=>by
  simp only [pK,Bool.and_eq_true] at hx hy
  simp only [ug,List.cons.injEq] at h
  rw [Jy x y hx.1 hy.1 h.1,ED l l' hx.2 hy.2 h.2]
end
mutual
def qg:AV→AV→Bool
 | .bool a,y=>match y with | .bool b=>decide (a=b)|_=>false
 | .int k a,y=>match y with | .int k' b=>decide (k=k'∧a=b)|_=>false
 | .str a,y=>match y with | .str b=>decide (a=b)|_=>false
 | .agg xs,y=>match y with | .agg ys=>xC xs ys|_=>false
 | _,_=>false
def xC:List AV→List AV→Bool
 | [],y=>match y with|[]=>true|_=>false
 | x::l,y=>match y with|z::l'=>qg x z && xC l l'|[]=>false
end
mutual
theorem sD:∀ (x y:AV),l7 x=true→(qg x y=true↔x=y)
 | .bool a,y,_=>by cases y<;>simp [qg]
 | .int k a,y,_=>by cases y<;>simp [qg]
 | .str a,y,_=>by cases y<;>simp [qg]
 | .agg xs,y,h=>by
  cases y<;>simp only [qg,Bool.false_eq_true,reduceCtorEq,AV.agg.injEq]
  exact Ai xs _ (by simpa only [l7] using h)
theorem Ai:∀ (x y:List AV),pK x=true→(xC x y=true↔x=y)
 | [],y,_=>by cases y<;>simp [xC]
 | x::l,y,h=>by
  simp only [pK,Bool.and_eq_true] at h
  cases y with
  | nil=>simp [xC]
  | cons z l'=>simp only [xC,Bool.and_eq_true,sD x z h.1,Ai l l' h.2,List.cons.injEq]
end
def dL:List AV→AV→Option Nat
 | [],_=>none
 | x::l,k=>if qg x k=true then some 0 else (dL l k).map (·+1)
def zT (P:Program) (kt:TypeId) (x:AV):Prop:=l7 x=true∧(Xf x→∃ l,keyOf P kt (BJ x)=some l)
def yu (P:Program) (kt:TypeId) (l:List AV):Prop:=∀ x,x∈l→zT P kt x
theorem zT.int {P:Program} {kt:TypeId} {q:IntKind} (h:P.underlying kt=some (.int q)) (n:Int):zT P kt (.int q n):=
 ⟨rfl,fun hw=>⟨_,Maps.keyOf_int_mk h (by simpa [Lit.wf,Xf,jf] using hw)⟩⟩
theorem zT.str {P:Program} {kt:TypeId} (h:P.underlying kt=some .string) (s:List UInt8):zT P kt (.str s):=
 ⟨rfl,fun hw=>⟨_,WideMaps.keyOf_string_mk (s:=⟨s.toArray⟩) h (by show s.toArray.size≤maxLen;simpa [Xf] using hw)⟩⟩
theorem DF {P:Program} {kt:TypeId}:yu P kt []:=fun x h=>by cases h
theorem DC {P:Program} {kt:TypeId} {α:Type} {f:α→AV} (h:∀ a,zT P kt (f a)) (l:List α):yu P kt (l.map f):=fun x hx=>by
 obtain ⟨a,_,rfl⟩:=List.mem_map.1 hx;exact h a
theorem dH.get' {c:Ctx}:∀ {l:List AV} {vs:List Value} {i:Nat} {v:Value},dH c l vs→vs[i]?=some v→∃ x,l[i]?=some x∧Rv c x v
 | _,_,i,v,.nil,h=>by simp at h
 | _,_,0,v,.cons x u l vs hx ht,h=>by simp at h;subst h;exact ⟨x,rfl,hx⟩
 | _,_,i+1,v,.cons x u l vs hx ht,h=>by simpa using dH.get' (i:=i) ht (by simpa using h)
theorem dH.set {c:Ctx}:∀ {l:List AV} {vs:List Value} (i:Nat) {x:AV} {v:Value},dH c l vs→Rv c x v→dH c (l.set i x) (vs.set i v)
 | _,_,_,_,_,.nil,_=>.nil
 | _,_,0,_,_,.cons y u l vs _ ht,h=>.cons _ _ _ _ h ht
 | _,_,i+1,_,_,.cons y u l vs hy ht,h=>.cons _ _ _ _ hy (dH.set i ht h)
theorem qU:∀ {ks:List AV} {k:AV} {j:Nat},dL ks k=some j→∃ x,ks[j]?=some x∧qg x k=true
 | x::l,k,j,h=>by
  simp only [dL] at h
  split at h
  ·rename_i e;cases h;exact ⟨x,rfl,e⟩
  ·simp only [Option.map_eq_some_iff] at h
   obtain ⟨i,hi,rfl⟩:=h
   obtain ⟨y,h1,h2⟩:=qU hi
   exact ⟨y,by simpa using h1,h2⟩
theorem yH:∀ {ks:List AV} {k:AV},dL ks k=none→∀ x,x∈ks→qg x k=false
 | y::l,k,h,x,hx=>by
  simp only [dL] at h
  split at h
  ·cases h
  ·rename_i e
   simp only [Option.map_eq_none_iff] at h
   cases List.mem_cons.1 hx with
   | inl e'=>subst e';simpa using e
   | inr e'=>exact yH h x e'
theorem Rj {α β:Type} {f:α→β} {l:List α} (hn:(l.map f).Nodup) {i j:Nat} {a b:α} (hi:l[i]?=some a) (hj:l[j]?=some b) (e:f a=f b):i=j:=by
 have h1:(l.map f)[i]?=some (f a):=by simp [hi]
 have h2:(l.map f)[j]?=some (f a):=by simp [hj,e]
 exact (List.getElem?_inj (List.getElem?_eq_some_iff.1 h1).1 hn).1 (h1.trans h2.symm)
theorem vK {c:Ctx} {P:Program} {kt:TypeId} {ks:List AV} {k:AV} {es:Array MapEntry} {kv:Value} (w:World) (hK:Maps.Keyed P kt) (hks:yu P kt ks) (hk:zT P kt k)
  (hr:dH c ks (es.toList.map MapEntry.key)) (hkv:Rv c k kv) (hn:(es.toList.map MapEntry.key).Nodup) :
  (dL ks k=none∧(Instr.findKey kt kv es.toList).run P w=.ok none w∧∀ e∈es.toList,e.key≠kv) ∨
  ∃ j e,dL ks k=some j∧es[j]?=some e∧e.key=kv∧(Instr.findKey kt kv es.toList).run P w=.ok (some (j,e.val)) w:=by
 obtain ⟨hv,hwf⟩:=iD k hk.1 hkv
 obtain ⟨lx,hlx⟩:=hk.2 hwf
 rw [←hv] at hlx
 have hall:∀ e∈es.toList,∃ l,keyOf P kt e.key=some l:=by
  intro e he
  obtain ⟨i,hi⟩:=List.getElem?_of_mem he
  obtain ⟨x,hx,hxv⟩:=hr.get' (i:=i) (v:=e.key) (by simp [hi])
  obtain ⟨h1,h2⟩:=hks x (List.mem_of_getElem? hx)
  obtain ⟨h3,h4⟩:=iD x h1 hxv
  rw [h3];exact h2 h4
 have hat:∀ (j:Nat) (e:MapEntry),es[j]?=some e→∃ x,ks[j]?=some x∧l7 x=true∧e.key=BJ x:=by
  intro j e he
  obtain ⟨x,hx,hxv⟩:=hr.get' (i:=j) (v:=e.key) (by simp [he])
  have h1:=(hks x (List.mem_of_getElem? hx)).1
  exact ⟨x,hx,h1,(iD x h1 hxv).1⟩
 rcases hK.find w hlx es.toList hall with ⟨h1,h2⟩|⟨j,e,h1,h2,h3⟩
 ·refine .inl ⟨?_,h1,h2⟩
  cases hq:dL ks k with
  | none=>rfl
  | some j=>
   obtain ⟨x,hx,he⟩:=qU hq
   obtain ⟨v,hv',hxv⟩:=hr.get hx
   have hxk:x=k:=(sD x k (hks x (List.mem_of_getElem? hx)).1).1 he
   subst hxk
   rw [List.getElem?_map] at hv'
   simp only [Option.map_eq_some_iff] at hv'
   obtain ⟨e,he',rfl⟩:=hv'
   exact absurd ((iD x hk.1 hxv).1.trans hv.symm) (h2 e (List.mem_of_getElem? he'))
 ·have h2':es[j]?=some e:=by simpa using h2
  obtain ⟨x,hx,hx1,hx2⟩:=hat j e h2'
  have hxk:x=k:=Jy x k hx1 hk.1 (by rw [←hx2,h3,hv])
  refine .inr ⟨j,e,?_,h2',h3,h1⟩
  cases hq:dL ks k with
  | none=>
   have:=yH hq x (List.mem_of_getElem? hx)
   rw [(sD x k hx1).2 hxk] at this;cases this
  | some i=>
   obtain ⟨y,hy,he⟩:=qU hq
   obtain ⟨v,hv',hyv⟩:=hr.get hy
   have hy1:=(hks y (List.mem_of_getElem? hy)).1
   have hyk:y=k:=(sD y k hy1).1 he
   rw [List.getElem?_map] at hv'
   simp only [Option.map_eq_some_iff] at hv'
   obtain ⟨e',he',rfl⟩:=hv'
   have hke:e'.key=e.key:=by rw [(iD y hy1 hyv).1,hyk,h3,hv]
   rw [Rj hn he' h2 hke]
/-! ### What is read -/
def Xm:AV→Bool | .bool _=>true|_=>false
def Xn (q:IntKind):AV→Bool | .int k _=>decide (k=q)|_=>false
def isS:AV→Bool | .str _=>true|_=>false
def mW (ks vs:List AV) (k:AV):Option AV:=(dL ks k).bind fun j=>vs[j]?
def E5 (ks vs:List AV) (k:AV):Bool:=match mW ks vs k with|some (.bool b)=>b|_=>false
def E8 (ks vs:List AV) (k:AV):Int:=match mW ks vs k with|some (.int _ n)=>n|_=>0
def Oz (ks vs:List AV) (k:AV):List UInt8:=match mW ks vs k with|some (.str s)=>s|_=>[]
def mapOf (s:S):AV→Option (List AV × List AV)
 | .own i=>match lk s.rows i with
  | some (.map ks vs)=>some (ks,vs)
  | _=>none
 | .mp ks vs=>some (ks,vs)
 | .raw (.map none)=>some ([],[])
 | _=>none
def uG (ks vs:List AV) (k z:AV):AV:=match mW ks vs k with|some v=>v|none=>z
theorem sG {ks vs:List AV} {k z v:AV} (h:mW ks vs k=some v):uG ks vs k z=v:=by simp [uG,h]
theorem xI {ks vs:List AV} {k z:AV} (h:mW ks vs k=none):uG ks vs k z=z:=by simp [uG,h]
class Yi where
 k:AV→S→Prop
def xk (ks vs:List AV) (k z:AV) (ok:Bool) (s:S) [K:Yi]:Prop:=
 (∀ v,mW ks vs k=some v→K.k (bif ok then .tup [v,.bool true] else v) s)∧(mW ks vs k=none→K.k (bif ok then .tup [z,.bool false] else z) s)
@[congr] theorem Td {ks ks' vs vs':List AV} {k k' z:AV} {ok:Bool} {s s':S} {K:Yi} (h1:ks=ks') (h2:vs=vs') (h3:k=k') (h4:s=s'):@xk ks vs k z ok s K=@xk ks' vs' k' z ok s' K:=by rw [h1,h2,h3,h4]
theorem xk.some {ks vs:List AV} {k z v:AV} {ok:Bool} {s:S} {K:AV→S→Prop} (h:mW ks vs k=some v) (hk:K (bif ok then .tup [v,.bool true] else v) s):@xk ks vs k z ok s ⟨K⟩:=
 And.intro (fun v' e=>by rw [h] at e;cases e;exact hk) (fun e=>by rw [h] at e;cases e)
theorem xk.none {ks vs:List AV} {k z:AV} {ok:Bool} {s:S} {K:AV→S→Prop} (h:mW ks vs k=none) (hk:K (bif ok then .tup [z,.bool false] else z) s):@xk ks vs k z ok s ⟨K⟩:=
 And.intro (fun v' e=>by rw [h] at e;cases e) (fun _=>hk)
def Nl (ks vs:List AV) (k:AV) (z:Value) (ok:Bool) (s:S) (K:AV→S→Prop):Prop:=
 match z with
 | .bool b=>aZ (b=false∧vs.all Xm=true) (K (bif ok then .tup [.bool (E5 ks vs k),.bool (dL ks k).isSome] else .bool (E5 ks vs k)) s)
 | .int q n=>aZ (n=0∧vs.all (Xn q)=true) (K (bif ok then .tup [.int q (E8 ks vs k),.bool (dL ks k).isSome] else .int q (E8 ks vs k)) s)
 | .string b=>aZ (b.size=0∧vs.all isS=true) (K (bif ok then .tup [.str (Oz ks vs k),.bool (dL ks k).isSome] else .str (Oz ks vs k)) s)
 | z=>K (bif ok then .tup [uG ks vs k (FK z),.bool (dL ks k).isSome] else uG ks vs k (FK z)) s
def rQ (P:Program) (t:TypeId) (x i:Operand) (ok:Bool) (s:S) (K:AV→S→Prop):Prop:=
 match P.underlying t with
 | some (.map kt et)=>match zeroOf P et with
  | some z=>match mapOf s (s.ev x) with
   | some (ks,vs)=>aZ (au x∧au i) (aZ (bH P et z∧Maps.Keyed P kt∧zT P kt (s.ev i)∧yu P kt ks) (Nl ks vs (s.ev i) z ok s K))
   | none=>False
  | none=>False
 | _=>False
section
variable {P:Program} {w0:World} {T0:Bs} {o:Oper} {s:S} {K:AV→S→Prop}
theorem Q8 {H:List (AV × Value)} {a:Act} {w:World} {m:Nat→Value} (hm:bC w0 T0 H s a w m) {x:AV} {v:Value} (hx:Rv (aA T0 w0.heap.size m s w) x v) {ks vs:List AV} (h:mapOf s x=some (ks,vs)) :
  (v=.map none∧ks=[]∧vs=[])∨∃ g es clock,v=.map (some g)∧w.heap[g]?=some (.map es clock)∧dH (aA T0 w0.heap.size m s w) ks (es.toList.map MapEntry.key)∧dH (aA T0 w0.heap.size m s w) vs (es.toList.map MapEntry.val)∧(∀ (i:Nat) (e:MapEntry),es[i]?=some e→e.born=i)∧EN es clock:=by
 unfold mapOf at h
 split at h
 ·rename_i i
  split at h
  ·rename_i ks' vs' hi
   cases h
   obtain ⟨g,es,clock,hv,_,h1,h2,h3,h4,hh⟩:=(hm.rows i _ hi).2
   cases hx with
   | own _ _ _=>exact .inr ⟨g,es,clock,hv,hh,h1,h2,h3,h4⟩
  ·cases h
 ·cases h
  cases hx with
  | mp _ _ g es clock h1 h2 h3 h4 hT hh _ _=>exact .inr ⟨g,es,clock,rfl,hh,h1,h2,h3,h4⟩
 ·cases h;cases hx;exact .inl ⟨rfl,rfl,rfl⟩
 ·cases h
theorem Ho (q:IntKind):jf q 0:=by cases q<;>simp [jf,IntKind.min,IntKind.max,IntKind.signed,IntKind.bits]
theorem AZ {H:List (AV × Value)} {a:Act} {w:World} {m:Nat→Value} (hm:bC w0 T0 H s a w m) {ks vs:List AV} {k:AV} {z:Value} {ok:Bool} (h:Nl ks vs k z ok s K) (hz:Xg z)
  {v:Value} {b:Bool} (hfound:(b=true∧∃ x,mW ks vs k=some x∧Rv (aA T0 w0.heap.size m s w) x v∧x∈vs)∨(b=false∧mW ks vs k=none∧v=z)) (hb:(dL ks k).isSome=b) :
  ∃ r,K r s∧Rv (aA T0 w0.heap.size m s w) r (if ok then .tuple #[v,.bool b] else v):=by
 have fin:∀ (x:AV),K (bif ok then .tup [x,.bool b] else x) s→Rv (aA T0 w0.heap.size m s w) x v→∃ r,K r s∧Rv (aA T0 w0.heap.size m s w) r (if ok then .tuple #[v,.bool b] else v):=by
  intro x hk hx
  refine ⟨_,hk,?_⟩
  cases ok with
  | true=>exact .tup _ [v,.bool b] (.cons _ _ _ _ hx (.cons _ _ _ _ (.bool b) .nil))
  | false=>exact hx
 have gen:K (bif ok then .tup [uG ks vs k (FK z),.bool (dL ks k).isSome] else uG ks vs k (FK z)) s→∃ r,K r s∧Rv (aA T0 w0.heap.size m s w) r (if ok then .tuple #[v,.bool b] else v):=by
  intro h
  rw [hb] at h
  refine fin _ h ?_
  rcases hfound with ⟨rfl,x,hx,hr,_⟩|⟨rfl,hx,rfl⟩
  ·rw [sG hx];exact hr
  ·rw [xI hx]
   refine FM _ _ ?_
   cases v<;>first|trivial|exact hz
 unfold Nl at h
 split at h
 ·obtain ⟨⟨rfl,hall⟩,h⟩:=h
  rw [hb] at h
  refine fin _ h ?_
  rcases hfound with ⟨rfl,x,hx,hr,hmem⟩|⟨rfl,hx,rfl⟩
  ·have:=List.all_eq_true.1 hall x hmem
   cases x<;>simp [Xm] at this
   simp only [E5,hx];exact hr
  ·simp only [E5,hx];exact .bool _
 ·obtain ⟨⟨rfl,hall⟩,h⟩:=h
  rw [hb] at h
  refine fin _ h ?_
  rcases hfound with ⟨rfl,x,hx,hr,hmem⟩|⟨rfl,hx,rfl⟩
  ·have:=List.all_eq_true.1 hall x hmem
   cases x<;>simp [Xn] at this
   subst this
   simp only [E8,hx];exact hr
  ·simp only [E8,hx];exact .int _ _ (Ho _)
 ·rename_i bb
  obtain ⟨⟨h0,hall⟩,h⟩:=h
  rw [hb] at h
  refine fin _ h ?_
  rcases hfound with ⟨rfl,x,hx,hr,hmem⟩|⟨rfl,hx,rfl⟩
  ·have:=List.all_eq_true.1 hall x hmem
   cases x<;>simp [isS] at this
   simp only [Oz,hx];exact hr
  ·simp only [Oz,hx]
   have e:bb=⟨#[]⟩:=by
    obtain ⟨d⟩:=bb
    have:d.size=0:=h0
    rw [Array.eq_empty_of_size_eq_zero this]
   subst e
   exact .str [] (Nat.zero_le _)
 ·exact gen h
theorem BP {t:TypeId} {x i:Operand} {ok:Bool} (ho:o.op=.lookup t x i ok) (h:rQ P t x i ok s K):cZ P w0 T0 o s K:=by
 unfold rQ at h
 intro H a w m hm
 cases ht:P.underlying t with
 | none=>rw [ht] at h;exact h.elim
 | some d=>
  rw [ht] at h
  cases d with
  | map kt et=>
   dsimp only at h
   cases hz:zeroOf P et with
   | none=>rw [hz] at h;exact h.elim
   | some z=>
    rw [hz] at h
    dsimp only at h
    cases hq:mapOf s (s.ev x) with
    | none=>rw [hq] at h;exact h.elim
    | some p=>
     obtain ⟨ks,vs⟩:=p
     rw [hq] at h
     obtain ⟨⟨hx,hi⟩,⟨hez,hK,hkt,hks⟩,h⟩:=h
     have ri:=hm.ev i hi
     obtain ⟨inf,hinf,hiz,his,hib⟩:=hez.ex
     have hzr:(zeroValue et).run P w=.ok z w:=by simp [zeroValue,typeInfo,hinf,hiz]
     obtain ⟨hv,hwf⟩:=iD _ hkt.1 ri
     obtain ⟨lx,hlx⟩:=hkt.2 hwf
     rw [←hv] at hlx
     have hck:∀ em,(Instr.checkKey em 10000 kt (a.eval i)).run P w=.ok () w:=fun em=>hK.check w em hlx
     rcases Q8 hm (hm.ev x hx) hq with ⟨hv,rfl,rfl⟩|⟨g,es,clock,hv,hh,h1,h2,h3,h4⟩
     ·obtain ⟨r,hk,hr⟩:=AZ hm h hez.ok (v:=z) (b:=false) (.inr ⟨rfl,rfl,rfl⟩) rfl
      refine ⟨r,_,hk,?_,hr⟩
      unfold execOp;rw [ho]
      have hf:(Instr.findKey kt (a.eval i) []).run P w=.ok none w:=by
       have:=vK (c:=aA T0 w0.heap.size m s w) (es:=#[]) w hK DF hkt .nil ri (by simp)
       rcases this with ⟨_,h,_⟩|⟨j,e,h,_⟩
       ·exact h
       ·cases h
      simp [Instr.lookup,run_underlying ht,hv,Sem.run_bind,Result.andThen,hck,hf,hzr]
     ·have hfr:=vK w hK hks hkt h1 ri h4.2
      have hget:(getObj g).run P w=.ok (.map es clock) w:=MapKept.run_getObj_map hh
      rcases hfr with ⟨e1,e2,_⟩|⟨j,e,e1,e2,e3,e4⟩
      ·obtain ⟨r,hk,hr⟩:=AZ hm h hez.ok (v:=z) (b:=false) (.inr ⟨rfl,by simp [mW,e1],rfl⟩) (by simp [e1])
       refine ⟨r,_,hk,?_,hr⟩
       unfold execOp;rw [ho]
       simp [Instr.lookup,run_underlying ht,hv,Sem.run_bind,Result.andThen,hget,hck,e2,hzr]
      ·obtain ⟨y,hy,hyv⟩:=h2.get' (i:=j) (v:=e.val) (by simp [e2])
       obtain ⟨r,hk,hr⟩:=AZ hm h hez.ok (v:=e.val) (b:=true) (.inl ⟨rfl,y,by simp [mW,e1,hy],hyv,List.mem_of_getElem? hy⟩) (by simp [e1])
       refine ⟨r,_,hk,?_,hr⟩
       unfold execOp;rw [ho]
       simp [Instr.lookup,run_underlying ht,hv,Sem.run_bind,Result.andThen,hget,hck,e4]
  | _=>exact h.elim
theorem BO {t:TypeId} {x i:Operand} {ok:Bool} (ho:o.op=.lookup t x i ok) (h:rQ P t x i ok s K):aT P w0 T0 o s K:=(BP ho h).op
end
end Go.Fv
