/-
  A part of the proof of the claim: walks over the program's functions and the plain laws that these need. No condition of its own.
-/
import Derived.Test.YtfhmmlobedilnaaGreatDoorFvPart4
import Derived.Laws.StructEq
import Derived.Laws.Pointers
import Derived.Lib.SliceRun
import Derived.WalkSpells
import Derived.WideLaws
import Derived.Laws.IdiomStrings
import Derived.MapKept
import Derived.Maps.Keyed
import Derived.Maps.RangeRun
import Derived.Laws.IdiomRangeMap
import Derived.ChangeMaps4
set_option linter.unusedSectionVars false
set_option linter.unusedVariables false
set_option linter.unusedSimpArgs false
set_option linter.unnecessarySimpa false
/-
 Equality of structs, cell by cell; a slice compared with nil.
-/
namespace Go.Fv
open Go.RowKit
inductive Kd where
 | b
 | i (k:IntKind)
 | s
def kd:AV→Option Kd
 | .bool _=>some .b
 | .int k _=>some (.i k)
 | .str _=>some .s
 | _=>none
def vO:List AV→Option (List Kd)
 | []=>some []
 | x::l=>match kd x with
  | some k=>match vO l with
   | some r=>some (k::r)
   | none=>none
  | none=>none
def vF (P:Program) (fk:TypeId→Option (List Kd)):Nat→List Field→Option (List Kd)
 | _,[]=>some []
 | off,f::fs=>match fk f.type with
  | some ks=>bif (decide (f.offset=off) && !(f.name == "_") && decide (P.cellsOf f.type=ks.length)) then match vF P fk (off+ks.length) fs with
    | some r=>some (ks++r)
    | none=>none
   else none
  | none=>none
def flatK (P:Program):Nat→TypeId→Option (List Kd)
 | 0,_=>none
 | d+1,t=>match P.underlying t with
  | some .bool=>some [.b]
  | some (.int k)=>some [.i k]
  | some .string=>some [.s]
  | some (.struct fs)=>bif P.stoodInHeld t then none else vF P (flatK P d) 0 fs.toList
  | _=>none
def Nr (P:Program) (t:TypeId) (ks:List Kd):Prop:=flatK P 8 t=some ks∧P.eqGuardType P.depth t=false
def eq1:AV→AV→Bool
 | .bool a,.bool b=>decide (a=b)
 | .int _ a,.int _ b=>decide (a=b)
 | .str a,.str b=>decide (a=b)
 | _,_=>false
def AZ:List AV→List AV→Bool
 | [],[]=>true
 | x::xs,y::ys=>eq1 x y && AZ xs ys
 | _,_=>false
theorem kM:∀ {l:List AV} {ks:List Kd},vO l=some ks→l.length=ks.length
 | [],_,h=>by cases h;rfl
 | x::l,ks,h=>by
  simp only [vO] at h
  split at h
  ·split at h
   ·rename_i r hr;cases h;simp [kM hr]
   ·cases h
  ·cases h
theorem rG:∀ {k1 k2:List Kd} {l:List AV},vO l=some (k1++k2)→vO (l.take k1.length)=some k1∧vO (l.drop k1.length)=some k2
 | [],k2,l,h=>by simpa [vO] using h
 | k::k1,k2,[],h=>by simp [vO] at h
 | k::k1,k2,x::l,h=>by
  simp only [vO,List.cons_append] at h
  split at h
  ·rename_i q hq
   split at h
   ·rename_i r hr
    cases h
    obtain ⟨h1,h2⟩:=rG (k1:=k1) hr
    refine ⟨?_,by simpa using h2⟩
    simp only [List.length_cons,List.take_succ_cons,vO,hq,h1]
   ·cases h
  ·cases h
theorem yx:∀ {xs ys:List AV} (n:Nat),xs.length=ys.length→AZ xs ys=(AZ (xs.take n) (ys.take n) && AZ (xs.drop n) (ys.drop n))
 | [],[],n,_=>by simp [AZ]
 | x::xs,y::ys,0,_=>by simp [AZ]
 | x::xs,y::ys,n+1,h=>by
  simp only [List.take_succ_cons,List.drop_succ_cons,AZ]
  rw [yx (xs:=xs) n (by simpa using h),Bool.and_assoc]
 | [],y::ys,n,h=>by simp at h
 | x::xs,[],n,h=>by simp at h
section
variable {P:Program} {w:World} {c:Ctx}
def Hq (P:Program) (w:World) (c:Ctx) (n:Nat) (fk:TypeId→Option (List Kd)):Prop:=
 ∀ (t:TypeId) (ks:List Kd),fk t=some ks→P.cellsOf t=ks.length→∀ (VS US:List Value) (off:Nat) (xs ys:List AV),aV c xs ((VS.drop off).take ks.length)→aV c ys ((US.drop off).take ks.length)→vO xs=some ks→vO ys=some ks →
  ∃ a b,(part t VS.toArray off).run P w=.ok a w∧(part t US.toArray off).run P w=.ok b w∧(Op.equalIn n t a b).run P w=.ok (AZ xs ys) w
theorem lN {n:Nat} {fk:TypeId→Option (List Kd)} (ih:Hq P w c n fk) (VS US:List Value):∀ (fs:List Field) (off:Nat) (ks:List Kd),vF P fk off fs=some ks→∀ (xs ys:List AV),
  aV c xs ((VS.drop off).take ks.length)→aV c ys ((US.drop off).take ks.length)→vO xs=some ks→vO ys=some ks→(Op.eqFields n VS.toArray US.toArray fs).run P w=.ok (AZ xs ys) w
 | [],off,ks,h,xs,ys,_,_,kx,ky=>by
  simp only [vF,Option.some.injEq] at h
  subst h
  have h1:=kM kx
  have h2:=kM ky
  obtain rfl:=List.eq_nil_of_length_eq_zero h1
  obtain rfl:=List.eq_nil_of_length_eq_zero h2
  rfl
 | f::fs,off,ks,h,xs,ys,hx,hy,kx,ky=>by
  simp only [vF] at h
  split at h
  ·rename_i k1 hk1
   cases hb:(decide (f.offset=off) && !(f.name == "_") && decide (P.cellsOf f.type=k1.length)) with
   | false=>rw [hb] at h;cases h
   | true=>
    rw [hb] at h
    simp only [cond_true] at h
    split at h
    ·rename_i k2 hk2
     cases h
     simp only [Bool.and_eq_true,decide_eq_true_eq,Bool.not_eq_true',beq_eq_false_iff_ne] at hb
     obtain ⟨⟨ho,hn⟩,hc⟩:=hb
     obtain ⟨kx1,kx2⟩:=rG kx
     obtain ⟨ky1,ky2⟩:=rG ky
     have tk:∀ (Z:List Value),((Z.drop off).take (k1++k2).length).take k1.length=(Z.drop off).take k1.length:=fun Z=>by
      rw [List.take_take,List.length_append,Nat.min_eq_left (by omega)]
     have dr:∀ (Z:List Value),((Z.drop off).take (k1++k2).length).drop k1.length=(Z.drop (off+k1.length)).take k2.length:=fun Z=>by
      rw [List.drop_take,List.drop_drop,List.length_append,Nat.add_sub_cancel_left]
     have hx1:=hx.take k1.length
     have hx2:=hx.drop k1.length
     have hy1:=hy.take k1.length
     have hy2:=hy.drop k1.length
     rw [tk] at hx1 hy1
     rw [dr] at hx2 hy2
     obtain ⟨a,b,ha,hb',he⟩:=ih f.type k1 hk1 hc VS US off _ _ hx1 hy1 kx1 ky1
     have ih2:=lN ih VS US fs (off+k1.length) k2 hk2 _ _ hx2 hy2 kx2 ky2
     have hl:xs.length=ys.length:=by rw [kM kx,kM ky]
     rw [yx k1.length hl]
     simp only [Op.eqFields,ho]
     rw [if_pos hn]
     simp only [Sem.run_bind,ha,hb',he,Result.andThen]
     cases AZ (xs.take k1.length) (ys.take k1.length) with
     | false=>rfl
     | true=>simpa using ih2
    ·cases h
  ·cases h
theorem one_cell {t:TypeId} {D:TypeDesc} (ht:P.underlying t=some D) (hd:zl D=false) {k:Kd} {VS:List Value} {off:Nat} {xs:List AV} (hx:aV c xs ((VS.drop off).take 1)) (kx:vO xs=some [k]) :
  ∃ x v,xs=[x]∧kd x=some k∧Rv c x v∧(part t VS.toArray off).run P w=.ok v w:=by
 have hl:=kM kx
 match xs,hl with
 | [x],_=>
  have hk:kd x=some k:=by
   simp only [vO] at kx
   split at kx
   ·rename_i q hq;cases kx;exact hq
   ·cases kx
  generalize hq:(VS.drop off).take 1=dv at hx
  cases hx with
  | cons _ v _ us hv h1 ht'=>
   have hcell:VS[off]?=some v:=by
    have:((VS.drop off).take 1)[0]?=some v:=by rw [hq];rfl
    rw [List.getElem?_take] at this
    simpa using this
   exact ⟨x,v,rfl,hk,hv,by simp [part,iW ht,hd,hcell,Sem.run_bind,Result.andThen]⟩
theorem Fe:∀ (d n:Nat),d≤n→Hq P w c n (flatK P d)
 | 0,n,_=>fun t ks h=>by cases h
 | d+1,0,h=>by omega
 | d+1,n+1,hn=>by
  intro t ks hf hc VS US off xs ys hx hy kx ky
  unfold flatK at hf
  cases ht:P.underlying t with
  | none=>rw [ht] at hf;cases hf
  | some D=>
   rw [ht] at hf
   cases D<;>simp only [reduceCtorEq,Option.some.injEq] at hf
   case bool=>
    subst hf
    obtain ⟨x,v,rfl,k1,r1,p1⟩:=one_cell (w:=w) ht rfl hx kx
    obtain ⟨y,u,rfl,k2,r2,p2⟩:=one_cell (w:=w) ht rfl hy ky
    refine ⟨v,u,p1,p2,?_⟩
    cases r1<;>simp [kd] at k1
    cases r2<;>simp [kd] at k2
    rename_i a b
    rw [run_equalIn_bool w n t a b ht]
    cases a<;>cases b<;>rfl
   case int k'=>
    subst hf
    obtain ⟨x,v,rfl,k1,r1,p1⟩:=one_cell (w:=w) ht rfl hx kx
    obtain ⟨y,u,rfl,k2,r2,p2⟩:=one_cell (w:=w) ht rfl hy ky
    refine ⟨v,u,p1,p2,?_⟩
    cases r1<;>simp [kd] at k1
    cases r2<;>simp [kd] at k2
    subst k1;subst k2
    rw [run_equalIn_int w n t _ _ _ _ ht]
    simp only [AZ,eq1,Bool.and_true]
    congr 1
   case string=>
    subst hf
    obtain ⟨x,v,rfl,k1,r1,p1⟩:=one_cell (w:=w) ht rfl hx kx
    obtain ⟨y,u,rfl,k2,r2,p2⟩:=one_cell (w:=w) ht rfl hy ky
    refine ⟨v,u,p1,p2,?_⟩
    cases r1<;>simp [kd] at k1
    cases r2<;>simp [kd] at k2
    rename_i a _ b _
    rw [run_equalIn_string w n t _ _ ht]
    have e1:∀ l:List UInt8,(ByteArray.mk l.toArray).toList=l:=fun l=>by rw [ByteArray.toList_eq]
    rw [e1,e1]
    simp only [AZ,eq1,Bool.and_true]
    congr 1
    rw [Bool.eq_iff_iff];simp
   case struct fs=>
    cases hp:P.stoodInHeld t with
    | true=>rw [hp] at hf;cases hf
    | false=>
     rw [hp] at hf
     simp only [cond_false] at hf
     obtain ⟨i,hi⟩:=info_of_underlying ht
     have hs:=bC (P:=P) hi w
     have hpt:∀ Z:List Value,(part t Z.toArray off).run P w=.ok (.agg ((Z.drop off).take ks.length).toArray) w:=by
      intro Z
      simp [part,iW ht,zl,hs,Sem.run_bind,Result.andThen,List.extract_eq_take_drop,hc]
     refine ⟨_,_,hpt VS,hpt US,?_⟩
     have hfo:P.fieldsOf t=fs:=by unfold Program.fieldsOf;rw [ht]
     rw [run_equalIn_struct w n t _ _ (by rw [hfo];exact ht) hp,hfo]
     refine lN (Fe d n (by omega)) _ _ fs.toList 0 ks hf xs ys ?_ ?_ kx ky
     ·rw [List.drop_zero,List.take_take,Nat.min_self];exact hx
     ·rw [List.drop_zero,List.take_take,Nat.min_self];exact hy
theorem yA {t:TypeId} {ks:List Kd} {xs ys:List AV} {vs us:List Value} (h:Nr P t ks) (hst:∃ fs,P.underlying t=some (.struct fs)) (hx:aV c xs vs) (hy:aV c ys us) (kx:vO xs=some ks) (ky:vO ys=some ks) :
  (Op.equalIn 10000 t (.agg vs.toArray) (.agg us.toArray)).run P w=.ok (AZ xs ys) w:=by
 obtain ⟨fs,ht⟩:=hst
 have hf:=h.1
 unfold flatK at hf
 rw [ht] at hf
 simp only at hf
 cases hp:P.stoodInHeld t with
 | true=>rw [hp] at hf;cases hf
 | false=>
  rw [hp] at hf
  simp only [cond_false] at hf
  have hfo:P.fieldsOf t=fs:=by unfold Program.fieldsOf;rw [ht]
  have tk:∀ {xs:List AV} {vs:List Value},aV c xs vs→vO xs=some ks→(vs.drop 0).take ks.length=vs:=by
   intro xs vs h k
   rw [List.drop_zero]
   exact List.take_of_length_le (by have h1:=h.length;have h2:=kM k;omega)
  rw [show (10000:Nat)=9999+1 from rfl,run_equalIn_struct w 9999 t _ _ (by rw [hfo];exact ht) hp,hfo]
  exact lN (Fe 7 9999 (by omega)) _ _ fs.toList 0 ks hf xs ys (by rw [tk hx kx];exact hx) (by rw [tk hy ky];exact hy) kx ky
end
def Jo:AV→Option Bool
 | .cell _=>some false
 | .ptr _ _=>some false
 | .raw v=>match v with
  | .pointer none=>some true
  | _=>none
 | _=>none
def NZ:AV→Option Bool
 | .raw v=>match v with
  | .nilIface=>some true
  | .iface _ _=>some false
  | _=>none
 | .ifc _ _=>some false
 | _=>none
def EF (P:Program) (op:BinOp) (t:TypeId) (x:AV) (v:Value) (K:AV→Prop):Prop:=
 match Jo x,Jo (.raw v),P.underlying t with
 | some b,some true,some (.pointer _)=>match op with
  | .eql=>K (.bool b)
  | .neq=>K (.bool (!b))
  | _=>False
 | _,_,_=>False
theorem um {c:Ctx} {x:AV} {v:Value} {b:Bool} (h:NZ x=some b) (hr:Rv c x v):(b=true∧v=.nilIface)∨(b=false∧∃ u y,v=.iface u y):=by
 cases hr with
 | raw v=>
  simp only [NZ] at h
  split at h
  ·cases h;exact .inl ⟨rfl,rfl⟩
  ·cases h;exact .inr ⟨rfl,_,_,rfl⟩
  ·cases h
 | ifc t x u hu=>cases h;exact .inr ⟨rfl,_,_,rfl⟩
 | _=>cases h
theorem CY {c:Ctx} {x:AV} {v:Value} {b:Bool} (h:Jo x=some b) (hr:Rv c x v):∃ p:Option Addr,v=.pointer p∧p.isNone=b:=by
 cases hr with
 | cell cs vs a _ _ _=>cases h;exact ⟨some a,rfl,rfl⟩
 | ptr i off g _ _=>cases h;exact ⟨_,rfl,rfl⟩
 | raw v=>
  simp only [Jo] at h
  split at h
  ·cases h;exact ⟨none,rfl,rfl⟩
  ·cases h
 | _=>cases h
def Ai (P:Program) (op:BinOp) (t:TypeId) (x y:AV) (K:AV→Prop):Prop:=
 match x,y with
 | .agg xs,.agg ys=>match vO xs,P.underlying t with
  | some ks,some (.struct _)=>match op with
   | .eql=>aN (Nr P t ks) (aN (vO ys=some ks) (K (.bool (AZ xs ys))))
   | .neq=>aN (Nr P t ks) (aN (vO ys=some ks) (K (.bool (!AZ xs ys))))
   | _=>False
  | _,_=>False
 | .ro r,.nilS=>match op,P.underlying t with
  | .eql,some (.slice _)=>A8 (r.len=0) (K (.bool true))∧K (.bool false)
  | .neq,some (.slice _)=>A8 (r.len=0) (K (.bool false))∧K (.bool true)
  | _,_=>False
 | x,.raw v=>EF P op t x v K
 | x,y=>oG P op t x y K
section
variable {P:Program} {w0:World} {T0:Bs} {o:Oper} {s:S} {K:AV→S→Prop}
theorem Aj {op:BinOp} {t t':TypeId} {x y:Operand} (ho:o.op=.binOp op t x y t') (hx:aj x) (hy:aj y)
  (h:Ai P op t (s.ev x) (s.ev y) (fun r=>K r s)):bf P w0 T0 o s K:=by
 unfold Ai at h
 split at h
 ·rename_i xs ys ex ey
  intro H a w m hm
  have rx:=hm.ev x hx
  have ry:=hm.ev y hy
  rw [ex] at rx
  rw [ey] at ry
  generalize hvx:a.eval x=vx at rx
  generalize hvy:a.eval y=vy at ry
  cases rx with
  | agg _ vs hvs=>
   cases ry with
   | agg _ us hus=>
    split at h
    ·rename_i ks fs hk ht
     split at h
     ·obtain ⟨he,hk2,h⟩:=h
      refine ⟨_,_,h,?_,.bool _⟩
      unfold execOp
      rw [ho]
      simp [Sem.run_bind,hvx,hvy,run_eqGuard_agg w _ t x y _ _ he.2,run_eql_struct,yA (w:=w) he ⟨fs,ht⟩ hvs hus hk hk2,Result.andThen]
     ·obtain ⟨he,hk2,h⟩:=h
      refine ⟨_,_,h,?_,.bool _⟩
      unfold execOp
      rw [ho]
      simp [Sem.run_bind,hvx,hvy,run_eqGuard_agg w _ t x y _ _ he.2,run_neq_struct,yA (w:=w) he ⟨fs,ht⟩ hvs hus hk hk2,Result.andThen]
     ·exact h.elim
    ·exact h.elim
 ·rename_i r ex ey
  intro H a w m hm
  have rx:=hm.ev x hx
  have ry:=hm.ev y hy
  rw [ex] at rx
  rw [ey] at ry
  generalize hvx:a.eval x=vx at rx
  generalize hvy:a.eval y=vy at ry
  cases ry
  have hz:vx=.slice none 0 0→r.len=0:=by
   intro e
   cases rx with
   | roNil _ hr=>
    have:=hr.len;have:=hr.pos;simp at *
    rcases Nat.mul_eq_zero.1 (by omega:r.len*r.sz=0) with e|e<;>omega
   | ro=>cases e
  have hsl:∃ (ad:Option Addr) (n cp:Nat),vx=.slice ad n cp∧(ad=none→vx=.slice none 0 0):=by
   cases rx with
   | roNil _ hr=>exact ⟨none,0,0,rfl,fun _=>rfl⟩
   | ro _ ad n cp=>exact ⟨some ad,n,cp,rfl,fun e=>by cases e⟩
  obtain ⟨ad,n,cp,e,hn⟩:=hsl
  split at h
  ·rename_i e' ht
   have hr:(binOp .eql t vx (.slice none 0 0)).run P w=.ok (.bool ad.isNone) w:=by rw [e];exact Lib.run_eql_slice_nil w _ _ ad n cp 0 0 ht
   have hrun:=iR .eql t t' x y ho a.eval w _ (by rw [hvx,e];simp) (by rw [hvx,e];simp) (by rw [hvx,hvy];exact hr)
   cases ad with
   | none=>exact ⟨_,_,h.1 (hz (hn rfl)),hrun,.bool _⟩
   | some g=>exact ⟨_,_,h.2,hrun,.bool _⟩
  ·rename_i e' ht
   have hr:(binOp .neq t vx (.slice none 0 0)).run P w=.ok (.bool (!ad.isNone)) w:=by rw [e];exact run_neq_slice_nil_any w _ _ ad n cp 0 0 ht
   have hrun:=iR .neq t t' x y ho a.eval w _ (by rw [hvx,e];simp) (by rw [hvx,e];simp) (by rw [hvx,hvy];exact hr)
   cases ad with
   | none=>exact ⟨_,_,h.1 (hz (hn rfl)),hrun,.bool _⟩
   | some g=>exact ⟨_,_,h.2,hrun,.bool _⟩
  ·exact h.elim
 ·rename_i v ey
  intro H a w m hm
  have rx:=hm.ev x hx
  have ry:=hm.ev y hy
  rw [ey] at ry
  generalize hvx:a.eval x=vx at rx
  generalize hvy:a.eval y=vy at ry
  unfold EF at h
  split at h
  ·rename_i b e h1 h2 ht
   obtain ⟨p,rfl,hp⟩:=CY h1 rx
   obtain ⟨q,rfl,hq⟩:=CY h2 ry
   have hq0:q=none:=by cases q with|none=>rfl|some a=>cases hq
   subst hq0
   have ht':P.underlying t=some (.pointer (P.pointee t)):=by
    rw [ht];unfold Program.pointee;rw [ht]
   split at h
   ·have hr:(binOp .eql t (.pointer p) (.pointer none)).run P w=.ok (.bool b) w:=by rw [←hp];exact run_eql_pointer_nil w t p ht'
    exact ⟨_,_,h,iR .eql t t' x y ho a.eval w _ (by rw [hvx];simp) (by rw [hvx];simp) (by rw [hvx,hvy];exact hr),.bool _⟩
   ·have hr:(binOp .neq t (.pointer p) (.pointer none)).run P w=.ok (.bool (!b)) w:=by rw [←hp];exact run_neq_pointer_nil w t p ht'
    exact ⟨_,_,h,iR .neq t t' x y ho a.eval w _ (by rw [hvx];simp) (by rw [hvx];simp) (by rw [hvx,hvy];exact hr),.bool _⟩
   ·exact h.elim
  ·exact h.elim
 ·exact Du ho hx hy h
def vM:Operand→Bool
 | .const v=>match v with
  | .nilIface=>true
  | _=>false
 | _=>false
theorem Ea {y:Operand} (h:vM y=true):y=.const .nilIface:=by
 unfold vM at h
 split at h
 ·split at h
  ·rfl
  ·cases h
 ·cases h
def wM (P:Program) (op:BinOp) (t:TypeId) (y:Operand) (a b:AV) (K:AV→Prop):Prop:=
 cond (vM y) (match NZ a,P.underlying t with
  | some c,some (.interface _)=>match op with
   | .eql=>K (.bool c)
   | .neq=>K (.bool (!c))
   | _=>False
  | _,_=>False) (Ai P op t a b K)
theorem Bj (op:BinOp) (t t':TypeId) (x:Operand) (ho:o.op=.binOp op t x (.const .nilIface) t') (ρ:Operand→Value) (w:World) (v:Value) (hρ:ρ (.const .nilIface)=.nilIface)
  (h1:∀ c,ρ x≠.agg c) (hr:(binOp op t (ρ x) .nilIface).run P w=.ok v w):(execOp ρ o).run P w=.ok (.value v) w:=by
 have hg:eqGuard op t x (.const .nilIface) (ρ x) .nilIface=pure ():=by
  unfold eqGuard
  generalize ρ x=vx
  cases op<;>first|rfl|(cases vx<;>simp)
 unfold execOp
 rw [ho]
 simp [Sem.run_bind,hρ,hg,hr,Result.andThen]
theorem Af {op:BinOp} {t t':TypeId} {x y:Operand} (ho:o.op=.binOp op t x y t') (hx:aj x) (hy:aj y)
  (h:wM P op t y (s.ev x) (s.ev y) (fun r=>K r s)):bf P w0 T0 o s K:=by
 unfold wM at h
 cases hn:vM y with
 | false=>rw [hn] at h;exact Aj ho hx hy h
 | true=>
  rw [hn] at h
  have e:=Ea hn
  subst e
  simp only [cond_true] at h
  intro H a w m hm
  have rx:=hm.ev x hx
  generalize hvx:a.eval x=vx at rx
  split at h
  ·rename_i c ms h1 ht
   have ht':P.underlying t=some (.interface (P.methodsAt t)):=by
    rw [ht];unfold Program.methodsAt;rw [ht]
   split at h
   ·have hr:(binOp .eql t vx .nilIface).run P w=.ok (.bool c) w:=by
     rcases um h1 rx with ⟨rfl,rfl⟩|⟨rfl,u,z,rfl⟩
     ·exact run_eql_nil_nil w t ht'
     ·exact run_eql_held_nil w t u z ht'
    exact ⟨_,_,h,Bj .eql t t' x ho a.eval w _ rfl (by rw [hvx];rcases um h1 rx with ⟨_,rfl⟩|⟨_,u,z,rfl⟩<;>simp) (by rw [hvx];exact hr),.bool _⟩
   ·have hr:(binOp .neq t vx .nilIface).run P w=.ok (.bool (!c)) w:=by
     rcases um h1 rx with ⟨rfl,rfl⟩|⟨rfl,u,z,rfl⟩
     ·exact run_neq_nil_nil w t ht'
     ·exact run_neq_held_nil w t u z ht'
    exact ⟨_,_,h,Bj .neq t t' x ho a.eval w _ rfl (by rw [hvx];rcases um h1 rx with ⟨_,rfl⟩|⟨_,u,z,rfl⟩<;>simp) (by rw [hvx];exact hr),.bool _⟩
   ·exact h.elim
  ·exact h.elim
theorem Ae {op:BinOp} {t t':TypeId} {x y:Operand} (ho:o.op=.binOp op t x y t') (hx:aj x) (hy:aj y)
  (h:wM P op t y (s.ev x) (s.ev y) (fun r=>K r s)):aB P w0 T0 o s K:=(Af ho hx hy h).op
end
end Go.Fv
/-
 A text's bytes as a row of the call's own.
-/
namespace Go.Fv
open Go.RowKit
def aH (l:List UInt8):List Int:=l.map fun b=>(b.toNat:Int)
def Kt (n:Int):List UInt8:=(Utf8.encode n).data.toList
theorem Il (n:Int):(Kt n).length≤4:=by
 unfold Kt Utf8.encode
 dsimp only
 repeat' split
 all_goals simp
theorem Io {n:Int} (h:0≤n∧n<128):Utf8.encode n=⟨[UInt8.ofNat n.toNat].toArray⟩:=by
 have hv:Utf8.valid n=true:=by unfold Utf8.valid;simp;omega
 have hlt:n.toNat<128:=by omega
 unfold Utf8.encode
 simp only [hv,if_true]
 rw [if_pos hlt]
def nR (P:Program) (src dst:TypeId) (x:Operand) (s:S) (K:AV→S→Prop):Prop:=
 match P.underlying dst with
 | some (.slice e)=>match s.ev x with
  | .str l=>aN (P.underlying src=some .string∧P.underlying e=some (.int .u8)∧e=5) (K (.own s.next) (s.add (.row e (.ints .u8 (aH l)))))
  | _=>False
 | some .string=>match s.ev x with
  | .int _ n=>aN ((P.underlying src).isSome=true) (if 0≤n∧n<128 then K (.str [UInt8.ofNat n.toNat]) s else K (.str (Kt n)) s)
  | _=>mP P src dst x s K
 | _=>mP P src dst x s K
section
variable {P:Program} {w0:World} {T0:Bs} {o:Oper} {s:S} {K:AV→S→Prop}
theorem xP {src dst:TypeId} {x:Operand} (ho:o.op=.convert src dst x) (hx:aj x) (h:nR P src dst x s K):aB P w0 T0 o s K:=by
 unfold nR at h
 split at h
 ·rename_i e hd
  split at h
  ·rename_i l hl
   obtain ⟨⟨hs,he,he5⟩,hk⟩:=h
   refine aB.mem fun H a w m hm=>?_
   have rx:=hm.ev x hx
   rw [hl] at rx
   generalize hvx:a.eval x=vx at rx
   cases rx with
   | str _ hlen=>
    have hr:=run_bytes_of_string (P:=P) w src dst e ⟨l.toArray⟩ hs hd he
    have hsz:(⟨l.toArray⟩:ByteArray).size=l.length:=by simp [ByteArray.size]
    rw [hsz] at hr
    have hge:=grownCap_ge w l.length 0 e
    have hle:=grownCap_le_maxLen w l.length 0 e hlen
    have hrow:(bytesRow ⟨l.toArray⟩ (grownCap w l.length 0 e)).size=grownCap w l.length 0 e:=by
     simp [bytesRow,hsz];omega
    have htk:(bytesRow ⟨l.toArray⟩ (grownCap w l.length 0 e)).toList.take (l.length*1)=(aH l).map (Value.int .u8):=by
     have e1:(bytesRow ⟨l.toArray⟩ (grownCap w l.length 0 e)).toList=(l.map fun b=>Value.int .u8 b.toNat)++List.replicate (grownCap w l.length 0 e - l.length) (.int .u8 0):=by
      simp [bytesRow,hsz]
     rw [e1,Nat.mul_one]
     have e2:(l.map fun b=>Value.int .u8 b.toNat).length=l.length:=by simp
     rw [←e2,List.take_left']
     ·simp [aH]
     ·rfl
    generalize bytesRow ⟨l.toArray⟩ (grownCap w l.length 0 e)=cur at *
    generalize grownCap w l.length 0 e=cap at *
    have hin:∀ x,x∈aH l→gq .u8 x:=by
     intro x hx
     obtain ⟨b,_,rfl⟩:=List.mem_map.1 hx
     have:=b.toNat_lt
     exact oI.2 ⟨by omega,by omega⟩
    have hnew:=(hm.drew).new (w':=w.drew.alloc (.cells cur e (cur.size,cur.size+1))) (hm.drew.below.alloc _) (fun b hb=>Below.heap_alloc w.drew _ b hb) (.row e (.ints .u8 (aH l))) (.slice (some ⟨w.heap.size,0,none⟩) l.length cap) (fun b hb=>by cases hb;exact Nat.le_refl _)
     (fun c hle' hw=>⟨l.length,(aH l).map (Value.int .u8),.ints .u8 _ hin,by simp [au.len,aH],⟨by simp [au.sz,aH],.inr ⟨w.heap.size,cap,cur,(cur.size,cur.size+1),rfl,.inr ⟨Nat.le_refl _,he5⟩,by rw [hw];exact heap_alloc_new w.drew _,hge,hle,by simp [au.sz,hrow],htk⟩⟩,fun b hb=>by cases hb;exact .inl hm.lt⟩)
    refine ⟨_,_,_,_,_,hk,.inl ?_,ig hnew rfl⟩
    unfold execOp;rw [ho]
    simp [hvx,hr]
  ·exact h.elim
 ·rename_i hd
  split at h
  ·rename_i k n hn
   obtain ⟨hs,hk⟩:=h
   refine bf.op fun H a w m hm=>?_
   have rx:=hm.ev x hx
   rw [hn] at rx
   generalize hvx:a.eval x=vx at rx
   cases rx
   have hr:=run_convert_int_string (P:=P) w src dst k n hs hd
   have fin:∀ r v,K r s→(convert src dst (a.eval x)).run P w=.ok v w→Rv (ak T0 w0.heap.size m s w) r v→∃ r v,K r s∧(execOp a.eval o).run P w=.ok (.value v) w∧Rv (ak T0 w0.heap.size m s w) r v:=by
    intro r v hk hr hv
    refine ⟨r,v,hk,?_,hv⟩
    unfold execOp;rw [ho];simp [hr]
   by_cases hl:0≤n∧n<128
   ·rw [if_pos hl] at hk
    rw [Io hl] at hr
    exact fin _ _ hk (by rw [hvx];exact hr) (.str _ (by simp [maxLen]))
   ·rw [if_neg hl] at hk
    refine fin _ _ hk (by rw [hvx];exact hr) ?_
    have h4:=Il n
    exact .str (Kt n) (by unfold maxLen;omega)
  ·exact qF ho hx h
 ·exact qF ho hx h
end
end Go.Fv
/-
 Maps: made, read, written, gone through.
-/
namespace Go.Fv
open Go.RowKit
open Go.ChangeMaps (setBlock)
/-! ### Keys -/
mutual
def jh:AV→Bool
 | .bool _=>true
 | .int _ _=>true
 | .str _=>true
 | .agg cs=>kN cs
 | _=>false
def kN:List AV→Bool
 | []=>true
 | x::l=>jh x && kN l
end
mutual
def o7:AV→Value
 | .bool b=>.bool b
 | .int k n=>.int k n
 | .str s=>.string ⟨s.toArray⟩
 | .agg cs=>.agg (kZ cs).toArray
 | _=>undef
def kZ:List AV→List Value
 | []=>[]
 | x::l=>o7 x::kZ l
end
mutual
def Nl:AV→Prop
 | .int k n=>gq k n
 | .str s=>s.length≤maxLen
 | .agg cs=>Ld cs
 | _=>True
def Ld:List AV→Prop
 | []=>True
 | x::l=>Nl x∧Ld l
end
mutual
theorem eH {c:Ctx}:∀ (x:AV) {v:Value},jh x=true→Rv c x v→v=o7 x∧Nl x
 | .bool b,_,_,h=>by cases h;exact ⟨rfl,trivial⟩
 | .int k n,_,_,h=>by cases h with|int _ _ hk=>exact ⟨rfl,hk⟩
 | .str s,_,_,h=>by cases h with|str _ hk=>exact ⟨rfl,hk⟩
 | .agg cs,_,e,h=>by
  cases h with
  | agg _ vs hl=>
   obtain ⟨h1,h2⟩:=vP cs (by simpa only [jh] using e) hl
   subst h1
   exact ⟨rfl,h2⟩
theorem vP {c:Ctx}:∀ (x:List AV) {v:List Value},kN x=true→aV c x v→v=kZ x∧Ld x
 | [],_,_,h=>by cases h;exact ⟨rfl,trivial⟩
 | x::l,_,e,h=>by
  simp only [kN,Bool.and_eq_true] at e
  cases h with
  | cons _ u _ us hu h1 ht=>
   obtain ⟨h1,h2⟩:=eH x e.1 hu
   obtain ⟨h3,h4⟩:=vP l e.2 ht
   exact ⟨by rw [h1,h3];rfl,h2,h4⟩
end
mutual
theorem Dt:∀ (x y:AV),jh x=true→jh y=true→o7 x=o7 y→x=y
 | .bool _,y,_,hy,h=>by cases y<;>simp_all [o7,jh,undef]
 | .int _ _,y,_,hy,h=>by cases y<;>simp_all [o7,jh,undef]
 | .str s,y,_,hy,h=>by
  cases y<;>simp_all [o7,jh,undef]
 | .agg cs,y,hx,hy,h=>by
  cases y with
  | agg cs'=>
   simp only [o7,Value.agg.injEq] at h
   have h':kZ cs=kZ cs':=by simpa using congrArg Array.toList h
   rw [y7 cs cs' (by simpa only [jh] using hx) (by simpa only [jh] using hy) h']
  | _=>simp_all [o7,jh,undef]
theorem y7:∀ (x y:List AV),kN x=true→kN y=true→kZ x=kZ y→x=y
 | [],[],_,_,_=>rfl
 | [],_::_,_,_,h=>by simp [kZ] at h
 | _::_,[],_,_,h=>by simp [kZ] at h
 | x::l,y::l',hx,hy,h=>by
  simp only [kN,Bool.and_eq_true] at hx hy
  simp only [kZ,List.cons.injEq] at h
  rw [Dt x y hx.1 hy.1 h.1,y7 l l' hx.2 hy.2 h.2]
end
mutual
def jf:AV→AV→Bool
 | .bool a,y=>match y with | .bool b=>decide (a=b)|_=>false
 | .int k a,y=>match y with | .int k' b=>decide (k=k'∧a=b)|_=>false
 | .str a,y=>match y with | .str b=>decide (a=b)|_=>false
 | .agg xs,y=>match y with | .agg ys=>oN xs ys|_=>false
 | _,_=>false
def oN:List AV→List AV→Bool
 | [],y=>match y with|[]=>true|_=>false
 | x::l,y=>match y with|z::l'=>jf x z && oN l l'|[]=>false
end
mutual
theorem nD:∀ (x y:AV),jh x=true→(jf x y=true↔x=y)
 | .bool a,y,_=>by cases y<;>simp [jf]
 | .int k a,y,_=>by cases y<;>simp [jf]
 | .str a,y,_=>by cases y<;>simp [jf]
 | .agg xs,y,h=>by
  cases y<;>simp only [jf,Bool.false_eq_true,reduceCtorEq,AV.agg.injEq]
  exact uZ xs _ (by simpa only [jh] using h)
theorem uZ:∀ (x y:List AV),kN x=true→(oN x y=true↔x=y)
 | [],y,_=>by cases y<;>simp [oN]
 | x::l,y,h=>by
  simp only [kN,Bool.and_eq_true] at h
  cases y with
  | nil=>simp [oN]
  | cons z l'=>simp only [oN,Bool.and_eq_true,nD x z h.1,uZ l l' h.2,List.cons.injEq]
end
def bV:List AV→AV→Option Nat
 | [],_=>none
 | x::l,k=>if jf x k=true then some 0 else (bV l k).map (·+1)
def oJ (P:Program) (kt:TypeId) (x:AV):Prop:=jh x=true∧(Nl x→∃ l,keyOf P kt (o7 x)=some l)
def uK (P:Program) (kt:TypeId) (l:List AV):Prop:=∀ x,x∈l→oJ P kt x
theorem oJ.int {P:Program} {kt:TypeId} {q:IntKind} (h:P.underlying kt=some (.int q)) (n:Int):oJ P kt (.int q n):=
 ⟨rfl,fun hw=>⟨_,Maps.keyOf_int_mk h (by simpa [Lit.wf,Nl,gq] using hw)⟩⟩
theorem oJ.str {P:Program} {kt:TypeId} (h:P.underlying kt=some .string) (s:List UInt8):oJ P kt (.str s):=
 ⟨rfl,fun hw=>⟨_,WideMaps.keyOf_string_mk (s:=⟨s.toArray⟩) h (by show s.toArray.size≤maxLen;simpa [Nl] using hw)⟩⟩
theorem yh {P:Program} {kt:TypeId}:uK P kt []:=fun x h=>by cases h
theorem F8 {P:Program} {kt:TypeId} {α:Type} {f:α→AV} (h:∀ a,oJ P kt (f a)) (l:List α):uK P kt (l.map f):=fun x hx=>by
 obtain ⟨a,_,rfl⟩:=List.mem_map.1 hx;exact h a
theorem bI.get' {c:Ctx}:∀ {l:List AV} {vs:List Value} {i:Nat} {v:Value},bI c l vs→vs[i]?=some v→∃ x,l[i]?=some x∧Rv c x v
 | _,_,i,v,.nil,h=>by simp at h
 | _,_,0,v,.cons x u l vs hx ht,h=>by simp at h;subst h;exact ⟨x,rfl,hx⟩
 | _,_,i+1,v,.cons x u l vs hx ht,h=>by simpa using bI.get' (i:=i) ht (by simpa using h)
theorem bI.set {c:Ctx}:∀ {l:List AV} {vs:List Value} (i:Nat) {x:AV} {v:Value},bI c l vs→Rv c x v→bI c (l.set i x) (vs.set i v)
 | _,_,_,_,_,.nil,_=>.nil
 | _,_,0,_,_,.cons y u l vs _ ht,h=>.cons _ _ _ _ h ht
 | _,_,i+1,_,_,.cons y u l vs hy ht,h=>.cons _ _ _ _ hy (bI.set i ht h)
theorem lX:∀ {ks:List AV} {k:AV} {j:Nat},bV ks k=some j→∃ x,ks[j]?=some x∧jf x k=true
 | x::l,k,j,h=>by
  simp only [bV] at h
  split at h
  ·rename_i e;cases h;exact ⟨x,rfl,e⟩
  ·simp only [Option.map_eq_some_iff] at h
   obtain ⟨i,hi,rfl⟩:=h
   obtain ⟨y,h1,h2⟩:=lX hi
   exact ⟨y,by simpa using h1,h2⟩
theorem sQ:∀ {ks:List AV} {k:AV},bV ks k=none→∀ x,x∈ks→jf x k=false
 | y::l,k,h,x,hx=>by
  simp only [bV] at h
  split at h
  ·cases h
  ·rename_i e
   simp only [Option.map_eq_none_iff] at h
   cases List.mem_cons.1 hx with
   | inl e'=>subst e';simpa using e
   | inr e'=>exact sQ h x e'
theorem Jf {α β:Type} {f:α→β} {l:List α} (hn:(l.map f).Nodup) {i j:Nat} {a b:α} (hi:l[i]?=some a) (hj:l[j]?=some b) (e:f a=f b):i=j:=by
 have h1:(l.map f)[i]?=some (f a):=by simp [hi]
 have h2:(l.map f)[j]?=some (f a):=by simp [hj,e]
 exact (List.getElem?_inj (List.getElem?_eq_some_iff.1 h1).1 hn).1 (h1.trans h2.symm)
theorem pR {c:Ctx} {P:Program} {kt:TypeId} {ks:List AV} {k:AV} {es:Array MapEntry} {kv:Value} (w:World) (hK:Maps.Keyed P kt) (hks:uK P kt ks) (hk:oJ P kt k)
  (hr:bI c ks (es.toList.map MapEntry.key)) (hkv:Rv c k kv) (hn:(es.toList.map MapEntry.key).Nodup) :
  (bV ks k=none∧(Instr.findKey kt kv es.toList).run P w=.ok none w∧∀ e∈es.toList,e.key≠kv) ∨
  ∃ j e,bV ks k=some j∧es[j]?=some e∧e.key=kv∧(Instr.findKey kt kv es.toList).run P w=.ok (some (j,e.val)) w:=by
 obtain ⟨hv,hwf⟩:=eH k hk.1 hkv
 obtain ⟨lx,hlx⟩:=hk.2 hwf
 rw [←hv] at hlx
 have hall:∀ e∈es.toList,∃ l,keyOf P kt e.key=some l:=by
  intro e he
  obtain ⟨i,hi⟩:=List.getElem?_of_mem he
  obtain ⟨x,hx,hxv⟩:=hr.get' (i:=i) (v:=e.key) (by simp [hi])
  obtain ⟨h1,h2⟩:=hks x (List.mem_of_getElem? hx)
  obtain ⟨h3,h4⟩:=eH x h1 hxv
  rw [h3];exact h2 h4
 have hat:∀ (j:Nat) (e:MapEntry),es[j]?=some e→∃ x,ks[j]?=some x∧jh x=true∧e.key=o7 x:=by
  intro j e he
  obtain ⟨x,hx,hxv⟩:=hr.get' (i:=j) (v:=e.key) (by simp [he])
  have h1:=(hks x (List.mem_of_getElem? hx)).1
  exact ⟨x,hx,h1,(eH x h1 hxv).1⟩
 rcases hK.find w hlx es.toList hall with ⟨h1,h2⟩|⟨j,e,h1,h2,h3⟩
 ·refine .inl ⟨?_,h1,h2⟩
  cases hq:bV ks k with
  | none=>rfl
  | some j=>
   obtain ⟨x,hx,he⟩:=lX hq
   obtain ⟨v,hv',hxv⟩:=hr.get hx
   have hxk:x=k:=(nD x k (hks x (List.mem_of_getElem? hx)).1).1 he
   subst hxk
   rw [List.getElem?_map] at hv'
   simp only [Option.map_eq_some_iff] at hv'
   obtain ⟨e,he',rfl⟩:=hv'
   exact absurd ((eH x hk.1 hxv).1.trans hv.symm) (h2 e (List.mem_of_getElem? he'))
 ·have h2':es[j]?=some e:=by simpa using h2
  obtain ⟨x,hx,hx1,hx2⟩:=hat j e h2'
  have hxk:x=k:=Dt x k hx1 hk.1 (by rw [←hx2,h3,hv])
  refine .inr ⟨j,e,?_,h2',h3,h1⟩
  cases hq:bV ks k with
  | none=>
   have:=sQ hq x (List.mem_of_getElem? hx)
   rw [(nD x k hx1).2 hxk] at this;cases this
  | some i=>
   obtain ⟨y,hy,he⟩:=lX hq
   obtain ⟨v,hv',hyv⟩:=hr.get hy
   have hy1:=(hks y (List.mem_of_getElem? hy)).1
   have hyk:y=k:=(nD y k hy1).1 he
   rw [List.getElem?_map] at hv'
   simp only [Option.map_eq_some_iff] at hv'
   obtain ⟨e',he',rfl⟩:=hv'
   have hke:e'.key=e.key:=by rw [(eH y hy1 hyv).1,hyk,h3,hv]
   rw [Jf hn he' h2 hke]
/-! ### What is read -/
def Nh:AV→Bool | .bool _=>true|_=>false
def N7 (q:IntKind):AV→Bool | .int k _=>decide (k=q)|_=>false
def isS:AV→Bool | .str _=>true|_=>false
def kJ (ks vs:List AV) (k:AV):Option AV:=(bV ks k).bind fun j=>vs[j]?
def tN (ks vs:List AV) (k:AV):Bool:=match kJ ks vs k with|some (.bool b)=>b|_=>false
def zC (ks vs:List AV) (k:AV):Int:=match kJ ks vs k with|some (.int _ n)=>n|_=>0
def Gn (ks vs:List AV) (k:AV):List UInt8:=match kJ ks vs k with|some (.str s)=>s|_=>[]
def mapOf (s:S):AV→Option (List AV × List AV)
 | .own i=>match lk s.rows i with
  | some (.map ks vs)=>some (ks,vs)
  | _=>none
 | .mp ks vs=>some (ks,vs)
 | .raw (.map none)=>some ([],[])
 | _=>none
def xA (ks vs:List AV) (k z:AV):AV:=match kJ ks vs k with|some v=>v|none=>z
theorem Gm {ks vs:List AV} {k z v:AV} (h:kJ ks vs k=some v):xA ks vs k z=v:=by simp [xA,h]
theorem Gl {ks vs:List AV} {k z:AV} (h:kJ ks vs k=none):xA ks vs k z=z:=by simp [xA,h]
class OD where
 k:AV→S→Prop
def qV (ks vs:List AV) (k z:AV) (ok:Bool) (s:S) [K:OD]:Prop:=
 (∀ v,kJ ks vs k=some v→K.k (bif ok then .tup [v,.bool true] else v) s)∧(kJ ks vs k=none→K.k (bif ok then .tup [z,.bool false] else z) s)
@[congr] theorem JU {ks ks' vs vs':List AV} {k k' z:AV} {ok:Bool} {s s':S} {K:OD} (h1:ks=ks') (h2:vs=vs') (h3:k=k') (h4:s=s'):@qV ks vs k z ok s K=@qV ks' vs' k' z ok s' K:=by rw [h1,h2,h3,h4]
theorem qV.some {ks vs:List AV} {k z v:AV} {ok:Bool} {s:S} {K:AV→S→Prop} (h:kJ ks vs k=some v) (hk:K (bif ok then .tup [v,.bool true] else v) s):@qV ks vs k z ok s ⟨K⟩:=
 And.intro (fun v' e=>by rw [h] at e;cases e;exact hk) (fun e=>by rw [h] at e;cases e)
theorem qV.none {ks vs:List AV} {k z:AV} {ok:Bool} {s:S} {K:AV→S→Prop} (h:kJ ks vs k=none) (hk:K (bif ok then .tup [z,.bool false] else z) s):@qV ks vs k z ok s ⟨K⟩:=
 And.intro (fun v' e=>by rw [h] at e;cases e) (fun _=>hk)
def FH (ks vs:List AV) (k:AV) (z:Value) (ok:Bool) (s:S) (K:AV→S→Prop):Prop:=
 match z with
 | .bool b=>aN (b=false∧vs.all Nh=true) (K (bif ok then .tup [.bool (tN ks vs k),.bool (bV ks k).isSome] else .bool (tN ks vs k)) s)
 | .int q n=>aN (n=0∧vs.all (N7 q)=true) (K (bif ok then .tup [.int q (zC ks vs k),.bool (bV ks k).isSome] else .int q (zC ks vs k)) s)
 | .string b=>aN (b.size=0∧vs.all isS=true) (K (bif ok then .tup [.str (Gn ks vs k),.bool (bV ks k).isSome] else .str (Gn ks vs k)) s)
 | z=>K (bif ok then .tup [xA ks vs k (yN z),.bool (bV ks k).isSome] else xA ks vs k (yN z)) s
def mQ (P:Program) (t:TypeId) (x i:Operand) (ok:Bool) (s:S) (K:AV→S→Prop):Prop:=
 match P.underlying t with
 | some (.map kt et)=>match zeroOf P et with
  | some z=>match mapOf s (s.ev x) with
   | some (ks,vs)=>aN (aj x∧aj i) (aN (aO P et z∧Maps.Keyed P kt∧oJ P kt (s.ev i)∧uK P kt ks) (FH ks vs (s.ev i) z ok s K))
   | none=>False
  | none=>False
 | _=>False
section
variable {P:Program} {w0:World} {T0:Bs} {o:Oper} {s:S} {K:AV→S→Prop}
theorem I7 {H:List (AV × Value)} {a:Act} {w:World} {m:Nat→Value} (hm:aF w0 T0 H s a w m) {x:AV} {v:Value} (hx:Rv (ak T0 w0.heap.size m s w) x v) {ks vs:List AV} (h:mapOf s x=some (ks,vs)) :
  (v=.map none∧ks=[]∧vs=[])∨∃ g es clock,v=.map (some g)∧w.heap[g]?=some (.map es clock)∧bI (ak T0 w0.heap.size m s w) ks (es.toList.map MapEntry.key)∧bI (ak T0 w0.heap.size m s w) vs (es.toList.map MapEntry.val)∧(∀ (i:Nat) (e:MapEntry),es[i]?=some e→e.born=i)∧zk es clock:=by
 unfold mapOf at h
 split at h
 ·rename_i i
  split at h
  ·rename_i ks' vs' hi
   cases h
   obtain ⟨g,es,clock,hv,_,h1,h2,h3,h4,hh⟩:=(hm.rows i _ hi).2
   cases hx with
   | own _ _ _=>exact .inr ⟨g,es,clock,hv,hh,h1,h2,h3,h4⟩
  ·cases h
 ·cases h
  cases hx with
  | mp _ _ g es clock h1 h2 h3 h4 hT hh _ _=>exact .inr ⟨g,es,clock,rfl,hh,h1,h2,h3,h4⟩
 ·cases h;cases hx;exact .inl ⟨rfl,rfl,rfl⟩
 ·cases h
theorem Bd (q:IntKind):gq q 0:=by cases q<;>simp [gq,IntKind.min,IntKind.max,IntKind.signed,IntKind.bits]
theorem vW {H:List (AV × Value)} {a:Act} {w:World} {m:Nat→Value} (hm:aF w0 T0 H s a w m) {ks vs:List AV} {k:AV} {z:Value} {ok:Bool} (h:FH ks vs k z ok s K) (hz:NU z)
  {v:Value} {b:Bool} (hfound:(b=true∧∃ x,kJ ks vs k=some x∧Rv (ak T0 w0.heap.size m s w) x v∧x∈vs)∨(b=false∧kJ ks vs k=none∧v=z)) (hb:(bV ks k).isSome=b) :
  ∃ r,K r s∧Rv (ak T0 w0.heap.size m s w) r (if ok then .tuple #[v,.bool b] else v):=by
 have fin:∀ (x:AV),K (bif ok then .tup [x,.bool b] else x) s→Rv (ak T0 w0.heap.size m s w) x v→∃ r,K r s∧Rv (ak T0 w0.heap.size m s w) r (if ok then .tuple #[v,.bool b] else v):=by
  intro x hk hx
  refine ⟨_,hk,?_⟩
  cases ok with
  | true=>exact .tup _ [v,.bool b] (.cons _ _ _ _ hx (.cons _ _ _ _ (.bool b) .nil))
  | false=>exact hx
 have gen:K (bif ok then .tup [xA ks vs k (yN z),.bool (bV ks k).isSome] else xA ks vs k (yN z)) s→∃ r,K r s∧Rv (ak T0 w0.heap.size m s w) r (if ok then .tuple #[v,.bool b] else v):=by
  intro h
  rw [hb] at h
  refine fin _ h ?_
  rcases hfound with ⟨rfl,x,hx,hr,_⟩|⟨rfl,hx,rfl⟩
  ·rw [Gm hx];exact hr
  ·rw [Gl hx]
   refine zO _ _ ?_
   cases v<;>first|trivial|exact hz
 unfold FH at h
 split at h
 ·obtain ⟨⟨rfl,hall⟩,h⟩:=h
  rw [hb] at h
  refine fin _ h ?_
  rcases hfound with ⟨rfl,x,hx,hr,hmem⟩|⟨rfl,hx,rfl⟩
  ·have:=List.all_eq_true.1 hall x hmem
   cases x<;>simp [Nh] at this
   simp only [tN,hx];exact hr
  ·simp only [tN,hx];exact .bool _
 ·obtain ⟨⟨rfl,hall⟩,h⟩:=h
  rw [hb] at h
  refine fin _ h ?_
  rcases hfound with ⟨rfl,x,hx,hr,hmem⟩|⟨rfl,hx,rfl⟩
  ·have:=List.all_eq_true.1 hall x hmem
   cases x<;>simp [N7] at this
   subst this
   simp only [zC,hx];exact hr
  ·simp only [zC,hx];exact .int _ _ (Bd _)
 ·rename_i bb
  obtain ⟨⟨h0,hall⟩,h⟩:=h
  rw [hb] at h
  refine fin _ h ?_
  rcases hfound with ⟨rfl,x,hx,hr,hmem⟩|⟨rfl,hx,rfl⟩
  ·have:=List.all_eq_true.1 hall x hmem
   cases x<;>simp [isS] at this
   simp only [Gn,hx];exact hr
  ·simp only [Gn,hx]
   have e:bb=⟨#[]⟩:=by
    obtain ⟨d⟩:=bb
    have:d.size=0:=h0
    rw [Array.eq_empty_of_size_eq_zero this]
   subst e
   exact .str [] (Nat.zero_le _)
 ·exact gen h
theorem wS {t:TypeId} {x i:Operand} {ok:Bool} (ho:o.op=.lookup t x i ok) (h:mQ P t x i ok s K):bf P w0 T0 o s K:=by
 unfold mQ at h
 intro H a w m hm
 cases ht:P.underlying t with
 | none=>rw [ht] at h;exact h.elim
 | some d=>
  rw [ht] at h
  cases d with
  | map kt et=>
   dsimp only at h
   cases hz:zeroOf P et with
   | none=>rw [hz] at h;exact h.elim
   | some z=>
    rw [hz] at h
    dsimp only at h
    cases hq:mapOf s (s.ev x) with
    | none=>rw [hq] at h;exact h.elim
    | some p=>
     obtain ⟨ks,vs⟩:=p
     rw [hq] at h
     obtain ⟨⟨hx,hi⟩,⟨hez,hK,hkt,hks⟩,h⟩:=h
     have ri:=hm.ev i hi
     obtain ⟨inf,hinf,hiz,his,hib⟩:=hez.ex
     have hzr:(zeroValue et).run P w=.ok z w:=by simp [zeroValue,typeInfo,hinf,hiz]
     obtain ⟨hv,hwf⟩:=eH _ hkt.1 ri
     obtain ⟨lx,hlx⟩:=hkt.2 hwf
     rw [←hv] at hlx
     have hck:∀ em,(Instr.checkKey em 10000 kt (a.eval i)).run P w=.ok () w:=fun em=>hK.check w em hlx
     rcases I7 hm (hm.ev x hx) hq with ⟨hv,rfl,rfl⟩|⟨g,es,clock,hv,hh,h1,h2,h3,h4⟩
     ·obtain ⟨r,hk,hr⟩:=vW hm h hez.ok (v:=z) (b:=false) (.inr ⟨rfl,rfl,rfl⟩) rfl
      refine ⟨r,_,hk,?_,hr⟩
      unfold execOp;rw [ho]
      have hf:(Instr.findKey kt (a.eval i) []).run P w=.ok none w:=by
       have:=pR (c:=ak T0 w0.heap.size m s w) (es:=#[]) w hK yh hkt .nil ri (by simp)
       rcases this with ⟨_,h,_⟩|⟨j,e,h,_⟩
       ·exact h
       ·cases h
      simp [Instr.lookup,run_underlying ht,hv,Sem.run_bind,Result.andThen,hck,hf,hzr]
     ·have hfr:=pR w hK hks hkt h1 ri h4.2
      have hget:(getObj g).run P w=.ok (.map es clock) w:=MapKept.run_getObj_map hh
      rcases hfr with ⟨e1,e2,_⟩|⟨j,e,e1,e2,e3,e4⟩
      ·obtain ⟨r,hk,hr⟩:=vW hm h hez.ok (v:=z) (b:=false) (.inr ⟨rfl,by simp [kJ,e1],rfl⟩) (by simp [e1])
       refine ⟨r,_,hk,?_,hr⟩
       unfold execOp;rw [ho]
       simp [Instr.lookup,run_underlying ht,hv,Sem.run_bind,Result.andThen,hget,hck,e2,hzr]
      ·obtain ⟨y,hy,hyv⟩:=h2.get' (i:=j) (v:=e.val) (by simp [e2])
       obtain ⟨r,hk,hr⟩:=vW hm h hez.ok (v:=e.val) (b:=true) (.inl ⟨rfl,y,by simp [kJ,e1,hy],hyv,List.mem_of_getElem? hy⟩) (by simp [e1])
       refine ⟨r,_,hk,?_,hr⟩
       unfold execOp;rw [ho]
       simp [Instr.lookup,run_underlying ht,hv,Sem.run_bind,Result.andThen,hget,hck,e4]
  | _=>exact h.elim
theorem wR {t:TypeId} {x i:Operand} {ok:Bool} (ho:o.op=.lookup t x i ok) (h:mQ P t x i ok s K):aB P w0 T0 o s K:=(wS ho h).op
end
end Go.Fv
