/-
  A part of the proof of the claim: walks over the program's functions and the plain laws that these need. No condition of its own.
-/
import Derived.Test.YtpbllkibobnifaaDoorFvPart3
import Derived.Laws.Runes
import Derived.Lib.UnsafeStr
set_option linter.unusedSectionVars false
set_option linter.unusedVariables false
set_option linter.unusedSimpArgs false
set_option linter.unnecessarySimpa false
/-
 Slices of strings and rows, indexing, fields, conversions, not, min and max.
-/
namespace Go.Fv
open Go.RowKit
section
variable {P:Program} {w0:World} {T0:Bs} {o:Oper} {s:S} {K:AV→S→Prop}
/-! ### not, minus -/
def LM (op:UnOp) (x:Operand) (s:S) (K:AV→S→Prop):Prop:=
 match s.ev x with
 | .bool b=>match op with | .not=>K (.bool (!b)) s|_=>False
 | .int k n=>match op with | .neg=>dh k (0 - n) (fun n=>K (.int k n) s)|_=>False
 | _=>False
theorem LQ {op:UnOp} {t:TypeId} {x:Operand} (ho:o.op=.unOp op t x) (hx:au x) (h:LM op x s K):cZ P w0 T0 o s K:=by
 unfold LM at h
 intro H a w m hm
 have rx:=hm.ev x hx
 revert h rx
 generalize s.ev x=ax
 generalize hvx:a.eval x=vx
 intro h rx
 cases ax with
 | bool b=>
  cases rx
  cases op<;>try (exact h.elim)
  refine ⟨_,_,h,?_,.bool _⟩
  unfold execOp;rw [ho];simp [hvx,Op.unary]
 | int k n=>
  cases rx
  cases op<;>try (exact h.elim)
  refine ⟨_,_,h _ rfl (dA _ _),?_,.int _ _ (dA _ _)⟩
  unfold execOp;rw [ho];simp [hvx,Op.unary,Op.intArith]
 | _=>exact h.elim
theorem LP {op:UnOp} {t:TypeId} {x:Operand} (ho:o.op=.unOp op t x) (hx:au x) (h:LM op x s K):aT P w0 T0 o s K:=(LQ ho hx h).op
/-! ### conversions -/
def bytesOf (l:List Int):List UInt8:=l.map fun n=>UInt8.ofNat n.toNat
def rP (P:Program) (src dst:TypeId) (x:Operand) (s:S) (K:AV→S→Prop):Prop:=
 match P.underlying src,P.underlying dst with
 | some d1,some d2=>match d2 with
  | .int k=>match s.ev x with
   | .int _ n=>dh k n (fun n=>K (.int k n) s)
   | _=>False
  | .string=>match s.ev x with
   | .int _ n=>aZ (0≤n∧n<128) (K (.str [UInt8.ofNat n.toNat]) s)
   | .str l=>K (.str l) s
   | .ro (.ints .u8 l)=>match d1 with
    | .slice e=>aZ (P.underlying e=some (.int .u8)) (K (.str (bytesOf l)) s)
    | _=>False
   | .own i=>match lk s.rows i,d1 with
    | some (.row _ (.ints .u8 l)),.slice e=>aZ (P.underlying e=some (.int .u8)) (K (.str (bytesOf l)) s)
    | _,_=>False
   | _=>False
  | _=>False
 | _,_=>False
theorem rZ {w:World} {src dst e:TypeId} (hs:P.underlying src=some (.slice e)) (hd:P.underlying dst=some .string) (he:P.underlying e=some (.int .u8)) (l:List Int) (v:Value)
  (hv:(v=.slice none 0 0∧l=[])∨∃ a cap,v=.slice (some a) l.length cap∧∀ j u,(l.map (Value.int .u8))[j]?=some u→w.cell? (a.add j)=some u) :
  (convert src dst v).run P w=.ok (.string ⟨(bytesOf l).toArray⟩) w:=by
 rcases hv with ⟨rfl,rfl⟩|⟨a,cap,rfl,hc⟩
 ·rw [run_convert_bytes_nil w src e hs he 0 0 dst hd];rfl
 ·have hl:(loadCells a l.length).run P w=.ok (l.map (Value.int .u8)).toArray w:=by
   have:=run_loadCells_list (P:=P) w a (l.map (Value.int .u8)) hc
   simpa using this
  rw [run_convert_bytes_string w src dst e _ _ cap hs he hd,run_bytesToString w _ _ cap l hl,foldl_push_bytes]
  simp [ByteArray.empty,ByteArray.emptyWithCapacity,bytesOf]
  rfl
theorem Gy {src dst:TypeId} {x:Operand} (ho:o.op=.convert src dst x) (hx:au x) (h:rP P src dst x s K):cZ P w0 T0 o s K:=by
 unfold rP at h
 intro H a w m hm
 have rx:=hm.ev x hx
 cases h1:P.underlying src with
 | none=>rw [h1] at h;exact h.elim
 | some d1=>
  cases h2:P.underlying dst with
  | none=>rw [h1,h2] at h;exact h.elim
  | some d2=>
   rw [h1,h2] at h
   dsimp only at h
   have fin:∀ r v,K r s→(convert src dst (a.eval x)).run P w=.ok v w→Rv (aA T0 w0.heap.size m s w) r v→∃ r v,K r s∧(execOp a.eval o).run P w=.ok (.value v) w∧Rv (aA T0 w0.heap.size m s w) r v:=by
    intro r v hk hr hv
    refine ⟨r,v,hk,?_,hv⟩
    unfold execOp;rw [ho];simp [hr]
   revert h rx fin
   generalize s.ev x=ax
   generalize hvx:a.eval x=vx
   intro rx h fin
   cases d2 with
   | int k=>
    cases ax with
    | int k' n=>
     cases rx
     exact fin _ _ (h _ rfl (dA _ _)) (by simp [convert,run_underlying h1,run_underlying h2,Conv.intToInt]) (.int _ _ (dA _ _))
    | _=>exact h.elim
   | string=>
    cases ax with
    | int k n=>
     obtain ⟨hn,hk⟩:=h
     cases rx
     have he:Utf8.encode n=⟨[UInt8.ofNat n.toNat].toArray⟩:=by
      have hv:Utf8.valid n=true:=by unfold Utf8.valid;simp;omega
      have hlt:n.toNat<128:=by omega
      unfold Utf8.encode
      simp only [hv,if_true]
      rw [if_pos hlt]
     exact fin _ _ hk (by rw [run_convert_int_string w src dst k n (by rw [h1];rfl) h2,he]) (.str _ (by simp [maxLen]))
    | str l=>
     have rx':=rx
     cases rx
     exact fin _ _ h (by simp [convert,run_underlying h1,run_underlying h2]) rx'
    | ro r=>
     cases r with
     | ints k l=>
      cases k<;>try (exact h.elim)
      cases d1 with
      | slice e=>
       obtain ⟨he,hk⟩:=h
       cases rx with
       | roNil _ hr=>
        have hl:l=[]:=by have:=hr.len;simp [aF.len,aF.sz] at this;exact List.eq_nil_of_length_eq_zero this.symm
        subst hl
        exact fin _ _ hk (rZ h1 h2 he [] _ (.inl ⟨rfl,rfl⟩)) (.str _ (by simp [bytesOf]))
       | ro _ ad len cap cells hr hl hc hmx hs=>
        have hlen:l.length=len:=hl
        cases hr with
        | ints _ _ hin=>
         refine fin _ _ hk (rZ h1 h2 he l _ (.inr ⟨ad,cap,by rw [hlen],hs.2.2⟩)) (.str _ (by simp only [bytesOf,List.length_map];omega))
      | _=>exact h.elim
     | _=>exact h.elim
    | own i=>
     dsimp only at h
     cases hi:lk s.rows i with
     | none=>rw [hi] at h;exact h.elim
     | some it=>
      rw [hi] at h
      cases it with
      | map _ _=>exact h.elim
      | iter _ _ _=>exact h.elim
      | siter _ _=>exact h.elim
      | box _ _=>exact h.elim
      | row e' r=>
       cases r with
       | ints k l=>
        cases k<;>try (exact h.elim)
        cases d1 with
        | slice e=>
         obtain ⟨he,hk⟩:=h
         obtain ⟨n,cells,hr,hn,how,hO⟩:=(hm.rows i _ hi).2
         cases hr with
         | ints _ _ hin=>
          have hn':l.length=n:=hn
          cases rx with
          | own _ _ _=>
           rcases how.2 with ⟨hv,hz⟩|⟨g,cap,cur,fz,hv,_,_,hnc,hcm,_⟩
           ·have hl:l=[]:=List.eq_nil_of_length_eq_zero (by omega)
            subst hl
            have hv':(aA T0 w0.heap.size m s w).m i=.slice none 0 0:=hv
            exact fin _ _ hk (rZ h1 h2 he [] _ (.inl ⟨hv',rfl⟩)) (.str _ (by simp [bytesOf]))
           ·have hv':(aA T0 w0.heap.size m s w).m i=.slice (some ⟨g,0,none⟩) n cap:=hv
            have hcells:=fV how (g:=g) (by rw [hv];rfl)
            refine fin _ _ hk (rZ h1 h2 he l _ (.inr ⟨⟨g,0,none⟩,cap,by rw [hv',hn'],hcells⟩)) (.str _ (by simp only [bytesOf,List.length_map];omega))
        | _=>exact h.elim
       | _=>exact h.elim
    | _=>exact h.elim
   | _=>exact h.elim
theorem wK {src dst:TypeId} {x:Operand} (ho:o.op=.convert src dst x) (hx:au x) (h:rP P src dst x s K):aT P w0 T0 o s K:=(Gy ho hx h).op
/-! ### indexing of strings and of array values; fields of struct values -/
def wP (P:Program) (t:TypeId) (x i:Operand) (s:S) (K:AV→S→Prop):Prop:=
 match s.ev i with
 | .int _ n=>match P.underlying t,s.ev x with
  | some .string,.str l=>aZ (0≤n∧n<l.length) (K (.int .u8 (l.getD n.toNat 0).toNat) s)
  | some (.array len e),.agg cs=>aZ (0≤n∧n<len∧0<P.cellsOf e) (gK P e (cs.drop (n.toNat*P.cellsOf e)) (fun v=>K v s))
  | _,_=>False
 | _=>False
theorem IW {w:World} {c:Ctx} {t:TypeId} {cs:List AV} {K:AV→Prop} {vs:List Value} {off:Nat} (h:gK P t (cs.drop off) K) (hv:cO c cs vs):∃ r v,K r∧(part t vs.toArray off).run P w=.ok v w∧Rv c r v:=by
 unfold gK at h
 have hd:=hv.drop off
 cases ht:P.underlying t with
 | none=>rw [ht] at h;exact h.elim
 | some d=>
  rw [ht] at h
  obtain ⟨i,hi⟩:=info_of_underlying ht
  cases hdd:EP d with
  | true=>
   simp only [hdd,cond_true] at h
   obtain ⟨hl,hk⟩:=h
   refine ⟨_,.agg ((vs.drop off).take (P.cellsOf t)).toArray,hk,?_,.agg _ _ (hd.take (P.cellsOf t))⟩
   have hs:=dw (P:=P) hi w
   simp [part,lK ht,hdd,hs,Sem.run_bind,Result.andThen,List.extract_eq_take_drop]
  | false=>
   simp only [hdd,cond_false] at h
   cases hc:cs.drop off with
   | nil=>rw [hc] at h;exact h.elim
   | cons x l=>
    rw [hc] at h hd
    generalize hq:vs.drop off=dv at hd
    cases hd with
    | cons _ v _ us hx h1 ht'=>
     have hcell:vs[off]?=some v:=by
      have:(vs.drop off)[0]?=some v:=by rw [hq];rfl
      rw [List.getElem?_drop] at this;simpa using this
     refine ⟨x,v,?_,?_,hx⟩
     ·cases hx with
      | int k n hk=>exact h hk
      | _=>exact h
     ·simp [part,lK ht,hdd,hcell,Sem.run_bind,Result.andThen]
theorem Du {t:TypeId} {x i:Operand} (ho:o.op=.index t x i) (hx:au x) (hi:au i) (h:wP P t x i s K):cZ P w0 T0 o s K:=by
 unfold wP at h
 intro H a w m hm
 have rx:=hm.ev x hx
 have ri:=hm.ev i hi
 revert h rx ri
 generalize s.ev x=ax
 generalize hvx:a.eval x=vx
 generalize s.ev i=ai
 generalize hvi:a.eval i=vi
 intro h rx ri
 cases ai with
 | int k n=>
  cases ri
  dsimp only at h
  cases ht:P.underlying t with
  | none=>rw [ht] at h;exact h.elim
  | some d=>
   rw [ht] at h
   cases d with
   | string=>
    cases ax with
    | str l=>
     obtain ⟨⟨h0,h1⟩,hk⟩:=h
     cases rx with
     | str _ hl=>
      have hlt:n.toNat<l.length:=by omega
      have hsz:(ByteArray.mk l.toArray).size=l.length:=by show l.toArray.size=_;simp
      have hb:(l.getD n.toNat 0).toNat<256:=UInt8.toNat_lt _
      refine ⟨_,_,hk,?_,.int .u8 _ (um.2 ⟨by omega,by omega⟩)⟩
      have hr:=run_index_string (P:=P) w t ⟨l.toArray⟩ k n ht
      rw [dif_pos ⟨h0,by rw [hsz];exact h1⟩] at hr
      have e:((ByteArray.mk l.toArray)[n.toNat]'(by rw [hsz];exact hlt))=l.getD n.toNat 0:=by
       show (l.toArray)[n.toNat]'(by simpa using hlt)=_
       simp [List.getD,hlt]
      rw [e] at hr
      unfold execOp;rw [ho];simp [hvx,hvi,hr]
    | _=>exact h.elim
   | array len e=>
    cases ax with
    | agg cs=>
     obtain ⟨⟨h0,h1,hp⟩,h⟩:=h
     cases rx with
     | agg _ vs hl=>
      obtain ⟨r,v,hk,hr,hv⟩:=IW (w:=w) h hl
      refine ⟨r,v,hk,?_,hv⟩
      obtain ⟨q,hq⟩:=bM hp
      have hs:=dw (P:=P) hq w
      unfold execOp;rw [ho];simp [hvx,hvi,Instr.index,asIntOf,run_underlying ht,h0,h1,hs,hr]
    | _=>exact h.elim
   | _=>cases ax<;>exact h.elim
 | _=>exact h.elim
theorem Dt {t:TypeId} {x i:Operand} (ho:o.op=.index t x i) (hx:au x) (hi:au i) (h:wP P t x i s K):aT P w0 T0 o s K:=(Du ho hx hi h).op
def wL (P:Program) (t:TypeId) (x:Operand) (k:Nat) (s:S) (K:AV→S→Prop):Prop:=
 match P.underlying t,s.ev x with
 | some (.struct fs),.agg cs=>match fs[k]? with
  | some f=>gK P f.type (cs.drop f.offset) (fun v=>K v s)
  | none=>False
 | _,_=>False
theorem Dq {t:TypeId} {x:Operand} {k:Nat} (ho:o.op=.field t x k) (hx:au x) (h:wL P t x k s K):cZ P w0 T0 o s K:=by
 unfold wL at h
 intro H a w m hm
 have rx:=hm.ev x hx
 revert h rx
 generalize s.ev x=ax
 generalize hvx:a.eval x=vx
 intro h rx
 cases ht:P.underlying t with
 | none=>rw [ht] at h;exact h.elim
 | some d=>
  rw [ht] at h
  cases d with
  | struct fs=>
   cases ax with
   | agg cs=>
    dsimp only at h
    cases hf:fs[k]? with
    | none=>rw [hf] at h;exact h.elim
    | some f=>
     rw [hf] at h
     cases rx with
     | agg _ vs hl=>
      obtain ⟨r,v,hk,hr,hv⟩:=IW (w:=w) h hl
      refine ⟨r,v,hk,?_,hv⟩
      unfold execOp;rw [ho];simp [hvx,Instr.field,run_underlying ht,hf,asAgg,hr]
   | _=>exact h.elim
  | _=>exact h.elim
theorem Dl {t:TypeId} {x:Operand} {k:Nat} (ho:o.op=.field t x k) (hx:au x) (h:wL P t x k s K):aT P w0 T0 o s K:=(Dq ho hx h).op
/-! ### min, max -/
def FH (isMax:Bool) (a b:Int):Int:=if isMax then max a b else min a b
def JE (isMax:Bool) (xs:List AV) (K:AV→Prop):Prop:=
 match xs with
 | [.int k a,.int k' b]=>aZ (k=k') (K (.int k (if isMax then max a b else min a b)))
 | [.int k a,.int k' b,.int k'' c]=>aZ (k=k'∧k=k'') (K (.int k (if isMax then max (max a b) c else min (min a b) c)))
 | _=>False
theorem Nr (a b:Int):(if b<a then b else a)=min a b:=by
 by_cases h:b<a
 ·rw [if_pos h];omega
 ·rw [if_neg h];omega
theorem Nq (a b:Int):(if b > a then b else a)=max a b:=by
 by_cases h:b > a
 ·rw [if_pos h];omega
 ·rw [if_neg h];omega
theorem EM {k:IntKind} {a b:Int} (ha:jf k a) (hb:jf k b):jf k (min a b):=by
 unfold jf at *;omega
theorem EL {k:IntKind} {a b:Int} (ha:jf k a) (hb:jf k b):jf k (max a b):=by
 unfold jf at *;omega
theorem LJ {isMax:Bool} {args:Array Operand} {ats:Array TypeId} (ho:o.op=.call { callee:=.builtin (if isMax then .max else .min),args:=args,argTypes:=ats }) (hx:∀ x,x∈args.toList→au x)
  (h:JE isMax (evs s args.toList) (fun r=>K r s)):cZ P w0 T0 o s K:=by
 intro H a w m hm
 have hev:=hm.evs hx
 have hrun:∀ v:Value,(if isMax then Builtin.max_ ats o.type (args.map a.eval) else Builtin.min_ ats o.type (args.map a.eval)).run P w=.ok v w→(execOp a.eval o).run P w=.ok (.value v) w:=by
  intro v hv
  unfold execOp;rw [ho]
  cases isMax with
  | true=>simp at hv;simp [resolve,invoke,builtin,hv]
  | false=>simp at hv;simp [resolve,invoke,builtin,hv]
 have hargs:(args.map a.eval).toList=args.toList.map a.eval:=by simp
 unfold JE at h
 revert h hev
 generalize evs s args.toList=ax
 rw [←hargs]
 generalize args.map a.eval=vx at *
 intro h hev
 split at h
 ·rename_i k p k' q
  obtain ⟨rfl,h⟩:=h
  cases vx with
  | mk l=>
  cases hev with
  | cons _ _ _ _ h1 t=>
   cases t with
   | cons _ _ _ _ h2 t=>
    cases t
    cases h1 with
    | int _ _ i1=>
    cases h2 with
    | int _ _ i2=>
    refine ⟨_,_,h,hrun _ ?_,.int _ _ ?_⟩
    ·cases isMax<;>simp [Builtin.max_,Builtin.min_,Builtin.max2,Builtin.min2,Nr,←Nq]
    ·cases isMax
     ·exact EM i1 i2
     ·exact EL i1 i2
 ·rename_i k p k' q k'' c
  obtain ⟨⟨rfl,rfl⟩,h⟩:=h
  cases vx with
  | mk l=>
  cases hev with
  | cons _ _ _ _ h1 t=>
   cases t with
   | cons _ _ _ _ h2 t=>
    cases t with
    | cons _ _ _ _ h3 t=>
     cases t
     cases h1 with
     | int _ _ i1=>
     cases h2 with
     | int _ _ i2=>
     cases h3 with
     | int _ _ i3=>
     refine ⟨_,_,h,hrun _ ?_,.int _ _ ?_⟩
     ·cases isMax<;>simp [Builtin.max_,Builtin.min_,Builtin.max2,Builtin.min2,Nr,←Nq]
     ·cases isMax
      ·exact EM (EM i1 i2) i3
      ·exact EL (EL i1 i2) i3
 ·exact h.elim
theorem BQ {isMax:Bool} {args:Array Operand} {ats:Array TypeId} (ho:o.op=.call { callee:=.builtin (if isMax then .max else .min),args:=args,argTypes:=ats }) (hx:∀ x,x∈args.toList→au x)
  (h:JE isMax (evs s args.toList) (fun r=>K r s)):aT P w0 T0 o s K:=(LJ ho hx h).op
/-! ### slices -/
def bnd (s:S) (x:Option Operand) (d:Int):Option Int:=
 match x with
 | none=>some d
 | some y=>match s.ev y with
  | .int _ n=>some n
  | _=>none
def ny (x:Option Operand):Prop:=match x with|none=>True|some y=>au y
def intsOf:List AV→Option (List Int)
 | []=>some []
 | .int .i64 n::l=>(intsOf l).map (n::·)
 | _=>none
theorem Az {c:Ctx}:∀ {cs:List AV} {vs:List Value} {l:List Int},cO c cs vs→intsOf cs=some l→vs=l.map (Value.int .i64)∧∀ x,x∈l→jf .i64 x
 | [],_,l,h,e=>by
  cases h;cases e
  exact ⟨rfl,fun x hx=>by cases hx⟩
 | y::cs,_,l,h,e=>by
  cases h with
  | cons _ v _ vs hv h1 t=>
   cases y with
   | int k n=>
    cases k with
    | i64=>
     simp only [intsOf] at e
     cases hq:intsOf cs with
     | none=>rw [hq] at e;cases e
     | some l'=>
      rw [hq] at e
      cases e
      obtain ⟨h2,h3⟩:=Az t hq
      cases hv with
      | int _ _ hk=>
       refine ⟨by rw [h2];rfl,fun x hx=>?_⟩
       rcases List.mem_cons.1 hx with rfl|hx
       ·exact hk
       ·exact h3 x hx
    | _=>cases e
   | _=>cases e
def pI:List AV→Option (List Int)
 | []=>some []
 | .int .u8 n::l=>(pI l).map (n::·)
 | _=>none
theorem yG {c:Ctx}:∀ {cs:List AV} {vs:List Value} {l:List Int},cO c cs vs→pI cs=some l→vs=l.map (Value.int .u8)∧∀ x,x∈l→jf .u8 x
 | [],_,l,h,e=>by
  cases h;cases e
  exact ⟨rfl,fun x hx=>by cases hx⟩
 | y::cs,_,l,h,e=>by
  cases h with
  | cons _ v _ vs hv h1 t=>
   cases y with
   | int k n=>
    cases k with
    | u8=>
     simp only [pI] at e
     cases hq:pI cs with
     | none=>rw [hq] at e;cases e
     | some l'=>
      rw [hq] at e
      cases e
      obtain ⟨h2,h3⟩:=yG t hq
      cases hv with
      | int _ _ hk=>
       refine ⟨by rw [h2];rfl,fun x hx=>?_⟩
       rcases List.mem_cons.1 hx with rfl|hx
       ·exact hk
       ·exact h3 x hx
    | _=>cases e
   | _=>cases e
def rU:Option Operand→Nat
 | some (.tmp k)=>1000000+k
 | _=>999998
def sU (P:Program) (t:TypeId) (x:Operand) (lo hi mx:Option Operand) (s:S) (K:AV→S→Prop):Prop:=
 aZ (mx=none∧ny lo∧ny hi) (match P.underlying t,s.ev x with
 | some .string,.str l=>match bnd s lo 0,bnd s hi l.length with
  | some p,some q=>aZ (0≤p∧p≤q∧q≤l.length) (K (.str ((l.drop p.toNat).take (q.toNat - p.toNat))) s)
  | _,_=>False
 | some (.slice e),.ro r=>match bnd s lo 0,bnd s hi r.len with
  | some p,some q=>aZ (P.cellsOf e=r.sz) (aZ (0≤p∧p≤q∧q≤r.len) (K (.ro (dJ r p.toNat q.toNat)) s))
  | _,_=>False
 | some (.slice e),.own i=>match lk s.rows i with
  | some (.row e' r)=>match lo with
   | none=>match bnd s hi r.len with
    | some q=>match lk s.env (rU hi) with
     | some _=>aZ (P.cellsOf e=r.sz) (aZ (0≤q∧q≤r.len) (K (.pre i q.toNat) s))
     | none=>aZ (P.cellsOf e=r.sz) (aZ (0≤q∧q≤r.len) (K (.own s.next) (s.swap i (.row e' (dJ r 0 q.toNat)))))
    | none=>False
   | some y=>match bnd s (some y) 0,bnd s hi r.len with
    | some p,some q=>aZ (P.cellsOf e=r.sz∧eG r=true) (aZ (0≤p∧p≤q∧q≤r.len) (K (.ro (dJ r p.toNat q.toNat)) { s with rows:=del s.rows i }))
    | _,_=>False
  | _=>False
 | some (.array n e),.ptr i off=>match off,lk s.rows i,lo,hi with
  | 0,some (.box _ cs),none,none=>match intsOf cs with
   | some l=>aZ (P.cellsOf e=1∧l.length=n∧n≤137438953472) (K (.ro (.ints .i64 l)) { s with rows:=del s.rows i })
   | none=>False
  | 0,some (.box _ cs),some y,none=>match pI cs,bnd s (some y) 0 with
   | some l,some p=>aZ (P.cellsOf e=1∧l.length=n∧n≤137438953472) (aZ (0≤p∧p≤l.length) (K (.ro (.ints .u8 (l.drop p.toNat))) { s with rows:=del s.rows i }))
   | _,_=>False
  | _,_,_,_=>False
 | _,_=>False)
theorem rY {H:List (AV × Value)} {a:Act} {w:World} {m:Nat→Value} (hm:bC w0 T0 H s a w m) {x:Option Operand} (hx:ny x) {d p:Int} (h:bnd s x d=some p) :
  (x=none∧p=d)∨∃ k,x.map a.eval=some (.int k p):=by
 cases x with
 | none=>simp only [bnd] at h;cases h;exact .inl ⟨rfl,rfl⟩
 | some y=>
  simp only [bnd] at h
  have ry:=hm.ev y hx
  cases hy:s.ev y<;>rw [hy] at h ry<;>simp only at h<;>cases h
  generalize hv:a.eval y=vy at ry
  cases ry
  exact .inr ⟨_,by rw [Option.map_some,hv]⟩
theorem fC {w:World} (isSlice:Bool) (len cap:Nat) (lo hi:Option Value) (p q:Int) (hp:(lo=none∧p=0)∨∃ k,lo=some (.int k p)) (hq:(hi=none∧q=len)∨∃ k,hi=some (.int k q))
  (h0:0≤p) (h1:p≤q) (h2:q≤len) (hc:len≤cap):(Instr.sliceBounds isSlice len cap lo hi none).run P w=.ok (p.toNat,q.toNat,cap) w:=by
 have hq0:0≤q:=by omega
 have hqc:q≤(cap:Int):=by omega
 have hqq:((q.toNat:Nat):Int)=q:=by omega
 rcases hp with ⟨rfl,rfl⟩|⟨k,rfl⟩<;>rcases hq with ⟨rfl,rfl⟩|⟨k',rfl⟩
 ·simp [Instr.sliceBounds]
 ·simp [Instr.sliceBounds,run_sliceBound,hq0,hqc]
 ·have h1':p≤((len:Nat):Int):=h1
  simp [Instr.sliceBounds,run_sliceBound,h0,h1']
 ·have h1':p≤((q.toNat:Nat):Int):=by omega
  have e2:=run_sliceBound (P:=P) w k p q.toNat .sliceB h0 h1'
  simp [Instr.sliceBounds,run_sliceBound,hq0,hqc,e2]
theorem nT {t:TypeId} {x:Operand} {lo hi mx:Option Operand} (ho:o.op=.slice t x lo hi mx) (hx:au x) (h:sU P t x lo hi mx s K):aT P w0 T0 o s K:=by
 unfold sU at h
 obtain ⟨⟨rfl,hlo,hhi⟩,h⟩:=h
 refine aT.mem fun H a w m hm=>?_
 have rx:=hm.ev x hx
 cases ht:P.underlying t with
 | none=>rw [ht] at h;exact h.elim
 | some d=>
  rw [ht] at h
  have fin:∀ r v s' m',K r s'→(Instr.sliceAt t (a.eval x) (lo.map a.eval) (hi.map a.eval) none).run P w=.ok v w→bC w0 T0 ((r,v)::H) s' a w m' →
    ∃ r v s' w' m',K r s'∧((execOp a.eval o).run P w=.ok (.value v) w'∨((execOp a.eval o).run P w=.ok .skip w'∧v=undef))∧bC w0 T0 ((r,v)::H) s' a w' m':=by
   intro r v s' m' hk hr hv
   refine ⟨r,v,s',w,m',hk,.inl ?_,hv⟩
   unfold execOp;rw [ho];simp [hr]
  have hbnd:∀ (y:Option Operand) (d p:Int),ny y→bnd s y d=some p→(y.map a.eval=none∧p=d)∨∃ k,y.map a.eval=some (.int k p):=by
   intro y d p hy hb
   rcases rY hm hy hb with ⟨rfl,rfl⟩|h
   ·exact .inl ⟨rfl,rfl⟩
   ·exact .inr h
  cases d with
  | string=>
   revert h rx
   generalize s.ev x=ax
   generalize a.eval x=vx at *
   intro rx h
   cases ax with
   | str l=>
    dsimp only at h
    cases hp:bnd s lo 0 with
    | none=>rw [hp] at h;exact h.elim
    | some p=>
     cases hq:bnd s hi l.length with
     | none=>rw [hp,hq] at h;exact h.elim
     | some q=>
      rw [hp,hq] at h
      obtain ⟨⟨h0,h1,h2⟩,hk⟩:=h
      cases rx with
      | str _ hl=>
       have hsz:(ByteArray.mk l.toArray).size=l.length:=by show l.toArray.size=_;simp
       have hb:=fC (P:=P) (w:=w) false l.length l.length (lo.map a.eval) (hi.map a.eval) p q (hbnd lo 0 p hlo hp) (hbnd hi _ q hhi hq) h0 h1 h2 (Nat.le_refl _)
       refine fin _ (.string ⟨((l.drop p.toNat).take (q.toNat - p.toNat)).toArray⟩) s m hk ?_ (hm.hold (.str _ ?_))
       ·rw [run_sliceAt_string (P:=P) w t _ _ _ _ ht]
        simp [Instr.slice,run_underlying ht,hsz,hb,ByteArray.extract_mk]
       ·have hlm:l.length≤maxLen:=hl
        simp only [List.length_take,List.length_drop];omega
   | _=>exact h.elim
  | slice e=>
   cases hax:s.ev x with
   | ro r=>
    rw [hax] at h rx
    generalize hvx:a.eval x=vx at *
    dsimp only at h
    cases hp:bnd s lo 0 with
    | none=>rw [hp] at h;exact h.elim
    | some p=>
     cases hq:bnd s hi r.len with
     | none=>rw [hp,hq] at h;exact h.elim
     | some q=>
      rw [hp,hq] at h
      obtain ⟨hce,⟨h0,h1,h2⟩,hk⟩:=h
      cases rx with
      | roNil _ hr hid=>
       have hz:r.len=0:=by
        have h1:=hr.len;have h2:=hr.pos;simp at h1
        rcases Nat.mul_eq_zero.1 (by omega:r.len*r.sz=0) with e|e<;>omega
       obtain ⟨i,hi'⟩:=bM (P:=P) (t:=e) (by rw [hce];exact hr.pos)
       have hs:=dw (P:=P) hi' w
       have hb:=fC (P:=P) (w:=w) true 0 0 (lo.map a.eval) (hi.map a.eval) p q (hbnd lo 0 p hlo hp) (by have:=hbnd hi _ q hhi hq;rw [hz] at this;exact this) h0 h1 (by omega) (Nat.le_refl _)
       have hp0:p.toNat=0:=by omega
       have hq0:q.toNat=0:=by omega
       refine fin _ (.slice none 0 0) s m hk ?_ (hm.hold (.roNil _ ?_ (iW _ _ hid)))
       ·have hsl:(Instr.sliceAt t (.slice none 0 0) (lo.map a.eval) (hi.map a.eval) none).run P w=(Instr.slice t (.slice none 0 0) (lo.map a.eval) (hi.map a.eval) none).run P w:=by simp [Instr.sliceAt,run_underlying ht]
        rw [hsl]
        simp [Instr.slice,run_underlying ht,hb,hp0,hq0,hs]
       ·have:=hr.sub p.toNat q.toNat
        simpa using this
      | ro _ ad len cap cells hr hl hc hmx hs' hid=>
       obtain ⟨i,hi'⟩:=bM (P:=P) (t:=e) (by rw [hce];exact hr.pos)
       have hs:=dw (P:=P) hi' w
       have hb:=fC (P:=P) (w:=w) true len cap (lo.map a.eval) (hi.map a.eval) p q (hbnd lo 0 p hlo hp) (by have:=hbnd hi _ q hhi hq;rw [hl] at this;exact this) h0 h1 (by omega) hc
       have hsub:=hr.sub p.toNat q.toNat
       have hsl:(Instr.sliceAt t (.slice (some ad) len cap) (lo.map a.eval) (hi.map a.eval) none).run P w=(Instr.slice t (.slice (some ad) len cap) (lo.map a.eval) (hi.map a.eval) none).run P w:=by simp [Instr.sliceAt,run_underlying ht]
       refine fin _ (.slice (if cap=p.toNat then some ad else some (ad.add (p.toNat*P.cellsOf e))) (q.toNat - p.toNat) (cap - p.toNat)) s m hk ?_ (hm.hold ?_)
       ·rw [hsl]
        simp [Instr.slice,run_underlying ht,hb,hs]
       ·have hlen:(dJ r p.toNat q.toNat).len=q.toNat - p.toNat:=ig _ _ _ (by omega)
        split
        ·rename_i e1
         have hz:(q.toNat - p.toNat)=0:=by omega
         have hnil:(List.take ((q.toNat - p.toNat)*r.sz) (List.drop (p.toNat*r.sz) cells))=[]:=by rw [hz];simp
         rw [hnil] at hsub
         exact .ro _ ad _ _ [] hsub hlen (by omega) (by omega) ⟨hs'.1,fun h=>absurd rfl h,fun j u hu=>by simp at hu⟩ (iW _ _ hid)
        ·refine .ro _ _ _ _ _ hsub hlen (by omega) (by omega) ?_ (iW _ _ hid)
         rw [hce]
         exact (hs'.drop _).take _
   | own j=>
    rw [hax] at h rx
    generalize hvx:a.eval x=vx at *
    dsimp only at h
    cases hj:lk s.rows j with
    | none=>rw [hj] at h;exact h.elim
    | some it=>
     rw [hj] at h
     cases it with
     | map _ _=>exact h.elim
     | iter _ _ _=>exact h.elim
     | siter _ _=>exact h.elim
     | box _ _=>exact h.elim
     | row e' r=>
      dsimp only at h
      obtain ⟨n,cells,hr,hn,how,hO⟩:=(hm.rows j _ hj).2
      cases lo with
      | none=>
       dsimp only at h
       cases hq:bnd s hi r.len with
       | none=>rw [hq] at h;exact h.elim
       | some q=>
        rw [hq] at h
        by_cases h8:∃ y,lk s.env (rU hi)=some y
        ·obtain ⟨y,h8⟩:=h8
         rw [h8] at h
         obtain ⟨hce,⟨h0,h2⟩,hk⟩:=h
         obtain ⟨i,hi'⟩:=bM (P:=P) (t:=e) (by rw [hce];exact hr.pos)
         have hs:=dw (P:=P) hi' w
         cases rx with
         | own _ hjN h1=>
          rcases how.2 with ⟨hv,hz⟩|⟨g,cap,cur,fz,hv,hge,hh,hnc,hcm,hcs,htake⟩
          ·have hv':(aA T0 w0.heap.size m s w).m j=.slice none 0 0:=hv
           have hb:=fC (P:=P) (w:=w) true 0 0 none (hi.map a.eval) 0 q (.inl ⟨rfl,rfl⟩) (by have:=hbnd hi _ q hhi hq;rw [hn,hz] at this;exact this) (Int.le_refl _) h0 (by omega) (Nat.le_refl _)
           have hq0:q.toNat=0:=by omega
           refine fin _ (.slice none q.toNat 0) s m hk ?_ (hm.hold (.pre j q.toNat 0 0 none hjN hv' (by omega)))
           have hsl:(Instr.sliceAt t (.slice none 0 0) none (hi.map a.eval) none).run P w=(Instr.slice t (.slice none 0 0) none (hi.map a.eval) none).run P w:=by simp [Instr.sliceAt,run_underlying ht]
           rw [hv']
           show (Instr.sliceAt t (.slice none 0 0) none (hi.map a.eval) none).run P w=_
           rw [hsl]
           simp [Instr.slice,run_underlying ht,hb,hq0,hs]
          ·have hv':(aA T0 w0.heap.size m s w).m j=.slice (some ⟨g,0,none⟩) n cap:=hv
           have hb:=fC (P:=P) (w:=w) true n cap none (hi.map a.eval) 0 q (.inl ⟨rfl,rfl⟩) (by have:=hbnd hi _ q hhi hq;rw [hn] at this;exact this) (Int.le_refl _) h0 (by omega) hnc
           refine fin _ (.slice (some ⟨g,0,none⟩) q.toNat cap) s m hk ?_ (hm.hold (.pre j q.toNat n cap _ hjN hv' (by omega)))
           have hsl:(Instr.sliceAt t (.slice (some ⟨g,0,none⟩) n cap) none (hi.map a.eval) none).run P w=(Instr.slice t (.slice (some ⟨g,0,none⟩) n cap) none (hi.map a.eval) none).run P w:=by simp [Instr.sliceAt,run_underlying ht]
           rw [hv']
           show (Instr.sliceAt t (.slice (some ⟨g,0,none⟩) n cap) none (hi.map a.eval) none).run P w=_
           rw [hsl]
           simp only [Int.toNat_zero] at hb
           simp [Instr.slice,run_underlying ht,hb,hs,Addr.add]
        have h8':lk s.env (rU hi)=none:=by
         cases hx:lk s.env (rU hi) with
         | none=>rfl
         | some y=>exact absurd ⟨y,hx⟩ h8
        rw [h8'] at h
        obtain ⟨hce,⟨h0,h2⟩,hk⟩:=h
        obtain ⟨i,hi'⟩:=bM (P:=P) (t:=e) (by rw [hce];exact hr.pos)
        have hs:=dw (P:=P) hi' w
        have hsub:=hr.sub 0 q.toNat
        simp only [Nat.zero_mul,List.drop_zero,Nat.sub_zero] at hsub
        have hlen:(dJ r 0 q.toNat).len=q.toNat:=by rw [ig _ _ _ (by omega)];omega
        have hsz2:(dJ r 0 q.toNat).sz=r.sz:=by cases r<;>rfl
        cases rx with
        | own _ _ h1=>
         rcases how.2 with ⟨hv,hz⟩|⟨g,cap,cur,fz,hv,hge,hh,hnc,hcm,hcs,htake⟩
         ·have hv':(aA T0 w0.heap.size m s w).m j=.slice none 0 0:=hv
          have hb:=fC (P:=P) (w:=w) true 0 0 none (hi.map a.eval) 0 q (.inl ⟨rfl,rfl⟩) (by have:=hbnd hi _ q hhi hq;rw [hn,hz] at this;exact this) (Int.le_refl _) h0 (by omega) (Nat.le_refl _)
          have hq0:q.toNat=0:=by omega
          have hrep:=hm.Uy (w':=w) hm.below hj (fun _ _ _=>rfl) (.row e' (dJ r 0 q.toNat)) (.slice none 0 0) (fun b hb=>by cases hb) (fun c hle hw=>by
           refine ⟨0,[],?_,by rw [hlen,hq0],by rw [hw];exact xQ _ _ _,fun b hb=>by cases hb⟩
           have:=hsub.mono hle;rw [hq0] at this;simpa [hq0] using this)
          refine fin _ (.slice none 0 0) _ _ hk ?_ (lZ hrep rfl)
          have hsl:(Instr.sliceAt t (.slice none 0 0) none (hi.map a.eval) none).run P w=(Instr.slice t (.slice none 0 0) none (hi.map a.eval) none).run P w:=by simp [Instr.sliceAt,run_underlying ht]
          rw [hv']
          show (Instr.sliceAt t (.slice none 0 0) none (hi.map a.eval) none).run P w=_
          rw [hsl]
          simp [Instr.slice,run_underlying ht,hb,hq0,hs]
         ·have hv':(aA T0 w0.heap.size m s w).m j=.slice (some ⟨g,0,none⟩) n cap:=hv
          have hb:=fC (P:=P) (w:=w) true n cap none (hi.map a.eval) 0 q (.inl ⟨rfl,rfl⟩) (by have:=hbnd hi _ q hhi hq;rw [hn] at this;exact this) (Int.le_refl _) h0 (by omega) hnc
          have hrep:=hm.Uy (w':=w) hm.below hj (fun _ _ _=>rfl) (.row e' (dJ r 0 q.toNat)) (.slice (some ⟨g,0,none⟩) q.toNat cap) (fun b hb _=>by rw [hv];exact hb) (fun c hle hw=>by
           refine ⟨q.toNat,_,hsub.mono hle,hlen,?_,fun b hb=>hO b (by rw [hv];exact hb)⟩
           rw [hw,hsz2]
           have hcl:=how.1
           have hqn:q.toNat*r.sz≤n*r.sz:=Nat.mul_le_mul_right _ (by omega)
           refine ⟨by rw [List.length_take,hcl];omega,.inr ⟨g,cap,cur,fz,rfl,hge,hh,by omega,hcm,hcs,?_⟩⟩
           rw [←htake,List.take_take,Nat.min_eq_left hqn])
          refine fin _ (.slice (some ⟨g,0,none⟩) q.toNat cap) _ _ hk ?_ (lZ hrep rfl)
          have hsl:(Instr.sliceAt t (.slice (some ⟨g,0,none⟩) n cap) none (hi.map a.eval) none).run P w=(Instr.slice t (.slice (some ⟨g,0,none⟩) n cap) none (hi.map a.eval) none).run P w:=by simp [Instr.sliceAt,run_underlying ht]
          rw [hv']
          show (Instr.sliceAt t (.slice (some ⟨g,0,none⟩) n cap) none (hi.map a.eval) none).run P w=_
          rw [hsl]
          simp only [Int.toNat_zero] at hb
          simp [Instr.slice,run_underlying ht,hb,hs,Addr.add]
      | some y=>
       dsimp only at h
       cases hp:bnd s (some y) 0 with
       | none=>rw [hp] at h;exact h.elim
       | some p=>
        cases hq:bnd s hi r.len with
        | none=>rw [hp,hq] at h;exact h.elim
        | some q=>
         rw [hp,hq] at h
         obtain ⟨⟨hce,hid⟩,⟨h0,h1',h2⟩,hk⟩:=h
         obtain ⟨i,hi'⟩:=bM (P:=P) (t:=e) (by rw [hce];exact hr.pos)
         have hs:=dw (P:=P) hi' w
         have hlen:(dJ r p.toNat q.toNat).len=q.toNat - p.toNat:=ig _ _ _ (by omega)
         have hro:=KX hm hj (jQ s.rows j) (by rw [mD,if_pos rfl]) hid
         have hm1:bC w0 T0 H { s with rows:=del s.rows j } a w m:=hm.forget _ (jQ _ _)
         generalize hmj:m j=mj at hro
         cases rx with
         | own _ _ h1=>
          have hv':(aA T0 w0.heap.size m s w).m j=mj:=hmj
          rw [hv'] at fin
          cases hro with
          | roNil _ hr'=>
           have hz:r.len=0:=by
            have h1:=hr'.len;have h2:=hr'.pos;simp at h1
            rcases Nat.mul_eq_zero.1 (by omega:r.len*r.sz=0) with e|e<;>omega
           have hb:=fC (P:=P) (w:=w) true 0 0 ((some y).map a.eval) (hi.map a.eval) p q (hbnd (some y) 0 p hlo hp) (by have:=hbnd hi _ q hhi hq;rw [hz] at this;exact this) h0 h1' (by omega) (Nat.le_refl _)
           have hp0:p.toNat=0:=by omega
           have hq0:q.toNat=0:=by omega
           refine fin _ (.slice none 0 0) _ m hk ?_ (hm1.hold (.roNil _ ?_ (iW _ _ hid)))
           ·have hsl:(Instr.sliceAt t (.slice none 0 0) ((some y).map a.eval) (hi.map a.eval) none).run P w=(Instr.slice t (.slice none 0 0) ((some y).map a.eval) (hi.map a.eval) none).run P w:=by simp [Instr.sliceAt,run_underlying ht]
            rw [hsl]
            simp only [Option.map_some] at hb
            simp [Instr.slice,run_underlying ht,hb,hp0,hq0,hs]
           ·have:=hr'.sub p.toNat q.toNat
            simpa using this
          | ro _ ad len cap cells' hr' hl hc hmx hs'=>
           have hb:=fC (P:=P) (w:=w) true len cap ((some y).map a.eval) (hi.map a.eval) p q (hbnd (some y) 0 p hlo hp) (by have:=hbnd hi _ q hhi hq;rw [hl] at this;exact this) h0 h1' (by omega) hc
           have hsub:=hr'.sub p.toNat q.toNat
           have hsl:(Instr.sliceAt t (.slice (some ad) len cap) ((some y).map a.eval) (hi.map a.eval) none).run P w=(Instr.slice t (.slice (some ad) len cap) ((some y).map a.eval) (hi.map a.eval) none).run P w:=by simp [Instr.sliceAt,run_underlying ht]
           refine fin _ (.slice (if cap=p.toNat then some ad else some (ad.add (p.toNat*P.cellsOf e))) (q.toNat - p.toNat) (cap - p.toNat)) _ m hk ?_ (hm1.hold ?_)
           ·rw [hsl]
            simp only [Option.map_some] at hb
            simp [Instr.slice,run_underlying ht,hb,hs]
           ·split
            ·rename_i e1
             have hz:(q.toNat - p.toNat)=0:=by omega
             have hnil:(List.take ((q.toNat - p.toNat)*r.sz) (List.drop (p.toNat*r.sz) cells'))=[]:=by rw [hz];simp
             rw [hnil] at hsub
             exact .ro _ ad _ _ [] hsub hlen (by omega) (by omega) ⟨hs'.1,fun h=>absurd rfl h,fun j u hu=>by simp at hu⟩ (iW _ _ hid)
            ·refine .ro _ _ _ _ _ hsub hlen (by omega) (by omega) ?_ (iW _ _ hid)
             rw [hce]
             exact (hs'.drop _).take _
   | _=>rw [hax] at h;exact h.elim
  | array n e=>
   cases hax:s.ev x with
   | ptr j off=>
    rw [hax] at h rx
    generalize hvx:a.eval x=vx at *
    dsimp only at h
    cases off with
    | succ k=>exact h.elim
    | zero=>
     cases hj:lk s.rows j with
     | none=>rw [hj] at h;exact h.elim
     | some it=>
      rw [hj] at h
      cases it with
      | map _ _=>exact h.elim
      | iter _ _ _=>exact h.elim
      | siter _ _=>exact h.elim
      | row _ _=>exact h.elim
      | box e' cs=>
       cases lo with
       | some y=>
        cases hi with
        | some z=>exact h.elim
        | none=>
         cases hcs:pI cs with
         | none=>simp only [hcs] at h
         | some l=>
          cases hp:bnd s (some y) 0 with
          | none=>simp only [hcs,hp] at h
          | some p=>
          simp only [hcs,hp] at h
          obtain ⟨⟨hce,hln,hnm⟩,⟨h0,h1⟩,hk⟩:=h
          obtain ⟨g,vs,hv,hO,hvs,hh⟩:=(hm.rows j _ hj).2
          obtain ⟨h2,h3⟩:=yG hvs hcs
          obtain ⟨i,hi'⟩:=bM (P:=P) (t:=e) (by rw [hce];exact Nat.one_pos)
          have hs:=dw (P:=P) hi' w
          cases rx with
          | ptr _ _ g' _ hg=>
           have eg:g'=g:=by
            have:blk (m j)=some g':=hg
            rw [hv] at this
            cases this;rfl
           subst eg
           have hpn:p≤(n:Int):=by omega
           have hca:eH (aA T0 w0.heap.size m { s with rows:=del s.rows j } w) ⟨g',0,none⟩ vs:=by
            refine ⟨trivial,fun _=>⟨hO.imp id (·.2),fun q jt hq hbq=>?_⟩,fun q u hu=>?_⟩
            ·have hq':lk (del s.rows j) q=some jt:=hq
             have:=hm.sep j q _ jt g' hj (jQ s.rows j q jt hq') (by rw [hv];rfl) hbq
             subst this
             rw [mD,if_pos rfl] at hq'
             cases hq'
            ·have hw:w.heap[g']?=some (.cells vs.toArray e' (0,0)):=hh
             exact pF hw (by simpa using hu)
           have hvd:vs.drop p.toNat=(l.drop p.toNat).map (Value.int .u8):=by rw [h2,List.map_drop]
           have hlen:(l.drop p.toNat).length=n - p.toNat:=by rw [List.length_drop,hln]
           have hrow:∀ c,bP c (.ints .u8 (l.drop p.toNat)) (vs.drop p.toNat):=fun c=>by rw [hvd];exact .ints .u8 _ fun x hx=>h3 x (List.mem_of_mem_drop hx)
           have hb:=fC (P:=P) (w:=w) false n n ((some y).map a.eval) none p n (hbnd (some y) 0 p hlo hp) (.inl ⟨rfl,rfl⟩) h0 hpn (Int.le_refl _) (Nat.le_refl _)
           rw [Int.toNat_natCast] at hb
           simp only [Option.map_some] at hb
           by_cases hne:n=p.toNat
           ·subst hne
            have hsl:(Instr.sliceAt t (.pointer (some ⟨g',0,none⟩)) (some (a.eval y)) none none).run P w=.ok (.slice (some ⟨g',0,none⟩) (p.toNat - p.toNat) (p.toNat - p.toNat)) w:=by
             simp [Instr.sliceAt,run_underlying ht,Instr.sureAddr,hb,hs,hce]
            have hz:p.toNat - p.toNat=0:=by omega
            refine fin _ _ _ m hk hsl ((hm.forget _ (jQ _ _)).hold ?_)
            have hnil:vs.drop p.toNat=[]:=by rw [hvd];exact List.map_eq_nil_iff.2 (List.eq_nil_of_length_eq_zero (by rw [hlen,hz]))
            have hr0:=hrow (aA T0 w0.heap.size m { s with rows:=del s.rows j } w)
            rw [hnil] at hr0
            exact .ro _ ⟨g',0,none⟩ _ _ [] hr0 hlen (Nat.le_refl _) (by rw [maxLen_eq];omega) ⟨trivial,fun h=>absurd rfl h,fun q u hu=>by simp at hu⟩ rfl
           ·have hsl:(Instr.sliceAt t (.pointer (some ⟨g',0,none⟩)) (some (a.eval y)) none none).run P w=.ok (.slice (some ((⟨g',0,none⟩:Addr).add p.toNat)) (n - p.toNat) (n - p.toNat)) w:=by
             simp [Instr.sliceAt,run_underlying ht,Instr.sureAddr,hb,hs,hne,hce]
            refine fin _ _ _ m hk hsl ((hm.forget _ (jQ _ _)).hold ?_)
            exact .ro _ _ _ _ _ (hrow _) hlen (Nat.le_refl _) (by rw [maxLen_eq];omega) (hca.drop p.toNat) rfl
       | none=>
        cases hi with
        | some y=>exact h.elim
        | none=>
         cases hcs:intsOf cs with
         | none=>simp only [hcs] at h
         | some l=>
          simp only [hcs] at h
          obtain ⟨⟨hce,hln,hnm⟩,hk⟩:=h
          obtain ⟨g,vs,hv,hO,hvs,hh⟩:=(hm.rows j _ hj).2
          obtain ⟨h2,h3⟩:=Az hvs hcs
          obtain ⟨i,hi'⟩:=bM (P:=P) (t:=e) (by rw [hce];exact Nat.one_pos)
          have hs:=dw (P:=P) hi' w
          cases rx with
          | ptr _ _ g' _ hg=>
           have eg:g'=g:=by
            have:blk (m j)=some g':=hg
            rw [hv] at this
            cases this;rfl
           subst eg
           have hsl:(Instr.sliceAt t (.pointer (some ⟨g',0,none⟩)) none none none).run P w=.ok (.slice (some (if n=0 then ⟨g',0,none⟩ else (⟨g',0,none⟩:Addr).add (0*P.cellsOf e))) n n) w:=by
            simp [Instr.sliceAt,run_underlying ht,Instr.sureAddr,Instr.sliceBounds,hs]
           have ea:(⟨g',0,none⟩:Addr).add (0*P.cellsOf e)=⟨g',0,none⟩:=by
            unfold Addr.add;split<;>simp_all
           rw [ea,ite_self] at hsl
           refine fin _ _ _ m hk hsl ((hm.forget _ (jQ _ _)).hold ?_)
           refine .ro _ ⟨g',0,none⟩ n n vs (by rw [h2];exact .ints .i64 l h3) hln (Nat.le_refl _) (by rw [maxLen_eq];omega) ⟨trivial,fun _=>⟨hO.imp id (·.2),fun q jt hq hbq=>?_⟩,fun q u hu=>?_⟩ rfl
           ·have hq':lk (del s.rows j) q=some jt:=hq
            have:=hm.sep j q _ jt g' hj (jQ s.rows j q jt hq') (by rw [hv];rfl) hbq
            subst this
            rw [mD,if_pos rfl] at hq'
            cases hq'
           ·have hw:w.heap[g']?=some (.cells vs.toArray e' (0,0)):=hh
            exact pF hw (by simpa using hu)
   | _=>rw [hax] at h;exact h.elim
  | _=>cases s.ev x<;>exact h.elim
end
end Go.Fv
/-
 The bytes of a string builder as a string: unsafe.SliceData of an owned row of bytes, and unsafe.String of it (the row is gone behind it).
-/
namespace Go.Fv
open Go.RowKit
def wV (x:Operand) (s:S) (K:AV→S→Prop):Prop:=
 match s.ev x with
 | .nilS=>K (.raw (.pointer none)) s
 | .own i=>match lk s.rows i with
  | some (.row _ (.ints .u8 l))=>aZ (l≠[]) (K (.elt i 1 0 0) s)
  | _=>False
 | _=>False
def Gw (P:Program) (t:TypeId) (x:Operand) (s:S) (K:AV→S→Prop):Prop:=
 match P.underlying t,s.ev x with
 | some (.slice _),.nilS=>K (.int .i64 0) s
 | _,_=>False
def G5 (P:Program) (pt:TypeId) (x n:Operand) (s:S) (K:AV→S→Prop):Prop:=
 match s.ev x,s.ev n with
 | .raw (.pointer none),.int .i64 k=>aZ (k=0) (K (.str []) s)
 | .elt i 1 0 0,.int .i64 k=>match lk s.rows i with
  | some (.row e (.ints .u8 l))=>aZ (P.underlying pt=some (.pointer e)∧P.cellsOf e=1) (aZ (l≠[]∧k=l.length) (K (.str (bytesOf l)) (s.swap i (.row e (.ints .u8 [])))))
  | _=>False
 | _,_=>False
section
variable {P:Program} {w0:World} {T0:Bs} {o:Oper} {s:S} {K:AV→S→Prop}
theorem Cc {t:TypeId} {x:Operand} (ho:o.op=.call { callee:=.builtin .unsafeSliceData,args:=#[x],argTypes:=#[t] }) (hx:au x) (h:wV x s K):aT P w0 T0 o s K:=by
 unfold wV at h
 refine aT.mem fun H a w m hm=>?_
 have rx:=hm.ev x hx
 have run:∀ v v',a.eval x=v→(Builtin.unsafeSliceData_ #[t] o.type #[v]).run P w=.ok v' w→(execOp a.eval o).run P w=.ok (.value v') w:=by
  intro v v' hv hr
  unfold execOp;rw [ho]
  simp [hv,resolve,invoke,builtin,hr]
 revert h rx run
 generalize s.ev x=ax
 generalize a.eval x=vx
 intro h rx run
 cases ax with
 | nilS=>
  cases rx
  exact ⟨_,_,s,w,m,h,.inl (run _ _ rfl (Lib.run_unsafeSliceData_nil w _ _ _ _)),hm.hold (.raw _)⟩
 | own i=>
  dsimp only at h
  cases hi:lk s.rows i with
  | none=>rw [hi] at h;exact h.elim
  | some it=>
   rw [hi] at h
   cases it with
   | map _ _=>exact h.elim
   | iter _ _ _=>exact h.elim
   | siter _ _=>exact h.elim
   | box e bs=>exact h.elim
   | row e r=>
    cases r with
    | ints k l=>
     cases k<;>try exact h.elim
     dsimp only at h
     obtain ⟨hl,h⟩:=h
     obtain ⟨n,cells,hr,hn,how,hO⟩:=(hm.rows i _ hi).2
     cases rx with
     | own _ hiN h1=>
      have hlen:0<l.length:=List.length_pos_iff.2 hl
      rcases how.2 with ⟨hv,hz⟩|⟨g,cap,cur,fz,hv,hge,hh,hnc,hcm,hcs,htake⟩
      ·simp only [aF.len] at hn;omega
      ·have hv':(aA T0 w0.heap.size m s w).m i=.slice (some ⟨g,0,none⟩) n cap:=hv
       refine ⟨.elt i 1 0 0,_,s,w,m,h,.inl (run _ _ rfl (by rw [hv'];exact Lib.run_unsafeSliceData_row w _ _ _ _ _ (by simp only [aF.len] at hn;omega))),hm.hold ?_⟩
       exact .elt i 1 0 0 g hiN (by rw [hv'];rfl)
    | _=>exact h.elim
 | _=>exact h.elim
theorem Gx {t:TypeId} {x:Operand} (ho:o.op=.call { callee:=.builtin .cap,args:=#[x],argTypes:=#[t] }) (hx:au x) (h:Gw P t x s K):aT P w0 T0 o s K:=by
 unfold Gw at h
 refine aT.mem fun H a w m hm=>?_
 have rx:=hm.ev x hx
 split at h
 ·rename_i e ht e1
  rw [e1] at rx
  have run:a.eval x=.slice none 0 0:=by
   generalize a.eval x=vx at rx
   cases rx;rfl
  refine ⟨_,_,s,w,m,h,.inl ?_,hm.hold (.int .i64 0 (kY.2 ⟨by omega,by omega⟩))⟩
  unfold execOp;rw [ho]
  simp [run,resolve,invoke,builtin,Builtin.cap_,run_underlying ht,goInt]
 ·exact h.elim
theorem vM (w:World) (g n b:Nat) (h:b≠g):(w.freeze ⟨g,0,none⟩ n).heap[b]?=w.heap[b]?:=by
 unfold World.freeze
 split
 ·rfl
 ·simp only [Array.getElem?_modify]
  rw [if_neg (by omega)]
theorem Ii (w:World) (p:Addr) (n:Nat):(w.freeze p n).heap.size=w.heap.size:=by
 unfold World.freeze
 split
 ·rfl
 ·simp
theorem G6 {pt it:TypeId} {x n:Operand} (ho:o.op=.call { callee:=.builtin .unsafeString,args:=#[x,n],argTypes:=#[pt,it] }) (hx:au x) (hn:au n) (h:G5 P pt x n s K):aT P w0 T0 o s K:=by
 unfold G5 at h
 refine aT.mem fun H a w m hm=>?_
 have rx:=hm.ev x hx
 have rn:=hm.ev n hn
 have run:∀ v k v' w',a.eval x=v→a.eval n=.int .i64 k→(Builtin.unsafeString_ #[pt,it] o.type #[v,.int .i64 k]).run P w=.ok v' w'→(execOp a.eval o).run P w=.ok (.value v') w':=by
  intro v k v' w' hv hk hr
  unfold execOp;rw [ho]
  simp [hv,hk,resolve,invoke,builtin,hr]
 split at h
 ·rename_i k e1 e2
  rw [e1] at rx
  rw [e2] at rn
  obtain ⟨hz,h⟩:=h
  subst hz
  generalize a.eval x=vx at rx run
  generalize a.eval n=vn at rn run
  cases rx
  cases rn
  exact ⟨_,_,s,w,m,h,.inl (run _ _ _ _ rfl rfl (Lib.run_unsafeString_none w _ _ _ _)),hm.hold (.str [] (Nat.zero_le _))⟩
 ·rename_i i k e1 e2
  rw [e1] at rx
  rw [e2] at rn
  generalize a.eval x=vx at rx run
  generalize a.eval n=vn at rn run
  split at h
  ·rename_i e l hi
   obtain ⟨⟨hp,hc⟩,⟨hl,hz⟩,h⟩:=h
   subst hz
   obtain ⟨n',cells,hr,hn',how,hO⟩:=(hm.rows i _ hi).2
   cases rn with
   | int _ _ hin0=>
    cases rx with
    | elt _ _ _ _ g hiN hg=>
      have hlen:0<l.length:=List.length_pos_iff.2 hl
      simp only [aF.len] at hn'
      subst hn'
      have hblk:blk (m i)=some g:=hg
      rcases how.2 with ⟨hv,hz⟩|⟨g',cap,cur,fz,hv,hge,hh,hnc,hcm,hcs,htake⟩
      ·rw [hv] at hblk;cases hblk
      ·rw [hv] at hblk;cases hblk
       cases hr with
       | ints _ _ hin=>
        have hb:(bytesOf l).length=l.length:=by simp [bytesOf]
        simp only [aF.sz,Nat.mul_one] at hcs htake
        have hcell:∀ j y,(bytesOf l)[j]?=some y→w.cell? ((⟨g',0,none⟩:Addr).add j)=some (.int .u8 y.toNat):=by
         intro j y hy
         have hj:j<l.length:=by
          rw [←hb]
          exact (List.getElem?_eq_some_iff.1 hy).1
         refine pF hh ?_
         have h1:(cur.toList.take l.length)[j]?=(l.map (Value.int .u8))[j]?:=by rw [htake]
         rw [List.getElem?_take_of_lt hj,Array.getElem?_toList] at h1
         rw [h1,List.getElem?_map]
         unfold bytesOf at hy
         rw [List.getElem?_map] at hy
         rw [List.getElem?_eq_getElem hj] at hy ⊢
         simp only [Option.map_some,Option.some.injEq] at hy ⊢
         subst hy
         have hk:=um.1 (hin _ (List.getElem_mem hj))
         congr 1
         rw [UInt8.toNat_ofNat']
         omega
        have hne:bytesOf l≠[]:=fun e=>by rw [e] at hb;simp at hb;omega
        have hcml:l.length≤9223372036854775807:=by
         have:maxLen=9223372036854775807:=rfl
         omega
        have hr2:=Lib.run_unsafeString_row (P:=P) w pt it o.type e hp hc g' cur.size (by have hh':w.heap[g']?=some (.cells cur e fz):=hh;unfold World.shape?;rw [hh']) (bytesOf l) hne (by omega) (by omega) hcell
        rw [hb] at hr2
        have hgO:ownB T0 w0.heap.size g':=hO g' (by rw [hv];rfl)
        have hbel:bK (fun b=>T0.g b∧T0.a b) w0 (w.freeze ⟨g',0,none⟩ l.length):=by
         refine hm.below.step ?_ ?_ ?_ (by rw [Ii];exact Nat.le_refl _) (fun k hk hk2=>vM w g' _ k fun e=>?_)
         rotate_left 3
         ·subst e
          rcases hgO with hg|hg
          ·omega
          ·exact hk2 hg
         all_goals (unfold World.freeze;split<;>rfl)
        have hrep:=hm.Uy hbel hi (fun b hb hne=>vM w g' _ b fun e=>hne (by rw [hv,e];rfl)) (.row e (.ints .u8 [])) (.slice none 0 0) (fun b hb=>by cases hb) (fun c hle hw=>
         ⟨0,[],.ints .u8 [] (fun x hx=>by cases hx),rfl,⟨rfl,.inl ⟨rfl,rfl⟩⟩,fun b hb=>by cases hb⟩)
        refine ⟨_,_,_,_,_,h,.inl (run _ _ _ _ rfl rfl ?_),hrep.hold (.str (bytesOf l) (by omega))⟩
        have e0:(0*1+0:Nat)=0:=rfl
        rw [e0]
        exact hr2
  ·exact h.elim
 ·exact h.elim
end
end Go.Fv
