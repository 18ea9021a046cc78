/-
  A part of the proof of the claim: walks over the program's functions and the plain laws that these need. No condition of its own.
-/
import Derived.Test.YtpbllkibobnifaaDoorFvPart4
import Derived.Test.YtpbllkibobnifaaDoorFvPart6
import Derived.Test.YtpbllkibobnifaaDoorFvPart5
import Derived.Orders
import Derived.Still
import Derived.Scope
set_option linter.unusedSectionVars false
set_option linter.unusedVariables false
set_option linter.unusedSimpArgs false
set_option linter.unnecessarySimpa false
/-
 Views of an own row from a place on; append of one view onto another of the same row; clear.
-/
namespace Go.Fv
open Go.RowKit
def uK (r:aF) (o:Nat) (r2:aF):Option aF:=match appRow (dJ r 0 o) r2 with
 | some a=>appRow a (dJ r (o+r2.len) r.len)
 | none=>none
theorem Et (r:aF) (a b:Nat):(dJ r a b).sz=r.sz:=by cases r<;>rfl
theorem Ec {c:Ctx} {r r2 r3:aF} {cells cells2:List Value} {o:Nat} (h1:bP c r cells) (h2:bP c r2 cells2) (hle:o+r2.len≤r.len) (h:uK r o r2=some r3) :
  bP c r3 (cells.take (o*r.sz)++cells2++cells.drop (o*r.sz+cells2.length))∧r3.len=r.len∧r3.sz=r.sz∧r2.sz=r.sz:=by
 unfold uK at h
 have hs1:=h1.sub 0 o
 have hs2:=h1.sub (o+r2.len) r.len
 cases ha:appRow (dJ r 0 o) r2 with
 | none=>rw [ha] at h;cases h
 | some x=>
  rw [ha] at h
  obtain ⟨k1,k2,k3,k4⟩:=xq hs1 h2 ha
  obtain ⟨q1,q2,q3,q4⟩:=xq k1 hs2 h
  rw [Et] at k3 k4
  have e2:cells2.length=r2.len*r.sz:=by rw [h2.len,k4]
  refine ⟨?_,?_,by rw [q3,k3],k4⟩
  ·simp only [Nat.zero_mul,List.drop_zero,Nat.sub_zero] at q1
   have e3:(List.take ((r.len - (o+r2.len))*r.sz) (List.drop ((o+r2.len)*r.sz) cells))=List.drop (o*r.sz+cells2.length) cells:=by
    rw [e2,←Nat.add_mul]
    refine List.take_of_length_le ?_
    rw [List.length_drop,h1.len,Nat.sub_mul]
    exact Nat.le_refl _
   rw [e3] at q1
   exact q1
  ·rw [q2,k2,ig _ _ _ (by omega),ig _ _ _ (Nat.le_refl _)];omega
section
variable {P:Program} {w0:World} {T0:Bs} {o:Oper} {s:S} {K:AV→S→Prop}
theorem bC.X8 {H:List (AV × Value)} {a:Act} {w:World} {m:Nat→Value} (hm:bC w0 T0 H s a w m) {i:Nat} {e:TypeId} {r:aF} (hi:lk s.rows i=some (.row e r)) {g n cap:Nat} {cur:Array Value} {fz:Nat × Nat} {cells:List Value}
  (hr:bP (aA T0 w0.heap.size m s w) r cells) (hn:r.len=n) (hxl:cells.length=n*r.sz) (hv:m i=.slice (some ⟨g,0,none⟩) n cap) (hmk:Mk e fz cur.size) (hh:w.heap[g]?=some (.cells cur e fz)) (hnc:n≤cap) (hcm:cap≤maxLen)
  (hcs:cur.size=cap*r.sz) (htake:cur.toList.take (n*r.sz)=cells) (hO:∀ b,blk (m i)=some b→ownB T0 w0.heap.size b) {p:Nat} {r2 r3:aF} {cells2:List Value} (hr2:bP (aA T0 w0.heap.size m s w) r2 cells2) (h3:uK r p r2=some r3) (hle:p+r2.len≤n) :
  bC w0 T0 H (s.upd i (.row e r3)) a (w.setRow g (cur.toList.take (p*r.sz)++cells2++cur.toList.drop (p*r.sz+cells2.length)).toArray) m:=by
 obtain ⟨hr3,hlen3,hsz3,hsz2⟩:=Ec hr hr2 (by omega) h3
 have hl2:cells2.length=r2.len*r.sz:=by rw [hr2.len,hsz2]
 have hfit:p*r.sz+cells2.length≤n*r.sz:=by rw [hl2,←Nat.add_mul];exact Nat.mul_le_mul_right _ hle
 have hcapn:n*r.sz≤cap*r.sz:=Nat.mul_le_mul_right _ hnc
 have hcl:cur.toList.length=cap*r.sz:=by rw [Array.length_toList];exact hcs
 have hlen:(cur.toList.take (p*r.sz)++cells2++cur.toList.drop (p*r.sz+cells2.length)).length=cur.size:=by
  simp only [List.length_append,List.length_take,List.length_drop,Array.length_toList,hcs];omega
 refine hm.upd (bK.setRow hm.below (hO g (by rw [hv];rfl)) _) hi (fun b hb hne=>setRow_other w g b _ (fun e=>hne (by rw [hv,e];rfl))) _ (fun c hle' hw hmm hN=>?_)
 refine ⟨n,_,hr3.mono hle',by rw [hlen3,hn],?_,hO⟩
 refine ⟨?_,.inr ⟨g,cap,_,fz,hv,by rw [List.size_toArray,hlen];exact hmk,by rw [hw];exact setRow_heap w g _ _ _ _ hh,hnc,hcm,by rw [List.size_toArray,hlen,hsz3];exact hcs,?_⟩⟩
 ·rw [hsz3]
  simp only [List.length_append,List.length_take,List.length_drop,hxl];omega
 ·rw [hsz3]
  show List.take (n*r.sz) (cur.toList.take (p*r.sz)++cells2++cur.toList.drop (p*r.sz+cells2.length))=_
  rw [←htake]
  rw [List.take_append,List.take_of_length_le (by simp only [List.length_append,List.length_take,hcl];omega)]
  congr 1
  ·rw [List.take_take,Nat.min_eq_left (by omega)]
  ·simp only [List.length_append,List.length_take,hcl]
   rw [List.drop_take]
   congr 1
   omega
def NQ:Option Operand→Nat
 | some (.tmp k)=>2000000+k
 | _=>1999999
def wW (P:Program) (t:TypeId) (x:Operand) (lo hi mx:Option Operand) (s:S) (K:AV→S→Prop):Prop:=
 match s.ev x with
 | .own i=>match lk s.rows i with
  | some (.row _ r)=>match mx with
   | some y=>match P.underlying t with
    | some (.slice e)=>match bnd s lo 0 with
     | some p=>match bnd s hi r.len with
      | some q=>match bnd s (some y) 0 with
       | some z=>aZ ((ny lo∧ny hi∧ny (some y))∧P.cellsOf e=r.sz∧hi.isSome=true) (aZ (0≤p∧p≤q∧q≤z∧z≤r.len) (K .dead s))
       | none=>False
      | none=>False
     | none=>False
    | _=>False
   | none=>match lk s.env (NQ lo) with
    | some _=>match P.underlying t with
     | some (.slice e)=>match bnd s lo 0 with
      | some p=>match bnd s hi r.len with
       | some q=>aZ ((ny lo∧ny hi)∧P.cellsOf e=r.sz) (aZ (0≤p∧p≤q∧q≤r.len) (K (.suf i r.sz p.toNat (q.toNat - p.toNat)) s))
       | none=>False
      | none=>False
     | _=>False
    | none=>sU P t x lo hi none s K
  | _=>sU P t x lo hi mx s K
 | .pre i n=>match lk s.rows i with
  | some (.row _ r)=>match mx with
   | some _=>False
   | none=>match P.underlying t with
    | some (.slice e)=>match bnd s lo 0 with
     | some p=>match bnd s hi n with
      | some q=>aZ ((ny lo∧ny hi)∧P.cellsOf e=r.sz) (aZ (0≤p∧p≤q∧q≤r.len) (K (.suf i r.sz p.toNat (q.toNat - p.toNat)) s))
      | none=>False
     | none=>False
    | _=>False
  | _=>False
 | _=>sU P t x lo hi mx s K
theorem H6 {w:World} (len cap:Nat) (lo hi:Option Value) (mx:Value) (p q z:Int) (hp:(lo=none∧p=0)∨∃ k,lo=some (.int k p)) (hq:∃ k,hi=some (.int k q)) (hz:∃ k,mx=.int k z)
  (h0:0≤p) (h1:p≤q) (h2:q≤z) (h3:z≤len) (hc:len≤cap):(Instr.sliceBounds true len cap lo hi (some mx)).run P w=.ok (p.toNat,q.toNat,z.toNat) w:=by
 obtain ⟨k,rfl⟩:=hz
 obtain ⟨k',rfl⟩:=hq
 have e1:=run_sliceBound (P:=P) w k z cap .slice3Acap (by omega) (by omega)
 have e2:=run_sliceBound (P:=P) w k' q z.toNat .slice3B (by omega) (by omega)
 rcases hp with ⟨rfl,rfl⟩|⟨k'',rfl⟩
 ·simp [Instr.sliceBounds,e1,e2]
 ·have e3:=run_sliceBound (P:=P) w k'' p q.toNat .slice3C (by omega) (by omega)
  simp [Instr.sliceBounds,e1,e2,e3]
theorem rH {w:World} {t e:TypeId} {inf:TypeInfo} (ht:P.underlying t=some (.slice e)) (hi:P.info? e=some inf) (a:Option Addr) (len cap:Nat) (lo hi' mx:Option Value) (p q z:Nat)
  (hb:(Instr.sliceBounds true len cap lo hi' mx).run P w=.ok (p,q,z) w):(Instr.sliceAt t (.slice a len cap) lo hi' mx).run P w=.ok (.slice (a.map fun x=>if z=p then x else x.add (p*P.cellsOf e)) (q - p) (z - p)) w:=by
 have hs:=dw (P:=P) hi w
 have hsl:(Instr.sliceAt t (.slice a len cap) lo hi' mx).run P w=(Instr.slice t (.slice a len cap) lo hi' mx).run P w:=by simp [Instr.sliceAt,run_underlying ht]
 rw [hsl]
 simp only [Instr.slice,Sem.run_bind,run_underlying ht,Result.andThen_ok,hb,hs,Sem.run_pure]
 by_cases hz:z=p
 ·simp [hz]
 ·simp [hz]
theorem Ad {w:World} (len cap:Nat) (lo hi:Option Value) (p q:Int) (hp:(lo=none∧p=0)∨∃ k,lo=some (.int k p)) (hq:(hi=none∧q=len)∨∃ k,hi=some (.int k q))
  (h0:0≤p) (h1:p≤q) (hqc:q≤(cap:Int)):(Instr.sliceBounds true len cap lo hi none).run P w=.ok (p.toNat,q.toNat,cap) w:=by
 have hq0:0≤q:=by omega
 rcases hp with ⟨rfl,rfl⟩|⟨k,rfl⟩<;>rcases hq with ⟨rfl,rfl⟩|⟨k',rfl⟩
 ·simp [Instr.sliceBounds]
 ·simp [Instr.sliceBounds,run_sliceBound,hq0,hqc]
 ·have h1':p≤((len:Nat):Int):=h1
  simp [Instr.sliceBounds,run_sliceBound,h0,h1']
 ·have e1:=run_sliceBound (P:=P) w k' q cap .sliceAcap hq0 hqc
  have e2:=run_sliceBound (P:=P) w k p q.toNat .sliceB h0 (by omega)
  simp [Instr.sliceBounds,e1,e2]
theorem Ce {t:TypeId} {x:Operand} {lo hi mx:Option Operand} (ho:o.op=.slice t x lo hi mx) (hx:au x) (h:wW P t x lo hi mx s K):aT P w0 T0 o s K:=by
 unfold wW at h
 -- a view of row i
 have view:∀ (i:Nat) (e':TypeId) (r:aF) (n:Nat) (p q:Int) (e:TypeId),lk s.rows i=some (.row e' r)→P.underlying t=some (.slice e)→bnd s lo 0=some p→bnd s hi n=some q→mx=none→ny lo→ny hi→P.cellsOf e=r.sz→0≤p→p≤q→q≤r.len →
   (∀ (H:List (AV × Value)) (a:Act) (w:World) (m:Nat→Value),bC w0 T0 H s a w m→∃ ad l cap,m i=.slice ad l cap∧a.eval x=.slice ad n cap)→K (.suf i r.sz p.toNat (q.toNat - p.toNat)) s→aT P w0 T0 o s K:=by
  intro i e' r n p q e hi' ht hp hq hmx hlo hhi hce h0 h1 h2 hval hk
  subst hmx
  refine aT.mem fun H a w m hm=>?_
  obtain ⟨k,cells,hr,hkn,how,hO⟩:=(hm.rows i _ hi').2
  have hiN:=(hm.rows i _ hi').1
  obtain ⟨ad,l,cap,hmi,hev⟩:=hval H a w m hm
  have hl:l=k∧k≤cap:=by
   rcases how.2 with ⟨hv,hz⟩|⟨g,cap2,cur,fz,hv,_,_,hnc,_⟩
   ·rw [hv] at hmi;cases hmi;omega
   ·rw [hv] at hmi;cases hmi;exact ⟨rfl,hnc⟩
  obtain ⟨inf,hinf⟩:=bM (P:=P) (t:=e) (by rw [hce];exact hr.pos)
  have hb:=Ad (P:=P) (w:=w) n cap (lo.map a.eval) (hi.map a.eval) p q (by rcases rY hm hlo hp with ⟨rfl,rfl⟩|h;exact .inl ⟨rfl,rfl⟩;exact .inr h) (by rcases rY hm hhi hq with ⟨rfl,rfl⟩|h;exact .inl ⟨rfl,rfl⟩;exact .inr h) h0 h1 (by omega)
  refine ⟨_,_,s,w,m,hk,.inl ?_,hm.hold (.suf i r.sz p.toNat (q.toNat - p.toNat) l cap ad hiN hmi (by omega))⟩
  unfold execOp;rw [ho]
  have:=rH (P:=P) (w:=w) ht hinf ad n cap (lo.map a.eval) (hi.map a.eval) none p.toNat q.toNat cap hb
  rw [hce] at this
  simp [hev,this]
 split at h
 ·rename_i i hax
  split at h
  ·rename_i e' r hi'
   split at h
   ·rename_i y
    split at h
    ·rename_i e ht
     split at h
     ·rename_i p hp
      split at h
      ·rename_i q hq
       split at h
       ·rename_i z hz
        obtain ⟨⟨⟨hlo,hhi,hy⟩,hce,his⟩,⟨h0,h1,h2,h3⟩,hk⟩:=h
        refine aT.mem fun H a w m hm=>?_
        obtain ⟨k,cells,hr,hkn,how,hO⟩:=(hm.rows i _ hi').2
        obtain ⟨inf,hinf⟩:=bM (P:=P) (t:=e) (by rw [hce];exact hr.pos)
        have rx:=hm.ev x hx
        rw [hax] at rx
        generalize hvx:a.eval x=vx at rx
        cases rx with
        | own _ _ h1'=>
         obtain ⟨ad,cap,hv,hkc⟩:∃ ad cap,m i=.slice ad k cap∧k≤cap:=by
          rcases how.2 with ⟨hv,hz⟩|⟨g,cap2,cur,fz,hv,_,_,hnc,_⟩
          ·exact ⟨none,0,by rw [hz];exact hv,by omega⟩
          ·exact ⟨_,_,hv,hnc⟩
         have hmx:∃ kk,a.eval y=.int kk z:=by
          rcases rY hm hy hz with ⟨h,_⟩|⟨kk,h⟩
          ·cases h
          ·exact ⟨kk,by simpa using h⟩
         have hhi':∃ kk,hi.map a.eval=some (.int kk q):=by
          rcases rY hm hhi hq with ⟨rfl,_⟩|h
          ·cases his
          ·exact h
         have hb:=H6 (P:=P) (w:=w) k cap (lo.map a.eval) (hi.map a.eval) (a.eval y) p q z (by rcases rY hm hlo hp with ⟨rfl,rfl⟩|h;exact .inl ⟨rfl,rfl⟩;exact .inr h) hhi' hmx h0 h1 h2 (by omega) hkc
         have this:=rH (P:=P) (w:=w) ht hinf ad k cap (lo.map a.eval) (hi.map a.eval) (some (a.eval y)) p.toNat q.toNat z.toNat hb
         have hvx':a.eval x=.slice ad k cap:=hvx.trans hv
         rw [←hvx'] at this
         generalize Value.slice _ _ _=vv at this
         refine ⟨.dead,vv,s,w,m,hk,.inl ?_,hm.hold (.dead _)⟩
         unfold execOp;rw [ho]
         simp [this]
       ·exact h.elim
      ·exact h.elim
     ·exact h.elim
    ·exact h.elim
   ·split at h
    ·split at h
     ·rename_i e ht
      split at h
      ·rename_i p hp
       split at h
       ·rename_i q hq
        obtain ⟨⟨⟨hlo,hhi⟩,hce⟩,⟨h0,h1,h2⟩,hk⟩:=h
        refine view i e' r r.len p q e hi' ht hp hq rfl hlo hhi hce h0 h1 h2 (fun H a w m hm=>?_) hk
        obtain ⟨k,cells,hr,hkn,how,hO⟩:=(hm.rows i _ hi').2
        have rx:=hm.ev x hx
        rw [hax] at rx
        generalize hvx:a.eval x=vx at rx
        cases rx with
        | own _ _ h1'=>
         rcases how.2 with ⟨hv,hz⟩|⟨g,cap2,cur,fz,hv,_,_,hnc,_⟩
         ·exact ⟨none,0,0,hv,by rw [hkn,hz];exact hv⟩
         ·exact ⟨_,_,_,hv,by rw [hkn];exact hv⟩
       ·exact h.elim
      ·exact h.elim
     ·exact h.elim
    ·exact nT ho hx h
  ·exact nT ho hx h
 ·rename_i i n hax
  split at h
  ·rename_i e' r hi'
   split at h
   ·exact h.elim
   ·split at h
    ·rename_i e ht
     split at h
     ·rename_i p hp
      split at h
      ·rename_i q hq
       obtain ⟨⟨⟨hlo,hhi⟩,hce⟩,⟨h0,h1,h2⟩,hk⟩:=h
       refine view i e' r n p q e hi' ht hp hq rfl hlo hhi hce h0 h1 h2 (fun H a w m hm=>?_) hk
       have rx:=hm.ev x hx
       rw [hax] at rx
       generalize hvx:a.eval x=vx at rx
       cases rx with
       | pre _ _ l cap ad hiN hv hnl=>exact ⟨ad,l,cap,hv,rfl⟩
      ·exact h.elim
     ·exact h.elim
    ·exact h.elim
  ·exact h.elim
 ·exact nT ho hx h
def lU (P:Program) (t t2:TypeId) (x y:Operand) (s:S) (K:AV→S→Prop):Prop:=
 match s.ev x with
 | .pre i m=>match s.ev y with
  | .suf j sz o n=>match lk s.rows i with
   | some (.row e r)=>match P.underlying t with
    | some (.slice e')=>match P.underlying t2 with
     | some (.slice _)=>match uK r m (dJ r o (o+n)) with
      | some r3=>aZ ((au x∧au y)∧i=j∧e=e'∧sz=r.sz∧P.cellsOf e'=r.sz) (aZ (0<r.len∧o+n≤r.len∧m+n≤r.len) (K (.pre i (m+n)) (s.upd i (.row e r3))))
      | none=>False
     | _=>False
    | _=>False
   | _=>False
  | _=>jK P t t2 x y s K
 | _=>jK P t t2 x y s K
theorem y8 {t t2:TypeId} {x y:Operand} (ho:o.op=.call { callee:=.builtin .append,args:=#[x,y],argTypes:=#[t,t2] }) (hx:au x) (h:lU P t t2 x y s K):aT P w0 T0 o s K:=by
 unfold lU at h
 split at h
 ·rename_i i m1 hax
  split at h
  ·rename_i j sz p n hay
   split at h
   ·rename_i e r hi'
    split at h
    ·rename_i e' ht
     split at h
     ·rename_i e2 ht2
      split at h
      ·rename_i r3 h3
       obtain ⟨⟨⟨_,hoy⟩,rfl,rfl,rfl,hce⟩,⟨hpos,h1,h2⟩,hk⟩:=h
       refine aT.mem fun H a w m hm=>?_
       obtain ⟨k,cells,hr,hkn,how,hO⟩:=(hm.rows i _ hi').2
       obtain ⟨inf,hinf⟩:=bM (P:=P) (t:=e) (by rw [hce];exact hr.pos)
       have hisz:inf.size=r.sz:=by rw [←hce];simp [Program.cellsOf,hinf]
       rcases how.2 with ⟨hv,hz⟩|⟨g,cap,cur,fz,hv,hmk,hh,hnc,hcm,hcs,htake⟩
       ·omega
       have rx:=hm.ev x hx
       rw [hax] at rx
       generalize hvx:a.eval x=vx at rx
       have ry:=hm.ev y hoy
       rw [hay] at ry
       generalize hvy:a.eval y=vy at ry
       cases rx with
       | pre _ _ l cap2 ad hiN hv2 hml=>
        have hv2':m i=.slice ad l cap2:=hv2
        rw [hv] at hv2'
        cases hv2'
        cases ry with
        | suf _ _ _ _ l3 cap3 ad3 _ hv3 hol=>
         have hv3':m i=.slice ad3 l3 cap3:=hv3
         rw [hv] at hv3'
         cases hv3'
         have hsub:=hr.sub p (p+n)
         rw [Nat.add_sub_cancel_left] at hsub
         have hnl:(dJ r p (p+n)).len=n:=by rw [ig _ _ _ h1];omega
         have hcells2:((cells.drop (p*r.sz)).take (n*r.sz)).length=n*r.sz:=by
          have:=hsub.len
          rw [hnl,Et] at this
          exact this
         have hsrc:Src P w t2 inf.size (.slice (Option.map (fun x=>if cap=p then x else x.add (p*r.sz)) (some ⟨g,0,none⟩)) n (cap - p)) n ((cells.drop (p*r.sz)).take (n*r.sz)):=by
          rw [Option.map_some]
          refine Src.slice ht2 (by rw [hcells2,hisz]) (fun j u hu=>?_)
          by_cases hcp:cap=p
          ·have hn0:n=0:=by omega
           subst hn0;simp at hu
          ·rw [if_neg hcp]
           have hj:j<n*r.sz:=by have:=(List.getElem?_eq_some_iff.1 hu).1;rw [hcells2] at this;exact this
           rw [List.getElem?_take_of_lt hj,List.getElem?_drop] at hu
           have h5:=pF hh (j:=p*r.sz+j) (u:=u) (by
            rw [←htake] at hu
            rw [List.getElem?_take] at hu
            split at hu
            ·simpa using hu
            ·cases hu)
           have e1:((⟨g,0,none⟩:Addr).add (p*r.sz)).add j=(⟨g,0,none⟩:Addr).add (p*r.sz+j):=by rw [Addr.add_add]
           rw [e1];exact h5
         have hcapm:m1*r.sz+((cells.drop (p*r.sz)).take (n*r.sz)).length≤cur.size:=by
          rw [hcells2,hcs,←Nat.add_mul]
          exact Nat.mul_le_mul_right _ (by omega)
         have hrun:=wH (P:=P) (w:=w) (t:=t) (t2:=t2) (ty:=o.type) ht hinf g m1 cap cur fz hh hmk.w hsrc hsub.one (by omega) (by rw [hisz];exact hcapm)
         rw [hisz] at hrun
         refine ⟨.pre i (m1+n),_,_,_,m,hk,.inl ?_,(hm.X8 hi' hr hkn how.1 hv hmk hh hnc hcm hcs htake hO hsub h3 (by rw [hnl];omega)).hold (.pre i (m1+n) k cap _ hiN hv (by omega))⟩
         unfold execOp;rw [ho]
         simp [resolve,invoke,builtin,hvx,hvy]
         rw [Option.map_some] at hrun
         simp [hrun]
      ·exact h.elim
     ·exact h.elim
    ·exact h.elim
   ·exact h.elim
  ·exact qj ho hx h
 ·exact qj ho hx h
def zK (P:Program) (t:TypeId) (x:Operand) (s:S) (K:AV→S→Prop):Prop:=
 match s.ev x with
 | .suf i sz o n=>match lk s.rows i with
  | some (.row e r)=>match P.underlying t with
   | some (.slice e')=>match zeroOf P e' with
    | some z=>match uK r o (jO z n) with
     | some r3=>aZ (bH P e' z) (aZ (sz=r.sz∧r.sz=z.cells.size) (aZ (0<n∧o+n≤r.len) (K .dead (s.upd i (.row e r3)))))
     | none=>False
    | none=>False
   | _=>False
  | _=>False
 | _=>False
theorem Di {t:TypeId} {x:Operand} (ho:o.op=.call { callee:=.builtin .clear,args:=#[x],argTypes:=#[t] }) (hx:au x) (h:zK P t x s K):aT P w0 T0 o s K:=by
 unfold zK at h
 split at h
 ·rename_i i sz p n hax
  split at h
  ·rename_i e r hi'
   split at h
   ·rename_i e' ht
    split at h
    ·rename_i z hz
     split at h
     ·rename_i r3 h3
      obtain ⟨hez,⟨rfl,hrs⟩,⟨hn0,h1⟩,hk⟩:=h
      refine aT.mem fun H a w m hm=>?_
      obtain ⟨k,cells,hr,hkn,how,hO⟩:=(hm.rows i _ hi').2
      obtain ⟨inf,hinf,hiz,hisz,_⟩:=hez.ex
      rcases how.2 with ⟨hv,hz⟩|⟨g,cap,cur,fz,hv,hmk,hh,hnc,hcm,hcs,htake⟩
      ·omega
      have rx:=hm.ev x hx
      rw [hax] at rx
      generalize hvx:a.eval x=vx at rx
      cases rx with
      | suf _ _ _ _ l3 cap3 ad3 _ hv3 hol=>
       have hv3':m i=.slice ad3 l3 cap3:=hv3
       rw [hv] at hv3'
       cases hv3'
       obtain ⟨hzr,hzl,hzs⟩:=wY (aA T0 w0.heap.size m s w) hez.ok n
       have hcp:¬cap=p:=by omega
       have hadd:(⟨g,0,none⟩:Addr).add (p*r.sz)=⟨g,p*r.sz,none⟩:=by unfold Addr.add;split<;>simp_all
       have hzc:(Builtin.zeroCells z.cells n).toList=(List.replicate n z.cells.toList).flatten:=qX z.cells n
       have hzlen:((List.replicate n z.cells.toList).flatten).length=n*r.sz:=by rw [jv,Array.length_toList,hrs]
       have hst:=kD P g (p*r.sz) e fz _ 0 cur w hh hmk.w (by rw [hzlen,hcs,Nat.add_zero,←Nat.add_mul];exact Nat.mul_le_mul_right _ (by omega)) hzr.one
       rw [Nat.add_zero] at hst
       refine ⟨.dead,.tuple #[],_,_,m,hk,.inl ?_,(hm.X8 hi' hr hkn how.1 hv hmk hh hnc hcm hcs htake hO hzr h3 (by rw [hzl];omega)).hold (.dead _)⟩
       ·unfold execOp;rw [ho]
        obtain ⟨n',rfl⟩:∃ n',n=n'+1:=⟨n - 1,by omega⟩
        simp only [Option.map_some,if_neg hcp,hadd] at hvx
        simp [resolve,invoke,builtin,hvx,Builtin.clear_,run_underlying ht,zeroValue,typeInfo,hinf,hiz,hzc,hst]
     ·exact h.elim
    ·exact h.elim
   ·exact h.elim
  ·exact h.elim
 ·exact h.elim
end
end Go.Fv
/-
 Interface values of a known dynamic type; copy into a view.
-/
namespace Go.Fv
open Go.RowKit
def U9 (P:Program) (t:TypeId) (name:String):Option Nat:=((P.info? t).bind fun i=>i.methods.find? (·.name == name)).bind fun m=>m.func.map (·.1)
def WJ (P:Program) (t:TypeId) (name:String) (f:Nat):Prop:=∀ (v:Value) (w:World),(method (P.types.size+Made.depth) t v name).run P w=.ok (f,v) w
section
variable {P:Program} {w0:World} {T0:Bs} {o:Oper} {s:S} {K:AV→S→Prop}
def wS (P:Program) (t:TypeId) (x:Operand) (s:S) (K:AV→S→Prop):Prop:=
 match P.underlying t with
 | some (.interface _)=>False
 | some _=>aZ (au x) (K (.ifc t (s.ev x)) s)
 | none=>False
theorem Dw {t:TypeId} {x:Operand} (ho:o.op=.makeInterface t x) (h:wS P t x s K):cZ P w0 T0 o s K:=by
 unfold wS at h
 cases hu:P.underlying t with
 | none=>rw [hu] at h;exact h.elim
 | some d=>
  rw [hu] at h
  have hd:∀ m,d≠.interface m:=by rintro m rfl;exact h.elim
  have h2:aZ (au x) (K (.ifc t (s.ev x)) s):=by cases d<;>first|exact h|exact (hd _ rfl).elim
  obtain ⟨hx,hk⟩:=h2
  intro H a w m hm
  refine ⟨.ifc t (s.ev x),.iface t (a.eval x),hk,?_,.ifc _ _ _ (hm.ev x hx)⟩
  unfold execOp;rw [ho]
  cases d<;>first|exact (hd _ rfl).elim|simp [Instr.makeInterface,run_underlying hu]
theorem Dv {t:TypeId} {x:Operand} (ho:o.op=.makeInterface t x) (h:wS P t x s K):aT P w0 T0 o s K:=(Dw ho h).op
def Gz (P:Program) (t t2:TypeId) (x y:Operand) (s:S) (K:AV→S→Prop):Prop:=
 match s.ev x with
 | .suf i sz o n=>match s.ev y with
  | .own j=>match lk s.rows i with
   | some (.row e r)=>match lk s.rows j with
    | some (.row e2 r2)=>match P.underlying t with
     | some (.slice e')=>match P.underlying t2 with
      | some (.slice _)=>match uK r o r2 with
       | some r3=>aZ ((au x∧au y)∧sz=r.sz∧P.cellsOf e'=r.sz∧r.sz=1) (aZ (0<r2.len∧r2.len≤n∧o+n≤r.len) (K (.int .i64 r2.len) (s.upd i (.row e r3))))
       | none=>False
      | _=>False
     | _=>False
    | _=>False
   | _=>False
  | _=>False
 | _=>False
theorem GH {t t2:TypeId} {x y:Operand} (ho:o.op=.call { callee:=.builtin .copy,args:=#[x,y],argTypes:=#[t,t2] }) (h:Gz P t t2 x y s K):aT P w0 T0 o s K:=by
 unfold Gz at h
 split at h
 ·rename_i i sz p n hax
  split at h
  ·rename_i j hay
   split at h
   ·rename_i e r hi'
    split at h
    ·rename_i e2 r2 hj'
     split at h
     ·rename_i e' ht
      split at h
      ·rename_i e3 ht2
       split at h
       ·rename_i r3 h3
        obtain ⟨⟨⟨hx,hoy⟩,rfl,hce,hs1⟩,⟨hpos,h1,h2⟩,hk⟩:=h
        refine aT.mem fun H a w m hm=>?_
        obtain ⟨k,cells,hr,hkn,how,hO⟩:=(hm.rows i _ hi').2
        obtain ⟨k2,cells2,hr2,hkn2,how2,hO2⟩:=(hm.rows j _ hj').2
        obtain ⟨hr3,hlen3,hsz3,hsz2⟩:=Ec hr hr2 (by omega) h3
        obtain ⟨inf,hinf⟩:=bM (P:=P) (t:=e') (by rw [hce];exact hr.pos)
        have hisz:inf.size=r.sz:=by rw [←hce];simp [Program.cellsOf,hinf]
        rcases how.2 with ⟨hv,hz⟩|⟨g,cap,cur,fz,hv,hmk,hh,hnc,hcm,hcs,htake⟩
        ·omega
        rcases how2.2 with ⟨hv2,hz2⟩|⟨g2,cap2,cur2,fz2,hv2,hmk2,hh2,hnc2,hcm2,hcs2,htake2⟩
        ·omega
        have rx:=hm.ev x hx
        rw [hax] at rx
        generalize hvx:a.eval x=vx at rx
        have ry:=hm.ev y hoy
        rw [hay] at ry
        generalize hvy:a.eval y=vy at ry
        cases rx with
        | suf _ _ _ _ l3 cap3 ad3 _ hv3 hol=>
         have hv3':m i=.slice ad3 l3 cap3:=hv3
         rw [hv] at hv3'
         cases hv3'
         cases ry with
         | own _ hj2 hvj=>
          rw [show (aA T0 w0.heap.size m s w).m j=m j from rfl,hv2] at hvy
          have hcp:¬cap=p:=by omega
          have hadd:(⟨g,0,none⟩:Addr).add (p*r.sz)=⟨g,p*r.sz,none⟩:=by unfold Addr.add;split<;>simp_all
          simp only [Option.map_some,if_neg hcp,hadd] at hvx
          have hl2:cells2.length=k2:=by rw [hr2.len,hsz2,hs1,Nat.mul_one,hkn2]
          have hsrc:∀ (q:Nat) (u:Value),cells2[q]?=some u→w.cell? ((⟨g2,0,none⟩:Addr).add q)=some u:=fun q u hu=>by
           refine pF hh2 (j:=q) (u:=u) ?_
           rw [←htake2,List.getElem?_take] at hu
           split at hu
           ·simpa using hu
           ·cases hu
          have hl:=run_loadCells_list (P:=P) w ⟨g2,0,none⟩ cells2 hsrc
          have hst:=kD P g (p*r.sz) e fz cells2 0 cur w hh hmk.w (by rw [hl2,hcs,hs1,Nat.add_zero,Nat.mul_one,Nat.mul_one];omega) hr2.one
          rw [Nat.add_zero] at hst
          have hmin:Nat.min k2 n=cells2.length:=by rw [hl2];exact Nat.min_eq_left (by omega)
          have hi1:inf.size=1:=by rw [hisz,hs1]
          refine ⟨.int .i64 r2.len,goInt cells2.length,_,_,m,hk,.inl ?_,(hm.X8 hi' hr hkn how.1 hv hmk hh hnc hcm hcs htake hO hr2 h3 (by omega)).hold ?_⟩
          ·unfold execOp;rw [ho]
           simp [resolve,invoke,builtin,hvx,hvy,Builtin.copy_,run_underlying ht,Builtin.lenOf,Builtin.firstCells,sizeOf,typeInfo,hinf,hi1,hmin,hl,hst]
          ·rw [hl2,←hkn2]
           exact .int .i64 _ (by rw [kY];unfold maxLen at hcm;omega)
       ·exact h.elim
      ·exact h.elim
     ·exact h.elim
    ·exact h.elim
   ·exact h.elim
  ·exact h.elim
 ·exact h.elim
def Gs (P:Program) (op:BinOp) (t:TypeId) (y:Operand) (a b:AV) (s:S) (K:AV→S→Prop):Prop:=
 match a,b with
 | .own i,.nilS=>match lk s.rows i with
  | some (.row _ r)=>match op,P.underlying t with
   | .eql,some (.slice _)=>aZ (0<r.len) (K (.bool false) s)
   | .neq,some (.slice _)=>aZ (0<r.len) (K (.bool true) s)
   | _,_=>False
  | _=>False
 | .nilS,.nilS=>match op,P.underlying t with
  | .eql,some (.slice _)=>K (.bool true) s
  | .neq,some (.slice _)=>K (.bool false) s
  | _,_=>False
 | a,b=>BK P op t y a b (fun r=>K r s)
theorem Gt {op:BinOp} {t t':TypeId} {x y:Operand} (ho:o.op=.binOp op t x y t') (hx:au x) (hy:au y)
  (h:Gs P op t y (s.ev x) (s.ev y) s K):aT P w0 T0 o s K:=by
 unfold Gs at h
 split at h
 ·rename_i i ex ey
  split at h
  ·rename_i e r hi
   refine aT.pure fun H a w m hm=>?_
   obtain ⟨k,cells,hr,hkn,how,hO⟩:=(hm.rows i _ hi).2
   have rx:=hm.ev x hx
   have ry:=hm.ev y hy
   rw [ex] at rx
   rw [ey] at ry
   generalize hvx:a.eval x=vx at rx
   generalize hvy:a.eval y=vy at ry
   cases ry
   cases rx with
   | own _ hin hone=>
    rw [show (aA T0 w0.heap.size m s w).m i=m i from rfl] at hvx
    split at h
    ·rename_i e' ht
     obtain ⟨hpos,hk⟩:=h
     rcases how.2 with ⟨hv,hz⟩|⟨g,cap,cur,fz,hv,_⟩
     ·omega
     rw [hv] at hvx
     have hr:(binOp .eql t (a.eval x) (a.eval y)).run P w=.ok (.bool false) w:=by rw [hvx,hvy];exact Lib.run_eql_slice_nil w _ _ (some ⟨g,0,none⟩) k cap 0 0 ht
     exact ⟨_,_,hk,lq .eql t t' x y ho a.eval w _ (by rw [hvx];simp) (by rw [hvx];simp) hr,.bool _⟩
    ·rename_i e' ht
     obtain ⟨hpos,hk⟩:=h
     rcases how.2 with ⟨hv,hz⟩|⟨g,cap,cur,fz,hv,_⟩
     ·omega
     rw [hv] at hvx
     have hr:(binOp .neq t (a.eval x) (a.eval y)).run P w=.ok (.bool true) w:=by rw [hvx,hvy];exact run_neq_slice_nil_any w _ _ (some ⟨g,0,none⟩) k cap 0 0 ht
     exact ⟨_,_,hk,lq .neq t t' x y ho a.eval w _ (by rw [hvx];simp) (by rw [hvx];simp) hr,.bool _⟩
    ·exact h.elim
  ·exact h.elim
 ·rename_i ex ey
  refine aT.pure fun H a w m hm=>?_
  have rx:=hm.ev x hx
  have ry:=hm.ev y hy
  rw [ex] at rx
  rw [ey] at ry
  generalize hvx:a.eval x=vx at rx
  generalize hvy:a.eval y=vy at ry
  cases ry
  cases rx
  split at h
  ·rename_i e' ht
   have hr:(binOp .eql t (a.eval x) (a.eval y)).run P w=.ok (.bool true) w:=by rw [hvx,hvy];exact Lib.run_eql_slice_nil w _ _ none 0 0 0 0 ht
   exact ⟨_,_,h,lq .eql t t' x y ho a.eval w _ (by rw [hvx];simp) (by rw [hvx];simp) hr,.bool _⟩
  ·rename_i e' ht
   have hr:(binOp .neq t (a.eval x) (a.eval y)).run P w=.ok (.bool false) w:=by rw [hvx,hvy];exact run_neq_slice_nil_any w _ _ none 0 0 0 0 ht
   exact ⟨_,_,h,lq .neq t t' x y ho a.eval w _ (by rw [hvx];simp) (by rw [hvx];simp) hr,.bool _⟩
  ·exact h.elim
 ·exact Gp ho hx hy h
end
end Go.Fv
/-
 Regions, code, loops, calls, contracts.
-/
namespace Go.Fv
open Go.RowKit
def Enter (P:Program) (f:Nat):Prop:=∃ fn,P.funcs[f]?=some fn∧fn.body.isNone=false∧(fn.name == "runtime.NumGoroutine")=false
class Yk where
 q:Exit→S→Prop
class Yh where
 k:AV→S→Prop
class Yl where
 k:S→Prop
def aj (P:Program) (w0:World) (T0:Bs) (f:Nat) (args:List AV) (s:S) [K:Yh]:Prop:=
 Enter P f∧∀ (H:List (AV × Value)) (a:Act) (w:World) (m:Nat→Value) (vals:List Value),bC w0 T0 H s a w m→dH (aA T0 w0.heap.size m s w) args vals →
  Calls P f vals.toArray w fun e w'=>∃ v,e=.returned v∧∃ r s',K.k r s'∧Rep w0 T0 ((r,v)::H) s' a w'
def zS (b0:Nat) (H:List (AV × Value)):Prop:=∀ p,p∈H→below b0 p.1=true
def aJ (P:Program) (w0:World) (T0:Bs) (b0:Nat) (c:Code) (s:S) [Q:Yk]:Prop:=
 ∀ (H:List (AV × Value)) (a:Act) (w:World),zS b0 H→Rep w0 T0 H s a w→(Code.loop c).wp P (fun e a' w'=>∃ s',Q.q e s'∧Rep w0 T0 H s' a' w') a w
def aP (P:Program) (w0:World) (T0:Bs) (b0:Nat) (id:Nat) (ops:Array Oper) (s:S) [Q:Yl]:Prop:=
 ∀ (H:List (AV × Value)) (a:Act) (w:World),zS b0 H→Rep w0 T0 H s a w→(Code.region id ops true).wp P (fun e a' w'=>e=.normal∧∃ s',Q.k s'∧Rep w0 T0 H s' a' w') a w
@[congr] theorem S9 {P:Program} {w0:World} {T0:Bs} {f:Nat} {args args':List AV} {s s':S} {K:Yh} (h:args=args') (h2:s=s'):@aj P w0 T0 f args s K=@aj P w0 T0 f args' s' K:=by rw [h,h2]
@[congr] theorem Tf {P:Program} {w0:World} {T0:Bs} {b0:Nat} {c:Code} {s s':S} {Q:Yk} (h:s=s'):@aJ P w0 T0 b0 c s Q=@aJ P w0 T0 b0 c s' Q:=by rw [h]
@[congr] theorem Tc {P:Program} {w0:World} {T0:Bs} {b0 id:Nat} {ops:Array Oper} {s s':S} {Q:Yl} (h:s=s'):@aP P w0 T0 b0 id ops s Q=@aP P w0 T0 b0 id ops s' Q:=by rw [h]
def mP (P:Program) (w0:World) (T0:Bs) (c:Call) (s:S) (K:AV→S→Prop):Prop:=
 match c.callee with
 | .builtin .append=>match c.args.toList,c.argTypes.toList with
  | [x,y],[t,t2]=>aZ (au x) (lU P t t2 x y s K)
  | _,_=>False
 | .builtin .len=>match c.args.toList,c.argTypes.toList with
  | [x],[t]=>aZ (au x) (JB P t x s K)
  | _,_=>False
 | .builtin .unsafeSliceData=>match c.args.toList,c.argTypes.toList with
  | [x],[_]=>aZ (au x) (wV x s K)
  | _,_=>False
 | .builtin .cap=>match c.args.toList,c.argTypes.toList with
  | [x],[t]=>aZ (au x) (Gw P t x s K)
  | _,_=>False
 | .builtin .copy=>match c.args.toList,c.argTypes.toList with
  | [x,y],[t,t2]=>Gz P t t2 x y s K
  | _,_=>False
 | .invoke r name=>match s.ev r with
  | .ifc t v=>match U9 P t name with
   | some f=>aZ ((au r∧∀ x,x∈c.args.toList→au x)∧WJ P t name f) (@aj P w0 T0 f (v::evs s c.args.toList) s ⟨K⟩)
   | none=>False
  | _=>False
 | .builtin .clear=>match c.args.toList,c.argTypes.toList with
  | [x],[t]=>aZ (au x) (zK P t x s K)
  | _,_=>False
 | .builtin .unsafeString=>match c.args.toList,c.argTypes.toList with
  | [x,n],[pt,_]=>aZ (au x∧au n) (G5 P pt x n s K)
  | _,_=>False
 | .builtin .min=>aZ (∀ x,x∈c.args.toList→au x) (JE false (evs s c.args.toList) (fun r=>K r s))
 | .builtin .max=>aZ (∀ x,x∈c.args.toList→au x) (JE true (evs s c.args.toList) (fun r=>K r s))
 | .value g=>match s.ev g with
  | .fn f caps=>aZ (au g∧∀ x,x∈c.args.toList→au x) (@aj P w0 T0 f (evs s c.args.toList++caps) s ⟨K⟩)
  | _=>False
 | _=>False
def qw (P:Program) (w0:World) (T0:Bs) (o:Oper) (s:S) (K:AV→S→Prop):Prop:=
 match o.op with
 | .move x=>uY P o.type x s K
 | .assign x=>uY P o.type x s K
 | .pick c x y=>aZ (au c) (Cb c x y s K)
 | .extract x i=>aZ (au x) (jM x i s K)
 | .makeFunc fn first caps=>iT fn first caps s K
 | .box e x=>EF e x s K
 | .alloc e=>sO P e s K
 | .load t x=>match x with
  | .global g=>LG P t g s K
  | x=>aZ (au x) (BN P t x s K)
 | .store t x v=>aZ (au x) (sV P t x v s K)
 | .nilCheck x=>aZ (au x) (BX x s K)
 | .fieldAddr t x k=>aZ (au x) (iw P t x k s K)
 | .indexAddr t x i=>aZ (au x∧au i) (kJ P t x i s K)
 | .makeSlice t l c=>aZ (au l∧au c) (yc P t l c s K)
 | .binOp op t x y _=>aZ (au x∧au y) (Gs P op t y (s.ev x) (s.ev y) s K)
 | .call c=>mP P w0 T0 c s K
 | .makeInterface t x=>wS P t x s K
 | .unOp op _ x=>aZ (au x) (LM op x s K)
 | .convert a b x=>aZ (au x) (sQ P a b x s K)
 | .index t x i=>aZ (au x∧au i) (wP P t x i s K)
 | .field t x k=>aZ (au x) (wL P t x k s K)
 | .slice t x lo hi mx=>aZ (au x) (wW P t x lo hi mx s K)
 | .buildSlice t len parts=>iG P t len parts s K
 | .build t parts=>pW P t parts s K
 | .lookup t x i ok=>rQ P t x i ok s K
 | .makeMap t r=>oU P t r s K
 | .mapUpdate t x k v=>oW P t x k v s K
 | .mapEntry t x k=>oV P t x k s K
 | .entryStore _ x st v=>jL x st v s K
 | .range t x=>sS P t x s K
 | .next x str=>GU x str s K
 | .entry x=>zL x s K
 | _=>False
section
variable {P:Program} {w0:World} {T0:Bs} {s:S} [hG:qB P w0 T0]
theorem BL {o:Oper} {K:AV→S→Prop} {c:Call} (ho:o.op=.call c) (h:mP P w0 T0 c s K):aT P w0 T0 o s K:=by
 obtain ⟨callee,args,argTypes⟩:=c
 unfold mP at h
 cases callee with
 | builtin b=>
  cases b<;>try (exact h.elim)
  case append=>
   dsimp only at h
   split at h
   ·rename_i x y t t2 e1 e2
    obtain ⟨hx,h⟩:=h
    have e1':args=#[x,y]:=by apply Array.ext';simpa using e1
    have e2':argTypes=#[t,t2]:=by apply Array.ext';simpa using e2
    subst e1' e2'
    exact y8 ho hx h
   ·exact h.elim
  case copy=>
   dsimp only at h
   split at h
   ·rename_i x y t t2 e1 e2
    have e1':args=#[x,y]:=by apply Array.ext';simpa using e1
    have e2':argTypes=#[t,t2]:=by apply Array.ext';simpa using e2
    subst e1' e2'
    exact GH ho h
   ·exact h.elim
  case clear=>
   dsimp only at h
   split at h
   ·rename_i x t e1 e2
    obtain ⟨hx,h⟩:=h
    have e1':args=#[x]:=by apply Array.ext';simpa using e1
    have e2':argTypes=#[t]:=by apply Array.ext';simpa using e2
    subst e1' e2'
    exact Di ho hx h
   ·exact h.elim
  case len=>
   dsimp only at h
   split at h
   ·rename_i x t e1 e2
    obtain ⟨hx,h⟩:=h
    have e1':args=#[x]:=by apply Array.ext';simpa using e1
    have e2':argTypes=#[t]:=by apply Array.ext';simpa using e2
    subst e1' e2'
    exact JC ho hx h
   ·exact h.elim
  case unsafeSliceData=>
   dsimp only at h
   split at h
   ·rename_i x t e1 e2
    obtain ⟨hx,h⟩:=h
    have e1':args=#[x]:=by apply Array.ext';simpa using e1
    have e2':argTypes=#[t]:=by apply Array.ext';simpa using e2
    subst e1' e2'
    exact Cc ho hx h
   ·exact h.elim
  case cap=>
   dsimp only at h
   split at h
   ·rename_i x t e1 e2
    obtain ⟨hx,h⟩:=h
    have e1':args=#[x]:=by apply Array.ext';simpa using e1
    have e2':argTypes=#[t]:=by apply Array.ext';simpa using e2
    subst e1' e2'
    exact Gx ho hx h
   ·exact h.elim
  case unsafeString=>
   dsimp only at h
   split at h
   ·rename_i x n pt it e1 e2
    obtain ⟨⟨hx,hn⟩,h⟩:=h
    have e1':args=#[x,n]:=by apply Array.ext';simpa using e1
    have e2':argTypes=#[pt,it]:=by apply Array.ext';simpa using e2
    subst e1' e2'
    exact G6 ho hx hn h
   ·exact h.elim
  case min=>exact BQ (isMax:=false) ho h.1 h.2
  case max=>exact BQ (isMax:=true) ho h.1 h.2
 | invoke g name=>
  dsimp only at h
  intro H a w next Q ⟨m,hm⟩ hn
  cases hg:s.ev g with
  | ifc t v=>
   rw [hg] at h
   dsimp only at h
   cases hf0:U9 P t name with
   | none=>rw [hf0] at h;exact h.elim
   | some f=>
    rw [hf0] at h
    obtain ⟨⟨⟨hog,hoa⟩,hmo⟩,⟨fn,hf,hb,hnm⟩,h⟩:=h
    have rg:=hm.ev g hog
    rw [hg] at rg
    generalize hvg:a.eval g=vg at rg
    cases rg with
    | ifc _ _ u hu=>
     have hcalls:=h H a w m _ hm (dH.cons _ _ _ _ hu (hm.evs hoa))
     have hrun:(execOp a.eval o).run P w=.ok (.enter f ((u::args.toList.map a.eval).toArray)) w:=by
      unfold execOp;rw [ho]
      have e:(#[u]++Array.map a.eval args)=(u::args.toList.map a.eval).toArray:=by
       apply Array.ext';simp
      have e2:(#[Value.iface t u]++Array.map a.eval args).extract 1 (#[Value.iface t u]++Array.map a.eval args).size=Array.map a.eval args:=by
       apply Array.ext';simp
       exact List.take_of_length_le (by simp)
      have e3:(#[Value.iface t u]++Array.map a.eval args)[0]?=some (.iface t u):=by rw [Array.getElem?_append_left (by simp)];rfl
      have hnm':¬fn.name = "runtime.NumGoroutine" := by simpa using hnm
      have hb':¬fn.body=none:=by intro e4;rw [e4] at hb;cases hb
      simp only [resolve,hvg,invoke,Sem.run_bind,Sem.run_pure,Result.andThen,e3,e2,callMethod]
      simp [hmo u w,callFunc,hf,hb',hnm',e]
     unfold Oper.wp
     rw [hrun]
     refine Calls.mono hcalls ?_
     rintro e w' ⟨v,rfl,r,s',hk,hr⟩
     exact hn r s' v w' hk hr
  | _=>rw [hg] at h;exact h.elim
 | value g=>
  dsimp only at h
  intro H a w next Q ⟨m,hm⟩ hn
  cases hg:s.ev g with
  | fn f caps=>
   rw [hg] at h
   obtain ⟨⟨hog,hoa⟩,⟨fn,hf,hb,hnm⟩,h⟩:=h
   have rg:=hm.ev g hog
   rw [hg] at rg
   generalize hvg:a.eval g=vg at rg
   cases rg with
   | fn _ _ cvals hc=>
    have hargs:=(hm.evs hoa).append hc
    have hcalls:=h H a w m _ hm hargs
    have hrun:(execOp a.eval o).run P w=.ok (.enter f ((args.toList.map a.eval++cvals).toArray)) w:=by
     unfold execOp;rw [ho]
     have e:(Array.map a.eval args++cvals.toArray)=(args.toList.map a.eval++cvals).toArray:=by
      apply Array.ext';simp
     have hnm':¬fn.name = "runtime.NumGoroutine" := by simpa using hnm
     have hb':¬fn.body=none:=by intro e;simp [e] at hb
     simp [resolve,hvg,Deferred.ofValue,invoke,callFunc,hf,hb',hnm',e]
    unfold Oper.wp
    rw [hrun]
    refine Calls.mono hcalls ?_
    rintro e w' ⟨v,rfl,r,s',hk,hr⟩
    exact hn r s' v w' hk hr
  | _=>rw [hg] at h;exact h.elim
theorem mQ {o:Oper} {K:AV→S→Prop} (h:qw P w0 T0 o s K):aT P w0 T0 o s K:=by
 unfold qw at h
 cases ho:o.op<;>rw [ho] at h<;>try (exact h.elim)
 case move x=>exact wU (.inl ho) h
 case assign x=>exact wU (.inr ho) h
 case pick c x y=>exact GX ho h.1 h.2
 case extract x i=>exact y9 ho h.1 h.2
 case makeFunc fn first caps=>exact yg ho h
 case box e x=>exact JA ho h
 case alloc e=>exact Dc ho h
 case load t x=>
  cases x with
  | global g=>exact (GI ho h).op
  | _=>exact GL ho h.1 h.2
 case store t x v=>exact Dy ho h.1 h.2
 case nilCheck x=>exact JF ho h.1 h.2
 case fieldAddr t x k=>exact wM ho h.1 h.2
 case indexAddr t x i=>exact wQ ho h.1.1 h.1.2 h.2
 case makeSlice t l c=>exact GR ho h.1.1 h.1.2 h.2
 case binOp op t x y t'=>exact Gt ho h.1.1 h.1.2 h.2
 case call c=>exact BL ho h
 case makeInterface t x=>exact Dv ho h
 case unOp op t x=>exact LP ho h.1 h.2
 case convert t t' x=>exact Dj ho h.1 h.2
 case index t x i=>exact Dt ho h.1.1 h.1.2 h.2
 case field t x k=>exact Dl ho h.1 h.2
 case slice t x lo hi mx=>exact Ce ho h.1 h.2
 case buildSlice t len parts=>exact uX ho h
 case build t parts=>exact Df ho h
 case lookup t x i ok=>exact BO ho h
 case makeMap t r=>exact zh ho h
 case mapUpdate t x k v=>exact BU ho h
 case mapEntry t x k=>exact BR ho h
 case entryStore t x st v=>exact x9 ho h
 case range t x=>exact Dx ho h
 case next x str=>exact GV ho h
 case entry x=>exact Dk ho h
end
def gU (d:Option Nat) (v:AV) (s:S) (Q:S→Prop):Prop:=
 match d with
 | none=>Q s
 | some d=>if d<s.n then Q (s.set d v) else False
def uM:Op→Prop
 | .pick c x y=>au c∧au x∧au y
 | _=>False
def uZ (P:Program) (w0:World) (T0:Bs) (o:Oper) (c:Bool) (s s1 s2:S) (k:S→Prop):Prop:=
 match vS s o.op with
 | some (pre,b)=>aZ (c=true→pre∧uM o.op) (gU o.dst (.opt c (.bool b)) s k)
 | none=>match TY P (peel s (Kv o.op)) o.op with
  | some v=>aZ (Fv.below s.next v=true) (aZ (c=true→fD s (Kv o.op)=true∧qw P w0 T0 o (peel s (Kv o.op)) (fun r s'=>r=v∧s'=peel s (Kv o.op))) (gU o.dst (.opt c v) s k))
  | none=>@Ite c ⟨aZ (fD s1 (Kv o.op)=true) (qw P w0 T0 o (peel s1 (Kv o.op)) (fun v s'=>gU o.dst v s' k))⟩ ⟨gU o.dst (.opt false (.bool false)) s2 k⟩
def LH (P:Program) (w0:World) (T0:Bs) (ops:Array Oper) (o:Oper) (s:S) (k:S→Prop):Prop:=
 match o.guard with
 | none=>match vS s o.op with
  | some (pre,b)=>aZ (pre∧uM o.op) (gU o.dst (.bool b) s k)
  | none=>qw P w0 T0 o s (fun v s'=>gU o.dst v s' k)
 | some (j,want)=>match (ops[j]?).bind (·.dst) with
  | some r=>match s.get r with
   | .bool b=>uZ P w0 T0 o (bif want then b else !b) s (s.set r (.bool want)) (s.set r (.bool (!want))) k
   | .opt c (.bool b)=>uZ P w0 T0 o (c && bif want then b else !b) s s s k
   | _=>False
  | none=>False
def BZ (P:Program) (w0:World) (T0:Bs) (ops:Array Oper):List Oper→S→(S→Prop)→Prop
 | [],s,Q=>Q s
 | o::rest,s,Q=>LH P w0 T0 ops o s (fun s'=>BZ P w0 T0 ops rest s' Q)
section
variable {P:Program} {w0:World} {T0:Bs} {H:List (AV × Value)} [hG:qB P w0 T0]
theorem Rep.put {s:S} {a:Act} {w:World} {r:AV} {v:Value} {d:Option Nat} {Q:S→Prop} (h:Rep w0 T0 ((r,v)::H) s a w) (hq:gU d r s Q):∃ s',Q s'∧Rep w0 T0 H s' (a.put d v) w:=by
 obtain ⟨m,hm⟩:=h
 cases d with
 | none=>exact ⟨s,hq,m,hm.mO⟩
 | some d=>
  simp only [gU] at hq
  split at hq
  ·rename_i hd;exact ⟨_,hq,m,hm.mO.VZ (hm.held _ (.head _)) hd⟩
  ·exact hq.elim
theorem bC.know {s:S} {a:Act} {w:World} {m:Nat→Value} (h:bC w0 T0 H s a w m) {r:Nat} {x:AV} (hx:Rv (aA T0 w0.heap.size m s w) x (a.tmps.getD r undef)):bC w0 T0 H (s.set r x) a w m:=
 {size:=h.size,nodef:=h.nodef,below:=h.below,held:=h.held,rows:=h.rows,sep:=h.sep,
  env:=by
   intro q y hy
   have hy':(if r=q then some x else lk s.env q)=some y:=hy
   split at hy'
   ·rename_i e;subst e;cases hy';exact hx
   ·exact h.env q y hy' }
theorem qQ {s:S} {a:Act} {w:World} {o:Oper} {pre:Prop} {b:Bool} (h:vS s o.op=some (pre,b)) (hp:pre) (hok:uM o.op) (hr:Rep w0 T0 H s a w):(execOp a.eval o).run P w=.ok (.value (.bool b)) w:=by
 obtain ⟨m,hm⟩:=hr
 unfold vS at h
 cases ho:o.op<;>rw [ho] at h hok<;>try (cases h;done)
 rename_i c x y
 obtain ⟨h1,h2,h3⟩:=hok
 dsimp only at h
 split at h
 ·rename_i bc p q ec ex ey
  cases h
  obtain ⟨k1,k2,k3⟩:=hp
  have rc:=Rq hm h1 k1
  rw [ec] at rc
  generalize hvc:a.eval c=vc at rc
  cases rc
  have hrun:(execOp a.eval o).run P w=.ok (.value (if bc then a.eval x else a.eval y)) w:=by
   unfold execOp;rw [ho];simp [hvc,asBool,Sem.run_bind,Result.andThen]
  cases bc with
  | true=>
   have rx:=Rq hm h2 (k2 rfl)
   rw [ex] at rx
   generalize hvx:a.eval x=vx at rx hrun
   cases rx
   simpa using hrun
  | false=>
   have ry:=Rq hm h3 (k3 rfl)
   rw [ey] at ry
   generalize hvy:a.eval y=vy at ry hrun
   cases ry
   simpa using hrun
 ·cases h
theorem wX {o:Oper} {c:Bool} {s s1 s2:S} {k:S→Prop} (h:uZ P w0 T0 o c s s1 s2 k) {a:Act} {w:World} (hr:Rep w0 T0 H s a w) {W:Bool} (hW:W=c) (hr1:c=true→Rep w0 T0 H s1 a w) (hr2:c=false→Rep w0 T0 H s2 a w) {K:Act→World→Prop} {Qc:Exit→Act→World→Prop}
  (hk:∀ s' a' w',k s'→Rep w0 T0 H s' a' w'→K a' w'):if W=true then o.wp P a w K Qc else K (a.put o.dst undef) w:=by
 subst hW
 unfold uZ at h
 have skip:W=false→∀ (v:AV) (s:S),Rep w0 T0 H s a w→(∀ c,Rv c v undef)→gU o.dst v s k→K (a.put o.dst undef) w:=by
  intro _ v s hr hv hp
  obtain ⟨m,hm⟩:=hr
  obtain ⟨s'',h2,hr2⟩:=Rep.put (v:=undef) (⟨m,hm.hold (hv _)⟩:Rep w0 T0 ((v,undef)::H) s a w) hp
  exact hk _ _ _ h2 hr2
 split at h
 ·rename_i pre b hg
  obtain ⟨hpre,hput⟩:=h
  cases W with
  | true=>
   simp only [if_true]
   obtain ⟨hp,hok⟩:=hpre rfl
   have hrun:=qQ (P:=P) hg hp hok hr
   unfold Oper.wp
   rw [hrun]
   obtain ⟨m,hm⟩:=hr
   obtain ⟨s'',h2,hr2⟩:=Rep.put (v:=.bool b) (⟨m,hm.hold (.opt true (.bool b) (.bool b) rfl (fun _=>.bool b) (fun e=>by cases e))⟩:Rep w0 T0 ((.opt true (.bool b),.bool b)::H) s a w) hput
   exact hk _ _ _ h2 hr2
  | false=>
   simp only [Bool.false_eq_true,if_false]
   exact skip rfl _ s hr (fun _=>.opt false _ _ rfl (fun e=>by cases e) (fun _=>rfl)) hput
 ·split at h
  ·rename_i v hv
   obtain ⟨hb,hpre,hput⟩:=h
   cases W with
   | true=>
    simp only [if_true]
    obtain ⟨hpc,hop⟩:=hpre rfl
    obtain ⟨m,hm⟩:=hr
    refine mQ hop H a w _ _ ⟨m,hm.peel hpc⟩ ?_
    rintro r s' v' w' ⟨rfl,rfl⟩ ⟨m',hm'⟩
    have hv':=hm'.held _ (.head _)
    have hm2:=hm'.mO.Wi hpc
    obtain ⟨s'',h2,hr2⟩:=Rep.put (v:=v') (⟨m',hm2.hold (.opt true r v' hb (fun _=>hv') (fun e=>by cases e))⟩:Rep w0 T0 ((.opt true r,v')::H) s a w') hput
    exact hk _ _ _ h2 hr2
   | false=>
    simp only [Bool.false_eq_true,if_false]
    obtain ⟨m,hm⟩:=hr
    obtain ⟨s'',h2,hr2⟩:=Rep.put (v:=undef) (⟨m,hm.hold (.opt false v undef hb (fun e=>by cases e) (fun _=>rfl))⟩:Rep w0 T0 ((.opt false v,undef)::H) s a w) hput
    exact hk _ _ _ h2 hr2
  ·cases W with
   | true=>
    simp only [if_true]
    obtain ⟨hpc,hop⟩:=h.1 rfl
    obtain ⟨m1,hm1⟩:=hr1 rfl
    refine mQ hop H a w _ _ ⟨m1,hm1.peel hpc⟩ ?_
    intro r s' v w' hk' hr'
    obtain ⟨s'',h2,hr2⟩:=hr'.put hk'
    exact hk _ _ _ h2 hr2
   | false=>
    simp only [Bool.false_eq_true,if_false]
    exact skip rfl _ s2 (hr2 rfl) (fun _=>.opt false _ _ rfl (fun e=>by cases e) (fun _=>rfl)) (h.2 rfl)
theorem BM {ops:Array Oper} {o:Oper} {s:S} {k:S→Prop} (h:LH P w0 T0 ops o s k) {a:Act} {w:World} (hr:Rep w0 T0 H s a w) {K:Act→World→Prop} {Qc:Exit→Act→World→Prop}
  (hk:∀ s' a' w',k s'→Rep w0 T0 H s' a' w'→K a' w'):if Region.wanted o (yielded ops a.tmps) then o.wp P a w K Qc else K (a.put o.dst undef) w:=by
 unfold LH at h
 cases hg:o.guard with
 | none=>
  rw [hg] at h
  rw [if_pos (by simp [Region.wanted,hg])]
  dsimp only at h
  split at h
  ·rename_i pre b hgp
   obtain ⟨⟨hp,hok⟩,hput⟩:=h
   have hrun:=qQ (P:=P) hgp hp hok hr
   unfold Oper.wp
   rw [hrun]
   obtain ⟨m,hm⟩:=hr
   obtain ⟨s'',h2,hr2⟩:=Rep.put (v:=.bool b) (⟨m,hm.hold (.bool b)⟩:Rep w0 T0 ((.bool b,.bool b)::H) s a w) hput
   exact hk _ _ _ h2 hr2
  ·refine mQ h H a w _ _ hr ?_
   intro r s' v w' hk' hr'
   obtain ⟨s'',h2,hr2⟩:=hr'.put hk'
   exact hk _ _ _ h2 hr2
 | some jw=>
  obtain ⟨j,want⟩:=jw
  rw [hg] at h
  dsimp only at h
  cases hd:(ops[j]?).bind (·.dst) with
  | none=>rw [hd] at h;exact h.elim
  | some r=>
   rw [hd] at h
   dsimp only at h
   have hslot:∀ x,s.get r=x→x≠.dead→lk s.env r=some x:=by
    intro x hx hne
    simp only [S.get] at hx
    cases hl:lk s.env r with
    | none=>rw [hl] at hx;exact absurd hx.symm hne
    | some y=>rw [hl] at hx;exact congrArg some hx
   have hyield:∀ b,a.tmps.getD r undef=.bool b→yielded ops a.tmps j=some b:=by
    intro b hvv
    have h1:a.tmps[r]?=some (.bool b):=by
     rw [Array.getD_eq_getD_getElem?] at hvv
     cases hq:a.tmps[r]? with
     | none=>rw [hq] at hvv;simp [undef] at hvv
     | some y=>rw [hq] at hvv;simpa using hvv
    simp [yielded,hd,h1]
   have hyno:a.tmps.getD r undef=undef→yielded ops a.tmps j=none:=by
    intro hvv
    cases hq:a.tmps[r]? with
    | none=>simp [yielded,hd,hq]
    | some y=>
     rw [Array.getD_eq_getD_getElem?,hq] at hvv
     have:y=undef:=by simpa using hvv
     subst this
     simp [yielded,hd,hq,undef]
   split at h
   ·rename_i b hb
    have hl:=hslot _ hb (by simp)
    obtain ⟨m,hm⟩:=hr
    have hv:=hm.env r _ hl
    generalize hvv:a.tmps.getD r undef=vv at hv
    cases hv
    have hy:=hyield b hvv
    refine wX h ⟨m,hm⟩ ?_ ?_ ?_ hk
    ·cases want<;>cases b<;>simp [Region.wanted,hg,hy]
    ·intro hc
     refine ⟨m,hm.know ?_⟩
     rw [hvv]
     have:b=want:=by cases want<;>cases b<;>simp at hc<;>rfl
     rw [this];exact .bool want
    ·intro hc
     refine ⟨m,hm.know ?_⟩
     rw [hvv]
     have:b=!want:=by cases want<;>cases b<;>simp at hc<;>rfl
     rw [this];exact .bool _
   ·rename_i c b hb
    have hl:=hslot _ hb (by simp)
    have hr':=hr
    obtain ⟨m,hm⟩:=hr'
    have hv:=hm.env r _ hl
    refine wX h hr ?_ (fun _=>hr) (fun _=>hr) hk
    cases hv with
    | opt _ _ _ _ h1 h2=>
     cases c with
     | true=>
      have h1':=h1 rfl
      generalize hvv:a.tmps.getD r undef=vv at h1'
      cases h1'
      have hy:=hyield b hvv
      cases want<;>cases b<;>simp [Region.wanted,hg,hy]
     | false=>
      have hy:=hyno (h2 rfl)
      cases want<;>simp [Region.wanted,hg,hy]
   ·exact h.elim
theorem yX {ops:Array Oper} {Qc:Exit→Act→World→Prop}:∀ (l:List Oper) (s:S) (Q:S→Prop),BZ P w0 T0 ops l s Q→∀ (a:Act) (w:World),Rep w0 T0 H s a w →
  (∀ s' a' w',Q s'→Rep w0 T0 H s' a' w'→Qc .normal a' w')→wpList P ops Qc l a w
 | [],s,Q,h,a,w,hr,hq=>wpList_nil (hq s a w h hr)
 | o::rest,s,Q,h,a,w,hr,hq=>by
  unfold BZ at h
  refine wpList_step fun K hK=>?_
  exact BM h hr fun s' a' w' hk hr'=>hK _ _ (yX rest s' Q hk a' w' hr' hq)
end
/-! ### Regions whose order is drawn -/
inductive yt where
 | done
 | first (i:Nat) (t:yt)
 | cons (i:Nat) (t r:yt)
 | stop
def KD (o:Oper):Bool:=match o.guard,o.op with
 | none,.move _=>true
 | none,.assign _=>true
 | none,.fieldAddr _ _ _=>true
 | _,_=>false
def fP (ops:Array Oper):yt→Nat→Array Bool→Option (List Nat)→Bool
 | .done,_,listed,none=>(Region.ready .any ops listed).isEmpty
 | .first i t,n+1,listed,none=>((ops[i]?).map KD).getD false && Region.free .any ops listed i && (Region.ready .any ops listed).contains i && fP ops t n (listed.setIfInBounds i true) none
 | .cons i t r,n+1,listed,none=>match Region.ready .any ops listed with
  | j::l=>i == j && fP ops t n (listed.setIfInBounds i true) none && fP ops r (n+1) listed (some l)
  | []=>false
 | .cons i t r,n+1,listed,some q=>match q with
  | j::l=>i == j && fP ops t n (listed.setIfInBounds i true) none && fP ops r (n+1) listed (some l)
  | []=>false
 | .stop,_+1,_,some q=>q.isEmpty
 | _,_,_,_=>false
def jB (P:Program) (w0:World) (T0:Bs) (ops:Array Oper):yt→S→(S→Prop)→Prop
 | .done,s,Q=>Q s
 | .first i t,s,Q=>match ops[i]? with
  | some o=>match o.op with
   | .move x=>aZ (au x) (gU o.dst (s.ev x) s (fun s'=>jB P w0 T0 ops t s' Q))
   | .assign x=>aZ (au x) (gU o.dst (s.ev x) s (fun s'=>jB P w0 T0 ops t s' Q))
   | .fieldAddr ty x k=>aZ (au x) (iw P ty x k s (fun r s1=>gU o.dst r s1 (fun s'=>jB P w0 T0 ops t s' Q)))
   | _=>False
  | none=>False
 | .cons i t r,s,Q=>match ops[i]? with
  | some o=>LH P w0 T0 ops o s (fun s'=>jB P w0 T0 ops t s' Q)∧jB P w0 T0 ops r s Q
  | none=>False
 | .stop,_,_=>True
def thenS (next:S→Prop) (Q:Exit→S→Prop):Exit→S→Prop
 | .normal,s=>next s
 | e,s=>Q e s
def Ac (id:Nat) (Q:Exit→S→Prop):Exit→S→Prop
 | .exit i,s=>if i=id then Q .normal s else Q (.exit i) s
 | e,s=>Q e s
def MX (c:Operand) (b:Bool) (s:S):S:=
 match c with
 | .tmp t=>s.set t (.bool b)
 | _=>s
def RZ (Q:Exit→S→Prop):Exit→S→Prop
 | .goto _,_=>False
 | e,s=>Q e s
def iI (P:Program) (w0:World) (T0:Bs) (b0:Nat):Code→(Exit→S→Prop)→S→Prop
 | .skip,Q,s=>Q .normal s
 | .label _,Q,s=>Q .normal s
 | .region id ops draw,Q,s=>match draw with
  | true=>@aP P w0 T0 b0 id ops s ⟨Q .normal⟩
  | false=>BZ P w0 T0 ops ops.toList s (Q .normal)
 | .seq x y,Q,s=>iI P w0 T0 b0 x (thenS (iI P w0 T0 b0 y Q) Q) s
 | .cond c x y,Q,s=>match s.ev c with
  | .bool b=>aZ (au c) (@Ite b ⟨iI P w0 T0 b0 x Q (MX c true s)⟩ ⟨iI P w0 T0 b0 y Q (MX c false s)⟩)
  | _=>False
 | .block id c,Q,s=>iI P w0 T0 b0 c (Ac id Q) s
 | .loop c,Q,s=>@aJ P w0 T0 b0 c s ⟨Q⟩
 | .exit id,Q,s=>Q (.exit id) s
 | .ret,Q,s=>Q .ret s
 | .scope c,Q,s=>iI P w0 T0 b0 c (RZ Q) s
 | _,_,_=>False
section
variable {P:Program} {w0:World} {T0:Bs} {b0:Nat} [hG:qB P w0 T0]
theorem pX:∀ (c:Code) (Q:Exit→S→Prop) (s:S),iI P w0 T0 b0 c Q s→∀ (H:List (AV × Value)) (a:Act) (w:World),zS b0 H→Rep w0 T0 H s a w →
  c.wp P (fun e a' w'=>∃ s',Q e s'∧Rep w0 T0 H s' a' w') a w:=by
 intro c
 induction c with
 | skip=>intro Q s h H a w hH hr;exact wp_skip ⟨s,h,hr⟩
 | label l=>intro Q s h H a w hH hr;exact wp_label ⟨s,h,hr⟩
 | region id ops draw=>
  intro Q s h H a w hH hr
  cases draw with
  | true=>
   exact wp_mono (h H a w hH hr) fun e a' w' ⟨he,s',hq,hr'⟩=>by subst he;exact ⟨s',hq,hr'⟩
  | false=>
   exact wp_region_list (yX ops.toList s (Q .normal) h a w hr fun s' a' w' hq hr'=>⟨s',hq,hr'⟩)
 | seq x y ihx ihy=>
  intro Q s h H a w hH hr
  refine wp_seq (wp_mono (ihx _ s h H a w hH hr) ?_)
  rintro e a' w' ⟨s',hq,hr'⟩
  cases e with
  | normal=>exact ihy Q s' hq H a' w' hH hr'
  | _=>exact ⟨s',hq,hr'⟩
 | cond c x y ihx ihy=>
  intro Q s h H a w hH hr
  simp only [iI] at h
  obtain ⟨m,hm⟩:=hr
  cases hc:s.ev c with
  | bool b=>
   rw [hc] at h
   obtain ⟨hok,h⟩:=h
   have rc:=hm.ev c hok
   rw [hc] at rc
   generalize hv:a.eval c=vc at rc
   cases rc
   have hk:Rep w0 T0 H (MX c b s) a w:=by
    cases c with
    | tmp t=>exact ⟨m,hm.know (by have:a.tmps.getD t undef=.bool b:=hv;rw [this];exact .bool b)⟩
    | _=>exact ⟨m,hm⟩
   cases b with
   | true=>exact wp_cond_true hv (ihx Q _ (h.1 rfl) H a w hH hk)
   | false=>exact wp_cond_false hv (ihy Q _ (h.2 rfl) H a w hH hk)
  | _=>rw [hc] at h;exact h.elim
 | block id c ih=>
  intro Q s h H a w hH hr
  refine wp_block (wp_mono (ih _ s h H a w hH hr) ?_)
  rintro e a' w' ⟨s',hq,hr'⟩
  cases e with
  | exit i=>
   simp only [Ac] at hq
   simp only [Exit.inBlock]
   split at hq
   ·rename_i e;rw [if_pos e];exact ⟨s',hq,hr'⟩
   ·rename_i e;rw [if_neg e];exact ⟨s',hq,hr'⟩
  | _=>exact ⟨s',hq,hr'⟩
 | loop c ih=>intro Q s h H a w hH hr;exact h H a w hH hr
 | exit id=>intro Q s h H a w hH hr;exact wp_exit ⟨s,h,hr⟩
 | ret=>intro Q s h H a w hH hr;exact wp_ret ⟨s,h,hr⟩
 | scope c ih=>
  intro Q s h H a w hH hr
  refine wp_scope_straight (wp_mono (ih _ s h H a w hH hr) ?_)
  rintro e a' w' ⟨s',hq,hr'⟩
  cases e with
  | goto l=>exact hq.elim
  | _=>exact ⟨s',hq,hr'⟩
 | _=>intro Q s h;exact h.elim
/-! ### States that say less -/
def aS (w0:World) (T0:Bs) (b0:Nat) (s s':S):Prop:=∀ (H:List (AV × Value)) (a:Act) (w:World),zS b0 H→Rep w0 T0 H s a w→Rep w0 T0 H s' a w
theorem aJ.intro {c:Code} {s:S} {Q:Exit→S→Prop} {α:Type} (shape:α→S) (I:α→Prop) (μ:α→Nat) (x0:α) (h0:aS w0 T0 b0 s (shape x0)) (hI:I x0)
  (body:∀ x,I x→iI P w0 T0 b0 c (thenS (fun s'=>∃ x',aS w0 T0 b0 s' (shape x')∧I x'∧μ x'<μ x) Q) (shape x)):@aJ P w0 T0 b0 c s ⟨Q⟩:=by
 intro H a w hH hr
 refine wp_loop_ghost (fun n a w=>∃ x,μ x=n∧I x∧Rep w0 T0 H (shape x) a w) (μ x0) ⟨x0,rfl,hI,h0 H a w hH hr⟩ ?_
 rintro n a w ⟨x,rfl,hx,hr⟩
 refine wp_mono (pX c _ _ (body x hx) H a w hH hr) ?_
 rintro e a' w' ⟨s',hq,hr'⟩
 cases e with
 | normal=>
  obtain ⟨x',he,hI',hlt⟩:=hq
  exact ⟨μ x',hlt,x',rfl,hI',he H a' w' hH hr'⟩
 | _=>exact ⟨s',hq,hr'⟩
def kR (P:Program) (w0:World) (T0:Bs) (b0:Nat) (c:Code) (s:S) (Q:Exit→S→Prop):Prop:=
 ∀ (H:List (AV × Value)) (a:Act) (w:World),zS b0 H→Rep w0 T0 H s a w→c.wp P (fun e a' w'=>∃ s',Q e s'∧Rep w0 T0 H s' a' w') a w
theorem kR.of {c:Code} {s:S} {Q:Exit→S→Prop} (h:iI P w0 T0 b0 c Q s):kR P w0 T0 b0 c s Q:=pX c Q s h
theorem kR.seq {x y:Code} {s:S} {Q:Exit→S→Prop} (h:iI P w0 T0 b0 x (thenS (fun s'=>kR P w0 T0 b0 y s' Q) Q) s):kR P w0 T0 b0 (.seq x y) s Q:=by
 intro H a w hH hr
 refine wp_seq (wp_mono (pX x _ s h H a w hH hr) ?_)
 rintro e a' w' ⟨s',hq,hr'⟩
 cases e with
 | normal=>exact hq H a' w' hH hr'
 | _=>exact ⟨s',hq,hr'⟩
theorem kR.cut {x y:Code} {s:S} {Q:Exit→S→Prop} {α:Type} (shape:α→S) (I:α→Prop) (h:kR P w0 T0 b0 x s (thenS (fun s'=>∃ z,aS w0 T0 b0 s' (shape z)∧I z) Q)) (h2:∀ z,I z→kR P w0 T0 b0 y (shape z) Q):kR P w0 T0 b0 (.seq x y) s Q:=by
 intro H a w hH hr
 refine wp_seq (wp_mono (h H a w hH hr) ?_)
 rintro e a' w' ⟨s',hq,hr'⟩
 cases e with
 | normal=>obtain ⟨z,he,hz⟩:=hq;exact h2 z hz H a' w' hH (he H a' w' hH hr')
 | _=>exact ⟨s',hq,hr'⟩
theorem kR.block {x:Code} {id:Nat} {s:S} {Q:Exit→S→Prop} (h:kR P w0 T0 b0 x s (Ac id Q)):kR P w0 T0 b0 (.block id x) s Q:=by
 intro H a w hH hr
 refine wp_block (wp_mono (h H a w hH hr) ?_)
 rintro e a' w' ⟨s',hq,hr'⟩
 cases e with
 | exit i=>
  simp only [Ac] at hq
  simp only [Exit.inBlock]
  split at hq
  ·rename_i e;rw [if_pos e];exact ⟨s',hq,hr'⟩
  ·rename_i e;rw [if_neg e];exact ⟨s',hq,hr'⟩
 | _=>exact ⟨s',hq,hr'⟩
theorem aJ.run {c:Code} {s:S} {Q:Exit→S→Prop} {α:Type} (shape:α→S) (I:α→Prop) (μ:α→Nat) (x0:α) (h0:aS w0 T0 b0 s (shape x0)) (hI:I x0)
  (body:∀ x,I x→kR P w0 T0 b0 c (shape x) (thenS (fun s'=>∃ x',aS w0 T0 b0 s' (shape x')∧I x'∧μ x'<μ x) Q)):@aJ P w0 T0 b0 c s ⟨Q⟩:=by
 intro H a w hH hr
 refine wp_loop_ghost (fun n a w=>∃ x,μ x=n∧I x∧Rep w0 T0 H (shape x) a w) (μ x0) ⟨x0,rfl,hI,h0 H a w hH hr⟩ ?_
 rintro n a w ⟨x,rfl,hx,hr⟩
 refine wp_mono (body x hx H a w hH hr) ?_
 rintro e a' w' ⟨s',hq,hr'⟩
 cases e with
 | normal=>
  obtain ⟨x',he,hI',hlt⟩:=hq
  exact ⟨μ x',hlt,x',rfl,hI',he H a' w' hH hr'⟩
 | _=>exact ⟨s',hq,hr'⟩
end
end Go.Fv
