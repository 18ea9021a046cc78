/-
  A part of the proof of the claim: walks over the program's functions and the plain laws that these need. No condition of its own.
-/
import Derived.Test.YtbdhkdcppljmnaaDoorFvPart4
import Derived.Test.YtbdhkdcppljmnaaDoorFvPart6
import Derived.Orders
import Derived.Still
import Derived.Scope
set_option linter.unusedSectionVars false
set_option linter.unusedVariables false
set_option linter.unusedSimpArgs false
set_option linter.unnecessarySimpa false
/-
 Views of an own row from a place on; append of one view onto another of the same row; clear.
-/
namespace Go.Fv
open Go.RowKit
def tN (r:au) (o:Nat) (r2:au):Option au:=match appRow (bP r 0 o) r2 with
 | some a=>appRow a (bP r (o+r2.len) r.len)
 | none=>none
theorem Ac (r:au) (a b:Nat):(bP r a b).sz=r.sz:=by cases r<;>rfl
theorem Jg {c:Ctx} {r r2 r3:au} {cells cells2:List Value} {o:Nat} (h1:aT c r cells) (h2:aT c r2 cells2) (hle:o+r2.len≤r.len) (h:tN r o r2=some r3) :
  aT c r3 (cells.take (o*r.sz)++cells2++cells.drop (o*r.sz+cells2.length))∧r3.len=r.len∧r3.sz=r.sz∧r2.sz=r.sz:=by
 unfold tN at h
 have hs1:=h1.sub 0 o
 have hs2:=h1.sub (o+r2.len) r.len
 cases ha:appRow (bP r 0 o) r2 with
 | none=>rw [ha] at h;cases h
 | some x=>
  rw [ha] at h
  obtain ⟨k1,k2,k3,k4⟩:=sQ hs1 h2 ha
  obtain ⟨q1,q2,q3,q4⟩:=sQ k1 hs2 h
  rw [Ac] at k3 k4
  have e2:cells2.length=r2.len*r.sz:=by rw [h2.len,k4]
  refine ⟨?_,?_,by rw [q3,k3],k4⟩
  ·simp only [Nat.zero_mul,List.drop_zero,Nat.sub_zero] at q1
   have e3:(List.take ((r.len - (o+r2.len))*r.sz) (List.drop ((o+r2.len)*r.sz) cells))=List.drop (o*r.sz+cells2.length) cells:=by
    rw [e2,←Nat.add_mul]
    refine List.take_of_length_le ?_
    rw [List.length_drop,h1.len,Nat.sub_mul]
    exact Nat.le_refl _
   rw [e3] at q1
   exact q1
  ·rw [q2,k2,eY _ _ _ (by omega),eY _ _ _ (Nat.le_refl _)];omega
section
variable {P:Program} {w0:World} {T0:Bs} {o:Oper} {s:S} {K:AV→S→Prop}
theorem aN.QI {H:List (AV × Value)} {a:Act} {w:World} {m:Nat→Value} (hm:aN w0 T0 H s a w m) {i:Nat} {e:TypeId} {r:au} (hi:lk s.rows i=some (.row e r)) {g n cap:Nat} {cur:Array Value} {fz:Nat × Nat} {cells:List Value}
  (hr:aT (aj T0 w0.heap.size m s w) r cells) (hn:r.len=n) (hxl:cells.length=n*r.sz) (hv:m i=.slice (some ⟨g,0,none⟩) n cap) (hmk:Mk e fz cur.size) (hh:w.heap[g]?=some (.cells cur e fz)) (hnc:n≤cap) (hcm:cap≤maxLen)
  (hcs:cur.size=cap*r.sz) (htake:cur.toList.take (n*r.sz)=cells) (hO:∀ b,blk (m i)=some b→ownB T0 w0.heap.size b) {p:Nat} {r2 r3:au} {cells2:List Value} (hr2:aT (aj T0 w0.heap.size m s w) r2 cells2) (h3:tN r p r2=some r3) (hle:p+r2.len≤n) :
  aN w0 T0 H (s.upd i (.row e r3)) a (w.setRow g (cur.toList.take (p*r.sz)++cells2++cur.toList.drop (p*r.sz+cells2.length)).toArray) m:=by
 obtain ⟨hr3,hlen3,hsz3,hsz2⟩:=Jg hr hr2 (by omega) h3
 have hl2:cells2.length=r2.len*r.sz:=by rw [hr2.len,hsz2]
 have hfit:p*r.sz+cells2.length≤n*r.sz:=by rw [hl2,←Nat.add_mul];exact Nat.mul_le_mul_right _ hle
 have hcapn:n*r.sz≤cap*r.sz:=Nat.mul_le_mul_right _ hnc
 have hcl:cur.toList.length=cap*r.sz:=by rw [Array.length_toList];exact hcs
 have hlen:(cur.toList.take (p*r.sz)++cells2++cur.toList.drop (p*r.sz+cells2.length)).length=cur.size:=by
  simp only [List.length_append,List.length_take,List.length_drop,Array.length_toList,hcs];omega
 refine hm.upd (aP.setRow hm.below (hO g (by rw [hv];rfl)) _) hi (fun b hb hne=>setRow_other w g b _ (fun e=>hne (by rw [hv,e];rfl))) _ (fun c hle' hw hmm hN=>?_)
 refine ⟨n,_,hr3.mono hle',by rw [hlen3,hn],?_,hO⟩
 refine ⟨?_,.inr ⟨g,cap,_,fz,hv,by rw [List.size_toArray,hlen];exact hmk,by rw [hw];exact setRow_heap w g _ _ _ _ hh,hnc,hcm,by rw [List.size_toArray,hlen,hsz3];exact hcs,?_⟩⟩
 ·rw [hsz3]
  simp only [List.length_append,List.length_take,List.length_drop,hxl];omega
 ·rw [hsz3]
  show List.take (n*r.sz) (cur.toList.take (p*r.sz)++cells2++cur.toList.drop (p*r.sz+cells2.length))=_
  rw [←htake]
  rw [List.take_append,List.take_of_length_le (by simp only [List.length_append,List.length_take,hcl];omega)]
  congr 1
  ·rw [List.take_take,Nat.min_eq_left (by omega)]
  ·simp only [List.length_append,List.length_take,hcl]
   rw [List.drop_take]
   congr 1
   omega
def Ij:Option Operand→Nat
 | some (.tmp k)=>2000000+k
 | _=>1999999
def sG (P:Program) (t:TypeId) (x:Operand) (lo hi mx:Option Operand) (s:S) (K:AV→S→Prop):Prop:=
 match s.ev x with
 | .own i=>match lk s.rows i with
  | some (.row _ r)=>match mx with
   | some y=>match P.underlying t with
    | some (.slice e)=>match bnd s lo 0 with
     | some p=>match bnd s hi r.len with
      | some q=>match bnd s (some y) 0 with
       | some z=>aS ((jR lo∧jR hi∧jR (some y))∧P.cellsOf e=r.sz∧hi.isSome=true) (aS (0≤p∧p≤q∧q≤z∧z≤r.len) (K .dead s))
       | none=>False
      | none=>False
     | none=>False
    | _=>False
   | none=>match lk s.env (Ij lo) with
    | some _=>match P.underlying t with
     | some (.slice e)=>match bnd s lo 0 with
      | some p=>match bnd s hi r.len with
       | some q=>aS ((jR lo∧jR hi)∧P.cellsOf e=r.sz) (aS (0≤p∧p≤q∧q≤r.len) (K (.suf i r.sz p.toNat (q.toNat - p.toNat)) s))
       | none=>False
      | none=>False
     | _=>False
    | none=>oU P t x lo hi none s K
  | _=>oU P t x lo hi mx s K
 | .pre i n=>match lk s.rows i with
  | some (.row _ r)=>match mx with
   | some _=>False
   | none=>match P.underlying t with
    | some (.slice e)=>match bnd s lo 0 with
     | some p=>match bnd s hi n with
      | some q=>aS ((jR lo∧jR hi)∧P.cellsOf e=r.sz) (aS (0≤p∧p≤q∧q≤r.len) (K (.suf i r.sz p.toNat (q.toNat - p.toNat)) s))
      | none=>False
     | none=>False
    | _=>False
  | _=>False
 | _=>oU P t x lo hi mx s K
theorem Du {w:World} (len cap:Nat) (lo hi:Option Value) (mx:Value) (p q z:Int) (hp:(lo=none∧p=0)∨∃ k,lo=some (.int k p)) (hq:∃ k,hi=some (.int k q)) (hz:∃ k,mx=.int k z)
  (h0:0≤p) (h1:p≤q) (h2:q≤z) (h3:z≤len) (hc:len≤cap):(Instr.sliceBounds true len cap lo hi (some mx)).run P w=.ok (p.toNat,q.toNat,z.toNat) w:=by
 obtain ⟨k,rfl⟩:=hz
 obtain ⟨k',rfl⟩:=hq
 have e1:=run_sliceBound (P:=P) w k z cap .slice3Acap (by omega) (by omega)
 have e2:=run_sliceBound (P:=P) w k' q z.toNat .slice3B (by omega) (by omega)
 rcases hp with ⟨rfl,rfl⟩|⟨k'',rfl⟩
 ·simp [Instr.sliceBounds,e1,e2]
 ·have e3:=run_sliceBound (P:=P) w k'' p q.toNat .slice3C (by omega) (by omega)
  simp [Instr.sliceBounds,e1,e2,e3]
theorem nI {w:World} {t e:TypeId} {inf:TypeInfo} (ht:P.underlying t=some (.slice e)) (hi:P.info? e=some inf) (a:Option Addr) (len cap:Nat) (lo hi' mx:Option Value) (p q z:Nat)
  (hb:(Instr.sliceBounds true len cap lo hi' mx).run P w=.ok (p,q,z) w):(Instr.sliceAt t (.slice a len cap) lo hi' mx).run P w=.ok (.slice (a.map fun x=>if z=p then x else x.add (p*P.cellsOf e)) (q - p) (z - p)) w:=by
 have hs:=bF (P:=P) hi w
 have hsl:(Instr.sliceAt t (.slice a len cap) lo hi' mx).run P w=(Instr.slice t (.slice a len cap) lo hi' mx).run P w:=by simp [Instr.sliceAt,run_underlying ht]
 rw [hsl]
 simp only [Instr.slice,Sem.run_bind,run_underlying ht,Result.andThen_ok,hb,hs,Sem.run_pure]
 by_cases hz:z=p
 ·simp [hz]
 ·simp [hz]
theorem wI {w:World} (len cap:Nat) (lo hi:Option Value) (p q:Int) (hp:(lo=none∧p=0)∨∃ k,lo=some (.int k p)) (hq:(hi=none∧q=len)∨∃ k,hi=some (.int k q))
  (h0:0≤p) (h1:p≤q) (hqc:q≤(cap:Int)):(Instr.sliceBounds true len cap lo hi none).run P w=.ok (p.toNat,q.toNat,cap) w:=by
 have hq0:0≤q:=by omega
 rcases hp with ⟨rfl,rfl⟩|⟨k,rfl⟩<;>rcases hq with ⟨rfl,rfl⟩|⟨k',rfl⟩
 ·simp [Instr.sliceBounds]
 ·simp [Instr.sliceBounds,run_sliceBound,hq0,hqc]
 ·have h1':p≤((len:Nat):Int):=h1
  simp [Instr.sliceBounds,run_sliceBound,h0,h1']
 ·have e1:=run_sliceBound (P:=P) w k' q cap .sliceAcap hq0 hqc
  have e2:=run_sliceBound (P:=P) w k p q.toNat .sliceB h0 (by omega)
  simp [Instr.sliceBounds,e1,e2]
theorem yE {t:TypeId} {x:Operand} {lo hi mx:Option Operand} (ho:o.op=.slice t x lo hi mx) (hx:ak x) (h:sG P t x lo hi mx s K):aI P w0 T0 o s K:=by
 unfold sG at h
 -- a view of row i
 have view:∀ (i:Nat) (e':TypeId) (r:au) (n:Nat) (p q:Int) (e:TypeId),lk s.rows i=some (.row e' r)→P.underlying t=some (.slice e)→bnd s lo 0=some p→bnd s hi n=some q→mx=none→jR lo→jR hi→P.cellsOf e=r.sz→0≤p→p≤q→q≤r.len →
   (∀ (H:List (AV × Value)) (a:Act) (w:World) (m:Nat→Value),aN w0 T0 H s a w m→∃ ad l cap,m i=.slice ad l cap∧a.eval x=.slice ad n cap)→K (.suf i r.sz p.toNat (q.toNat - p.toNat)) s→aI P w0 T0 o s K:=by
  intro i e' r n p q e hi' ht hp hq hmx hlo hhi hce h0 h1 h2 hval hk
  subst hmx
  refine aI.mem fun H a w m hm=>?_
  obtain ⟨k,cells,hr,hkn,how,hO⟩:=(hm.rows i _ hi').2
  have hiN:=(hm.rows i _ hi').1
  obtain ⟨ad,l,cap,hmi,hev⟩:=hval H a w m hm
  have hl:l=k∧k≤cap:=by
   rcases how.2 with ⟨hv,hz⟩|⟨g,cap2,cur,fz,hv,_,_,hnc,_⟩
   ·rw [hv] at hmi;cases hmi;omega
   ·rw [hv] at hmi;cases hmi;exact ⟨rfl,hnc⟩
  obtain ⟨inf,hinf⟩:=aV (P:=P) (t:=e) (by rw [hce];exact hr.pos)
  have hb:=wI (P:=P) (w:=w) n cap (lo.map a.eval) (hi.map a.eval) p q (by rcases og hm hlo hp with ⟨rfl,rfl⟩|h;exact .inl ⟨rfl,rfl⟩;exact .inr h) (by rcases og hm hhi hq with ⟨rfl,rfl⟩|h;exact .inl ⟨rfl,rfl⟩;exact .inr h) h0 h1 (by omega)
  refine ⟨_,_,s,w,m,hk,.inl ?_,hm.hold (.suf i r.sz p.toNat (q.toNat - p.toNat) l cap ad hiN hmi (by omega))⟩
  unfold execOp;rw [ho]
  have:=nI (P:=P) (w:=w) ht hinf ad n cap (lo.map a.eval) (hi.map a.eval) none p.toNat q.toNat cap hb
  rw [hce] at this
  simp [hev,this]
 split at h
 ·rename_i i hax
  split at h
  ·rename_i e' r hi'
   split at h
   ·rename_i y
    split at h
    ·rename_i e ht
     split at h
     ·rename_i p hp
      split at h
      ·rename_i q hq
       split at h
       ·rename_i z hz
        obtain ⟨⟨⟨hlo,hhi,hy⟩,hce,his⟩,⟨h0,h1,h2,h3⟩,hk⟩:=h
        refine aI.mem fun H a w m hm=>?_
        obtain ⟨k,cells,hr,hkn,how,hO⟩:=(hm.rows i _ hi').2
        obtain ⟨inf,hinf⟩:=aV (P:=P) (t:=e) (by rw [hce];exact hr.pos)
        have rx:=hm.ev x hx
        rw [hax] at rx
        generalize hvx:a.eval x=vx at rx
        cases rx with
        | own _ _ h1'=>
         obtain ⟨ad,cap,hv,hkc⟩:∃ ad cap,m i=.slice ad k cap∧k≤cap:=by
          rcases how.2 with ⟨hv,hz⟩|⟨g,cap2,cur,fz,hv,_,_,hnc,_⟩
          ·exact ⟨none,0,by rw [hz];exact hv,by omega⟩
          ·exact ⟨_,_,hv,hnc⟩
         have hmx:∃ kk,a.eval y=.int kk z:=by
          rcases og hm hy hz with ⟨h,_⟩|⟨kk,h⟩
          ·cases h
          ·exact ⟨kk,by simpa using h⟩
         have hhi':∃ kk,hi.map a.eval=some (.int kk q):=by
          rcases og hm hhi hq with ⟨rfl,_⟩|h
          ·cases his
          ·exact h
         have hb:=Du (P:=P) (w:=w) k cap (lo.map a.eval) (hi.map a.eval) (a.eval y) p q z (by rcases og hm hlo hp with ⟨rfl,rfl⟩|h;exact .inl ⟨rfl,rfl⟩;exact .inr h) hhi' hmx h0 h1 h2 (by omega) hkc
         have this:=nI (P:=P) (w:=w) ht hinf ad k cap (lo.map a.eval) (hi.map a.eval) (some (a.eval y)) p.toNat q.toNat z.toNat hb
         have hvx':a.eval x=.slice ad k cap:=hvx.trans hv
         rw [←hvx'] at this
         generalize Value.slice _ _ _=vv at this
         refine ⟨.dead,vv,s,w,m,hk,.inl ?_,hm.hold (.dead _)⟩
         unfold execOp;rw [ho]
         simp [this]
       ·exact h.elim
      ·exact h.elim
     ·exact h.elim
    ·exact h.elim
   ·split at h
    ·split at h
     ·rename_i e ht
      split at h
      ·rename_i p hp
       split at h
       ·rename_i q hq
        obtain ⟨⟨⟨hlo,hhi⟩,hce⟩,⟨h0,h1,h2⟩,hk⟩:=h
        refine view i e' r r.len p q e hi' ht hp hq rfl hlo hhi hce h0 h1 h2 (fun H a w m hm=>?_) hk
        obtain ⟨k,cells,hr,hkn,how,hO⟩:=(hm.rows i _ hi').2
        have rx:=hm.ev x hx
        rw [hax] at rx
        generalize hvx:a.eval x=vx at rx
        cases rx with
        | own _ _ h1'=>
         rcases how.2 with ⟨hv,hz⟩|⟨g,cap2,cur,fz,hv,_,_,hnc,_⟩
         ·exact ⟨none,0,0,hv,by rw [hkn,hz];exact hv⟩
         ·exact ⟨_,_,_,hv,by rw [hkn];exact hv⟩
       ·exact h.elim
      ·exact h.elim
     ·exact h.elim
    ·exact kC ho hx h
  ·exact kC ho hx h
 ·rename_i i n hax
  split at h
  ·rename_i e' r hi'
   split at h
   ·exact h.elim
   ·split at h
    ·rename_i e ht
     split at h
     ·rename_i p hp
      split at h
      ·rename_i q hq
       obtain ⟨⟨⟨hlo,hhi⟩,hce⟩,⟨h0,h1,h2⟩,hk⟩:=h
       refine view i e' r n p q e hi' ht hp hq rfl hlo hhi hce h0 h1 h2 (fun H a w m hm=>?_) hk
       have rx:=hm.ev x hx
       rw [hax] at rx
       generalize hvx:a.eval x=vx at rx
       cases rx with
       | pre _ _ l cap ad hiN hv hnl=>exact ⟨ad,l,cap,hv,rfl⟩
      ·exact h.elim
     ·exact h.elim
    ·exact h.elim
  ·exact h.elim
 ·exact kC ho hx h
def jq (P:Program) (t t2:TypeId) (x y:Operand) (s:S) (K:AV→S→Prop):Prop:=
 match s.ev x with
 | .pre i m=>match s.ev y with
  | .suf j sz o n=>match lk s.rows i with
   | some (.row e r)=>match P.underlying t with
    | some (.slice e')=>match P.underlying t2 with
     | some (.slice _)=>match tN r m (bP r o (o+n)) with
      | some r3=>aS ((ak x∧ak y)∧i=j∧e=e'∧sz=r.sz∧P.cellsOf e'=r.sz) (aS (0<r.len∧o+n≤r.len∧m+n≤r.len) (K (.pre i (m+n)) (s.upd i (.row e r3))))
      | none=>False
     | _=>False
    | _=>False
   | _=>False
  | _=>iD P t t2 x y s K
 | _=>iD P t t2 x y s K
theorem vk {t t2:TypeId} {x y:Operand} (ho:o.op=.call { callee:=.builtin .append,args:=#[x,y],argTypes:=#[t,t2] }) (hx:ak x) (h:jq P t t2 x y s K):aI P w0 T0 o s K:=by
 unfold jq at h
 split at h
 ·rename_i i m1 hax
  split at h
  ·rename_i j sz p n hay
   split at h
   ·rename_i e r hi'
    split at h
    ·rename_i e' ht
     split at h
     ·rename_i e2 ht2
      split at h
      ·rename_i r3 h3
       obtain ⟨⟨⟨_,hoy⟩,rfl,rfl,rfl,hce⟩,⟨hpos,h1,h2⟩,hk⟩:=h
       refine aI.mem fun H a w m hm=>?_
       obtain ⟨k,cells,hr,hkn,how,hO⟩:=(hm.rows i _ hi').2
       obtain ⟨inf,hinf⟩:=aV (P:=P) (t:=e) (by rw [hce];exact hr.pos)
       have hisz:inf.size=r.sz:=by rw [←hce];simp [Program.cellsOf,hinf]
       rcases how.2 with ⟨hv,hz⟩|⟨g,cap,cur,fz,hv,hmk,hh,hnc,hcm,hcs,htake⟩
       ·omega
       have rx:=hm.ev x hx
       rw [hax] at rx
       generalize hvx:a.eval x=vx at rx
       have ry:=hm.ev y hoy
       rw [hay] at ry
       generalize hvy:a.eval y=vy at ry
       cases rx with
       | pre _ _ l cap2 ad hiN hv2 hml=>
        have hv2':m i=.slice ad l cap2:=hv2
        rw [hv] at hv2'
        cases hv2'
        cases ry with
        | suf _ _ _ _ l3 cap3 ad3 _ hv3 hol=>
         have hv3':m i=.slice ad3 l3 cap3:=hv3
         rw [hv] at hv3'
         cases hv3'
         have hsub:=hr.sub p (p+n)
         rw [Nat.add_sub_cancel_left] at hsub
         have hnl:(bP r p (p+n)).len=n:=by rw [eY _ _ _ h1];omega
         have hcells2:((cells.drop (p*r.sz)).take (n*r.sz)).length=n*r.sz:=by
          have:=hsub.len
          rw [hnl,Ac] at this
          exact this
         have hsrc:Src P w t2 inf.size (.slice (Option.map (fun x=>if cap=p then x else x.add (p*r.sz)) (some ⟨g,0,none⟩)) n (cap - p)) n ((cells.drop (p*r.sz)).take (n*r.sz)):=by
          rw [Option.map_some]
          refine Src.slice ht2 (by rw [hcells2,hisz]) (fun j u hu=>?_)
          by_cases hcp:cap=p
          ·have hn0:n=0:=by omega
           subst hn0;simp at hu
          ·rw [if_neg hcp]
           have hj:j<n*r.sz:=by have:=(List.getElem?_eq_some_iff.1 hu).1;rw [hcells2] at this;exact this
           rw [List.getElem?_take_of_lt hj,List.getElem?_drop] at hu
           have h5:=oq hh (j:=p*r.sz+j) (u:=u) (by
            rw [←htake] at hu
            rw [List.getElem?_take] at hu
            split at hu
            ·simpa using hu
            ·cases hu)
           have e1:((⟨g,0,none⟩:Addr).add (p*r.sz)).add j=(⟨g,0,none⟩:Addr).add (p*r.sz+j):=by rw [Addr.add_add]
           rw [e1];exact h5
         have hcapm:m1*r.sz+((cells.drop (p*r.sz)).take (n*r.sz)).length≤cur.size:=by
          rw [hcells2,hcs,←Nat.add_mul]
          exact Nat.mul_le_mul_right _ (by omega)
         have hrun:=rH (P:=P) (w:=w) (t:=t) (t2:=t2) (ty:=o.type) ht hinf g m1 cap cur fz hh hmk.w hsrc hsub.one (by omega) (by rw [hisz];exact hcapm)
         rw [hisz] at hrun
         refine ⟨.pre i (m1+n),_,_,_,m,hk,.inl ?_,(hm.QI hi' hr hkn how.1 hv hmk hh hnc hcm hcs htake hO hsub h3 (by rw [hnl];omega)).hold (.pre i (m1+n) k cap _ hiN hv (by omega))⟩
         unfold execOp;rw [ho]
         simp [resolve,invoke,builtin,hvx,hvy]
         rw [Option.map_some] at hrun
         simp [hrun]
      ·exact h.elim
     ·exact h.elim
    ·exact h.elim
   ·exact h.elim
  ·exact lT ho hx h
 ·exact lT ho hx h
def vV (P:Program) (t:TypeId) (x:Operand) (s:S) (K:AV→S→Prop):Prop:=
 match s.ev x with
 | .suf i sz o n=>match lk s.rows i with
  | some (.row e r)=>match P.underlying t with
   | some (.slice e')=>match zeroOf P e' with
    | some z=>match tN r o (iQ z n) with
     | some r3=>aS (bg P e' z) (aS (sz=r.sz∧r.sz=z.cells.size) (aS (0<n∧o+n≤r.len) (K .dead (s.upd i (.row e r3)))))
     | none=>False
    | none=>False
   | _=>False
  | _=>False
 | _=>False
theorem yZ {t:TypeId} {x:Operand} (ho:o.op=.call { callee:=.builtin .clear,args:=#[x],argTypes:=#[t] }) (hx:ak x) (h:vV P t x s K):aI P w0 T0 o s K:=by
 unfold vV at h
 split at h
 ·rename_i i sz p n hax
  split at h
  ·rename_i e r hi'
   split at h
   ·rename_i e' ht
    split at h
    ·rename_i z hz
     split at h
     ·rename_i r3 h3
      obtain ⟨hez,⟨rfl,hrs⟩,⟨hn0,h1⟩,hk⟩:=h
      refine aI.mem fun H a w m hm=>?_
      obtain ⟨k,cells,hr,hkn,how,hO⟩:=(hm.rows i _ hi').2
      obtain ⟨inf,hinf,hiz,hisz,_⟩:=hez.ex
      rcases how.2 with ⟨hv,hz⟩|⟨g,cap,cur,fz,hv,hmk,hh,hnc,hcm,hcs,htake⟩
      ·omega
      have rx:=hm.ev x hx
      rw [hax] at rx
      generalize hvx:a.eval x=vx at rx
      cases rx with
      | suf _ _ _ _ l3 cap3 ad3 _ hv3 hol=>
       have hv3':m i=.slice ad3 l3 cap3:=hv3
       rw [hv] at hv3'
       cases hv3'
       obtain ⟨hzr,hzl,hzs⟩:=sJ (aj T0 w0.heap.size m s w) hez.ok n
       have hcp:¬cap=p:=by omega
       have hadd:(⟨g,0,none⟩:Addr).add (p*r.sz)=⟨g,p*r.sz,none⟩:=by unfold Addr.add;split<;>simp_all
       have hzc:(Builtin.zeroCells z.cells n).toList=(List.replicate n z.cells.toList).flatten:=mZ z.cells n
       have hzlen:((List.replicate n z.cells.toList).flatten).length=n*r.sz:=by rw [gQ,Array.length_toList,hrs]
       have hst:=jT P g (p*r.sz) e fz _ 0 cur w hh hmk.w (by rw [hzlen,hcs,Nat.add_zero,←Nat.add_mul];exact Nat.mul_le_mul_right _ (by omega)) hzr.one
       rw [Nat.add_zero] at hst
       refine ⟨.dead,.tuple #[],_,_,m,hk,.inl ?_,(hm.QI hi' hr hkn how.1 hv hmk hh hnc hcm hcs htake hO hzr h3 (by rw [hzl];omega)).hold (.dead _)⟩
       ·unfold execOp;rw [ho]
        obtain ⟨n',rfl⟩:∃ n',n=n'+1:=⟨n - 1,by omega⟩
        simp only [Option.map_some,if_neg hcp,hadd] at hvx
        simp [resolve,invoke,builtin,hvx,Builtin.clear_,run_underlying ht,zeroValue,typeInfo,hinf,hiz,hzc,hst]
     ·exact h.elim
    ·exact h.elim
   ·exact h.elim
  ·exact h.elim
 ·exact h.elim
end
end Go.Fv
/-
 Regions, code, loops, calls, contracts.
-/
namespace Go.Fv
open Go.RowKit
def Enter (P:Program) (f:Nat):Prop:=∃ fn,P.funcs[f]?=some fn∧fn.body.isNone=false∧(fn.name == "runtime.NumGoroutine")=false
class PV where
 q:Exit→S→Prop
class Qw where
 k:AV→S→Prop
class QA where
 k:S→Prop
def ah (P:Program) (w0:World) (T0:Bs) (f:Nat) (args:List AV) (s:S) [K:Qw]:Prop:=
 Enter P f∧∀ (H:List (AV × Value)) (a:Act) (w:World) (m:Nat→Value) (vals:List Value),aN w0 T0 H s a w m→bQ (aj T0 w0.heap.size m s w) args vals →
  Calls P f vals.toArray w fun e w'=>∃ v,e=.returned v∧∃ r s',K.k r s'∧Rep w0 T0 ((r,v)::H) s' a w'
def wz (b0:Nat) (H:List (AV × Value)):Prop:=∀ p,p∈H→below b0 p.1=true
def aU (P:Program) (w0:World) (T0:Bs) (b0:Nat) (c:Code) (s:S) [Q:PV]:Prop:=
 ∀ (H:List (AV × Value)) (a:Act) (w:World),wz b0 H→Rep w0 T0 H s a w→(Code.loop c).wp P (fun e a' w'=>∃ s',Q.q e s'∧Rep w0 T0 H s' a' w') a w
def dN (P:Program) (w0:World) (T0:Bs) (b0:Nat) (id:Nat) (ops:Array Oper) (s:S) [Q:QA]:Prop:=
 ∀ (H:List (AV × Value)) (a:Act) (w:World),wz b0 H→Rep w0 T0 H s a w→(Code.region id ops true).wp P (fun e a' w'=>e=.normal∧∃ s',Q.k s'∧Rep w0 T0 H s' a' w') a w
@[congr] theorem Mc {P:Program} {w0:World} {T0:Bs} {f:Nat} {args args':List AV} {s s':S} {K:Qw} (h:args=args') (h2:s=s'):@ah P w0 T0 f args s K=@ah P w0 T0 f args' s' K:=by rw [h,h2]
@[congr] theorem MB {P:Program} {w0:World} {T0:Bs} {b0:Nat} {c:Code} {s s':S} {Q:PV} (h:s=s'):@aU P w0 T0 b0 c s Q=@aU P w0 T0 b0 c s' Q:=by rw [h]
@[congr] theorem Md {P:Program} {w0:World} {T0:Bs} {b0 id:Nat} {ops:Array Oper} {s s':S} {Q:QA} (h:s=s'):@dN P w0 T0 b0 id ops s Q=@dN P w0 T0 b0 id ops s' Q:=by rw [h]
def jH (P:Program) (w0:World) (T0:Bs) (c:Call) (s:S) (K:AV→S→Prop):Prop:=
 match c.callee with
 | .builtin .append=>match c.args.toList,c.argTypes.toList with
  | [x,y],[t,t2]=>aS (ak x) (jq P t t2 x y s K)
  | _,_=>False
 | .builtin .len=>match c.args.toList,c.argTypes.toList with
  | [x],[t]=>aS (ak x) (EO P t x s K)
  | _,_=>False
 | .builtin .unsafeSliceData=>match c.args.toList,c.argTypes.toList with
  | [x],[_]=>aS (ak x) (sF x s K)
  | _,_=>False
 | .builtin .cap=>match c.args.toList,c.argTypes.toList with
  | [x],[t]=>aS (ak x) (Cb P t x s K)
  | _,_=>False
 | .builtin .clear=>match c.args.toList,c.argTypes.toList with
  | [x],[t]=>aS (ak x) (vV P t x s K)
  | _,_=>False
 | .builtin .unsafeString=>match c.args.toList,c.argTypes.toList with
  | [x,n],[pt,_]=>aS (ak x∧ak n) (CS P pt x n s K)
  | _,_=>False
 | .builtin .min=>aS (∀ x,x∈c.args.toList→ak x) (ES false (evs s c.args.toList) (fun r=>K r s))
 | .builtin .max=>aS (∀ x,x∈c.args.toList→ak x) (ES true (evs s c.args.toList) (fun r=>K r s))
 | .value g=>match s.ev g with
  | .fn f caps=>aS (ak g∧∀ x,x∈c.args.toList→ak x) (@ah P w0 T0 f (evs s c.args.toList++caps) s ⟨K⟩)
  | _=>False
 | _=>False
def lX (P:Program) (w0:World) (T0:Bs) (o:Oper) (s:S) (K:AV→S→Prop):Prop:=
 match o.op with
 | .move x=>qw P o.type x s K
 | .assign x=>qw P o.type x s K
 | .pick c x y=>aS (ak c) (yC c x y s K)
 | .extract x i=>aS (ak x) (iF x i s K)
 | .makeFunc fn first caps=>fU fn first caps s K
 | .box e x=>Af e x s K
 | .alloc e=>oO P e s K
 | .load t x=>match x with
  | .global g=>Gq P t g s K
  | x=>aS (ak x) (yh P t x s K)
 | .store t x v=>aS (ak x) (oV P t x v s K)
 | .nilCheck x=>aS (ak x) (yA x s K)
 | .fieldAddr t x k=>aS (ak x) (fB P t x k s K)
 | .indexAddr t x i=>aS (ak x∧ak i) (iP P t x i s K)
 | .makeSlice t l c=>aS (ak l∧ak c) (uh P t l c s K)
 | .binOp op t x y _=>aS (ak x∧ak y) (x9 P op t y (s.ev x) (s.ev y) (fun r=>K r s))
 | .call c=>jH P w0 T0 c s K
 | .unOp op _ x=>aS (ak x) (Gv op x s K)
 | .convert a b x=>aS (ak x) (oP P a b x s K)
 | .index t x i=>aS (ak x∧ak i) (rY P t x i s K)
 | .field t x k=>aS (ak x) (rV P t x k s K)
 | .slice t x lo hi mx=>aS (ak x) (sG P t x lo hi mx s K)
 | .buildSlice t len parts=>fH P t len parts s K
 | .build t parts=>lK P t parts s K
 | .lookup t x i ok=>nP P t x i ok s K
 | .makeMap t r=>kU P t r s K
 | .mapUpdate t x k v=>kW P t x k v s K
 | .mapEntry t x k=>kV P t x k s K
 | .entryStore _ x st v=>iE x st v s K
 | .range t x=>oQ P t x s K
 | .next x str=>CG x str s K
 | .entry x=>vW x s K
 | _=>False
section
variable {P:Program} {w0:World} {T0:Bs} {s:S} [hG:lZ P w0 T0]
theorem yc {o:Oper} {K:AV→S→Prop} {c:Call} (ho:o.op=.call c) (h:jH P w0 T0 c s K):aI P w0 T0 o s K:=by
 obtain ⟨callee,args,argTypes⟩:=c
 unfold jH at h
 cases callee with
 | builtin b=>
  cases b<;>try (exact h.elim)
  case append=>
   dsimp only at h
   split at h
   ·rename_i x y t t2 e1 e2
    obtain ⟨hx,h⟩:=h
    have e1':args=#[x,y]:=by apply Array.ext';simpa using e1
    have e2':argTypes=#[t,t2]:=by apply Array.ext';simpa using e2
    subst e1' e2'
    exact vk ho hx h
   ·exact h.elim
  case clear=>
   dsimp only at h
   split at h
   ·rename_i x t e1 e2
    obtain ⟨hx,h⟩:=h
    have e1':args=#[x]:=by apply Array.ext';simpa using e1
    have e2':argTypes=#[t]:=by apply Array.ext';simpa using e2
    subst e1' e2'
    exact yZ ho hx h
   ·exact h.elim
  case len=>
   dsimp only at h
   split at h
   ·rename_i x t e1 e2
    obtain ⟨hx,h⟩:=h
    have e1':args=#[x]:=by apply Array.ext';simpa using e1
    have e2':argTypes=#[t]:=by apply Array.ext';simpa using e2
    subst e1' e2'
    exact EP ho hx h
   ·exact h.elim
  case unsafeSliceData=>
   dsimp only at h
   split at h
   ·rename_i x t e1 e2
    obtain ⟨hx,h⟩:=h
    have e1':args=#[x]:=by apply Array.ext';simpa using e1
    have e2':argTypes=#[t]:=by apply Array.ext';simpa using e2
    subst e1' e2'
    exact yD ho hx h
   ·exact h.elim
  case cap=>
   dsimp only at h
   split at h
   ·rename_i x t e1 e2
    obtain ⟨hx,h⟩:=h
    have e1':args=#[x]:=by apply Array.ext';simpa using e1
    have e2':argTypes=#[t]:=by apply Array.ext';simpa using e2
    subst e1' e2'
    exact Cc ho hx h
   ·exact h.elim
  case unsafeString=>
   dsimp only at h
   split at h
   ·rename_i x n pt it e1 e2
    obtain ⟨⟨hx,hn⟩,h⟩:=h
    have e1':args=#[x,n]:=by apply Array.ext';simpa using e1
    have e2':argTypes=#[pt,it]:=by apply Array.ext';simpa using e2
    subst e1' e2'
    exact CU ho hx hn h
   ·exact h.elim
  case min=>exact yu (isMax:=false) ho h.1 h.2
  case max=>exact yu (isMax:=true) ho h.1 h.2
 | invoke r mth=>exact h.elim
 | value g=>
  dsimp only at h
  intro H a w next Q ⟨m,hm⟩ hn
  cases hg:s.ev g with
  | fn f caps=>
   rw [hg] at h
   obtain ⟨⟨hog,hoa⟩,⟨fn,hf,hb,hnm⟩,h⟩:=h
   have rg:=hm.ev g hog
   rw [hg] at rg
   generalize hvg:a.eval g=vg at rg
   cases rg with
   | fn _ _ cvals hc=>
    have hargs:=(hm.evs hoa).append hc
    have hcalls:=h H a w m _ hm hargs
    have hrun:(execOp a.eval o).run P w=.ok (.enter f ((args.toList.map a.eval++cvals).toArray)) w:=by
     unfold execOp;rw [ho]
     have e:(Array.map a.eval args++cvals.toArray)=(args.toList.map a.eval++cvals).toArray:=by
      apply Array.ext';simp
     have hnm':¬fn.name = "runtime.NumGoroutine" := by simpa using hnm
     have hb':¬fn.body=none:=by intro e;simp [e] at hb
     simp [resolve,hvg,Deferred.ofValue,invoke,callFunc,hf,hb',hnm',e]
    unfold Oper.wp
    rw [hrun]
    refine Calls.mono hcalls ?_
    rintro e w' ⟨v,rfl,r,s',hk,hr⟩
    exact hn r s' v w' hk hr
  | _=>rw [hg] at h;exact h.elim
theorem jI {o:Oper} {K:AV→S→Prop} (h:lX P w0 T0 o s K):aI P w0 T0 o s K:=by
 unfold lX at h
 cases ho:o.op<;>rw [ho] at h<;>try (exact h.elim)
 case move x=>exact sD (.inl ho) h
 case assign x=>exact sD (.inr ho) h
 case pick c x y=>exact CO ho h.1 h.2
 case extract x i=>exact vw ho h.1 h.2
 case makeFunc fn first caps=>exact uj ho h
 case box e x=>exact EN ho h
 case alloc e=>exact yV ho h
 case load t x=>
  cases x with
  | global g=>exact (Ci ho h).op
  | _=>exact Cj ho h.1 h.2
 case store t x v=>exact zk ho h.1 h.2
 case nilCheck x=>exact ET ho h.1 h.2
 case fieldAddr t x k=>exact rW ho h.1 h.2
 case indexAddr t x i=>exact rZ ho h.1.1 h.1.2 h.2
 case makeSlice t l c=>exact CB ho h.1.1 h.1.2 h.2
 case binOp op t x y t'=>exact BR ho h.1.1 h.1.2 h.2
 case call c=>exact yc ho h
 case unOp op t x=>exact Gw ho h.1 h.2
 case convert t t' x=>exact y5 ho h.1 h.2
 case index t x i=>exact zf ho h.1.1 h.1.2 h.2
 case field t x k=>exact y8 ho h.1 h.2
 case slice t x lo hi mx=>exact yE ho h.1 h.2
 case buildSlice t len parts=>exact qp ho h
 case build t parts=>exact yX ho h
 case lookup t x i ok=>exact yj ho h
 case makeMap t r=>exact vF ho h
 case mapUpdate t x k v=>exact yx ho h
 case mapEntry t x k=>exact yw ho h
 case entryStore t x st v=>exact ug ho h
 case range t x=>exact zi ho h
 case next x str=>exact CJ ho h
 case entry x=>exact y7 ho h
end
def dZ (d:Option Nat) (v:AV) (s:S) (Q:S→Prop):Prop:=
 match d with
 | none=>Q s
 | some d=>if d<s.n then Q (s.set d v) else False
def qh:Op→Prop
 | .pick c x y=>ak c∧ak x∧ak y
 | _=>False
def qx (P:Program) (w0:World) (T0:Bs) (o:Oper) (c:Bool) (s s1 s2:S) (k:S→Prop):Prop:=
 match qP s o.op with
 | some (pre,b)=>aS (c=true→pre∧qh o.op) (dZ o.dst (.opt c (.bool b)) s k)
 | none=>match MX P (peel s (FM o.op)) o.op with
  | some v=>aS (Fv.below s.next v=true) (aS (c=true→dK s (FM o.op)=true∧lX P w0 T0 o (peel s (FM o.op)) (fun r s'=>r=v∧s'=peel s (FM o.op))) (dZ o.dst (.opt c v) s k))
  | none=>@Ite c ⟨aS (dK s1 (FM o.op)=true) (lX P w0 T0 o (peel s1 (FM o.op)) (fun v s'=>dZ o.dst v s' k))⟩ ⟨dZ o.dst (.opt false (.bool false)) s2 k⟩
def Gs (P:Program) (w0:World) (T0:Bs) (ops:Array Oper) (o:Oper) (s:S) (k:S→Prop):Prop:=
 match o.guard with
 | none=>match qP s o.op with
  | some (pre,b)=>aS (pre∧qh o.op) (dZ o.dst (.bool b) s k)
  | none=>lX P w0 T0 o s (fun v s'=>dZ o.dst v s' k)
 | some (j,want)=>match (ops[j]?).bind (·.dst) with
  | some r=>match s.get r with
   | .bool b=>qx P w0 T0 o (bif want then b else !b) s (s.set r (.bool want)) (s.set r (.bool (!want))) k
   | .opt c (.bool b)=>qx P w0 T0 o (c && bif want then b else !b) s s s k
   | _=>False
  | none=>False
def yB (P:Program) (w0:World) (T0:Bs) (ops:Array Oper):List Oper→S→(S→Prop)→Prop
 | [],s,Q=>Q s
 | o::rest,s,Q=>Gs P w0 T0 ops o s (fun s'=>yB P w0 T0 ops rest s' Q)
section
variable {P:Program} {w0:World} {T0:Bs} {H:List (AV × Value)} [hG:lZ P w0 T0]
theorem Rep.put {s:S} {a:Act} {w:World} {r:AV} {v:Value} {d:Option Nat} {Q:S→Prop} (h:Rep w0 T0 ((r,v)::H) s a w) (hq:dZ d r s Q):∃ s',Q s'∧Rep w0 T0 H s' (a.put d v) w:=by
 obtain ⟨m,hm⟩:=h
 cases d with
 | none=>exact ⟨s,hq,m,hm.ku⟩
 | some d=>
  simp only [dZ] at hq
  split at hq
  ·rename_i hd;exact ⟨_,hq,m,hm.ku.OG (hm.held _ (.head _)) hd⟩
  ·exact hq.elim
theorem aN.know {s:S} {a:Act} {w:World} {m:Nat→Value} (h:aN w0 T0 H s a w m) {r:Nat} {x:AV} (hx:Rv (aj T0 w0.heap.size m s w) x (a.tmps.getD r undef)):aN w0 T0 H (s.set r x) a w m:=
 {size:=h.size,nodef:=h.nodef,below:=h.below,held:=h.held,rows:=h.rows,sep:=h.sep,
  env:=by
   intro q y hy
   have hy':(if r=q then some x else lk s.env q)=some y:=hy
   split at hy'
   ·rename_i e;subst e;cases hy';exact hx
   ·exact h.env q y hy' }
theorem mV {s:S} {a:Act} {w:World} {o:Oper} {pre:Prop} {b:Bool} (h:qP s o.op=some (pre,b)) (hp:pre) (hok:qh o.op) (hr:Rep w0 T0 H s a w):(execOp a.eval o).run P w=.ok (.value (.bool b)) w:=by
 obtain ⟨m,hm⟩:=hr
 unfold qP at h
 cases ho:o.op<;>rw [ho] at h hok<;>try (cases h;done)
 rename_i c x y
 obtain ⟨h1,h2,h3⟩:=hok
 dsimp only at h
 split at h
 ·rename_i bc p q ec ex ey
  cases h
  obtain ⟨k1,k2,k3⟩:=hp
  have rc:=KJ hm h1 k1
  rw [ec] at rc
  generalize hvc:a.eval c=vc at rc
  cases rc
  have hrun:(execOp a.eval o).run P w=.ok (.value (if bc then a.eval x else a.eval y)) w:=by
   unfold execOp;rw [ho];simp [hvc,asBool,Sem.run_bind,Result.andThen]
  cases bc with
  | true=>
   have rx:=KJ hm h2 (k2 rfl)
   rw [ex] at rx
   generalize hvx:a.eval x=vx at rx hrun
   cases rx
   simpa using hrun
  | false=>
   have ry:=KJ hm h3 (k3 rfl)
   rw [ey] at ry
   generalize hvy:a.eval y=vy at ry hrun
   cases ry
   simpa using hrun
 ·cases h
theorem sH {o:Oper} {c:Bool} {s s1 s2:S} {k:S→Prop} (h:qx P w0 T0 o c s s1 s2 k) {a:Act} {w:World} (hr:Rep w0 T0 H s a w) {W:Bool} (hW:W=c) (hr1:c=true→Rep w0 T0 H s1 a w) (hr2:c=false→Rep w0 T0 H s2 a w) {K:Act→World→Prop} {Qc:Exit→Act→World→Prop}
  (hk:∀ s' a' w',k s'→Rep w0 T0 H s' a' w'→K a' w'):if W=true then o.wp P a w K Qc else K (a.put o.dst undef) w:=by
 subst hW
 unfold qx at h
 have skip:W=false→∀ (v:AV) (s:S),Rep w0 T0 H s a w→(∀ c,Rv c v undef)→dZ o.dst v s k→K (a.put o.dst undef) w:=by
  intro _ v s hr hv hp
  obtain ⟨m,hm⟩:=hr
  obtain ⟨s'',h2,hr2⟩:=Rep.put (v:=undef) (⟨m,hm.hold (hv _)⟩:Rep w0 T0 ((v,undef)::H) s a w) hp
  exact hk _ _ _ h2 hr2
 split at h
 ·rename_i pre b hg
  obtain ⟨hpre,hput⟩:=h
  cases W with
  | true=>
   simp only [if_true]
   obtain ⟨hp,hok⟩:=hpre rfl
   have hrun:=mV (P:=P) hg hp hok hr
   unfold Oper.wp
   rw [hrun]
   obtain ⟨m,hm⟩:=hr
   obtain ⟨s'',h2,hr2⟩:=Rep.put (v:=.bool b) (⟨m,hm.hold (.opt true (.bool b) (.bool b) rfl (fun _=>.bool b) (fun e=>by cases e))⟩:Rep w0 T0 ((.opt true (.bool b),.bool b)::H) s a w) hput
   exact hk _ _ _ h2 hr2
  | false=>
   simp only [Bool.false_eq_true,if_false]
   exact skip rfl _ s hr (fun _=>.opt false _ _ rfl (fun e=>by cases e) (fun _=>rfl)) hput
 ·split at h
  ·rename_i v hv
   obtain ⟨hb,hpre,hput⟩:=h
   cases W with
   | true=>
    simp only [if_true]
    obtain ⟨hpc,hop⟩:=hpre rfl
    obtain ⟨m,hm⟩:=hr
    refine jI hop H a w _ _ ⟨m,hm.peel hpc⟩ ?_
    rintro r s' v' w' ⟨rfl,rfl⟩ ⟨m',hm'⟩
    have hv':=hm'.held _ (.head _)
    have hm2:=hm'.ku.OU hpc
    obtain ⟨s'',h2,hr2⟩:=Rep.put (v:=v') (⟨m',hm2.hold (.opt true r v' hb (fun _=>hv') (fun e=>by cases e))⟩:Rep w0 T0 ((.opt true r,v')::H) s a w') hput
    exact hk _ _ _ h2 hr2
   | false=>
    simp only [Bool.false_eq_true,if_false]
    obtain ⟨m,hm⟩:=hr
    obtain ⟨s'',h2,hr2⟩:=Rep.put (v:=undef) (⟨m,hm.hold (.opt false v undef hb (fun e=>by cases e) (fun _=>rfl))⟩:Rep w0 T0 ((.opt false v,undef)::H) s a w) hput
    exact hk _ _ _ h2 hr2
  ·cases W with
   | true=>
    simp only [if_true]
    obtain ⟨hpc,hop⟩:=h.1 rfl
    obtain ⟨m1,hm1⟩:=hr1 rfl
    refine jI hop H a w _ _ ⟨m1,hm1.peel hpc⟩ ?_
    intro r s' v w' hk' hr'
    obtain ⟨s'',h2,hr2⟩:=hr'.put hk'
    exact hk _ _ _ h2 hr2
   | false=>
    simp only [Bool.false_eq_true,if_false]
    exact skip rfl _ s2 (hr2 rfl) (fun _=>.opt false _ _ rfl (fun e=>by cases e) (fun _=>rfl)) (h.2 rfl)
theorem yg {ops:Array Oper} {o:Oper} {s:S} {k:S→Prop} (h:Gs P w0 T0 ops o s k) {a:Act} {w:World} (hr:Rep w0 T0 H s a w) {K:Act→World→Prop} {Qc:Exit→Act→World→Prop}
  (hk:∀ s' a' w',k s'→Rep w0 T0 H s' a' w'→K a' w'):if Region.wanted o (yielded ops a.tmps) then o.wp P a w K Qc else K (a.put o.dst undef) w:=by
 unfold Gs at h
 cases hg:o.guard with
 | none=>
  rw [hg] at h
  rw [if_pos (by simp [Region.wanted,hg])]
  dsimp only at h
  split at h
  ·rename_i pre b hgp
   obtain ⟨⟨hp,hok⟩,hput⟩:=h
   have hrun:=mV (P:=P) hgp hp hok hr
   unfold Oper.wp
   rw [hrun]
   obtain ⟨m,hm⟩:=hr
   obtain ⟨s'',h2,hr2⟩:=Rep.put (v:=.bool b) (⟨m,hm.hold (.bool b)⟩:Rep w0 T0 ((.bool b,.bool b)::H) s a w) hput
   exact hk _ _ _ h2 hr2
  ·refine jI h H a w _ _ hr ?_
   intro r s' v w' hk' hr'
   obtain ⟨s'',h2,hr2⟩:=hr'.put hk'
   exact hk _ _ _ h2 hr2
 | some jw=>
  obtain ⟨j,want⟩:=jw
  rw [hg] at h
  dsimp only at h
  cases hd:(ops[j]?).bind (·.dst) with
  | none=>rw [hd] at h;exact h.elim
  | some r=>
   rw [hd] at h
   dsimp only at h
   have hslot:∀ x,s.get r=x→x≠.dead→lk s.env r=some x:=by
    intro x hx hne
    simp only [S.get] at hx
    cases hl:lk s.env r with
    | none=>rw [hl] at hx;exact absurd hx.symm hne
    | some y=>rw [hl] at hx;exact congrArg some hx
   have hyield:∀ b,a.tmps.getD r undef=.bool b→yielded ops a.tmps j=some b:=by
    intro b hvv
    have h1:a.tmps[r]?=some (.bool b):=by
     rw [Array.getD_eq_getD_getElem?] at hvv
     cases hq:a.tmps[r]? with
     | none=>rw [hq] at hvv;simp [undef] at hvv
     | some y=>rw [hq] at hvv;simpa using hvv
    simp [yielded,hd,h1]
   have hyno:a.tmps.getD r undef=undef→yielded ops a.tmps j=none:=by
    intro hvv
    cases hq:a.tmps[r]? with
    | none=>simp [yielded,hd,hq]
    | some y=>
     rw [Array.getD_eq_getD_getElem?,hq] at hvv
     have:y=undef:=by simpa using hvv
     subst this
     simp [yielded,hd,hq,undef]
   split at h
   ·rename_i b hb
    have hl:=hslot _ hb (by simp)
    obtain ⟨m,hm⟩:=hr
    have hv:=hm.env r _ hl
    generalize hvv:a.tmps.getD r undef=vv at hv
    cases hv
    have hy:=hyield b hvv
    refine sH h ⟨m,hm⟩ ?_ ?_ ?_ hk
    ·cases want<;>cases b<;>simp [Region.wanted,hg,hy]
    ·intro hc
     refine ⟨m,hm.know ?_⟩
     rw [hvv]
     have:b=want:=by cases want<;>cases b<;>simp at hc<;>rfl
     rw [this];exact .bool want
    ·intro hc
     refine ⟨m,hm.know ?_⟩
     rw [hvv]
     have:b=!want:=by cases want<;>cases b<;>simp at hc<;>rfl
     rw [this];exact .bool _
   ·rename_i c b hb
    have hl:=hslot _ hb (by simp)
    have hr':=hr
    obtain ⟨m,hm⟩:=hr'
    have hv:=hm.env r _ hl
    refine sH h hr ?_ (fun _=>hr) (fun _=>hr) hk
    cases hv with
    | opt _ _ _ _ h1 h2=>
     cases c with
     | true=>
      have h1':=h1 rfl
      generalize hvv:a.tmps.getD r undef=vv at h1'
      cases h1'
      have hy:=hyield b hvv
      cases want<;>cases b<;>simp [Region.wanted,hg,hy]
     | false=>
      have hy:=hyno (h2 rfl)
      cases want<;>simp [Region.wanted,hg,hy]
   ·exact h.elim
theorem uU {ops:Array Oper} {Qc:Exit→Act→World→Prop}:∀ (l:List Oper) (s:S) (Q:S→Prop),yB P w0 T0 ops l s Q→∀ (a:Act) (w:World),Rep w0 T0 H s a w →
  (∀ s' a' w',Q s'→Rep w0 T0 H s' a' w'→Qc .normal a' w')→wpList P ops Qc l a w
 | [],s,Q,h,a,w,hr,hq=>wpList_nil (hq s a w h hr)
 | o::rest,s,Q,h,a,w,hr,hq=>by
  unfold yB at h
  refine wpList_step fun K hK=>?_
  exact yg h hr fun s' a' w' hk hr'=>hK _ _ (uU rest s' Q hk a' w' hr' hq)
end
/-! ### Regions whose order is drawn -/
inductive uw where
 | done
 | first (i:Nat) (t:uw)
 | cons (i:Nat) (t r:uw)
 | stop
def FT (o:Oper):Bool:=match o.guard,o.op with
 | none,.move _=>true
 | none,.assign _=>true
 | none,.fieldAddr _ _ _=>true
 | _,_=>false
def dP (ops:Array Oper):uw→Nat→Array Bool→Option (List Nat)→Bool
 | .done,_,listed,none=>(Region.ready .any ops listed).isEmpty
 | .first i t,n+1,listed,none=>((ops[i]?).map FT).getD false && Region.free .any ops listed i && (Region.ready .any ops listed).contains i && dP ops t n (listed.setIfInBounds i true) none
 | .cons i t r,n+1,listed,none=>match Region.ready .any ops listed with
  | j::l=>i == j && dP ops t n (listed.setIfInBounds i true) none && dP ops r (n+1) listed (some l)
  | []=>false
 | .cons i t r,n+1,listed,some q=>match q with
  | j::l=>i == j && dP ops t n (listed.setIfInBounds i true) none && dP ops r (n+1) listed (some l)
  | []=>false
 | .stop,_+1,_,some q=>q.isEmpty
 | _,_,_,_=>false
def gX (P:Program) (w0:World) (T0:Bs) (ops:Array Oper):uw→S→(S→Prop)→Prop
 | .done,s,Q=>Q s
 | .first i t,s,Q=>match ops[i]? with
  | some o=>match o.op with
   | .move x=>aS (ak x) (dZ o.dst (s.ev x) s (fun s'=>gX P w0 T0 ops t s' Q))
   | .assign x=>aS (ak x) (dZ o.dst (s.ev x) s (fun s'=>gX P w0 T0 ops t s' Q))
   | .fieldAddr ty x k=>aS (ak x) (fB P ty x k s (fun r s1=>dZ o.dst r s1 (fun s'=>gX P w0 T0 ops t s' Q)))
   | _=>False
  | none=>False
 | .cons i t r,s,Q=>match ops[i]? with
  | some o=>Gs P w0 T0 ops o s (fun s'=>gX P w0 T0 ops t s' Q)∧gX P w0 T0 ops r s Q
  | none=>False
 | .stop,_,_=>True
def thenS (next:S→Prop) (Q:Exit→S→Prop):Exit→S→Prop
 | .normal,s=>next s
 | e,s=>Q e s
def wH (id:Nat) (Q:Exit→S→Prop):Exit→S→Prop
 | .exit i,s=>if i=id then Q .normal s else Q (.exit i) s
 | e,s=>Q e s
def Hr (c:Operand) (b:Bool) (s:S):S:=
 match c with
 | .tmp t=>s.set t (.bool b)
 | _=>s
def Lm (Q:Exit→S→Prop):Exit→S→Prop
 | .goto _,_=>False
 | e,s=>Q e s
def fA (P:Program) (w0:World) (T0:Bs) (b0:Nat):Code→(Exit→S→Prop)→S→Prop
 | .skip,Q,s=>Q .normal s
 | .label _,Q,s=>Q .normal s
 | .region id ops draw,Q,s=>match draw with
  | true=>@dN P w0 T0 b0 id ops s ⟨Q .normal⟩
  | false=>yB P w0 T0 ops ops.toList s (Q .normal)
 | .seq x y,Q,s=>fA P w0 T0 b0 x (thenS (fA P w0 T0 b0 y Q) Q) s
 | .cond c x y,Q,s=>match s.ev c with
  | .bool b=>aS (ak c) (@Ite b ⟨fA P w0 T0 b0 x Q (Hr c true s)⟩ ⟨fA P w0 T0 b0 y Q (Hr c false s)⟩)
  | _=>False
 | .block id c,Q,s=>fA P w0 T0 b0 c (wH id Q) s
 | .loop c,Q,s=>@aU P w0 T0 b0 c s ⟨Q⟩
 | .exit id,Q,s=>Q (.exit id) s
 | .ret,Q,s=>Q .ret s
 | .scope c,Q,s=>fA P w0 T0 b0 c (Lm Q) s
 | _,_,_=>False
section
variable {P:Program} {w0:World} {T0:Bs} {b0:Nat} [hG:lZ P w0 T0]
theorem lM:∀ (c:Code) (Q:Exit→S→Prop) (s:S),fA P w0 T0 b0 c Q s→∀ (H:List (AV × Value)) (a:Act) (w:World),wz b0 H→Rep w0 T0 H s a w →
  c.wp P (fun e a' w'=>∃ s',Q e s'∧Rep w0 T0 H s' a' w') a w:=by
 intro c
 induction c with
 | skip=>intro Q s h H a w hH hr;exact wp_skip ⟨s,h,hr⟩
 | label l=>intro Q s h H a w hH hr;exact wp_label ⟨s,h,hr⟩
 | region id ops draw=>
  intro Q s h H a w hH hr
  cases draw with
  | true=>
   exact wp_mono (h H a w hH hr) fun e a' w' ⟨he,s',hq,hr'⟩=>by subst he;exact ⟨s',hq,hr'⟩
  | false=>
   exact wp_region_list (uU ops.toList s (Q .normal) h a w hr fun s' a' w' hq hr'=>⟨s',hq,hr'⟩)
 | seq x y ihx ihy=>
  intro Q s h H a w hH hr
  refine wp_seq (wp_mono (ihx _ s h H a w hH hr) ?_)
  rintro e a' w' ⟨s',hq,hr'⟩
  cases e with
  | normal=>exact ihy Q s' hq H a' w' hH hr'
  | _=>exact ⟨s',hq,hr'⟩
 | cond c x y ihx ihy=>
  intro Q s h H a w hH hr
  simp only [fA] at h
  obtain ⟨m,hm⟩:=hr
  cases hc:s.ev c with
  | bool b=>
   rw [hc] at h
   obtain ⟨hok,h⟩:=h
   have rc:=hm.ev c hok
   rw [hc] at rc
   generalize hv:a.eval c=vc at rc
   cases rc
   have hk:Rep w0 T0 H (Hr c b s) a w:=by
    cases c with
    | tmp t=>exact ⟨m,hm.know (by have:a.tmps.getD t undef=.bool b:=hv;rw [this];exact .bool b)⟩
    | _=>exact ⟨m,hm⟩
   cases b with
   | true=>exact wp_cond_true hv (ihx Q _ (h.1 rfl) H a w hH hk)
   | false=>exact wp_cond_false hv (ihy Q _ (h.2 rfl) H a w hH hk)
  | _=>rw [hc] at h;exact h.elim
 | block id c ih=>
  intro Q s h H a w hH hr
  refine wp_block (wp_mono (ih _ s h H a w hH hr) ?_)
  rintro e a' w' ⟨s',hq,hr'⟩
  cases e with
  | exit i=>
   simp only [wH] at hq
   simp only [Exit.inBlock]
   split at hq
   ·rename_i e;rw [if_pos e];exact ⟨s',hq,hr'⟩
   ·rename_i e;rw [if_neg e];exact ⟨s',hq,hr'⟩
  | _=>exact ⟨s',hq,hr'⟩
 | loop c ih=>intro Q s h H a w hH hr;exact h H a w hH hr
 | exit id=>intro Q s h H a w hH hr;exact wp_exit ⟨s,h,hr⟩
 | ret=>intro Q s h H a w hH hr;exact wp_ret ⟨s,h,hr⟩
 | scope c ih=>
  intro Q s h H a w hH hr
  refine wp_scope_straight (wp_mono (ih _ s h H a w hH hr) ?_)
  rintro e a' w' ⟨s',hq,hr'⟩
  cases e with
  | goto l=>exact hq.elim
  | _=>exact ⟨s',hq,hr'⟩
 | _=>intro Q s h;exact h.elim
/-! ### States that say less -/
def bC (w0:World) (T0:Bs) (b0:Nat) (s s':S):Prop:=∀ (H:List (AV × Value)) (a:Act) (w:World),wz b0 H→Rep w0 T0 H s a w→Rep w0 T0 H s' a w
theorem aU.intro {c:Code} {s:S} {Q:Exit→S→Prop} {α:Type} (shape:α→S) (I:α→Prop) (μ:α→Nat) (x0:α) (h0:bC w0 T0 b0 s (shape x0)) (hI:I x0)
  (body:∀ x,I x→fA P w0 T0 b0 c (thenS (fun s'=>∃ x',bC w0 T0 b0 s' (shape x')∧I x'∧μ x'<μ x) Q) (shape x)):@aU P w0 T0 b0 c s ⟨Q⟩:=by
 intro H a w hH hr
 refine wp_loop_ghost (fun n a w=>∃ x,μ x=n∧I x∧Rep w0 T0 H (shape x) a w) (μ x0) ⟨x0,rfl,hI,h0 H a w hH hr⟩ ?_
 rintro n a w ⟨x,rfl,hx,hr⟩
 refine wp_mono (lM c _ _ (body x hx) H a w hH hr) ?_
 rintro e a' w' ⟨s',hq,hr'⟩
 cases e with
 | normal=>
  obtain ⟨x',he,hI',hlt⟩:=hq
  exact ⟨μ x',hlt,x',rfl,hI',he H a' w' hH hr'⟩
 | _=>exact ⟨s',hq,hr'⟩
def aX (P:Program) (w0:World) (T0:Bs) (b0:Nat) (c:Code) (s:S) (Q:Exit→S→Prop):Prop:=
 ∀ (H:List (AV × Value)) (a:Act) (w:World),wz b0 H→Rep w0 T0 H s a w→c.wp P (fun e a' w'=>∃ s',Q e s'∧Rep w0 T0 H s' a' w') a w
theorem aX.of {c:Code} {s:S} {Q:Exit→S→Prop} (h:fA P w0 T0 b0 c Q s):aX P w0 T0 b0 c s Q:=lM c Q s h
theorem aX.seq {x y:Code} {s:S} {Q:Exit→S→Prop} (h:fA P w0 T0 b0 x (thenS (fun s'=>aX P w0 T0 b0 y s' Q) Q) s):aX P w0 T0 b0 (.seq x y) s Q:=by
 intro H a w hH hr
 refine wp_seq (wp_mono (lM x _ s h H a w hH hr) ?_)
 rintro e a' w' ⟨s',hq,hr'⟩
 cases e with
 | normal=>exact hq H a' w' hH hr'
 | _=>exact ⟨s',hq,hr'⟩
theorem aX.cut {x y:Code} {s:S} {Q:Exit→S→Prop} {α:Type} (shape:α→S) (I:α→Prop) (h:aX P w0 T0 b0 x s (thenS (fun s'=>∃ z,bC w0 T0 b0 s' (shape z)∧I z) Q)) (h2:∀ z,I z→aX P w0 T0 b0 y (shape z) Q):aX P w0 T0 b0 (.seq x y) s Q:=by
 intro H a w hH hr
 refine wp_seq (wp_mono (h H a w hH hr) ?_)
 rintro e a' w' ⟨s',hq,hr'⟩
 cases e with
 | normal=>obtain ⟨z,he,hz⟩:=hq;exact h2 z hz H a' w' hH (he H a' w' hH hr')
 | _=>exact ⟨s',hq,hr'⟩
theorem aX.block {x:Code} {id:Nat} {s:S} {Q:Exit→S→Prop} (h:aX P w0 T0 b0 x s (wH id Q)):aX P w0 T0 b0 (.block id x) s Q:=by
 intro H a w hH hr
 refine wp_block (wp_mono (h H a w hH hr) ?_)
 rintro e a' w' ⟨s',hq,hr'⟩
 cases e with
 | exit i=>
  simp only [wH] at hq
  simp only [Exit.inBlock]
  split at hq
  ·rename_i e;rw [if_pos e];exact ⟨s',hq,hr'⟩
  ·rename_i e;rw [if_neg e];exact ⟨s',hq,hr'⟩
 | _=>exact ⟨s',hq,hr'⟩
theorem aX.ent {x:Code} {s s':S} {Q:Exit→S→Prop} (he:bC w0 T0 b0 s s') (h:aX P w0 T0 b0 x s' Q):aX P w0 T0 b0 x s Q:=
 fun H a w hH hr=>h H a w hH (he H a w hH hr)
theorem aU.run {c:Code} {s:S} {Q:Exit→S→Prop} {α:Type} (shape:α→S) (I:α→Prop) (μ:α→Nat) (x0:α) (h0:bC w0 T0 b0 s (shape x0)) (hI:I x0)
  (body:∀ x,I x→aX P w0 T0 b0 c (shape x) (thenS (fun s'=>∃ x',bC w0 T0 b0 s' (shape x')∧I x'∧μ x'<μ x) Q)):@aU P w0 T0 b0 c s ⟨Q⟩:=by
 intro H a w hH hr
 refine wp_loop_ghost (fun n a w=>∃ x,μ x=n∧I x∧Rep w0 T0 H (shape x) a w) (μ x0) ⟨x0,rfl,hI,h0 H a w hH hr⟩ ?_
 rintro n a w ⟨x,rfl,hx,hr⟩
 refine wp_mono (body x hx H a w hH hr) ?_
 rintro e a' w' ⟨s',hq,hr'⟩
 cases e with
 | normal=>
  obtain ⟨x',he,hI',hlt⟩:=hq
  exact ⟨μ x',hlt,x',rfl,hI',he H a' w' hH hr'⟩
 | _=>exact ⟨s',hq,hr'⟩
end
end Go.Fv
