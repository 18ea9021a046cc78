/-
  A part of the proof of the claim: walks over the program's functions and the plain laws that these need. No condition of its own.
-/
import Derived.Test.YtfhmmlobedilnaaGreatDoorFvPart4
import Derived.Test.YtfhmmlobedilnaaGreatDoorFvPart6
import Derived.Test.YtfhmmlobedilnaaGreatDoorFvPart5
import Derived.Orders
import Derived.Still
import Derived.Scope
set_option linter.unusedSectionVars false
set_option linter.unusedVariables false
set_option linter.unusedSimpArgs false
set_option linter.unnecessarySimpa false
/-
 Views of an own row from a place on; append of one view onto another of the same row; clear.
-/
namespace Go.Fv
open Go.RowKit
def oU (r:au) (o:Nat) (r2:au):Option au:=match appRow (bn r 0 o) r2 with
 | some a=>appRow a (bn r (o+r2.len) r.len)
 | none=>none
theorem rV (r:au) (a b:Nat):(bn r a b).sz=r.sz:=by cases r<;>rfl
theorem yP {c:Ctx} {r r2 r3:au} {cells cells2:List Value} {o:Nat} (h1:aS c r cells) (h2:aS c r2 cells2) (hle:o+r2.len≤r.len) (h:oU r o r2=some r3) :
  aS c r3 (cells.take (o*r.sz)++cells2++cells.drop (o*r.sz+cells2.length))∧r3.len=r.len∧r3.sz=r.sz∧r2.sz=r.sz:=by
 unfold oU at h
 have hs1:=h1.sub 0 o
 have hs2:=h1.sub (o+r2.len) r.len
 cases ha:appRow (bn r 0 o) r2 with
 | none=>rw [ha] at h;cases h
 | some x=>
  rw [ha] at h
  obtain ⟨k1,k2,k3,k4⟩:=qX hs1 h2 ha
  obtain ⟨q1,q2,q3,q4⟩:=qX k1 hs2 h
  rw [rV] at k3 k4
  have e2:cells2.length=r2.len*r.sz:=by rw [h2.len,k4]
  refine ⟨?_,?_,by rw [q3,k3],k4⟩
  ·simp only [Nat.zero_mul,List.drop_zero,Nat.sub_zero] at q1
   have e3:(List.take ((r.len - (o+r2.len))*r.sz) (List.drop ((o+r2.len)*r.sz) cells))=List.drop (o*r.sz+cells2.length) cells:=by
    rw [e2,←Nat.add_mul]
    refine List.take_of_length_le ?_
    rw [List.length_drop,h1.len,Nat.sub_mul]
    exact Nat.le_refl _
   rw [e3] at q1
   exact q1
  ·rw [q2,k2,dO _ _ _ (by omega),dO _ _ _ (Nat.le_refl _)];omega
section
variable {P:Program} {w0:World} {T0:Bs} {o:Oper} {s:S} {K:AV→S→Prop}
theorem aF.Oy {H:List (AV × Value)} {a:Act} {w:World} {m:Nat→Value} (hm:aF w0 T0 H s a w m) {i:Nat} {e:TypeId} {r:au} (hi:lk s.rows i=some (.row e r)) {g n cap:Nat} {cur:Array Value} {fz:Nat × Nat} {cells:List Value}
  (hr:aS (ak T0 w0.heap.size m s w) r cells) (hn:r.len=n) (hxl:cells.length=n*r.sz) (hv:m i=.slice (some ⟨g,0,none⟩) n cap) (hmk:Mk e fz cur.size) (hh:w.heap[g]?=some (.cells cur e fz)) (hnc:n≤cap) (hcm:cap≤maxLen)
  (hcs:cur.size=cap*r.sz) (htake:cur.toList.take (n*r.sz)=cells) (hO:∀ b,blk (m i)=some b→ownB T0 w0.heap.size b) {p:Nat} {r2 r3:au} {cells2:List Value} (hr2:aS (ak T0 w0.heap.size m s w) r2 cells2) (h3:oU r p r2=some r3) (hle:p+r2.len≤n) :
  aF w0 T0 H (s.upd i (.row e r3)) a (w.setRow g (cur.toList.take (p*r.sz)++cells2++cur.toList.drop (p*r.sz+cells2.length)).toArray) m:=by
 obtain ⟨hr3,hlen3,hsz3,hsz2⟩:=yP hr hr2 (by omega) h3
 have hl2:cells2.length=r2.len*r.sz:=by rw [hr2.len,hsz2]
 have hfit:p*r.sz+cells2.length≤n*r.sz:=by rw [hl2,←Nat.add_mul];exact Nat.mul_le_mul_right _ hle
 have hcapn:n*r.sz≤cap*r.sz:=Nat.mul_le_mul_right _ hnc
 have hcl:cur.toList.length=cap*r.sz:=by rw [Array.length_toList];exact hcs
 have hlen:(cur.toList.take (p*r.sz)++cells2++cur.toList.drop (p*r.sz+cells2.length)).length=cur.size:=by
  simp only [List.length_append,List.length_take,List.length_drop,Array.length_toList,hcs];omega
 refine hm.upd (aK.setRow hm.below (hO g (by rw [hv];rfl)) _) hi (fun b hb hne=>setRow_other w g b _ (fun e=>hne (by rw [hv,e];rfl))) _ (fun c hle' hw hmm hN=>?_)
 refine ⟨n,_,hr3.mono hle',by rw [hlen3,hn],?_,hO⟩
 refine ⟨?_,.inr ⟨g,cap,_,fz,hv,by rw [List.size_toArray,hlen];exact hmk,by rw [hw];exact setRow_heap w g _ _ _ _ hh,hnc,hcm,by rw [List.size_toArray,hlen,hsz3];exact hcs,?_⟩⟩
 ·rw [hsz3]
  simp only [List.length_append,List.length_take,List.length_drop,hxl];omega
 ·rw [hsz3]
  show List.take (n*r.sz) (cur.toList.take (p*r.sz)++cells2++cur.toList.drop (p*r.sz+cells2.length))=_
  rw [←htake]
  rw [List.take_append,List.take_of_length_le (by simp only [List.length_append,List.length_take,hcl];omega)]
  congr 1
  ·rw [List.take_take,Nat.min_eq_left (by omega)]
  ·simp only [List.length_append,List.length_take,hcl]
   rw [List.drop_take]
   congr 1
   omega
def FY:Option Operand→Nat
 | some (.tmp k)=>2000000+k
 | _=>1999999
def qP (P:Program) (t:TypeId) (x:Operand) (lo hi mx:Option Operand) (s:S) (K:AV→S→Prop):Prop:=
 match s.ev x with
 | .own i=>match lk s.rows i with
  | some (.row _ r)=>match mx with
   | some y=>match P.underlying t with
    | some (.slice e)=>match bnd s lo 0 with
     | some p=>match bnd s hi r.len with
      | some q=>match bnd s (some y) 0 with
       | some z=>aN ((jA lo∧jA hi∧jA (some y))∧P.cellsOf e=r.sz∧hi.isSome=true) (aN (0≤p∧p≤q∧q≤z∧z≤r.len) (K .dead s))
       | none=>False
      | none=>False
     | none=>False
    | _=>False
   | none=>match lk s.env (FY lo) with
    | some _=>match P.underlying t with
     | some (.slice e)=>match bnd s lo 0 with
      | some p=>match bnd s hi r.len with
       | some q=>aN ((jA lo∧jA hi)∧P.cellsOf e=r.sz) (aN (0≤p∧p≤q∧q≤r.len) (K (.suf i r.sz p.toNat (q.toNat - p.toNat)) s))
       | none=>False
      | none=>False
     | _=>False
    | none=>nT P t x lo hi none s K
  | _=>nT P t x lo hi mx s K
 | .pre i n=>match lk s.rows i with
  | some (.row _ r)=>match mx with
   | some _=>False
   | none=>match P.underlying t with
    | some (.slice e)=>match bnd s lo 0 with
     | some p=>match bnd s hi n with
      | some q=>aN ((jA lo∧jA hi)∧P.cellsOf e=r.sz) (aN (0≤p∧p≤q∧q≤r.len) (K (.suf i r.sz p.toNat (q.toNat - p.toNat)) s))
      | none=>False
     | none=>False
    | _=>False
  | _=>False
 | _=>nT P t x lo hi mx s K
theorem Bl {w:World} (len cap:Nat) (lo hi:Option Value) (mx:Value) (p q z:Int) (hp:(lo=none∧p=0)∨∃ k,lo=some (.int k p)) (hq:∃ k,hi=some (.int k q)) (hz:∃ k,mx=.int k z)
  (h0:0≤p) (h1:p≤q) (h2:q≤z) (h3:z≤len) (hc:len≤cap):(Instr.sliceBounds true len cap lo hi (some mx)).run P w=.ok (p.toNat,q.toNat,z.toNat) w:=by
 obtain ⟨k,rfl⟩:=hz
 obtain ⟨k',rfl⟩:=hq
 have e1:=run_sliceBound (P:=P) w k z cap .slice3Acap (by omega) (by omega)
 have e2:=run_sliceBound (P:=P) w k' q z.toNat .slice3B (by omega) (by omega)
 rcases hp with ⟨rfl,rfl⟩|⟨k'',rfl⟩
 ·simp [Instr.sliceBounds,e1,e2]
 ·have e3:=run_sliceBound (P:=P) w k'' p q.toNat .slice3C (by omega) (by omega)
  simp [Instr.sliceBounds,e1,e2,e3]
theorem mM {w:World} {t e:TypeId} {inf:TypeInfo} (ht:P.underlying t=some (.slice e)) (hi:P.info? e=some inf) (a:Option Addr) (len cap:Nat) (lo hi' mx:Option Value) (p q z:Nat)
  (hb:(Instr.sliceBounds true len cap lo hi' mx).run P w=.ok (p,q,z) w):(Instr.sliceAt t (.slice a len cap) lo hi' mx).run P w=.ok (.slice (a.map fun x=>if z=p then x else x.add (p*P.cellsOf e)) (q - p) (z - p)) w:=by
 have hs:=bC (P:=P) hi w
 have hsl:(Instr.sliceAt t (.slice a len cap) lo hi' mx).run P w=(Instr.slice t (.slice a len cap) lo hi' mx).run P w:=by simp [Instr.sliceAt,run_underlying ht]
 rw [hsl]
 simp only [Instr.slice,Sem.run_bind,run_underlying ht,Result.andThen_ok,hb,hs,Sem.run_pure]
 by_cases hz:z=p
 ·simp [hz]
 ·simp [hz]
theorem uU {w:World} (len cap:Nat) (lo hi:Option Value) (p q:Int) (hp:(lo=none∧p=0)∨∃ k,lo=some (.int k p)) (hq:(hi=none∧q=len)∨∃ k,hi=some (.int k q))
  (h0:0≤p) (h1:p≤q) (hqc:q≤(cap:Int)):(Instr.sliceBounds true len cap lo hi none).run P w=.ok (p.toNat,q.toNat,cap) w:=by
 have hq0:0≤q:=by omega
 rcases hp with ⟨rfl,rfl⟩|⟨k,rfl⟩<;>rcases hq with ⟨rfl,rfl⟩|⟨k',rfl⟩
 ·simp [Instr.sliceBounds]
 ·simp [Instr.sliceBounds,run_sliceBound,hq0,hqc]
 ·have h1':p≤((len:Nat):Int):=h1
  simp [Instr.sliceBounds,run_sliceBound,h0,h1']
 ·have e1:=run_sliceBound (P:=P) w k' q cap .sliceAcap hq0 hqc
  have e2:=run_sliceBound (P:=P) w k p q.toNat .sliceB h0 (by omega)
  simp [Instr.sliceBounds,e1,e2]
theorem xk {t:TypeId} {x:Operand} {lo hi mx:Option Operand} (ho:o.op=.slice t x lo hi mx) (hx:aj x) (h:qP P t x lo hi mx s K):aB P w0 T0 o s K:=by
 unfold qP at h
 -- a view of row i
 have view:∀ (i:Nat) (e':TypeId) (r:au) (n:Nat) (p q:Int) (e:TypeId),lk s.rows i=some (.row e' r)→P.underlying t=some (.slice e)→bnd s lo 0=some p→bnd s hi n=some q→mx=none→jA lo→jA hi→P.cellsOf e=r.sz→0≤p→p≤q→q≤r.len →
   (∀ (H:List (AV × Value)) (a:Act) (w:World) (m:Nat→Value),aF w0 T0 H s a w m→∃ ad l cap,m i=.slice ad l cap∧a.eval x=.slice ad n cap)→K (.suf i r.sz p.toNat (q.toNat - p.toNat)) s→aB P w0 T0 o s K:=by
  intro i e' r n p q e hi' ht hp hq hmx hlo hhi hce h0 h1 h2 hval hk
  subst hmx
  refine aB.mem fun H a w m hm=>?_
  obtain ⟨k,cells,hr,hkn,how,hO⟩:=(hm.rows i _ hi').2
  have hiN:=(hm.rows i _ hi').1
  obtain ⟨ad,l,cap,hmi,hev⟩:=hval H a w m hm
  have hl:l=k∧k≤cap:=by
   rcases how.2 with ⟨hv,hz⟩|⟨g,cap2,cur,fz,hv,_,_,hnc,_⟩
   ·rw [hv] at hmi;cases hmi;omega
   ·rw [hv] at hmi;cases hmi;exact ⟨rfl,hnc⟩
  obtain ⟨inf,hinf⟩:=aQ (P:=P) (t:=e) (by rw [hce];exact hr.pos)
  have hb:=uU (P:=P) (w:=w) n cap (lo.map a.eval) (hi.map a.eval) p q (by rcases ni hm hlo hp with ⟨rfl,rfl⟩|h;exact .inl ⟨rfl,rfl⟩;exact .inr h) (by rcases ni hm hhi hq with ⟨rfl,rfl⟩|h;exact .inl ⟨rfl,rfl⟩;exact .inr h) h0 h1 (by omega)
  refine ⟨_,_,s,w,m,hk,.inl ?_,hm.hold (.suf i r.sz p.toNat (q.toNat - p.toNat) l cap ad hiN hmi (by omega))⟩
  unfold execOp;rw [ho]
  have:=mM (P:=P) (w:=w) ht hinf ad n cap (lo.map a.eval) (hi.map a.eval) none p.toNat q.toNat cap hb
  rw [hce] at this
  simp [hev,this]
 split at h
 ·rename_i i hax
  split at h
  ·rename_i e' r hi'
   split at h
   ·rename_i y
    split at h
    ·rename_i e ht
     split at h
     ·rename_i p hp
      split at h
      ·rename_i q hq
       split at h
       ·rename_i z hz
        obtain ⟨⟨⟨hlo,hhi,hy⟩,hce,his⟩,⟨h0,h1,h2,h3⟩,hk⟩:=h
        refine aB.mem fun H a w m hm=>?_
        obtain ⟨k,cells,hr,hkn,how,hO⟩:=(hm.rows i _ hi').2
        obtain ⟨inf,hinf⟩:=aQ (P:=P) (t:=e) (by rw [hce];exact hr.pos)
        have rx:=hm.ev x hx
        rw [hax] at rx
        generalize hvx:a.eval x=vx at rx
        cases rx with
        | own _ _ h1'=>
         obtain ⟨ad,cap,hv,hkc⟩:∃ ad cap,m i=.slice ad k cap∧k≤cap:=by
          rcases how.2 with ⟨hv,hz⟩|⟨g,cap2,cur,fz,hv,_,_,hnc,_⟩
          ·exact ⟨none,0,by rw [hz];exact hv,by omega⟩
          ·exact ⟨_,_,hv,hnc⟩
         have hmx:∃ kk,a.eval y=.int kk z:=by
          rcases ni hm hy hz with ⟨h,_⟩|⟨kk,h⟩
          ·cases h
          ·exact ⟨kk,by simpa using h⟩
         have hhi':∃ kk,hi.map a.eval=some (.int kk q):=by
          rcases ni hm hhi hq with ⟨rfl,_⟩|h
          ·cases his
          ·exact h
         have hb:=Bl (P:=P) (w:=w) k cap (lo.map a.eval) (hi.map a.eval) (a.eval y) p q z (by rcases ni hm hlo hp with ⟨rfl,rfl⟩|h;exact .inl ⟨rfl,rfl⟩;exact .inr h) hhi' hmx h0 h1 h2 (by omega) hkc
         have this:=mM (P:=P) (w:=w) ht hinf ad k cap (lo.map a.eval) (hi.map a.eval) (some (a.eval y)) p.toNat q.toNat z.toNat hb
         have hvx':a.eval x=.slice ad k cap:=hvx.trans hv
         rw [←hvx'] at this
         generalize Value.slice _ _ _=vv at this
         refine ⟨.dead,vv,s,w,m,hk,.inl ?_,hm.hold (.dead _)⟩
         unfold execOp;rw [ho]
         simp [this]
       ·exact h.elim
      ·exact h.elim
     ·exact h.elim
    ·exact h.elim
   ·split at h
    ·split at h
     ·rename_i e ht
      split at h
      ·rename_i p hp
       split at h
       ·rename_i q hq
        obtain ⟨⟨⟨hlo,hhi⟩,hce⟩,⟨h0,h1,h2⟩,hk⟩:=h
        refine view i e' r r.len p q e hi' ht hp hq rfl hlo hhi hce h0 h1 h2 (fun H a w m hm=>?_) hk
        obtain ⟨k,cells,hr,hkn,how,hO⟩:=(hm.rows i _ hi').2
        have rx:=hm.ev x hx
        rw [hax] at rx
        generalize hvx:a.eval x=vx at rx
        cases rx with
        | own _ _ h1'=>
         rcases how.2 with ⟨hv,hz⟩|⟨g,cap2,cur,fz,hv,_,_,hnc,_⟩
         ·exact ⟨none,0,0,hv,by rw [hkn,hz];exact hv⟩
         ·exact ⟨_,_,_,hv,by rw [hkn];exact hv⟩
       ·exact h.elim
      ·exact h.elim
     ·exact h.elim
    ·exact jI ho hx h
  ·exact jI ho hx h
 ·rename_i i n hax
  split at h
  ·rename_i e' r hi'
   split at h
   ·exact h.elim
   ·split at h
    ·rename_i e ht
     split at h
     ·rename_i p hp
      split at h
      ·rename_i q hq
       obtain ⟨⟨⟨hlo,hhi⟩,hce⟩,⟨h0,h1,h2⟩,hk⟩:=h
       refine view i e' r n p q e hi' ht hp hq rfl hlo hhi hce h0 h1 h2 (fun H a w m hm=>?_) hk
       have rx:=hm.ev x hx
       rw [hax] at rx
       generalize hvx:a.eval x=vx at rx
       cases rx with
       | pre _ _ l cap ad hiN hv hnl=>exact ⟨ad,l,cap,hv,rfl⟩
      ·exact h.elim
     ·exact h.elim
    ·exact h.elim
  ·exact h.elim
 ·exact jI ho hx h
def iZ (P:Program) (t t2:TypeId) (x y:Operand) (s:S) (K:AV→S→Prop):Prop:=
 match s.ev x with
 | .pre i m=>match s.ev y with
  | .suf j sz o n=>match lk s.rows i with
   | some (.row e r)=>match P.underlying t with
    | some (.slice e')=>match P.underlying t2 with
     | some (.slice _)=>match oU r m (bn r o (o+n)) with
      | some r3=>aN ((aj x∧aj y)∧i=j∧e=e'∧sz=r.sz∧P.cellsOf e'=r.sz) (aN (0<r.len∧o+n≤r.len∧m+n≤r.len) (K (.pre i (m+n)) (s.upd i (.row e r3))))
      | none=>False
     | _=>False
    | _=>False
   | _=>False
  | _=>gI P t t2 x y s K
 | _=>gI P t t2 x y s K
theorem tX {t t2:TypeId} {x y:Operand} (ho:o.op=.call { callee:=.builtin .append,args:=#[x,y],argTypes:=#[t,t2] }) (hx:aj x) (h:iZ P t t2 x y s K):aB P w0 T0 o s K:=by
 unfold iZ at h
 split at h
 ·rename_i i m1 hax
  split at h
  ·rename_i j sz p n hay
   split at h
   ·rename_i e r hi'
    split at h
    ·rename_i e' ht
     split at h
     ·rename_i e2 ht2
      split at h
      ·rename_i r3 h3
       obtain ⟨⟨⟨_,hoy⟩,rfl,rfl,rfl,hce⟩,⟨hpos,h1,h2⟩,hk⟩:=h
       refine aB.mem fun H a w m hm=>?_
       obtain ⟨k,cells,hr,hkn,how,hO⟩:=(hm.rows i _ hi').2
       obtain ⟨inf,hinf⟩:=aQ (P:=P) (t:=e) (by rw [hce];exact hr.pos)
       have hisz:inf.size=r.sz:=by rw [←hce];simp [Program.cellsOf,hinf]
       rcases how.2 with ⟨hv,hz⟩|⟨g,cap,cur,fz,hv,hmk,hh,hnc,hcm,hcs,htake⟩
       ·omega
       have rx:=hm.ev x hx
       rw [hax] at rx
       generalize hvx:a.eval x=vx at rx
       have ry:=hm.ev y hoy
       rw [hay] at ry
       generalize hvy:a.eval y=vy at ry
       cases rx with
       | pre _ _ l cap2 ad hiN hv2 hml=>
        have hv2':m i=.slice ad l cap2:=hv2
        rw [hv] at hv2'
        cases hv2'
        cases ry with
        | suf _ _ _ _ l3 cap3 ad3 _ hv3 hol=>
         have hv3':m i=.slice ad3 l3 cap3:=hv3
         rw [hv] at hv3'
         cases hv3'
         have hsub:=hr.sub p (p+n)
         rw [Nat.add_sub_cancel_left] at hsub
         have hnl:(bn r p (p+n)).len=n:=by rw [dO _ _ _ h1];omega
         have hcells2:((cells.drop (p*r.sz)).take (n*r.sz)).length=n*r.sz:=by
          have:=hsub.len
          rw [hnl,rV] at this
          exact this
         have hsrc:Src P w t2 inf.size (.slice (Option.map (fun x=>if cap=p then x else x.add (p*r.sz)) (some ⟨g,0,none⟩)) n (cap - p)) n ((cells.drop (p*r.sz)).take (n*r.sz)):=by
          rw [Option.map_some]
          refine Src.slice ht2 (by rw [hcells2,hisz]) (fun j u hu=>?_)
          by_cases hcp:cap=p
          ·have hn0:n=0:=by omega
           subst hn0;simp at hu
          ·rw [if_neg hcp]
           have hj:j<n*r.sz:=by have:=(List.getElem?_eq_some_iff.1 hu).1;rw [hcells2] at this;exact this
           rw [List.getElem?_take_of_lt hj,List.getElem?_drop] at hu
           have h5:=kH hh (j:=p*r.sz+j) (u:=u) (by
            rw [←htake] at hu
            rw [List.getElem?_take] at hu
            split at hu
            ·simpa using hu
            ·cases hu)
           have e1:((⟨g,0,none⟩:Addr).add (p*r.sz)).add j=(⟨g,0,none⟩:Addr).add (p*r.sz+j):=by rw [Addr.add_add]
           rw [e1];exact h5
         have hcapm:m1*r.sz+((cells.drop (p*r.sz)).take (n*r.sz)).length≤cur.size:=by
          rw [hcells2,hcs,←Nat.add_mul]
          exact Nat.mul_le_mul_right _ (by omega)
         have hrun:=qx (P:=P) (w:=w) (t:=t) (t2:=t2) (ty:=o.type) ht hinf g m1 cap cur fz hh hmk.w hsrc hsub.one (by omega) (by rw [hisz];exact hcapm)
         rw [hisz] at hrun
         refine ⟨.pre i (m1+n),_,_,_,m,hk,.inl ?_,(hm.Oy hi' hr hkn how.1 hv hmk hh hnc hcm hcs htake hO hsub h3 (by rw [hnl];omega)).hold (.pre i (m1+n) k cap _ hiN hv (by omega))⟩
         unfold execOp;rw [ho]
         simp [resolve,invoke,builtin,hvx,hvy]
         rw [Option.map_some] at hrun
         simp [hrun]
      ·exact h.elim
     ·exact h.elim
    ·exact h.elim
   ·exact h.elim
  ·exact lg ho hx h
 ·exact lg ho hx h
def uD (P:Program) (t:TypeId) (x:Operand) (s:S) (K:AV→S→Prop):Prop:=
 match s.ev x with
 | .suf i sz o n=>match lk s.rows i with
  | some (.row e r)=>match P.underlying t with
   | some (.slice e')=>match zeroOf P e' with
    | some z=>match oU r o (iJ z n) with
     | some r3=>aN (aO P e' z) (aN (sz=r.sz∧r.sz=z.cells.size) (aN (0<n∧o+n≤r.len) (K .dead (s.upd i (.row e r3)))))
     | none=>False
    | none=>False
   | _=>False
  | _=>False
 | _=>False
theorem xO {t:TypeId} {x:Operand} (ho:o.op=.call { callee:=.builtin .clear,args:=#[x],argTypes:=#[t] }) (hx:aj x) (h:uD P t x s K):aB P w0 T0 o s K:=by
 unfold uD at h
 split at h
 ·rename_i i sz p n hax
  split at h
  ·rename_i e r hi'
   split at h
   ·rename_i e' ht
    split at h
    ·rename_i z hz
     split at h
     ·rename_i r3 h3
      obtain ⟨hez,⟨rfl,hrs⟩,⟨hn0,h1⟩,hk⟩:=h
      refine aB.mem fun H a w m hm=>?_
      obtain ⟨k,cells,hr,hkn,how,hO⟩:=(hm.rows i _ hi').2
      obtain ⟨inf,hinf,hiz,hisz,_⟩:=hez.ex
      rcases how.2 with ⟨hv,hz⟩|⟨g,cap,cur,fz,hv,hmk,hh,hnc,hcm,hcs,htake⟩
      ·omega
      have rx:=hm.ev x hx
      rw [hax] at rx
      generalize hvx:a.eval x=vx at rx
      cases rx with
      | suf _ _ _ _ l3 cap3 ad3 _ hv3 hol=>
       have hv3':m i=.slice ad3 l3 cap3:=hv3
       rw [hv] at hv3'
       cases hv3'
       obtain ⟨hzr,hzl,hzs⟩:=qR (ak T0 w0.heap.size m s w) hez.ok n
       have hcp:¬cap=p:=by omega
       have hadd:(⟨g,0,none⟩:Addr).add (p*r.sz)=⟨g,p*r.sz,none⟩:=by unfold Addr.add;split<;>simp_all
       have hzc:(Builtin.zeroCells z.cells n).toList=(List.replicate n z.cells.toList).flatten:=lY z.cells n
       have hzlen:((List.replicate n z.cells.toList).flatten).length=n*r.sz:=by rw [fO,Array.length_toList,hrs]
       have hst:=iC P g (p*r.sz) e fz _ 0 cur w hh hmk.w (by rw [hzlen,hcs,Nat.add_zero,←Nat.add_mul];exact Nat.mul_le_mul_right _ (by omega)) hzr.one
       rw [Nat.add_zero] at hst
       refine ⟨.dead,.tuple #[],_,_,m,hk,.inl ?_,(hm.Oy hi' hr hkn how.1 hv hmk hh hnc hcm hcs htake hO hzr h3 (by rw [hzl];omega)).hold (.dead _)⟩
       ·unfold execOp;rw [ho]
        obtain ⟨n',rfl⟩:∃ n',n=n'+1:=⟨n - 1,by omega⟩
        simp only [Option.map_some,if_neg hcp,hadd] at hvx
        simp [resolve,invoke,builtin,hvx,Builtin.clear_,run_underlying ht,zeroValue,typeInfo,hinf,hiz,hzc,hst]
     ·exact h.elim
    ·exact h.elim
   ·exact h.elim
  ·exact h.elim
 ·exact h.elim
end
end Go.Fv
/-
 Interface values of a known dynamic type; copy into a view.
-/
namespace Go.Fv
open Go.RowKit
def Jd (P:Program) (t:TypeId) (name:String):Option Nat:=((P.info? t).bind fun i=>i.methods.find? (·.name == name)).bind fun m=>m.func.map (·.1)
def Lh (P:Program) (t:TypeId) (name:String) (f:Nat):Prop:=∀ (v:Value) (w:World),(method (P.types.size+Made.depth) t v name).run P w=.ok (f,v) w
section
variable {P:Program} {w0:World} {T0:Bs} {o:Oper} {s:S} {K:AV→S→Prop}
def qM (P:Program) (t:TypeId) (x:Operand) (s:S) (K:AV→S→Prop):Prop:=
 match P.underlying t with
 | some (.interface _)=>False
 | some _=>aN (aj x) (K (.ifc t (s.ev x)) s)
 | none=>False
theorem xZ {t:TypeId} {x:Operand} (ho:o.op=.makeInterface t x) (h:qM P t x s K):bf P w0 T0 o s K:=by
 unfold qM at h
 cases hu:P.underlying t with
 | none=>rw [hu] at h;exact h.elim
 | some d=>
  rw [hu] at h
  have hd:∀ m,d≠.interface m:=by rintro m rfl;exact h.elim
  have h2:aN (aj x) (K (.ifc t (s.ev x)) s):=by cases d<;>first|exact h|exact (hd _ rfl).elim
  obtain ⟨hx,hk⟩:=h2
  intro H a w m hm
  refine ⟨.ifc t (s.ev x),.iface t (a.eval x),hk,?_,.ifc _ _ _ (hm.ev x hx)⟩
  unfold execOp;rw [ho]
  cases d<;>first|exact (hd _ rfl).elim|simp [Instr.makeInterface,run_underlying hu]
theorem xY {t:TypeId} {x:Operand} (ho:o.op=.makeInterface t x) (h:qM P t x s K):aB P w0 T0 o s K:=(xZ ho h).op
def Aq (P:Program) (t t2:TypeId) (x y:Operand) (s:S) (K:AV→S→Prop):Prop:=
 match s.ev x with
 | .suf i sz o n=>match s.ev y with
  | .own j=>match lk s.rows i with
   | some (.row e r)=>match lk s.rows j with
    | some (.row e2 r2)=>match P.underlying t with
     | some (.slice e')=>match P.underlying t2 with
      | some (.slice _)=>match oU r o r2 with
       | some r3=>aN ((aj x∧aj y)∧sz=r.sz∧P.cellsOf e'=r.sz∧r.sz=1) (aN (0<r2.len∧r2.len≤n∧o+n≤r.len) (K (.int .i64 r2.len) (s.upd i (.row e r3))))
       | none=>False
      | _=>False
     | _=>False
    | _=>False
   | _=>False
  | _=>False
 | _=>False
theorem Ar {t t2:TypeId} {x y:Operand} (ho:o.op=.call { callee:=.builtin .copy,args:=#[x,y],argTypes:=#[t,t2] }) (h:Aq P t t2 x y s K):aB P w0 T0 o s K:=by
 unfold Aq at h
 split at h
 ·rename_i i sz p n hax
  split at h
  ·rename_i j hay
   split at h
   ·rename_i e r hi'
    split at h
    ·rename_i e2 r2 hj'
     split at h
     ·rename_i e' ht
      split at h
      ·rename_i e3 ht2
       split at h
       ·rename_i r3 h3
        obtain ⟨⟨⟨hx,hoy⟩,rfl,hce,hs1⟩,⟨hpos,h1,h2⟩,hk⟩:=h
        refine aB.mem fun H a w m hm=>?_
        obtain ⟨k,cells,hr,hkn,how,hO⟩:=(hm.rows i _ hi').2
        obtain ⟨k2,cells2,hr2,hkn2,how2,hO2⟩:=(hm.rows j _ hj').2
        obtain ⟨hr3,hlen3,hsz3,hsz2⟩:=yP hr hr2 (by omega) h3
        obtain ⟨inf,hinf⟩:=aQ (P:=P) (t:=e') (by rw [hce];exact hr.pos)
        have hisz:inf.size=r.sz:=by rw [←hce];simp [Program.cellsOf,hinf]
        rcases how.2 with ⟨hv,hz⟩|⟨g,cap,cur,fz,hv,hmk,hh,hnc,hcm,hcs,htake⟩
        ·omega
        rcases how2.2 with ⟨hv2,hz2⟩|⟨g2,cap2,cur2,fz2,hv2,hmk2,hh2,hnc2,hcm2,hcs2,htake2⟩
        ·omega
        have rx:=hm.ev x hx
        rw [hax] at rx
        generalize hvx:a.eval x=vx at rx
        have ry:=hm.ev y hoy
        rw [hay] at ry
        generalize hvy:a.eval y=vy at ry
        cases rx with
        | suf _ _ _ _ l3 cap3 ad3 _ hv3 hol=>
         have hv3':m i=.slice ad3 l3 cap3:=hv3
         rw [hv] at hv3'
         cases hv3'
         cases ry with
         | own _ hj2 hvj=>
          rw [show (ak T0 w0.heap.size m s w).m j=m j from rfl,hv2] at hvy
          have hcp:¬cap=p:=by omega
          have hadd:(⟨g,0,none⟩:Addr).add (p*r.sz)=⟨g,p*r.sz,none⟩:=by unfold Addr.add;split<;>simp_all
          simp only [Option.map_some,if_neg hcp,hadd] at hvx
          have hl2:cells2.length=k2:=by rw [hr2.len,hsz2,hs1,Nat.mul_one,hkn2]
          have hsrc:∀ (q:Nat) (u:Value),cells2[q]?=some u→w.cell? ((⟨g2,0,none⟩:Addr).add q)=some u:=fun q u hu=>by
           refine kH hh2 (j:=q) (u:=u) ?_
           rw [←htake2,List.getElem?_take] at hu
           split at hu
           ·simpa using hu
           ·cases hu
          have hl:=run_loadCells_list (P:=P) w ⟨g2,0,none⟩ cells2 hsrc
          have hst:=iC P g (p*r.sz) e fz cells2 0 cur w hh hmk.w (by rw [hl2,hcs,hs1,Nat.add_zero,Nat.mul_one,Nat.mul_one];omega) hr2.one
          rw [Nat.add_zero] at hst
          have hmin:Nat.min k2 n=cells2.length:=by rw [hl2];exact Nat.min_eq_left (by omega)
          have hi1:inf.size=1:=by rw [hisz,hs1]
          refine ⟨.int .i64 r2.len,goInt cells2.length,_,_,m,hk,.inl ?_,(hm.Oy hi' hr hkn how.1 hv hmk hh hnc hcm hcs htake hO hr2 h3 (by omega)).hold ?_⟩
          ·unfold execOp;rw [ho]
           simp [resolve,invoke,builtin,hvx,hvy,Builtin.copy_,run_underlying ht,Builtin.lenOf,Builtin.firstCells,sizeOf,typeInfo,hinf,hi1,hmin,hl,hst]
          ·rw [hl2,←hkn2]
           exact .int .i64 _ (by rw [eY];unfold maxLen at hcm;omega)
       ·exact h.elim
      ·exact h.elim
     ·exact h.elim
    ·exact h.elim
   ·exact h.elim
  ·exact h.elim
 ·exact h.elim
def Ag (P:Program) (op:BinOp) (t:TypeId) (y:Operand) (a b:AV) (s:S) (K:AV→S→Prop):Prop:=
 match a,b with
 | .own i,.nilS=>match lk s.rows i with
  | some (.row _ r)=>match op,P.underlying t with
   | .eql,some (.slice _)=>aN (0<r.len) (K (.bool false) s)
   | .neq,some (.slice _)=>aN (0<r.len) (K (.bool true) s)
   | _,_=>False
  | _=>False
 | .nilS,.nilS=>match op,P.underlying t with
  | .eql,some (.slice _)=>K (.bool true) s
  | .neq,some (.slice _)=>K (.bool false) s
  | _,_=>False
 | a,b=>wM P op t y a b (fun r=>K r s)
theorem Ah {op:BinOp} {t t':TypeId} {x y:Operand} (ho:o.op=.binOp op t x y t') (hx:aj x) (hy:aj y)
  (h:Ag P op t y (s.ev x) (s.ev y) s K):aB P w0 T0 o s K:=by
 unfold Ag at h
 split at h
 ·rename_i i ex ey
  split at h
  ·rename_i e r hi
   refine aB.pure fun H a w m hm=>?_
   obtain ⟨k,cells,hr,hkn,how,hO⟩:=(hm.rows i _ hi).2
   have rx:=hm.ev x hx
   have ry:=hm.ev y hy
   rw [ex] at rx
   rw [ey] at ry
   generalize hvx:a.eval x=vx at rx
   generalize hvy:a.eval y=vy at ry
   cases ry
   cases rx with
   | own _ hin hone=>
    rw [show (ak T0 w0.heap.size m s w).m i=m i from rfl] at hvx
    split at h
    ·rename_i e' ht
     obtain ⟨hpos,hk⟩:=h
     rcases how.2 with ⟨hv,hz⟩|⟨g,cap,cur,fz,hv,_⟩
     ·omega
     rw [hv] at hvx
     have hr:(binOp .eql t (a.eval x) (a.eval y)).run P w=.ok (.bool false) w:=by rw [hvx,hvy];exact Lib.run_eql_slice_nil w _ _ (some ⟨g,0,none⟩) k cap 0 0 ht
     exact ⟨_,_,hk,iR .eql t t' x y ho a.eval w _ (by rw [hvx];simp) (by rw [hvx];simp) hr,.bool _⟩
    ·rename_i e' ht
     obtain ⟨hpos,hk⟩:=h
     rcases how.2 with ⟨hv,hz⟩|⟨g,cap,cur,fz,hv,_⟩
     ·omega
     rw [hv] at hvx
     have hr:(binOp .neq t (a.eval x) (a.eval y)).run P w=.ok (.bool true) w:=by rw [hvx,hvy];exact run_neq_slice_nil_any w _ _ (some ⟨g,0,none⟩) k cap 0 0 ht
     exact ⟨_,_,hk,iR .neq t t' x y ho a.eval w _ (by rw [hvx];simp) (by rw [hvx];simp) hr,.bool _⟩
    ·exact h.elim
  ·exact h.elim
 ·rename_i ex ey
  refine aB.pure fun H a w m hm=>?_
  have rx:=hm.ev x hx
  have ry:=hm.ev y hy
  rw [ex] at rx
  rw [ey] at ry
  generalize hvx:a.eval x=vx at rx
  generalize hvy:a.eval y=vy at ry
  cases ry
  cases rx
  split at h
  ·rename_i e' ht
   have hr:(binOp .eql t (a.eval x) (a.eval y)).run P w=.ok (.bool true) w:=by rw [hvx,hvy];exact Lib.run_eql_slice_nil w _ _ none 0 0 0 0 ht
   exact ⟨_,_,h,iR .eql t t' x y ho a.eval w _ (by rw [hvx];simp) (by rw [hvx];simp) hr,.bool _⟩
  ·rename_i e' ht
   have hr:(binOp .neq t (a.eval x) (a.eval y)).run P w=.ok (.bool false) w:=by rw [hvx,hvy];exact run_neq_slice_nil_any w _ _ none 0 0 0 0 ht
   exact ⟨_,_,h,iR .neq t t' x y ho a.eval w _ (by rw [hvx];simp) (by rw [hvx];simp) hr,.bool _⟩
  ·exact h.elim
 ·exact Ae ho hx hy h
end
end Go.Fv
/-
 Regions, code, loops, calls, contracts.
-/
namespace Go.Fv
open Go.RowKit
def Enter (P:Program) (f:Nat):Prop:=∃ fn,P.funcs[f]?=some fn∧fn.body.isNone=false∧(fn.name == "runtime.NumGoroutine")=false
class NV where
 q:Exit→S→Prop
class OC where
 k:AV→S→Prop
class OG where
 k:S→Prop
def ah (P:Program) (w0:World) (T0:Bs) (f:Nat) (args:List AV) (s:S) [K:OC]:Prop:=
 Enter P f∧∀ (H:List (AV × Value)) (a:Act) (w:World) (m:Nat→Value) (vals:List Value),aF w0 T0 H s a w m→bI (ak T0 w0.heap.size m s w) args vals →
  Calls P f vals.toArray w fun e w'=>∃ v,e=.returned v∧∃ r s',K.k r s'∧Rep w0 T0 ((r,v)::H) s' a w'
def uJ (b0:Nat) (H:List (AV × Value)):Prop:=∀ p,p∈H→below b0 p.1=true
def bM (P:Program) (w0:World) (T0:Bs) (b0:Nat) (c:Code) (s:S) [Q:NV]:Prop:=
 ∀ (H:List (AV × Value)) (a:Act) (w:World),uJ b0 H→Rep w0 T0 H s a w→(Code.loop c).wp P (fun e a' w'=>∃ s',Q.q e s'∧Rep w0 T0 H s' a' w') a w
def aZ (P:Program) (w0:World) (T0:Bs) (b0:Nat) (id:Nat) (ops:Array Oper) (s:S) [Q:OG]:Prop:=
 ∀ (H:List (AV × Value)) (a:Act) (w:World),uJ b0 H→Rep w0 T0 H s a w→(Code.region id ops true).wp P (fun e a' w'=>e=.normal∧∃ s',Q.k s'∧Rep w0 T0 H s' a' w') a w
@[congr] theorem JQ {P:Program} {w0:World} {T0:Bs} {f:Nat} {args args':List AV} {s s':S} {K:OC} (h:args=args') (h2:s=s'):@ah P w0 T0 f args s K=@ah P w0 T0 f args' s' K:=by rw [h,h2]
@[congr] theorem JV {P:Program} {w0:World} {T0:Bs} {b0:Nat} {c:Code} {s s':S} {Q:NV} (h:s=s'):@bM P w0 T0 b0 c s Q=@bM P w0 T0 b0 c s' Q:=by rw [h]
@[congr] theorem JR {P:Program} {w0:World} {T0:Bs} {b0 id:Nat} {ops:Array Oper} {s s':S} {Q:OG} (h:s=s'):@aZ P w0 T0 b0 id ops s Q=@aZ P w0 T0 b0 id ops s' Q:=by rw [h]
def jl (P:Program) (w0:World) (T0:Bs) (c:Call) (s:S) (K:AV→S→Prop):Prop:=
 match c.callee with
 | .builtin .append=>match c.args.toList,c.argTypes.toList with
  | [x,y],[t,t2]=>aN (aj x) (iZ P t t2 x y s K)
  | _,_=>False
 | .builtin .len=>match c.args.toList,c.argTypes.toList with
  | [x],[t]=>aN (aj x) (Dw P t x s K)
  | _,_=>False
 | .builtin .unsafeSliceData=>match c.args.toList,c.argTypes.toList with
  | [x],[_]=>aN (aj x) (qO x s K)
  | _,_=>False
 | .builtin .cap=>match c.args.toList,c.argTypes.toList with
  | [x],[t]=>aN (aj x) (Ak P t x s K)
  | _,_=>False
 | .builtin .copy=>match c.args.toList,c.argTypes.toList with
  | [x,y],[t,t2]=>Aq P t t2 x y s K
  | _,_=>False
 | .invoke r name=>match s.ev r with
  | .ifc t v=>match Jd P t name with
   | some f=>aN ((aj r∧∀ x,x∈c.args.toList→aj x)∧Lh P t name f) (@ah P w0 T0 f (v::evs s c.args.toList) s ⟨K⟩)
   | none=>False
  | _=>False
 | .builtin .clear=>match c.args.toList,c.argTypes.toList with
  | [x],[t]=>aN (aj x) (uD P t x s K)
  | _,_=>False
 | .builtin .unsafeString=>match c.args.toList,c.argTypes.toList with
  | [x,n],[pt,_]=>aN (aj x∧aj n) (AU P pt x n s K)
  | _,_=>False
 | .builtin .min=>aN (∀ x,x∈c.args.toList→aj x) (Dz false (evs s c.args.toList) (fun r=>K r s))
 | .builtin .max=>aN (∀ x,x∈c.args.toList→aj x) (Dz true (evs s c.args.toList) (fun r=>K r s))
 | .value g=>match s.ev g with
  | .fn f caps=>aN (aj g∧∀ x,x∈c.args.toList→aj x) (@ah P w0 T0 f (evs s c.args.toList++caps) s ⟨K⟩)
  | _=>False
 | _=>False
def lG (P:Program) (w0:World) (T0:Bs) (o:Oper) (s:S) (K:AV→S→Prop):Prop:=
 match o.op with
 | .move x=>o9 P o.type x s K
 | .assign x=>o9 P o.type x s K
 | .pick c x y=>aN (aj c) (wZ c x y s K)
 | .extract x i=>aN (aj x) (gK x i s K)
 | .makeFunc fn first caps=>fC fn first caps s K
 | .box e x=>y8 e x s K
 | .alloc e=>nP P e s K
 | .load t x=>match x with
  | .global g=>Ez P t g s K
  | x=>aN (aj x) (wQ P t x s K)
 | .store t x v=>aN (aj x) (nU P t x v s K)
 | .nilCheck x=>aN (aj x) (wX x s K)
 | .fieldAddr t x k=>aN (aj x) (eu P t x k s K)
 | .indexAddr t x i=>aN (aj x∧aj i) (iE P t x i s K)
 | .makeSlice t l c=>aN (aj l∧aj c) (rY P t l c s K)
 | .binOp op t x y _=>aN (aj x∧aj y) (Ag P op t y (s.ev x) (s.ev y) s K)
 | .call c=>jl P w0 T0 c s K
 | .makeInterface t x=>qM P t x s K
 | .unOp op _ x=>aN (aj x) (EG op x s K)
 | .convert a b x=>aN (aj x) (nR P a b x s K)
 | .index t x i=>aN (aj x∧aj i) (qJ P t x i s K)
 | .field t x k=>aN (aj x) (qG P t x k s K)
 | .slice t x lo hi mx=>aN (aj x) (qP P t x lo hi mx s K)
 | .buildSlice t len parts=>eP P t len parts s K
 | .build t parts=>kT P t parts s K
 | .lookup t x i ok=>mQ P t x i ok s K
 | .makeMap t r=>jW P t r s K
 | .mapUpdate t x k v=>jY P t x k v s K
 | .mapEntry t x k=>jX P t x k s K
 | .entryStore _ x st v=>gJ x st v s K
 | .range t x=>nS P t x s K
 | .next x str=>AB x str s K
 | .entry x=>uF x s K
 | _=>False
section
variable {P:Program} {w0:World} {T0:Bs} {s:S} [hG:lC P w0 T0]
theorem wO {o:Oper} {K:AV→S→Prop} {c:Call} (ho:o.op=.call c) (h:jl P w0 T0 c s K):aB P w0 T0 o s K:=by
 obtain ⟨callee,args,argTypes⟩:=c
 unfold jl at h
 cases callee with
 | builtin b=>
  cases b<;>try (exact h.elim)
  case append=>
   dsimp only at h
   split at h
   ·rename_i x y t t2 e1 e2
    obtain ⟨hx,h⟩:=h
    have e1':args=#[x,y]:=by apply Array.ext';simpa using e1
    have e2':argTypes=#[t,t2]:=by apply Array.ext';simpa using e2
    subst e1' e2'
    exact tX ho hx h
   ·exact h.elim
  case copy=>
   dsimp only at h
   split at h
   ·rename_i x y t t2 e1 e2
    have e1':args=#[x,y]:=by apply Array.ext';simpa using e1
    have e2':argTypes=#[t,t2]:=by apply Array.ext';simpa using e2
    subst e1' e2'
    exact Ar ho h
   ·exact h.elim
  case clear=>
   dsimp only at h
   split at h
   ·rename_i x t e1 e2
    obtain ⟨hx,h⟩:=h
    have e1':args=#[x]:=by apply Array.ext';simpa using e1
    have e2':argTypes=#[t]:=by apply Array.ext';simpa using e2
    subst e1' e2'
    exact xO ho hx h
   ·exact h.elim
  case len=>
   dsimp only at h
   split at h
   ·rename_i x t e1 e2
    obtain ⟨hx,h⟩:=h
    have e1':args=#[x]:=by apply Array.ext';simpa using e1
    have e2':argTypes=#[t]:=by apply Array.ext';simpa using e2
    subst e1' e2'
    exact Dx ho hx h
   ·exact h.elim
  case unsafeSliceData=>
   dsimp only at h
   split at h
   ·rename_i x t e1 e2
    obtain ⟨hx,h⟩:=h
    have e1':args=#[x]:=by apply Array.ext';simpa using e1
    have e2':argTypes=#[t]:=by apply Array.ext';simpa using e2
    subst e1' e2'
    exact xg ho hx h
   ·exact h.elim
  case cap=>
   dsimp only at h
   split at h
   ·rename_i x t e1 e2
    obtain ⟨hx,h⟩:=h
    have e1':args=#[x]:=by apply Array.ext';simpa using e1
    have e2':argTypes=#[t]:=by apply Array.ext';simpa using e2
    subst e1' e2'
    exact Am ho hx h
   ·exact h.elim
  case unsafeString=>
   dsimp only at h
   split at h
   ·rename_i x n pt it e1 e2
    obtain ⟨⟨hx,hn⟩,h⟩:=h
    have e1':args=#[x,n]:=by apply Array.ext';simpa using e1
    have e2':argTypes=#[pt,it]:=by apply Array.ext';simpa using e2
    subst e1' e2'
    exact AX ho hx hn h
   ·exact h.elim
  case min=>exact wU (isMax:=false) ho h.1 h.2
  case max=>exact wU (isMax:=true) ho h.1 h.2
 | invoke g name=>
  dsimp only at h
  intro H a w next Q ⟨m,hm⟩ hn
  cases hg:s.ev g with
  | ifc t v=>
   rw [hg] at h
   dsimp only at h
   cases hf0:Jd P t name with
   | none=>rw [hf0] at h;exact h.elim
   | some f=>
    rw [hf0] at h
    obtain ⟨⟨⟨hog,hoa⟩,hmo⟩,⟨fn,hf,hb,hnm⟩,h⟩:=h
    have rg:=hm.ev g hog
    rw [hg] at rg
    generalize hvg:a.eval g=vg at rg
    cases rg with
    | ifc _ _ u hu=>
     have hcalls:=h H a w m _ hm (bI.cons _ _ _ _ hu (hm.evs hoa))
     have hrun:(execOp a.eval o).run P w=.ok (.enter f ((u::args.toList.map a.eval).toArray)) w:=by
      unfold execOp;rw [ho]
      have e:(#[u]++Array.map a.eval args)=(u::args.toList.map a.eval).toArray:=by
       apply Array.ext';simp
      have e2:(#[Value.iface t u]++Array.map a.eval args).extract 1 (#[Value.iface t u]++Array.map a.eval args).size=Array.map a.eval args:=by
       apply Array.ext';simp
       exact List.take_of_length_le (by simp)
      have e3:(#[Value.iface t u]++Array.map a.eval args)[0]?=some (.iface t u):=by rw [Array.getElem?_append_left (by simp)];rfl
      have hnm':¬fn.name = "runtime.NumGoroutine" := by simpa using hnm
      have hb':¬fn.body=none:=by intro e4;rw [e4] at hb;cases hb
      simp only [resolve,hvg,invoke,Sem.run_bind,Sem.run_pure,Result.andThen,e3,e2,callMethod]
      simp [hmo u w,callFunc,hf,hb',hnm',e]
     unfold Oper.wp
     rw [hrun]
     refine Calls.mono hcalls ?_
     rintro e w' ⟨v,rfl,r,s',hk,hr⟩
     exact hn r s' v w' hk hr
  | _=>rw [hg] at h;exact h.elim
 | value g=>
  dsimp only at h
  intro H a w next Q ⟨m,hm⟩ hn
  cases hg:s.ev g with
  | fn f caps=>
   rw [hg] at h
   obtain ⟨⟨hog,hoa⟩,⟨fn,hf,hb,hnm⟩,h⟩:=h
   have rg:=hm.ev g hog
   rw [hg] at rg
   generalize hvg:a.eval g=vg at rg
   cases rg with
   | fn _ _ cvals hc=>
    have hargs:=(hm.evs hoa).append hc
    have hcalls:=h H a w m _ hm hargs
    have hrun:(execOp a.eval o).run P w=.ok (.enter f ((args.toList.map a.eval++cvals).toArray)) w:=by
     unfold execOp;rw [ho]
     have e:(Array.map a.eval args++cvals.toArray)=(args.toList.map a.eval++cvals).toArray:=by
      apply Array.ext';simp
     have hnm':¬fn.name = "runtime.NumGoroutine" := by simpa using hnm
     have hb':¬fn.body=none:=by intro e;simp [e] at hb
     simp [resolve,hvg,Deferred.ofValue,invoke,callFunc,hf,hb',hnm',e]
    unfold Oper.wp
    rw [hrun]
    refine Calls.mono hcalls ?_
    rintro e w' ⟨v,rfl,r,s',hk,hr⟩
    exact hn r s' v w' hk hr
  | _=>rw [hg] at h;exact h.elim
theorem jm {o:Oper} {K:AV→S→Prop} (h:lG P w0 T0 o s K):aB P w0 T0 o s K:=by
 unfold lG at h
 cases ho:o.op<;>rw [ho] at h<;>try (exact h.elim)
 case move x=>exact qN (.inl ho) h
 case assign x=>exact qN (.inr ho) h
 case pick c x y=>exact AO ho h.1 h.2
 case extract x i=>exact tY ho h.1 h.2
 case makeFunc fn first caps=>exact rZ ho h
 case box e x=>exact Dv ho h
 case alloc e=>exact xJ ho h
 case load t x=>
  cases x with
  | global g=>exact (Au ho h).op
  | _=>exact Aw ho h.1 h.2
 case store t x v=>exact yc ho h.1 h.2
 case nilCheck x=>exact DC ho h.1 h.2
 case fieldAddr t x k=>exact qH ho h.1 h.2
 case indexAddr t x i=>exact qK ho h.1.1 h.1.2 h.2
 case makeSlice t l c=>exact AA ho h.1.1 h.1.2 h.2
 case binOp op t x y t'=>exact Ah ho h.1.1 h.1.2 h.2
 case call c=>exact wO ho h
 case makeInterface t x=>exact xY ho h
 case unOp op t x=>exact EH ho h.1 h.2
 case convert t t' x=>exact xP ho h.1 h.2
 case index t x i=>exact xW ho h.1.1 h.1.2 h.2
 case field t x k=>exact xR ho h.1 h.2
 case slice t x lo hi mx=>exact xk ho h.1 h.2
 case buildSlice t len parts=>exact o8 ho h
 case build t parts=>exact xK ho h
 case lookup t x i ok=>exact wR ho h
 case makeMap t r=>exact uf ho h
 case mapUpdate t x k v=>exact wW ho h
 case mapEntry t x k=>exact wV ho h
 case entryStore t x st v=>exact rX ho h
 case range t x=>exact x9 ho h
 case next x str=>exact AL ho h
 case entry x=>exact xQ ho h
end
def dU (d:Option Nat) (v:AV) (s:S) (Q:S→Prop):Prop:=
 match d with
 | none=>Q s
 | some d=>if d<s.n then Q (s.set d v) else False
def oV:Op→Prop
 | .pick c x y=>aj c∧aj x∧aj y
 | _=>False
def pq (P:Program) (w0:World) (T0:Bs) (o:Oper) (c:Bool) (s s1 s2:S) (k:S→Prop):Prop:=
 match pW s o.op with
 | some (pre,b)=>aN (c=true→pre∧oV o.op) (dU o.dst (.opt c (.bool b)) s k)
 | none=>match Kz P (peel s (D6 o.op)) o.op with
  | some v=>aN (Fv.below s.next v=true) (aN (c=true→dI s (D6 o.op)=true∧lG P w0 T0 o (peel s (D6 o.op)) (fun r s'=>r=v∧s'=peel s (D6 o.op))) (dU o.dst (.opt c v) s k))
  | none=>@Ite c ⟨aN (dI s1 (D6 o.op)=true) (lG P w0 T0 o (peel s1 (D6 o.op)) (fun v s'=>dU o.dst v s' k))⟩ ⟨dU o.dst (.opt false (.bool false)) s2 k⟩
def EC (P:Program) (w0:World) (T0:Bs) (ops:Array Oper) (o:Oper) (s:S) (k:S→Prop):Prop:=
 match o.guard with
 | none=>match pW s o.op with
  | some (pre,b)=>aN (pre∧oV o.op) (dU o.dst (.bool b) s k)
  | none=>lG P w0 T0 o s (fun v s'=>dU o.dst v s' k)
 | some (j,want)=>match (ops[j]?).bind (·.dst) with
  | some r=>match s.get r with
   | .bool b=>pq P w0 T0 o (bif want then b else !b) s (s.set r (.bool want)) (s.set r (.bool (!want))) k
   | .opt c (.bool b)=>pq P w0 T0 o (c && bif want then b else !b) s s s k
   | _=>False
  | none=>False
def wY (P:Program) (w0:World) (T0:Bs) (ops:Array Oper):List Oper→S→(S→Prop)→Prop
 | [],s,Q=>Q s
 | o::rest,s,Q=>EC P w0 T0 ops o s (fun s'=>wY P w0 T0 ops rest s' Q)
section
variable {P:Program} {w0:World} {T0:Bs} {H:List (AV × Value)} [hG:lC P w0 T0]
theorem Rep.put {s:S} {a:Act} {w:World} {r:AV} {v:Value} {d:Option Nat} {Q:S→Prop} (h:Rep w0 T0 ((r,v)::H) s a w) (hq:dU d r s Q):∃ s',Q s'∧Rep w0 T0 H s' (a.put d v) w:=by
 obtain ⟨m,hm⟩:=h
 cases d with
 | none=>exact ⟨s,hq,m,hm.iI⟩
 | some d=>
  simp only [dU] at hq
  split at hq
  ·rename_i hd;exact ⟨_,hq,m,hm.iI.MK (hm.held _ (.head _)) hd⟩
  ·exact hq.elim
theorem aF.know {s:S} {a:Act} {w:World} {m:Nat→Value} (h:aF w0 T0 H s a w m) {r:Nat} {x:AV} (hx:Rv (ak T0 w0.heap.size m s w) x (a.tmps.getD r undef)):aF w0 T0 H (s.set r x) a w m:=
 {size:=h.size,nodef:=h.nodef,below:=h.below,held:=h.held,rows:=h.rows,sep:=h.sep,
  env:=by
   intro q y hy
   have hy':(if r=q then some x else lk s.env q)=some y:=hy
   split at hy'
   ·rename_i e;subst e;cases hy';exact hx
   ·exact h.env q y hy' }
theorem lU {s:S} {a:Act} {w:World} {o:Oper} {pre:Prop} {b:Bool} (h:pW s o.op=some (pre,b)) (hp:pre) (hok:oV o.op) (hr:Rep w0 T0 H s a w):(execOp a.eval o).run P w=.ok (.value (.bool b)) w:=by
 obtain ⟨m,hm⟩:=hr
 unfold pW at h
 cases ho:o.op<;>rw [ho] at h hok<;>try (cases h;done)
 rename_i c x y
 obtain ⟨h1,h2,h3⟩:=hok
 dsimp only at h
 split at h
 ·rename_i bc p q ec ex ey
  cases h
  obtain ⟨k1,k2,k3⟩:=hp
  have rc:=Jh hm h1 k1
  rw [ec] at rc
  generalize hvc:a.eval c=vc at rc
  cases rc
  have hrun:(execOp a.eval o).run P w=.ok (.value (if bc then a.eval x else a.eval y)) w:=by
   unfold execOp;rw [ho];simp [hvc,asBool,Sem.run_bind,Result.andThen]
  cases bc with
  | true=>
   have rx:=Jh hm h2 (k2 rfl)
   rw [ex] at rx
   generalize hvx:a.eval x=vx at rx hrun
   cases rx
   simpa using hrun
  | false=>
   have ry:=Jh hm h3 (k3 rfl)
   rw [ey] at ry
   generalize hvy:a.eval y=vy at ry hrun
   cases ry
   simpa using hrun
 ·cases h
theorem qQ {o:Oper} {c:Bool} {s s1 s2:S} {k:S→Prop} (h:pq P w0 T0 o c s s1 s2 k) {a:Act} {w:World} (hr:Rep w0 T0 H s a w) {W:Bool} (hW:W=c) (hr1:c=true→Rep w0 T0 H s1 a w) (hr2:c=false→Rep w0 T0 H s2 a w) {K:Act→World→Prop} {Qc:Exit→Act→World→Prop}
  (hk:∀ s' a' w',k s'→Rep w0 T0 H s' a' w'→K a' w'):if W=true then o.wp P a w K Qc else K (a.put o.dst undef) w:=by
 subst hW
 unfold pq at h
 have skip:W=false→∀ (v:AV) (s:S),Rep w0 T0 H s a w→(∀ c,Rv c v undef)→dU o.dst v s k→K (a.put o.dst undef) w:=by
  intro _ v s hr hv hp
  obtain ⟨m,hm⟩:=hr
  obtain ⟨s'',h2,hr2⟩:=Rep.put (v:=undef) (⟨m,hm.hold (hv _)⟩:Rep w0 T0 ((v,undef)::H) s a w) hp
  exact hk _ _ _ h2 hr2
 split at h
 ·rename_i pre b hg
  obtain ⟨hpre,hput⟩:=h
  cases W with
  | true=>
   simp only [if_true]
   obtain ⟨hp,hok⟩:=hpre rfl
   have hrun:=lU (P:=P) hg hp hok hr
   unfold Oper.wp
   rw [hrun]
   obtain ⟨m,hm⟩:=hr
   obtain ⟨s'',h2,hr2⟩:=Rep.put (v:=.bool b) (⟨m,hm.hold (.opt true (.bool b) (.bool b) rfl (fun _=>.bool b) (fun e=>by cases e))⟩:Rep w0 T0 ((.opt true (.bool b),.bool b)::H) s a w) hput
   exact hk _ _ _ h2 hr2
  | false=>
   simp only [Bool.false_eq_true,if_false]
   exact skip rfl _ s hr (fun _=>.opt false _ _ rfl (fun e=>by cases e) (fun _=>rfl)) hput
 ·split at h
  ·rename_i v hv
   obtain ⟨hb,hpre,hput⟩:=h
   cases W with
   | true=>
    simp only [if_true]
    obtain ⟨hpc,hop⟩:=hpre rfl
    obtain ⟨m,hm⟩:=hr
    refine jm hop H a w _ _ ⟨m,hm.peel hpc⟩ ?_
    rintro r s' v' w' ⟨rfl,rfl⟩ ⟨m',hm'⟩
    have hv':=hm'.held _ (.head _)
    have hm2:=hm'.iI.MR hpc
    obtain ⟨s'',h2,hr2⟩:=Rep.put (v:=v') (⟨m',hm2.hold (.opt true r v' hb (fun _=>hv') (fun e=>by cases e))⟩:Rep w0 T0 ((.opt true r,v')::H) s a w') hput
    exact hk _ _ _ h2 hr2
   | false=>
    simp only [Bool.false_eq_true,if_false]
    obtain ⟨m,hm⟩:=hr
    obtain ⟨s'',h2,hr2⟩:=Rep.put (v:=undef) (⟨m,hm.hold (.opt false v undef hb (fun e=>by cases e) (fun _=>rfl))⟩:Rep w0 T0 ((.opt false v,undef)::H) s a w) hput
    exact hk _ _ _ h2 hr2
  ·cases W with
   | true=>
    simp only [if_true]
    obtain ⟨hpc,hop⟩:=h.1 rfl
    obtain ⟨m1,hm1⟩:=hr1 rfl
    refine jm hop H a w _ _ ⟨m1,hm1.peel hpc⟩ ?_
    intro r s' v w' hk' hr'
    obtain ⟨s'',h2,hr2⟩:=hr'.put hk'
    exact hk _ _ _ h2 hr2
   | false=>
    simp only [Bool.false_eq_true,if_false]
    exact skip rfl _ s2 (hr2 rfl) (fun _=>.opt false _ _ rfl (fun e=>by cases e) (fun _=>rfl)) (h.2 rfl)
theorem wP {ops:Array Oper} {o:Oper} {s:S} {k:S→Prop} (h:EC P w0 T0 ops o s k) {a:Act} {w:World} (hr:Rep w0 T0 H s a w) {K:Act→World→Prop} {Qc:Exit→Act→World→Prop}
  (hk:∀ s' a' w',k s'→Rep w0 T0 H s' a' w'→K a' w'):if Region.wanted o (yielded ops a.tmps) then o.wp P a w K Qc else K (a.put o.dst undef) w:=by
 unfold EC at h
 cases hg:o.guard with
 | none=>
  rw [hg] at h
  rw [if_pos (by simp [Region.wanted,hg])]
  dsimp only at h
  split at h
  ·rename_i pre b hgp
   obtain ⟨⟨hp,hok⟩,hput⟩:=h
   have hrun:=lU (P:=P) hgp hp hok hr
   unfold Oper.wp
   rw [hrun]
   obtain ⟨m,hm⟩:=hr
   obtain ⟨s'',h2,hr2⟩:=Rep.put (v:=.bool b) (⟨m,hm.hold (.bool b)⟩:Rep w0 T0 ((.bool b,.bool b)::H) s a w) hput
   exact hk _ _ _ h2 hr2
  ·refine jm h H a w _ _ hr ?_
   intro r s' v w' hk' hr'
   obtain ⟨s'',h2,hr2⟩:=hr'.put hk'
   exact hk _ _ _ h2 hr2
 | some jw=>
  obtain ⟨j,want⟩:=jw
  rw [hg] at h
  dsimp only at h
  cases hd:(ops[j]?).bind (·.dst) with
  | none=>rw [hd] at h;exact h.elim
  | some r=>
   rw [hd] at h
   dsimp only at h
   have hslot:∀ x,s.get r=x→x≠.dead→lk s.env r=some x:=by
    intro x hx hne
    simp only [S.get] at hx
    cases hl:lk s.env r with
    | none=>rw [hl] at hx;exact absurd hx.symm hne
    | some y=>rw [hl] at hx;exact congrArg some hx
   have hyield:∀ b,a.tmps.getD r undef=.bool b→yielded ops a.tmps j=some b:=by
    intro b hvv
    have h1:a.tmps[r]?=some (.bool b):=by
     rw [Array.getD_eq_getD_getElem?] at hvv
     cases hq:a.tmps[r]? with
     | none=>rw [hq] at hvv;simp [undef] at hvv
     | some y=>rw [hq] at hvv;simpa using hvv
    simp [yielded,hd,h1]
   have hyno:a.tmps.getD r undef=undef→yielded ops a.tmps j=none:=by
    intro hvv
    cases hq:a.tmps[r]? with
    | none=>simp [yielded,hd,hq]
    | some y=>
     rw [Array.getD_eq_getD_getElem?,hq] at hvv
     have:y=undef:=by simpa using hvv
     subst this
     simp [yielded,hd,hq,undef]
   split at h
   ·rename_i b hb
    have hl:=hslot _ hb (by simp)
    obtain ⟨m,hm⟩:=hr
    have hv:=hm.env r _ hl
    generalize hvv:a.tmps.getD r undef=vv at hv
    cases hv
    have hy:=hyield b hvv
    refine qQ h ⟨m,hm⟩ ?_ ?_ ?_ hk
    ·cases want<;>cases b<;>simp [Region.wanted,hg,hy]
    ·intro hc
     refine ⟨m,hm.know ?_⟩
     rw [hvv]
     have:b=want:=by cases want<;>cases b<;>simp at hc<;>rfl
     rw [this];exact .bool want
    ·intro hc
     refine ⟨m,hm.know ?_⟩
     rw [hvv]
     have:b=!want:=by cases want<;>cases b<;>simp at hc<;>rfl
     rw [this];exact .bool _
   ·rename_i c b hb
    have hl:=hslot _ hb (by simp)
    have hr':=hr
    obtain ⟨m,hm⟩:=hr'
    have hv:=hm.env r _ hl
    refine qQ h hr ?_ (fun _=>hr) (fun _=>hr) hk
    cases hv with
    | opt _ _ _ _ h1 h2=>
     cases c with
     | true=>
      have h1':=h1 rfl
      generalize hvv:a.tmps.getD r undef=vv at h1'
      cases h1'
      have hy:=hyield b hvv
      cases want<;>cases b<;>simp [Region.wanted,hg,hy]
     | false=>
      have hy:=hyno (h2 rfl)
      cases want<;>simp [Region.wanted,hg,hy]
   ·exact h.elim
theorem tJ {ops:Array Oper} {Qc:Exit→Act→World→Prop}:∀ (l:List Oper) (s:S) (Q:S→Prop),wY P w0 T0 ops l s Q→∀ (a:Act) (w:World),Rep w0 T0 H s a w →
  (∀ s' a' w',Q s'→Rep w0 T0 H s' a' w'→Qc .normal a' w')→wpList P ops Qc l a w
 | [],s,Q,h,a,w,hr,hq=>wpList_nil (hq s a w h hr)
 | o::rest,s,Q,h,a,w,hr,hq=>by
  unfold wY at h
  refine wpList_step fun K hK=>?_
  exact wP h hr fun s' a' w' hk hr'=>hK _ _ (tJ rest s' Q hk a' w' hr' hq)
end
/-! ### Regions whose order is drawn -/
inductive sF where
 | done
 | first (i:Nat) (t:sF)
 | cons (i:Nat) (t r:sF)
 | stop
def D9 (o:Oper):Bool:=match o.guard,o.op with
 | none,.move _=>true
 | none,.assign _=>true
 | none,.fieldAddr _ _ _=>true
 | _,_=>false
def dL (ops:Array Oper):sF→Nat→Array Bool→Option (List Nat)→Bool
 | .done,_,listed,none=>(Region.ready .any ops listed).isEmpty
 | .first i t,n+1,listed,none=>((ops[i]?).map D9).getD false && Region.free .any ops listed i && (Region.ready .any ops listed).contains i && dL ops t n (listed.setIfInBounds i true) none
 | .cons i t r,n+1,listed,none=>match Region.ready .any ops listed with
  | j::l=>i == j && dL ops t n (listed.setIfInBounds i true) none && dL ops r (n+1) listed (some l)
  | []=>false
 | .cons i t r,n+1,listed,some q=>match q with
  | j::l=>i == j && dL ops t n (listed.setIfInBounds i true) none && dL ops r (n+1) listed (some l)
  | []=>false
 | .stop,_+1,_,some q=>q.isEmpty
 | _,_,_,_=>false
def fU (P:Program) (w0:World) (T0:Bs) (ops:Array Oper):sF→S→(S→Prop)→Prop
 | .done,s,Q=>Q s
 | .first i t,s,Q=>match ops[i]? with
  | some o=>match o.op with
   | .move x=>aN (aj x) (dU o.dst (s.ev x) s (fun s'=>fU P w0 T0 ops t s' Q))
   | .assign x=>aN (aj x) (dU o.dst (s.ev x) s (fun s'=>fU P w0 T0 ops t s' Q))
   | .fieldAddr ty x k=>aN (aj x) (eu P ty x k s (fun r s1=>dU o.dst r s1 (fun s'=>fU P w0 T0 ops t s' Q)))
   | _=>False
  | none=>False
 | .cons i t r,s,Q=>match ops[i]? with
  | some o=>EC P w0 T0 ops o s (fun s'=>fU P w0 T0 ops t s' Q)∧fU P w0 T0 ops r s Q
  | none=>False
 | .stop,_,_=>True
def thenS (next:S→Prop) (Q:Exit→S→Prop):Exit→S→Prop
 | .normal,s=>next s
 | e,s=>Q e s
def uT (id:Nat) (Q:Exit→S→Prop):Exit→S→Prop
 | .exit i,s=>if i=id then Q .normal s else Q (.exit i) s
 | e,s=>Q e s
def Fq (c:Operand) (b:Bool) (s:S):S:=
 match c with
 | .tmp t=>s.set t (.bool b)
 | _=>s
def JB (Q:Exit→S→Prop):Exit→S→Prop
 | .goto _,_=>False
 | e,s=>Q e s
def dZ (P:Program) (w0:World) (T0:Bs) (b0:Nat):Code→(Exit→S→Prop)→S→Prop
 | .skip,Q,s=>Q .normal s
 | .label _,Q,s=>Q .normal s
 | .region id ops draw,Q,s=>match draw with
  | true=>@aZ P w0 T0 b0 id ops s ⟨Q .normal⟩
  | false=>wY P w0 T0 ops ops.toList s (Q .normal)
 | .seq x y,Q,s=>dZ P w0 T0 b0 x (thenS (dZ P w0 T0 b0 y Q) Q) s
 | .cond c x y,Q,s=>match s.ev c with
  | .bool b=>aN (aj c) (@Ite b ⟨dZ P w0 T0 b0 x Q (Fq c true s)⟩ ⟨dZ P w0 T0 b0 y Q (Fq c false s)⟩)
  | _=>False
 | .block id c,Q,s=>dZ P w0 T0 b0 c (uT id Q) s
 | .loop c,Q,s=>@bM P w0 T0 b0 c s ⟨Q⟩
 | .exit id,Q,s=>Q (.exit id) s
 | .ret,Q,s=>Q .ret s
 | .scope c,Q,s=>dZ P w0 T0 b0 c (JB Q) s
 | _,_,_=>False
section
variable {P:Program} {w0:World} {T0:Bs} {b0:Nat} [hG:lC P w0 T0]
theorem kU:∀ (c:Code) (Q:Exit→S→Prop) (s:S),dZ P w0 T0 b0 c Q s→∀ (H:List (AV × Value)) (a:Act) (w:World),uJ b0 H→Rep w0 T0 H s a w →
  c.wp P (fun e a' w'=>∃ s',Q e s'∧Rep w0 T0 H s' a' w') a w:=by
 intro c
 induction c with
 | skip=>intro Q s h H a w hH hr;exact wp_skip ⟨s,h,hr⟩
 | label l=>intro Q s h H a w hH hr;exact wp_label ⟨s,h,hr⟩
 | region id ops draw=>
  intro Q s h H a w hH hr
  cases draw with
  | true=>
   exact wp_mono (h H a w hH hr) fun e a' w' ⟨he,s',hq,hr'⟩=>by subst he;exact ⟨s',hq,hr'⟩
  | false=>
   exact wp_region_list (tJ ops.toList s (Q .normal) h a w hr fun s' a' w' hq hr'=>⟨s',hq,hr'⟩)
 | seq x y ihx ihy=>
  intro Q s h H a w hH hr
  refine wp_seq (wp_mono (ihx _ s h H a w hH hr) ?_)
  rintro e a' w' ⟨s',hq,hr'⟩
  cases e with
  | normal=>exact ihy Q s' hq H a' w' hH hr'
  | _=>exact ⟨s',hq,hr'⟩
 | cond c x y ihx ihy=>
  intro Q s h H a w hH hr
  simp only [dZ] at h
  obtain ⟨m,hm⟩:=hr
  cases hc:s.ev c with
  | bool b=>
   rw [hc] at h
   obtain ⟨hok,h⟩:=h
   have rc:=hm.ev c hok
   rw [hc] at rc
   generalize hv:a.eval c=vc at rc
   cases rc
   have hk:Rep w0 T0 H (Fq c b s) a w:=by
    cases c with
    | tmp t=>exact ⟨m,hm.know (by have:a.tmps.getD t undef=.bool b:=hv;rw [this];exact .bool b)⟩
    | _=>exact ⟨m,hm⟩
   cases b with
   | true=>exact wp_cond_true hv (ihx Q _ (h.1 rfl) H a w hH hk)
   | false=>exact wp_cond_false hv (ihy Q _ (h.2 rfl) H a w hH hk)
  | _=>rw [hc] at h;exact h.elim
 | block id c ih=>
  intro Q s h H a w hH hr
  refine wp_block (wp_mono (ih _ s h H a w hH hr) ?_)
  rintro e a' w' ⟨s',hq,hr'⟩
  cases e with
  | exit i=>
   simp only [uT] at hq
   simp only [Exit.inBlock]
   split at hq
   ·rename_i e;rw [if_pos e];exact ⟨s',hq,hr'⟩
   ·rename_i e;rw [if_neg e];exact ⟨s',hq,hr'⟩
  | _=>exact ⟨s',hq,hr'⟩
 | loop c ih=>intro Q s h H a w hH hr;exact h H a w hH hr
 | exit id=>intro Q s h H a w hH hr;exact wp_exit ⟨s,h,hr⟩
 | ret=>intro Q s h H a w hH hr;exact wp_ret ⟨s,h,hr⟩
 | scope c ih=>
  intro Q s h H a w hH hr
  refine wp_scope_straight (wp_mono (ih _ s h H a w hH hr) ?_)
  rintro e a' w' ⟨s',hq,hr'⟩
  cases e with
  | goto l=>exact hq.elim
  | _=>exact ⟨s',hq,hr'⟩
 | _=>intro Q s h;exact h.elim
/-! ### States that say less -/
def dB (w0:World) (T0:Bs) (b0:Nat) (s s':S):Prop:=∀ (H:List (AV × Value)) (a:Act) (w:World),uJ b0 H→Rep w0 T0 H s a w→Rep w0 T0 H s' a w
theorem bM.intro {c:Code} {s:S} {Q:Exit→S→Prop} {α:Type} (shape:α→S) (I:α→Prop) (μ:α→Nat) (x0:α) (h0:dB w0 T0 b0 s (shape x0)) (hI:I x0)
  (body:∀ x,I x→dZ P w0 T0 b0 c (thenS (fun s'=>∃ x',dB w0 T0 b0 s' (shape x')∧I x'∧μ x'<μ x) Q) (shape x)):@bM P w0 T0 b0 c s ⟨Q⟩:=by
 intro H a w hH hr
 refine wp_loop_ghost (fun n a w=>∃ x,μ x=n∧I x∧Rep w0 T0 H (shape x) a w) (μ x0) ⟨x0,rfl,hI,h0 H a w hH hr⟩ ?_
 rintro n a w ⟨x,rfl,hx,hr⟩
 refine wp_mono (kU c _ _ (body x hx) H a w hH hr) ?_
 rintro e a' w' ⟨s',hq,hr'⟩
 cases e with
 | normal=>
  obtain ⟨x',he,hI',hlt⟩:=hq
  exact ⟨μ x',hlt,x',rfl,hI',he H a' w' hH hr'⟩
 | _=>exact ⟨s',hq,hr'⟩
def VcRun (P:Program) (w0:World) (T0:Bs) (b0:Nat) (c:Code) (s:S) (Q:Exit→S→Prop):Prop:=
 ∀ (H:List (AV × Value)) (a:Act) (w:World),uJ b0 H→Rep w0 T0 H s a w→c.wp P (fun e a' w'=>∃ s',Q e s'∧Rep w0 T0 H s' a' w') a w
theorem VcRun.of {c:Code} {s:S} {Q:Exit→S→Prop} (h:dZ P w0 T0 b0 c Q s):VcRun P w0 T0 b0 c s Q:=kU c Q s h
theorem VcRun.seq {x y:Code} {s:S} {Q:Exit→S→Prop} (h:dZ P w0 T0 b0 x (thenS (fun s'=>VcRun P w0 T0 b0 y s' Q) Q) s):VcRun P w0 T0 b0 (.seq x y) s Q:=by
 intro H a w hH hr
 refine wp_seq (wp_mono (kU x _ s h H a w hH hr) ?_)
 rintro e a' w' ⟨s',hq,hr'⟩
 cases e with
 | normal=>exact hq H a' w' hH hr'
 | _=>exact ⟨s',hq,hr'⟩
theorem VcRun.cut {x y:Code} {s:S} {Q:Exit→S→Prop} {α:Type} (shape:α→S) (I:α→Prop) (h:VcRun P w0 T0 b0 x s (thenS (fun s'=>∃ z,dB w0 T0 b0 s' (shape z)∧I z) Q)) (h2:∀ z,I z→VcRun P w0 T0 b0 y (shape z) Q):VcRun P w0 T0 b0 (.seq x y) s Q:=by
 intro H a w hH hr
 refine wp_seq (wp_mono (h H a w hH hr) ?_)
 rintro e a' w' ⟨s',hq,hr'⟩
 cases e with
 | normal=>obtain ⟨z,he,hz⟩:=hq;exact h2 z hz H a' w' hH (he H a' w' hH hr')
 | _=>exact ⟨s',hq,hr'⟩
theorem VcRun.block {x:Code} {id:Nat} {s:S} {Q:Exit→S→Prop} (h:VcRun P w0 T0 b0 x s (uT id Q)):VcRun P w0 T0 b0 (.block id x) s Q:=by
 intro H a w hH hr
 refine wp_block (wp_mono (h H a w hH hr) ?_)
 rintro e a' w' ⟨s',hq,hr'⟩
 cases e with
 | exit i=>
  simp only [uT] at hq
  simp only [Exit.inBlock]
  split at hq
  ·rename_i e;rw [if_pos e];exact ⟨s',hq,hr'⟩
  ·rename_i e;rw [if_neg e];exact ⟨s',hq,hr'⟩
 | _=>exact ⟨s',hq,hr'⟩
theorem VcRun.ent {x:Code} {s s':S} {Q:Exit→S→Prop} (he:dB w0 T0 b0 s s') (h:VcRun P w0 T0 b0 x s' Q):VcRun P w0 T0 b0 x s Q:=
 fun H a w hH hr=>h H a w hH (he H a w hH hr)
theorem bM.run {c:Code} {s:S} {Q:Exit→S→Prop} {α:Type} (shape:α→S) (I:α→Prop) (μ:α→Nat) (x0:α) (h0:dB w0 T0 b0 s (shape x0)) (hI:I x0)
  (body:∀ x,I x→VcRun P w0 T0 b0 c (shape x) (thenS (fun s'=>∃ x',dB w0 T0 b0 s' (shape x')∧I x'∧μ x'<μ x) Q)):@bM P w0 T0 b0 c s ⟨Q⟩:=by
 intro H a w hH hr
 refine wp_loop_ghost (fun n a w=>∃ x,μ x=n∧I x∧Rep w0 T0 H (shape x) a w) (μ x0) ⟨x0,rfl,hI,h0 H a w hH hr⟩ ?_
 rintro n a w ⟨x,rfl,hx,hr⟩
 refine wp_mono (body x hx H a w hH hr) ?_
 rintro e a' w' ⟨s',hq,hr'⟩
 cases e with
 | normal=>
  obtain ⟨x',he,hI',hlt⟩:=hq
  exact ⟨μ x',hlt,x',rfl,hI',he H a' w' hH hr'⟩
 | _=>exact ⟨s',hq,hr'⟩
end
end Go.Fv
