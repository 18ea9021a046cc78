/-
  A part of the proof of the claim: walks over the program's functions and the plain laws that these need. No condition of its own.
-/
import Derived.Test.YtpbllkibobnifaaDoorFvPart2
set_option linter.unusedSectionVars false
set_option linter.unusedVariables false
set_option linter.unusedSimpArgs false
set_option linter.unnecessarySimpa false
/-
 Stores, makes, append, len.
-/
namespace Go.Fv
open Go.RowKit
section
variable {P:Program} {w0:World} {T0:Bs} {o:Oper} {s:S} {K:AV→S→Prop}
def sV (P:Program) (t:TypeId) (x v:Operand) (s:S) (K:AV→S→Prop):Prop:=
 match iC (s.ev v) with
 | none=>False
 | some cs=>aZ (au v∧0<P.cellsOf t∧P.cellsOf t=cs.length) (match s.ev x with
  | .ptr i off=>match lk s.rows i with
   | some (.box e bs)=>aZ (off+cs.length≤bs.length) (K .dead (s.upd i (.box e (spl bs off cs))))
   | _=>False
  | .elt i sz idx off=>match lk s.rows i with
   | some (.row e r)=>aZ (idx<r.len∧sz=r.sz) (match lH r idx off cs with
    | some r'=>K .dead (s.upd i (.row e r'))
    | none=>False)
   | _=>False
  | _=>False)
theorem bK.setRow {w0 w:World} (h:bK (fun b=>T0.g b∧T0.a b) w0 w) {g:Nat} (hg:ownB T0 w0.heap.size g) (cs:Array Value):bK (fun b=>T0.g b∧T0.a b) w0 (w.setRow g cs):=
 h.step rfl rfl rfl (by simp [World.setRow]) fun k hk hk2=>setRow_other w g k cs (fun e=>by
  subst e
  rcases hg with hg|hg
  ·omega
  ·exact hk2 hg)
theorem Dy {t:TypeId} {x v:Operand} (ho:o.op=.store t x v) (hx:au x) (h:sV P t x v s K):aT P w0 T0 o s K:=by
 unfold sV at h
 cases hb:iC (s.ev v) with
 | none=>rw [hb] at h;exact h.elim
 | some cs=>
  rw [hb] at h
  obtain ⟨⟨hv,hpos,hsz⟩,h⟩:=h
  refine aT.mem fun H a w m hm=>?_
  have hl:=pz (hm.ev v hv) hb
  have rx:=hm.ev x hx
  revert h rx
  generalize s.ev x=ax
  generalize hvx:a.eval x=vx
  intro h rx
  obtain ⟨inf,hinf⟩:=bM hpos
  have hsz':(sizeOf t).run P w=.ok (P.cellsOf t) w:=dw hinf w
  have hcl:(a.eval v).cells.size=P.cellsOf t:=by
   have:=hl.length;rw [hsz];simpa using this
  -- the store itself
  have run:∀ (g off:Nat) (cur:Array Value) (e:TypeId) (fz:Nat × Nat),vx=.pointer (some ⟨g,off,none⟩)→w.heap[g]?=some (.cells cur e fz)→Xi fz cur.size→off+(a.eval v).cells.toList.length≤cur.size →
    (execOp a.eval o).run P w=.ok .skip (w.setRow g (iM cur.toList off (a.eval v).cells.toList).toArray):=by
   intro g off cur e fz he hg hmk hle
   have hr:=kD P g off e fz (a.eval v).cells.toList 0 cur w hg hmk (by simpa using hle) hl.one
   rw [Nat.add_zero] at hr
   rw [Gf _ _ _ (by simpa using hle)]
   unfold execOp;rw [ho]
   simp [hvx,he,Instr.storeAt,Instr.sureAddr,storeVar,hsz',hcl,hr]
  cases ax with
  | ptr i off=>
   dsimp only at h
   cases hi:lk s.rows i with
   | none=>rw [hi] at h;exact h.elim
   | some it=>
    rw [hi] at h
    cases it with
    | row e r=>exact h.elim
    | map _ _=>exact h.elim
    | iter _ _ _=>exact h.elim
    | siter _ _=>exact h.elim
    | box e bs=>
     dsimp only at h
     obtain ⟨hle,hk⟩:=h
     cases rx with
     | ptr _ _ g _ hg=>
      obtain ⟨g',vs,hv',hge,hlb,hh⟩:=(hm.rows i _ hi).2
      have hmi:blk (m i)=some g:=hg
      rw [hv'] at hmi;cases hmi
      have hlen:=hlb.length
      have hlc:=hl.length
      refine ⟨.dead,undef,_,_,m,hk,.inr ⟨run g' off vs.toArray e (0,0) rfl hh (.inl rfl) (by simp at hlc ⊢;omega),rfl⟩,?_⟩
      refine (hm.upd (bK.setRow hm.below hge _) hi (fun b hb hne=>setRow_other w g' b _ (fun e=>hne (by rw [hv',e];rfl))) _ (fun c hle' hw hmm hN=>?_)).hold (.dead _)
      refine ⟨g',iM vs off (a.eval v).cells.toList,hv',hge,cO.spl off (hlb.mono hle') (hl.mono hle'),?_⟩
      rw [hw];exact setRow_heap w g' _ _ _ _ hh
  | elt i sz idx off=>
   dsimp only at h
   cases hi:lk s.rows i with
   | none=>rw [hi] at h;exact h.elim
   | some it=>
    rw [hi] at h
    cases it with
    | map _ _=>exact h.elim
    | iter _ _ _=>exact h.elim
    | siter _ _=>exact h.elim
    | box e bs=>exact h.elim
    | row e r=>
     dsimp only at h
     obtain ⟨⟨hlt,rfl⟩,h⟩:=h
     cases hs:lH r idx off cs with
     | none=>rw [hs] at h;exact h.elim
     | some r'=>
      rw [hs] at h
      cases rx with
      | elt _ _ _ _ g _ hg=>
       obtain ⟨n,cells,hr,hn,how,hO⟩:=(hm.rows i _ hi).2
       obtain ⟨hr',hlen',hsz'',hoff⟩:=Lj hr hs hl hlt
       have hcl':=hr.len
       have hblk:blk (m i)=some g:=hg
       rcases how.2 with ⟨hv',_⟩|⟨g',cap,cur,fz,hv',hge,hh,hnc,hcm,hcs,htake⟩
       ·rw [hv'] at hblk;cases hblk
       ·rw [hv'] at hblk;cases hblk
        have hxl:cells.length=n*r.sz:=how.1
        have hin:idx*r.sz+off+(a.eval v).cells.toList.length≤cells.length:=by
         have:(idx+1)*r.sz≤r.len*r.sz:=Nat.mul_le_mul_right _ hlt
         rw [Nat.succ_mul] at this
         rw [hcl'];omega
        have hcur:cur.toList=cells++cur.toList.drop (n*r.sz):=by rw [←htake,List.take_append_drop]
        have hcurlen:cells.length≤cur.size:=by
         have:=congrArg List.length hcur;simp at this;rw [hxl];omega
        refine ⟨.dead,undef,_,_,m,h,.inr ⟨run g' _ cur e fz rfl hh hge.w (by omega),rfl⟩,?_⟩
        refine (hm.upd (bK.setRow hm.below (hO _ (by rw [hv'];rfl)) _) hi (fun b hb hne=>setRow_other w g' b _ (fun e=>hne (by rw [hv',e];rfl))) _ (fun c hle' hw hmm hN=>?_)).hold (.dead _)
        refine ⟨n,iM cells (idx*r.sz+off) (a.eval v).cells.toList,hr'.mono hle',by rw [hlen',hn],?_,hO⟩
        refine ⟨by rw [jd,hsz''];exact how.1,.inr ⟨g',cap,(iM cur.toList (idx*r.sz+off) (a.eval v).cells.toList).toArray,fz,hv',by simpa [jd] using hge,by rw [hw];exact setRow_heap w g' _ _ _ _ hh,hnc,hcm,?_,?_⟩⟩
        ·simp only [List.size_toArray,jd,Array.length_toList,hsz''];exact hcs
        ·rw [hsz'']
         show List.take (n*r.sz) (iM cur.toList (idx*r.sz+off) (a.eval v).cells.toList)=_
         conv=>lhs;rw [hcur]
         rw [xZ _ _ _ _ hin]
         have e2:(iM cells (idx*r.sz+off) (a.eval v).cells.toList).length=n*r.sz:=by rw [jd,hxl]
         rw [←e2,List.take_left']
         rfl
  | _=>exact h.elim
/-! ### make -/
def yc (P:Program) (t:TypeId) (l c:Operand) (s:S) (K:AV→S→Prop):Prop:=
 match P.underlying t,s.ev l,s.ev c with
 | some (.slice e),.int _ n,.int _ n2=>match zeroOf P e with
  | some z=>aZ (bH P e z) (aZ (0≤n∧n≤n2∧n2≤137438953472) (K (.own s.next) (s.add (.row e (jO z n.toNat)))))
  | none=>False
 | _,_,_=>False
theorem Yf {z:Value} (h:Xg z):0<z.cells.size:=by
 cases z<;>first|exact h.2|exact h.elim|exact Nat.one_pos
theorem lZ {H:List (AV × Value)} {a:Act} {w:World} {s:S} {rows:List (Nat × Item)} {m:Nat→Value} {v:Value}
  (h:bC w0 T0 H { s with rows:=rows,next:=s.next+1 } a w (Fv.upd m s.next v)) (h1:v.oneCell'=true) :
  bC w0 T0 ((.own s.next,v)::H) { s with rows:=rows,next:=s.next+1 } a w (Fv.upd m s.next v):=by
 refine h.hold ?_
 have e:(Fv.upd m s.next v) s.next=v:=upd_same _ _ _
 have hr:Rv (aA T0 w0.heap.size (Fv.upd m s.next v) { s with rows:=rows,next:=s.next+1 } w) (.own s.next) ((Fv.upd m s.next v) s.next):=
  .own _ (Nat.lt_succ_self _) (by show Value.oneCell' (Fv.upd m s.next v s.next)=true;rw [e];exact h1)
 rw [e] at hr;exact hr
theorem GR {t:TypeId} {l c:Operand} (ho:o.op=.makeSlice t l c) (hl:au l) (hc:au c) (h:yc P t l c s K):aT P w0 T0 o s K:=by
 unfold yc at h
 refine aT.mem fun H a w m hm=>?_
 have rl:=hm.ev l hl
 have rc:=hm.ev c hc
 revert h rl rc
 generalize s.ev l=al
 generalize hvl:a.eval l=vl
 generalize s.ev c=ac
 generalize hvc:a.eval c=vc
 intro h rl rc
 cases ht:P.underlying t with
 | none=>rw [ht] at h;exact h.elim
 | some d=>
  rw [ht] at h
  cases d with
  | slice e=>
   cases al with
   | int k n=>
    cases ac with
    | int k2 n2=>
     cases rl;cases rc
     dsimp only at h
     cases hz:zeroOf P e with
     | none=>rw [hz] at h;exact h.elim
     | some z=>
      rw [hz] at h
      obtain ⟨hez,⟨h0,h1,h2⟩,hk⟩:=h
      obtain ⟨i,hi,hiz,his,hib⟩:=hez.ex
      have hb:(i.bytes:Int)*n2≤281474976710656:=by
       have h3:(i.bytes:Int)*n2≤1024*n2:=Int.mul_le_mul_of_nonneg_right (by omega) (by omega)
       omega
      have hr:=run_make (P:=P) w t e i z ht hi hiz k k2 n n2 h0 h1 hb (by omega)
      rw [his] at hr
      have hcells:=qX z.cells n2.toNat
      obtain ⟨hz1,hz2,hz3⟩:=wY (aA T0 w0.heap.size m s w) hez.ok n.toNat
      have hnew:=hm.new (w':=w.alloc (.cells (madeCells z.cells (n2.toNat*z.cells.size)) e)) (hm.below.alloc _) (fun b hb=>Below.heap_alloc w _ b hb)
       (.row e (jO z n.toNat)) (.slice (some ⟨w.heap.size,0,none⟩) n.toNat n2.toNat) (fun b hb=>by cases hb;exact Nat.le_refl _) (fun c' hle hw=>by
        obtain ⟨q1,q2,q3⟩:=wY c' hez.ok n.toNat
        refine ⟨n.toNat,_,q1,q2,?_,fun b hb=>by cases hb;exact .inl hm.lt⟩
        rw [hw,q3]
        refine ⟨by rw [jv];simp,.inr ⟨w.heap.size,n2.toNat,madeCells z.cells (n2.toNat*z.cells.size),(0,0),rfl,.inl rfl,heap_alloc_new w _,by omega,by simp only [maxLen];omega,by rw [size_madeCells],?_⟩⟩
        rw [hcells]
        have e1:n2.toNat=n.toNat+(n2.toNat - n.toNat):=by omega
        rw [e1,←List.replicate_append_replicate,List.flatten_append]
        have e2:((List.replicate n.toNat z.cells.toList).flatten).length=n.toNat*z.cells.size:=by rw [jv];simp
        rw [←e2,List.take_left'];rfl)
      refine ⟨_,_,_,_,_,hk,.inl ?_,(lZ hnew rfl)⟩
      unfold execOp;rw [ho]
      simp [hvl,hvc,hr]
    | _=>exact h.elim
   | _=>exact h.elim
  | _=>exact h.elim
/-! ### append -/
def sJ (s:S) (i:Nat) (like:aF):AV→Option aF
 | .ro r=>some r
 | .own j=>if j=i then none else match lk s.rows j with
  | some (.row _ r)=>some r
  | _=>none
 | .nilS=>some (dJ like 0 0)
 | .str l=>match like with
  | .ints .u8 _=>some (.ints .u8 (l.map fun b=>(b.toNat:Int)))
  | _=>none
 | _=>none
def Wh (P:Program) (e:TypeId):Prop:=(P.info? e).map (fun i=>decide (i.bytes≤16))=some true
def PX (P:Program) (t2:TypeId) (y:AV):Prop:=match y with
 | .str _=>P.underlying t2=some .string
 | _=>match P.underlying t2 with
  | some (.slice _)=>True
  | _=>False
def jJ (P:Program) (t t2:TypeId) (ax:AV) (y:Operand) (s:S) (K:AV→S→Prop):Prop:=
 match P.underlying t,ax with
 | some (.slice e),.own i=>match lk s.rows i with
  | some (.row e' r)=>match sJ s i r (s.ev y) with
   | some r2=>match appRow r r2 with
    | some r3=>match zeroOf P e with
     | some z=>aZ (bH P e z) (aZ (PX P t2 (s.ev y)∧au y∧e'=e∧r.sz=z.cells.size) (aZ (r3.len≤137438953472∨(r3.len≤8796093022208∧Wh P e)) (K (.own s.next) (s.swap i (.row e r3)))))
     | none=>False
    | none=>False
   | none=>False
  | _=>False
 | _,_=>False
def kG (P:Program) (t t2:TypeId) (x y:Operand) (s:S) (K:AV→S→Prop):Prop:=jJ P t t2 (s.ev x) y s K
theorem eH.read {c:Ctx} {a:Addr} {cells:List Value} (h:eH c a cells):∀ j u,cells[j]?=some u→c.w.cell? (a.add j)=some u:=h.2.2
theorem Le {H:List (AV × Value)} {a:Act} {w:World} {m:Nat→Value} (hm:bC w0 T0 H s a w m) {i:Nat} {like r2:aF} {y:AV} {v:Value} {lc:List Value} (hlike:bP (aA T0 w0.heap.size m s w) like lc)
  (hy:Rv (aA T0 w0.heap.size m s w) y v) (h:sJ s i like y=some r2):∃ cells,bP (aA T0 w0.heap.size m s w) r2 cells ∧
   ((v=.slice none 0 0∧r2.len=0∧(∀ l,y≠.str l))∨(∃ ad c,v=.slice (some ad) r2.len c∧(∀ j u,cells[j]?=some u→w.cell? (ad.add j)=some u)∧(∀ l,y≠.str l))∨∃ l:List UInt8,y=.str l∧v=.string ⟨l.toArray⟩∧r2.len=l.length∧cells=l.map fun b=>.int .u8 b.toNat):=by
 cases y with
 | ro r=>
  cases h
  cases hy with
  | roNil _ hr=>
   refine ⟨[],hr,.inl ⟨rfl,?_,fun l e=>by cases e⟩⟩
   have:=hr.len;have:=hr.pos;simp at *
   rcases Nat.mul_eq_zero.1 (by omega:r2.len*r2.sz=0) with e|e<;>omega
  | ro _ ad len cap cells hr hl _ _ hs=>exact ⟨cells,hr,.inr (.inl ⟨ad,cap,by rw [hl],hs.2.2,fun l e=>by cases e⟩)⟩
 | own j=>
  simp only [sJ] at h
  split at h
  ·cases h
  ·cases hj:lk s.rows j with
   | none=>rw [hj] at h;cases h
   | some it=>
    rw [hj] at h
    cases it with
    | map _ _=>cases h
    | iter _ _ _=>cases h
    | siter _ _=>cases h
    | box e cs=>cases h
    | row e r=>
     cases h
     obtain ⟨n,cells,hr,hn,how,hO⟩:=(hm.rows j _ hj).2
     cases hy with
     | own _ hj2 _=>
      refine ⟨cells,hr,?_⟩
      rcases how.2 with ⟨hv,hq⟩|⟨g,cap,cur,fz,hv,_⟩
      ·exact .inl ⟨hv,by omega,fun l e=>by cases e⟩
      ·refine .inr (.inl ⟨⟨g,0,none⟩,cap,by rw [hn];exact hv,fV how (g:=g) (by rw [hv];rfl),fun l e=>by cases e⟩)
 | nilS=>
  cases h
  cases hy
  exact ⟨_,hlike.sub 0 0,.inl ⟨rfl,by rw [ig _ _ _ (Nat.zero_le _)],fun l e=>by cases e⟩⟩
 | str l=>
  cases hy with
  | str _ hl=>
   simp only [sJ] at h
   split at h
   ·cases h
    refine ⟨_,.ints .u8 _ ?_,.inr (.inr ⟨l,rfl,rfl,by simp [aF.len],?_⟩)⟩
    ·intro x hx
     obtain ⟨b,_,rfl⟩:=List.mem_map.1 hx
     have:=b.toNat_lt
     exact um.2 ⟨by omega,by omega⟩
    ·rw [List.map_map];rfl
   ·cases h
 | _=>cases h
theorem rO {t t2:TypeId} {x y:Operand} (ho:o.op=.call { callee:=.builtin .append,args:=#[x,y],argTypes:=#[t,t2] }) {H:List (AV × Value)} {a:Act} {w:World} {m:Nat→Value} (hm:bC w0 T0 H s a w m) {ax:AV} (rx:Rv (aA T0 w0.heap.size m s w) ax (a.eval x)) (h:jJ P t t2 ax y s K) :
  ∃ r v s' w' m',K r s'∧((execOp a.eval o).run P w=.ok (.value v) w'∨((execOp a.eval o).run P w=.ok .skip w'∧v=undef))∧bC w0 T0 ((r,v)::H) s' a w' m':=by
 unfold jJ at h
 cases ht:P.underlying t with
 | none=>rw [ht] at h;exact h.elim
 | some d=>
  rw [ht] at h
  cases d with
  | slice e=>
   revert h rx
   generalize hvx:a.eval x=vx
   intro rx h
   cases ax with
   | own i=>
    dsimp only at h
    cases hi:lk s.rows i with
    | none=>rw [hi] at h;exact h.elim
    | some it=>
     rw [hi] at h
     cases it with
     | map _ _=>exact h.elim
     | iter _ _ _=>exact h.elim
     | siter _ _=>exact h.elim
     | box _ _=>exact h.elim
     | row e' r=>
      dsimp only at h
      cases hy:sJ s i r (s.ev y) with
      | none=>rw [hy] at h;exact h.elim
      | some r2=>
       rw [hy] at h
       dsimp only at h
       cases h3:appRow r r2 with
       | none=>rw [h3] at h;exact h.elim
       | some r3=>
        rw [h3] at h
        dsimp only at h
        cases hz:zeroOf P e with
        | none=>rw [hz] at h;exact h.elim
        | some z=>
         rw [hz] at h
         obtain ⟨hez,⟨hat,hoy,rfl,hrs⟩,hb,hk⟩:=h
         obtain ⟨n,cells,hr,hn,how,hO⟩:=(hm.rows i _ hi).2
         obtain ⟨cells2,hr2,hsrc⟩:=Le hm hr (hm.ev y hoy) hy
         obtain ⟨hr3,hl3,hs3,hs2⟩:=xq hr hr2 h3
         cases rx with
         | own _ hj2 h1=>
          have hml:cells2.length=r2.len*r.sz:=by rw [hr2.len,hs2]
          have hty:(∀ l,s.ev y≠.str l)→∃ e',P.underlying t2=some (.slice e'):=by
           intro hns
           unfold PX at hat
           split at hat
           ·rename_i l he;exact absurd he (hns l)
           ·split at hat
            ·rename_i e' he;exact ⟨e',he⟩
            ·exact hat.elim
          have hS:Src P w t2 r.sz (a.eval y) r2.len cells2:=by
           rcases hsrc with ⟨e1,e2,e3⟩|⟨ad,c,e1,e2,e3⟩|⟨l,e1,e2,e3,e4⟩
           ·obtain ⟨e',he⟩:=hty e3
            have hc:cells2=[]:=List.eq_nil_of_length_eq_zero (by rw [hml,e2,Nat.zero_mul])
            rw [e1,e2,hc];exact .none he
           ·obtain ⟨e',he⟩:=hty e3
            rw [e1];exact .slice he hml e2
           ·rw [e1] at hat
            rw [e2,e3,e4];exact .str l hat
          obtain ⟨v',w',hrun,how',hgr,hbl,hdr⟩:=JY (P:=P) (w:=w) (t:=t) (t2:=t2) (ty:=o.type) ht hez hrs hr.pos how hml hr2.one hS (hb.elim (fun hb=>.inl (by omega)) fun hb=>.inr ⟨by have:=hb.1;omega,hb.2⟩)
          have hown1:v'.oneCell'=true:=by rcases how'.2 with ⟨e,_⟩|⟨_,_,_,_,e,_⟩<;>rw [e]<;>rfl
          have hbk:∀ b,b<w.heap.size→blk (m i)≠some b→w'.heap[b]?=w.heap[b]?:=fun b hb hne=>hgr.block b hb (fun e=>hne (by
            rcases how.2 with ⟨e',_⟩|⟨g,_,_,_,e',_⟩
            ·rw [e'] at e;cases e
            ·rw [e'] at e ⊢;exact e.symm))
          have hsz:w.heap.size≤w'.heap.size:=hgr.size
          have hbelow:bK (fun b=>T0.g b∧T0.a b) w0 w':=hm.below.step hgr.os hgr.tape hgr.output hsz (fun k hk hk2=>hbk k (Nat.lt_of_lt_of_le hk hm.lt) fun e=>by
           rcases hO k e with h|h
           ·omega
           ·exact hk2 h)
          have hrep:=hm.Uy hbelow hi hbk (.row e' r3) v' (fun b h1 h2=>hbl b h1 h2) (fun c hle hw=>by
             refine ⟨n+r2.len,cells++cells2,hr3.mono hle,by rw [hl3,hn],?_,fun b hb=>?_⟩
             ·rw [hw,hs3];exact how'
             ·by_cases hlt:b<w.heap.size
              ·exact hO b (hbl b hb hlt)
              ·exact .inl (Nat.le_trans hm.lt (by omega)))
          refine ⟨_,_,_,_,_,hk,.inl ?_,lZ hrep hown1⟩
          unfold execOp;rw [ho]
          have hvx':a.eval x=m i:=hvx
          simp [resolve,invoke,builtin,hvx',hrun]
   | _=>exact h.elim
  | _=>exact h.elim
theorem iq {t t2:TypeId} {x y:Operand} (ho:o.op=.call { callee:=.builtin .append,args:=#[x,y],argTypes:=#[t,t2] }) (hx:au x) (h:kG P t t2 x y s K):aT P w0 T0 o s K:=
 aT.mem fun H a w m hm=>rO ho hm (hm.ev x hx) h
/-! ### len -/
def JB (P:Program) (t:TypeId) (x:Operand) (s:S) (K:AV→S→Prop):Prop:=
 match P.underlying t,s.ev x with
 | some .string,.str l=>qA (l.length≤9223372036854775807) (K (.int .i64 l.length) s)
 | some (.slice _),.ro r=>qA (r.len≤9223372036854775807) (K (.int .i64 r.len) s)
 | some (.slice _),.own i=>match lk s.rows i with
  | some (.row _ r)=>qA (r.len≤9223372036854775807) (K (.int .i64 r.len) s)
  | _=>False
 | some (.slice _),.nilS=>K (.int .i64 0) s
 | some (.slice _),.pre _ n=>aZ (n≤9223372036854775807) (K (.int .i64 n) s)
 | some (.map _ _),.own i=>match lk s.rows i with
  | some (.map ks _)=>aZ (ks.length≤9223372036854775807) (K (.int .i64 ks.length) s)
  | _=>False
 | _,_=>False
theorem SS {n:Nat} (h:n≤9223372036854775807):jf .i64 n:=kY.2 ⟨by omega,by omega⟩
theorem maxLen_eq:maxLen=9223372036854775807:=by simp [maxLen]
theorem JD {t:TypeId} {x:Operand} (ho:o.op=.call { callee:=.builtin .len,args:=#[x],argTypes:=#[t] }) (hx:au x) (h:JB P t x s K):cZ P w0 T0 o s K:=by
 unfold JB at h
 intro H a w m hm
 have rx:=hm.ev x hx
 revert h rx
 generalize s.ev x=ax
 generalize hvx:a.eval x=vx
 intro h rx
 cases ht:P.underlying t with
 | none=>rw [ht] at h;exact h.elim
 | some d=>
  rw [ht] at h
  have fin:∀ n:Nat,n≤9223372036854775807→K (.int .i64 n) s→(Builtin.len_ #[t] o.type #[vx]).run P w=.ok (.int .i64 n) w→∃ r v,K r s∧(execOp a.eval o).run P w=.ok (.value v) w∧Rv (aA T0 w0.heap.size m s w) r v:=by
   intro n hn hk hr
   refine ⟨_,_,hk,?_,.int _ _ (SS hn)⟩
   unfold execOp;rw [ho]
   simp [resolve,invoke,builtin,hvx,hr]
  cases d with
  | string=>
   cases ax with
   | str l=>
    cases rx with
    | str _ hl=>
     have hl':l.length≤9223372036854775807:=by rw [←maxLen_eq];exact hl
     refine fin l.length hl' (h hl') ?_
     have e:(ByteArray.mk l.toArray).size=l.length:=by show l.toArray.size=_;simp
     simp [Builtin.len_,run_underlying ht,goInt,e]
   | _=>exact h.elim
  | slice e=>
   cases ax with
   | ro r=>
    cases rx with
    | roNil _ hr=>
     have hz:r.len=0:=by
      have h1:=hr.len;have h2:=hr.pos;simp at h1
      rcases Nat.mul_eq_zero.1 (by omega:r.len*r.sz=0) with e|e<;>omega
     have hl':r.len≤9223372036854775807:=by omega
     refine fin r.len hl' (h hl') ?_
     simp [Builtin.len_,run_underlying ht,goInt,hz]
    | ro _ ad len cap cells hr hl hc hmx hs=>
     have hl':r.len≤9223372036854775807:=by rw [←maxLen_eq];omega
     refine fin r.len hl' (h hl') ?_
     simp [Builtin.len_,run_underlying ht,goInt,hl]
   | pre i n=>
    obtain ⟨hn,hk⟩:=h
    cases rx with
    | pre _ _ l cap a hi hv hnl=>
     refine fin n hn hk ?_
     simp [Builtin.len_,run_underlying ht,goInt]
   | own i=>
    dsimp only at h
    cases hi:lk s.rows i with
    | none=>rw [hi] at h;exact h.elim
    | some it=>
     rw [hi] at h
     cases it with
     | map _ _=>exact h.elim
     | iter _ _ _=>exact h.elim
     | siter _ _=>exact h.elim
     | box _ _=>exact h.elim
     | row e' r=>
      obtain ⟨n,cells,hr,hn,how,hO⟩:=(hm.rows i _ hi).2
      cases rx with
      | own _ hj2 _=>
       rcases how.2 with ⟨hv,hq⟩|⟨g,cap,cur,fz,hv,_,_,hnc,hcm,_⟩
       ·have hv':(aA T0 w0.heap.size m s w).m i=.slice none 0 0:=hv
        have hl':r.len≤9223372036854775807:=by omega
        refine fin r.len hl' (h hl') ?_
        rw [hv',hn,hq]
        simp [Builtin.len_,run_underlying ht,goInt]
       ·have hv':(aA T0 w0.heap.size m s w).m i=.slice (some ⟨g,0,none⟩) n cap:=hv
        have hl':r.len≤9223372036854775807:=by rw [←maxLen_eq];omega
        refine fin r.len hl' (h hl') ?_
        rw [hv',hn]
        simp [Builtin.len_,run_underlying ht,goInt]
   | nilS=>
    cases rx
    refine fin 0 (by omega) h ?_
    simp [Builtin.len_,run_underlying ht,goInt]
   | _=>exact h.elim
  | map kt et=>
   cases ax with
   | own i=>
    dsimp only at h
    cases hi:lk s.rows i with
    | none=>rw [hi] at h;exact h.elim
    | some it=>
     rw [hi] at h
     cases it with
     | row _ _=>exact h.elim
     | iter _ _ _=>exact h.elim
     | siter _ _=>exact h.elim
     | box _ _=>exact h.elim
     | map ks vs=>
      obtain ⟨hl,hk⟩:=h
      obtain ⟨g,es,clock,hv,_,h1,_,_,_,hh⟩:=(hm.rows i _ hi).2
      cases rx with
      | own _ hj2 _=>
       have hv':(aA T0 w0.heap.size m s w).m i=.map (some g):=hv
       have hsz:es.size=ks.length:=by
        have:=h1.length
        simpa using this
       refine fin ks.length hl hk ?_
       have hget:(getObj g).run P w=.ok (.map es clock) w:=MapKept.run_getObj_map hh
       rw [hv']
       simp [Builtin.len_,run_underlying ht,goInt,hget,Sem.run_bind,Result.andThen,hsz]
   | _=>exact h.elim
  | _=>cases ax<;>exact h.elim
theorem JC {t:TypeId} {x:Operand} (ho:o.op=.call { callee:=.builtin .len,args:=#[x],argTypes:=#[t] }) (hx:au x) (h:JB P t x s K):aT P w0 T0 o s K:=(JD ho hx h).op
end
end Go.Fv
/-
 Owned rows that become values; literal slices; parts of structs; strings and slices of them; conversions.
-/
namespace Go.Fv
open Go.RowKit
mutual
def jl (rows:List (Nat × Item)):AV→AV × List (Nat × Item)
 | .own i=>match lk rows i with
  | some (.row _ r)=>if eG r=true then (.ro r,del rows i) else (.own i,rows)
  | _=>(.own i,rows)
 | .agg cs=>(.agg (qN rows cs).1,(qN rows cs).2)
 | .dead=>(.dead,rows)
 | .nilS=>(.nilS,rows)
 | .bool b=>(.bool b,rows)
 | .int k n=>(.int k n,rows)
 | .str s=>(.str s,rows)
 | .ro r=>(.ro r,rows)
 | .cell cs=>(.cell cs,rows)
 | .ptr i o=>(.ptr i o,rows)
 | .elt a b c d=>(.elt a b c d,rows)
 | .pre a b=>(.pre a b,rows)
 | .suf a b c d=>(.suf a b c d,rows)
 | .tup cs=>(.tup cs,rows)
 | .fn f cs=>(.fn f cs,rows)
 | .raw v=>(.raw v,rows)
 | .opt b v=>(.opt b v,rows)
 | .ifc b v=>(.ifc b v,rows)
 | .bm b v=>(.bm b v,rows)
 | .mp ks vs=>(.mp ks vs,rows)
def qN (rows:List (Nat × Item)):List AV→List AV × List (Nat × Item)
 | []=>([],rows)
 | x::l=>((jl rows x).1::(qN (jl rows x).2 l).1,(qN (jl rows x).2 l).2)
end
section
variable {w0:World} {T0:Bs}
theorem dK.forget {m:Nat→Value} {s:S} {w:World} {B:Nat} {rows':List (Nat × Item)} (h:∀ i it,lk rows' i=some it→lk s.rows i=some it):dK (aA T0 B m s w) (aA T0 B m { s with rows:=rows' } w):=
 ji (Nat.le_refl _) (fun _ _=>rfl) (fun _ _ _=>rfl) fun i it b hi hb _=>⟨i,it,h i it hi,hb⟩
theorem jQ (l:List (Nat × Item)) (k:Nat):∀ i it,lk (del l k) i=some it→lk l i=some it:=by
 intro i it h
 rw [mD] at h
 split at h
 ·cases h
 ·exact h
mutual
theorem vO:∀ (x:AV) (rows:List (Nat × Item)) (i:Nat) (it:Item),lk (jl rows x).2 i=some it→lk rows i=some it
 | .own k,rows,i,it,h=>by
  unfold jl at h
  split at h
  ·split at h
   ·exact jQ _ _ _ _ h
   ·exact h
  ·exact h
 | .agg cs,rows,i,it,h=>qO cs rows i it (by simpa only [jl] using h)
 | .dead,_,_,_,h=>by simpa only [jl] using h
 | .nilS,_,_,_,h=>by simpa only [jl] using h
 | .bool _,_,_,_,h=>by simpa only [jl] using h
 | .int _ _,_,_,_,h=>by simpa only [jl] using h
 | .str _,_,_,_,h=>by simpa only [jl] using h
 | .ro _,_,_,_,h=>by simpa only [jl] using h
 | .cell _,_,_,_,h=>by simpa only [jl] using h
 | .ptr _ _,_,_,_,h=>by simpa only [jl] using h
 | .elt _ _ _ _,_,_,_,h=>by simpa only [jl] using h
 | .pre _ _,_,_,_,h=>by simpa only [jl] using h
 | .suf _ _ _ _,_,_,_,h=>by simpa only [jl] using h
 | .tup _,_,_,_,h=>by simpa only [jl] using h
 | .fn _ _,_,_,_,h=>by simpa only [jl] using h
 | .raw _,_,_,_,h=>by simpa only [jl] using h
 | .opt _ _,_,_,_,h=>by simpa only [jl] using h
 | .ifc _ _,_,_,_,h=>by simpa only [jl] using h
 | .bm _ _,_,_,_,h=>by simpa only [jl] using h
 | .mp _ _,_,_,_,h=>by simpa only [jl] using h
theorem qO:∀ (x:List AV) (rows:List (Nat × Item)) (i:Nat) (it:Item),lk (qN rows x).2 i=some it→lk rows i=some it
 | [],rows,i,it,h=>by simpa only [qN] using h
 | x::l,rows,i,it,h=>vO x rows i it (qO l _ i it (by simpa only [qN] using h))
end
theorem KX {H:List (AV × Value)} {s:S} {a:Act} {w:World} {m:Nat→Value} (hm:bC w0 T0 H s a w m) {i:Nat} {e:TypeId} {r:aF} (hi:lk s.rows i=some (.row e r)) {rows':List (Nat × Item)}
  (hsub:∀ j it,lk rows' j=some it→lk s.rows j=some it) (hno:lk rows' i=none) (hid:eG r=true):Rv (aA T0 w0.heap.size m { s with rows:=rows' } w) (.ro r) (m i):=by
 obtain ⟨n,cells,hc,hn,ho,hO⟩:=(hm.rows i _ hi).2
 have hle:=dK.forget (T0:=T0) (m:=m) (w:=w) (B:=w0.heap.size) hsub
 have hc':=hc.mono hle
 rcases ho.2 with ⟨hv,hz⟩|⟨g,cap,cur,fz,hv,hg,hh,hnc,hcm,hcs,htake⟩
 ·rw [hv]
  have hcl:cells=[]:=List.eq_nil_of_length_eq_zero (by rw [ho.1,hz];simp)
  subst hcl
  exact .roNil r hc' hid
 ·have hcells:=fV ho (g:=g) (by rw [hv];rfl)
  rw [hv]
  refine .ro r ⟨g,0,none⟩ n cap cells hc' hn hnc hcm ⟨trivial,fun _=>⟨(hO g (by rw [hv];rfl)).imp id (·.2),fun j jt hj hbj=>?_⟩,hcells⟩ hid
  have:=hm.sep i j _ jt g hi (hsub j jt hj) (by rw [hv];rfl) hbj
  subst this
  rw [hno] at hj;cases hj
mutual
theorem Qv {H:List (AV × Value)} {a:Act} {w:World} {m:Nat→Value} {n:Nat} {env:List (Nat × AV)} {next:Nat}:∀ (x:AV) (rows:List (Nat × Item)) (v:Value),bC w0 T0 H ⟨n,env,rows,next⟩ a w m→Rv (aA T0 w0.heap.size m ⟨n,env,rows,next⟩ w) x v →
  Rv (aA T0 w0.heap.size m ⟨n,env,(jl rows x).2,next⟩ w) (jl rows x).1 v
 | .own k,rows,v,hm,hx=>by
  unfold jl
  split
  ·rename_i e r he
   split
   ·rename_i hid
    cases hx with
    | own _ _ _=>exact KX hm he (jQ _ _) (by rw [mD,if_pos rfl]) hid
   ·exact hx
  ·exact hx
 | .agg cs,rows,v,hm,hx=>by
  simp only [jl]
  cases hx with
  | agg _ vs hl=>exact .agg _ _ (MN cs rows vs hm hl)
 | .dead,_,_,_,hx=>by simpa only [jl] using hx
 | .nilS,_,_,_,hx=>by simpa only [jl] using hx
 | .bool _,_,_,_,hx=>by simpa only [jl] using hx
 | .int _ _,_,_,_,hx=>by simpa only [jl] using hx
 | .str _,_,_,_,hx=>by simpa only [jl] using hx
 | .ro _,_,_,_,hx=>by simpa only [jl] using hx
 | .cell _,_,_,_,hx=>by simpa only [jl] using hx
 | .ptr _ _,_,_,_,hx=>by simpa only [jl] using hx
 | .elt _ _ _ _,_,_,_,hx=>by simpa only [jl] using hx
 | .pre _ _,_,_,_,hx=>by simpa only [jl] using hx
 | .suf _ _ _ _,_,_,_,hx=>by simpa only [jl] using hx
 | .tup _,_,_,_,hx=>by simpa only [jl] using hx
 | .fn _ _,_,_,_,hx=>by simpa only [jl] using hx
 | .raw _,_,_,_,hx=>by simpa only [jl] using hx
 | .opt _ _,_,_,_,hx=>by simpa only [jl] using hx
 | .ifc _ _,_,_,_,hx=>by simpa only [jl] using hx
 | .bm _ _,_,_,_,hx=>by simpa only [jl] using hx
 | .mp _ _,_,_,_,hx=>by simpa only [jl] using hx
theorem MN {H:List (AV × Value)} {a:Act} {w:World} {m:Nat→Value} {n:Nat} {env:List (Nat × AV)} {next:Nat}:∀ (x:List AV) (rows:List (Nat × Item)) (v:List Value),bC w0 T0 H ⟨n,env,rows,next⟩ a w m→cO (aA T0 w0.heap.size m ⟨n,env,rows,next⟩ w) x v →
  cO (aA T0 w0.heap.size m ⟨n,env,(qN rows x).2,next⟩ w) (qN rows x).1 v
 | [],rows,v,hm,hx=>by cases hx;exact .nil
 | x::l,rows,v,hm,hx=>by
  cases hx with
  | cons _ u _ us h h1 t=>
   simp only [qN]
   have hm1:bC w0 T0 H ⟨n,env,(jl rows x).2,next⟩ a w m:=hm.forget (jl rows x).2 (vO x rows)
   have hle:dK (aA T0 w0.heap.size m ⟨n,env,rows,next⟩ w) (aA T0 w0.heap.size m ⟨n,env,(jl rows x).2,next⟩ w):=dK.forget (s:=⟨n,env,rows,next⟩) (vO x rows)
   have hle2:dK (aA T0 w0.heap.size m ⟨n,env,(jl rows x).2,next⟩ w) (aA T0 w0.heap.size m ⟨n,env,(qN (jl rows x).2 l).2,next⟩ w):=dK.forget (s:=⟨n,env,(jl rows x).2,next⟩) (qO l _)
   exact .cons _ _ _ _ ((Qv x rows u hm h).mono hle2) h1 (MN l _ us hm1 (t.mono hle))
end
def yZ (s:S) (l:List AV):List AV × List (Nat × Item):=match lk s.env 999999 with
 | none=>qN s.rows l
 | some _=>(l,s.rows)
theorem Qu (s:S) (x:List AV) (i:Nat) (it:Item) (h:lk (yZ s x).2 i=some it):lk s.rows i=some it:=by
 unfold yZ at h
 split at h
 ·exact qO _ _ _ _ h
 ·exact h
/-! ### Literal slices -/
def jg (r:aF) (v:AV):Option aF:=
 match r with
 | .bools l=>match v with | .bool b=>some (.bools (l++[b]))|_=>none
 | .ints k l=>match v with | .int k' n=>if k=k' then some (.ints k (l++[n])) else none|_=>none
 | .strs l=>match v with | .str t=>some (.strs (l++[t]))|_=>none
 | .objs sz l=>match iC v with|some cs=>if cs.length=sz then some (.objs sz (l++[cs])) else none|none=>none
def lY:aF→List AV→Option aF
 | r,[]=>some r
 | r,v::l=>match jg r v with
  | some r'=>lY r' l
  | none=>none
theorem JX {c:Ctx} {r r':aF} {cells:List Value} {x:AV} {v:Value} (hr:bP c r cells) (hx:Rv c x v) (h:jg r x=some r') :
  bP c r' (cells++v.cells.toList)∧r'.len=r.len+1∧r'.sz=r.sz∧v.cells.size=r.sz∧∀ u,u∈v.cells.toList→u.oneCell'=true:=by
 cases hr with
 | bools l=>
  cases x with
  | bool b=>
   simp only [jg] at h;cases h
   cases hx
   refine ⟨?_,by simp [aF.len],rfl,rfl,fun u hu=>by simp [Value.cells] at hu;subst hu;rfl⟩
   have:=bP.bools (c:=c) (l++[b]);rw [List.map_append] at this;exact this
  | _=>simp only [jg] at h;cases h
 | ints k l hk=>
  cases x with
  | int k' n=>
   simp only [jg] at h
   split at h<;>cases h
   rename_i e;subst e
   cases hx with
   | int _ _ hn=>
    refine ⟨?_,by simp [aF.len],rfl,rfl,fun u hu=>by simp [Value.cells] at hu;subst hu;rfl⟩
    have:=bP.ints (c:=c) k (l++[n]) (fun y hy=>by
     cases List.mem_append.1 hy with
     | inl e=>exact hk y e
     | inr e=>rw [List.mem_singleton.1 e];exact hn)
    rw [List.map_append] at this;exact this
  | _=>simp only [jg] at h;cases h
 | strs l hs=>
  cases x with
  | str q=>
   simp only [jg] at h;cases h
   cases hx with
   | str _ hn=>
    refine ⟨?_,by simp [aF.len],rfl,rfl,fun u hu=>by simp [Value.cells] at hu;subst hu;rfl⟩
    have:=bP.strs (c:=c) (l++[q]) (fun y hy=>by
     cases List.mem_append.1 hy with
     | inl e=>exact hs y e
     | inr e=>rw [List.mem_singleton.1 e];exact hn)
    rw [List.map_append] at this;exact this
  | _=>simp only [jg] at h;cases h
 | objs sz l cells hz ho=>
  simp only [jg] at h
  cases hb:iC x with
  | none=>rw [hb] at h;cases h
  | some cs=>
   rw [hb] at h
   dsimp only at h
   split at h<;>cases h
   rename_i e
   have hl:=pz hx hb
   have hlen:=hl.length
   refine ⟨?_,by simp [aF.len],rfl,by simp only [aF.sz];simp at hlen;omega,hl.one⟩
   refine .objs _ _ _ hz (ho.append ?_)
   have:=bJ.cons (c:=c) sz cs v.cells.toList [] [] hl (by rw [hlen,e]) (.nil sz)
   simpa using this
end
end Go.Fv
/-
 Literals of slices, structs, arrays.
-/
namespace Go.Fv
open Go.RowKit
theorem BA (off:Nat):∀ (l:List Value) (k:Nat) (cs:Array Value),(l.zipIdx k).foldl (fun cs (p:Value × Nat)=>cs.setIfInBounds (off+p.2) p.1) cs=(iM cs.toList (off+k) l).toArray
 | [],k,cs=>by simp [iM]
 | c::l,k,cs=>by
  rw [List.zipIdx_cons,List.foldl_cons,BA off l (k+1) _,iM]
  simp [Nat.add_assoc]
theorem DU (place:Nat→Option (Nat × Nat)) (cells:Array Value) (i:Nat) (v:Value) (rest:List (Nat × Value)) (off size:Nat) (hp:place i=some (off,size)) (h1:v.cells.size=size) (h2:off+v.cells.size≤cells.size) :
  Instr.fill place cells ((i,v)::rest)=Instr.fill place (iM cells.toList off v.cells.toList).toArray rest:=by
 simp only [Instr.fill,hp]
 rw [if_neg (by simp;omega)]
 congr 1
 have:=BA off v.cells.toList 0 cells
 rw [Nat.add_zero] at this
 rw [←this,←Array.foldl_toList,Array.toList_zipIdx]
def idxFrom:Nat→List (Nat × Operand)→Prop
 | _,[]=>True
 | k,(i,_)::l=>i=k∧idxFrom (k+1) l
section
variable {P:Program} {w0:World} {T0:Bs} {o:Oper} {s:S} {K:AV→S→Prop}
theorem MO {H:List (AV × Value)} {a:Act} {w:World} {m:Nat→Value} {n:Nat} {env:List (Nat × AV)} {next:Nat}:∀ (x:List AV) (rows:List (Nat × Item)) (v:List Value),bC w0 T0 H ⟨n,env,rows,next⟩ a w m→dH (aA T0 w0.heap.size m ⟨n,env,rows,next⟩ w) x v →
  dH (aA T0 w0.heap.size m ⟨n,env,(qN rows x).2,next⟩ w) (qN rows x).1 v
 | [],rows,v,hm,hx=>by cases hx;exact .nil
 | x::l,rows,v,hm,hx=>by
  cases hx with
  | cons _ u _ us h t=>
   simp only [qN]
   have hm1:bC w0 T0 H ⟨n,env,(jl rows x).2,next⟩ a w m:=hm.forget (jl rows x).2 (vO x rows)
   have hle:dK (aA T0 w0.heap.size m ⟨n,env,rows,next⟩ w) (aA T0 w0.heap.size m ⟨n,env,(jl rows x).2,next⟩ w):=dK.forget (s:=⟨n,env,rows,next⟩) (vO x rows)
   have hle2:dK (aA T0 w0.heap.size m ⟨n,env,(jl rows x).2,next⟩ w) (aA T0 w0.heap.size m ⟨n,env,(qN (jl rows x).2 l).2,next⟩ w):=dK.forget (s:=⟨n,env,(jl rows x).2,next⟩) (qO l _)
   exact .cons _ _ _ _ ((Qv x rows u hm h).mono hle2) (MO l _ us hm1 (t.mono hle))
theorem TR {H:List (AV × Value)} {a:Act} {w:World} {m:Nat→Value} {n:Nat} {env:List (Nat × AV)} {rows:List (Nat × Item)} {next:Nat} {x:List AV} {v:List Value} (hm:bC w0 T0 H ⟨n,env,rows,next⟩ a w m) (hx:dH (aA T0 w0.heap.size m ⟨n,env,rows,next⟩ w) x v) :
  dH (aA T0 w0.heap.size m ⟨n,env,(yZ ⟨n,env,rows,next⟩ x).2,next⟩ w) (yZ ⟨n,env,rows,next⟩ x).1 v:=by
 unfold yZ
 split
 ·exact MO _ _ _ hm hx
 ·exact hx
theorem Ak {c:Ctx} (size:Nat):∀ (vals:List AV) (us:List Value) (ops:List (Nat × Value)) (k:Nat) (r r':aF) (pre suf:List Value),bP c r pre→r.sz=size→r.len=k→dH c vals us→lY r vals=some r'→suf.length=vals.length*size →
  (ops.map (·.2)=us∧ops.map (·.1)=List.range' k us.length) →
  ∃ cells,Instr.fill (fun i=>some (i*size,size)) (pre++suf).toArray ops=some cells.toArray∧bP c r' cells∧r'.len=k+vals.length∧r'.sz=size
 | [],us,ops,k,r,r',pre,suf,hr,hs,hk,hv,ha,hl,ho=>by
  cases hv
  have:ops=[]:=by simpa using ho.1
  subst this
  simp only [lY] at ha;cases ha
  have:suf=[]:=List.eq_nil_of_length_eq_zero (by simpa using hl)
  subst this
  exact ⟨pre,by simp [Instr.fill],hr,by simpa using hk,hs⟩
 | x::vals,us,ops,k,r,r',pre,suf,hr,hs,hk,hv,ha,hl,ho=>by
  cases hv with
  | cons _ u _ us' hx ht=>
   cases ops with
   | nil=>simp at ho
   | cons q ops=>
    obtain ⟨i,u2⟩:=q
    simp only [List.map_cons,List.cons.injEq,List.length_cons,List.range'_succ] at ho
    obtain ⟨⟨rfl,ho1⟩,rfl,ho2⟩:=ho
    simp only [lY] at ha
    cases h1:jg r x with
    | none=>rw [h1] at ha;cases ha
    | some r1=>
     rw [h1] at ha
     obtain ⟨g1,g2,g3,g4,g5⟩:=JX hr hx h1
     have hpl:pre.length=i*size:=by rw [hr.len,hs,hk]
     have hsl:size≤suf.length:=by rw [hl,List.length_cons,Nat.succ_mul];omega
     rw [DU _ _ i u2 ops (i*size) size rfl (by rw [g4,hs]) (by simp;omega)]
     have e1:iM (pre++suf).toArray.toList (i*size) u2.cells.toList=(pre++u2.cells.toList)++suf.drop size:=by
      show iM (pre++suf) (i*size) u2.cells.toList=_
      have:=uU u2.cells.toList pre suf 0
      rw [Nat.add_zero,hpl] at this
      rw [this,Gf _ _ _ (by simp;omega)]
      simp [g4,hs]
     rw [e1]
     obtain ⟨cells,f1,f2,f3,f4⟩:=Ak size vals us' ops (i+1) r1 r' (pre++u2.cells.toList) (suf.drop size) g1 (by rw [g3,hs]) (by rw [g2,hk]) ht ha (by rw [List.length_drop,hl,List.length_cons,Nat.succ_mul];omega) ⟨ho1,ho2⟩
     exact ⟨cells,f1,f2,by rw [f3];simp;omega,f4⟩
def iG (P:Program) (t:TypeId) (len:Nat) (parts:Array (Nat × Operand)) (s:S) (K:AV→S→Prop):Prop:=
 match P.underlying t with
 | some (.slice e)=>match zeroOf P e with
  | some z=>aZ (bH P e z) (aZ (parts.toList.length=len∧idxFrom 0 parts.toList∧(∀ x,x∈parts.toList→au x.2)∧len*z.cells.size≤16777216)
    (match lY (jO z 0) (yZ s (evs s (parts.toList.map (·.2)))).1 with
     | some r=>K (.own s.next) { s with rows:=(s.next,.row e r)::(yZ s (evs s (parts.toList.map (·.2)))).2,next:=s.next+1 }
     | none=>False))
  | none=>False
 | _=>False
theorem tJ:∀ (l:List (Nat × Operand)) (k:Nat),idxFrom k l→l.map (·.1)=List.range' k l.length
 | [],_,_=>rfl
 |(i,_)::l,k,h=>by simp only [List.map_cons,List.length_cons,List.range'_succ];rw [h.1,tJ l (k+1) h.2]
theorem uX {t:TypeId} {len:Nat} {parts:Array (Nat × Operand)} (ho:o.op=.buildSlice t len parts) (h:iG P t len parts s K):aT P w0 T0 o s K:=by
 unfold iG at h
 cases ht:P.underlying t with
 | none=>rw [ht] at h;exact h.elim
 | some d=>
  rw [ht] at h
  cases d with
  | slice e=>
   dsimp only at h
   cases hz:zeroOf P e with
   | none=>rw [hz] at h;exact h.elim
   | some z=>
    rw [hz] at h
    obtain ⟨hez,⟨hlen,hidx,hok,hsz⟩,h⟩:=h
    cases ha:lY (jO z 0) (yZ s (evs s (parts.toList.map (·.2)))).1 with
    | none=>rw [ha] at h;exact h.elim
    | some r=>
     rw [ha] at h
     refine aT.mem fun H a w m hm=>?_
     obtain ⟨n,env,rows,next⟩:=s
     have hev:dH (aA T0 w0.heap.size m ⟨n,env,rows,next⟩ w) (evs ⟨n,env,rows,next⟩ (parts.toList.map (·.2))) ((parts.toList.map (·.2)).map a.eval):=hm.evs (fun x hx=>by
      obtain ⟨q,hq,rfl⟩:=List.mem_map.1 hx
      exact hok q hq)
     have hfr:=TR hm hev
     have hm1:bC w0 T0 H ⟨n,env,(yZ ⟨n,env,rows,next⟩ (evs ⟨n,env,rows,next⟩ (parts.toList.map (·.2)))).2,next⟩ a w m:=hm.forget _ (Qu _ _)
     obtain ⟨i,hi,hiz,his,hib⟩:=hez.ex
     obtain ⟨q1,q2,q3⟩:=wY (aA T0 w0.heap.size m ⟨n,env,(yZ ⟨n,env,rows,next⟩ (evs ⟨n,env,rows,next⟩ (parts.toList.map (·.2)))).2,next⟩ w) hez.ok 0
     have hml:(madeCells z.cells (len*z.cells.size)).toList.length=len*z.cells.size:=by simp [size_madeCells]
     have hvl:(yZ ⟨n,env,rows,next⟩ (evs ⟨n,env,rows,next⟩ (parts.toList.map (·.2)))).1.length=len:=by
      have:=hfr.length;simp at this;rw [←hlen];simp [this]
     obtain ⟨cells,f1,f2,f3,f4⟩:=Ak z.cells.size _ _ (parts.toList.map fun p=>(p.1,a.eval p.2)) 0 (jO z 0) r [] (madeCells z.cells (len*z.cells.size)).toList (by simpa using q1) q3 q2 hfr ha
      (by rw [hml,hvl]) ⟨by simp,by rw [List.map_map];have:=tJ parts.toList 0 hidx;simpa [Function.comp_def] using this⟩
     have hcl:cells.length=len*z.cells.size:=by rw [f2.len,f3,f4,hvl,Nat.zero_add]
     have hnew:=hm1.new (w':=w.alloc (.cells cells.toArray e)) (hm1.below.alloc _) (fun b hb=>Below.heap_alloc w _ b hb)
      (.row e r) (.slice (some ⟨w.heap.size,0,none⟩) len len) (fun b hb=>by cases hb;exact Nat.le_refl _) (fun c' hle hw=>by
       refine ⟨len,cells,f2.mono hle,by rw [f3,hvl,Nat.zero_add],?_,fun b hb=>by cases hb;exact .inl hm.lt⟩
       rw [hw,f4]
       have hpos:=Yf hez.ok
       refine ⟨hcl,.inr ⟨w.heap.size,len,cells.toArray,(0,0),rfl,.inl rfl,heap_alloc_new w _,Nat.le_refl _,?_,by simpa using hcl,by rw [←hcl];simp⟩⟩
       have:len≤len*z.cells.size:=Nat.le_mul_of_pos_right _ hpos
       simp only [maxLen];omega)
     refine ⟨_,_,_,_,_,h,.inl ?_,lZ hnew rfl⟩
     unfold execOp;rw [ho]
     have hsize:(sizeOf e).run P w=.ok z.cells.size w:=by simp [sizeOf,typeInfo,hi,his]
     have hz0:(zeroValue e).run P w=.ok z w:=by simp [zeroValue,typeInfo,hi,hiz]
     have hn16:¬(16777216<len*z.cells.size):=by omega
     have hfill:Instr.fill (fun i=>some (i*z.cells.size,z.cells.size)) ((Array.range (len*z.cells.size)).map (z.cells[·%z.cells.size]!)) (parts.toList.map fun p=>(p.1,a.eval p.2))=some cells.toArray:=by
      have:=f1;rw [List.nil_append,Array.toArray_toList] at this;exact this
     have hps:(parts.map fun (i,x)=>(i,a.eval x)).toList=parts.toList.map fun p=>(p.1,a.eval p.2):=by simp
     by_cases h0:len*z.cells.size=0
     ·have e1:∀ f:Nat→Value,(Array.range 0).map f=#[]:=fun f=>by simp
      rw [h0,e1] at hfill
      simp only [Instr.buildSlice,Sem.run_bind,run_underlying ht,Result.andThen,hsize,h0,hps]
      simp [e1,hfill,newRow]
     ·simp only [Instr.buildSlice,Sem.run_bind,run_underlying ht,Result.andThen,hsize,hps]
      simp [h0,hz0,hn16,hfill,newRow]
  | _=>exact h.elim
/-! ### Literals of structs and arrays -/
def uD (place:Nat→Option (Nat × Nat)):List AV→List (Nat × AV)→Option (List AV)
 | cs,[]=>some cs
 | cs,(i,v)::l=>match place i with
  | some (off,size)=>match iC v with
   | some us=>if us.length=size∧off+size≤cs.length then uD place (spl cs off us) l else none
   | none=>none
  | none=>none
theorem DJ {c:Ctx} {place:Nat→Option (Nat × Nat)}:∀ (parts:List (Nat × AV)) (ops:List (Nat × Value)) (cs cs':List AV) (vs:List Value),cO c cs vs→dH c (parts.map (·.2)) (ops.map (·.2))→parts.map (·.1)=ops.map (·.1)→uD place cs parts=some cs' →
  ∃ vs',Instr.fill place vs.toArray ops=some vs'.toArray∧cO c cs' vs'
 | [],ops,cs,cs',vs,h,hv,hi,hb=>by
  have:ops=[]:=by cases ops with|nil=>rfl|cons q l=>simp at hi
  subst this
  simp only [uD] at hb;cases hb
  exact ⟨vs,by simp [Instr.fill],h⟩
 |(i,x)::parts,ops,cs,cs',vs,h,hv,hi,hb=>by
  cases ops with
  | nil=>simp at hi
  | cons q ops=>
   obtain ⟨j,u⟩:=q
   simp only [List.map_cons,List.cons.injEq] at hi
   obtain ⟨rfl,hi⟩:=hi
   cases hv with
   | cons _ _ _ _ hx ht=>
    simp only [uD] at hb
    cases hp:place i with
    | none=>rw [hp] at hb;cases hb
    | some os=>
     obtain ⟨off,size⟩:=os
     rw [hp] at hb
     dsimp only at hb
     cases hbx:iC x with
     | none=>rw [hbx] at hb;cases hb
     | some us=>
      rw [hbx] at hb
      dsimp only at hb
      split at hb
      ·rename_i e
       have hl:=pz hx hbx
       have hlen:=hl.length
       have hlen2:=h.length
       simp at hlen
       rw [DU place vs.toArray i u ops off size hp (by omega) (by simp;omega)]
       exact DJ parts ops _ cs' _ (cO.spl off h hl) ht hi hb
      ·cases hb
def placeOf (P:Program) (d:TypeDesc) (i:Nat):Option (Nat × Nat):=
 match d with
 | .struct fs=>match fs[i]? with
  | some f=>some (f.offset,P.cellsOf f.type)
  | none=>none
 | .array _ e=>some (i*P.cellsOf e,P.cellsOf e)
 | _=>none
def Qs (P:Program):TypeDesc→Prop
 | .struct fs=>∀ f,f∈fs.toList→∃ i,P.info? f.type=some i
 | .array _ e=>∃ i,P.info? e=some i
 | _=>False
def aX (P:Program) (t:TypeId):Prop:=∀ d,P.underlying t=some d→Qs P d
def pW (P:Program) (t:TypeId) (parts:Array (Nat × Operand)) (s:S) (K:AV→S→Prop):Prop:=
 match P.underlying t,zeroOf P t with
 | some d,some z=>aZ (aX P t) (aZ ((∀ v,v∈z.cells.toList→v.oneCell'=true∧dZ v)∧∀ x,x∈parts.toList→au x.2)
   (match uD (placeOf P d) (z.cells.toList.map FK) (parts.toList.map fun p=>(p.1,s.ev p.2)) with
    | some cs=>K (.agg cs) s
    | none=>False))
 | _,_=>False
theorem yN:∀ (fs:List Field),(∀ f,f∈fs→∃ i,P.info? f.type=some i)→fs.mapM (fun f=>(P.info? f.type).map fun i=>(f.offset,i.size))=some (fs.map fun f=>(f.offset,P.cellsOf f.type))
 | [],_=>by simp
 | f::fs,h=>by
  obtain ⟨i,hi⟩:=h f (.head _)
  have ih:=yN fs fun g hg=>h g (.tail _ hg)
  have hc:P.cellsOf f.type=i.size:=by simp [Program.cellsOf,hi]
  simp [List.mapM_cons,hi,ih,hc]
theorem Dh {t:TypeId} {parts:Array (Nat × Operand)} (ho:o.op=.build t parts) (h:pW P t parts s K):cZ P w0 T0 o s K:=by
 unfold pW at h
 cases ht:P.underlying t with
 | none=>rw [ht] at h;exact h.elim
 | some d=>
  cases hz:zeroOf P t with
  | none=>rw [ht,hz] at h;exact h.elim
  | some z=>
   rw [ht,hz] at h
   dsimp only at h
   obtain ⟨hf0,⟨hzc,hok⟩,h⟩:=h
   have hf:=hf0 d ht
   cases hb:uD (placeOf P d) (z.cells.toList.map FK) (parts.toList.map fun p=>(p.1,s.ev p.2)) with
   | none=>rw [hb] at h;exact h.elim
   | some cs=>
    rw [hb] at h
    intro H a w m hm
    have hev:dH (aA T0 w0.heap.size m s w) ((parts.toList.map fun p=>(p.1,s.ev p.2)).map (·.2)) ((parts.toList.map fun p=>(p.1,a.eval p.2)).map (·.2)):=by
     have:=hm.evs (l:=parts.toList.map (·.2)) (fun x hx=>by
      obtain ⟨q,hq,rfl⟩:=List.mem_map.1 hx
      exact hok q hq)
     simpa [evs,Function.comp_def] using this
    obtain ⟨vs',h1,h2⟩:=DJ _ _ _ _ _ (rV (aA T0 w0.heap.size m s w) hzc) hev (by simp) hb
    refine ⟨_,_,h,?_,.agg _ _ h2⟩
    unfold execOp;rw [ho]
    have hps:(parts.map fun (i,x)=>(i,a.eval x)).toList=parts.toList.map fun p=>(p.1,a.eval p.2):=by simp
    have h1':Instr.fill (placeOf P d) z.cells (parts.map fun (i,x)=>(i,a.eval x)).toList=some vs'.toArray:=by
     rw [hps];simpa using h1
    have hbuilt:P.built t (parts.map fun (i,x)=>(i,a.eval x)).toList=some vs'.toArray:=by
     unfold zeroOf at hz
     cases hi:P.info? t with
     | none=>rw [hi] at hz;cases hz
     | some it=>
      rw [hi] at hz
      have hz2:it.zero=some z:=hz
      unfold Program.built
      rw [hi,ht]
      cases d with
      | struct fs=>
       simp only [hz2,yN fs.toList hf]
       have he:(fun i=>((fs.toList.map fun f=>(f.offset,P.cellsOf f.type)).toArray)[i]?)=placeOf P (.struct fs):=by
        funext i
        simp only [placeOf,List.getElem?_toArray,List.getElem?_map,Array.getElem?_toList]
        cases fs[i]?<;>rfl
       rw [he];exact h1'
      | array n e=>
       obtain ⟨q,hq⟩:=hf
       have hc:P.cellsOf e=q.size:=by simp [Program.cellsOf,hq]
       simp only [hz2,hq]
       have he:(fun i=>some (i*q.size,q.size))=placeOf P (.array n e):=by
        funext i;simp only [placeOf,hc]
       rw [he];exact h1'
      | _=>exact hf.elim
    have hr:=run_build (P:=P) w t _ _ hbuilt
    simp [hr]
theorem Df {t:TypeId} {parts:Array (Nat × Operand)} (ho:o.op=.build t parts) (h:pW P t parts s K):aT P w0 T0 o s K:=(Dh ho h).op
end
end Go.Fv
