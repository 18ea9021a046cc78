/-
  A part of the proof of the claim: walks over the program's functions and the plain laws that these need. No condition of its own.
-/
import Derived.Test.YtaahmkhlhgkfpaaDoorFvPart7
set_option linter.unusedSectionVars false
set_option linter.unusedVariables false
set_option linter.unusedSimpArgs false
set_option linter.unnecessarySimpa false
/-
 Calls: by contract, or into the callee's code.
-/
namespace Go.Fv
open Go.RowKit
structure qH (p:Nat→Nat) (c c':Ctx):Prop where
 n:∀ i,i<c.N→p i<c'.N
 m:∀ i,i<c.N→c'.m (p i)=c.m i
 t:∀ b,c.T b→b<c.w.heap.size→c'.T b∧c'.w.heap[b]?=c.w.heap[b]?
mutual
theorem kP {p:Nat→Nat} {n k:Nat} (h:∀ i,i<n→p i<k):∀ x:AV,Fv.below n x=true→Fv.below k (ren p x)=true
 | .own i,e=>by simp only [Fv.below,ren,decide_eq_true_eq] at *;exact h i e
 | .ptr i o,e=>by simp only [Fv.below,ren,decide_eq_true_eq] at *;exact h i e
 | .elt i a b c,e=>by simp only [Fv.below,ren,decide_eq_true_eq] at *;exact h i e
 | .pre i k,e=>by simp only [Fv.below,ren,decide_eq_true_eq] at *;exact h i e
 | .agg cs,e=>by simp only [Fv.below,ren] at *;exact iC h cs e
 | .tup cs,e=>by simp only [Fv.below,ren] at *;exact iC h cs e
 | .fn f cs,e=>by simp only [Fv.below,ren] at *;exact iC h cs e
 | .cell cs,_=>rfl
 | .dead,_=>rfl
 | .nilS,_=>rfl
 | .bool _,_=>rfl
 | .int _ _,_=>rfl
 | .str _,_=>rfl
 | .ro _,_=>rfl
 | .raw _,_=>rfl
 | .mp _ _,_=>rfl
 | .opt _ v,e=>by simp only [Fv.below,ren] at *;exact kP h v e
theorem iC {p:Nat→Nat} {n k:Nat} (h:∀ i,i<n→p i<k):∀ x:List AV,aB n x=true→aB k (dR p x)=true
 | [],_=>rfl
 | x::l,e=>by
  simp only [aB,Bool.and_eq_true] at e
  simp [dR,aB,kP h x e.1,iC h l e.2]
end
mutual
theorem Rv.shift {p:Nat→Nat} {c c':Ctx} (h:qH p c c'):∀ {x:AV} {v:Value},Rv c x v→Rv c' (ren p x) v
 | _,_,.dead v=>.dead v
 | _,_,.nilS=>.nilS
 | _,_,.bool b=>.bool b
 | _,_,.int k n hk=>.int k n hk
 | _,_,.str s hs=>.str s hs
 | _,_,.roNil r hr hi=>.roNil r (aQ.bT h.t hr hi) hi
 | _,_,.ro r a len cap cells hr hl hc hm hs hi=>.ro r a len cap cells (aQ.bT h.t hr hi) hl hc hm (hs.mono' h.t) hi
 | _,_,.mp ks vs g es clock hk hv hb hc hT hh hi hi2=>.mp ks vs g es clock (bg.bT h.t hk hi) (bg.bT h.t hv hi2) hb hc (h.t g hT (Array.getElem?_eq_some_iff.1 hh).1).1 (by rw [(h.t g hT (Array.getElem?_eq_some_iff.1 hh).1).2];exact hh) hi hi2
 | _,_,.own i hi h1=>by rw [←h.m i hi];exact .own (p i) (h.n i hi) (by rw [h.m i hi];exact h1)
 | _,_,.cell cs vs a hl hi hs=>.cell cs vs a (aS.bT h.t hl hi) hi (hs.mono' h.t)
 | _,_,.ptr i off g hi hg=>.ptr (p i) off g (h.n i hi) (by rw [h.m i hi];exact hg)
 | _,_,.elt i sz idx off g hi hg=>.elt (p i) sz idx off g (h.n i hi) (by rw [h.m i hi];exact hg)
 | _,_,.pre i n l cap a hi hv hn=>.pre (p i) n l cap a (h.n i hi) (by rw [h.m i hi];exact hv) hn
 | _,_,.agg cs vs hl=>.agg _ vs (aS.shift h hl)
 | _,_,.tup cs vs hl=>.tup _ vs (bg.shift h hl)
 | _,_,.fn f cs vs hl=>.fn f _ vs (bg.shift h hl)
 | _,_,.raw v=>.raw v
 | _,_,.opt b x v hb hx h2=>.opt b _ v (kP h.n x hb) (fun e=>Rv.shift h (hx e)) h2
theorem aS.shift {p:Nat→Nat} {c c':Ctx} (h:qH p c c'):∀ {x:List AV} {v:List Value},aS c x v→aS c' (dR p x) v
 | _,_,.nil=>.nil
 | _,_,.cons x v l vs hx h1 ht=>.cons _ v _ vs (Rv.shift h hx) h1 (aS.shift h ht)
theorem bg.shift {p:Nat→Nat} {c c':Ctx} (h:qH p c c'):∀ {x:List AV} {v:List Value},bg c x v→bg c' (dR p x) v
 | _,_,.nil=>.nil
 | _,_,.cons x v l vs hx ht=>.cons _ v _ vs (Rv.shift h hx) (bg.shift h ht)
end
theorem aJ.shift {p:Nat→Nat} {c c':Ctx} (h:qH p c c'):∀ {sz:Nat} {x:List (List AV)} {v:List Value},aJ c sz x v→aJ c' sz (x.map (dR p)) v
 | _,_,_,.nil sz=>.nil sz
 | _,_,_,.cons sz o vs l cells ho hl ht=>.cons sz _ vs _ cells (aS.shift h ho) hl (aJ.shift h ht)
theorem aQ.shift {p:Nat→Nat} {c c':Ctx} (h:qH p c c') {r:au} {v:List Value} (hr:aQ c r v):aQ c' (oV p r) v:=by
 cases hr with
 | objs sz l _ hz ho=>exact .objs sz _ v hz (aJ.shift h ho)
 | bools l=>exact .bools l
 | ints k l hk=>exact .ints k l hk
 | strs l hk=>exact .strs l hk
theorem Hg (p:Nat→Nat) (r:au):(oV p r).len=r.len:=by cases r<;>simp [oV,au.len]
theorem I8 (p:Nat→Nat) (r:au):(oV p r).sz=r.sz:=by cases r<;>rfl
theorem aG.shift {p:Nat→Nat} {c c':Ctx} (h:qH p c c') (hw:c'.w=c.w) {O O':Nat→Prop} (hB:∀ b,O b→O' b) {v:Value} {it:Item} (hi:aG c O v it):aG c' O' v (it.ren p):=by
 cases it with
 | row e r=>
  obtain ⟨n,cells,hr,hn,ho,hO⟩:=hi
  exact ⟨n,cells,aQ.shift h hr,by rw [Hg];exact hn,by rw [hw,I8];exact ho,fun b hb=>hB b (hO b hb)⟩
 | box e cs=>
  obtain ⟨g,vs,rfl,hg,hl,he⟩:=hi
  exact ⟨g,vs,rfl,hB g hg,aS.shift h hl,by rw [hw];exact he⟩
 | map ks vs=>
  obtain ⟨g,es,clock,rfl,hg,h1,h2,h3,h4,he⟩:=hi
  exact ⟨g,es,clock,rfl,hB g hg,bg.shift h h1,bg.shift h h2,h3,h4,by rw [hw];exact he⟩
 | iter mp since seen=>
  obtain ⟨g,q,sn,last,rfl,hg,h1,h2,h3,h4,he⟩:=hi
  exact ⟨g,q,sn,last,rfl,hB g hg,h.n mp h1,by rw [h.m mp h1];exact h2,h3,h4,by rw [hw];exact he⟩
 | siter t pos=>
  obtain ⟨g,rfl,hg,he⟩:=hi
  exact ⟨g,rfl,hB g hg,by rw [hw];exact he⟩
def gJ (P:Program) (f:Nat) (args:List AV) (out:AV) (rows:List (Nat × Item)):Prop:=
 Enter P f∧∀ (w:World) (T:Nat→Prop) (vals:List Value),mV P w→bg ⟨w,T,fun _=>undef,0⟩ args vals →
  Calls P f vals.toArray w fun e w'=>∃ v,e=.returned v∧iJ w.heap.size w w'∧kL (fun _=>False) w.heap.size w' out rows v
mutual
def kY:AV→Bool
 | .ro _=>false
 | .cell _=>false
 | .fn _ _=>false
 | .agg cs=>gW cs
 | .tup cs=>gW cs
 | .own _=>true
 | .ptr _ _=>true
 | .elt _ _ _ _=>true
 | .pre _ _=>true
 | .dead=>true
 | .nilS=>true
 | .bool _=>true
 | .int _ _=>true
 | .str _=>true
 | .raw _=>true
 | .opt _ v=>kY v
 | .mp _ _=>false
def gW:List AV→Bool
 | []=>true
 | x::l=>kY x && gW l
end
def yI:au→Bool
 | .objs _ l=>l.all gW
 | .bools _=>true
 | .ints _ _=>true
 | .strs _=>true
def kZ:Item→Bool
 | .row _ r=>yI r
 | .box _ cs=>gW cs
 | .map ks vs=>gW ks && gW vs
 | .iter _ _ _=>true
 | .siter _ _=>true
def lq:List (Nat × Item)→Bool
 | []=>true
 |(_,it)::l=>kZ it && lq l
mutual
theorem Rv.iq {w:World} {T T':Nat→Prop} {m:Nat→Value} {N:Nat}:∀ {x:AV} {v:Value},Rv ⟨w,T,m,N⟩ x v→kY x=true→Rv ⟨w,T',m,N⟩ x v
 | _,_,.dead v,_=>.dead v
 | _,_,.nilS,_=>.nilS
 | _,_,.bool b,_=>.bool b
 | _,_,.int k n hk,_=>.int k n hk
 | _,_,.str s hs,_=>.str s hs
 | _,_,.roNil r hr _,e=>by simp [kY] at e
 | _,_,.ro r a len cap cells hr hl hc hm hs _,e=>by simp [kY] at e
 | _,_,.mp _ _ _ _ _ _ _ _ _ _ _ _ _,e=>by simp [kY] at e
 | _,_,.own i hi h1,_=>.own (c:=⟨w,T',m,N⟩) i hi h1
 | _,_,.cell cs vs a hl hi hs,e=>by simp [kY] at e
 | _,_,.ptr i off g hi hg,_=>.ptr i off g hi hg
 | _,_,.elt i sz idx off g hi hg,_=>.elt i sz idx off g hi hg
 | _,_,.pre i n l cap a hi hv hn,_=>.pre i n l cap a hi hv hn
 | _,_,.agg cs vs hl,e=>.agg _ vs (aS.iq hl (by simpa [kY] using e))
 | _,_,.tup cs vs hl,e=>.tup _ vs (bg.iq hl (by simpa [kY] using e))
 | _,_,.fn f cs vs hl,e=>by simp [kY] at e
 | _,_,.raw v,_=>.raw v
 | _,_,.opt b x v hb hx h2,e=>.opt b x v hb (fun e'=>Rv.iq (hx e') (by simpa [kY] using e)) h2
theorem aS.iq {w:World} {T T':Nat→Prop} {m:Nat→Value} {N:Nat}:∀ {x:List AV} {v:List Value},aS ⟨w,T,m,N⟩ x v→gW x=true→aS ⟨w,T',m,N⟩ x v
 | _,_,.nil,_=>.nil
 | _,_,.cons x v l vs hx h1 ht,e=>by
  simp only [gW,Bool.and_eq_true] at e
  exact .cons _ v _ vs (Rv.iq hx e.1) h1 (aS.iq ht e.2)
theorem bg.iq {w:World} {T T':Nat→Prop} {m:Nat→Value} {N:Nat}:∀ {x:List AV} {v:List Value},bg ⟨w,T,m,N⟩ x v→gW x=true→bg ⟨w,T',m,N⟩ x v
 | _,_,.nil,_=>.nil
 | _,_,.cons x v l vs hx ht,e=>by
  simp only [gW,Bool.and_eq_true] at e
  exact .cons _ v _ vs (Rv.iq hx e.1) (bg.iq ht e.2)
end
theorem oN:∀ {l:List (Nat × Item)} {i:Nat} {it:Item},lq l=true→lk l i=some it→kZ it=true
 |(j,jt)::l,i,it,h,hi=>by
  simp only [lq,Bool.and_eq_true] at h
  simp only [lk] at hi
  split at hi
  ·cases hi;exact h.1
  ·exact oN h.2 hi
theorem aJ.iq {w:World} {T T':Nat→Prop} {m:Nat→Value} {N:Nat}:∀ {sz:Nat} {l:List (List AV)} {cells:List Value},aJ ⟨w,T,m,N⟩ sz l cells→l.all gW=true→aJ ⟨w,T',m,N⟩ sz l cells
 | _,_,_,.nil _,_=>.nil _
 | _,_,_,.cons sz o vs l cells ho hl ht,hr=>by
  simp only [List.all_cons,Bool.and_eq_true] at hr
  exact .cons sz o vs l cells (ho.iq hr.1) hl (aJ.iq ht hr.2)
theorem aQ.iq {w:World} {T T':Nat→Prop} {m:Nat→Value} {N:Nat} {r:au} {cells:List Value} (h:aQ ⟨w,T,m,N⟩ r cells) (hr:yI r=true):aQ ⟨w,T',m,N⟩ r cells:=by
 cases h with
 | bools l=>exact .bools l
 | ints k l hk=>exact .ints k l hk
 | strs l hs=>exact .strs l hs
 | objs sz l cells hz ho=>
  exact .objs sz l cells hz (ho.iq (by simpa only [yI] using hr))
section
variable {P:Program} {w0:World} {T0:Bs} {b0:Nat}
theorem gJ.gX {f:Nat} {args:List AV} {out:AV} {rows:List (Nat × Item)} (h:aP P f args out rows) (h1:kY out=true) (h2:lq rows=true):gJ P f args out rows:=by
 refine ⟨h.1,fun w T vals hgl hv=>(h.2 w T vals hgl hv).mono ?_⟩
 rintro e w' ⟨v,rfl,hb,m,N,hr,hrows,hsep⟩
 refine ⟨v,rfl,hb,m,N,hr.iq h1,fun i it hi=>⟨(hrows i it hi).1,?_⟩,hsep⟩
 have hn:=oN h2 hi
 have ho:=(hrows i it hi).2
 cases it with
 | row e r=>obtain ⟨n,cells,hc,hq⟩:=ho;exact ⟨n,cells,hc.iq hn,hq⟩
 | box e cs=>obtain ⟨g,vs,hv',hg,hl,hq⟩:=ho;exact ⟨g,vs,hv',hg,hl.iq hn,hq⟩
 | map ks vs=>
  simp only [kZ,Bool.and_eq_true] at hn
  obtain ⟨g,es,clock,hv',hg,h1,h2,h3,h4,hq⟩:=ho;exact ⟨g,es,clock,hv',hg,h1.iq hn.1,h2.iq hn.2,h3,h4,hq⟩
 | iter mp since seen=>exact ho
 | siter t pos=>exact ho
theorem gJ.ok {f:Nat} {args:List AV} {out:AV} {rows:List (Nat × Item)} (h:gJ P f args out rows):aP P f args out rows:=by
 refine ⟨h.1,fun w T vals hgl hv=>(h.2 w T vals hgl hv).mono ?_⟩
 rintro e w' ⟨v,rfl,hb,m,N,hr,hrows,hsep⟩
 have hle:bC (⟨w',allow (bs fun _=>False) w.heap.size m rows,m,N⟩:Ctx) ⟨w',allow (bs T) w.heap.size m rows,m,N⟩:=
  ⟨Nat.le_refl _,fun _ _=>rfl,fun b hb _=>⟨⟨.inl (hb.1.resolve_right fun x=>x),hb.2⟩,rfl⟩⟩
 exact ⟨v,rfl,hb,m,N,hr.mono hle,fun i it hi=>⟨(hrows i it hi).1,((hrows i it hi).2).mono hle fun _ _=>rfl⟩,hsep⟩
/-! ### Arguments -/
def nilRow:au→Prop
 | .bools l=>l=[]
 | .ints _ l=>l=[]
 | .strs l=>l=[]
 | .objs sz l=>0<sz∧l=[]
def bG (R:AV→AV→Prop):List AV→List AV→Prop
 | [],l=>l=[]
 | x::l,l'=>∃ y r,R x y∧bG R l r∧l'=y::r
def sK (R:AV→AV→Prop):List (List AV)→List (List AV)→Prop
 | [],l=>l=[]
 | x::l,l'=>∃ y r,bG R x y∧sK R l r∧l'=y::r
def aF (rows:List (Nat × Item)):Nat→AV→AV→Prop
 | n+1,.own i,y=>match lk rows i with
  | some (.row _ r)=>if dw r=true then y=.ro r else match r with
   | .objs sz l=>∃ l',sK (aF rows n) l l'∧y=.ro (.objs sz l')
   | _=>False
  | some (.map ks vs)=>∃ ks' vs',bG (aF rows n) ks ks'∧bG (aF rows n) vs vs'∧y=.mp ks' vs'
  | _=>False
 | n+1,.pre i k,y=>match lk rows i with
  | some (.row _ r)=>dw r=true∧k≤r.len∧y=.ro (bU r 0 k)
  | _=>False
 | n+1,.nilS,y=>y=.nilS∨∃ r,nilRow r∧y=.ro r
 | n+1,.agg cs,y=>∃ cs',bG (aF rows n) cs cs'∧y=.agg cs'
 | n+1,.fn f cs,y=>∃ cs',bG (aF rows n) cs cs'∧y=.fn f cs'
 | n+1,.ptr i off,y=>∃ e cs cs',lk rows i=some (.box e cs)∧bG (aF rows n) (cs.drop off) cs'∧y=.cell cs'
 | n+1,.ro r,y=>y=.ro r
 | n+1,.bool b,y=>y=.bool b
 | n+1,.int k m,y=>y=.int k m
 | n+1,.str s,y=>y=.str s
 | n+1,.cell cs,y=>y=.cell cs
 | n+1,.raw v,y=>y=.raw v
 | n+1,.mp ks vs,y=>y=.mp ks vs
 | n+1,.dead,y=>y=.dead
 | _,_,_=>False
def mX (rows:List (Nat × Item)) (x y:AV):Prop:=aF rows 6 x y
def bD (rows:List (Nat × Item)) (x y:List AV):Prop:=bG (aF rows 6) x y
structure vK (w:World) (c:Ctx) (rows:List (Nat × Item)) (T:Nat→Prop):Prop where
 hw:c.w=w
 t:∀ b,c.T b→T b
 own:∀ i e r,lk rows i=some (.row e r)→(∀ b,blk (c.m i)=some b→T b)∧∃ n cells,aQ c r cells∧r.len=n∧lF w e r.sz (c.m i) n cells
 map:∀ i ks vs,lk rows i=some (.map ks vs)→∃ g es clock,c.m i=.map (some g)∧T g∧bg c ks (es.toList.map MapEntry.key)∧bg c vs (es.toList.map MapEntry.val)∧(∀ (i:Nat) (e:MapEntry),es[i]?=some e→e.born=i)∧xQ es clock∧w.heap[g]?=some (.map es clock)
 box:∀ i e cs,lk rows i=some (.box e cs)→∃ g vs,c.m i=.pointer (some ⟨g,0,none⟩)∧T g∧aS c cs vs∧w.heap[g]?=some (.cells vs.toArray e (0,0))
theorem vK.ht {w:World} {c:Ctx} {rows:List (Nat × Item)} {T:Nat→Prop} (h:vK w c rows T):∀ b,c.T b→b<c.w.heap.size→(⟨w,T,fun _=>undef,0⟩:Ctx).T b∧(⟨w,T,fun _=>undef,0⟩:Ctx).w.heap[b]?=c.w.heap[b]?:=
 fun b hb _=>⟨h.t b hb,by rw [h.hw]⟩
theorem ET {c:Ctx} {r:au} (h:nilRow r):aQ c r []:=by
 cases r with
 | bools l=>cases h;exact .bools []
 | ints k l=>cases h;exact .ints k [] fun x hx=>by cases hx
 | strs l=>cases h;exact .strs [] fun x hx=>by cases hx
 | objs sz l=>obtain ⟨hz,rfl⟩:=h;exact .objs sz [] [] hz (.nil sz)
theorem GZ {w:World} {c:Ctx} {rows:List (Nat × Item)} {T:Nat→Prop} (h:vK w c rows T) {i:Nat} {e:TypeId} {r:au} {v:Value} (hl:lk rows i=some (.row e r)) (hid:dw r=true) (hr:Rv c (.own i) v):Rv ⟨w,T,fun _=>undef,0⟩ (.ro r) v:=by
 have ht:∀ b,c.T b→b<c.w.heap.size→(⟨w,T,fun _=>undef,0⟩:Ctx).T b∧(⟨w,T,fun _=>undef,0⟩:Ctx).w.heap[b]?=c.w.heap[b]?:=fun b hb _=>⟨h.t b hb,by rw [h.hw]⟩
 obtain ⟨h1,n,cells,hc,hn,ho⟩:=h.own i e r hl
 cases hr with
 | own _ hi _=>
  rcases ho.2 with ⟨hv,hz⟩|⟨g,cap,cur,fz,hv,hg,hh,hnc,hcm,hcs,htake⟩
  ·rw [hv]
   have hcl:cells=[]:=List.eq_nil_of_length_eq_zero (by rw [ho.1,hz];simp)
   subst hcl
   exact .roNil r (aQ.bT ht hc hid) hid
  ·have hb:=h1 g (by rw [hv];rfl)
   have hcells:=dA ho (g:=g) (by rw [hv];rfl)
   rw [hv]
   exact .ro r ⟨g,0,none⟩ n cap cells (aQ.bT ht hc hid) hn hnc hcm ⟨trivial,fun _=>hb,hcells⟩ hid
theorem G8 {w:World} {c:Ctx} {rows:List (Nat × Item)} {T:Nat→Prop} (h:vK w c rows T) {i k:Nat} {e:TypeId} {r:au} {v:Value} (hl:lk rows i=some (.row e r)) (hid:dw r=true) (hk:k≤r.len) (hr:Rv c (.pre i k) v):Rv ⟨w,T,fun _=>undef,0⟩ (.ro (bU r 0 k)) v:=by
 have ht:∀ b,c.T b→b<c.w.heap.size→(⟨w,T,fun _=>undef,0⟩:Ctx).T b∧(⟨w,T,fun _=>undef,0⟩:Ctx).w.heap[b]?=c.w.heap[b]?:=fun b hb _=>⟨h.t b hb,by rw [h.hw]⟩
 obtain ⟨h1,n,cells,hc,hn,ho⟩:=h.own i e r hl
 have hsub:=aQ.sub 0 k (aQ.bT ht hc hid)
 cases hr with
 | pre _ _ l cap a hi hv hkl=>
  rcases ho.2 with ⟨hv',hz⟩|⟨g,cap',cur,fz,hv',hg,hh,hnc,hcm,hcs,htake⟩
  ·rw [hv] at hv'
   cases hv'
   have hcl:cells=[]:=List.eq_nil_of_length_eq_zero (by rw [ho.1,hz];simp)
   subst hcl
   obtain rfl:k=0:=by omega
   simp only [List.drop_nil,List.take_nil] at hsub
   exact .roNil _ hsub (eF 0 0 hid)
  ·have hb:=h1 g (by rw [hv'];rfl)
   have hcells:=dA ho (g:=g) (by rw [hv'];rfl)
   rw [hv] at hv'
   cases hv'
   refine .ro _ ⟨g,0,none⟩ k cap _ hsub (by rw [iV r 0 k hk];omega) (by omega) hcm ⟨trivial,fun _=>hb,fun j u hu=>hcells j u ?_⟩ (eF 0 k hid)
   simp only [Nat.zero_mul,List.drop_zero,Nat.sub_zero] at hu
   rw [List.getElem?_take] at hu
   split at hu
   ·exact hu
   ·cases hu
mutual
theorem BK:∀ x:AV,Fv.below 0 x=true→bn x=true
 | .own i,h=>by simp [Fv.below] at h
 | .ptr i o,h=>by simp [Fv.below] at h
 | .elt i a b c,h=>by simp [Fv.below] at h
 | .pre i k,h=>by simp [Fv.below] at h
 | .agg cs,h=>by simp only [bn,Fv.below] at *;exact iw cs h
 | .tup cs,h=>by simp only [bn,Fv.below] at *;exact iw cs h
 | .fn f cs,h=>by simp only [bn,Fv.below] at *;exact iw cs h
 | .cell cs,_=>rfl
 | .dead,_=>rfl
 | .nilS,_=>rfl
 | .bool _,_=>rfl
 | .int _ _,_=>rfl
 | .str _,_=>rfl
 | .ro _,_=>rfl
 | .raw _,_=>rfl
 | .mp _ _,_=>rfl
 | .opt _ v,h=>by simp only [bn,Fv.below] at *;exact BK v h
theorem iw:∀ x:List AV,aB 0 x=true→aU x=true
 | [],_=>rfl
 | x::l,h=>by
  simp only [aB,Bool.and_eq_true] at h
  simp [aU,BK x h.1,iw l h.2]
end
theorem Rv.Ap {c:Ctx} (h0:c.N=0) {x:AV} {v:Value} (h:Rv c x v):bn x=true:=BK x (by rw [←h0];exact h.ids)
theorem aS.Ap {c:Ctx} (h0:c.N=0) {x:List AV} {v:List Value} (h:aS c x v):aU x=true:=iw x (by rw [←h0];exact h.ids)
theorem aQ.Ap {c:Ctx} (h0:c.N=0) {r:au} {v:List Value} (h:aQ c r v):dw r=true:=by
 have:=h.ids
 rw [h0] at this
 cases r with
 | objs sz l=>
  simp only [dw,jO,List.all_eq_true] at *
  exact fun x hx=>iw x (this x hx)
 | _=>rfl
theorem qg {w:World} {c:Ctx} {rows:List (Nat × Item)} {T:Nat→Prop} (h:vK w c rows T):∀ (n:Nat) (x:AV) {y:AV} {v:Value},aF rows n x y→Rv c x v→Rv ⟨w,T,fun _=>undef,0⟩ y v:=by
 intro n
 induction n with
 | zero=>intro x y v ha _;simp [aF] at ha
 | succ n ih=>
  have lst:∀ {l l':List AV} {vs:List Value},bG (aF rows n) l l'→aS c l vs→aS ⟨w,T,fun _=>undef,0⟩ l' vs:=by
   intro l
   induction l with
   | nil=>intro l' vs ha hr;simp only [bG] at ha;subst ha;cases hr;exact .nil
   | cons x l ihl=>
    intro l' vs ha hr
    simp only [bG] at ha
    obtain ⟨y,r,h1,h2,rfl⟩:=ha
    cases hr with
    | cons _ v _ vs hv h1' ht=>exact .cons _ _ _ _ (ih x h1 hv) h1' (ihl h2 ht)
  have lstT:∀ {l l':List AV} {vs:List Value},bG (aF rows n) l l'→bg c l vs→bg ⟨w,T,fun _=>undef,0⟩ l' vs:=by
   intro l
   induction l with
   | nil=>intro l' vs ha hr;simp only [bG] at ha;subst ha;cases hr;exact .nil
   | cons x l ihl=>
    intro l' vs ha hr
    simp only [bG] at ha
    obtain ⟨y,r,h1,h2,rfl⟩:=ha
    cases hr with
    | cons _ v _ vs hv ht=>exact .cons _ _ _ _ (ih x h1 hv) (ihl h2 ht)
  intro x y v ha hr
  cases x with
  | agg cs=>
   simp only [aF] at ha
   obtain ⟨cs',hl,rfl⟩:=ha
   cases hr with
   | agg _ vs hv=>exact .agg _ _ (lst hl hv)
  | fn f cs=>
   simp only [aF] at ha
   obtain ⟨cs',hl,rfl⟩:=ha
   cases hr with
   | fn _ _ vs hv=>exact .fn f _ _ (lstT hl hv)
  | own i=>
   simp only [aF] at ha
   split at ha
   ·rename_i e r hl
    split at ha
    ·rename_i hid;subst ha;exact GZ h hl hid hr
    ·cases r with
     | objs sz l=>
      obtain ⟨l',hl2,rfl⟩:=ha
      have lstO:∀ {l l':List (List AV)} {cells:List Value},sK (aF rows n) l l'→aJ c sz l cells→aJ ⟨w,T,fun _=>undef,0⟩ sz l' cells∧l'.length=l.length:=by
       intro l
       induction l with
       | nil=>intro l' cells ha hr;simp only [sK] at ha;subst ha;cases hr;exact ⟨.nil _,rfl⟩
       | cons x l ihl=>
        intro l' cells ha hr
        simp only [sK] at ha
        obtain ⟨y,r,h1,h2,rfl⟩:=ha
        cases hr with
        | cons _ _ vs _ cells ho hl ht=>exact ⟨.cons _ _ vs _ cells (lst h1 ho) hl (ihl h2 ht).1,by simp [(ihl h2 ht).2]⟩
      obtain ⟨h1,k,cells,hc,hn,ho⟩:=h.own i _ _ hl
      cases hc with
      | objs _ _ _ hz hob=>
       obtain ⟨q1,q2⟩:=lstO hl2 hob
       have q3:aQ ⟨w,T,fun _=>undef,0⟩ (.objs sz l') cells:=.objs sz l' cells hz q1
       have q4:dw (.objs sz l')=true:=by
        simp only [dw]
        have:=q1.ids
        simp only [List.all_eq_true] at *
        exact fun x hx=>iw x (this x hx)
       have q5:(au.objs sz l').len=k:=by rw [←hn];simpa [au.len] using q2
       cases hr with
       | own _ hi _=>
        rcases ho.2 with ⟨hv,hz⟩|⟨g,cap,cur,fz,hv,hg,hh,hnc,hcm,hcs,htake⟩
        ·rw [hv]
         have hcl:cells=[]:=List.eq_nil_of_length_eq_zero (by rw [ho.1,hz];simp)
         subst hcl
         exact .roNil _ q3 q4
        ·have hb:=h1 g (by rw [hv];rfl)
         have hcells:=dA ho (g:=g) (by rw [hv];rfl)
         rw [hv]
         exact .ro _ ⟨g,0,none⟩ k cap cells q3 q5 hnc hcm ⟨trivial,fun _=>hb,hcells⟩ q4
     | _=>exact ha.elim
   ·rename_i ks vs hl
    obtain ⟨ks',vs',h1,h2,rfl⟩:=ha
    obtain ⟨g,es,clock,hv,hT,k1,k2,k3,k4,hh⟩:=h.map i _ _ hl
    cases hr with
    | own _ hi _=>
     rw [hv]
     have q1:=lstT h1 k1
     have q2:=lstT h2 k2
     exact .mp ks' vs' g es clock q1 q2 k3 k4 hT hh (iw _ q1.ids) (iw _ q2.ids)
   ·exact ha.elim
  | pre i k=>
   simp only [aF] at ha
   split at ha
   ·rename_i e r hl
    obtain ⟨h1,h2,rfl⟩:=ha
    exact G8 h hl h1 h2 hr
   ·exact ha.elim
  | nilS=>
   simp only [aF] at ha
   cases hr
   rcases ha with rfl|⟨r,hr,rfl⟩
   ·exact .nilS
   ·exact .roNil r (ET hr) (by cases r<;>first|rfl|(obtain ⟨_,rfl⟩:=hr;rfl))
  | ptr i off=>
   simp only [aF] at ha
   obtain ⟨e,cs,cs',hl,hcs,rfl⟩:=ha
   obtain ⟨g,vs,hv,hT,hvs,hh⟩:=h.box i e cs hl
   cases hr with
   | ptr _ _ g' _ hg=>
    have hmi:blk (c.m i)=some g':=hg
    rw [hv] at hmi;cases hmi
    have k1:=lst hcs (hvs.drop off)
    refine .cell cs' (vs.drop off) ⟨g,off,none⟩ k1 (aS.Ap rfl k1) ⟨trivial,fun _=>hT,fun j u hu=>?_⟩
    rw [Addr.add_lit]
    rw [List.getElem?_drop] at hu
    have:=cell_of_row w g (off+j) vs.toArray e (0,0) hh
    show w.cell? _=_
    rw [this];simpa using hu
  | ro r=>simp only [aF] at ha;subst ha;exact hr.bT h.ht rfl
  | bool b=>simp only [aF] at ha;subst ha;exact hr.bT h.ht rfl
  | int k n=>simp only [aF] at ha;subst ha;exact hr.bT h.ht rfl
  | str s=>simp only [aF] at ha;subst ha;exact hr.bT h.ht rfl
  | raw v=>simp only [aF] at ha;subst ha;exact hr.bT h.ht rfl
  | mp ks vs=>simp only [aF] at ha;subst ha;exact hr.bT h.ht rfl
  | dead=>simp only [aF] at ha;subst ha;exact .dead v
  | cell cs=>
   simp only [aF] at ha;subst ha
   cases hr with
   | cell _ vs a hl hi hs=>exact .cell cs vs a (hl.bT h.ht hi) hi (hs.mono' h.ht)
  | _=>simp [aF] at ha
theorem jv {w:World} {c:Ctx} {rows:List (Nat × Item)} {T:Nat→Prop} (h:vK w c rows T):∀ (l:List AV) {l':List AV} {vs:List Value},bD rows l l'→bg c l vs→bg ⟨w,T,fun _=>undef,0⟩ l' vs
 | [],_,_,ha,hr=>by
  simp only [bD,bG] at ha;subst ha
  cases hr;exact .nil
 | x::l,_,_,ha,hr=>by
  simp only [bD,bG] at ha
  obtain ⟨y,r,h1,h2,rfl⟩:=ha
  cases hr with
  | cons _ v _ vs hv ht=>exact .cons _ _ _ _ (qg h 6 x h1 hv) (jv h l h2 ht)
/-! ### The state behind a call -/
def nS (k:Nat):List (Nat × Item)→List (Nat × Item)
 | []=>[]
 |(i,it)::l=>(k+i,it.ren (fun j=>k+j))::nS k l
theorem wS (k:Nat):∀ (l:List (Nat × Item)) (i:Nat) (it:Item),lk (nS k l) i=some it→∃ j jt,i=k+j∧lk l j=some jt∧it=jt.ren (fun j=>k+j)
 |(j,jt)::l,i,it,h=>by
  simp only [nS,lk] at h
  split at h
  ·rename_i e;cases h;exact ⟨j,jt,e.symm,by simp [lk],rfl⟩
  ·rename_i e
   obtain ⟨q,qt,h1,h2,h3⟩:=wS k l i it h
   refine ⟨q,qt,h1,?_,h3⟩
   simp only [lk];rw [if_neg (by intro e';exact e (by omega))];exact h2
theorem qp {α:Type}:∀ (l l':List (Nat × α)) (i:Nat),lk (l++l') i=match lk l i with|some v=>some v|none=>lk l' i
 | [],_,_=>rfl
 |(j,v)::l,l',i=>by
  simp only [List.cons_append,lk]
  split
  ·rfl
  ·exact qp l l' i
def S.after (s:S) (rows':List (Nat × Item)) (N:Nat) (rows:List (Nat × Item)):S:={ s with rows:=nS s.next rows++rows',next:=s.next+N }
theorem aH.after {H:List (AV × Value)} {s:S} {a:Act} {w:World} {m:Nat→Value} (hm:aH w0 T0 H s a w m) {w':World} (hb:iJ w.heap.size w w') {rows':List (Nat × Item)}
  (hsub:∀ i it,lk rows' i=some it→lk s.rows i=some it) {T:Nat→Prop} (hT:∀ b,T b→allow T0 w0.heap.size m rows' b) {out:AV} {rows:List (Nat × Item)} {v:Value} (ho:kL T w.heap.size w' out rows v)
  {N:Nat} (hN:Fv.below N out=true) (hNr:∀ i it,lk rows i=some it→i<N∧it.below N=true) :
  Rep w0 T0 ((ren (fun j=>s.next+j) out,v)::H) (s.after rows' N rows) a w':=by
 obtain ⟨mo,No,hr,hrows,hsep⟩:=ho
 have hitem:∀ i it,lk rows i=some it→aG ⟨w',allow (bs T) w.heap.size mo rows,mo,N⟩ (w.heap.size≤·) (mo i) it:=fun i it hi=>((hrows i it hi).2).cut (hNr i it hi).2
 let m2:Nat→Value:=fun i=>if i<s.next then m i else mo (i - s.next)
 have hm2:∀ i,i<s.next→m2 i=m i:=fun i hi=>if_pos hi
 have hm3:∀ j,m2 (s.next+j)=mo j:=fun j=>by show (if s.next+j<s.next then _ else _)=_;rw [if_neg (by omega),Nat.add_sub_cancel_left]
 have hold:∀ i it,lk rows' i=some it→i<s.next:=fun i it hi=>(hm.rows i it (hsub i it hi)).1
 have hnewB:∀ j jt,lk rows j=some jt→∀ b,blk (mo j)=some b→w.heap.size≤b:=fun j jt hj b hbl=>((hrows j jt hj).2.blk b hbl).1
 have holdB:∀ i it,lk s.rows i=some it→∀ b,blk (m i)=some b→b<w.heap.size:=fun i it hi b hbl=>((hm.rows i it hi).2.blk b hbl).2
 have hcases:∀ i it,lk (nS s.next rows++rows') i=some it→(∃ j jt,i=s.next+j∧lk rows j=some jt∧it=jt.ren (fun j=>s.next+j))∨(i<s.next∧lk rows' i=some it):=by
  intro i it hi
  rw [qp] at hi
  cases hq:lk (nS s.next rows) i with
  | some y=>rw [hq] at hi;cases hi;exact .inl (wS _ _ _ _ hq)
  | none=>rw [hq] at hi;exact .inr ⟨hold i it hi,hi⟩
 have hle:bC (ah T0 w0.heap.size m s w) (ah T0 w0.heap.size m2 (s.after rows' N rows) w'):=by
  refine ⟨Nat.le_add_right _ _,hm2,?_⟩
  intro b ⟨h1,h2⟩ hlt
  refine ⟨⟨h1,fun i it hi e=>?_⟩,hb.block b hlt⟩
  rcases hcases i it hi with ⟨j,jt,rfl,hj,_⟩|⟨hlt',hi'⟩
  ·rw [hm3] at e;have h4:=hnewB j jt hj b e;have hlt2:b<w.heap.size:=hlt;omega
  ·rw [hm2 i hlt'] at e;exact h2 i it (hsub i it hi') e
 have hsh:qH (fun j=>s.next+j) (⟨w',allow (bs T) w.heap.size mo rows,mo,N⟩:Ctx) (ah T0 w0.heap.size m2 (s.after rows' N rows) w'):=by
  refine ⟨fun i hi=>Nat.add_lt_add_left hi _,fun i _=>hm3 i,?_⟩
  intro b ⟨h1,h2⟩ _
  have hlt0:=hm.lt
  refine ⟨⟨?_,fun i it hi e=>?_⟩,rfl⟩
  ·rcases h1 with h1|h1
   ·exact .inl (by omega)
   ·exact (hT b h1).1
  ·rcases hcases i it hi with ⟨j,jt,rfl,hj,_⟩|⟨hlt',hi'⟩
   ·rw [hm3] at e;exact h2 j jt hj e
   ·rw [hm2 i hlt'] at e
    rcases h1 with h1|h1
    ·have:=holdB i it (hsub i it hi') b e;omega
    ·exact (hT b h1).2 i it hi' e
 refine ⟨m2,aH.hold (s:=s.after rows' N rows) ?_ ((hr.cut hN).shift hsh)⟩
 refine { size:=hm.size,nodef:=hm.nodef,below:=hm.below.step hb.os hb.tape hb.output hb.size (fun k hk _=>hb.block k (Nat.lt_of_lt_of_le hk hm.lt)) hb.drawn,env:=fun r u hu=>(hm.env r u hu).mono hle,held:=fun q hq=>(hm.held q hq).mono hle,rows:=?_,sep:=?_ }
 ·intro i it hi
  rcases hcases i it hi with ⟨j,jt,rfl,hj,rfl⟩|⟨hlt',hi'⟩
  ·refine ⟨Nat.add_lt_add_left (hNr j jt hj).1 _,?_⟩
   rw [hm3]
   exact (hitem j jt hj).shift hsh rfl fun b hb=>.inl (Nat.le_trans hm.lt hb)
  ·refine ⟨by have:i<s.next:=hlt';show i<s.next+N;omega,?_⟩
   rw [hm2 i hlt']
   exact ((hm.rows i it (hsub i it hi')).2).mono hle fun b hbl=>hb.block b (holdB i it (hsub i it hi') b hbl)
 ·intro i j it jt b hi hj hbi hbj
  rcases hcases i it hi with ⟨i',it',rfl,hi',_⟩|⟨hlt',hi'⟩<;>rcases hcases j jt hj with ⟨j',jt',rfl,hj',_⟩|⟨hlt'',hj'⟩
  ·rw [hm3] at hbi hbj
   rw [hsep i' j' it' jt' b hi' hj' hbi hbj]
  ·rw [hm3] at hbi;rw [hm2 j hlt''] at hbj
   have h4:=hnewB i' it' hi' b hbi
   have h5:=holdB j jt (hsub j jt hj') b hbj
   omega
  ·rw [hm3] at hbj;rw [hm2 i hlt'] at hbi
   have h4:=hnewB j' jt' hj' b hbj
   have h5:=holdB i it (hsub i it hi') b hbi
   omega
  ·rw [hm2 i hlt'] at hbi;rw [hm2 j hlt''] at hbj
   exact hm.sep i j it jt b (hsub i it hi') (hsub j jt hj') hbi hbj
def dG (N:Nat):List (Nat × Item)→Prop
 | []=>True
 |(i,it)::l=>(i<N∧it.below N=true)∧dG N l
theorem oW {N:Nat}:∀ {l:List (Nat × Item)},dG N l→∀ i it,lk l i=some it→i<N∧it.below N=true
 |(j,jt)::l,h,i,it,hi=>by
  simp only [lk] at hi
  split at hi
  ·rename_i e;subst e;cases hi;exact h.1
  ·exact oW h.2 i it hi
theorem ak.fr [hG:mQ P w0 T0] {f:Nat} {args args':List AV} {out:AV} {rows:List (Nat × Item)} {s:S} {K:AV→S→Prop} (h:gJ P f args' out rows) (ha:bD s.rows args args') (N:Nat) (hN:Fv.below N out=true) (hNr:dG N rows)
  (hk:K (ren (fun j=>s.next+j) out) (s.after s.rows N rows)):@ak P w0 T0 f args s ⟨K⟩:=by
 refine ⟨h.1,fun H a w m vals hm hv=>?_⟩
 have hl:vK w (ah T0 w0.heap.size m s w) s.rows (fun _=>True):=
  {hw:=rfl,t:=fun _ _=>trivial,
   own:=fun i e r hi=>by
    obtain ⟨n,cells,hc,hn,ho,hO⟩:=(hm.rows i _ hi).2
    exact ⟨fun _ _=>trivial,n,cells,hc,hn,ho⟩,
   box:=fun i e cs hi=>by
    obtain ⟨g,vs,hv,_,hl,hh⟩:=(hm.rows i _ hi).2
    exact ⟨g,vs,hv,trivial,hl,hh⟩,
   map:=fun i ks vs hi=>by
    obtain ⟨g,es,clock,hv,_,h1,h2,h3,h4,hh⟩:=(hm.rows i _ hi).2
    exact ⟨g,es,clock,hv,trivial,h1,h2,h3,h4,hh⟩ }
 refine (h.2 w (fun _=>True) vals (mQ.at hm) (jv hl _ ha hv)).mono ?_
 rintro e w' ⟨v,rfl,hb,ho⟩
 exact ⟨v,rfl,_,_,hk,hm.after hb (fun _ _ h=>h) (fun b hb=>hb.elim) ho hN (oW hNr)⟩
theorem ak.sh [hG:mQ P w0 T0] (rows':List (Nat × Item)) {f:Nat} {args args':List AV} {out:AV} {rows:List (Nat × Item)} {s:S} {K:AV→S→Prop} (h:aP P f args' out rows) (lent:List (Nat × Item)) (ha:bD lent args args')
  (hsub:∀ i it,lk rows' i=some it→lk s.rows i=some it) (hlent:∀ i it,lk lent i=some it→lk s.rows i=some it∧lk rows' i=none) (N:Nat) (hN:Fv.below N out=true) (hNr:dG N rows)
  (hk:K (ren (fun j=>s.next+j) out) (s.after rows' N rows)):@ak P w0 T0 f args s ⟨K⟩:=by
 refine ⟨h.1,fun H a w m vals hm hv=>?_⟩
 have hl:vK w (ah T0 w0.heap.size m s w) lent (allow T0 w0.heap.size m rows'):=
  {hw:=rfl,t:=fun b hb=>⟨hb.1,fun i it hi=>hb.2 i it (hsub i it hi)⟩,
   own:=fun i e r hi=>by
    obtain ⟨h1,h2⟩:=hlent i _ hi
    obtain ⟨n,cells,hc,hn,ho,hO⟩:=(hm.rows i _ h1).2
    refine ⟨fun b hb=>⟨(hO b hb).imp id (·.2),fun j jt hj hbj=>?_⟩,n,cells,hc,hn,ho⟩
    have:=hm.sep i j _ jt b h1 (hsub j jt hj) hb hbj
    subst this
    exact absurd (h2.symm.trans hj) (by simp),
   box:=fun i e cs hi=>by
    obtain ⟨h1,h2⟩:=hlent i _ hi
    obtain ⟨g,vs,hv,hg,hl,hh⟩:=(hm.rows i _ h1).2
    refine ⟨g,vs,hv,⟨hg.imp id (·.2),fun j jt hj hbj=>?_⟩,hl,hh⟩
    have:=hm.sep i j _ jt g h1 (hsub j jt hj) (by show blk (m i)=some g;rw [show m i=_ from hv];rfl) hbj
    subst this
    rw [h2] at hj;exact absurd hj (by simp),
   map:=fun i ks vs hi=>by
    obtain ⟨h1,h2⟩:=hlent i _ hi
    obtain ⟨g,es,clock,hv,hg,k1,k2,k3,k4,hh⟩:=(hm.rows i _ h1).2
    refine ⟨g,es,clock,hv,⟨hg.imp id (·.2),fun j jt hj hbj=>?_⟩,k1,k2,k3,k4,hh⟩
    have:=hm.sep i j _ jt g h1 (hsub j jt hj) (by show blk (m i)=some g;rw [show m i=_ from hv];rfl) hbj
    subst this
    rw [h2] at hj;cases hj }
 refine (h.2 w _ vals (mQ.at hm) (jv hl _ ha hv)).mono ?_
 rintro e w' ⟨v,rfl,hb,ho⟩
 exact ⟨v,rfl,_,_,hk,hm.after hb hsub (fun b hb=>hb) ho hN (oW hNr)⟩
end
end Go.Fv
/-
 Regions whose order is drawn: every order is walked, moves first.
-/
namespace Go.Fv
open Go.RowKit
section
variable {P:Program} {w0:World} {T0:Bs} {b0:Nat} {H:List (AV × Value)} [hG:mQ P w0 T0]
theorem zo {ops:Array Oper} (hs:Region.noSelect ops=true) {Q:S→Prop}:∀ (t:qI) (n:Nat) (listed:Array Bool) (q:Option (List Nat)),dh ops t n listed q=true→∀ (s:S) (a:Act) (w:World),
  fE P w0 T0 ops t s Q→Rep w0 T0 H s a w →
  match q with
  | none=>wpAny P .any ops (fun e a' w'=>e=.normal∧∃ s',Q s'∧Rep w0 T0 H s' a' w') n listed a w
  | some l=>∃ n',n=n'+1∧∀ i,i∈l→wpOp P ops (fun e a' w'=>e=.normal∧∃ s',Q s'∧Rep w0 T0 H s' a' w') i (wpAny P .any ops (fun e a' w'=>e=.normal∧∃ s',Q s'∧Rep w0 T0 H s' a' w') n' (listed.setIfInBounds i true)) a w:=by
 intro t
 induction t with
 | done=>
  intro n listed q hok s a w h hr
  cases q with
  | none=>
   have hn:Region.ready .any ops listed=[]:=by
    cases n<;>simpa [dh,List.isEmpty_iff] using hok
   exact wpAny_done hn ⟨rfl,s,h,hr⟩ n
  | some l=>cases n<;>simp [dh] at hok
 | first i t ih=>
  intro n listed q hok s a w h hr
  cases n with
  | zero=>cases q<;>simp [dh] at hok
  | succ n=>
   cases q with
   | some l=>simp [dh] at hok
   | none=>
    simp only [dh,Bool.and_eq_true] at hok
    obtain ⟨⟨⟨hm,hf⟩,hrd⟩,ht⟩:=hok
    unfold fE at h
    cases ho:ops[i]? with
    | none=>rw [ho] at h;exact h.elim
    | some o=>
     rw [ho] at h hm
     have hm':Cc o=true:=by simpa using hm
     have hg:o.guard=none:=by
      unfold Cc at hm';split at hm'<;>first|assumption|cases hm'
     have go:∀ x,(o.op=.move x∨o.op=.assign x)→aN (aj x) (dH o.dst (s.ev x) s (fun s'=>fE P w0 T0 ops t s' Q)) →
       wpAny P .any ops (fun e a' w'=>e=.normal∧∃ s',Q s'∧Rep w0 T0 H s' a' w') (n+1) listed a w:=by
      rintro x hx ⟨hxo,hk⟩
      have hrun:∀ w,(execOp a.eval o).run P w=.ok (.value (a.eval x)) w:=by
       intro w;unfold execOp;rcases hx with hx|hx<;>rw [hx]<;>rfl
      have hy:Yields P ops o (a.eval x) a:=.inl ⟨by simp [Region.wanted,hg],hrun⟩
      refine wpAny_take ho hs hf hrd (by rintro c a w ⟨h,_⟩;cases h) hy ?_
      obtain ⟨m,hm⟩:=hr
      obtain ⟨s',h2,hr2⟩:=Rep.put (⟨m,hm.hold (hm.ev x hxo)⟩:Rep w0 T0 ((s.ev x,a.eval x)::H) s a w) hk
      exact ih n _ none ht s' _ w h2 hr2
     dsimp only at h
     cases hop:o.op<;>rw [hop] at h<;>first|exact h.elim|skip
     ·exact go _ (.inl hop) h
     ·exact go _ (.inr hop) h
     ·obtain ⟨hxo,hk⟩:=h
      obtain ⟨m,hm⟩:=hr
      obtain ⟨r,v,hk',hrun,hv⟩:=kH hop hxo hk hm
      have hy:Yields P ops o v a:=.inl ⟨by simp [Region.wanted,hg],hrun⟩
      refine wpAny_take ho hs hf hrd (by rintro c a w ⟨h,_⟩;cases h) hy ?_
      obtain ⟨s',h2,hr2⟩:=Rep.put (⟨m,hm.hold hv⟩:Rep w0 T0 ((r,v)::H) s a w) hk'
      exact ih n _ none ht s' _ w h2 hr2
 | cons i t r iht ihr=>
  intro n listed q hok s a w h hr
  unfold fE at h
  cases ho:ops[i]? with
  | none=>rw [ho] at h;exact h.elim
  | some o=>
   rw [ho] at h
   obtain ⟨h1,h2⟩:=h
   have one:∀ n',dh ops t n' (listed.setIfInBounds i true) none=true→wpOp P ops (fun e a' w'=>e=.normal∧∃ s',Q s'∧Rep w0 T0 H s' a' w') i (wpAny P .any ops (fun e a' w'=>e=.normal∧∃ s',Q s'∧Rep w0 T0 H s' a' w') n' (listed.setIfInBounds i true)) a w:=by
    intro n' ht
    unfold wpOp
    rw [ho]
    have:=uV (Qc:=fun e a' w'=>e=.normal∧∃ s',Q s'∧Rep w0 T0 H s' a' w') h1 hr fun s' a' w' hk hr'=>iht n' _ none ht s' a' w' hk hr'
    dsimp only at this ⊢
    split
    ·rename_i hw;rw [if_pos hw] at this;exact .inl this
    ·rename_i hw;rw [if_neg hw] at this;exact this
   cases n with
   | zero=>cases q<;>simp [dh] at hok
   | succ n=>
    cases q with
    | none=>
     cases hrd:Region.ready .any ops listed with
     | nil=>simp [dh,hrd] at hok
     | cons j l=>
      simp only [dh,hrd,Bool.and_eq_true,beq_iff_eq] at hok
      obtain ⟨⟨rfl,ht⟩,hrest⟩:=hok
      have:=ihr (n+1) listed (some l) hrest s a w h2 hr
      obtain ⟨n',hn,hall⟩:=this
      cases hn
      refine wpAny_all hrd (by simp) fun k hk=>?_
      cases List.mem_cons.1 hk with
      | inl e=>subst e;exact one n ht
      | inr e=>exact hall k e
    | some l=>
     cases l with
     | nil=>simp [dh] at hok
     | cons j l=>
      simp only [dh,Bool.and_eq_true,beq_iff_eq] at hok
      obtain ⟨⟨rfl,ht⟩,hrest⟩:=hok
      have:=ihr (n+1) listed (some l) hrest s a w h2 hr
      obtain ⟨n',hn,hall⟩:=this
      cases hn
      refine ⟨n,rfl,fun k hk=>?_⟩
      cases List.mem_cons.1 hk with
      | inl e=>subst e;exact one n ht
      | inr e=>exact hall k e
 | stop=>
  intro n listed q hok s a w h hr
  cases n<;>cases q<;>simp [dh] at hok
  subst hok
  exact ⟨_,rfl,fun i hi=>by cases hi⟩
theorem aH.drawn {s:S} {a:Act} {w:World} {m:Nat→Value} (h:aH w0 T0 H s a w m):aH w0 T0 H s a w.drew m:=by
 have hle:bC (ah T0 w0.heap.size m s w) (ah T0 w0.heap.size m s w.drew):=
  eX (Nat.le_refl _) (fun _ _=>rfl) (fun _ _ _=>rfl) fun i it b hi hb _=>⟨i,it,hi,hb⟩
 exact h.ql rfl rfl hle h.below.drew (fun i it hi=>⟨(h.rows i it hi).1,(h.rows i it hi).2.mono hle fun _ _=>rfl⟩) h.sep
theorem dW.intro {id:Nat} {ops:Array Oper} {s:S} {Q:S→Prop} (t:qI) (hm:P.follows .mixedOrders=true) (hs:Region.noSelect ops=true) (ht:dh ops t ops.size (Array.replicate ops.size false) none=true)
  (h:fE P w0 T0 ops t s Q):@dW P w0 T0 b0 id ops s ⟨Q⟩:=by
 intro H a w _ hr
 refine wp_region_any hm ?_
 have hr':Rep w0 T0 H s a { w with drawn:=w.drawn+1 }:=by
  obtain ⟨m,hm⟩:=hr
  exact ⟨m,hm.drawn⟩
 exact zo hs t _ _ none ht s a _ h hr'
theorem dW.cut {id:Nat} {ops:Array Oper} {s:S} {Q:S→Prop} (t:qI) (hm:P.follows .mixedOrders=true) (hs:Region.noSelect ops=true) (ht:dh ops t ops.size (Array.replicate ops.size false) none=true) (shape:S)
  (h:fE P w0 T0 ops t s (fun s'=>bQ w0 T0 b0 s' shape)) (hk:Q shape):@dW P w0 T0 b0 id ops s ⟨Q⟩:=by
 intro H a w hH hr
 refine wp_mono (dW.intro (b0:=b0) (id:=id) t hm hs ht h H a w hH hr) ?_
 rintro e a' w' ⟨he,s',hq,hr'⟩
 exact ⟨he,shape,hk,hq H a' w' hH hr'⟩
end
end Go.Fv
/-
 Regions whose order is drawn: walked once, in the text's order. Operations that leave the abstract state as it is may come in any order;
 those that change it ('es') come in the text's order among themselves.
-/
namespace Go.Fv
open Go.RowKit
abbrev nD:=List (Nat × Item) × Nat
def dL:Op→List Operand
 | .move x=>[x]
 | .assign x=>[x]
 | .pick c x y=>[c,x,y]
 | .extract x _=>[x]
 | .makeFunc _ first caps=>first.toList++caps.toList
 | .box _ x=>[x]
 | .load _ x=>[x]
 | .store _ x v=>[x,v]
 | .nilCheck x=>[x]
 | .fieldAddr _ x _=>[x]
 | .indexAddr _ x i=>[x,i]
 | .makeSlice _ l c=>[l,c]
 | .binOp _ _ x y _=>[x,y]
 | .unOp _ _ x=>[x]
 | .convert _ _ x=>[x]
 | .index _ x i=>[x,i]
 | .lookup _ x i _=>[x,i]
 | .mapUpdate _ m k v=>[m,k,v]
 | .mapEntry _ m k=>[m,k]
 | .entryStore _ m t v=>[m,t,v]
 | .range _ x=>[x]
 | .next x _=>[x]
 | .field _ x _=>[x]
 | .slice _ x l h m=>x::(l.toList++(h.toList++m.toList))
 | .buildSlice _ _ ps=>ps.toList.map (·.2)
 | .build _ ps=>ps.toList.map (·.2)
 | .call c=>match c.callee with
  | .value f=>f::c.args.toList
  | _=>c.args.toList
 | _=>[]
def Jo (v:AV):AV:=match v with
 | .opt _ v=>v
 | v=>v
def bY (s:S):List Operand→List (Nat × AV)
 | []=>[]
 | .tmp t::l=>(t,s.get t)::bY s l
 | .const _::l=>bY s l
 | .func _::l=>bY s l
 | .global _::l=>bY s l
def fG (s:S):List Operand→List (Nat × AV)
 | []=>[]
 | .tmp t::l=>(t,Jo (s.get t))::fG s l
 | .const _::l=>fG s l
 | .func _::l=>fG s l
 | .global _::l=>fG s l
def gd (ops:Array Oper) (s:S) (o:Oper):Option (Option Bool):=
 match o.guard with
 | none=>some none
 | some (j,want)=>match (ops[j]?).bind (·.dst) with
  | some r=>match s.get r with
   | .bool b=>some (some (bif want then b else !b))
   | .opt c (.bool b)=>some (some (c && bif want then b else !b))
   | _=>none
  | none=>none
def Hf (P:Program) (w0:World) (T0:Bs) (o:Oper) (s1:S) (v:AV):Prop:=
 kK P w0 T0 o s1 (fun r s'=>r=v∧s'.rows=s1.rows∧s'.next=s1.next)
structure Acc where
 o:Oper
 g:Option Bool
 env:List (Nat × AV)
 v:AV
 ks:List Nat
def xu (P:Program) (w0:World) (T0:Bs) (n:Nat) (x:Acc) (hs:List nD):List Nat→Prop
 | []=>True
 | k::l=>(match hs[k]? with
  | some h=>match x.g with
   | none=>Hf P w0 T0 x.o ⟨n,x.env,h.1,h.2⟩ x.v
   | some c=>Fv.below h.2 x.v=true∧(c=true→Hf P w0 T0 x.o ⟨n,x.env,h.1,h.2⟩ x.v)
  | none=>False)∧xu P w0 T0 n x hs l
def redo (P:Program) (w0:World) (T0:Bs) (n:Nat) (hs:List nD):List Acc→Prop
 | []=>True
 | x::l=>xu P w0 T0 n x hs x.ks∧redo P w0 T0 n hs l
class QB where
 A:AV→Prop
 B:AV→Prop
class QC where
 A:AV→List (Nat × Item)→Nat→Prop
 B:AV→List (Nat × Item)→Nat→Prop
def QV [x:QB]:Prop:=∃ v,x.A v∧x.B v
def QE [x:QC]:Prop:=∃ v rows N,x.A v rows N∧x.B v rows N
theorem QV.intro {A B:AV→Prop} (v:AV) (h:A v) (k:B v):@QV ⟨A,B⟩:=⟨v,h,k⟩
theorem QE.intro {A B:AV→List (Nat × Item)→Nat→Prop} (v:AV) (rows:List (Nat × Item)) (N:Nat) (h:A v rows N) (k:B v rows N):@QE ⟨A,B⟩:=⟨v,rows,N,h,k⟩
def jm (ks:List Nat) (x:Acc) (l:List Acc):List Acc:=match ks with
 | []=>l
 | _::_=>x::l
def jE (tb:List (Nat × List Nat)) (i:Nat):List Nat:=match lk tb i with
 | some l=>l
 | none=>[]
def tX:Op→Bool
 | .move _=>true
 | .assign _=>true
 | .extract _ _=>true
 | .makeFunc _ _ _=>true
 | .box _ _=>true
 | .alloc _=>true
 | .store _ _ _=>true
 | .nilCheck _=>true
 | .makeSlice _ _ _=>true
 | .unOp _ _ _=>true
 | .convert _ _ _=>true
 | .buildSlice _ _ _=>true
 | .build _ _=>true
 | .makeMap _ _=>true
 | .mapUpdate _ _ _ _=>true
 | .mapEntry _ _ _=>true
 | .entryStore _ _ _ _=>true
 | .range _ _=>true
 | .call c=>match c.callee with
  | .builtin .append=>true
  | .builtin .min=>true
  | .builtin .max=>true
  | _=>false
 | _=>false
def oC:List Nat→Nat→Bool
 | [],_=>false
 | j::l,i=>if i=j then true else oC l i
theorem sW:∀ (l:List Nat) (i:Nat),oC l i=l.elem i
 | [],_=>rfl
 | j::l,i=>by
  simp only [oC,List.elem_cons,sW l i]
  by_cases h:i=j
  ·simp [h]
  ·have:(i == j)=false:=by simpa using h
   rw [if_neg h,this]
/-! ### The walk: what comes behind is not looked at before it is reached -/
inductive QR where
 | val (v:AV) (p:Prop) (re:Bool)
 | lin
 | call
class Lr where
 k:Option Bool→Prop
class Lm where
 x:Prop
 y:Prop
class Lp where
 k:AV→List (Nat × Item)→Nat→Prop
class Ls where
 k:AV→Bool→Prop
 l:Prop
 c:Prop
def KP (x:Option (Option Bool)) [K:Lr]:Prop:=match x with
 | some g=>K.k g
 | none=>False
def JZ (b:Bool) [K:Lm]:Prop:=match b with
 | true=>K.x
 | false=>K.y
def KO (v:AV) (t:S) [K:Lp]:Prop:=K.k v t.rows t.next
def KI (x:QR) [K:Ls]:Prop:=match x with
 | .val v p re=>aN p (K.k v re)
 | .lin=>K.l
 | .call=>K.c
theorem Gl (g:Option Bool) (k:Option Bool→Prop):@KP (some g) ⟨k⟩=k g:=rfl
theorem FP (x y:Prop):@JZ true ⟨x,y⟩=x:=rfl
theorem Ew (x y:Prop):@JZ false ⟨x,y⟩=y:=rfl
theorem JA (v:AV) (n:Nat) (env:List (Nat × AV)) (R:List (Nat × Item)) (N:Nat) (k:AV→List (Nat × Item)→Nat→Prop):@KO v ⟨n,env,R,N⟩ ⟨k⟩=k v R N:=rfl
theorem I7 (v:AV) (p:Prop) (re:Bool) (k:AV→Bool→Prop) (l c:Prop):@KI (.val v p re) ⟨k,l,c⟩=aN p (k v re):=rfl
theorem I5 (k:AV→Bool→Prop) (l c:Prop):@KI .lin ⟨k,l,c⟩=l:=rfl
theorem He (k:AV→Bool→Prop) (l c:Prop):@KI .call ⟨k,l,c⟩=c:=rfl
def Ag (g:Option Bool) (v:AV):AV:=match g with
 | none=>v
 | some c=>.opt c v
def qR (g:Option Bool) (s:S) (l:List Operand):List (Nat × AV):=match g with
 | none=>bY s l
 | some _=>fG s l
def jB (d:Option Nat) (n:Nat):Prop:=match d with
 | none=>True
 | some d=>d<n
def jc (d:Option Nat) (v:AV) (s:S):S:=match d with
 | none=>s
 | some d=>⟨s.n,(d,v)::s.env,s.rows,s.next⟩
def AL (P:Program) (w0:World) (T0:Bs) (o:Oper) (g:Option Bool) (s:S) (v:AV):Prop:=match g with
 | none=>Hf P w0 T0 o ⟨s.n,bY s (dL o.op),s.rows,s.next⟩ v
 | some c=>Fv.below s.next v=true∧(c=true→cu s (dL o.op)=true∧Hf P w0 T0 o ⟨s.n,fG s (dL o.op),s.rows,s.next⟩ v)
def JK (P:Program) (w0:World) (T0:Bs) (o:Oper) (g:Option Bool) (s:S):QR:=
 match oJ ⟨s.n,bY s (dL o.op),s.rows,s.next⟩ o.op with
 | some (pre,b)=>match g with
  | none=>.val (.bool b) (pre∧nR o.op) false
  | some c=>.val (.bool b) (c=true→pre∧nR o.op) false
 | none=>match II P ⟨s.n,qR g s (dL o.op),s.rows,s.next⟩ o.op with
  | some v=>.val v (AL P w0 T0 o g s v) true
  | none=>match g,tX o.op with
   | none,true=>.lin
   | _,_=>.call
def ig (P:Program) (w0:World) (T0:Bs) (ops:Array Oper) (es:List Nat) (tb:List (Nat × List Nat)):List Oper→Nat→List Acc→List nD→S→(S→Prop)→Prop
 | [],_,acc,hs,s,Q=>redo P w0 T0 s.n hs acc∧Q s
 | o::rest,i,acc,hs,s,Q=>
  @KP (gd ops s o) ⟨fun g=>@JZ (oC es i) ⟨
   match g with
   | none=>@JZ (tX o.op) ⟨
     kK P w0 T0 o ⟨s.n,bY s (dL o.op),s.rows,s.next⟩ (fun v t=>@KO v t ⟨fun v R N=>aN (jB o.dst s.n) (ig P w0 T0 ops es tb rest (i+1) acc (hs++[(R,N)]) (jc o.dst v ⟨s.n,s.env,R,N⟩) Q)⟩),
     @QE ⟨fun v R N=>kK P w0 T0 o ⟨s.n,bY s (dL o.op),s.rows,s.next⟩ (fun r t=>r=v∧t.rows=R∧t.next=N),
      fun v R N=>aN (jB o.dst s.n) (ig P w0 T0 ops es tb rest (i+1) acc (hs++[(R,N)]) (jc o.dst v ⟨s.n,s.env,R,N⟩) Q)⟩⟩
   | some c=>@Ite c ⟨@QE ⟨fun v R N=>cu s (dL o.op)=true∧kK P w0 T0 o ⟨s.n,fG s (dL o.op),s.rows,s.next⟩ (fun r t=>r=v∧t.rows=R∧t.next=N),
      fun v R N=>aN (jB o.dst s.n) (ig P w0 T0 ops es tb rest (i+1) acc (hs++[(R,N)]) (jc o.dst (.opt true v) ⟨s.n,s.env,R,N⟩) Q)⟩⟩
     ⟨aN (jB o.dst s.n) (ig P w0 T0 ops es tb rest (i+1) acc (hs++[(s.rows,s.next)]) (jc o.dst (.opt false (.bool false)) s) Q)⟩,
   @KI (JK P w0 T0 o g s) ⟨
    fun v re=>aN (jB o.dst s.n) (ig P w0 T0 ops es tb rest (i+1) (bif re then jm (jE tb i) ⟨o,g,qR g s (dL o.op),v,jE tb i⟩ acc else acc) hs (jc o.dst (Ag g v) s) Q),
    kK P w0 T0 o ⟨s.n,bY s (dL o.op),s.rows,s.next⟩ (fun v t=>@KO v t ⟨fun v R N=>aN (R=s.rows∧N=s.next) (aN (jB o.dst s.n) (ig P w0 T0 ops es tb rest (i+1) (jm (jE tb i) ⟨o,g,qR g s (dL o.op),v,jE tb i⟩ acc) hs (jc o.dst v s) Q))⟩),
    @QV ⟨fun v=>AL P w0 T0 o g s v,
     fun v=>aN (jB o.dst s.n) (ig P w0 T0 ops es tb rest (i+1) (jm (jE tb i) ⟨o,g,qR g s (dL o.op),v,jE tb i⟩ acc) hs (jc o.dst (Ag g v) s) Q)⟩⟩⟩⟩
theorem fD {d:Option Nat} {v:AV} {s:S} {Q:S→Prop} (h1:jB d s.n) (h2:Q (jc d v s)):dH d v s Q:=by
 unfold dH
 cases d with
 | none=>exact h2
 | some d=>simp only [jB] at h1;simp only [h1,if_true];exact h2
section
variable {P:Program} {w0:World} {T0:Bs} {ops:Array Oper} [hG:mQ P w0 T0]
def DN (env1 env:List (Nat × AV)):Prop:=∀ r x,lk env1 r=some x→x=.dead∨lk env r=some x∨lk env r=some (.opt true x)
theorem aH.restrict {H:List (AV × Value)} {s:S} {a:Act} {w:World} {m:Nat→Value} (h:aH w0 T0 H s a w m) {env1:List (Nat × AV)} (he:DN env1 s.env):aH w0 T0 H { s with env:=env1 } a w m:=
 {size:=h.size,nodef:=h.nodef,below:=h.below,held:=h.held,rows:=h.rows,sep:=h.sep,
  env:=by
   intro r v hv
   rcases he r v hv with rfl|hx|hx
   ·exact .dead _
   ·exact h.env r v hx
   ·have:=h.env r _ hx
    cases this with
    | opt _ _ _ _ h1 _=>exact h1 rfl }
theorem aA.frame {o:Oper} {s:S} {env1:List (Nat × AV)} {v:AV} {R:List (Nat × Item)} {N:Nat} (h:aA P w0 T0 o { s with env:=env1 } (fun r s'=>r=v∧s'.rows=R∧s'.next=N)) (he:DN env1 s.env) :
  aA P w0 T0 o s (fun r s'=>r=v∧s'={ s with rows:=R,next:=N }):=by
 intro H a w next Q ⟨m,hm⟩ hn
 let E:List (AV × Value):=s.env.map fun p=>(s.get p.1,a.tmps.getD p.1 undef)
 have hE:∀ r x,lk s.env r=some x→(x,a.tmps.getD r undef)∈E:=by
  intro r x hx
  have:∀ l:List (Nat × AV),lk l r=some x→∃ p,p∈l∧p.1=r:=by
   intro l
   induction l with
   | nil=>intro h;simp [lk] at h
   | cons q l ih=>
    intro h
    simp only [lk] at h
    split at h
    ·rename_i e;exact ⟨q,.head _,e⟩
    ·obtain ⟨p,hp,e⟩:=ih h;exact ⟨p,.tail _ hp,e⟩
  obtain ⟨p,hp,e⟩:=this _ hx
  refine List.mem_map.2 ⟨p,hp,?_⟩
  subst e
  simp [S.get,hx]
 have hm1:aH w0 T0 (E++H) { s with env:=env1 } a w m:=by
  have h1:=hm.restrict he
  refine { h1 with held:=?_ }
  intro p hp
  rcases List.mem_append.1 hp with hp|hp
  ·obtain ⟨q,hq,rfl⟩:=List.mem_map.1 hp
   show Rv _ (s.get q.1) _
   simp only [S.get]
   cases hl:lk s.env q.1 with
   | none=>exact .dead _
   | some x=>exact hm.env _ _ hl
  ·exact hm.held p hp
 refine h (E++H) a w next Q ⟨m,hm1⟩ ?_
 rintro r s' val w' ⟨rfl,hr,hx⟩ ⟨m',hm'⟩
 refine hn _ _ val w' ⟨rfl,rfl⟩ ⟨m',?_⟩
 subst hr;subst hx
 refine { size:=hm.size,nodef:=hm'.nodef,below:=hm'.below,rows:=hm'.rows,sep:=hm'.sep,env:=?_,held:=?_ }
 ·intro r x hx
  exact hm'.held _ (List.mem_cons_of_mem _ (List.mem_append_left _ (hE r x hx)))
 ·intro p hp
  rcases List.mem_cons.1 hp with rfl|hp
  ·exact hm'.held _ (.head _)
  ·exact hm'.held p (List.mem_cons_of_mem _ (List.mem_append_right _ hp))
theorem jH (s:S):∀ l:List Operand,DN (bY s l) s.env
 | []=>by intro r x h;simp [bY,lk] at h
 | .tmp t::l=>by
  intro r x h
  simp only [bY,lk] at h
  split at h
  ·rename_i e;subst e;cases h
   simp only [S.get]
   cases hl:lk s.env t with
   | none=>exact .inl rfl
   | some y=>exact .inr (.inl rfl)
  ·exact jH s l r x h
 | .const _::l=>by intro r x h;exact jH s l r x h
 | .func _::l=>by intro r x h;exact jH s l r x h
 | .global _::l=>by intro r x h;exact jH s l r x h
theorem lC (s:S):∀ l:List Operand,cu s l=true→DN (fG s l) s.env
 | [],_=>by intro r x h;simp [fG,lk] at h
 | .tmp t::l,hc=>by
  intro r x h
  simp only [cu] at hc
  simp only [fG,lk] at h
  split at h
  ·rename_i e;subst e;cases h
   cases hg:s.get t with
   | opt c v=>
    rw [hg] at hc
    simp only [Bool.and_eq_true] at hc
    simp only [S.get] at hg
    cases hl:lk s.env t with
    | none=>rw [hl] at hg;cases hg
    | some y=>rw [hl] at hg;simp only at hg;subst hg;rw [hc.1];exact .inr (.inr rfl)
   | _=>
    simp only [S.get] at hg
    cases hl:lk s.env t with
    | none=>rw [hl] at hg;simp only at hg;first|(cases hg;done)|(cases hg;exact .inl rfl)
    | some y=>rw [hl] at hg;simp only at hg;subst hg;exact .inr (.inl rfl)
  ·refine lC s l ?_ r x h
   split at hc
   ·simp only [Bool.and_eq_true] at hc;exact hc.2
   ·exact hc
 | .const _::l,hc=>by intro r x h;exact lC s l (by simpa [cu] using hc) r x h
 | .func _::l,hc=>by intro r x h;exact lC s l (by simpa [cu] using hc) r x h
 | .global _::l,hc=>by intro r x h;exact lC s l (by simpa [cu] using hc) r x h
theorem eG {s s':S}:∀ l:List Operand,(∀ t,.tmp t∈l→s'.get t=s.get t)→bY s' l=bY s l
 | [],_=>rfl
 | .tmp t::l,h=>by simp only [bY];rw [h t (.head _),eG l fun t ht=>h t (.tail _ ht)]
 | .const _::l,h=>by simp only [bY];exact eG l fun t ht=>h t (.tail _ ht)
 | .func _::l,h=>by simp only [bY];exact eG l fun t ht=>h t (.tail _ ht)
 | .global _::l,h=>by simp only [bY];exact eG l fun t ht=>h t (.tail _ ht)
theorem eH {s s':S}:∀ l:List Operand,(∀ t,.tmp t∈l→s'.get t=s.get t)→fG s' l=fG s l∧cu s' l=cu s l
 | [],_=>⟨rfl,rfl⟩
 | .tmp t::l,h=>by simp only [fG,cu];rw [h t (.head _),(eH l fun t ht=>h t (.tail _ ht)).1,(eH l fun t ht=>h t (.tail _ ht)).2];exact ⟨rfl,rfl⟩
 | .const _::l,h=>by simp only [fG,cu];exact eH l fun t ht=>h t (.tail _ ht)
 | .func _::l,h=>by simp only [fG,cu];exact eH l fun t ht=>h t (.tail _ ht)
 | .global _::l,h=>by simp only [fG,cu];exact eH l fun t ht=>h t (.tail _ ht)
def QS (P:Program) (w0:World) (T0:Bs) (ops:Array Oper) (o:Oper) (n:Nat) (get:Nat→AV) (h h':nD) (v:AV):Prop:=
 ∀ env,(∀ r,r∈o.looksAt ops→S.get ⟨n,env,[],0⟩ r=get r) →
  ∀ (H:List (AV × Value)) (a:Act) (w:World) (K:Act→World→Prop) (Qx:Exit→Act→World→Prop),Rep w0 T0 H ⟨n,env,h.1,h.2⟩ a w →
   (∀ val w',Rep w0 T0 ((v,val)::H) ⟨n,env,h'.1,h'.2⟩ a w'→K (a.put o.dst val) w') →
   if Region.wanted o (yielded ops a.tmps)=true then o.wp P a w K Qx else K (a.put o.dst undef) w
theorem rQ {s:S} {o:Oper} (h:gd ops s o=some none):o.guard=none:=by
 unfold gd at h
 split at h
 ·assumption
 ·split at h
  ·split at h<;>simp at h
  ·simp at h
theorem EG {H:List (AV × Value)} {s:S} {o:Oper} {c:Bool} (h:gd ops s o=some (some c)) {a:Act} {w:World} (hr:Rep w0 T0 H s a w):Region.wanted o (yielded ops a.tmps)=c:=by
 unfold gd at h
 cases hg:o.guard with
 | none=>rw [hg] at h;simp at h
 | some jw=>
  obtain ⟨j,want⟩:=jw
  rw [hg] at h
  dsimp only at h
  cases hd:(ops[j]?).bind (·.dst) with
  | none=>rw [hd] at h;simp at h
  | some r=>
   rw [hd] at h
   dsimp only at h
   have hslot:∀ x,s.get r=x→x≠.dead→lk s.env r=some x:=by
    intro x hx hne
    simp only [S.get] at hx
    cases hl:lk s.env r with
    | none=>rw [hl] at hx;exact absurd hx.symm hne
    | some y=>rw [hl] at hx;exact congrArg some hx
   have hyield:∀ b,a.tmps.getD r undef=.bool b→yielded ops a.tmps j=some b:=by
    intro b hvv
    have h1:a.tmps[r]?=some (.bool b):=by
     rw [Array.getD_eq_getD_getElem?] at hvv
     cases hq:a.tmps[r]? with
     | none=>rw [hq] at hvv;simp [undef] at hvv
     | some y=>rw [hq] at hvv;simpa using hvv
    simp [yielded,hd,h1]
   have hyno:a.tmps.getD r undef=undef→yielded ops a.tmps j=none:=by
    intro hvv
    cases hq:a.tmps[r]? with
    | none=>simp [yielded,hd,hq]
    | some y=>
     rw [Array.getD_eq_getD_getElem?,hq] at hvv
     have:y=undef:=by simpa using hvv
     subst this
     simp [yielded,hd,hq,undef]
   obtain ⟨m,hm⟩:=hr
   split at h
   ·rename_i b hb
    have hl:=hslot _ hb (by simp)
    have hv:=hm.env r _ hl
    generalize hvv:a.tmps.getD r undef=vv at hv
    cases hv
    have hy:=hyield b hvv
    simp only [Option.some.injEq] at h
    subst h
    cases want<;>cases b<;>simp [Region.wanted,hg,hy]
   ·rename_i c b hb
    have hl:=hslot _ hb (by simp)
    have hv:=hm.env r _ hl
    simp only [Option.some.injEq] at h
    subst h
    cases hv with
    | opt _ _ _ _ h1 h2=>
     cases c with
     | true=>
      have h1':=h1 rfl
      generalize hvv:a.tmps.getD r undef=vv at h1'
      cases h1'
      have hy:=hyield b hvv
      cases want<;>cases b<;>simp [Region.wanted,hg,hy]
     | false=>
      have hy:=hyno (h2 rfl)
      cases want<;>simp [Region.wanted,hg,hy]
   ·simp at h
theorem Gm {s s':S} {o:Oper} (h:∀ r,r∈o.looksAt ops→s'.get r=s.get r):gd ops s' o=gd ops s o:=by
 unfold gd
 cases hg:o.guard with
 | none=>rfl
 | some jw=>
  obtain ⟨j,want⟩:=jw
  dsimp only
  cases hd:(ops[j]?).bind (·.dst) with
  | none=>rfl
  | some r=>
   dsimp only
   rw [h r (by simp [Oper.looksAt,hg,hd])]
theorem QS.plain {o:Oper} {s:S} {h h':nD} {v:AV} (hg:o.guard=none) (hop:∀ env,(∀ r,r∈o.looksAt ops→S.get ⟨s.n,env,[],0⟩ r=s.get r)→aA P w0 T0 o ⟨s.n,env,h.1,h.2⟩ (fun r s'=>r=v∧s'=⟨s.n,env,h'.1,h'.2⟩)) :
  QS P w0 T0 ops o s.n s.get h h' v:=by
 intro env he H a w K Qx hr hk
 rw [if_pos (by simp [Region.wanted,hg])]
 refine hop env he H a w K Qx hr ?_
 rintro r s' val w' ⟨rfl,rfl⟩ hr'
 exact hk val w' hr'
theorem QS.guarded {o:Oper} {s:S} {h h':nD} {v:AV} {c:Bool} (hg:gd ops s o=some (some c))
  (hop:c=true→∀ env,(∀ r,r∈o.looksAt ops→S.get ⟨s.n,env,[],0⟩ r=s.get r)→aA P w0 T0 o ⟨s.n,env,h.1,h.2⟩ (fun r s'=>r=v∧s'=⟨s.n,env,h'.1,h'.2⟩))
  (hno:c=false→h'=h∧Fv.below h.2 v=true):QS P w0 T0 ops o s.n s.get h h' (.opt c v):=by
 intro env he H a w K Qx hr hk
 have hgd:gd ops ⟨s.n,env,h.1,h.2⟩ o=some (some c):=by rw [←hg];exact Gm he
 rw [EG hgd hr]
 cases c with
 | true=>
  simp only [if_true]
  refine hop rfl env he H a w K Qx hr ?_
  rintro r s' val w' ⟨rfl,rfl⟩ ⟨m',hm'⟩
  have hv:=hm'.held _ (.head _)
  exact hk val w' ⟨m',hm'.ku.hold (.opt true _ val hv.ids (fun _=>hv) (fun e=>by cases e))⟩
 | false=>
  obtain ⟨rfl,hb⟩:=hno rfl
  simp only [Bool.false_eq_true,if_false]
  obtain ⟨m,hm⟩:=hr
  exact hk undef w ⟨m,hm.hold (.opt false v undef hb (fun e=>by cases e) (fun _=>rfl))⟩
theorem yM {o:Oper} {s:S} (hl:∀ t,.tmp t∈dL o.op→t∈o.looksAt ops) {h:nD} {R:List (Nat × Item)} {N:Nat} {v:AV}
  (hv:kK P w0 T0 o ⟨s.n,bY s (dL o.op),h.1,h.2⟩ (fun r s'=>r=v∧s'.rows=R∧s'.next=N)) :
  ∀ env,(∀ r,r∈o.looksAt ops→S.get ⟨s.n,env,[],0⟩ r=s.get r)→aA P w0 T0 o ⟨s.n,env,h.1,h.2⟩ (fun r s'=>r=v∧s'=⟨s.n,env,R,N⟩):=by
 intro env he
 have e:bY ⟨s.n,env,h.1,h.2⟩ (dL o.op)=bY s (dL o.op):=eG _ fun t ht=>he t (hl t ht)
 have:=iY hv
 rw [←e] at this
 exact this.frame (s:=⟨s.n,env,h.1,h.2⟩) (jH _ _)
theorem yN {o:Oper} {s:S} (hl:∀ t,.tmp t∈dL o.op→t∈o.looksAt ops) {h:nD} {R:List (Nat × Item)} {N:Nat} {v:AV} (hc:cu s (dL o.op)=true)
  (hv:kK P w0 T0 o ⟨s.n,fG s (dL o.op),h.1,h.2⟩ (fun r s'=>r=v∧s'.rows=R∧s'.next=N)) :
  ∀ env,(∀ r,r∈o.looksAt ops→S.get ⟨s.n,env,[],0⟩ r=s.get r)→aA P w0 T0 o ⟨s.n,env,h.1,h.2⟩ (fun r s'=>r=v∧s'=⟨s.n,env,R,N⟩):=by
 intro env he
 have e:=eH (s:=s) (s':=⟨s.n,env,h.1,h.2⟩) (dL o.op) fun t ht=>he t (hl t ht)
 have:=iY hv
 rw [←e.1] at this
 exact this.frame (s:=⟨s.n,env,h.1,h.2⟩) (lC _ _ (by rw [e.2];exact hc))
theorem zT {o:Oper} {s:S} (hl:∀ t,.tmp t∈dL o.op→t∈o.looksAt ops) {h:nD} {R:List (Nat × Item)} {N:Nat} {pre:Prop} {b:Bool} (hg:oJ ⟨s.n,bY s (dL o.op),R,N⟩ o.op=some (pre,b)) (hp:pre) (hok:nR o.op) :
  ∀ env,(∀ r,r∈o.looksAt ops→S.get ⟨s.n,env,[],0⟩ r=s.get r)→aA P w0 T0 o ⟨s.n,env,h.1,h.2⟩ (fun r s'=>r=.bool b∧s'=⟨s.n,env,h.1,h.2⟩):=by
 intro env he
 have e:bY ⟨s.n,env,h.1,h.2⟩ (dL o.op)=bY s (dL o.op):=eG _ fun t ht=>he t (hl t ht)
 have hg':oJ ⟨s.n,bY s (dL o.op),h.1,h.2⟩ o.op=some (pre,b):=hg
 intro H a w next Q ⟨m,hm⟩ hn
 have hm1:=hm.restrict (jH ⟨s.n,env,h.1,h.2⟩ (dL o.op))
 rw [e] at hm1
 have hrun:=kU (P:=P) hg' hp hok ⟨m,hm1⟩
 unfold Oper.wp
 rw [hrun]
 exact hn _ _ (.bool b) w ⟨rfl,rfl⟩ ⟨m,hm.hold (.bool b)⟩
end
end Go.Fv
