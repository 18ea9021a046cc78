/-
  A part of the proof of the claim: walks over the program's functions and the plain laws that these need. No condition of its own.
-/
import Derived.Test.YtpbllkibobnifaaDoorFvPart8
set_option linter.unusedSectionVars false
set_option linter.unusedVariables false
set_option linter.unusedSimpArgs false
set_option linter.unnecessarySimpa false
/-
 Calls: by contract, or into the callee's code.
-/
namespace Go.Fv
open Go.RowKit
structure yj (p:Nat→Nat) (c c':Ctx):Prop where
 n:∀ i,i<c.N→p i<c'.N
 m:∀ i,i<c.N→c'.m (p i)=c.m i
 t:∀ b,c.T b→b<c.w.heap.size→c'.T b∧c'.w.heap[b]?=c.w.heap[b]?
mutual
theorem jU {p:Nat→Nat} {n k:Nat} (h:∀ i,i<n→p i<k):∀ x:AV,Fv.below n x=true→Fv.below k (ren p x)=true
 | .own i,e=>by simp only [Fv.below,ren,decide_eq_true_eq] at *;exact h i e
 | .ptr i o,e=>by simp only [Fv.below,ren,decide_eq_true_eq] at *;exact h i e
 | .elt i a b c,e=>by simp only [Fv.below,ren,decide_eq_true_eq] at *;exact h i e
 | .pre i k,e=>by simp only [Fv.below,ren,decide_eq_true_eq] at *;exact h i e
 | .suf i a b k,e=>by simp only [Fv.below,ren,decide_eq_true_eq] at *;exact h i e
 | .agg cs,e=>by simp only [Fv.below,ren] at *;exact lg h cs e
 | .tup cs,e=>by simp only [Fv.below,ren] at *;exact lg h cs e
 | .fn f cs,e=>by simp only [Fv.below,ren] at *;exact lg h cs e
 | .cell cs,_=>rfl
 | .dead,_=>rfl
 | .nilS,_=>rfl
 | .bool _,_=>rfl
 | .int _ _,_=>rfl
 | .str _,_=>rfl
 | .ro _,_=>rfl
 | .raw _,_=>rfl
 | .mp _ _,_=>rfl
 | .opt _ v,e=>by simp only [Fv.below,ren] at *;exact jU h v e
 | .ifc _ v,e=>by simp only [Fv.below,ren] at *;exact jU h v e
 | .bm _ v,e=>by simp only [Fv.below,ren] at *;exact jU h v e
theorem lg {p:Nat→Nat} {n k:Nat} (h:∀ i,i<n→p i<k):∀ x:List AV,aQ n x=true→aQ k (bZ p x)=true
 | [],_=>rfl
 | x::l,e=>by
  simp only [aQ,Bool.and_eq_true] at e
  simp [bZ,aQ,jU h x e.1,lg h l e.2]
end
mutual
theorem Rv.shift {p:Nat→Nat} {c c':Ctx} (h:yj p c c'):∀ {x:AV} {v:Value},Rv c x v→Rv c' (ren p x) v
 | _,_,.dead v=>.dead v
 | _,_,.nilS=>.nilS
 | _,_,.bool b=>.bool b
 | _,_,.int k n hk=>.int k n hk
 | _,_,.str s hs=>.str s hs
 | _,_,.roNil r hr hi=>.roNil r (bP.dX h.t hr hi) hi
 | _,_,.ro r a len cap cells hr hl hc hm hs hi=>.ro r a len cap cells (bP.dX h.t hr hi) hl hc hm (hs.mono' h.t) hi
 | _,_,.mp ks vs g es clock hk hv hb hc hT hh hi hi2=>.mp ks vs g es clock (dH.dX h.t hk hi) (dH.dX h.t hv hi2) hb hc (h.t g hT (Array.getElem?_eq_some_iff.1 hh).1).1 (by rw [(h.t g hT (Array.getElem?_eq_some_iff.1 hh).1).2];exact hh) hi hi2
 | _,_,.own i hi h1=>by rw [←h.m i hi];exact .own (p i) (h.n i hi) (by rw [h.m i hi];exact h1)
 | _,_,.cell cs vs a hl hi hs=>.cell cs vs a (cO.dX h.t hl hi) hi (hs.mono' h.t)
 | _,_,.ptr i off g hi hg=>.ptr (p i) off g (h.n i hi) (by rw [h.m i hi];exact hg)
 | _,_,.elt i sz idx off g hi hg=>.elt (p i) sz idx off g (h.n i hi) (by rw [h.m i hi];exact hg)
 | _,_,.pre i n l cap a hi hv hn=>.pre (p i) n l cap a (h.n i hi) (by rw [h.m i hi];exact hv) hn
 | _,_,.suf i sz o n l cap a hi hv hn=>.suf (p i) sz o n l cap a (h.n i hi) (by rw [h.m i hi];exact hv) hn
 | _,_,.agg cs vs hl=>.agg _ vs (cO.shift h hl)
 | _,_,.tup cs vs hl=>.tup _ vs (dH.shift h hl)
 | _,_,.fn f cs vs hl=>.fn f _ vs (dH.shift h hl)
 | _,_,.raw v=>.raw v
 | _,_,.opt b x v hb hx h2=>.opt b _ v (jU h.n x hb) (fun e=>Rv.shift h (hx e)) h2
 | _,_,.ifc t x v hx=>.ifc t _ v (Rv.shift h hx)
 | _,_,.bm t x v hx=>.bm t _ v (Rv.shift h hx)
theorem cO.shift {p:Nat→Nat} {c c':Ctx} (h:yj p c c'):∀ {x:List AV} {v:List Value},cO c x v→cO c' (bZ p x) v
 | _,_,.nil=>.nil
 | _,_,.cons x v l vs hx h1 ht=>.cons _ v _ vs (Rv.shift h hx) h1 (cO.shift h ht)
theorem dH.shift {p:Nat→Nat} {c c':Ctx} (h:yj p c c'):∀ {x:List AV} {v:List Value},dH c x v→dH c' (bZ p x) v
 | _,_,.nil=>.nil
 | _,_,.cons x v l vs hx ht=>.cons _ v _ vs (Rv.shift h hx) (dH.shift h ht)
end
theorem bJ.shift {p:Nat→Nat} {c c':Ctx} (h:yj p c c'):∀ {sz:Nat} {x:List (List AV)} {v:List Value},bJ c sz x v→bJ c' sz (x.map (bZ p)) v
 | _,_,_,.nil sz=>.nil sz
 | _,_,_,.cons sz o vs l cells ho hl ht=>.cons sz _ vs _ cells (cO.shift h ho) hl (bJ.shift h ht)
theorem bP.shift {p:Nat→Nat} {c c':Ctx} (h:yj p c c') {r:aF} {v:List Value} (hr:bP c r v):bP c' (uO p r) v:=by
 cases hr with
 | objs sz l _ hz ho=>exact .objs sz _ v hz (bJ.shift h ho)
 | bools l=>exact .bools l
 | ints k l hk=>exact .ints k l hk
 | strs l hk=>exact .strs l hk
theorem Ry (p:Nat→Nat) (r:aF):(uO p r).len=r.len:=by cases r<;>simp [uO,aF.len]
theorem Ux (p:Nat→Nat) (r:aF):(uO p r).sz=r.sz:=by cases r<;>rfl
theorem bD.shift {p:Nat→Nat} {c c':Ctx} (h:yj p c c') (hw:c'.w=c.w) {O O':Nat→Prop} (hB:∀ b,O b→O' b) {v:Value} {it:Item} (hi:bD c O v it):bD c' O' v (it.ren p):=by
 cases it with
 | row e r=>
  obtain ⟨n,cells,hr,hn,ho,hO⟩:=hi
  exact ⟨n,cells,bP.shift h hr,by rw [Ry];exact hn,by rw [hw,Ux];exact ho,fun b hb=>hB b (hO b hb)⟩
 | box e cs=>
  obtain ⟨g,vs,rfl,hg,hl,he⟩:=hi
  exact ⟨g,vs,rfl,hB g hg,cO.shift h hl,by rw [hw];exact he⟩
 | map ks vs=>
  obtain ⟨g,es,clock,rfl,hg,h1,h2,h3,h4,he⟩:=hi
  exact ⟨g,es,clock,rfl,hB g hg,dH.shift h h1,dH.shift h h2,h3,h4,by rw [hw];exact he⟩
 | iter mp since seen=>
  obtain ⟨g,q,sn,last,rfl,hg,h1,h2,h3,h4,he⟩:=hi
  exact ⟨g,q,sn,last,rfl,hB g hg,h.n mp h1,by rw [h.m mp h1];exact h2,h3,h4,by rw [hw];exact he⟩
 | siter t pos=>
  obtain ⟨g,rfl,hg,he⟩:=hi
  exact ⟨g,rfl,hB g hg,by rw [hw];exact he⟩
def dW (P:Program) (f:Nat) (args:List AV) (out:AV) (rows:List (Nat × Item)):Prop:=
 Enter P f∧∀ (w:World) (T:Nat→Prop) (vals:List Value),kX P w→dH ⟨w,T,fun _=>undef,0⟩ args vals →
  Calls P f vals.toArray w fun e w'=>∃ v,e=.returned v∧oZ w.heap.size w w'∧qE (fun _=>False) w.heap.size w' out rows v
mutual
def iL:AV→Bool
 | .ro _=>false
 | .cell _=>false
 | .fn _ _=>false
 | .agg cs=>fK cs
 | .tup cs=>fK cs
 | .own _=>true
 | .ptr _ _=>true
 | .elt _ _ _ _=>true
 | .pre _ _=>true
 | .suf _ _ _ _=>true
 | .dead=>true
 | .nilS=>true
 | .bool _=>true
 | .int _ _=>true
 | .str _=>true
 | .raw _=>true
 | .opt _ v=>iL v
 | .ifc _ v=>iL v
 | .bm _ v=>iL v
 | .mp _ _=>false
def fK:List AV→Bool
 | []=>true
 | x::l=>iL x && fK l
end
def gq:aF→Bool
 | .objs _ l=>l.all fK
 | .bools _=>true
 | .ints _ _=>true
 | .strs _=>true
def dQ:Item→Bool
 | .row _ r=>gq r
 | .box _ cs=>fK cs
 | .map ks vs=>fK ks && fK vs
 | .iter _ _ _=>true
 | .siter _ _=>true
def dR:List (Nat × Item)→Bool
 | []=>true
 |(_,it)::l=>dQ it && dR l
mutual
theorem Rv.jT {w:World} {T T':Nat→Prop} {m:Nat→Value} {N:Nat}:∀ {x:AV} {v:Value},Rv ⟨w,T,m,N⟩ x v→iL x=true→Rv ⟨w,T',m,N⟩ x v
 | _,_,.dead v,_=>.dead v
 | _,_,.nilS,_=>.nilS
 | _,_,.bool b,_=>.bool b
 | _,_,.int k n hk,_=>.int k n hk
 | _,_,.str s hs,_=>.str s hs
 | _,_,.roNil r hr _,e=>by simp [iL] at e
 | _,_,.ro r a len cap cells hr hl hc hm hs _,e=>by simp [iL] at e
 | _,_,.mp _ _ _ _ _ _ _ _ _ _ _ _ _,e=>by simp [iL] at e
 | _,_,.own i hi h1,_=>.own (c:=⟨w,T',m,N⟩) i hi h1
 | _,_,.cell cs vs a hl hi hs,e=>by simp [iL] at e
 | _,_,.ptr i off g hi hg,_=>.ptr i off g hi hg
 | _,_,.elt i sz idx off g hi hg,_=>.elt i sz idx off g hi hg
 | _,_,.pre i n l cap a hi hv hn,_=>.pre i n l cap a hi hv hn
 | _,_,.suf i sz o n l cap a hi hv hn,_=>.suf i sz o n l cap a hi hv hn
 | _,_,.agg cs vs hl,e=>.agg _ vs (cO.jT hl (by simpa [iL] using e))
 | _,_,.tup cs vs hl,e=>.tup _ vs (dH.jT hl (by simpa [iL] using e))
 | _,_,.fn f cs vs hl,e=>by simp [iL] at e
 | _,_,.raw v,_=>.raw v
 | _,_,.opt b x v hb hx h2,e=>.opt b x v hb (fun e'=>Rv.jT (hx e') (by simpa [iL] using e)) h2
 | _,_,.ifc t x v hx,e=>.ifc t x v (Rv.jT hx (by simpa [iL] using e))
 | _,_,.bm t x v hx,e=>.bm t x v (Rv.jT hx (by simpa [iL] using e))
theorem cO.jT {w:World} {T T':Nat→Prop} {m:Nat→Value} {N:Nat}:∀ {x:List AV} {v:List Value},cO ⟨w,T,m,N⟩ x v→fK x=true→cO ⟨w,T',m,N⟩ x v
 | _,_,.nil,_=>.nil
 | _,_,.cons x v l vs hx h1 ht,e=>by
  simp only [fK,Bool.and_eq_true] at e
  exact .cons _ v _ vs (Rv.jT hx e.1) h1 (cO.jT ht e.2)
theorem dH.jT {w:World} {T T':Nat→Prop} {m:Nat→Value} {N:Nat}:∀ {x:List AV} {v:List Value},dH ⟨w,T,m,N⟩ x v→fK x=true→dH ⟨w,T',m,N⟩ x v
 | _,_,.nil,_=>.nil
 | _,_,.cons x v l vs hx ht,e=>by
  simp only [fK,Bool.and_eq_true] at e
  exact .cons _ v _ vs (Rv.jT hx e.1) (dH.jT ht e.2)
end
theorem wB:∀ {l:List (Nat × Item)} {i:Nat} {it:Item},dR l=true→lk l i=some it→dQ it=true
 |(j,jt)::l,i,it,h,hi=>by
  simp only [dR,Bool.and_eq_true] at h
  simp only [lk] at hi
  split at hi
  ·cases hi;exact h.1
  ·exact wB h.2 hi
theorem bJ.jT {w:World} {T T':Nat→Prop} {m:Nat→Value} {N:Nat}:∀ {sz:Nat} {l:List (List AV)} {cells:List Value},bJ ⟨w,T,m,N⟩ sz l cells→l.all fK=true→bJ ⟨w,T',m,N⟩ sz l cells
 | _,_,_,.nil _,_=>.nil _
 | _,_,_,.cons sz o vs l cells ho hl ht,hr=>by
  simp only [List.all_cons,Bool.and_eq_true] at hr
  exact .cons sz o vs l cells (ho.jT hr.1) hl (bJ.jT ht hr.2)
theorem bP.jT {w:World} {T T':Nat→Prop} {m:Nat→Value} {N:Nat} {r:aF} {cells:List Value} (h:bP ⟨w,T,m,N⟩ r cells) (hr:gq r=true):bP ⟨w,T',m,N⟩ r cells:=by
 cases h with
 | bools l=>exact .bools l
 | ints k l hk=>exact .ints k l hk
 | strs l hs=>exact .strs l hs
 | objs sz l cells hz ho=>
  exact .objs sz l cells hz (ho.jT (by simpa only [gq] using hr))
section
variable {P:Program} {w0:World} {T0:Bs} {b0:Nat}
theorem dW.dP {f:Nat} {args:List AV} {out:AV} {rows:List (Nat × Item)} (h:aU P f args out rows) (h1:iL out=true) (h2:dR rows=true):dW P f args out rows:=by
 refine ⟨h.1,fun w T vals hgl hv=>(h.2 w T vals hgl hv).mono ?_⟩
 rintro e w' ⟨v,rfl,hb,m,N,hr,hrows,hsep⟩
 refine ⟨v,rfl,hb,m,N,hr.jT h1,fun i it hi=>⟨(hrows i it hi).1,?_⟩,hsep⟩
 have hn:=wB h2 hi
 have ho:=(hrows i it hi).2
 cases it with
 | row e r=>obtain ⟨n,cells,hc,hq⟩:=ho;exact ⟨n,cells,hc.jT hn,hq⟩
 | box e cs=>obtain ⟨g,vs,hv',hg,hl,hq⟩:=ho;exact ⟨g,vs,hv',hg,hl.jT hn,hq⟩
 | map ks vs=>
  simp only [dQ,Bool.and_eq_true] at hn
  obtain ⟨g,es,clock,hv',hg,h1,h2,h3,h4,hq⟩:=ho;exact ⟨g,es,clock,hv',hg,h1.jT hn.1,h2.jT hn.2,h3,h4,hq⟩
 | iter mp since seen=>exact ho
 | siter t pos=>exact ho
theorem dW.ok {f:Nat} {args:List AV} {out:AV} {rows:List (Nat × Item)} (h:dW P f args out rows):aU P f args out rows:=by
 refine ⟨h.1,fun w T vals hgl hv=>(h.2 w T vals hgl hv).mono ?_⟩
 rintro e w' ⟨v,rfl,hb,m,N,hr,hrows,hsep⟩
 have hle:dK (⟨w',allow (bs fun _=>False) w.heap.size m rows,m,N⟩:Ctx) ⟨w',allow (bs T) w.heap.size m rows,m,N⟩:=
  ⟨Nat.le_refl _,fun _ _=>rfl,fun b hb _=>⟨⟨.inl (hb.1.resolve_right fun x=>x),hb.2⟩,rfl⟩⟩
 exact ⟨v,rfl,hb,m,N,hr.mono hle,fun i it hi=>⟨(hrows i it hi).1,((hrows i it hi).2).mono hle fun _ _=>rfl⟩,hsep⟩
/-! ### Arguments -/
def nilRow:aF→Prop
 | .bools l=>l=[]
 | .ints _ l=>l=[]
 | .strs l=>l=[]
 | .objs sz l=>0<sz∧l=[]
def bf (R:AV→AV→Prop):List AV→List AV→Prop
 | [],l=>l=[]
 | x::l,l'=>∃ y r,R x y∧bf R l r∧l'=y::r
def zY (R:AV→AV→Prop):List (List AV)→List (List AV)→Prop
 | [],l=>l=[]
 | x::l,l'=>∃ y r,bf R x y∧zY R l r∧l'=y::r
def aH (rows:List (Nat × Item)):Nat→AV→AV→Prop
 | n+1,.own i,y=>match lk rows i with
  | some (.row _ r)=>if eG r=true then y=.ro r else match r with
   | .objs sz l=>∃ l',zY (aH rows n) l l'∧y=.ro (.objs sz l')
   | _=>False
  | some (.map ks vs)=>∃ ks' vs',bf (aH rows n) ks ks'∧bf (aH rows n) vs vs'∧y=.mp ks' vs'
  | _=>False
 | n+1,.pre i k,y=>match lk rows i with
  | some (.row _ r)=>eG r=true∧k≤r.len∧y=.ro (dJ r 0 k)
  | _=>False
 | n+1,.nilS,y=>y=.nilS∨∃ r,nilRow r∧y=.ro r
 | n+1,.agg cs,y=>∃ cs',bf (aH rows n) cs cs'∧y=.agg cs'
 | n+1,.fn f cs,y=>∃ cs',bf (aH rows n) cs cs'∧y=.fn f cs'
 | n+1,.ptr i off,y=>∃ e cs cs',lk rows i=some (.box e cs)∧bf (aH rows n) (cs.drop off) cs'∧y=.cell cs'
 | n+1,.ro r,y=>y=.ro r
 | n+1,.bool b,y=>y=.bool b
 | n+1,.int k m,y=>y=.int k m
 | n+1,.str s,y=>y=.str s
 | n+1,.cell cs,y=>y=.cell cs
 | n+1,.raw v,y=>y=.raw v
 | n+1,.mp ks vs,y=>y=.mp ks vs
 | n+1,.dead,y=>y=.dead
 | _,_,_=>False
def dI (rows:List (Nat × Item)) (x y:AV):Prop:=aH rows 6 x y
def aV (rows:List (Nat × Item)) (x y:List AV):Prop:=bf (aH rows 6) x y
structure CJ (w:World) (c:Ctx) (rows:List (Nat × Item)) (T:Nat→Prop):Prop where
 hw:c.w=w
 t:∀ b,c.T b→T b
 own:∀ i e r,lk rows i=some (.row e r)→(∀ b,blk (c.m i)=some b→T b)∧∃ n cells,bP c r cells∧r.len=n∧rD w e r.sz (c.m i) n cells
 map:∀ i ks vs,lk rows i=some (.map ks vs)→∃ g es clock,c.m i=.map (some g)∧T g∧dH c ks (es.toList.map MapEntry.key)∧dH c vs (es.toList.map MapEntry.val)∧(∀ (i:Nat) (e:MapEntry),es[i]?=some e→e.born=i)∧EN es clock∧w.heap[g]?=some (.map es clock)
 box:∀ i e cs,lk rows i=some (.box e cs)→∃ g vs,c.m i=.pointer (some ⟨g,0,none⟩)∧T g∧cO c cs vs∧w.heap[g]?=some (.cells vs.toArray e (0,0))
theorem CJ.ht {w:World} {c:Ctx} {rows:List (Nat × Item)} {T:Nat→Prop} (h:CJ w c rows T):∀ b,c.T b→b<c.w.heap.size→(⟨w,T,fun _=>undef,0⟩:Ctx).T b∧(⟨w,T,fun _=>undef,0⟩:Ctx).w.heap[b]?=c.w.heap[b]?:=
 fun b hb _=>⟨h.t b hb,by rw [h.hw]⟩
theorem OO {c:Ctx} {r:aF} (h:nilRow r):bP c r []:=by
 cases r with
 | bools l=>cases h;exact .bools []
 | ints k l=>cases h;exact .ints k [] fun x hx=>by cases hx
 | strs l=>cases h;exact .strs [] fun x hx=>by cases hx
 | objs sz l=>obtain ⟨hz,rfl⟩:=h;exact .objs sz [] [] hz (.nil sz)
theorem Ro {w:World} {c:Ctx} {rows:List (Nat × Item)} {T:Nat→Prop} (h:CJ w c rows T) {i:Nat} {e:TypeId} {r:aF} {v:Value} (hl:lk rows i=some (.row e r)) (hid:eG r=true) (hr:Rv c (.own i) v):Rv ⟨w,T,fun _=>undef,0⟩ (.ro r) v:=by
 have ht:∀ b,c.T b→b<c.w.heap.size→(⟨w,T,fun _=>undef,0⟩:Ctx).T b∧(⟨w,T,fun _=>undef,0⟩:Ctx).w.heap[b]?=c.w.heap[b]?:=fun b hb _=>⟨h.t b hb,by rw [h.hw]⟩
 obtain ⟨h1,n,cells,hc,hn,ho⟩:=h.own i e r hl
 cases hr with
 | own _ hi _=>
  rcases ho.2 with ⟨hv,hz⟩|⟨g,cap,cur,fz,hv,hg,hh,hnc,hcm,hcs,htake⟩
  ·rw [hv]
   have hcl:cells=[]:=List.eq_nil_of_length_eq_zero (by rw [ho.1,hz];simp)
   subst hcl
   exact .roNil r (bP.dX ht hc hid) hid
  ·have hb:=h1 g (by rw [hv];rfl)
   have hcells:=fV ho (g:=g) (by rw [hv];rfl)
   rw [hv]
   exact .ro r ⟨g,0,none⟩ n cap cells (bP.dX ht hc hid) hn hnc hcm ⟨trivial,fun _=>hb,hcells⟩ hid
theorem Rt {w:World} {c:Ctx} {rows:List (Nat × Item)} {T:Nat→Prop} (h:CJ w c rows T) {i k:Nat} {e:TypeId} {r:aF} {v:Value} (hl:lk rows i=some (.row e r)) (hid:eG r=true) (hk:k≤r.len) (hr:Rv c (.pre i k) v):Rv ⟨w,T,fun _=>undef,0⟩ (.ro (dJ r 0 k)) v:=by
 have ht:∀ b,c.T b→b<c.w.heap.size→(⟨w,T,fun _=>undef,0⟩:Ctx).T b∧(⟨w,T,fun _=>undef,0⟩:Ctx).w.heap[b]?=c.w.heap[b]?:=fun b hb _=>⟨h.t b hb,by rw [h.hw]⟩
 obtain ⟨h1,n,cells,hc,hn,ho⟩:=h.own i e r hl
 have hsub:=bP.sub 0 k (bP.dX ht hc hid)
 cases hr with
 | pre _ _ l cap a hi hv hkl=>
  rcases ho.2 with ⟨hv',hz⟩|⟨g,cap',cur,fz,hv',hg,hh,hnc,hcm,hcs,htake⟩
  ·rw [hv] at hv'
   cases hv'
   have hcl:cells=[]:=List.eq_nil_of_length_eq_zero (by rw [ho.1,hz];simp)
   subst hcl
   obtain rfl:k=0:=by omega
   simp only [List.drop_nil,List.take_nil] at hsub
   exact .roNil _ hsub (iW 0 0 hid)
  ·have hb:=h1 g (by rw [hv'];rfl)
   have hcells:=fV ho (g:=g) (by rw [hv'];rfl)
   rw [hv] at hv'
   cases hv'
   refine .ro _ ⟨g,0,none⟩ k cap _ hsub (by rw [ig r 0 k hk];omega) (by omega) hcm ⟨trivial,fun _=>hb,fun j u hu=>hcells j u ?_⟩ (iW 0 k hid)
   simp only [Nat.zero_mul,List.drop_zero,Nat.sub_zero] at hu
   rw [List.getElem?_take] at hu
   split at hu
   ·exact hu
   ·cases hu
mutual
theorem zZ:∀ x:AV,Fv.below 0 x=true→bW x=true
 | .own i,h=>by simp [Fv.below] at h
 | .ptr i o,h=>by simp [Fv.below] at h
 | .elt i a b c,h=>by simp [Fv.below] at h
 | .pre i k,h=>by simp [Fv.below] at h
 | .suf i a b k,h=>by simp [Fv.below] at h
 | .agg cs,h=>by simp only [bW,Fv.below] at *;exact kZ cs h
 | .tup cs,h=>by simp only [bW,Fv.below] at *;exact kZ cs h
 | .fn f cs,h=>by simp only [bW,Fv.below] at *;exact kZ cs h
 | .cell cs,_=>rfl
 | .dead,_=>rfl
 | .nilS,_=>rfl
 | .bool _,_=>rfl
 | .int _ _,_=>rfl
 | .str _,_=>rfl
 | .ro _,_=>rfl
 | .raw _,_=>rfl
 | .mp _ _,_=>rfl
 | .opt _ v,h=>by simp only [bW,Fv.below] at *;exact zZ v h
 | .ifc _ v,h=>by simp only [bW,Fv.below] at *;exact zZ v h
 | .bm _ v,h=>by simp only [bW,Fv.below] at *;exact zZ v h
theorem kZ:∀ x:List AV,aQ 0 x=true→bT x=true
 | [],_=>rfl
 | x::l,h=>by
  simp only [aQ,Bool.and_eq_true] at h
  simp [bT,zZ x h.1,kZ l h.2]
end
theorem Rv.IU {c:Ctx} (h0:c.N=0) {x:AV} {v:Value} (h:Rv c x v):bW x=true:=zZ x (by rw [←h0];exact h.ids)
theorem cO.IU {c:Ctx} (h0:c.N=0) {x:List AV} {v:List Value} (h:cO c x v):bT x=true:=kZ x (by rw [←h0];exact h.ids)
theorem bP.IU {c:Ctx} (h0:c.N=0) {r:aF} {v:List Value} (h:bP c r v):eG r=true:=by
 have:=h.ids
 rw [h0] at this
 cases r with
 | objs sz l=>
  simp only [eG,jh,List.all_eq_true] at *
  exact fun x hx=>kZ x (this x hx)
 | _=>rfl
theorem xu {w:World} {c:Ctx} {rows:List (Nat × Item)} {T:Nat→Prop} (h:CJ w c rows T):∀ (n:Nat) (x:AV) {y:AV} {v:Value},aH rows n x y→Rv c x v→Rv ⟨w,T,fun _=>undef,0⟩ y v:=by
 intro n
 induction n with
 | zero=>intro x y v ha _;simp [aH] at ha
 | succ n ih=>
  have lst:∀ {l l':List AV} {vs:List Value},bf (aH rows n) l l'→cO c l vs→cO ⟨w,T,fun _=>undef,0⟩ l' vs:=by
   intro l
   induction l with
   | nil=>intro l' vs ha hr;simp only [bf] at ha;subst ha;cases hr;exact .nil
   | cons x l ihl=>
    intro l' vs ha hr
    simp only [bf] at ha
    obtain ⟨y,r,h1,h2,rfl⟩:=ha
    cases hr with
    | cons _ v _ vs hv h1' ht=>exact .cons _ _ _ _ (ih x h1 hv) h1' (ihl h2 ht)
  have lstT:∀ {l l':List AV} {vs:List Value},bf (aH rows n) l l'→dH c l vs→dH ⟨w,T,fun _=>undef,0⟩ l' vs:=by
   intro l
   induction l with
   | nil=>intro l' vs ha hr;simp only [bf] at ha;subst ha;cases hr;exact .nil
   | cons x l ihl=>
    intro l' vs ha hr
    simp only [bf] at ha
    obtain ⟨y,r,h1,h2,rfl⟩:=ha
    cases hr with
    | cons _ v _ vs hv ht=>exact .cons _ _ _ _ (ih x h1 hv) (ihl h2 ht)
  intro x y v ha hr
  cases x with
  | agg cs=>
   simp only [aH] at ha
   obtain ⟨cs',hl,rfl⟩:=ha
   cases hr with
   | agg _ vs hv=>exact .agg _ _ (lst hl hv)
  | fn f cs=>
   simp only [aH] at ha
   obtain ⟨cs',hl,rfl⟩:=ha
   cases hr with
   | fn _ _ vs hv=>exact .fn f _ _ (lstT hl hv)
  | own i=>
   simp only [aH] at ha
   split at ha
   ·rename_i e r hl
    split at ha
    ·rename_i hid;subst ha;exact Ro h hl hid hr
    ·cases r with
     | objs sz l=>
      obtain ⟨l',hl2,rfl⟩:=ha
      have lstO:∀ {l l':List (List AV)} {cells:List Value},zY (aH rows n) l l'→bJ c sz l cells→bJ ⟨w,T,fun _=>undef,0⟩ sz l' cells∧l'.length=l.length:=by
       intro l
       induction l with
       | nil=>intro l' cells ha hr;simp only [zY] at ha;subst ha;cases hr;exact ⟨.nil _,rfl⟩
       | cons x l ihl=>
        intro l' cells ha hr
        simp only [zY] at ha
        obtain ⟨y,r,h1,h2,rfl⟩:=ha
        cases hr with
        | cons _ _ vs _ cells ho hl ht=>exact ⟨.cons _ _ vs _ cells (lst h1 ho) hl (ihl h2 ht).1,by simp [(ihl h2 ht).2]⟩
      obtain ⟨h1,k,cells,hc,hn,ho⟩:=h.own i _ _ hl
      cases hc with
      | objs _ _ _ hz hob=>
       obtain ⟨q1,q2⟩:=lstO hl2 hob
       have q3:bP ⟨w,T,fun _=>undef,0⟩ (.objs sz l') cells:=.objs sz l' cells hz q1
       have q4:eG (.objs sz l')=true:=by
        simp only [eG]
        have:=q1.ids
        simp only [List.all_eq_true] at *
        exact fun x hx=>kZ x (this x hx)
       have q5:(aF.objs sz l').len=k:=by rw [←hn];simpa [aF.len] using q2
       cases hr with
       | own _ hi _=>
        rcases ho.2 with ⟨hv,hz⟩|⟨g,cap,cur,fz,hv,hg,hh,hnc,hcm,hcs,htake⟩
        ·rw [hv]
         have hcl:cells=[]:=List.eq_nil_of_length_eq_zero (by rw [ho.1,hz];simp)
         subst hcl
         exact .roNil _ q3 q4
        ·have hb:=h1 g (by rw [hv];rfl)
         have hcells:=fV ho (g:=g) (by rw [hv];rfl)
         rw [hv]
         exact .ro _ ⟨g,0,none⟩ k cap cells q3 q5 hnc hcm ⟨trivial,fun _=>hb,hcells⟩ q4
     | _=>exact ha.elim
   ·rename_i ks vs hl
    obtain ⟨ks',vs',h1,h2,rfl⟩:=ha
    obtain ⟨g,es,clock,hv,hT,k1,k2,k3,k4,hh⟩:=h.map i _ _ hl
    cases hr with
    | own _ hi _=>
     rw [hv]
     have q1:=lstT h1 k1
     have q2:=lstT h2 k2
     exact .mp ks' vs' g es clock q1 q2 k3 k4 hT hh (kZ _ q1.ids) (kZ _ q2.ids)
   ·exact ha.elim
  | pre i k=>
   simp only [aH] at ha
   split at ha
   ·rename_i e r hl
    obtain ⟨h1,h2,rfl⟩:=ha
    exact Rt h hl h1 h2 hr
   ·exact ha.elim
  | nilS=>
   simp only [aH] at ha
   cases hr
   rcases ha with rfl|⟨r,hr,rfl⟩
   ·exact .nilS
   ·exact .roNil r (OO hr) (by cases r<;>first|rfl|(obtain ⟨_,rfl⟩:=hr;rfl))
  | ptr i off=>
   simp only [aH] at ha
   obtain ⟨e,cs,cs',hl,hcs,rfl⟩:=ha
   obtain ⟨g,vs,hv,hT,hvs,hh⟩:=h.box i e cs hl
   cases hr with
   | ptr _ _ g' _ hg=>
    have hmi:blk (c.m i)=some g':=hg
    rw [hv] at hmi;cases hmi
    have k1:=lst hcs (hvs.drop off)
    refine .cell cs' (vs.drop off) ⟨g,off,none⟩ k1 (cO.IU rfl k1) ⟨trivial,fun _=>hT,fun j u hu=>?_⟩
    rw [Addr.add_lit]
    rw [List.getElem?_drop] at hu
    have:=cell_of_row w g (off+j) vs.toArray e (0,0) hh
    show w.cell? _=_
    rw [this];simpa using hu
  | ro r=>simp only [aH] at ha;subst ha;exact hr.dX h.ht rfl
  | bool b=>simp only [aH] at ha;subst ha;exact hr.dX h.ht rfl
  | int k n=>simp only [aH] at ha;subst ha;exact hr.dX h.ht rfl
  | str s=>simp only [aH] at ha;subst ha;exact hr.dX h.ht rfl
  | raw v=>simp only [aH] at ha;subst ha;exact hr.dX h.ht rfl
  | mp ks vs=>simp only [aH] at ha;subst ha;exact hr.dX h.ht rfl
  | dead=>simp only [aH] at ha;subst ha;exact .dead v
  | cell cs=>
   simp only [aH] at ha;subst ha
   cases hr with
   | cell _ vs a hl hi hs=>exact .cell cs vs a (hl.dX h.ht hi) hi (hs.mono' h.ht)
  | _=>simp [aH] at ha
theorem oh {w:World} {c:Ctx} {rows:List (Nat × Item)} {T:Nat→Prop} (h:CJ w c rows T):∀ (l:List AV) {l':List AV} {vs:List Value},aV rows l l'→dH c l vs→dH ⟨w,T,fun _=>undef,0⟩ l' vs
 | [],_,_,ha,hr=>by
  simp only [aV,bf] at ha;subst ha
  cases hr;exact .nil
 | x::l,_,_,ha,hr=>by
  simp only [aV,bf] at ha
  obtain ⟨y,r,h1,h2,rfl⟩:=ha
  cases hr with
  | cons _ v _ vs hv ht=>exact .cons _ _ _ _ (xu h 6 x h1 hv) (oh h l h2 ht)
/-! ### The state behind a call -/
def uT (k:Nat):List (Nat × Item)→List (Nat × Item)
 | []=>[]
 |(i,it)::l=>(k+i,it.ren (fun j=>k+j))::uT k l
theorem D5 (k:Nat):∀ (l:List (Nat × Item)) (i:Nat) (it:Item),lk (uT k l) i=some it→∃ j jt,i=k+j∧lk l j=some jt∧it=jt.ren (fun j=>k+j)
 |(j,jt)::l,i,it,h=>by
  simp only [uT,lk] at h
  split at h
  ·rename_i e;cases h;exact ⟨j,jt,e.symm,by simp [lk],rfl⟩
  ·rename_i e
   obtain ⟨q,qt,h1,h2,h3⟩:=D5 k l i it h
   refine ⟨q,qt,h1,?_,h3⟩
   simp only [lk];rw [if_neg (by intro e';exact e (by omega))];exact h2
theorem lN {α:Type}:∀ (l l':List (Nat × α)) (i:Nat),lk (l++l') i=match lk l i with|some v=>some v|none=>lk l' i
 | [],_,_=>rfl
 |(j,v)::l,l',i=>by
  simp only [List.cons_append,lk]
  split
  ·rfl
  ·exact lN l l' i
def S.after (s:S) (rows':List (Nat × Item)) (N:Nat) (rows:List (Nat × Item)):S:={ s with rows:=uT s.next rows++rows',next:=s.next+N }
theorem bC.after {H:List (AV × Value)} {s:S} {a:Act} {w:World} {m:Nat→Value} (hm:bC w0 T0 H s a w m) {w':World} (hb:oZ w.heap.size w w') {rows':List (Nat × Item)}
  (hsub:∀ i it,lk rows' i=some it→lk s.rows i=some it) {T:Nat→Prop} (hT:∀ b,T b→allow T0 w0.heap.size m rows' b) {out:AV} {rows:List (Nat × Item)} {v:Value} (ho:qE T w.heap.size w' out rows v)
  {N:Nat} (hN:Fv.below N out=true) (hNr:∀ i it,lk rows i=some it→i<N∧it.below N=true) :
  Rep w0 T0 ((ren (fun j=>s.next+j) out,v)::H) (s.after rows' N rows) a w':=by
 obtain ⟨mo,No,hr,hrows,hsep⟩:=ho
 have hitem:∀ i it,lk rows i=some it→bD ⟨w',allow (bs T) w.heap.size mo rows,mo,N⟩ (w.heap.size≤·) (mo i) it:=fun i it hi=>((hrows i it hi).2).cut (hNr i it hi).2
 let m2:Nat→Value:=fun i=>if i<s.next then m i else mo (i - s.next)
 have hm2:∀ i,i<s.next→m2 i=m i:=fun i hi=>if_pos hi
 have hm3:∀ j,m2 (s.next+j)=mo j:=fun j=>by show (if s.next+j<s.next then _ else _)=_;rw [if_neg (by omega),Nat.add_sub_cancel_left]
 have hold:∀ i it,lk rows' i=some it→i<s.next:=fun i it hi=>(hm.rows i it (hsub i it hi)).1
 have hnewB:∀ j jt,lk rows j=some jt→∀ b,blk (mo j)=some b→w.heap.size≤b:=fun j jt hj b hbl=>((hrows j jt hj).2.blk b hbl).1
 have holdB:∀ i it,lk s.rows i=some it→∀ b,blk (m i)=some b→b<w.heap.size:=fun i it hi b hbl=>((hm.rows i it hi).2.blk b hbl).2
 have hcases:∀ i it,lk (uT s.next rows++rows') i=some it→(∃ j jt,i=s.next+j∧lk rows j=some jt∧it=jt.ren (fun j=>s.next+j))∨(i<s.next∧lk rows' i=some it):=by
  intro i it hi
  rw [lN] at hi
  cases hq:lk (uT s.next rows) i with
  | some y=>rw [hq] at hi;cases hi;exact .inl (D5 _ _ _ _ hq)
  | none=>rw [hq] at hi;exact .inr ⟨hold i it hi,hi⟩
 have hle:dK (aA T0 w0.heap.size m s w) (aA T0 w0.heap.size m2 (s.after rows' N rows) w'):=by
  refine ⟨Nat.le_add_right _ _,hm2,?_⟩
  intro b ⟨h1,h2⟩ hlt
  refine ⟨⟨h1,fun i it hi e=>?_⟩,hb.block b hlt⟩
  rcases hcases i it hi with ⟨j,jt,rfl,hj,_⟩|⟨hlt',hi'⟩
  ·rw [hm3] at e;have h4:=hnewB j jt hj b e;have hlt2:b<w.heap.size:=hlt;omega
  ·rw [hm2 i hlt'] at e;exact h2 i it (hsub i it hi') e
 have hsh:yj (fun j=>s.next+j) (⟨w',allow (bs T) w.heap.size mo rows,mo,N⟩:Ctx) (aA T0 w0.heap.size m2 (s.after rows' N rows) w'):=by
  refine ⟨fun i hi=>Nat.add_lt_add_left hi _,fun i _=>hm3 i,?_⟩
  intro b ⟨h1,h2⟩ _
  have hlt0:=hm.lt
  refine ⟨⟨?_,fun i it hi e=>?_⟩,rfl⟩
  ·rcases h1 with h1|h1
   ·exact .inl (by omega)
   ·exact (hT b h1).1
  ·rcases hcases i it hi with ⟨j,jt,rfl,hj,_⟩|⟨hlt',hi'⟩
   ·rw [hm3] at e;exact h2 j jt hj e
   ·rw [hm2 i hlt'] at e
    rcases h1 with h1|h1
    ·have:=holdB i it (hsub i it hi') b e;omega
    ·exact (hT b h1).2 i it hi' e
 refine ⟨m2,bC.hold (s:=s.after rows' N rows) ?_ ((hr.cut hN).shift hsh)⟩
 refine { size:=hm.size,nodef:=hm.nodef,below:=hm.below.step hb.os hb.tape hb.output hb.size (fun k hk _=>hb.block k (Nat.lt_of_lt_of_le hk hm.lt)) hb.drawn,env:=fun r u hu=>(hm.env r u hu).mono hle,held:=fun q hq=>(hm.held q hq).mono hle,rows:=?_,sep:=?_ }
 ·intro i it hi
  rcases hcases i it hi with ⟨j,jt,rfl,hj,rfl⟩|⟨hlt',hi'⟩
  ·refine ⟨Nat.add_lt_add_left (hNr j jt hj).1 _,?_⟩
   rw [hm3]
   exact (hitem j jt hj).shift hsh rfl fun b hb=>.inl (Nat.le_trans hm.lt hb)
  ·refine ⟨by have:i<s.next:=hlt';show i<s.next+N;omega,?_⟩
   rw [hm2 i hlt']
   exact ((hm.rows i it (hsub i it hi')).2).mono hle fun b hbl=>hb.block b (holdB i it (hsub i it hi') b hbl)
 ·intro i j it jt b hi hj hbi hbj
  rcases hcases i it hi with ⟨i',it',rfl,hi',_⟩|⟨hlt',hi'⟩<;>rcases hcases j jt hj with ⟨j',jt',rfl,hj',_⟩|⟨hlt'',hj'⟩
  ·rw [hm3] at hbi hbj
   rw [hsep i' j' it' jt' b hi' hj' hbi hbj]
  ·rw [hm3] at hbi;rw [hm2 j hlt''] at hbj
   have h4:=hnewB i' it' hi' b hbi
   have h5:=holdB j jt (hsub j jt hj') b hbj
   omega
  ·rw [hm3] at hbj;rw [hm2 i hlt'] at hbi
   have h4:=hnewB j' jt' hj' b hbj
   have h5:=holdB i it (hsub i it hi') b hbi
   omega
  ·rw [hm2 i hlt'] at hbi;rw [hm2 j hlt''] at hbj
   exact hm.sep i j it jt b (hsub i it hi') (hsub j jt hj') hbi hbj
def bn (N:Nat):List (Nat × Item)→Prop
 | []=>True
 |(i,it)::l=>(i<N∧it.below N=true)∧bn N l
theorem wG {N:Nat}:∀ {l:List (Nat × Item)},bn N l→∀ i it,lk l i=some it→i<N∧it.below N=true
 |(j,jt)::l,h,i,it,hi=>by
  simp only [lk] at hi
  split at hi
  ·rename_i e;subst e;cases hi;exact h.1
  ·exact wG h.2 i it hi
theorem aj.fr [hG:qB P w0 T0] {f:Nat} {args args':List AV} {out:AV} {rows:List (Nat × Item)} {s:S} {K:AV→S→Prop} (h:dW P f args' out rows) (ha:aV s.rows args args') (N:Nat) (hN:Fv.below N out=true) (hNr:bn N rows)
  (hk:K (ren (fun j=>s.next+j) out) (s.after s.rows N rows)):@aj P w0 T0 f args s ⟨K⟩:=by
 refine ⟨h.1,fun H a w m vals hm hv=>?_⟩
 have hl:CJ w (aA T0 w0.heap.size m s w) s.rows (fun _=>True):=
  {hw:=rfl,t:=fun _ _=>trivial,
   own:=fun i e r hi=>by
    obtain ⟨n,cells,hc,hn,ho,hO⟩:=(hm.rows i _ hi).2
    exact ⟨fun _ _=>trivial,n,cells,hc,hn,ho⟩,
   box:=fun i e cs hi=>by
    obtain ⟨g,vs,hv,_,hl,hh⟩:=(hm.rows i _ hi).2
    exact ⟨g,vs,hv,trivial,hl,hh⟩,
   map:=fun i ks vs hi=>by
    obtain ⟨g,es,clock,hv,_,h1,h2,h3,h4,hh⟩:=(hm.rows i _ hi).2
    exact ⟨g,es,clock,hv,trivial,h1,h2,h3,h4,hh⟩ }
 refine (h.2 w (fun _=>True) vals (qB.at hm) (oh hl _ ha hv)).mono ?_
 rintro e w' ⟨v,rfl,hb,ho⟩
 exact ⟨v,rfl,_,_,hk,hm.after hb (fun _ _ h=>h) (fun b hb=>hb.elim) ho hN (wG hNr)⟩
theorem aj.sh [hG:qB P w0 T0] (rows':List (Nat × Item)) {f:Nat} {args args':List AV} {out:AV} {rows:List (Nat × Item)} {s:S} {K:AV→S→Prop} (h:aU P f args' out rows) (lent:List (Nat × Item)) (ha:aV lent args args')
  (hsub:∀ i it,lk rows' i=some it→lk s.rows i=some it) (hlent:∀ i it,lk lent i=some it→lk s.rows i=some it∧lk rows' i=none) (N:Nat) (hN:Fv.below N out=true) (hNr:bn N rows)
  (hk:K (ren (fun j=>s.next+j) out) (s.after rows' N rows)):@aj P w0 T0 f args s ⟨K⟩:=by
 refine ⟨h.1,fun H a w m vals hm hv=>?_⟩
 have hl:CJ w (aA T0 w0.heap.size m s w) lent (allow T0 w0.heap.size m rows'):=
  {hw:=rfl,t:=fun b hb=>⟨hb.1,fun i it hi=>hb.2 i it (hsub i it hi)⟩,
   own:=fun i e r hi=>by
    obtain ⟨h1,h2⟩:=hlent i _ hi
    obtain ⟨n,cells,hc,hn,ho,hO⟩:=(hm.rows i _ h1).2
    refine ⟨fun b hb=>⟨(hO b hb).imp id (·.2),fun j jt hj hbj=>?_⟩,n,cells,hc,hn,ho⟩
    have:=hm.sep i j _ jt b h1 (hsub j jt hj) hb hbj
    subst this
    exact absurd (h2.symm.trans hj) (by simp),
   box:=fun i e cs hi=>by
    obtain ⟨h1,h2⟩:=hlent i _ hi
    obtain ⟨g,vs,hv,hg,hl,hh⟩:=(hm.rows i _ h1).2
    refine ⟨g,vs,hv,⟨hg.imp id (·.2),fun j jt hj hbj=>?_⟩,hl,hh⟩
    have:=hm.sep i j _ jt g h1 (hsub j jt hj) (by show blk (m i)=some g;rw [show m i=_ from hv];rfl) hbj
    subst this
    rw [h2] at hj;exact absurd hj (by simp),
   map:=fun i ks vs hi=>by
    obtain ⟨h1,h2⟩:=hlent i _ hi
    obtain ⟨g,es,clock,hv,hg,k1,k2,k3,k4,hh⟩:=(hm.rows i _ h1).2
    refine ⟨g,es,clock,hv,⟨hg.imp id (·.2),fun j jt hj hbj=>?_⟩,k1,k2,k3,k4,hh⟩
    have:=hm.sep i j _ jt g h1 (hsub j jt hj) (by show blk (m i)=some g;rw [show m i=_ from hv];rfl) hbj
    subst this
    rw [h2] at hj;cases hj }
 refine (h.2 w _ vals (qB.at hm) (oh hl _ ha hv)).mono ?_
 rintro e w' ⟨v,rfl,hb,ho⟩
 exact ⟨v,rfl,_,_,hk,hm.after hb hsub (fun b hb=>hb) ho hN (wG hNr)⟩
end
end Go.Fv
/-
 Congruences: only the state of a word is reckoned out, not what stands behind it.
-/
namespace Go.Fv
section
variable {P:Program} {w0:World} {T0:Bs} {s s':S} {K:AV→S→Prop}
@[congr] theorem Wj {ops:Array Oper} {o:Oper} {k:S→Prop} (h:s=s'):LH P w0 T0 ops o s k=LH P w0 T0 ops o s' k:=by rw [h]
@[congr] theorem UO {o:Oper} {c c':Bool} {s1 s2:S} {k:S→Prop} (hc:c=c') (h:s=s'):uZ P w0 T0 o c s s1 s2 k=uZ P w0 T0 o c' s' s1 s2 k:=by rw [hc,h]
@[congr] theorem Vl {ops:Array Oper} {l:List Oper} {k:S→Prop} (h:s=s'):BZ P w0 T0 ops l s k=BZ P w0 T0 ops l s' k:=by rw [h]
@[congr] theorem UN {ops:Array Oper} {l:yt} {k:S→Prop} (h:s=s'):jB P w0 T0 ops l s k=jB P w0 T0 ops l s' k:=by rw [h]
@[congr] theorem UM {b0:Nat} {c:Code} {Q:Exit→S→Prop} (h:s=s'):iI P w0 T0 b0 c Q s=iI P w0 T0 b0 c Q s':=by rw [h]
@[congr] theorem Vm {d:Option Nat} {v v':AV} {k:S→Prop} (hv:v=v') (h:s=s'):gU d v s k=gU d v' s' k:=by rw [hv,h]
@[congr] theorem Wn {o:Oper} (h:s=s'):qw P w0 T0 o s K=qw P w0 T0 o s' K:=by rw [h]
@[congr] theorem SE {c:Call} (h:s=s'):mP P w0 T0 c s K=mP P w0 T0 c s' K:=by rw [h]
end
end Go.Fv
/-
 Facts about types, out of one glance each.
-/
namespace Go.Fv
def UU:Value→Bool
 | .int k n=>OA k n
 | .string s=>s.size == 0
 | .agg cs=>(cs.toList.all fun v=>v.oneCell' && (match v with | .string s=>s.size == 0|_=>true)) && decide (0<cs.size)
 | .tuple _=>false
 | _=>true
theorem SH {v:Value} (h:UU v=true):Xg v:=by
 cases v<;>first|trivial|cases h;done|skip
 case int k n=>exact Hl h
 case string s=>
  have h':s.size=0:=by simpa [UU] using h
  show s.size≤maxLen
  rw [h'];exact Nat.zero_le _
 case agg cs=>
  simp only [UU,Bool.and_eq_true,List.all_eq_true,decide_eq_true_eq] at h
  refine ⟨fun v hv=>⟨(h.1 v hv).1,?_⟩,h.2⟩
  have h2:=(h.1 v hv).2
  cases v<;>try trivial
  rename_i s
  have h':s.size=0:=by simpa using h2
  show s.size≤maxLen
  rw [h'];exact Nat.zero_le _
theorem bH.of {P:Program} {e:TypeId} {z:Value} (h:(P.info? e).map (fun i=>(i.zero,i.size,decide (i.bytes≤1024)))=some (some z,z.cells.size,true)) (hz:UU z=true):bH P e z:=by
 refine ⟨?_,SH hz⟩
 cases hi:P.info? e with
 | none=>rw [hi] at h;cases h
 | some i=>
  rw [hi] at h
  simp only [Option.map_some,Option.some.injEq,Prod.mk.injEq,decide_eq_true_eq] at h
  exact ⟨i,rfl,h.1,h.2.1,h.2.2⟩
theorem bH.zero {P:Program} {e:TypeId} {z:Value} (h:bH P e z):zeroOf P e=some z:=by
 obtain ⟨i,h1,h2,_⟩:=h.ex
 simp [zeroOf,h1,h2]
theorem bH.cellsOf {P:Program} {e:TypeId} {z:Value} (h:bH P e z):P.cellsOf e=z.cells.size:=by
 obtain ⟨i,h1,h2,h3,_⟩:=h.ex
 simp [Program.cellsOf,h1,h3]
end Go.Fv
/-
 The names of one state among those of another, found by looking; steps of a walk.
-/
namespace Go.Fv
mutual
def mkV:AV→AV→List (Nat × Nat)
 | .own i,y=>match y with | .own k=>[(i,k)]|_=>[]
 | .ptr i _,y=>match y with | .ptr k _=>[(i,k)]|_=>[]
 | .elt i _ _ _,y=>match y with | .elt k _ _ _=>[(i,k)]|_=>[]
 | .pre i _,y=>match y with | .pre k _=>[(i,k)]|_=>[]
 | .suf i _ _ _,y=>match y with | .suf k _ _ _=>[(i,k)]|_=>[]
 | .agg l,y=>match y with | .agg l'=>IL l l'|_=>[]
 | .tup l,y=>match y with | .tup l'=>IL l l'|_=>[]
 | .fn _ l,y=>match y with | .fn _ l'=>IL l l'|_=>[]
 | .dead,_=>[]
 | .nilS,_=>[]
 | .bool _,_=>[]
 | .int _ _,_=>[]
 | .str _,_=>[]
 | .ro _,_=>[]
 | .cell _,_=>[]
 | .raw _,_=>[]
 | .opt _ x,y=>match y with | .opt _ y'=>mkV x y'|_=>[]
 | .ifc _ x,y=>match y with | .ifc _ y'=>mkV x y'|_=>[]
 | .bm _ x,y=>match y with | .bm _ y'=>mkV x y'|_=>[]
 | .mp _ _,_=>[]
def IL:List AV→List AV→List (Nat × Nat)
 | [],_=>[]
 | x::l,ys=>match ys with|y::l'=>mkV x y++IL l l'|[]=>[]
end
def Ns (s:S):List (Nat × AV)→List (Nat × Nat)
 | []=>[]
 |(r,v)::l=>mkV v (s.get r)++Ns s l
def Un:List (List AV)→List (List AV)→List (Nat × Nat)
 | [],_=>[]
 | x::l,ys=>match ys with|y::l'=>IL x y++Un l l'|[]=>[]
def Yq:aF→aF→List (Nat × Nat)
 | .objs _ l,.objs _ l'=>Un l l'
 | _,_=>[]
def mkItem:Item→Option Item→List (Nat × Nat)
 | .box _ cs,some (.box _ cs')=>IL cs cs'
 | .row _ r,some (.row _ r')=>Yq r r'
 | .map ks vs,some (.map ks' vs')=>IL ks ks'++IL vs vs'
 | .iter i _ _,some (.iter k _ _)=>[(i,k)]
 | _,_=>[]
def FI (l:List (Nat × Nat)) (rows:List (Nat × Item)):List (Nat × Item)→List (Nat × Nat)
 | []=>[]
 |(i,it)::rest=>mkItem it (lk rows (pm l i))++FI l rows rest
def D9 (s s':S):List (Nat × Nat):=Ns s s'.env++FI (Ns s s'.env) s.rows s'.rows
theorem TF (k:IntKind) (n:Int):(Value.int k n).cells.size=1:=rfl
theorem Qk (b:Bool):(Value.bool b).cells.size=1:=rfl
theorem TI (b:ByteArray):(Value.string b).cells.size=1:=rfl
theorem Om (a:Option Addr) (n m:Nat):(Value.slice a n m).cells.size=1:=rfl
theorem TG (a:Option Addr):(Value.pointer a).cells.size=1:=rfl
theorem TD (a:Array Value):(Value.agg a).cells.size=a.size:=rfl
theorem Ite.bool {b:Bool} {x y:Prop} (h1:b=true→x) (h2:b=false→y):@Ite b ⟨x⟩ ⟨y⟩:=⟨h1,h2⟩
def aI (b:Nat):List (Nat × Nat)→List (Nat × Nat)
 | []=>[]
 | x::l=>if b≤x.1 then x::aI b l else aI b l
theorem vN (b:Nat):∀ (l:List (Nat × Nat)) x,x∈aI b l→b≤x.1
 | y::l,x,h=>by
  simp only [aI] at h
  split at h
  ·rename_i hb
   cases List.mem_cons.1 h with
   | inl e=>subst e;exact hb
   | inr e=>exact vN b l x e
  ·exact vN b l x h
section
variable {w0:World} {T0:Bs} {b0:Nat}
theorem aS.aB {s s':S} (hn:s'.n=s.n) (he:qL (pm (D9 s s')) s s'.next s'.env) (hr:bU (pm (D9 s s')) s.rows s'.next s'.rows):aS w0 T0 0 s s':=
 aS.of (D9 s s') hn (Nat.zero_le _) (fun _ _=>Nat.zero_le _) he hr
theorem aS.bG (k:Nat) {s s':S} (hn:s'.n=s.n) (hk:k≤s'.next) (he:qL (pm (aI k (D9 s s'))) s s'.next s'.env) (hr:bU (pm (aI k (D9 s s'))) s.rows s'.next s'.rows):aS w0 T0 k s s':=
 aS.of _ hn hk (vN k _) he hr
def V5 (s:S):ResultVar→AV
 | .tmp t=>s.ev (.tmp t)
 | .cell t _=>match s.get t with
  | .ptr i off=>match lk s.rows i with
   | some (.box _ cs)=>.agg (cs.drop off)
   | _=>.dead
  | _=>.dead
def IQ (s:S) (res:List ResultVar) (out:AV) (rows:List (Nat × Item)):List (Nat × Nat):=
 mkV out (kW (res.map (V5 s)))++FI (mkV out (kW (res.map (V5 s)))) s.rows rows
theorem eP.auto {P:Program} (N:Nat) {res:List ResultVar} {out:AV} {rows:List (Nat × Item)} {s:S} (h:xW P s res (fun vs=>kW vs=ren (pm (IQ s res out rows)) out)) (hb:Fv.below N out=true) (hr:bU (pm (IQ s res out rows)) s.rows N rows):eP P w0 T0 res out rows s:=
 eP.of _ N h hb hr
end
end Go.Fv
/-
 The set by which a walk is reckoned.
-/
namespace Go.Fv
theorem P8 (p q:Prop) [Decidable p] [Decidable q]:(decide p && decide q)=decide (p∧q):=by simp
theorem Tq (p q:Prop) [Decidable p] [Decidable q]:(decide p || decide q)=decide (p∨q):=by simp
theorem Qb (p:Prop) [Decidable p]:(!decide p)=decide (¬p):=by simp
attribute [go_sem] not_true_eq_false or_true true_or false_or or_false and_false false_and or_self and_self Array.toList_replicate List.map_replicate List.mem_replicate not_false_eq_true ne_eq Value.oneCell' maxLen_eq Nat.zero_le P8 Tq Qb AV.int.injEq AV.bool.injEq iI thenS Ac RZ MX BZ LH qw uY Cb jM iT EF sO BN BX iw kJ sV yc gU mP JB kG jJ uh Gs BK AB Gu LK Ru Xl AO kd Hf eq1 LM rP wP wL JE FH sU rU pI wV Gw G5 jK lU wW NQ zK Gz wS uK iG intsOf pW jB S.ev S.get S.set S.add S.swap S.after uT lk put del evs au dZ FK OA ren bZ jl qN jg lY dJ Fh gK EP bnd ny jO aN lH spl appRow sJ iC S.upd idxFrom uD placeOf bytesOf bW bT below aQ aF.len aF.sz Item.ren TF Qk TI Om TG TD List.length_append List.length_set List.length_replicate List.length_nil List.mem_cons List.not_mem_nil or_false forall_eq forall_eq_or_imp implies_true false_implies eq_self List.set_cons_zero List.set_cons_succ List.drop_zero List.drop_succ_cons List.take_succ_cons List.take_zero List.size_toArray List.length_cons List.map_cons List.map_nil List.replicate_zero List.nil_append List.cons_append List.append_nil List.reverse_nil List.zipIdx_cons List.zipIdx_nil Array.toList_empty List.getElem?_cons_zero List.getElem?_cons_succ List.getElem?_toArray Option.bind_some Option.map_some Option.getD_some Nat.one_mul decide_true decide_false Bool.and_self Bool.true_and Bool.false_and Bool.and_true Bool.and_false Bool.not_true Bool.not_false cond_true cond_false PN N9 and_true true_and and_self PK Bool.not_eq_true' Nat.zero_add Nat.add_zero Int.toNat_natCast Int.ofNat_eq_natCast WA WB kV fD peel Kv WU WV gHead Ij TY vS uM uZ SX WI WH Bool.and_eq_true decide_eq_true_eq Bool.cond_true_left Bool.cond_false_right imp_self Bool.not_eq_true decide_eq_false_iff_not Decidable.not_not Bool.not_not kY um Int.natCast_zero
end Go.Fv
/-
 Regions whose order is drawn: walked once, in the text's order. Operations that leave the abstract state as it is may come in any order;
 those that change it ('es') come in the text's order among themselves.
-/
namespace Go.Fv
open Go.RowKit
abbrev uj:=List (Nat × Item) × Nat
def gY:Op→List Operand
 | .move x=>[x]
 | .assign x=>[x]
 | .pick c x y=>[c,x,y]
 | .extract x _=>[x]
 | .makeFunc _ first caps=>first.toList++caps.toList
 | .box _ x=>[x]
 | .load _ x=>[x]
 | .store _ x v=>[x,v]
 | .nilCheck x=>[x]
 | .fieldAddr _ x _=>[x]
 | .indexAddr _ x i=>[x,i]
 | .makeSlice _ l c=>[l,c]
 | .binOp _ _ x y _=>[x,y]
 | .unOp _ _ x=>[x]
 | .convert _ _ x=>[x]
 | .index _ x i=>[x,i]
 | .lookup _ x i _=>[x,i]
 | .mapUpdate _ m k v=>[m,k,v]
 | .mapEntry _ m k=>[m,k]
 | .entryStore _ m t v=>[m,t,v]
 | .range _ x=>[x]
 | .next x _=>[x]
 | .field _ x _=>[x]
 | .slice _ x l h m=>x::(l.toList++(h.toList++m.toList))
 | .buildSlice _ _ ps=>ps.toList.map (·.2)
 | .build _ ps=>ps.toList.map (·.2)
 | .call c=>match c.callee with
  | .value f=>f::c.args.toList
  | _=>c.args.toList
 | _=>[]
def Va (v:AV):AV:=match v with
 | .opt _ v=>v
 | v=>v
def fB (s:S):List Operand→List (Nat × AV)
 | []=>[]
 | .tmp t::l=>(t,s.get t)::fB s l
 | .const _::l=>fB s l
 | .func _::l=>fB s l
 | .global _::l=>fB s l
def jD (s:S):List Operand→List (Nat × AV)
 | []=>[]
 | .tmp t::l=>(t,Va (s.get t))::jD s l
 | .const _::l=>jD s l
 | .func _::l=>jD s l
 | .global _::l=>jD s l
def gd (ops:Array Oper) (s:S) (o:Oper):Option (Option Bool):=
 match o.guard with
 | none=>some none
 | some (j,want)=>match (ops[j]?).bind (·.dst) with
  | some r=>match s.get r with
   | .bool b=>some (some (bif want then b else !b))
   | .opt c (.bool b)=>some (some (c && bif want then b else !b))
   | _=>none
  | none=>none
def Rx (P:Program) (w0:World) (T0:Bs) (o:Oper) (s1:S) (v:AV):Prop:=
 qw P w0 T0 o s1 (fun r s'=>r=v∧s'.rows=s1.rows∧s'.next=s1.next)
structure Acc where
 o:Oper
 g:Option Bool
 env:List (Nat × AV)
 v:AV
 ks:List Nat
def Ei (P:Program) (w0:World) (T0:Bs) (n:Nat) (x:Acc) (hs:List uj):List Nat→Prop
 | []=>True
 | k::l=>(match hs[k]? with
  | some h=>match x.g with
   | none=>Rx P w0 T0 x.o ⟨n,x.env,h.1,h.2⟩ x.v
   | some c=>Fv.below h.2 x.v=true∧(c=true→Rx P w0 T0 x.o ⟨n,x.env,h.1,h.2⟩ x.v)
  | none=>False)∧Ei P w0 T0 n x hs l
def redo (P:Program) (w0:World) (T0:Bs) (n:Nat) (hs:List uj):List Acc→Prop
 | []=>True
 | x::l=>Ei P w0 T0 n x hs x.ks∧redo P w0 T0 n hs l
class QB where
 A:AV→Prop
 B:AV→Prop
class QC where
 A:AV→List (Nat × Item)→Nat→Prop
 B:AV→List (Nat × Item)→Nat→Prop
def QV [x:QB]:Prop:=∃ v,x.A v∧x.B v
def QE [x:QC]:Prop:=∃ v rows N,x.A v rows N∧x.B v rows N
theorem QV.intro {A B:AV→Prop} (v:AV) (h:A v) (k:B v):@QV ⟨A,B⟩:=⟨v,h,k⟩
theorem QE.intro {A B:AV→List (Nat × Item)→Nat→Prop} (v:AV) (rows:List (Nat × Item)) (N:Nat) (h:A v rows N) (k:B v rows N):@QE ⟨A,B⟩:=⟨v,rows,N,h,k⟩
def nO (ks:List Nat) (x:Acc) (l:List Acc):List Acc:=match ks with
 | []=>l
 | _::_=>x::l
def oH (tb:List (Nat × List Nat)) (i:Nat):List Nat:=match lk tb i with
 | some l=>l
 | none=>[]
def AA:Op→Bool
 | .move _=>true
 | .assign _=>true
 | .extract _ _=>true
 | .makeFunc _ _ _=>true
 | .box _ _=>true
 | .alloc _=>true
 | .store _ _ _=>true
 | .nilCheck _=>true
 | .makeSlice _ _ _=>true
 | .unOp _ _ _=>true
 | .convert _ _ _=>true
 | .buildSlice _ _ _=>true
 | .build _ _=>true
 | .makeMap _ _=>true
 | .mapUpdate _ _ _ _=>true
 | .mapEntry _ _ _=>true
 | .entryStore _ _ _ _=>true
 | .range _ _=>true
 | .call c=>match c.callee with
  | .builtin .append=>true
  | .builtin .min=>true
  | .builtin .max=>true
  | _=>false
 | _=>false
def vJ:List Nat→Nat→Bool
 | [],_=>false
 | j::l,i=>if i=j then true else vJ l i
theorem Aj:∀ (l:List Nat) (i:Nat),vJ l i=l.elem i
 | [],_=>rfl
 | j::l,i=>by
  simp only [vJ,List.elem_cons,Aj l i]
  by_cases h:i=j
  ·simp [h]
  ·have:(i == j)=false:=by simpa using h
   rw [if_neg h,this]
/-! ### The walk: what comes behind is not looked at before it is reached -/
inductive QR where
 | val (v:AV) (p:Prop) (re:Bool)
 | lin
 | call
class Yx where
 k:Option Bool→Prop
class Yv where
 x:Prop
 y:Prop
class Yw where
 k:AV→List (Nat × Item)→Nat→Prop
class Yy where
 k:AV→Bool→Prop
 l:Prop
 c:Prop
def XB (x:Option (Option Bool)) [K:Yx]:Prop:=match x with
 | some g=>K.k g
 | none=>False
def Wv (b:Bool) [K:Yv]:Prop:=match b with
 | true=>K.x
 | false=>K.y
def XA (v:AV) (t:S) [K:Yw]:Prop:=K.k v t.rows t.next
def Xo (x:QR) [K:Yy]:Prop:=match x with
 | .val v p re=>aZ p (K.k v re)
 | .lin=>K.l
 | .call=>K.c
theorem QA (g:Option Bool) (k:Option Bool→Prop):@XB (some g) ⟨k⟩=k g:=rfl
theorem P7 (x y:Prop):@Wv true ⟨x,y⟩=x:=rfl
theorem Og (x y:Prop):@Wv false ⟨x,y⟩=y:=rfl
theorem VG (v:AV) (n:Nat) (env:List (Nat × AV)) (R:List (Nat × Item)) (N:Nat) (k:AV→List (Nat × Item)→Nat→Prop):@XA v ⟨n,env,R,N⟩ ⟨k⟩=k v R N:=rfl
theorem Uw (v:AV) (p:Prop) (re:Bool) (k:AV→Bool→Prop) (l c:Prop):@Xo (.val v p re) ⟨k,l,c⟩=aZ p (k v re):=rfl
theorem Uu (k:AV→Bool→Prop) (l c:Prop):@Xo .lin ⟨k,l,c⟩=l:=rfl
theorem Rw (k:AV→Bool→Prop) (l c:Prop):@Xo .call ⟨k,l,c⟩=c:=rfl
def IK (g:Option Bool) (v:AV):AV:=match g with
 | none=>v
 | some c=>.opt c v
def yM (g:Option Bool) (s:S) (l:List Operand):List (Nat × AV):=match g with
 | none=>fB s l
 | some _=>jD s l
def ou (d:Option Nat) (n:Nat):Prop:=match d with
 | none=>True
 | some d=>d<n
def mX (d:Option Nat) (v:AV) (s:S):S:=match d with
 | none=>s
 | some d=>⟨s.n,(d,v)::s.env,s.rows,s.next⟩
def I7 (P:Program) (w0:World) (T0:Bs) (o:Oper) (g:Option Bool) (s:S) (v:AV):Prop:=match g with
 | none=>Rx P w0 T0 o ⟨s.n,fB s (gY o.op),s.rows,s.next⟩ v
 | some c=>Fv.below s.next v=true∧(c=true→fD s (gY o.op)=true∧Rx P w0 T0 o ⟨s.n,jD s (gY o.op),s.rows,s.next⟩ v)
def V3 (P:Program) (w0:World) (T0:Bs) (o:Oper) (g:Option Bool) (s:S):QR:=
 match vS ⟨s.n,fB s (gY o.op),s.rows,s.next⟩ o.op with
 | some (pre,b)=>match g with
  | none=>.val (.bool b) (pre∧uM o.op) false
  | some c=>.val (.bool b) (c=true→pre∧uM o.op) false
 | none=>match TY P ⟨s.n,yM g s (gY o.op),s.rows,s.next⟩ o.op with
  | some v=>.val v (I7 P w0 T0 o g s v) true
  | none=>match g,AA o.op with
   | none,true=>.lin
   | _,_=>.call
def iH (P:Program) (w0:World) (T0:Bs) (ops:Array Oper) (es:List Nat) (tb:List (Nat × List Nat)):List Oper→Nat→List Acc→List uj→S→(S→Prop)→Prop
 | [],_,acc,hs,s,Q=>redo P w0 T0 s.n hs acc∧Q s
 | o::rest,i,acc,hs,s,Q=>
  @XB (gd ops s o) ⟨fun g=>@Wv (vJ es i) ⟨
   match g with
   | none=>@Wv (AA o.op) ⟨
     qw P w0 T0 o ⟨s.n,fB s (gY o.op),s.rows,s.next⟩ (fun v t=>@XA v t ⟨fun v R N=>aZ (ou o.dst s.n) (iH P w0 T0 ops es tb rest (i+1) acc (hs++[(R,N)]) (mX o.dst v ⟨s.n,s.env,R,N⟩) Q)⟩),
     @QE ⟨fun v R N=>qw P w0 T0 o ⟨s.n,fB s (gY o.op),s.rows,s.next⟩ (fun r t=>r=v∧t.rows=R∧t.next=N),
      fun v R N=>aZ (ou o.dst s.n) (iH P w0 T0 ops es tb rest (i+1) acc (hs++[(R,N)]) (mX o.dst v ⟨s.n,s.env,R,N⟩) Q)⟩⟩
   | some c=>@Ite c ⟨@QE ⟨fun v R N=>fD s (gY o.op)=true∧qw P w0 T0 o ⟨s.n,jD s (gY o.op),s.rows,s.next⟩ (fun r t=>r=v∧t.rows=R∧t.next=N),
      fun v R N=>aZ (ou o.dst s.n) (iH P w0 T0 ops es tb rest (i+1) acc (hs++[(R,N)]) (mX o.dst (.opt true v) ⟨s.n,s.env,R,N⟩) Q)⟩⟩
     ⟨aZ (ou o.dst s.n) (iH P w0 T0 ops es tb rest (i+1) acc (hs++[(s.rows,s.next)]) (mX o.dst (.opt false (.bool false)) s) Q)⟩,
   @Xo (V3 P w0 T0 o g s) ⟨
    fun v re=>aZ (ou o.dst s.n) (iH P w0 T0 ops es tb rest (i+1) (bif re then nO (oH tb i) ⟨o,g,yM g s (gY o.op),v,oH tb i⟩ acc else acc) hs (mX o.dst (IK g v) s) Q),
    qw P w0 T0 o ⟨s.n,fB s (gY o.op),s.rows,s.next⟩ (fun v t=>@XA v t ⟨fun v R N=>aZ (R=s.rows∧N=s.next) (aZ (ou o.dst s.n) (iH P w0 T0 ops es tb rest (i+1) (nO (oH tb i) ⟨o,g,yM g s (gY o.op),v,oH tb i⟩ acc) hs (mX o.dst v s) Q))⟩),
    @QV ⟨fun v=>I7 P w0 T0 o g s v,
     fun v=>aZ (ou o.dst s.n) (iH P w0 T0 ops es tb rest (i+1) (nO (oH tb i) ⟨o,g,yM g s (gY o.op),v,oH tb i⟩ acc) hs (mX o.dst (IK g v) s) Q)⟩⟩⟩⟩
theorem jA {d:Option Nat} {v:AV} {s:S} {Q:S→Prop} (h1:ou d s.n) (h2:Q (mX d v s)):gU d v s Q:=by
 unfold gU
 cases d with
 | none=>exact h2
 | some d=>simp only [ou] at h1;simp only [h1,if_true];exact h2
end Go.Fv
