/-
  A part of the proof of the claim: walks over the program's functions and the plain laws that these need. No condition of its own.
-/
import Derived.Test.YtodlgmmbfbiilaaGreatDoorFvPart7
set_option linter.unusedSectionVars false
set_option linter.unusedVariables false
set_option linter.unusedSimpArgs false
set_option linter.unnecessarySimpa false
/-
 Calls: by contract, or into the callee's code.
-/
namespace Go.Fv
open Go.RowKit
structure xH (p:Nat→Nat) (c c':Ctx):Prop where
 n:∀ i,i<c.N→p i<c'.N
 m:∀ i,i<c.N→c'.m (p i)=c.m i
 t:∀ b,c.T b→b<c.w.heap.size→c'.T b∧c'.w.heap[b]?=c.w.heap[b]?
mutual
theorem pV {p:Nat→Nat} {n k:Nat} (h:∀ i,i<n→p i<k):∀ x:AV,Fv.below n x=true→Fv.below k (ren p x)=true
 | .own i,e=>by simp only [Fv.below,ren,decide_eq_true_eq] at *;exact h i e
 | .ptr i o,e=>by simp only [Fv.below,ren,decide_eq_true_eq] at *;exact h i e
 | .elt i a b c,e=>by simp only [Fv.below,ren,decide_eq_true_eq] at *;exact h i e
 | .pre i k,e=>by simp only [Fv.below,ren,decide_eq_true_eq] at *;exact h i e
 | .agg cs,e=>by simp only [Fv.below,ren] at *;exact kX h cs e
 | .tup cs,e=>by simp only [Fv.below,ren] at *;exact kX h cs e
 | .fn f cs,e=>by simp only [Fv.below,ren] at *;exact kX h cs e
 | .cell cs,_=>rfl
 | .dead,_=>rfl
 | .nilS,_=>rfl
 | .bool _,_=>rfl
 | .int _ _,_=>rfl
 | .str _,_=>rfl
 | .ro _,_=>rfl
 | .raw _,_=>rfl
 | .mp _ _,_=>rfl
 | .opt _ v,e=>by simp only [Fv.below,ren] at *;exact pV h v e
theorem kX {p:Nat→Nat} {n k:Nat} (h:∀ i,i<n→p i<k):∀ x:List AV,aP n x=true→aP k (gK p x)=true
 | [],_=>rfl
 | x::l,e=>by
  simp only [aP,Bool.and_eq_true] at e
  simp [gK,aP,pV h x e.1,kX h l e.2]
end
mutual
theorem Rv.shift {p:Nat→Nat} {c c':Ctx} (h:xH p c c'):∀ {x:AV} {v:Value},Rv c x v→Rv c' (ren p x) v
 | _,_,.dead v=>.dead v
 | _,_,.nilS=>.nilS
 | _,_,.bool b=>.bool b
 | _,_,.int k n hk=>.int k n hk
 | _,_,.str s hs=>.str s hs
 | _,_,.roNil r hr hi=>.roNil r (bG.eP h.t hr hi) hi
 | _,_,.ro r a len cap cells hr hl hc hm hs hi=>.ro r a len cap cells (bG.eP h.t hr hi) hl hc hm (hs.mono' h.t) hi
 | _,_,.mp ks vs g es clock hk hv hb hc hT hh hi hi2=>.mp ks vs g es clock (dF.eP h.t hk hi) (dF.eP h.t hv hi2) hb hc (h.t g hT (Array.getElem?_eq_some_iff.1 hh).1).1 (by rw [(h.t g hT (Array.getElem?_eq_some_iff.1 hh).1).2];exact hh) hi hi2
 | _,_,.own i hi h1=>by rw [←h.m i hi];exact .own (p i) (h.n i hi) (by rw [h.m i hi];exact h1)
 | _,_,.cell cs vs a hl hi hs=>.cell cs vs a (bJ.eP h.t hl hi) hi (hs.mono' h.t)
 | _,_,.ptr i off g hi hg=>.ptr (p i) off g (h.n i hi) (by rw [h.m i hi];exact hg)
 | _,_,.elt i sz idx off g hi hg=>.elt (p i) sz idx off g (h.n i hi) (by rw [h.m i hi];exact hg)
 | _,_,.pre i n l cap a hi hv hn=>.pre (p i) n l cap a (h.n i hi) (by rw [h.m i hi];exact hv) hn
 | _,_,.agg cs vs hl=>.agg _ vs (bJ.shift h hl)
 | _,_,.tup cs vs hl=>.tup _ vs (dF.shift h hl)
 | _,_,.fn f cs vs hl=>.fn f _ vs (dF.shift h hl)
 | _,_,.raw v=>.raw v
 | _,_,.opt b x v hb hx h2=>.opt b _ v (pV h.n x hb) (fun e=>Rv.shift h (hx e)) h2
theorem bJ.shift {p:Nat→Nat} {c c':Ctx} (h:xH p c c'):∀ {x:List AV} {v:List Value},bJ c x v→bJ c' (gK p x) v
 | _,_,.nil=>.nil
 | _,_,.cons x v l vs hx h1 ht=>.cons _ v _ vs (Rv.shift h hx) h1 (bJ.shift h ht)
theorem dF.shift {p:Nat→Nat} {c c':Ctx} (h:xH p c c'):∀ {x:List AV} {v:List Value},dF c x v→dF c' (gK p x) v
 | _,_,.nil=>.nil
 | _,_,.cons x v l vs hx ht=>.cons _ v _ vs (Rv.shift h hx) (dF.shift h ht)
end
theorem bf.shift {p:Nat→Nat} {c c':Ctx} (h:xH p c c'):∀ {sz:Nat} {x:List (List AV)} {v:List Value},bf c sz x v→bf c' sz (x.map (gK p)) v
 | _,_,_,.nil sz=>.nil sz
 | _,_,_,.cons sz o vs l cells ho hl ht=>.cons sz _ vs _ cells (bJ.shift h ho) hl (bf.shift h ht)
theorem bG.shift {p:Nat→Nat} {c c':Ctx} (h:xH p c c') {r:aG} {v:List Value} (hr:bG c r v):bG c' (vN p r) v:=by
 cases hr with
 | objs sz l _ hz ho=>exact .objs sz _ v hz (bf.shift h ho)
 | bools l=>exact .bools l
 | ints k l hk=>exact .ints k l hk
 | strs l hk=>exact .strs l hk
theorem Rf (p:Nat→Nat) (r:aG):(vN p r).len=r.len:=by cases r<;>simp [vN,aG.len]
theorem Ui (p:Nat→Nat) (r:aG):(vN p r).sz=r.sz:=by cases r<;>rfl
theorem aV.shift {p:Nat→Nat} {c c':Ctx} (h:xH p c c') (hw:c'.w=c.w) {O O':Nat→Prop} (hB:∀ b,O b→O' b) {v:Value} {it:Item} (hi:aV c O v it):aV c' O' v (it.ren p):=by
 cases it with
 | row e r=>
  obtain ⟨n,cells,hr,hn,ho,hO⟩:=hi
  exact ⟨n,cells,bG.shift h hr,by rw [Rf];exact hn,by rw [hw,Ui];exact ho,fun b hb=>hB b (hO b hb)⟩
 | box e cs=>
  obtain ⟨g,vs,rfl,hg,hl,he⟩:=hi
  exact ⟨g,vs,rfl,hB g hg,bJ.shift h hl,by rw [hw];exact he⟩
 | map ks vs=>
  obtain ⟨g,es,clock,rfl,hg,h1,h2,h3,h4,he⟩:=hi
  exact ⟨g,es,clock,rfl,hB g hg,dF.shift h h1,dF.shift h h2,h3,h4,by rw [hw];exact he⟩
 | iter mp since seen=>
  obtain ⟨g,q,sn,last,rfl,hg,h1,h2,h3,h4,he⟩:=hi
  exact ⟨g,q,sn,last,rfl,hB g hg,h.n mp h1,by rw [h.m mp h1];exact h2,h3,h4,by rw [hw];exact he⟩
 | siter t pos=>
  obtain ⟨g,rfl,hg,he⟩:=hi
  exact ⟨g,rfl,hB g hg,by rw [hw];exact he⟩
def fD (P:Program) (f:Nat) (args:List AV) (out:AV) (rows:List (Nat × Item)):Prop:=
 Enter P f∧∀ (w:World) (T:Nat→Prop) (vals:List Value),rV P w→dF ⟨w,T,fun _=>undef,0⟩ args vals →
  Calls P f vals.toArray w fun e w'=>∃ v,e=.returned v∧iY w.heap.size w w'∧pK (fun _=>False) w.heap.size w' out rows v
mutual
def mP:AV→Bool
 | .ro _=>false
 | .cell _=>false
 | .fn _ _=>false
 | .agg cs=>iU cs
 | .tup cs=>iU cs
 | .own _=>true
 | .ptr _ _=>true
 | .elt _ _ _ _=>true
 | .pre _ _=>true
 | .dead=>true
 | .nilS=>true
 | .bool _=>true
 | .int _ _=>true
 | .str _=>true
 | .raw _=>true
 | .opt _ v=>mP v
 | .mp _ _=>false
def iU:List AV→Bool
 | []=>true
 | x::l=>mP x && iU l
end
def lq:aG→Bool
 | .objs _ l=>l.all iU
 | .bools _=>true
 | .ints _ _=>true
 | .strs _=>true
def iD:Item→Bool
 | .row _ r=>lq r
 | .box _ cs=>iU cs
 | .map ks vs=>iU ks && iU vs
 | .iter _ _ _=>true
 | .siter _ _=>true
def iE:List (Nat × Item)→Bool
 | []=>true
 |(_,it)::l=>iD it && iE l
mutual
theorem Rv.kV {w:World} {T T':Nat→Prop} {m:Nat→Value} {N:Nat}:∀ {x:AV} {v:Value},Rv ⟨w,T,m,N⟩ x v→mP x=true→Rv ⟨w,T',m,N⟩ x v
 | _,_,.dead v,_=>.dead v
 | _,_,.nilS,_=>.nilS
 | _,_,.bool b,_=>.bool b
 | _,_,.int k n hk,_=>.int k n hk
 | _,_,.str s hs,_=>.str s hs
 | _,_,.roNil r hr _,e=>by simp [mP] at e
 | _,_,.ro r a len cap cells hr hl hc hm hs _,e=>by simp [mP] at e
 | _,_,.mp _ _ _ _ _ _ _ _ _ _ _ _ _,e=>by simp [mP] at e
 | _,_,.own i hi h1,_=>.own (c:=⟨w,T',m,N⟩) i hi h1
 | _,_,.cell cs vs a hl hi hs,e=>by simp [mP] at e
 | _,_,.ptr i off g hi hg,_=>.ptr i off g hi hg
 | _,_,.elt i sz idx off g hi hg,_=>.elt i sz idx off g hi hg
 | _,_,.pre i n l cap a hi hv hn,_=>.pre i n l cap a hi hv hn
 | _,_,.agg cs vs hl,e=>.agg _ vs (bJ.kV hl (by simpa [mP] using e))
 | _,_,.tup cs vs hl,e=>.tup _ vs (dF.kV hl (by simpa [mP] using e))
 | _,_,.fn f cs vs hl,e=>by simp [mP] at e
 | _,_,.raw v,_=>.raw v
 | _,_,.opt b x v hb hx h2,e=>.opt b x v hb (fun e'=>Rv.kV (hx e') (by simpa [mP] using e)) h2
theorem bJ.kV {w:World} {T T':Nat→Prop} {m:Nat→Value} {N:Nat}:∀ {x:List AV} {v:List Value},bJ ⟨w,T,m,N⟩ x v→iU x=true→bJ ⟨w,T',m,N⟩ x v
 | _,_,.nil,_=>.nil
 | _,_,.cons x v l vs hx h1 ht,e=>by
  simp only [iU,Bool.and_eq_true] at e
  exact .cons _ v _ vs (Rv.kV hx e.1) h1 (bJ.kV ht e.2)
theorem dF.kV {w:World} {T T':Nat→Prop} {m:Nat→Value} {N:Nat}:∀ {x:List AV} {v:List Value},dF ⟨w,T,m,N⟩ x v→iU x=true→dF ⟨w,T',m,N⟩ x v
 | _,_,.nil,_=>.nil
 | _,_,.cons x v l vs hx ht,e=>by
  simp only [iU,Bool.and_eq_true] at e
  exact .cons _ v _ vs (Rv.kV hx e.1) (dF.kV ht e.2)
end
theorem vF:∀ {l:List (Nat × Item)} {i:Nat} {it:Item},iE l=true→lk l i=some it→iD it=true
 |(j,jt)::l,i,it,h,hi=>by
  simp only [iE,Bool.and_eq_true] at h
  simp only [lk] at hi
  split at hi
  ·cases hi;exact h.1
  ·exact vF h.2 hi
theorem bf.kV {w:World} {T T':Nat→Prop} {m:Nat→Value} {N:Nat}:∀ {sz:Nat} {l:List (List AV)} {cells:List Value},bf ⟨w,T,m,N⟩ sz l cells→l.all iU=true→bf ⟨w,T',m,N⟩ sz l cells
 | _,_,_,.nil _,_=>.nil _
 | _,_,_,.cons sz o vs l cells ho hl ht,hr=>by
  simp only [List.all_cons,Bool.and_eq_true] at hr
  exact .cons sz o vs l cells (ho.kV hr.1) hl (bf.kV ht hr.2)
theorem bG.kV {w:World} {T T':Nat→Prop} {m:Nat→Value} {N:Nat} {r:aG} {cells:List Value} (h:bG ⟨w,T,m,N⟩ r cells) (hr:lq r=true):bG ⟨w,T',m,N⟩ r cells:=by
 cases h with
 | bools l=>exact .bools l
 | ints k l hk=>exact .ints k l hk
 | strs l hs=>exact .strs l hs
 | objs sz l cells hz ho=>
  exact .objs sz l cells hz (ho.kV (by simpa only [lq] using hr))
section
variable {P:Program} {w0:World} {T0:Bs} {b0:Nat}
theorem fD.iF {f:Nat} {args:List AV} {out:AV} {rows:List (Nat × Item)} (h:aC P f args out rows) (h1:mP out=true) (h2:iE rows=true):fD P f args out rows:=by
 refine ⟨h.1,fun w T vals hgl hv=>(h.2 w T vals hgl hv).mono ?_⟩
 rintro e w' ⟨v,rfl,hb,m,N,hr,hrows,hsep⟩
 refine ⟨v,rfl,hb,m,N,hr.kV h1,fun i it hi=>⟨(hrows i it hi).1,?_⟩,hsep⟩
 have hn:=vF h2 hi
 have ho:=(hrows i it hi).2
 cases it with
 | row e r=>obtain ⟨n,cells,hc,hq⟩:=ho;exact ⟨n,cells,hc.kV hn,hq⟩
 | box e cs=>obtain ⟨g,vs,hv',hg,hl,hq⟩:=ho;exact ⟨g,vs,hv',hg,hl.kV hn,hq⟩
 | map ks vs=>
  simp only [iD,Bool.and_eq_true] at hn
  obtain ⟨g,es,clock,hv',hg,h1,h2,h3,h4,hq⟩:=ho;exact ⟨g,es,clock,hv',hg,h1.kV hn.1,h2.kV hn.2,h3,h4,hq⟩
 | iter mp since seen=>exact ho
 | siter t pos=>exact ho
theorem fD.ok {f:Nat} {args:List AV} {out:AV} {rows:List (Nat × Item)} (h:fD P f args out rows):aC P f args out rows:=by
 refine ⟨h.1,fun w T vals hgl hv=>(h.2 w T vals hgl hv).mono ?_⟩
 rintro e w' ⟨v,rfl,hb,m,N,hr,hrows,hsep⟩
 have hle:dI (⟨w',allow (bs fun _=>False) w.heap.size m rows,m,N⟩:Ctx) ⟨w',allow (bs T) w.heap.size m rows,m,N⟩:=
  ⟨Nat.le_refl _,fun _ _=>rfl,fun b hb _=>⟨⟨.inl (hb.1.resolve_right fun x=>x),hb.2⟩,rfl⟩⟩
 exact ⟨v,rfl,hb,m,N,hr.mono hle,fun i it hi=>⟨(hrows i it hi).1,((hrows i it hi).2).mono hle fun _ _=>rfl⟩,hsep⟩
/-! ### Arguments -/
def nilRow:aG→Prop
 | .bools l=>l=[]
 | .ints _ l=>l=[]
 | .strs l=>l=[]
 | .objs sz l=>0<sz∧l=[]
def aT (R:AV→AV→Prop):List AV→List AV→Prop
 | [],l=>l=[]
 | x::l,l'=>∃ y r,R x y∧aT R l r∧l'=y::r
def zD (R:AV→AV→Prop):List (List AV)→List (List AV)→Prop
 | [],l=>l=[]
 | x::l,l'=>∃ y r,aT R x y∧zD R l r∧l'=y::r
def aF (rows:List (Nat × Item)):Nat→AV→AV→Prop
 | n+1,.own i,y=>match lk rows i with
  | some (.row _ r)=>if gy r=true then y=.ro r else match r with
   | .objs sz l=>∃ l',zD (aF rows n) l l'∧y=.ro (.objs sz l')
   | _=>False
  | some (.map ks vs)=>∃ ks' vs',aT (aF rows n) ks ks'∧aT (aF rows n) vs vs'∧y=.mp ks' vs'
  | _=>False
 | n+1,.pre i k,y=>match lk rows i with
  | some (.row _ r)=>gy r=true∧k≤r.len∧y=.ro (eU r 0 k)
  | _=>False
 | n+1,.nilS,y=>y=.nilS∨∃ r,nilRow r∧y=.ro r
 | n+1,.agg cs,y=>∃ cs',aT (aF rows n) cs cs'∧y=.agg cs'
 | n+1,.fn f cs,y=>∃ cs',aT (aF rows n) cs cs'∧y=.fn f cs'
 | n+1,.ptr i off,y=>∃ e cs cs',lk rows i=some (.box e cs)∧aT (aF rows n) (cs.drop off) cs'∧y=.cell cs'
 | n+1,.ro r,y=>y=.ro r
 | n+1,.bool b,y=>y=.bool b
 | n+1,.int k m,y=>y=.int k m
 | n+1,.str s,y=>y=.str s
 | n+1,.cell cs,y=>y=.cell cs
 | n+1,.raw v,y=>y=.raw v
 | n+1,.mp ks vs,y=>y=.mp ks vs
 | n+1,.dead,y=>y=.dead
 | _,_,_=>False
def bT (rows:List (Nat × Item)) (x y:AV):Prop:=aF rows 6 x y
def aO (rows:List (Nat × Item)) (x y:List AV):Prop:=aT (aF rows 6) x y
structure BN (w:World) (c:Ctx) (rows:List (Nat × Item)) (T:Nat→Prop):Prop where
 hw:c.w=w
 t:∀ b,c.T b→T b
 own:∀ i e r,lk rows i=some (.row e r)→(∀ b,blk (c.m i)=some b→T b)∧∃ n cells,bG c r cells∧r.len=n∧qy w e r.sz (c.m i) n cells
 map:∀ i ks vs,lk rows i=some (.map ks vs)→∃ g es clock,c.m i=.map (some g)∧T g∧dF c ks (es.toList.map MapEntry.key)∧dF c vs (es.toList.map MapEntry.val)∧(∀ (i:Nat) (e:MapEntry),es[i]?=some e→e.born=i)∧Es es clock∧w.heap[g]?=some (.map es clock)
 box:∀ i e cs,lk rows i=some (.box e cs)→∃ g vs,c.m i=.pointer (some ⟨g,0,none⟩)∧T g∧bJ c cs vs∧w.heap[g]?=some (.cells vs.toArray e (0,0))
theorem BN.ht {w:World} {c:Ctx} {rows:List (Nat × Item)} {T:Nat→Prop} (h:BN w c rows T):∀ b,c.T b→b<c.w.heap.size→(⟨w,T,fun _=>undef,0⟩:Ctx).T b∧(⟨w,T,fun _=>undef,0⟩:Ctx).w.heap[b]?=c.w.heap[b]?:=
 fun b hb _=>⟨h.t b hb,by rw [h.hw]⟩
theorem Ob {c:Ctx} {r:aG} (h:nilRow r):bG c r []:=by
 cases r with
 | bools l=>cases h;exact .bools []
 | ints k l=>cases h;exact .ints k [] fun x hx=>by cases hx
 | strs l=>cases h;exact .strs [] fun x hx=>by cases hx
 | objs sz l=>obtain ⟨hz,rfl⟩:=h;exact .objs sz [] [] hz (.nil sz)
theorem QD {w:World} {c:Ctx} {rows:List (Nat × Item)} {T:Nat→Prop} (h:BN w c rows T) {i:Nat} {e:TypeId} {r:aG} {v:Value} (hl:lk rows i=some (.row e r)) (hid:gy r=true) (hr:Rv c (.own i) v):Rv ⟨w,T,fun _=>undef,0⟩ (.ro r) v:=by
 have ht:∀ b,c.T b→b<c.w.heap.size→(⟨w,T,fun _=>undef,0⟩:Ctx).T b∧(⟨w,T,fun _=>undef,0⟩:Ctx).w.heap[b]?=c.w.heap[b]?:=fun b hb _=>⟨h.t b hb,by rw [h.hw]⟩
 obtain ⟨h1,n,cells,hc,hn,ho⟩:=h.own i e r hl
 cases hr with
 | own _ hi _=>
  rcases ho.2 with ⟨hv,hz⟩|⟨g,cap,cur,fz,hv,hg,hh,hnc,hcm,hcs,htake⟩
  ·rw [hv]
   have hcl:cells=[]:=List.eq_nil_of_length_eq_zero (by rw [ho.1,hz];simp)
   subst hcl
   exact .roNil r (bG.eP ht hc hid) hid
  ·have hb:=h1 g (by rw [hv];rfl)
   have hcells:=gB ho (g:=g) (by rw [hv];rfl)
   rw [hv]
   exact .ro r ⟨g,0,none⟩ n cap cells (bG.eP ht hc hid) hn hnc hcm ⟨trivial,fun _=>hb,hcells⟩ hid
theorem QZ {w:World} {c:Ctx} {rows:List (Nat × Item)} {T:Nat→Prop} (h:BN w c rows T) {i k:Nat} {e:TypeId} {r:aG} {v:Value} (hl:lk rows i=some (.row e r)) (hid:gy r=true) (hk:k≤r.len) (hr:Rv c (.pre i k) v):Rv ⟨w,T,fun _=>undef,0⟩ (.ro (eU r 0 k)) v:=by
 have ht:∀ b,c.T b→b<c.w.heap.size→(⟨w,T,fun _=>undef,0⟩:Ctx).T b∧(⟨w,T,fun _=>undef,0⟩:Ctx).w.heap[b]?=c.w.heap[b]?:=fun b hb _=>⟨h.t b hb,by rw [h.hw]⟩
 obtain ⟨h1,n,cells,hc,hn,ho⟩:=h.own i e r hl
 have hsub:=bG.sub 0 k (bG.eP ht hc hid)
 cases hr with
 | pre _ _ l cap a hi hv hkl=>
  rcases ho.2 with ⟨hv',hz⟩|⟨g,cap',cur,fz,hv',hg,hh,hnc,hcm,hcs,htake⟩
  ·rw [hv] at hv'
   cases hv'
   have hcl:cells=[]:=List.eq_nil_of_length_eq_zero (by rw [ho.1,hz];simp)
   subst hcl
   obtain rfl:k=0:=by omega
   simp only [List.drop_nil,List.take_nil] at hsub
   exact .roNil _ hsub (jf 0 0 hid)
  ·have hb:=h1 g (by rw [hv'];rfl)
   have hcells:=gB ho (g:=g) (by rw [hv'];rfl)
   rw [hv] at hv'
   cases hv'
   refine .ro _ ⟨g,0,none⟩ k cap _ hsub (by rw [mG r 0 k hk];omega) (by omega) hcm ⟨trivial,fun _=>hb,fun j u hu=>hcells j u ?_⟩ (jf 0 k hid)
   simp only [Nat.zero_mul,List.drop_zero,Nat.sub_zero] at hu
   rw [List.getElem?_take] at hu
   split at hu
   ·exact hu
   ·cases hu
mutual
theorem Jp:∀ x:AV,Fv.below 0 x=true→dA x=true
 | .own i,h=>by simp [Fv.below] at h
 | .ptr i o,h=>by simp [Fv.below] at h
 | .elt i a b c,h=>by simp [Fv.below] at h
 | .pre i k,h=>by simp [Fv.below] at h
 | .agg cs,h=>by simp only [dA,Fv.below] at *;exact kW cs h
 | .tup cs,h=>by simp only [dA,Fv.below] at *;exact kW cs h
 | .fn f cs,h=>by simp only [dA,Fv.below] at *;exact kW cs h
 | .cell cs,_=>rfl
 | .dead,_=>rfl
 | .nilS,_=>rfl
 | .bool _,_=>rfl
 | .int _ _,_=>rfl
 | .str _,_=>rfl
 | .ro _,_=>rfl
 | .raw _,_=>rfl
 | .mp _ _,_=>rfl
 | .opt _ v,h=>by simp only [dA,Fv.below] at *;exact Jp v h
theorem kW:∀ x:List AV,aP 0 x=true→bM x=true
 | [],_=>rfl
 | x::l,h=>by
  simp only [aP,Bool.and_eq_true] at h
  simp [bM,Jp x h.1,kW l h.2]
end
theorem Rv.Ii {c:Ctx} (h0:c.N=0) {x:AV} {v:Value} (h:Rv c x v):dA x=true:=Jp x (by rw [←h0];exact h.ids)
theorem bJ.Ii {c:Ctx} (h0:c.N=0) {x:List AV} {v:List Value} (h:bJ c x v):bM x=true:=kW x (by rw [←h0];exact h.ids)
theorem bG.Ii {c:Ctx} (h0:c.N=0) {r:aG} {v:List Value} (h:bG c r v):gy r=true:=by
 have:=h.ids
 rw [h0] at this
 cases r with
 | objs sz l=>
  simp only [gy,ou,List.all_eq_true] at *
  exact fun x hx=>kW x (this x hx)
 | _=>rfl
theorem wC {w:World} {c:Ctx} {rows:List (Nat × Item)} {T:Nat→Prop} (h:BN w c rows T):∀ (n:Nat) (x:AV) {y:AV} {v:Value},aF rows n x y→Rv c x v→Rv ⟨w,T,fun _=>undef,0⟩ y v:=by
 intro n
 induction n with
 | zero=>intro x y v ha _;simp [aF] at ha
 | succ n ih=>
  have lst:∀ {l l':List AV} {vs:List Value},aT (aF rows n) l l'→bJ c l vs→bJ ⟨w,T,fun _=>undef,0⟩ l' vs:=by
   intro l
   induction l with
   | nil=>intro l' vs ha hr;simp only [aT] at ha;subst ha;cases hr;exact .nil
   | cons x l ihl=>
    intro l' vs ha hr
    simp only [aT] at ha
    obtain ⟨y,r,h1,h2,rfl⟩:=ha
    cases hr with
    | cons _ v _ vs hv h1' ht=>exact .cons _ _ _ _ (ih x h1 hv) h1' (ihl h2 ht)
  have lstT:∀ {l l':List AV} {vs:List Value},aT (aF rows n) l l'→dF c l vs→dF ⟨w,T,fun _=>undef,0⟩ l' vs:=by
   intro l
   induction l with
   | nil=>intro l' vs ha hr;simp only [aT] at ha;subst ha;cases hr;exact .nil
   | cons x l ihl=>
    intro l' vs ha hr
    simp only [aT] at ha
    obtain ⟨y,r,h1,h2,rfl⟩:=ha
    cases hr with
    | cons _ v _ vs hv ht=>exact .cons _ _ _ _ (ih x h1 hv) (ihl h2 ht)
  intro x y v ha hr
  cases x with
  | agg cs=>
   simp only [aF] at ha
   obtain ⟨cs',hl,rfl⟩:=ha
   cases hr with
   | agg _ vs hv=>exact .agg _ _ (lst hl hv)
  | fn f cs=>
   simp only [aF] at ha
   obtain ⟨cs',hl,rfl⟩:=ha
   cases hr with
   | fn _ _ vs hv=>exact .fn f _ _ (lstT hl hv)
  | own i=>
   simp only [aF] at ha
   split at ha
   ·rename_i e r hl
    split at ha
    ·rename_i hid;subst ha;exact QD h hl hid hr
    ·cases r with
     | objs sz l=>
      obtain ⟨l',hl2,rfl⟩:=ha
      have lstO:∀ {l l':List (List AV)} {cells:List Value},zD (aF rows n) l l'→bf c sz l cells→bf ⟨w,T,fun _=>undef,0⟩ sz l' cells∧l'.length=l.length:=by
       intro l
       induction l with
       | nil=>intro l' cells ha hr;simp only [zD] at ha;subst ha;cases hr;exact ⟨.nil _,rfl⟩
       | cons x l ihl=>
        intro l' cells ha hr
        simp only [zD] at ha
        obtain ⟨y,r,h1,h2,rfl⟩:=ha
        cases hr with
        | cons _ _ vs _ cells ho hl ht=>exact ⟨.cons _ _ vs _ cells (lst h1 ho) hl (ihl h2 ht).1,by simp [(ihl h2 ht).2]⟩
      obtain ⟨h1,k,cells,hc,hn,ho⟩:=h.own i _ _ hl
      cases hc with
      | objs _ _ _ hz hob=>
       obtain ⟨q1,q2⟩:=lstO hl2 hob
       have q3:bG ⟨w,T,fun _=>undef,0⟩ (.objs sz l') cells:=.objs sz l' cells hz q1
       have q4:gy (.objs sz l')=true:=by
        simp only [gy]
        have:=q1.ids
        simp only [List.all_eq_true] at *
        exact fun x hx=>kW x (this x hx)
       have q5:(aG.objs sz l').len=k:=by rw [←hn];simpa [aG.len] using q2
       cases hr with
       | own _ hi _=>
        rcases ho.2 with ⟨hv,hz⟩|⟨g,cap,cur,fz,hv,hg,hh,hnc,hcm,hcs,htake⟩
        ·rw [hv]
         have hcl:cells=[]:=List.eq_nil_of_length_eq_zero (by rw [ho.1,hz];simp)
         subst hcl
         exact .roNil _ q3 q4
        ·have hb:=h1 g (by rw [hv];rfl)
         have hcells:=gB ho (g:=g) (by rw [hv];rfl)
         rw [hv]
         exact .ro _ ⟨g,0,none⟩ k cap cells q3 q5 hnc hcm ⟨trivial,fun _=>hb,hcells⟩ q4
     | _=>exact ha.elim
   ·rename_i ks vs hl
    obtain ⟨ks',vs',h1,h2,rfl⟩:=ha
    obtain ⟨g,es,clock,hv,hT,k1,k2,k3,k4,hh⟩:=h.map i _ _ hl
    cases hr with
    | own _ hi _=>
     rw [hv]
     have q1:=lstT h1 k1
     have q2:=lstT h2 k2
     exact .mp ks' vs' g es clock q1 q2 k3 k4 hT hh (kW _ q1.ids) (kW _ q2.ids)
   ·exact ha.elim
  | pre i k=>
   simp only [aF] at ha
   split at ha
   ·rename_i e r hl
    obtain ⟨h1,h2,rfl⟩:=ha
    exact QZ h hl h1 h2 hr
   ·exact ha.elim
  | nilS=>
   simp only [aF] at ha
   cases hr
   rcases ha with rfl|⟨r,hr,rfl⟩
   ·exact .nilS
   ·exact .roNil r (Ob hr) (by cases r<;>first|rfl|(obtain ⟨_,rfl⟩:=hr;rfl))
  | ptr i off=>
   simp only [aF] at ha
   obtain ⟨e,cs,cs',hl,hcs,rfl⟩:=ha
   obtain ⟨g,vs,hv,hT,hvs,hh⟩:=h.box i e cs hl
   cases hr with
   | ptr _ _ g' _ hg=>
    have hmi:blk (c.m i)=some g':=hg
    rw [hv] at hmi;cases hmi
    have k1:=lst hcs (hvs.drop off)
    refine .cell cs' (vs.drop off) ⟨g,off,none⟩ k1 (bJ.Ii rfl k1) ⟨trivial,fun _=>hT,fun j u hu=>?_⟩
    rw [Addr.add_lit]
    rw [List.getElem?_drop] at hu
    have:=cell_of_row w g (off+j) vs.toArray e (0,0) hh
    show w.cell? _=_
    rw [this];simpa using hu
  | ro r=>simp only [aF] at ha;subst ha;exact hr.eP h.ht rfl
  | bool b=>simp only [aF] at ha;subst ha;exact hr.eP h.ht rfl
  | int k n=>simp only [aF] at ha;subst ha;exact hr.eP h.ht rfl
  | str s=>simp only [aF] at ha;subst ha;exact hr.eP h.ht rfl
  | raw v=>simp only [aF] at ha;subst ha;exact hr.eP h.ht rfl
  | mp ks vs=>simp only [aF] at ha;subst ha;exact hr.eP h.ht rfl
  | dead=>simp only [aF] at ha;subst ha;exact .dead v
  | cell cs=>
   simp only [aF] at ha;subst ha
   cases hr with
   | cell _ vs a hl hi hs=>exact .cell cs vs a (hl.eP h.ht hi) hi (hs.mono' h.ht)
  | _=>simp [aF] at ha
theorem nJ {w:World} {c:Ctx} {rows:List (Nat × Item)} {T:Nat→Prop} (h:BN w c rows T):∀ (l:List AV) {l':List AV} {vs:List Value},aO rows l l'→dF c l vs→dF ⟨w,T,fun _=>undef,0⟩ l' vs
 | [],_,_,ha,hr=>by
  simp only [aO,aT] at ha;subst ha
  cases hr;exact .nil
 | x::l,_,_,ha,hr=>by
  simp only [aO,aT] at ha
  obtain ⟨y,r,h1,h2,rfl⟩:=ha
  cases hr with
  | cons _ v _ vs hv ht=>exact .cons _ _ _ _ (wC h 6 x h1 hv) (nJ h l h2 ht)
/-! ### The state behind a call -/
def tX (k:Nat):List (Nat × Item)→List (Nat × Item)
 | []=>[]
 |(i,it)::l=>(k+i,it.ren (fun j=>k+j))::tX k l
theorem Dz (k:Nat):∀ (l:List (Nat × Item)) (i:Nat) (it:Item),lk (tX k l) i=some it→∃ j jt,i=k+j∧lk l j=some jt∧it=jt.ren (fun j=>k+j)
 |(j,jt)::l,i,it,h=>by
  simp only [tX,lk] at h
  split at h
  ·rename_i e;cases h;exact ⟨j,jt,e.symm,by simp [lk],rfl⟩
  ·rename_i e
   obtain ⟨q,qt,h1,h2,h3⟩:=Dz k l i it h
   refine ⟨q,qt,h1,?_,h3⟩
   simp only [lk];rw [if_neg (by intro e';exact e (by omega))];exact h2
theorem wR {α:Type}:∀ (l l':List (Nat × α)) (i:Nat),lk (l++l') i=match lk l i with|some v=>some v|none=>lk l' i
 | [],_,_=>rfl
 |(j,v)::l,l',i=>by
  simp only [List.cons_append,lk]
  split
  ·rfl
  ·exact wR l l' i
def S.after (s:S) (rows':List (Nat × Item)) (N:Nat) (rows:List (Nat × Item)):S:={ s with rows:=tX s.next rows++rows',next:=s.next+N }
theorem aY.after {H:List (AV × Value)} {s:S} {a:Act} {w:World} {m:Nat→Value} (hm:aY w0 T0 H s a w m) {w':World} (hb:iY w.heap.size w w') {rows':List (Nat × Item)}
  (hsub:∀ i it,lk rows' i=some it→lk s.rows i=some it) {T:Nat→Prop} (hT:∀ b,T b→allow T0 w0.heap.size m rows' b) {out:AV} {rows:List (Nat × Item)} {v:Value} (ho:pK T w.heap.size w' out rows v)
  {N:Nat} (hN:Fv.below N out=true) (hNr:∀ i it,lk rows i=some it→i<N∧it.below N=true) :
  Rep w0 T0 ((ren (fun j=>s.next+j) out,v)::H) (s.after rows' N rows) a w':=by
 obtain ⟨mo,No,hr,hrows,hsep⟩:=ho
 have hitem:∀ i it,lk rows i=some it→aV ⟨w',allow (bs T) w.heap.size mo rows,mo,N⟩ (w.heap.size≤·) (mo i) it:=fun i it hi=>((hrows i it hi).2).cut (hNr i it hi).2
 let m2:Nat→Value:=fun i=>if i<s.next then m i else mo (i - s.next)
 have hm2:∀ i,i<s.next→m2 i=m i:=fun i hi=>if_pos hi
 have hm3:∀ j,m2 (s.next+j)=mo j:=fun j=>by show (if s.next+j<s.next then _ else _)=_;rw [if_neg (by omega),Nat.add_sub_cancel_left]
 have hold:∀ i it,lk rows' i=some it→i<s.next:=fun i it hi=>(hm.rows i it (hsub i it hi)).1
 have hnewB:∀ j jt,lk rows j=some jt→∀ b,blk (mo j)=some b→w.heap.size≤b:=fun j jt hj b hbl=>((hrows j jt hj).2.blk b hbl).1
 have holdB:∀ i it,lk s.rows i=some it→∀ b,blk (m i)=some b→b<w.heap.size:=fun i it hi b hbl=>((hm.rows i it hi).2.blk b hbl).2
 have hcases:∀ i it,lk (tX s.next rows++rows') i=some it→(∃ j jt,i=s.next+j∧lk rows j=some jt∧it=jt.ren (fun j=>s.next+j))∨(i<s.next∧lk rows' i=some it):=by
  intro i it hi
  rw [wR] at hi
  cases hq:lk (tX s.next rows) i with
  | some y=>rw [hq] at hi;cases hi;exact .inl (Dz _ _ _ _ hq)
  | none=>rw [hq] at hi;exact .inr ⟨hold i it hi,hi⟩
 have hle:dI (au T0 w0.heap.size m s w) (au T0 w0.heap.size m2 (s.after rows' N rows) w'):=by
  refine ⟨Nat.le_add_right _ _,hm2,?_⟩
  intro b ⟨h1,h2⟩ hlt
  refine ⟨⟨h1,fun i it hi e=>?_⟩,hb.block b hlt⟩
  rcases hcases i it hi with ⟨j,jt,rfl,hj,_⟩|⟨hlt',hi'⟩
  ·rw [hm3] at e;have h4:=hnewB j jt hj b e;have hlt2:b<w.heap.size:=hlt;omega
  ·rw [hm2 i hlt'] at e;exact h2 i it (hsub i it hi') e
 have hsh:xH (fun j=>s.next+j) (⟨w',allow (bs T) w.heap.size mo rows,mo,N⟩:Ctx) (au T0 w0.heap.size m2 (s.after rows' N rows) w'):=by
  refine ⟨fun i hi=>Nat.add_lt_add_left hi _,fun i _=>hm3 i,?_⟩
  intro b ⟨h1,h2⟩ _
  have hlt0:=hm.lt
  refine ⟨⟨?_,fun i it hi e=>?_⟩,rfl⟩
  ·rcases h1 with h1|h1
   ·exact .inl (by omega)
   ·exact (hT b h1).1
  ·rcases hcases i it hi with ⟨j,jt,rfl,hj,_⟩|⟨hlt',hi'⟩
   ·rw [hm3] at e;exact h2 j jt hj e
   ·rw [hm2 i hlt'] at e
    rcases h1 with h1|h1
    ·have:=holdB i it (hsub i it hi') b e;omega
    ·exact (hT b h1).2 i it hi' e
 refine ⟨m2,aY.hold (s:=s.after rows' N rows) ?_ ((hr.cut hN).shift hsh)⟩
 refine { size:=hm.size,nodef:=hm.nodef,below:=hm.below.step hb.os hb.tape hb.output hb.size (fun k hk _=>hb.block k (Nat.lt_of_lt_of_le hk hm.lt)) hb.drawn,env:=fun r u hu=>(hm.env r u hu).mono hle,held:=fun q hq=>(hm.held q hq).mono hle,rows:=?_,sep:=?_ }
 ·intro i it hi
  rcases hcases i it hi with ⟨j,jt,rfl,hj,rfl⟩|⟨hlt',hi'⟩
  ·refine ⟨Nat.add_lt_add_left (hNr j jt hj).1 _,?_⟩
   rw [hm3]
   exact (hitem j jt hj).shift hsh rfl fun b hb=>.inl (Nat.le_trans hm.lt hb)
  ·refine ⟨by have:i<s.next:=hlt';show i<s.next+N;omega,?_⟩
   rw [hm2 i hlt']
   exact ((hm.rows i it (hsub i it hi')).2).mono hle fun b hbl=>hb.block b (holdB i it (hsub i it hi') b hbl)
 ·intro i j it jt b hi hj hbi hbj
  rcases hcases i it hi with ⟨i',it',rfl,hi',_⟩|⟨hlt',hi'⟩<;>rcases hcases j jt hj with ⟨j',jt',rfl,hj',_⟩|⟨hlt'',hj'⟩
  ·rw [hm3] at hbi hbj
   rw [hsep i' j' it' jt' b hi' hj' hbi hbj]
  ·rw [hm3] at hbi;rw [hm2 j hlt''] at hbj
   have h4:=hnewB i' it' hi' b hbi
   have h5:=holdB j jt (hsub j jt hj') b hbj
   omega
  ·rw [hm3] at hbj;rw [hm2 i hlt'] at hbi
   have h4:=hnewB j' jt' hj' b hbj
   have h5:=holdB i it (hsub i it hi') b hbi
   omega
  ·rw [hm2 i hlt'] at hbi;rw [hm2 j hlt''] at hbj
   exact hm.sep i j it jt b (hsub i it hi') (hsub j jt hj') hbi hbj
def gG (N:Nat):List (Nat × Item)→Prop
 | []=>True
 |(i,it)::l=>(i<N∧it.below N=true)∧gG N l
theorem vO {N:Nat}:∀ {l:List (Nat × Item)},gG N l→∀ i it,lk l i=some it→i<N∧it.below N=true
 |(j,jt)::l,h,i,it,hi=>by
  simp only [lk] at hi
  split at hi
  ·rename_i e;subst e;cases hi;exact h.1
  ·exact vO h.2 i it hi
theorem ah.fr [hG:qL P w0 T0] {f:Nat} {args args':List AV} {out:AV} {rows:List (Nat × Item)} {s:S} {K:AV→S→Prop} (h:fD P f args' out rows) (ha:aO s.rows args args') (N:Nat) (hN:Fv.below N out=true) (hNr:gG N rows)
  (hk:K (ren (fun j=>s.next+j) out) (s.after s.rows N rows)):@ah P w0 T0 f args s ⟨K⟩:=by
 refine ⟨h.1,fun H a w m vals hm hv=>?_⟩
 have hl:BN w (au T0 w0.heap.size m s w) s.rows (fun _=>True):=
  {hw:=rfl,t:=fun _ _=>trivial,
   own:=fun i e r hi=>by
    obtain ⟨n,cells,hc,hn,ho,hO⟩:=(hm.rows i _ hi).2
    exact ⟨fun _ _=>trivial,n,cells,hc,hn,ho⟩,
   box:=fun i e cs hi=>by
    obtain ⟨g,vs,hv,_,hl,hh⟩:=(hm.rows i _ hi).2
    exact ⟨g,vs,hv,trivial,hl,hh⟩,
   map:=fun i ks vs hi=>by
    obtain ⟨g,es,clock,hv,_,h1,h2,h3,h4,hh⟩:=(hm.rows i _ hi).2
    exact ⟨g,es,clock,hv,trivial,h1,h2,h3,h4,hh⟩ }
 refine (h.2 w (fun _=>True) vals (qL.at hm) (nJ hl _ ha hv)).mono ?_
 rintro e w' ⟨v,rfl,hb,ho⟩
 exact ⟨v,rfl,_,_,hk,hm.after hb (fun _ _ h=>h) (fun b hb=>hb.elim) ho hN (vO hNr)⟩
theorem ah.sh [hG:qL P w0 T0] (rows':List (Nat × Item)) {f:Nat} {args args':List AV} {out:AV} {rows:List (Nat × Item)} {s:S} {K:AV→S→Prop} (h:aC P f args' out rows) (lent:List (Nat × Item)) (ha:aO lent args args')
  (hsub:∀ i it,lk rows' i=some it→lk s.rows i=some it) (hlent:∀ i it,lk lent i=some it→lk s.rows i=some it∧lk rows' i=none) (N:Nat) (hN:Fv.below N out=true) (hNr:gG N rows)
  (hk:K (ren (fun j=>s.next+j) out) (s.after rows' N rows)):@ah P w0 T0 f args s ⟨K⟩:=by
 refine ⟨h.1,fun H a w m vals hm hv=>?_⟩
 have hl:BN w (au T0 w0.heap.size m s w) lent (allow T0 w0.heap.size m rows'):=
  {hw:=rfl,t:=fun b hb=>⟨hb.1,fun i it hi=>hb.2 i it (hsub i it hi)⟩,
   own:=fun i e r hi=>by
    obtain ⟨h1,h2⟩:=hlent i _ hi
    obtain ⟨n,cells,hc,hn,ho,hO⟩:=(hm.rows i _ h1).2
    refine ⟨fun b hb=>⟨(hO b hb).imp id (·.2),fun j jt hj hbj=>?_⟩,n,cells,hc,hn,ho⟩
    have:=hm.sep i j _ jt b h1 (hsub j jt hj) hb hbj
    subst this
    exact absurd (h2.symm.trans hj) (by simp),
   box:=fun i e cs hi=>by
    obtain ⟨h1,h2⟩:=hlent i _ hi
    obtain ⟨g,vs,hv,hg,hl,hh⟩:=(hm.rows i _ h1).2
    refine ⟨g,vs,hv,⟨hg.imp id (·.2),fun j jt hj hbj=>?_⟩,hl,hh⟩
    have:=hm.sep i j _ jt g h1 (hsub j jt hj) (by show blk (m i)=some g;rw [show m i=_ from hv];rfl) hbj
    subst this
    rw [h2] at hj;exact absurd hj (by simp),
   map:=fun i ks vs hi=>by
    obtain ⟨h1,h2⟩:=hlent i _ hi
    obtain ⟨g,es,clock,hv,hg,k1,k2,k3,k4,hh⟩:=(hm.rows i _ h1).2
    refine ⟨g,es,clock,hv,⟨hg.imp id (·.2),fun j jt hj hbj=>?_⟩,k1,k2,k3,k4,hh⟩
    have:=hm.sep i j _ jt g h1 (hsub j jt hj) (by show blk (m i)=some g;rw [show m i=_ from hv];rfl) hbj
    subst this
    rw [h2] at hj;cases hj }
 refine (h.2 w _ vals (qL.at hm) (nJ hl _ ha hv)).mono ?_
 rintro e w' ⟨v,rfl,hb,ho⟩
 exact ⟨v,rfl,_,_,hk,hm.after hb hsub (fun b hb=>hb) ho hN (vO hNr)⟩
end
end Go.Fv
/-
 Congruences: only the state of a word is reckoned out, not what stands behind it.
-/
namespace Go.Fv
section
variable {P:Program} {w0:World} {T0:Bs} {s s':S} {K:AV→S→Prop}
@[congr] theorem VQ {ops:Array Oper} {o:Oper} {k:S→Prop} (h:s=s'):KJ P w0 T0 ops o s k=KJ P w0 T0 ops o s' k:=by rw [h]
@[congr] theorem Uw {o:Oper} {c c':Bool} {s1 s2:S} {k:S→Prop} (hc:c=c') (h:s=s'):uh P w0 T0 o c s s1 s2 k=uh P w0 T0 o c' s' s1 s2 k:=by rw [hc,h]
@[congr] theorem UK {ops:Array Oper} {l:List Oper} {k:S→Prop} (h:s=s'):BI P w0 T0 ops l s k=BI P w0 T0 ops l s' k:=by rw [h]
@[congr] theorem Uu {ops:Array Oper} {l:xI} {k:S→Prop} (h:s=s'):jE P w0 T0 ops l s k=jE P w0 T0 ops l s' k:=by rw [h]
@[congr] theorem Ut {b0:Nat} {c:Code} {Q:Exit→S→Prop} (h:s=s'):jd P w0 T0 b0 c Q s=jd P w0 T0 b0 c Q s':=by rw [h]
@[congr] theorem UL {d:Option Nat} {v v':AV} {k:S→Prop} (hv:v=v') (h:s=s'):gZ d v s k=gZ d v' s' k:=by rw [hv,h]
@[congr] theorem VR {o:Oper} (h:s=s'):mQ P w0 T0 o s K=mQ P w0 T0 o s' K:=by rw [h]
@[congr] theorem RU {c:Call} (h:s=s'):mM P w0 T0 c s K=mM P w0 T0 c s' K:=by rw [h]
end
end Go.Fv
/-
 Facts about types, out of one glance each.
-/
namespace Go.Fv
def Ux:Value→Bool
 | .int k n=>NU k n
 | .string s=>s.size == 0
 | .agg cs=>(cs.toList.all fun v=>v.oneCell' && (match v with | .string s=>s.size == 0|_=>true)) && decide (0<cs.size)
 | .tuple _=>false
 | _=>true
theorem RV {v:Value} (h:Ux v=true):Xa v:=by
 cases v<;>first|trivial|cases h;done|skip
 case int k n=>exact Gg h
 case string s=>
  have h':s.size=0:=by simpa [Ux] using h
  show s.size≤maxLen
  rw [h'];exact Nat.zero_le _
 case agg cs=>
  simp only [Ux,Bool.and_eq_true,List.all_eq_true,decide_eq_true_eq] at h
  refine ⟨fun v hv=>⟨(h.1 v hv).1,?_⟩,h.2⟩
  have h2:=(h.1 v hv).2
  cases v<;>try trivial
  rename_i s
  have h':s.size=0:=by simpa using h2
  show s.size≤maxLen
  rw [h'];exact Nat.zero_le _
theorem aZ.of {P:Program} {e:TypeId} {z:Value} (h:(P.info? e).map (fun i=>(i.zero,i.size,decide (i.bytes≤1024)))=some (some z,z.cells.size,true)) (hz:Ux z=true):aZ P e z:=by
 refine ⟨?_,RV hz⟩
 cases hi:P.info? e with
 | none=>rw [hi] at h;cases h
 | some i=>
  rw [hi] at h
  simp only [Option.map_some,Option.some.injEq,Prod.mk.injEq,decide_eq_true_eq] at h
  exact ⟨i,rfl,h.1,h.2.1,h.2.2⟩
theorem aZ.zero {P:Program} {e:TypeId} {z:Value} (h:aZ P e z):zeroOf P e=some z:=by
 obtain ⟨i,h1,h2,_⟩:=h.ex
 simp [zeroOf,h1,h2]
theorem aZ.cellsOf {P:Program} {e:TypeId} {z:Value} (h:aZ P e z):P.cellsOf e=z.cells.size:=by
 obtain ⟨i,h1,h2,h3,_⟩:=h.ex
 simp [Program.cellsOf,h1,h3]
end Go.Fv
/-
 The names of one state among those of another, found by looking; steps of a walk.
-/
namespace Go.Fv
mutual
def mkV:AV→AV→List (Nat × Nat)
 | .own i,y=>match y with | .own k=>[(i,k)]|_=>[]
 | .ptr i _,y=>match y with | .ptr k _=>[(i,k)]|_=>[]
 | .elt i _ _ _,y=>match y with | .elt k _ _ _=>[(i,k)]|_=>[]
 | .pre i _,y=>match y with | .pre k _=>[(i,k)]|_=>[]
 | .agg l,y=>match y with | .agg l'=>y7 l l'|_=>[]
 | .tup l,y=>match y with | .tup l'=>y7 l l'|_=>[]
 | .fn _ l,y=>match y with | .fn _ l'=>y7 l l'|_=>[]
 | .dead,_=>[]
 | .nilS,_=>[]
 | .bool _,_=>[]
 | .int _ _,_=>[]
 | .str _,_=>[]
 | .ro _,_=>[]
 | .cell _,_=>[]
 | .raw _,_=>[]
 | .opt _ x,y=>match y with | .opt _ y'=>mkV x y'|_=>[]
 | .mp _ _,_=>[]
def y7:List AV→List AV→List (Nat × Nat)
 | [],_=>[]
 | x::l,ys=>match ys with|y::l'=>mkV x y++y7 l l'|[]=>[]
end
def MK (s:S):List (Nat × AV)→List (Nat × Nat)
 | []=>[]
 |(r,v)::l=>mkV v (s.get r)++MK s l
def TQ:List (List AV)→List (List AV)→List (Nat × Nat)
 | [],_=>[]
 | x::l,ys=>match ys with|y::l'=>y7 x y++TQ l l'|[]=>[]
def X4:aG→aG→List (Nat × Nat)
 | .objs _ l,.objs _ l'=>TQ l l'
 | _,_=>[]
def mkItem:Item→Option Item→List (Nat × Nat)
 | .box _ cs,some (.box _ cs')=>y7 cs cs'
 | .row _ r,some (.row _ r')=>X4 r r'
 | .map ks vs,some (.map ks' vs')=>y7 ks ks'++y7 vs vs'
 | .iter i _ _,some (.iter k _ _)=>[(i,k)]
 | _,_=>[]
def EY (l:List (Nat × Nat)) (rows:List (Nat × Item)):List (Nat × Item)→List (Nat × Nat)
 | []=>[]
 |(i,it)::rest=>mkItem it (lk rows (pm l i))++EY l rows rest
def DJ (s s':S):List (Nat × Nat):=MK s s'.env++EY (MK s s'.env) s.rows s'.rows
theorem SY (k:IntKind) (n:Int):(Value.int k n).cells.size=1:=rfl
theorem Pq (b:Bool):(Value.bool b).cells.size=1:=rfl
theorem Tc (b:ByteArray):(Value.string b).cells.size=1:=rfl
theorem ND (a:Option Addr) (n m:Nat):(Value.slice a n m).cells.size=1:=rfl
theorem S9 (a:Option Addr):(Value.pointer a).cells.size=1:=rfl
theorem SX (a:Array Value):(Value.agg a).cells.size=a.size:=rfl
theorem Ite.bool {b:Bool} {x y:Prop} (h1:b=true→x) (h2:b=false→y):@Ite b ⟨x⟩ ⟨y⟩:=⟨h1,h2⟩
def jY (b:Nat):List (Nat × Nat)→List (Nat × Nat)
 | []=>[]
 | x::l=>if b≤x.1 then x::jY b l else jY b l
theorem uP (b:Nat):∀ (l:List (Nat × Nat)) x,x∈jY b l→b≤x.1
 | y::l,x,h=>by
  simp only [jY] at h
  split at h
  ·rename_i hb
   cases List.mem_cons.1 h with
   | inl e=>subst e;exact hb
   | inr e=>exact uP b l x e
  ·exact uP b l x h
section
variable {w0:World} {T0:Bs} {b0:Nat}
theorem aK.ak {s s':S} (hn:s'.n=s.n) (he:xU (pm (DJ s s')) s s'.next s'.env) (hr:mF (pm (DJ s s')) s.rows s'.next s'.rows):aK w0 T0 0 s s':=
 aK.of (DJ s s') hn (Nat.zero_le _) (fun _ _=>Nat.zero_le _) he hr
theorem aK.UD (k:Nat) {s s':S} (hn:s'.n=s.n) (hk:k≤s'.next) (he:xU (pm (jY k (DJ s s'))) s s'.next s'.env) (hr:mF (pm (jY k (DJ s s'))) s.rows s'.next s'.rows):aK w0 T0 k s s':=
 aK.of _ hn hk (uP k _) he hr
def VG (s:S):ResultVar→AV
 | .tmp t=>s.ev (.tmp t)
 | .cell t _=>match s.get t with
  | .ptr i off=>match lk s.rows i with
   | some (.box _ cs)=>.agg (cs.drop off)
   | _=>.dead
  | _=>.dead
def H9 (s:S) (res:List ResultVar) (out:AV) (rows:List (Nat × Item)):List (Nat × Nat):=
 mkV out (kQ (res.map (VG s)))++EY (mkV out (kQ (res.map (VG s)))) s.rows rows
theorem bg.auto {P:Program} (N:Nat) {res:List ResultVar} {out:AV} {rows:List (Nat × Item)} {s:S} (h:wZ P s res (fun vs=>kQ vs=ren (pm (H9 s res out rows)) out)) (hb:Fv.below N out=true) (hr:mF (pm (H9 s res out rows)) s.rows N rows):bg P w0 T0 res out rows s:=
 bg.of _ N h hb hr
end
end Go.Fv
/-
 The set by which a walk is reckoned.
-/
namespace Go.Fv
theorem O1 (p q:Prop) [Decidable p] [Decidable q]:(decide p && decide q)=decide (p∧q):=by simp
theorem SN (p q:Prop) [Decidable p] [Decidable q]:(decide p || decide q)=decide (p∨q):=by simp
theorem O8 (p:Prop) [Decidable p]:(!decide p)=decide (¬p):=by simp
attribute [go_sem] not_true_eq_false or_true true_or false_or or_false and_false false_and or_self and_self Array.toList_replicate List.map_replicate List.mem_replicate not_false_eq_true ne_eq Value.oneCell' maxLen_eq Nat.zero_le O1 SN O8 AV.int.injEq AV.bool.injEq jd thenS zH Mc BI KJ mQ ug BJ jP je Ee rO Bv BH iJ kF rU xC gZ mM I5 jB sN Bl Ad FK KN Q5 Xb Ae kd Gf eq1 KO uf vV vS I9 Qi zo qJ lg xX vZ FN F8 lQ iO intsOf oW jE S.ev S.get S.set S.add S.swap S.after tX lk put del evs aA eu E5 NU ren gK jZ pY jm lT eU EM gY Et bnd Gs kK dM lD spl appRow rE iK S.upd idxFrom sV placeOf bytesOf dA bM below aP aG.len aG.sz Item.ren SY Pq Tc ND S9 SX List.length_append List.length_set List.length_replicate List.length_nil List.mem_cons List.not_mem_nil or_false forall_eq forall_eq_or_imp implies_true false_implies eq_self List.set_cons_zero List.set_cons_succ List.drop_zero List.drop_succ_cons List.take_succ_cons List.take_zero List.size_toArray List.length_cons List.map_cons List.map_nil List.replicate_zero List.nil_append List.cons_append List.append_nil List.reverse_nil List.zipIdx_cons List.zipIdx_nil Array.toList_empty List.getElem?_cons_zero List.getElem?_cons_succ List.getElem?_toArray Option.bind_some Option.map_some Option.getD_some Nat.one_mul decide_true decide_false Bool.and_self Bool.true_and Bool.false_and Bool.and_true Bool.and_false Bool.not_true Bool.not_false cond_true cond_false OM Nl and_true true_and and_self OL Bool.not_eq_true' Nat.zero_add Nat.add_zero Int.toNat_natCast Int.ofNat_eq_natCast V5 V6 kP fJ peel JD Wx Wy gHead G7 PO su tN uh Sm V8 V7 Bool.and_eq_true decide_eq_true_eq Bool.cond_true_left Bool.cond_false_right imp_self Bool.not_eq_true decide_eq_false_iff_not Decidable.not_not Bool.not_not jl sO Int.natCast_zero
end Go.Fv
/-
 Regions whose order is drawn: walked once, in the text's order. Operations that leave the abstract state as it is may come in any order;
 those that change it ('es') come in the text's order among themselves.
-/
namespace Go.Fv
open Go.RowKit
abbrev rW:=List (Nat × Item) × Nat
def eY:Op→List Operand
 | .move x=>[x]
 | .assign x=>[x]
 | .pick c x y=>[c,x,y]
 | .extract x _=>[x]
 | .makeFunc _ first caps=>first.toList++caps.toList
 | .box _ x=>[x]
 | .load _ x=>[x]
 | .store _ x v=>[x,v]
 | .nilCheck x=>[x]
 | .fieldAddr _ x _=>[x]
 | .indexAddr _ x i=>[x,i]
 | .makeSlice _ l c=>[l,c]
 | .binOp _ _ x y _=>[x,y]
 | .unOp _ _ x=>[x]
 | .convert _ _ x=>[x]
 | .index _ x i=>[x,i]
 | .lookup _ x i _=>[x,i]
 | .mapUpdate _ m k v=>[m,k,v]
 | .mapEntry _ m k=>[m,k]
 | .entryStore _ m t v=>[m,t,v]
 | .range _ x=>[x]
 | .next x _=>[x]
 | .field _ x _=>[x]
 | .slice _ x l h m=>x::(l.toList++(h.toList++m.toList))
 | .buildSlice _ _ ps=>ps.toList.map (·.2)
 | .build _ ps=>ps.toList.map (·.2)
 | .call c=>match c.callee with
  | .value f=>f::c.args.toList
  | _=>c.args.toList
 | _=>[]
def UG (v:AV):AV:=match v with
 | .opt _ v=>v
 | v=>v
def dY (s:S):List Operand→List (Nat × AV)
 | []=>[]
 | .tmp t::l=>(t,s.get t)::dY s l
 | .const _::l=>dY s l
 | .func _::l=>dY s l
 | .global _::l=>dY s l
def jy (s:S):List Operand→List (Nat × AV)
 | []=>[]
 | .tmp t::l=>(t,UG (s.get t))::jy s l
 | .const _::l=>jy s l
 | .func _::l=>jy s l
 | .global _::l=>jy s l
def gd (ops:Array Oper) (s:S) (o:Oper):Option (Option Bool):=
 match o.guard with
 | none=>some none
 | some (j,want)=>match (ops[j]?).bind (·.dst) with
  | some r=>match s.get r with
   | .bool b=>some (some (bif want then b else !b))
   | .opt c (.bool b)=>some (some (c && bif want then b else !b))
   | _=>none
  | none=>none
def Oj (P:Program) (w0:World) (T0:Bs) (o:Oper) (s1:S) (v:AV):Prop:=
 mQ P w0 T0 o s1 (fun r s'=>r=v∧s'.rows=s1.rows∧s'.next=s1.next)
structure Acc where
 o:Oper
 g:Option Bool
 env:List (Nat × AV)
 v:AV
 ks:List Nat
def DY (P:Program) (w0:World) (T0:Bs) (n:Nat) (x:Acc) (hs:List rW):List Nat→Prop
 | []=>True
 | k::l=>(match hs[k]? with
  | some h=>match x.g with
   | none=>Oj P w0 T0 x.o ⟨n,x.env,h.1,h.2⟩ x.v
   | some c=>Fv.below h.2 x.v=true∧(c=true→Oj P w0 T0 x.o ⟨n,x.env,h.1,h.2⟩ x.v)
  | none=>False)∧DY P w0 T0 n x hs l
def redo (P:Program) (w0:World) (T0:Bs) (n:Nat) (hs:List rW):List Acc→Prop
 | []=>True
 | x::l=>DY P w0 T0 n x hs x.ks∧redo P w0 T0 n hs l
class QB where
 A:AV→Prop
 B:AV→Prop
class QC where
 A:AV→List (Nat × Item)→Nat→Prop
 B:AV→List (Nat × Item)→Nat→Prop
def QV [x:QB]:Prop:=∃ v,x.A v∧x.B v
def QE [x:QC]:Prop:=∃ v rows N,x.A v rows N∧x.B v rows N
theorem QV.intro {A B:AV→Prop} (v:AV) (h:A v) (k:B v):@QV ⟨A,B⟩:=⟨v,h,k⟩
theorem QE.intro {A B:AV→List (Nat × Item)→Nat→Prop} (v:AV) (rows:List (Nat × Item)) (N:Nat) (h:A v rows N) (k:B v rows N):@QE ⟨A,B⟩:=⟨v,rows,N,h,k⟩
def ny (ks:List Nat) (x:Acc) (l:List Acc):List Acc:=match ks with
 | []=>l
 | _::_=>x::l
def nR (tb:List (Nat × List Nat)) (i:Nat):List Nat:=match lk tb i with
 | some l=>l
 | none=>[]
def sF:Op→Bool
 | .move _=>true
 | .assign _=>true
 | .extract _ _=>true
 | .makeFunc _ _ _=>true
 | .box _ _=>true
 | .alloc _=>true
 | .store _ _ _=>true
 | .nilCheck _=>true
 | .makeSlice _ _ _=>true
 | .unOp _ _ _=>true
 | .convert _ _ _=>true
 | .buildSlice _ _ _=>true
 | .build _ _=>true
 | .makeMap _ _=>true
 | .mapUpdate _ _ _ _=>true
 | .mapEntry _ _ _=>true
 | .entryStore _ _ _ _=>true
 | .range _ _=>true
 | .call c=>match c.callee with
  | .builtin .append=>true
  | .builtin .min=>true
  | .builtin .max=>true
  | _=>false
 | _=>false
def rZ:List Nat→Nat→Bool
 | [],_=>false
 | j::l,i=>if i=j then true else rZ l i
theorem zS:∀ (l:List Nat) (i:Nat),rZ l i=l.elem i
 | [],_=>rfl
 | j::l,i=>by
  simp only [rZ,List.elem_cons,zS l i]
  by_cases h:i=j
  ·simp [h]
  ·have:(i == j)=false:=by simpa using h
   rw [if_neg h,this]
/-! ### The walk: what comes behind is not looked at before it is reached -/
inductive QR where
 | val (v:AV) (p:Prop) (re:Bool)
 | lin
 | call
class Yd where
 k:Option Bool→Prop
class Yb where
 x:Prop
 y:Prop
class Yc where
 k:AV→List (Nat × Item)→Nat→Prop
class Ye where
 k:AV→Bool→Prop
 l:Prop
 c:Prop
def Vm (x:Option (Option Bool)) [K:Yd]:Prop:=match x with
 | some g=>K.k g
 | none=>False
def U3 (b:Bool) [K:Yb]:Prop:=match b with
 | true=>K.x
 | false=>K.y
def Ws (v:AV) (t:S) [K:Yc]:Prop:=K.k v t.rows t.next
def WV (x:QR) [K:Ye]:Prop:=match x with
 | .val v p re=>aX p (K.k v re)
 | .lin=>K.l
 | .call=>K.c
theorem PN (g:Option Bool) (k:Option Bool→Prop):@Vm (some g) ⟨k⟩=k g:=rfl
theorem OZ (x y:Prop):@U3 true ⟨x,y⟩=x:=rfl
theorem Nr (x y:Prop):@U3 false ⟨x,y⟩=y:=rfl
theorem Vg (v:AV) (n:Nat) (env:List (Nat × AV)) (R:List (Nat × Item)) (N:Nat) (k:AV→List (Nat × Item)→Nat→Prop):@Ws v ⟨n,env,R,N⟩ ⟨k⟩=k v R N:=rfl
theorem Uf (v:AV) (p:Prop) (re:Bool) (k:AV→Bool→Prop) (l c:Prop):@WV (.val v p re) ⟨k,l,c⟩=aX p (k v re):=rfl
theorem Ue (k:AV→Bool→Prop) (l c:Prop):@WV .lin ⟨k,l,c⟩=l:=rfl
theorem Q8 (k:AV→Bool→Prop) (l c:Prop):@WV .call ⟨k,l,c⟩=c:=rfl
def yj (g:Option Bool) (v:AV):AV:=match g with
 | none=>v
 | some c=>.opt c v
def nU (g:Option Bool) (s:S) (l:List Operand):List (Nat × AV):=match g with
 | none=>dY s l
 | some _=>jy s l
def gX (d:Option Nat) (n:Nat):Prop:=match d with
 | none=>True
 | some d=>d<n
def gJ (d:Option Nat) (v:AV) (s:S):S:=match d with
 | none=>s
 | some d=>⟨s.n,(d,v)::s.env,s.rows,s.next⟩
def AL (P:Program) (w0:World) (T0:Bs) (o:Oper) (g:Option Bool) (s:S) (v:AV):Prop:=match g with
 | none=>Oj P w0 T0 o ⟨s.n,dY s (eY o.op),s.rows,s.next⟩ v
 | some c=>Fv.below s.next v=true∧(c=true→fJ s (eY o.op)=true∧Oj P w0 T0 o ⟨s.n,jy s (eY o.op),s.rows,s.next⟩ v)
def Q9 (P:Program) (w0:World) (T0:Bs) (o:Oper) (g:Option Bool) (s:S):QR:=
 match su ⟨s.n,dY s (eY o.op),s.rows,s.next⟩ o.op with
 | some (pre,b)=>match g with
  | none=>.val (.bool b) (pre∧tN o.op) false
  | some c=>.val (.bool b) (c=true→pre∧tN o.op) false
 | none=>match PO P ⟨s.n,nU g s (eY o.op),s.rows,s.next⟩ o.op with
  | some v=>.val v (AL P w0 T0 o g s v) true
  | none=>match g,sF o.op with
   | none,true=>.lin
   | _,_=>.call
def kR (P:Program) (w0:World) (T0:Bs) (ops:Array Oper) (es:List Nat) (tb:List (Nat × List Nat)):List Oper→Nat→List Acc→List rW→S→(S→Prop)→Prop
 | [],_,acc,hs,s,Q=>redo P w0 T0 s.n hs acc∧Q s
 | o::rest,i,acc,hs,s,Q=>
  @Vm (gd ops s o) ⟨fun g=>@U3 (rZ es i) ⟨
   match g with
   | none=>@U3 (sF o.op) ⟨
     mQ P w0 T0 o ⟨s.n,dY s (eY o.op),s.rows,s.next⟩ (fun v t=>@Ws v t ⟨fun v R N=>aX (gX o.dst s.n) (kR P w0 T0 ops es tb rest (i+1) acc (hs++[(R,N)]) (gJ o.dst v ⟨s.n,s.env,R,N⟩) Q)⟩),
     @QE ⟨fun v R N=>mQ P w0 T0 o ⟨s.n,dY s (eY o.op),s.rows,s.next⟩ (fun r t=>r=v∧t.rows=R∧t.next=N),
      fun v R N=>aX (gX o.dst s.n) (kR P w0 T0 ops es tb rest (i+1) acc (hs++[(R,N)]) (gJ o.dst v ⟨s.n,s.env,R,N⟩) Q)⟩⟩
   | some c=>@Ite c ⟨@QE ⟨fun v R N=>fJ s (eY o.op)=true∧mQ P w0 T0 o ⟨s.n,jy s (eY o.op),s.rows,s.next⟩ (fun r t=>r=v∧t.rows=R∧t.next=N),
      fun v R N=>aX (gX o.dst s.n) (kR P w0 T0 ops es tb rest (i+1) acc (hs++[(R,N)]) (gJ o.dst (.opt true v) ⟨s.n,s.env,R,N⟩) Q)⟩⟩
     ⟨aX (gX o.dst s.n) (kR P w0 T0 ops es tb rest (i+1) acc (hs++[(s.rows,s.next)]) (gJ o.dst (.opt false (.bool false)) s) Q)⟩,
   @WV (Q9 P w0 T0 o g s) ⟨
    fun v re=>aX (gX o.dst s.n) (kR P w0 T0 ops es tb rest (i+1) (bif re then ny (nR tb i) ⟨o,g,nU g s (eY o.op),v,nR tb i⟩ acc else acc) hs (gJ o.dst (yj g v) s) Q),
    mQ P w0 T0 o ⟨s.n,dY s (eY o.op),s.rows,s.next⟩ (fun v t=>@Ws v t ⟨fun v R N=>aX (R=s.rows∧N=s.next) (aX (gX o.dst s.n) (kR P w0 T0 ops es tb rest (i+1) (ny (nR tb i) ⟨o,g,nU g s (eY o.op),v,nR tb i⟩ acc) hs (gJ o.dst v s) Q))⟩),
    @QV ⟨fun v=>AL P w0 T0 o g s v,
     fun v=>aX (gX o.dst s.n) (kR P w0 T0 ops es tb rest (i+1) (ny (nR tb i) ⟨o,g,nU g s (eY o.op),v,nR tb i⟩ acc) hs (gJ o.dst (yj g v) s) Q)⟩⟩⟩⟩
theorem jD {d:Option Nat} {v:AV} {s:S} {Q:S→Prop} (h1:gX d s.n) (h2:Q (gJ d v s)):gZ d v s Q:=by
 unfold gZ
 cases d with
 | none=>exact h2
 | some d=>simp only [gX] at h1;simp only [h1,if_true];exact h2
end Go.Fv
