/-
  A part of the proof of the claim: walks over the program's functions and the plain laws that these need. No condition of its own.
-/
import Derived.WalkKit
import Derived.Deep.LoopGhost
set_option linter.unusedSectionVars false
set_option linter.unusedVariables false
set_option linter.unusedSimpArgs false
set_option linter.unnecessarySimpa false
/-
 Abstract values and states for the walks: what a slot holds, as plain data; what the call's own memory holds. 'Rep' ties a state to a frame and a world.
-/
namespace Go.Fv
open Go.RowKit
def jf (k:IntKind) (n:Int):Prop:=k.min≤n∧n≤k.max
mutual
inductive AV where
 | dead
 | nilS
 | bool (b:Bool)
 | int (k:IntKind) (n:Int)
 | str (s:List UInt8)
 | ro (r:aF)
 | own (i:Nat)
 | cell (cs:List AV)
 | ptr (i:Nat) (off:Nat)
 | elt (i sz idx off:Nat)
 | pre (i n:Nat)
 | suf (i sz o n:Nat)
 | agg (cs:List AV)
 | tup (cs:List AV)
 | fn (f:Nat) (caps:List AV)
 | raw (v:Value)
 | opt (b:Bool) (v:AV)
 | ifc (t:TypeId) (v:AV)
 | bm (f:Nat) (v:AV)
 | mp (ks vs:List AV)
inductive aF where
 | bools (l:List Bool)
 | ints (k:IntKind) (l:List Int)
 | strs (l:List (List UInt8))
 | objs (sz:Nat) (l:List (List AV))
end
def aF.sz:aF→Nat
 | .objs sz _=>sz
 | _=>1
def aF.len:aF→Nat
 | .bools l=>l.length
 | .ints _ l=>l.length
 | .strs l=>l.length
 | .objs _ l=>l.length
structure Ctx where
 w:World
 T:Nat→Prop
 m:Nat→Value
 N:Nat
mutual
def bW:AV→Bool
 | .own _=>false
 | .ptr _ _=>false
 | .elt _ _ _ _=>false
 | .pre _ _=>false
 | .suf _ _ _ _=>false
 | .agg cs=>bT cs
 | .tup cs=>bT cs
 | .fn _ cs=>bT cs
 | .cell _=>true
 | .dead=>true
 | .nilS=>true
 | .bool _=>true
 | .int _ _=>true
 | .str _=>true
 | .ro _=>true
 | .raw _=>true
 | .opt _ v=>bW v
 | .ifc _ v=>bW v
 | .bm _ v=>bW v
 | .mp _ _=>true
def bT:List AV→Bool
 | []=>true
 | x::l=>bW x && bT l
end
mutual
def below (n:Nat):AV→Bool
 | .own i=>decide (i<n)
 | .ptr i _=>decide (i<n)
 | .elt i _ _ _=>decide (i<n)
 | .pre i _=>decide (i<n)
 | .suf i _ _ _=>decide (i<n)
 | .agg cs=>aQ n cs
 | .tup cs=>aQ n cs
 | .fn _ cs=>aQ n cs
 | .cell _=>true
 | .dead=>true
 | .nilS=>true
 | .bool _=>true
 | .int _ _=>true
 | .str _=>true
 | .ro _=>true
 | .raw _=>true
 | .opt _ v=>below n v
 | .ifc _ v=>below n v
 | .bm _ v=>below n v
 | .mp _ _=>true
def aQ (n:Nat):List AV→Bool
 | []=>true
 | x::l=>below n x && aQ n l
end
mutual
def ren (p:Nat→Nat):AV→AV
 | .own i=>.own (p i)
 | .ptr i o=>.ptr (p i) o
 | .elt i a b c=>.elt (p i) a b c
 | .pre i k=>.pre (p i) k
 | .suf i a b k=>.suf (p i) a b k
 | .agg cs=>.agg (bZ p cs)
 | .tup cs=>.tup (bZ p cs)
 | .fn f cs=>.fn f (bZ p cs)
 | .cell cs=>.cell cs
 | .dead=>.dead
 | .nilS=>.nilS
 | .bool b=>.bool b
 | .int k n=>.int k n
 | .str s=>.str s
 | .ro r=>.ro r
 | .raw v=>.raw v
 | .opt b v=>.opt b (ren p v)
 | .ifc t v=>.ifc t (ren p v)
 | .bm t v=>.bm t (ren p v)
 | .mp ks vs=>.mp ks vs
def bZ (p:Nat→Nat):List AV→List AV
 | []=>[]
 | x::l=>ren p x::bZ p l
end
mutual
theorem below_le {n k:Nat} (hk:n≤k):∀ x:AV,below n x=true→below k x=true
 | .own i,h=>by simp [below] at *;omega
 | .ptr i o,h=>by simp [below] at *;omega
 | .elt i a b c,h=>by simp [below] at *;omega
 | .pre i k,h=>by simp [below] at *;omega
 | .suf i a b k,h=>by simp [below] at *;omega
 | .agg cs,h=>by simp only [below] at *;exact iy hk cs h
 | .tup cs,h=>by simp only [below] at *;exact iy hk cs h
 | .fn f cs,h=>by simp only [below] at *;exact iy hk cs h
 | .cell cs,_=>rfl
 | .dead,_=>rfl
 | .nilS,_=>rfl
 | .bool _,_=>rfl
 | .int _ _,_=>rfl
 | .str _,_=>rfl
 | .ro _,_=>rfl
 | .raw _,_=>rfl
 | .opt _ v,h=>by simp only [below] at *;exact below_le hk v h
 | .ifc _ v,h=>by simp only [below] at *;exact below_le hk v h
 | .bm _ v,h=>by simp only [below] at *;exact below_le hk v h
 | .mp _ _,_=>rfl
theorem iy {n k:Nat} (hk:n≤k):∀ x:List AV,aQ n x=true→aQ k x=true
 | [],_=>rfl
 | x::l,h=>by
  simp only [aQ,Bool.and_eq_true] at h
  simp [aQ,below_le hk x h.1,iy hk l h.2]
end
mutual
theorem iR (n:Nat):∀ x:AV,bW x=true→below n x=true
 | .own i,h=>by simp [bW] at h
 | .ptr i o,h=>by simp [bW] at h
 | .elt i a b c,h=>by simp [bW] at h
 | .pre i k,h=>by simp [bW] at h
 | .suf i a b k,h=>by simp [bW] at h
 | .agg cs,h=>by simp only [bW,below] at *;exact dY n cs h
 | .tup cs,h=>by simp only [bW,below] at *;exact dY n cs h
 | .fn f cs,h=>by simp only [bW,below] at *;exact dY n cs h
 | .cell cs,_=>rfl
 | .dead,_=>rfl
 | .nilS,_=>rfl
 | .bool _,_=>rfl
 | .int _ _,_=>rfl
 | .str _,_=>rfl
 | .ro _,_=>rfl
 | .raw _,_=>rfl
 | .opt _ v,h=>by simp only [bW,below] at *;exact iR n v h
 | .ifc _ v,h=>by simp only [bW,below] at *;exact iR n v h
 | .bm _ v,h=>by simp only [bW,below] at *;exact iR n v h
 | .mp _ _,_=>rfl
theorem dY (n:Nat):∀ x:List AV,bT x=true→aQ n x=true
 | [],_=>rfl
 | x::l,h=>by
  simp only [bT,Bool.and_eq_true] at h
  simp [aQ,iR n x h.1,dY n l h.2]
end
def eG:aF→Bool
 | .objs _ l=>l.all bT
 | .bools _=>true
 | .ints _ _=>true
 | .strs _=>true
def jh (n:Nat):aF→Bool
 | .objs _ l=>l.all (aQ n)
 | .bools _=>true
 | .ints _ _=>true
 | .strs _=>true
def uO (p:Nat→Nat):aF→aF
 | .objs sz l=>.objs sz (l.map (bZ p))
 | .bools l=>.bools l
 | .ints k l=>.ints k l
 | .strs l=>.strs l
theorem yQ (n:Nat) (r:aF) (h:eG r=true):jh n r=true:=by
 cases r<;>first|rfl|skip
 simp only [eG,jh,List.all_eq_true] at *
 exact fun x hx=>dY n x (h x hx)
theorem Oh {n k:Nat} (hk:n≤k) (r:aF) (h:jh n r=true):jh k r=true:=by
 cases r<;>first|rfl|skip
 simp only [jh,List.all_eq_true] at *
 exact fun x hx=>iy hk x (h x hx)
def blk:Value→Option Nat
 | .slice (some a) _ _=>some a.block
 | .pointer (some a)=>some a.block
 | .map (some g)=>some g
 | _=>none
def eH (c:Ctx) (a:Addr) (cells:List Value):Prop:=
 True∧(cells≠[]→c.T a.block)∧∀ j u,cells[j]?=some u→c.w.cell? (a.add j)=some u
def EN (es:Array MapEntry) (clock:Nat):Prop:=clock=es.size∧(es.toList.map MapEntry.key).Nodup
mutual
inductive Rv (c:Ctx):AV→Value→Prop
 | dead (v:Value):Rv c .dead v
 | nilS:Rv c .nilS (.slice none 0 0)
 | bool (b:Bool):Rv c (.bool b) (.bool b)
 | int (k:IntKind) (n:Int) (h:jf k n):Rv c (.int k n) (.int k n)
 | str (s:List UInt8) (h:s.length≤maxLen):Rv c (.str s) (.string ⟨s.toArray⟩)
 | roNil (r:aF) (h:bP c r []) (hi:eG r=true):Rv c (.ro r) (.slice none 0 0)
 | ro (r:aF) (a:Addr) (len cap:Nat) (cells:List Value) (h:bP c r cells) (hl:r.len=len) (hc:len≤cap) (hm:cap≤maxLen) (hs:eH c a cells) (hi:eG r=true):Rv c (.ro r) (.slice (some a) len cap)
 | own (i:Nat) (h:i<c.N) (h1:(c.m i).oneCell'=true):Rv c (.own i) (c.m i)
 | cell (cs:List AV) (vs:List Value) (a:Addr) (h:cO c cs vs) (hi:bT cs=true) (hs:eH c a vs):Rv c (.cell cs) (.pointer (some a))
 | ptr (i off g:Nat) (h:i<c.N) (hg:blk (c.m i)=some g):Rv c (.ptr i off) (.pointer (some ⟨g,off,none⟩))
 | elt (i sz idx off g:Nat) (h:i<c.N) (hg:blk (c.m i)=some g):Rv c (.elt i sz idx off) (.pointer (some ⟨g,idx*sz+off,none⟩))
 | pre (i n l cap:Nat) (a:Option Addr) (h:i<c.N) (hv:c.m i=.slice a l cap) (hn:n≤l):Rv c (.pre i n) (.slice a n cap)
 | suf (i sz o n l cap:Nat) (a:Option Addr) (h:i<c.N) (hv:c.m i=.slice a l cap) (hn:o+n≤l):Rv c (.suf i sz o n) (.slice (a.map fun x=>if cap=o then x else x.add (o*sz)) n (cap - o))
 | agg (cs:List AV) (vs:List Value) (h:cO c cs vs):Rv c (.agg cs) (.agg vs.toArray)
 | tup (cs:List AV) (vs:List Value) (h:dH c cs vs):Rv c (.tup cs) (.tuple vs.toArray)
 | fn (f:Nat) (cs:List AV) (vs:List Value) (h:dH c cs vs):Rv c (.fn f cs) (.func (.func f) #[] vs.toArray)
 | raw (v:Value):Rv c (.raw v) v
 | opt (b:Bool) (x:AV) (v:Value) (hb:below c.N x=true) (h:b=true→Rv c x v) (h2:b=false→v=undef):Rv c (.opt b x) v
 | ifc (t:TypeId) (x:AV) (v:Value) (h:Rv c x v):Rv c (.ifc t x) (.iface t v)
 | bm (f:Nat) (x:AV) (v:Value) (h:Rv c x v):Rv c (.bm f x) (.func (.func f) #[v] #[])
 | mp (ks vs:List AV) (g:Nat) (es:Array MapEntry) (clock:Nat) (hk:dH c ks (es.toList.map MapEntry.key)) (hv:dH c vs (es.toList.map MapEntry.val)) (hb:∀ (i:Nat) (e:MapEntry),es[i]?=some e→e.born=i) (hc:EN es clock) (hT:c.T g) (hh:c.w.heap[g]?=some (.map es clock)) (hi:bT ks=true) (hi2:bT vs=true):Rv c (.mp ks vs) (.map (some g))
inductive cO (c:Ctx):List AV→List Value→Prop
 | nil:cO c [] []
 | cons (x:AV) (v:Value) (l:List AV) (vs:List Value) (h:Rv c x v) (h1:v.oneCell'=true) (t:cO c l vs):cO c (x::l) (v::vs)
inductive dH (c:Ctx):List AV→List Value→Prop
 | nil:dH c [] []
 | cons (x:AV) (v:Value) (l:List AV) (vs:List Value) (h:Rv c x v) (t:dH c l vs):dH c (x::l) (v::vs)
inductive bP (c:Ctx):aF→List Value→Prop
 | bools (l:List Bool):bP c (.bools l) (l.map Value.bool)
 | ints (k:IntKind) (l:List Int) (h:∀ x,x∈l→jf k x):bP c (.ints k l) (l.map (Value.int k))
 | strs (l:List (List UInt8)) (h:∀ x,x∈l→x.length≤maxLen):bP c (.strs l) (l.map fun s=>Value.string ⟨s.toArray⟩)
 | objs (sz:Nat) (l:List (List AV)) (cells:List Value) (hz:0<sz) (h:bJ c sz l cells):bP c (.objs sz l) cells
inductive bJ (c:Ctx):Nat→List (List AV)→List Value→Prop
 | nil (sz:Nat):bJ c sz [] []
 | cons (sz:Nat) (o:List AV) (vs:List Value) (l:List (List AV)) (cells:List Value) (h:cO c o vs) (hl:vs.length=sz) (t:bJ c sz l cells):bJ c sz (o::l) (vs++cells)
end
structure dK (c c':Ctx):Prop where
 n:c.N≤c'.N
 m:∀ i,i<c.N→c'.m i=c.m i
 t:∀ b,c.T b→b<c.w.heap.size→c'.T b∧c'.w.heap[b]?=c.w.heap[b]?
theorem eH.mono' {c c':Ctx} (h:∀ b,c.T b→b<c.w.heap.size→c'.T b∧c'.w.heap[b]?=c.w.heap[b]?) {a:Addr} {cells:List Value} (hs:eH c a cells):eH c' a cells:=by
 obtain ⟨h1,h2,h3⟩:=hs
 by_cases hn:cells=[]
 ·subst hn;exact ⟨h1,fun h=>absurd rfl h,fun j u hu=>by simp at hu⟩
 ·have hT:=h2 hn
  have hb:a.block<c.w.heap.size:=by
   cases cells with
   | nil=>exact absurd rfl hn
   | cons x l=>
    have:=h3 0 x (by simp)
    have hb:=World.block_lt_of_cell? _ _ this
    simpa [Addr.add] using hb
  obtain ⟨ht,he⟩:=h a.block hT hb
  refine ⟨h1,fun _=>ht,fun j u hu=>?_⟩
  rw [←h3 j u hu]
  refine World.cell?_of_block ?_
  have:(a.add j).block=a.block:=by unfold Addr.add;split<;>rfl
  rw [this];exact he
theorem eH.mono {c c':Ctx} (h:dK c c') {a:Addr} {cells:List Value} (hs:eH c a cells):eH c' a cells:=eH.mono' h.t hs
mutual
theorem Rv.mono {c c':Ctx} (h:dK c c'):∀ {x:AV} {v:Value},Rv c x v→Rv c' x v
 | _,_,.dead v=>.dead v
 | _,_,.nilS=>.nilS
 | _,_,.bool b=>.bool b
 | _,_,.int k n hk=>.int k n hk
 | _,_,.str s hs=>.str s hs
 | _,_,.roNil r hr hi=>.roNil r (bP.mono h hr) hi
 | _,_,.ro r a len cap cells hr hl hc hm hs hi=>.ro r a len cap cells (bP.mono h hr) hl hc hm (hs.mono h) hi
 | _,_,.mp ks vs g es clock hk hv hb hc hT hh hi hi2=>.mp ks vs g es clock (dH.mono h hk) (dH.mono h hv) hb hc (h.t g hT (Array.getElem?_eq_some_iff.1 hh).1).1 (by rw [(h.t g hT (Array.getElem?_eq_some_iff.1 hh).1).2];exact hh) hi hi2
 | _,_,.own i hi h1=>by rw [←h.m i hi];exact .own i (Nat.lt_of_lt_of_le hi h.n) (by rw [h.m i hi];exact h1)
 | _,_,.cell cs vs a hl hi hs=>.cell cs vs a (cO.mono h hl) hi (hs.mono h)
 | _,_,.ptr i off g hi hg=>.ptr i off g (Nat.lt_of_lt_of_le hi h.n) (by rw [h.m i hi];exact hg)
 | _,_,.elt i sz idx off g hi hg=>.elt i sz idx off g (Nat.lt_of_lt_of_le hi h.n) (by rw [h.m i hi];exact hg)
 | _,_,.pre i n l cap a hi hv hn=>.pre i n l cap a (Nat.lt_of_lt_of_le hi h.n) (by rw [h.m i hi];exact hv) hn
 | _,_,.suf i sz o n l cap a hi hv hn=>.suf i sz o n l cap a (Nat.lt_of_lt_of_le hi h.n) (by rw [h.m i hi];exact hv) hn
 | _,_,.agg cs vs hl=>.agg cs vs (cO.mono h hl)
 | _,_,.tup cs vs hl=>.tup cs vs (dH.mono h hl)
 | _,_,.fn f cs vs hl=>.fn f cs vs (dH.mono h hl)
 | _,_,.raw v=>.raw v
 | _,_,.opt b x v hb hx h2=>.opt b x v (below_le h.n x hb) (fun e=>Rv.mono h (hx e)) h2
 | _,_,.ifc t x v hx=>.ifc t x v (Rv.mono h hx)
 | _,_,.bm t x v hx=>.bm t x v (Rv.mono h hx)
theorem cO.mono {c c':Ctx} (h:dK c c'):∀ {x:List AV} {v:List Value},cO c x v→cO c' x v
 | _,_,.nil=>.nil
 | _,_,.cons x v l vs hx h1 ht=>.cons x v l vs (Rv.mono h hx) h1 (cO.mono h ht)
theorem dH.mono {c c':Ctx} (h:dK c c'):∀ {x:List AV} {v:List Value},dH c x v→dH c' x v
 | _,_,.nil=>.nil
 | _,_,.cons x v l vs hx ht=>.cons x v l vs (Rv.mono h hx) (dH.mono h ht)
theorem bP.mono {c c':Ctx} (h:dK c c'):∀ {x:aF} {v:List Value},bP c x v→bP c' x v
 | _,_,.bools l=>.bools l
 | _,_,.ints k l hk=>.ints k l hk
 | _,_,.strs l hs=>.strs l hs
 | _,_,.objs sz l cells hz ho=>.objs sz l cells hz (bJ.mono h ho)
theorem bJ.mono {c c':Ctx} (h:dK c c'):∀ {sz:Nat} {x:List (List AV)} {v:List Value},bJ c sz x v→bJ c' sz x v
 | _,_,_,.nil sz=>.nil sz
 | _,_,_,.cons sz o vs l cells ho hl ht=>.cons sz o vs l cells (cO.mono h ho) hl (bJ.mono h ht)
end
/-! ### Other names for the call's own memory -/
structure kK (p:Nat→Nat) (c c':Ctx):Prop where
 m:∀ i,i<c'.N→c'.m i=c.m (p i)
 t:∀ b,c.T b→b<c.w.heap.size→c'.T b∧c'.w.heap[b]?=c.w.heap[b]?
mutual
theorem Rv.dX {c c':Ctx} (h:∀ b,c.T b→b<c.w.heap.size→c'.T b∧c'.w.heap[b]?=c.w.heap[b]?):∀ {x:AV} {v:Value},Rv c x v→bW x=true→Rv c' x v
 | _,_,.dead v,_=>.dead v
 | _,_,.nilS,_=>.nilS
 | _,_,.bool b,_=>.bool b
 | _,_,.int k n hk,_=>.int k n hk
 | _,_,.str s hs,_=>.str s hs
 | _,_,.roNil r hr hi,_=>.roNil r (bP.dX h hr hi) hi
 | _,_,.ro r a len cap cells hr hl hc hm hs hi,_=>.ro r a len cap cells (bP.dX h hr hi) hl hc hm (hs.mono' h) hi
 | _,_,.mp ks vs g es clock hk hv hb hc hT hh hi hi2,_=>.mp ks vs g es clock (dH.dX h hk hi) (dH.dX h hv hi2) hb hc (h g hT (Array.getElem?_eq_some_iff.1 hh).1).1 (by rw [(h g hT (Array.getElem?_eq_some_iff.1 hh).1).2];exact hh) hi hi2
 | _,_,.own i hi h1,e=>by simp [bW] at e
 | _,_,.cell cs vs a hl hi hs,_=>.cell cs vs a (cO.dX h hl hi) hi (hs.mono' h)
 | _,_,.ptr i off g hi hg,e=>by simp [bW] at e
 | _,_,.elt i sz idx off g hi hg,e=>by simp [bW] at e
 | _,_,.pre i n l cap a hi hv hn,e=>by simp [bW] at e
 | _,_,.suf i sz o n l cap a hi hv hn,e=>by simp [bW] at e
 | _,_,.agg cs vs hl,e=>.agg cs vs (cO.dX h hl (by simpa [bW] using e))
 | _,_,.tup cs vs hl,e=>.tup cs vs (dH.dX h hl (by simpa [bW] using e))
 | _,_,.fn f cs vs hl,e=>.fn f cs vs (dH.dX h hl (by simpa [bW] using e))
 | _,_,.raw v,_=>.raw v
 | _,_,.opt b x v hb hx h2,e=>.opt b x v (iR _ x (by simpa [bW] using e)) (fun e'=>Rv.dX h (hx e') (by simpa [bW] using e)) h2
 | _,_,.ifc t x v hx,e=>.ifc t x v (Rv.dX h hx (by simpa [bW] using e))
 | _,_,.bm t x v hx,e=>.bm t x v (Rv.dX h hx (by simpa [bW] using e))
theorem cO.dX {c c':Ctx} (h:∀ b,c.T b→b<c.w.heap.size→c'.T b∧c'.w.heap[b]?=c.w.heap[b]?):∀ {x:List AV} {v:List Value},cO c x v→bT x=true→cO c' x v
 | _,_,.nil,_=>.nil
 | _,_,.cons x v l vs hx h1 ht,e=>by
  simp only [bT,Bool.and_eq_true] at e
  exact .cons x v l vs (Rv.dX h hx e.1) h1 (cO.dX h ht e.2)
theorem dH.dX {c c':Ctx} (h:∀ b,c.T b→b<c.w.heap.size→c'.T b∧c'.w.heap[b]?=c.w.heap[b]?):∀ {x:List AV} {v:List Value},dH c x v→bT x=true→dH c' x v
 | _,_,.nil,_=>.nil
 | _,_,.cons x v l vs hx ht,e=>by
  simp only [bT,Bool.and_eq_true] at e
  exact .cons x v l vs (Rv.dX h hx e.1) (dH.dX h ht e.2)
theorem bP.dX {c c':Ctx} (h:∀ b,c.T b→b<c.w.heap.size→c'.T b∧c'.w.heap[b]?=c.w.heap[b]?):∀ {x:aF} {v:List Value},bP c x v→eG x=true→bP c' x v
 | _,_,.bools l,_=>.bools l
 | _,_,.ints k l hk,_=>.ints k l hk
 | _,_,.strs l hs,_=>.strs l hs
 | _,_,.objs sz l cells hz ho,e=>.objs sz l cells hz (bJ.dX h ho (by simpa only [eG] using e))
theorem bJ.dX {c c':Ctx} (h:∀ b,c.T b→b<c.w.heap.size→c'.T b∧c'.w.heap[b]?=c.w.heap[b]?):∀ {sz:Nat} {x:List (List AV)} {v:List Value},bJ c sz x v→x.all bT=true→bJ c' sz x v
 | _,_,_,.nil sz,_=>.nil sz
 | _,_,_,.cons sz o vs l cells ho hl ht,e=>by
  simp only [List.all_cons,Bool.and_eq_true] at e
  exact .cons sz o vs l cells (cO.dX h ho e.1) hl (bJ.dX h ht e.2)
end
mutual
theorem Rv.ren {p:Nat→Nat} {c c':Ctx} (h:kK p c c'):∀ (x:AV) {v:Value},below c'.N x=true→Rv c (ren p x) v→Rv c' x v
 | .dead,v,_,_=>.dead v
 | .nilS,_,_,hx=>by cases hx;exact .nilS
 | .bool _,_,_,hx=>by cases hx;exact .bool _
 | .int _ _,_,_,hx=>by cases hx with|int k n hk=>exact .int _ _ hk
 | .str _,_,_,hx=>by cases hx with|str s hs=>exact .str _ hs
 | .ro _,_,_,hx=>by
  cases hx with
  | roNil r hr hi=>exact .roNil _ (bP.dX h.t hr hi) hi
  | ro r a len cap cells hr hl hc hm hs hi=>exact .ro _ a len cap cells (bP.dX h.t hr hi) hl hc hm (hs.mono' h.t) hi
 | .mp _ _,_,_,hx=>by
  cases hx with
  | mp _ _ g es clock hk hv hb hc hT hh hi hi2=>exact .mp _ _ g es clock (dH.dX h.t hk hi) (dH.dX h.t hv hi2) hb hc (h.t g hT (Array.getElem?_eq_some_iff.1 hh).1).1 (by rw [(h.t g hT (Array.getElem?_eq_some_iff.1 hh).1).2];exact hh) hi hi2
 | .own i,_,e,hx=>by
  have hi':i<c'.N:=by simpa [below] using e
  cases hx with|own _ hi h1=>rw [←h.m i hi'];exact .own i hi' (by rw [h.m i hi'];exact h1)
 | .cell _,_,_,hx=>by cases hx with|cell cs vs a hl hi hs=>exact .cell _ vs a (cO.dX h.t hl hi) hi (hs.mono' h.t)
 | .ptr i off,_,e,hx=>by
  have hi':i<c'.N:=by simpa [below] using e
  cases hx with|ptr _ _ g hi hg=>exact .ptr i off g hi' (by rw [h.m i hi'];exact hg)
 | .elt i sz idx off,_,e,hx=>by
  have hi':i<c'.N:=by simpa [below] using e
  cases hx with|elt _ _ _ _ g hi hg=>exact .elt i sz idx off g hi' (by rw [h.m i hi'];exact hg)
 | .pre i n,_,e,hx=>by
  have hi':i<c'.N:=by simpa [below] using e
  cases hx with|pre _ _ l cap a hi hv hn=>exact .pre i n l cap a hi' (by rw [h.m i hi'];exact hv) hn
 | .suf i sz o n,_,e,hx=>by
  have hi':i<c'.N:=by simpa [below] using e
  cases hx with|suf _ _ _ _ l cap a hi hv hn=>exact .suf i sz o n l cap a hi' (by rw [h.m i hi'];exact hv) hn
 | .agg cs,_,e,hx=>by cases hx with|agg _ vs hl=>exact .agg cs vs (cO.ren h cs (by simpa [below] using e) hl)
 | .tup cs,_,e,hx=>by cases hx with|tup _ vs hl=>exact .tup cs vs (dH.ren h cs (by simpa [below] using e) hl)
 | .fn _ cs,_,e,hx=>by cases hx with|fn f _ vs hl=>exact .fn _ cs vs (dH.ren h cs (by simpa [below] using e) hl)
 | .raw _,_,_,hx=>by cases hx;exact .raw _
 | .opt b x,v,e,hx=>by
  cases hx with|opt _ _ _ hb hx h2=>exact .opt b x v (by simpa [below] using e) (fun e'=>Rv.ren h x (by simpa [below] using e) (hx e')) h2
 | .ifc t x,v,e,hx=>by
  cases hx with|ifc _ _ u hx=>exact .ifc t x u (Rv.ren h x (by simpa [below] using e) hx)
 | .bm t x,v,e,hx=>by
  cases hx with|bm _ _ u hx=>exact .bm t x u (Rv.ren h x (by simpa [below] using e) hx)
theorem cO.ren {p:Nat→Nat} {c c':Ctx} (h:kK p c c'):∀ (x:List AV) {v:List Value},aQ c'.N x=true→cO c (bZ p x) v→cO c' x v
 | [],_,_,hx=>by cases hx;exact .nil
 | x::l,_,e,hx=>by
  simp only [aQ,Bool.and_eq_true] at e
  cases hx with|cons _ v _ vs hx h1 ht=>exact .cons x v l vs (Rv.ren h x e.1 hx) h1 (cO.ren h l e.2 ht)
theorem dH.ren {p:Nat→Nat} {c c':Ctx} (h:kK p c c'):∀ (x:List AV) {v:List Value},aQ c'.N x=true→dH c (bZ p x) v→dH c' x v
 | [],_,_,hx=>by cases hx;exact .nil
 | x::l,_,e,hx=>by
  simp only [aQ,Bool.and_eq_true] at e
  cases hx with|cons _ v _ vs hx ht=>exact .cons x v l vs (Rv.ren h x e.1 hx) (dH.ren h l e.2 ht)
end
mutual
theorem Rv.ids {c:Ctx}:∀ {x:AV} {v:Value},Rv c x v→below c.N x=true
 | _,_,.dead v=>rfl
 | _,_,.nilS=>rfl
 | _,_,.bool b=>rfl
 | _,_,.int k n hk=>rfl
 | _,_,.str s hs=>rfl
 | _,_,.roNil r hr _=>rfl
 | _,_,.ro r a len cap cells hr hl hc hm hs _=>rfl
 | _,_,.mp _ _ _ _ _ _ _ _ _ _ _ _ _=>rfl
 | _,_,.own i hi h1=>by simpa [below] using hi
 | _,_,.cell cs vs a hl hi hs=>rfl
 | _,_,.ptr i off g hi hg=>by simpa [below] using hi
 | _,_,.elt i sz idx off g hi hg=>by simpa [below] using hi
 | _,_,.pre i n l cap a hi hv hn=>by simpa [below] using hi
 | _,_,.suf i sz o n l cap a hi hv hn=>by simpa [below] using hi
 | _,_,.agg cs vs hl=>by simpa [below] using cO.ids hl
 | _,_,.tup cs vs hl=>by simpa [below] using dH.ids hl
 | _,_,.fn f cs vs hl=>by simpa [below] using dH.ids hl
 | _,_,.raw v=>rfl
 | _,_,.opt b x v hb hx _=>by simpa [below] using hb
 | _,_,.ifc t x v hx=>by simpa [below] using Rv.ids hx
 | _,_,.bm t x v hx=>by simpa [below] using Rv.ids hx
theorem cO.ids {c:Ctx}:∀ {x:List AV} {v:List Value},cO c x v→aQ c.N x=true
 | _,_,.nil=>rfl
 | _,_,.cons x v l vs hx h1 ht=>by simp [aQ,Rv.ids hx,cO.ids ht]
theorem dH.ids {c:Ctx}:∀ {x:List AV} {v:List Value},dH c x v→aQ c.N x=true
 | _,_,.nil=>rfl
 | _,_,.cons x v l vs hx ht=>by simp [aQ,Rv.ids hx,dH.ids ht]
end
theorem bJ.ids {c:Ctx}:∀ {sz:Nat} {x:List (List AV)} {v:List Value},bJ c sz x v→x.all (aQ c.N)=true
 | _,_,_,.nil sz=>rfl
 | _,_,_,.cons sz o vs l cells ho hl ht=>by simp [List.all_cons,cO.ids ho,bJ.ids ht]
theorem bP.ids {c:Ctx} {r:aF} {v:List Value} (h:bP c r v):jh c.N r=true:=by
 cases h with
 | objs _ _ _ _ ho=>exact bJ.ids ho
 | _=>rfl
theorem bJ.ren {p:Nat→Nat} {c c':Ctx} (h:kK p c c'):∀ {sz:Nat} (x:List (List AV)) {v:List Value},x.all (aQ c'.N)=true→bJ c sz (x.map (bZ p)) v→bJ c' sz x v
 | _,[],_,_,hx=>by cases hx;exact .nil _
 | _,o::l,_,e,hx=>by
  simp only [List.all_cons,Bool.and_eq_true] at e
  simp only [List.map_cons] at hx
  cases hx with|cons _ _ vs _ cells ho hl ht=>exact .cons _ o vs l cells (cO.ren h o e.1 ho) hl (bJ.ren h l e.2 ht)
theorem bP.ren {p:Nat→Nat} {c c':Ctx} (h:kK p c c') (r:aF) {v:List Value} (hb:jh c'.N r=true) (hr:bP c (uO p r) v):bP c' r v:=by
 cases r with
 | objs sz l=>cases hr with|objs _ _ _ hz ho=>exact .objs sz l v hz (bJ.ren h l hb ho)
 | bools l=>cases hr;exact .bools l
 | ints k l=>cases hr with|ints _ _ hk=>exact .ints k l hk
 | strs l=>cases hr with|strs _ hk=>exact .strs l hk
inductive Item where
 | row (e:TypeId) (r:aF)
 | box (e:TypeId) (cs:List AV)
 | map (ks vs:List AV)
 | iter (mp since:Nat) (seen:List Nat)
 | siter (s:List UInt8) (pos:Nat)
structure S where
 n:Nat
 env:List (Nat × AV)
 rows:List (Nat × Item)
 next:Nat
def lk {α:Type}:List (Nat × α)→Nat→Option α
 | [],_=>none
 |(j,v)::l,i=>if j=i then some v else lk l i
def del {α:Type}:List (Nat × α)→Nat→List (Nat × α)
 | [],_=>[]
 |(j,v)::l,i=>if j=i then del l i else (j,v)::del l i
def put {α:Type}:List (Nat × α)→Nat→α→List (Nat × α)
 | [],_,_=>[]
 |(j,v)::l,i,x=>if j=i then (j,x)::put l i x else (j,v)::put l i x
def S.get (s:S) (r:Nat):AV:=match lk s.env r with|some v=>v|none=>.dead
def S.set (s:S) (d:Nat) (v:AV):S:={ s with env:=(d,v)::s.env }
structure Bs where
 a:Nat→Prop
 g:Nat→Prop
def bs (T:Nat→Prop):Bs:=⟨T,fun _=>False⟩
def allow (T0:Bs) (B:Nat) (m:Nat→Value) (rows:List (Nat × Item)) (b:Nat):Prop:=
 (B≤b∨T0.a b)∧∀ i it,lk rows i=some it→blk (m i)≠some b
def ownB (T0:Bs) (B:Nat) (b:Nat):Prop:=B≤b∨(T0.g b∧T0.a b)
structure bK (g:Nat→Prop) (w w':World):Prop where
 os:w'.os=w.os
 tape:w'.tape=w.tape
 output:w'.output=w.output
 size:w.heap.size≤w'.heap.size
 drawn:True
 block:∀ k,k<w.heap.size→¬g k→w'.heap[k]?=w.heap[k]?
structure oZ (B:Nat) (w w':World):Prop where
 os:w'.os=w.os
 tape:w'.tape=w.tape
 output:w'.output=w.output
 size:w.heap.size≤w'.heap.size
 drawn:True
 block:∀ k,k<B→w'.heap[k]?=w.heap[k]?
theorem oZ.refl (B:Nat) (w:World):oZ B w w:=⟨rfl,rfl,rfl,Nat.le_refl _,trivial,fun _ _=>rfl⟩
theorem oZ.plain {B:Nat} {w w':World} (h:oZ B w w'):Below B w w':=⟨h.os,h.tape,h.output,h.size,h.block⟩
theorem bK.refl (g:Nat→Prop) (w:World):bK g w w:=⟨rfl,rfl,rfl,Nat.le_refl _,trivial,fun _ _ _=>rfl⟩
theorem bK.mono {g g':Nat→Prop} {w w':World} (h:bK g w w') (hg:∀ b,g b→g' b):bK g' w w':=⟨h.os,h.tape,h.output,h.size,h.drawn,fun k hk hn=>h.block k hk fun x=>hn (hg k x)⟩
theorem bK.below {w w':World} (h:bK (fun _=>False) w w'):oZ w.heap.size w w':=⟨h.os,h.tape,h.output,h.size,h.drawn,fun k hk=>h.block k hk (fun x=>x)⟩
theorem bK.step {g:Nat→Prop} {a w w':World} (h:bK g a w) (h1:w'.os=w.os) (h2:w'.tape=w.tape) (h3:w'.output=w.output) (h4:w.heap.size≤w'.heap.size)
  (h5:∀ k,k<a.heap.size→¬g k→w'.heap[k]?=w.heap[k]?) (h6:True:=trivial):bK g a w':=
 ⟨h1.trans h.os,h2.trans h.tape,h3.trans h.output,Nat.le_trans h.size h4,trivial,fun k hk hg=>(h5 k hk hg).trans (h.block k hk hg)⟩
theorem bK.trans {g:Nat→Prop} {a w w':World} (h:bK g a w) (h':bK g w w'):bK g a w':=
 h.step h'.os h'.tape h'.output h'.size (fun k hk hg=>h'.block k (Nat.lt_of_lt_of_le hk h.size) hg) h'.drawn
theorem bK.alloc {g:Nat→Prop} {a w:World} (h:bK g a w) (o:Obj):bK g a (w.alloc o):=
 h.step rfl rfl rfl (by show _≤(w.heap.push o).size;rw [Array.size_push];exact Nat.le_succ _) fun k hk _=>Below.heap_alloc w o k (Nat.lt_of_lt_of_le hk h.size)
theorem bK.drew {g:Nat→Prop} {a w:World} (h:bK g a w):bK g a w.drew:=
 h.step rfl rfl rfl (Nat.le_refl _) fun k hk _=>rfl
def aA (T0:Bs) (B:Nat) (m:Nat→Value) (s:S) (w:World):Ctx:=⟨w,allow T0 B m s.rows,m,s.next⟩
def Xi (fz:Nat × Nat) (n:Nat):Prop:=fz=(0,0)∨n≤fz.1
def Mk (e:TypeId) (fz:Nat × Nat) (n:Nat):Prop:=fz=(0,0)∨(n≤fz.1∧e=5)
theorem Mk.w {e:TypeId} {fz:Nat × Nat} {n:Nat} (h:Mk e fz n):Xi fz n:=h.elim .inl fun h=>.inr h.1
def rD (w:World) (e:TypeId) (size:Nat) (v:Value) (n:Nat) (xs:List Value):Prop:=
 xs.length=n*size ∧
 ((v=.slice none 0 0∧n=0) ∨
  ∃ g cap cur fz,v=.slice (some ⟨g,0,none⟩) n cap∧Mk e fz cur.size∧w.heap[g]?=some (.cells cur e fz)∧n≤cap∧cap≤maxLen∧cur.size=cap*size∧cur.toList.take (n*size)=xs)
theorem xQ (w:World) (e:TypeId) (size:Nat):rD w e size (.slice none 0 0) 0 []:=⟨by simp,.inl ⟨rfl,rfl⟩⟩
theorem pF {w:World} {g:Nat} {cur:Array Value} {e:TypeId} {fz:Nat × Nat} (hh:w.heap[g]?=some (.cells cur e fz)) {j:Nat} {u:Value} (hj:cur[j]?=some u):w.cell? ((⟨g,0,none⟩:Addr).add j)=some u:=by
 have e1:(⟨g,0,none⟩:Addr).add j=⟨g,j,none⟩:=by unfold Addr.add;split<;>simp_all
 rw [e1]
 simp [World.cell?,hh,hj]
theorem fV {w:World} {e:TypeId} {size:Nat} {v:Value} {n:Nat} {xs:List Value} (h:rD w e size v n xs) {g:Nat} (hg:blk v=some g):∀ j u,xs[j]?=some u→w.cell? ((⟨g,0,none⟩:Addr).add j)=some u:=by
 intro j u hu
 rcases h.2 with ⟨rfl,_⟩|⟨g',cap,cur,fz,rfl,_,hh,_,_,_,ht⟩
 ·cases hg
 ·cases hg
  refine pF hh ?_
  rw [←ht,List.getElem?_take] at hu
  split at hu
  ·simpa using hu
  ·cases hu
def bD (c:Ctx) (O:Nat→Prop) (v:Value):Item→Prop
 | .row e r=>∃ n cells,bP c r cells∧r.len=n∧rD c.w e r.sz v n cells∧(∀ b,blk v=some b→O b)
 | .box e cs=>∃ g vs,v=.pointer (some ⟨g,0,none⟩)∧O g∧cO c cs vs∧c.w.heap[g]?=some (.cells vs.toArray e (0,0))
 | .map ks vs=>∃ g es clock,v=.map (some g)∧O g∧dH c ks (es.toList.map MapEntry.key)∧dH c vs (es.toList.map MapEntry.val)∧(∀ (i:Nat) (e:MapEntry),es[i]?=some e→e.born=i)∧EN es clock∧c.w.heap[g]?=some (.map es clock)
 | .iter mp since seen=>∃ g q sn last,v=.pointer (some ⟨g,0,none⟩)∧O g∧mp<c.N∧c.m mp=.map (some q)∧sn=seen.toArray∧last=since∧c.w.heap[g]?=some (.mapIter (some q) since sn last)
 | .siter t pos=>∃ g,v=.pointer (some ⟨g,0,none⟩)∧O g∧c.w.heap[g]?=some (.stringIter ⟨t.toArray⟩ pos)
structure bC (w0:World) (T0:Bs) (H:List (AV × Value)) (s:S) (a:Act) (w:World) (m:Nat→Value):Prop where
 size:a.tmps.size=s.n
 nodef:a.defers=[]
 below:bK (fun b=>T0.g b∧T0.a b) w0 w
 env:∀ r v,lk s.env r=some v→Rv (aA T0 w0.heap.size m s w) v (a.tmps.getD r undef)
 held:∀ p,p∈H→Rv (aA T0 w0.heap.size m s w) p.1 p.2
 rows:∀ i it,lk s.rows i=some it→i<s.next∧bD (aA T0 w0.heap.size m s w) (ownB T0 w0.heap.size) (m i) it
 sep:∀ i j it jt b,lk s.rows i=some it→lk s.rows j=some jt→blk (m i)=some b→blk (m j)=some b→i=j
def Rep (w0:World) (T0:Bs) (H:List (AV × Value)) (s:S) (a:Act) (w:World):Prop:=∃ m,bC w0 T0 H s a w m
end Go.Fv
/-
 The meaning of one operation over abstract values, and the laws that tie it to the model: first part: operands, moves, arithmetic, strings.
-/
namespace Go.Fv
open Go.RowKit
/-! ### Words that stop the reckoning -/
def dh (k:IntKind) (e:Int) (K:Int→Prop):Prop:=∀ n,n=k.wrap e→jf k n→K n
def aZ (p:Prop) (K:Prop):Prop:=p∧K
def qA (p:Prop) (K:Prop):Prop:=p→K
class Br where
 p:Prop
def Ite (b:Bool) [x:Br] [y:Br]:Prop:=(b=true→x.p)∧(b=false→y.p)
theorem aZ.intro {p K:Prop} (h:p) (k:K):aZ p K:=⟨h,k⟩
theorem qA.intro {p K:Prop} (k:p→K):qA p K:=k
theorem Ite.intro {b:Bool} {x y:Prop} (h1:b=true→x) (h2:b=false→y):@Ite b ⟨x⟩ ⟨y⟩:=⟨h1,h2⟩
theorem Ite.decide {p:Prop} [Decidable p] {x y:Prop} (h1:p→x) (h2:¬p→y):@Ite (decide p) ⟨x⟩ ⟨y⟩:=⟨fun h=>h1 (of_decide_eq_true h),fun h=>h2 (of_decide_eq_false h)⟩
theorem PN (x y:Prop):@Ite true ⟨x⟩ ⟨y⟩=x:=by simp [Ite]
theorem N9 (x y:Prop):@Ite false ⟨x⟩ ⟨y⟩=y:=by simp [Ite]
@[congr] theorem Ws {p q K:Prop} (h:p=q):aZ p K=aZ q K:=by rw [h]
@[congr] theorem Wq {p K:Prop}:qA p K=qA p K:=rfl
@[congr] theorem Vs {k:IntKind} {e e':Int} {K:Int→Prop} (h:e=e'):dh k e K=dh k e' K:=by rw [h]
theorem Cj {k:IntKind} {e:Int} (h:jf k e):k.wrap e=e:=by
 obtain ⟨h1,h2⟩:=h
 cases k<;>simp [IntKind.wrap,IntKind.min,IntKind.max,IntKind.signed,IntKind.bits] at *<;>(try split)<;>omega
theorem dA (k:IntKind) (e:Int):jf k (k.wrap e):=by
 unfold jf
 cases k<;>simp [IntKind.wrap,IntKind.min,IntKind.max,IntKind.signed,IntKind.bits]<;>(try split)<;>omega
theorem dh.Fb {k:IntKind} {e:Int} {K:Int→Prop} (h:jf k e) (kk:K e):dh k e K:=fun n hn _=>by
 rw [Cj h] at hn;subst hn;exact kk
theorem SX {k:IntKind} {e:Int}:dh k e (fun n=>n=e)=jf k e:=
 propext ⟨fun h=>by have:=h (k.wrap e) rfl (dA k e);rw [←this];exact dA k e,fun h=>dh.Fb h rfl⟩
theorem Vt {k:IntKind} {e:Int} {q:Prop}:dh k e (fun n=>AV.int k n=AV.int k e∧q)=(jf k e∧q):=by
 apply propext
 constructor
 ·intro h
  have h1:=h (k.wrap e) rfl (dA k e)
  have h2:k.wrap e=e:=by have:=h1.1;injection this
  exact ⟨by rw [←h2];exact dA k e,h1.2⟩
 ·rintro ⟨h1,h2⟩
  exact dh.Fb h1 ⟨rfl,h2⟩
theorem WI {p:Prop}:aZ p True=p:=by simp [aZ]
theorem WH {p:Prop}:qA p True=True:=by simp [qA]
theorem kY {n:Int}:jf .i64 n↔(-9223372036854775808≤n∧n≤9223372036854775807):=by
 simp [jf,IntKind.min,IntKind.max,IntKind.signed,IntKind.bits]
theorem um {n:Int}:jf .u8 n↔(0≤n∧n≤255):=by
 simp [jf,IntKind.min,IntKind.max,IntKind.signed,IntKind.bits]
theorem LX {n:Int}:jf .u32 n↔(0≤n∧n≤4294967295):=by
 simp [jf,IntKind.min,IntKind.max,IntKind.signed,IntKind.bits]
theorem gJ {n:Int}:jf .u64 n↔(0≤n∧n≤18446744073709551615):=by
 simp [jf,IntKind.min,IntKind.max,IntKind.signed,IntKind.bits]
theorem EK {n:Int}:jf .i32 n↔(-2147483648≤n∧n≤2147483647):=by
 simp [jf,IntKind.min,IntKind.max,IntKind.signed,IntKind.bits]
theorem dh.i64 {e:Int} {K:Int→Prop} (h1:-9223372036854775808≤e) (h2:e≤9223372036854775807) (kk:K e):dh .i64 e K:=.Fb (kY.2 ⟨h1,h2⟩) kk
theorem dh.u8 {e:Int} {K:Int→Prop} (h1:0≤e) (h2:e≤255) (kk:K e):dh .u8 e K:=.Fb (um.2 ⟨h1,h2⟩) kk
theorem PK {K:Prop}:aZ True K=K:=propext ⟨fun x=>x.2,fun x=>⟨trivial,x⟩⟩
theorem zN {p K:Prop} (h:p):aZ p K=K:=propext ⟨fun x=>x.2,fun x=>⟨h,x⟩⟩
/-! ### Operands -/
def OA:IntKind→Int→Bool
 | .i64,n=>decide (-9223372036854775808≤n) && decide (n≤9223372036854775807)
 | .u8,n=>decide (0≤n) && decide (n≤255)
 | .u32,n=>decide (0≤n) && decide (n≤4294967295)
 | .u64,n=>decide (0≤n) && decide (n≤18446744073709551615)
 | .i32,n=>decide (-2147483648≤n) && decide (n≤2147483647)
 | _,_=>false
theorem Hl {k:IntKind} {n:Int} (h:OA k n=true):jf k n:=by
 cases k<;>simp [OA] at h
 ·exact EK.2 h
 ·exact kY.2 h
 ·exact um.2 h
 ·exact LX.2 h
 ·exact gJ.2 h
def FK:Value→AV
 | .bool b=>.bool b
 | .int k n=>bif OA k n then .int k n else .raw (.int k n)
 | .string s=>.str s.data.toList
 | .slice none 0 0=>.nilS
 | v=>.raw v
def S.ev (s:S):Operand→AV
 | .tmp t=>match s.get t with
  | .opt c v=>cond c v .dead
  | x=>x
 | .const v=>FK v
 | .func f=>.fn f []
 | .global _=>.dead
section
variable {w0 w:World} {T0:Bs} {H:List (AV × Value)} {s:S} {a:Act} {m:Nat→Value}
def dZ:Value→Prop
 | .string s=>s.size≤maxLen
 | _=>True
theorem FM (c:Ctx) (v:Value) (h:dZ v):Rv c (FK v) v:=by
 cases v with
 | bool b=>exact .bool b
 | int k n=>
  simp only [FK]
  cases hb:OA k n with
  | true=>exact .int k n (Hl hb)
  | false=>exact .raw _
 | string s=>exact .str _ (by simpa [dZ] using h)
 | slice a l c=>
  cases a with
  | some a=>exact .raw _
  | none=>
   cases l with
   | succ l=>exact .raw _
   | zero=>
    cases c with
    | succ c=>exact .raw _
    | zero=>exact .nilS
 | _=>exact .raw _
def au:Operand→Prop
 | .const v=>dZ v
 | _=>True
theorem bC.ev (h:bC w0 T0 H s a w m) (x:Operand) (hx:au x):Rv (aA T0 w0.heap.size m s w) (s.ev x) (a.eval x):=by
 cases x with
 | tmp t=>
  simp only [S.ev,S.get,Act.eval]
  cases hl:lk s.env t with
  | none=>exact .dead _
  | some v=>
   have hv:=h.env t v hl
   cases v<;>try exact hv
   rename_i c v
   cases hv with
   | opt _ _ _ hb hv _=>
    cases c with
    | true=>exact hv rfl
    | false=>exact .dead _
 | const v=>exact FM _ v hx
 | func f=>exact .fn f [] [] .nil
 | global g=>exact .dead _
theorem bC.hold (h:bC w0 T0 H s a w m) {x:AV} {v:Value} (hx:Rv (aA T0 w0.heap.size m s w) x v):bC w0 T0 ((x,v)::H) s a w m:=
 {h with
  held:=by
   intro p hp
   cases List.mem_cons.1 hp with
   | inl e=>subst e;exact hx
   | inr e=>exact h.held p e }
theorem bC.VZ (h:bC w0 T0 H s a w m) {x:AV} {v:Value} (hx:Rv (aA T0 w0.heap.size m s w) x v) {d:Nat} (hd:d<s.n):bC w0 T0 H (s.set d x) (a.put (some d) v) w m:=by
 refine { size:=by simpa [Act.put,S.set] using h.size,nodef:=h.nodef,below:=h.below,env:=?_,held:=h.held,rows:=h.rows,sep:=h.sep }
 intro r y hy
 have hy':(if d=r then some x else lk s.env r)=some y:=hy
 by_cases e:d=r
 ·subst e
  rw [if_pos rfl] at hy'
  cases hy'
  have:((a.put (some d) v).tmps).getD d undef=v:=by
   simp [Act.put,Array.getD,h.size,hd]
  rw [this];exact hx
 ·rw [if_neg e] at hy'
  have:((a.put (some d) v).tmps).getD r undef=a.tmps.getD r undef:=by
   simp only [Act.put,Array.getD_eq_getD_getElem?]
   rw [Array.getElem?_setIfInBounds_ne e]
  rw [this];exact h.env r y hy'
theorem bC.mO {p:AV × Value} (h:bC w0 T0 (p::H) s a w m):bC w0 T0 H s a w m:=
 {h with held:=fun q hq=>h.held q (List.mem_cons_of_mem _ hq) }
end
def aT (P:Program) (w0:World) (T0:Bs) (o:Oper) (s:S) (K:AV→S→Prop):Prop:=
 ∀ (H:List (AV × Value)) (a:Act) (w:World) (next:Act→World→Prop) (Q:Exit→Act→World→Prop),Rep w0 T0 H s a w →
  (∀ r s' v w',K r s'→Rep w0 T0 ((r,v)::H) s' a w'→next (a.put o.dst v) w')→o.wp P a w next Q
theorem aT.pure {P:Program} {w0:World} {T0:Bs} {o:Oper} {s:S} {K:AV→S→Prop}
  (h:∀ (H:List (AV × Value)) (a:Act) (w:World) (m:Nat→Value),bC w0 T0 H s a w m→∃ r v,K r s∧(execOp a.eval o).run P w=.ok (.value v) w∧Rv (aA T0 w0.heap.size m s w) r v) :
  aT P w0 T0 o s K:=by
 intro H a w next Q ⟨m,hm⟩ hn
 obtain ⟨r,v,hk,hr,hv⟩:=h H a w m hm
 unfold Oper.wp
 rw [hr]
 exact hn r s v w hk ⟨m,hm.hold hv⟩
def cZ (P:Program) (w0:World) (T0:Bs) (o:Oper) (s:S) (K:AV→S→Prop):Prop:=
 ∀ (H:List (AV × Value)) (a:Act) (w:World) (m:Nat→Value),bC w0 T0 H s a w m→∃ r v,K r s∧(execOp a.eval o).run P w=.ok (.value v) w∧Rv (aA T0 w0.heap.size m s w) r v
theorem cZ.op {P:Program} {w0:World} {T0:Bs} {o:Oper} {s:S} {K:AV→S→Prop} (h:cZ P w0 T0 o s K):aT P w0 T0 o s K:=aT.pure h
end Go.Fv
/-
 Operations that touch no memory of the call's own: arithmetic, comparisons, strings, parts.
-/
namespace Go.Fv
open Go.RowKit
def iJ (op:BinOp) (k:IntKind) (a b:Int):Int:=
 let x:=BitVec.ofInt k.bits a
 let y:=BitVec.ofInt k.bits b
 match op with
 | .and=>k.wrap ((x &&& y).toNat)
 | .or=>k.wrap ((x ||| y).toNat)
 | .xor=>k.wrap ((x ^^^ y).toNat)
 | _=>k.wrap ((x &&& ~~~y).toNat)
theorem rW (op:BinOp) (k:IntKind) (a b:Int):jf k (iJ op k a b):=by
 unfold iJ;dsimp only;split<;>exact dA _ _
def V9 (k:IntKind) (a b:Int):Int:=a*2 ^ (min b.toNat k.bits)
def Ll (k:IntKind) (a b:Int):Int:=a.fdiv (2 ^ (min b.toNat k.bits))
theorem LC {k:IntKind} {a b:Int} (h:jf k a):jf k (a.tmod b):=by
 obtain ⟨h1,h2⟩:=h
 have hz:k.min≤0:=by cases k<;>simp [IntKind.min,IntKind.signed,IntKind.bits]
 have hx:0≤k.max:=by cases k<;>simp [IntKind.max,IntKind.signed,IntKind.bits]
 rcases Int.le_total 0 a with ha|ha
 ·have e:0≤a.tmod b:=Int.tmod_nonneg _ ha
  have l:a.tmod b≤a:=by
   have:=Int.natAbs_tmod a b
   have h3:(a.tmod b).natAbs≤a.natAbs:=by rw [this];exact Nat.mod_le _ _
   omega
  exact ⟨by omega,by omega⟩
 ·have e:(-a).tmod b=-(a.tmod b):=Int.neg_tmod a b
  have e1:0≤(-a).tmod b:=Int.tmod_nonneg _ (by omega)
  have l:(-a).tmod b≤-a:=by
   have:=Int.natAbs_tmod (-a) b
   have h3:((-a).tmod b).natAbs≤(-a).natAbs:=by rw [this];exact Nat.mod_le _ _
   omega
  exact ⟨by omega,by omega⟩
theorem Pm {k:IntKind} {a b:Int} (h:jf k a):jf k (Ll k a b):=by
 obtain ⟨h1,h2⟩:=h
 have hz:k.min≤0:=by cases k<;>simp [IntKind.min,IntKind.signed,IntKind.bits]
 have hx:0≤k.max:=by cases k<;>simp [IntKind.max,IntKind.signed,IntKind.bits]
 unfold Ll
 have hp:(0:Int)<2 ^ (min b.toNat k.bits):=Int.pow_pos (by omega)
 have hp1:(1:Int)≤2 ^ (min b.toNat k.bits):=by omega
 rw [Int.fdiv_eq_ediv_of_nonneg _ (by omega)]
 generalize (2:Int) ^ (min b.toNat k.bits)=p at *
 rcases Int.le_total 0 a with ha|ha
 ·have:=Int.ediv_nonneg ha (by omega:0≤p)
  have:=Int.ediv_le_self p ha
  exact ⟨by omega,by omega⟩
 ·have h3:a / p≤0:=by
   rcases Int.lt_or_le 0 (a / p) with hh|hh
   ·have:=Int.mul_ediv_self_le (x:=a) (k:=p) (by omega)
    have h5:p*(a / p)≥p*1:=Int.mul_le_mul_of_nonneg_left (by omega) (by omega)
    omega
   ·exact hh
  have h4:a≤a / p:=by
   have h6:a / p≥a:=by
    rw [ge_iff_le,Int.le_ediv_iff_mul_le hp]
    have:=Int.mul_le_mul_of_nonpos_left ha hp1
    omega
   exact h6
  exact ⟨by omega,by omega⟩
def uh (P:Program) (op:BinOp) (t:TypeId) (x y:AV) (K:AV→Prop):Prop:=
 match x,y with
 | .int k a,.int k' b=>
  match op with
  | .shl=>aZ (0≤b) (dh k (V9 k a b) fun n=>K (.int k n))
  | .shr=>aZ (0≤b) (K (.int k (Ll k a b)))
  | .add=>aZ (k=k') (dh k (a+b) fun n=>K (.int k n))
  | .sub=>aZ (k=k') (dh k (a - b) fun n=>K (.int k n))
  | .mul=>aZ (k=k') (dh k (a*b) fun n=>K (.int k n))
  | .quo=>aZ (k=k'∧b≠0) (dh k (a.tdiv b) fun n=>K (.int k n))
  | .rem=>aZ (k=k'∧b≠0) (K (.int k (a.tmod b)))
  | .and=>aZ (k=k') (K (.int k (iJ .and k a b)))
  | .or=>aZ (k=k') (K (.int k (iJ .or k a b)))
  | .xor=>aZ (k=k') (K (.int k (iJ .xor k a b)))
  | .andNot=>aZ (k=k') (K (.int k (iJ .andNot k a b)))
  | .eql=>aZ (k=k') (K (.bool (decide (a=b))))
  | .neq=>aZ (k=k') (K (.bool (decide (¬a=b))))
  | .lss=>aZ (k=k') (K (.bool (decide (a<b))))
  | .leq=>aZ (k=k') (K (.bool (decide (a≤b))))
  | .gtr=>aZ (k=k') (K (.bool (decide (b<a))))
  | .geq=>aZ (k=k') (K (.bool (decide (b≤a))))
 | .str a,.str b=>
  match op with
  | .add=>aZ (a.length+b.length≤9223372036854775807) (K (.str (a++b)))
  | .eql=>K (.bool (decide (a=b)))
  | .neq=>K (.bool (decide (¬a=b)))
  | .lss=>K (.bool (Op.bytesLess a b))
  | .leq=>K (.bool (Op.bytesLess a b || decide (a=b)))
  | .gtr=>K (.bool (!(Op.bytesLess a b || decide (a=b))))
  | .geq=>K (.bool (!Op.bytesLess a b))
  | _=>False
 | .bool a,.bool b=>
  match op with
  | .eql=>aZ (P.underlying t=some .bool) (K (.bool (decide (a=b))))
  | .neq=>aZ (P.underlying t=some .bool) (K (.bool (decide (¬a=b))))
  | _=>False
 | _,_=>False
section
variable {P:Program} {w0:World} {T0:Bs} {o:Oper} {s:S} {K:AV→S→Prop}
theorem CO (op:BinOp) (t:TypeId) (x y:Operand) (a b:Value) (w:World) (h1:∀ c,a≠.agg c) (h2:a≠.nilIface):(eqGuard op t x y a b).run P w=.ok () w:=by
 have hh:∀ q:Bool,Sem.run P (do
   if (!q)=true then return
   match a,b with
   | .nilIface,.nilIface=>
    if (x matches .const _) || (y matches .const _) then return
    if ←Op.eqGuardIn Op.maxDepth t a b then unsupported (.noEntry "binop/eql: two nil values of an interface type with methods, neither of them the literal nil")
   | .agg _,.agg _=>
    if !(←program).eqGuardType (←program).depth t then return
    if ←Op.eqGuardIn Op.maxDepth t a b then unsupported (.noEntry "binop/eql: two nil values of an interface type with methods, in a part of a struct or an array")
   | _,_=>pure ()) w=.ok () w:=by
  intro q
  cases q
  ·rfl
  ·cases a<;>first|exact absurd rfl h2|exact absurd rfl (h1 _)|(cases b<;>rfl)
 cases op<;>first|exact hh false|exact hh true
theorem lq (op:BinOp) (t t':TypeId) (x y:Operand) (ho:o.op=.binOp op t x y t') (ρ:Operand→Value) (w:World) (v:Value)
  (h1:∀ c,ρ x≠.agg c) (h2:ρ x≠.nilIface) (hr:(binOp op t (ρ x) (ρ y)).run P w=.ok v w):(execOp ρ o).run P w=.ok (.value v) w:=by
 unfold execOp
 rw [ho]
 simp [Sem.run_bind,CO op t x y (ρ x) (ρ y) w h1 h2,hr,Result.andThen]
theorem Jz {op:BinOp} {t t':TypeId} {x y:Operand} (ho:o.op=.binOp op t x y t') (hx:au x) (hy:au y)
  (h:uh P op t (s.ev x) (s.ev y) (fun r=>K r s)):cZ P w0 T0 o s K:=by
 intro H a w m hm
 have rx:=hm.ev x hx
 have ry:=hm.ev y hy
 revert h
 generalize s.ev x=ax at *
 generalize s.ev y=ay at *
 generalize hvx:a.eval x=vx at *
 generalize hvy:a.eval y=vy at *
 intro h
 have fin:∀ (r:AV) (v:Value),K r s→(binOp op t vx vy).run P w=.ok v w→Rv (aA T0 w0.heap.size m s w) r v→(∀ c,vx≠.agg c)→vx≠.nilIface →
   ∃ r v,K r s∧(execOp a.eval o).run P w=.ok (.value v) w∧Rv (aA T0 w0.heap.size m s w) r v:=by
  intro r v hk hr hv h1 h2
  exact ⟨r,v,hk,lq op t t' x y ho a.eval w v (by rw [hvx];exact h1) (by rw [hvx];exact h2) (by rw [hvx,hvy];exact hr),hv⟩
 cases rx with
 | int k p hp=>
  cases ry with
  | int k' q hq=>
   cases op<;>simp only [uh] at h
   case add=>obtain ⟨rfl,h⟩:=h;exact fin _ _ (h _ rfl (dA _ _)) (by simp [binOp,Op.intArith]) (.int _ _ (dA _ _)) (by simp) (by simp)
   case sub=>obtain ⟨rfl,h⟩:=h;exact fin _ _ (h _ rfl (dA _ _)) (by simp [binOp,Op.intArith]) (.int _ _ (dA _ _)) (by simp) (by simp)
   case mul=>obtain ⟨rfl,h⟩:=h;exact fin _ _ (h _ rfl (dA _ _)) (by simp [binOp,Op.intArith]) (.int _ _ (dA _ _)) (by simp) (by simp)
   case quo=>obtain ⟨⟨rfl,hb⟩,h⟩:=h;exact fin _ _ (h _ rfl (dA _ _)) (by simp [binOp,Op.intDiv,hb]) (.int _ _ (dA _ _)) (by simp) (by simp)
   case rem=>obtain ⟨⟨rfl,hb⟩,h⟩:=h;exact fin _ _ h (by simp [binOp,Op.intDiv,hb]) (.int _ _ (LC hp)) (by simp) (by simp)
   case and=>obtain ⟨rfl,h⟩:=h;exact fin _ _ h (by simp [binOp,Op.intBits,iJ]) (.int _ _ (rW _ _ _ _)) (by simp) (by simp)
   case or=>obtain ⟨rfl,h⟩:=h;exact fin _ _ h (by simp [binOp,Op.intBits,iJ]) (.int _ _ (rW _ _ _ _)) (by simp) (by simp)
   case xor=>obtain ⟨rfl,h⟩:=h;exact fin _ _ h (by simp [binOp,Op.intBits,iJ]) (.int _ _ (rW _ _ _ _)) (by simp) (by simp)
   case andNot=>obtain ⟨rfl,h⟩:=h;exact fin _ _ h (by simp [binOp,Op.intBits,iJ]) (.int _ _ (rW _ _ _ _)) (by simp) (by simp)
   case shl=>
    obtain ⟨hb,h⟩:=h
    have hb':¬q<0:=by omega
    exact fin _ _ (h _ rfl (dA _ _)) (by simp [binOp,Op.shift,hb',V9]) (.int _ _ (dA _ _)) (by simp) (by simp)
   case shr=>
    obtain ⟨hb,h⟩:=h
    have hb':¬q<0:=by omega
    exact fin _ _ h (by simp [binOp,Op.shift,hb',Ll]) (.int _ _ (Pm hp)) (by simp) (by simp)
   case eql=>obtain ⟨rfl,h⟩:=h;exact fin _ _ h (by simp [binOp,Op.intCmp];rfl) (.bool _) (by simp) (by simp)
   case neq=>
    obtain ⟨rfl,h⟩:=h
    exact fin _ _ h (by simp [binOp,Op.intCmp,bne];rfl) (.bool _) (by simp) (by simp)
   case lss=>obtain ⟨rfl,h⟩:=h;exact fin _ _ h (by simp [binOp,Op.intCmp]) (.bool _) (by simp) (by simp)
   case leq=>obtain ⟨rfl,h⟩:=h;exact fin _ _ h (by simp [binOp,Op.intCmp]) (.bool _) (by simp) (by simp)
   case gtr=>obtain ⟨rfl,h⟩:=h;exact fin _ _ h (by simp [binOp,Op.intCmp]) (.bool _) (by simp) (by simp)
   case geq=>obtain ⟨rfl,h⟩:=h;exact fin _ _ h (by simp [binOp,Op.intCmp]) (.bool _) (by simp) (by simp)
  | _=>exact absurd h (by cases op<;>simp [uh])
 | str p hp=>
  cases ry with
  | str q hq=>
   have hs:∀ l:List UInt8,(ByteArray.mk l.toArray).size=l.length:=fun l=>by simp [ByteArray.size]
   have hbq:(p == q)=decide (p=q):=by rw [Bool.eq_iff_iff];simp
   cases op<;>simp only [uh] at h
   case add=>
    obtain ⟨hl,h⟩:=h
    refine fin _ (.string ⟨(p++q).toArray⟩) h ?_ (.str _ (by simp only [List.length_append,maxLen];omega)) (by simp) (by simp)
    have h1:¬(((ByteArray.mk p.toArray).size+(ByteArray.mk q.toArray).size:Nat):Int) > IntKind.i64.max:=by
     rw [hs,hs];simp [IntKind.max,IntKind.signed,IntKind.bits];omega
    simp only [binOp,Op.stringOp]
    rw [if_neg h1]
    have:(ByteArray.mk p.toArray++ByteArray.mk q.toArray)=⟨(p++q).toArray⟩:=by
     apply ByteArray.ext
     simp
    rw [this];rfl
   case eql=>exact fin _ _ h (by simp [binOp,Op.stringOp,hbq]) (.bool _) (by simp) (by simp)
   case neq=>exact fin _ _ h (by simp [binOp,Op.stringOp,hbq]) (.bool _) (by simp) (by simp)
   case lss=>exact fin _ _ h (by simp [binOp,Op.stringOp]) (.bool _) (by simp) (by simp)
   case leq=>exact fin _ _ h (by simp [binOp,Op.stringOp,hbq]) (.bool _) (by simp) (by simp)
   case gtr=>exact fin _ _ h (by simp [binOp,Op.stringOp,hbq]) (.bool _) (by simp) (by simp)
   case geq=>exact fin _ _ h (by simp [binOp,Op.stringOp]) (.bool _) (by simp) (by simp)
   all_goals exact absurd h (by simp)
  | _=>exact absurd h (by cases op<;>simp [uh])
 | bool p=>
  cases ry with
  | bool q=>
   cases op<;>simp only [uh] at h
   case eql=>obtain ⟨ht,h⟩:=h;exact fin _ _ h (by have:=run_eql_bool w t p q ht;rwa [show (decide (p=q))=(p == q) from by cases p<;>cases q<;>rfl]) (.bool _) (by simp) (by simp)
   case neq=>obtain ⟨ht,h⟩:=h;exact fin _ _ h (by have:=run_neq_bool w t p q ht;rwa [show (decide (¬p=q))=(!(p == q)) from by cases p<;>cases q<;>rfl]) (.bool _) (by simp) (by simp)
   all_goals exact absurd h (by simp)
  | _=>exact absurd h (by cases op<;>simp [uh])
 | _=>exact absurd h (by cases op<;>simp [uh])
end
end Go.Fv
/-
 Operations that read: lists of cells, rows, their parts.
-/
namespace Go.Fv
open Go.RowKit
def aN:aF→Nat→List AV
 | .bools l,i=>[.bool (l.getD i false)]
 | .ints k l,i=>[.int k (l.getD i 0)]
 | .strs l,i=>[.str (l.getD i [])]
 | .objs _ l,i=>l.getD i []
def dJ:aF→Nat→Nat→aF
 | .bools l,lo,hi=>.bools ((l.drop lo).take (hi - lo))
 | .ints k l,lo,hi=>.ints k ((l.drop lo).take (hi - lo))
 | .strs l,lo,hi=>.strs ((l.drop lo).take (hi - lo))
 | .objs sz l,lo,hi=>.objs sz ((l.drop lo).take (hi - lo))
theorem cO.length {c:Ctx}:∀ {l:List AV} {vs:List Value},cO c l vs→vs.length=l.length
 | _,_,.nil=>rfl
 | _,_,.cons _ _ _ _ _ _ t=>by simp [cO.length t]
theorem cO.drop {c:Ctx}:∀ {l:List AV} {vs:List Value} (n:Nat),cO c l vs→cO c (l.drop n) (vs.drop n)
 | _,_,0,h=>h
 | _,_,_+1,.nil=>.nil
 | _,_,n+1,.cons _ _ _ _ _ _ t=>by simpa using cO.drop n t
theorem cO.take {c:Ctx}:∀ {l:List AV} {vs:List Value} (n:Nat),cO c l vs→cO c (l.take n) (vs.take n)
 | _,_,0,_=>by simpa using .nil
 | _,_,_+1,.nil=>.nil
 | _,_,n+1,.cons x v l vs h h1 t=>by simpa using .cons x v _ _ h h1 (cO.take n t)
theorem cO.append {c:Ctx}:∀ {l l':List AV} {vs vs':List Value},cO c l vs→cO c l' vs'→cO c (l++l') (vs++vs')
 | _,_,_,_,.nil,h=>h
 | _,_,_,_,.cons x v l vs h h1 t,h'=>.cons x v _ _ h h1 (cO.append t h')
theorem cO.get {c:Ctx}:∀ {l:List AV} {vs:List Value} {i:Nat} {x:AV},cO c l vs→l[i]?=some x→∃ v,vs[i]?=some v∧Rv c x v
 | _,_,0,_,.cons x v l vs h h1 t,e=>by cases e;exact ⟨v,rfl,h⟩
 | _,_,i+1,_,.cons x v l vs h h1 t,e=>by simpa using cO.get (i:=i) t (by simpa using e)
theorem dH.get {c:Ctx}:∀ {l:List AV} {vs:List Value} {i:Nat} {x:AV},dH c l vs→l[i]?=some x→∃ v,vs[i]?=some v∧Rv c x v
 | _,_,0,_,.cons x v l vs h t,e=>by cases e;exact ⟨v,rfl,h⟩
 | _,_,i+1,_,.cons x v l vs h t,e=>by simpa using dH.get (i:=i) t (by simpa using e)
theorem dH.length {c:Ctx}:∀ {l:List AV} {vs:List Value},dH c l vs→vs.length=l.length
 | _,_,.nil=>rfl
 | _,_,.cons _ _ _ _ _ t=>by simp [dH.length t]
theorem dH.append {c:Ctx}:∀ {l l':List AV} {vs vs':List Value},dH c l vs→dH c l' vs'→dH c (l++l') (vs++vs')
 | _,_,_,_,.nil,h=>h
 | _,_,_,_,.cons x v l vs h t,h'=>.cons x v _ _ h (dH.append t h')
theorem cO.one {c:Ctx}:∀ {l:List AV} {vs:List Value},cO c l vs→∀ u,u∈vs→u.oneCell'=true
 | _,_,.cons x v l vs h h1 t,u,hu=>by
  cases List.mem_cons.1 hu with
  | inl e=>subst e;exact h1
  | inr e=>exact cO.one t u e
theorem bP.len {c:Ctx} {r:aF} {cells:List Value} (h:bP c r cells):cells.length=r.len*r.sz:=by
 cases h with
 | bools l=>simp [aF.len,aF.sz]
 | ints k l _=>simp [aF.len,aF.sz]
 | strs l _=>simp [aF.len,aF.sz]
 | objs sz l cells hz h=>
  simp only [aF.len,aF.sz]
  clear hz
  induction l generalizing cells with
  | nil=>cases h;simp
  | cons o l ih=>
   cases h with
   | cons _ _ vs _ cs hh hl t=>simp [ih t,hl,Nat.succ_mul,Nat.add_comm]
theorem bJ.one {c:Ctx} {sz:Nat}:∀ {l:List (List AV)} {cells:List Value},bJ c sz l cells→∀ u,u∈cells→u.oneCell'=true
 | _,_,.cons _ o vs l cs h hl t,u,hu=>by
  cases List.mem_append.1 hu with
  | inl e=>exact h.one u e
  | inr e=>exact bJ.one t u e
theorem bP.one {c:Ctx} {r:aF} {cells:List Value} (h:bP c r cells):∀ u,u∈cells→u.oneCell'=true:=by
 cases h with
 | bools l=>intro u hu;obtain ⟨_,_,rfl⟩:=List.mem_map.1 hu;rfl
 | ints k l _=>intro u hu;obtain ⟨_,_,rfl⟩:=List.mem_map.1 hu;rfl
 | strs l _=>intro u hu;obtain ⟨_,_,rfl⟩:=List.mem_map.1 hu;rfl
 | objs sz l cells hz h=>exact h.one
theorem bP.pos {c:Ctx} {r:aF} {cells:List Value} (h:bP c r cells):0<r.sz:=by
 cases h<;>simp [aF.sz]<;>assumption
theorem bJ.elem {c:Ctx} {sz:Nat}:∀ {l:List (List AV)} {cells:List Value} {i:Nat},bJ c sz l cells→i<l.length →
  cO c (l.getD i []) ((cells.drop (i*sz)).take sz)
 | _,_,0,.cons _ o vs l cs h hl t,_=>by
  simpa [←hl] using h
 | _,_,i+1,.cons _ o vs l cs h hl t,hi=>by
  have e:(vs++cs).drop ((i+1)*sz)=cs.drop (i*sz):=by
   rw [Nat.succ_mul,Nat.add_comm,List.drop_append,←hl];simp
  rw [e]
  simpa using bJ.elem (i:=i) t (by simpa using hi)
theorem bJ.drop {c:Ctx} {sz:Nat}:∀ {l:List (List AV)} {cells:List Value} (n:Nat),bJ c sz l cells→bJ c sz (l.drop n) (cells.drop (n*sz))
 | _,_,0,h=>by simpa using h
 | _,_,n+1,.nil _=>by simpa using .nil _
 | _,_,n+1,.cons _ o vs l cs h hl t=>by
  have e:(vs++cs).drop ((n+1)*sz)=cs.drop (n*sz):=by
   rw [Nat.succ_mul,Nat.add_comm,List.drop_append,←hl];simp
  rw [e];simpa using bJ.drop n t
theorem bJ.take {c:Ctx} {sz:Nat}:∀ {l:List (List AV)} {cells:List Value} (n:Nat),bJ c sz l cells→bJ c sz (l.take n) (cells.take (n*sz))
 | _,_,0,h=>by simpa using .nil _
 | _,_,n+1,.nil _=>by simpa using .nil _
 | _,_,n+1,.cons _ o vs l cs h hl t=>by
  have e:(vs++cs).take ((n+1)*sz)=vs++cs.take (n*sz):=by
   rw [Nat.succ_mul,Nat.add_comm,List.take_append,←hl,List.take_of_length_le (by omega)];simp
  rw [e];simpa using .cons sz o vs _ _ h hl (bJ.take n t)
theorem bJ.append {c:Ctx} {sz:Nat}:∀ {l l':List (List AV)} {cells cells':List Value},bJ c sz l cells→bJ c sz l' cells'→bJ c sz (l++l') (cells++cells')
 | _,_,_,_,.nil _,h=>by simpa using h
 | _,_,_,_,.cons _ o vs l cs h hl t,h'=>by
  rw [List.append_assoc,List.cons_append];exact .cons sz o vs _ _ h hl (bJ.append t h')
theorem bP.elem {c:Ctx} {r:aF} {cells:List Value} {i:Nat} (h:bP c r cells) (hi:i<r.len):cO c (aN r i) ((cells.drop (i*r.sz)).take r.sz):=by
 cases h with
 | bools l=>
  simp only [aF.len] at hi
  have:((l.map Value.bool).drop (i*1)).take 1=[Value.bool (l.getD i false)]:=by
   rw [Nat.mul_one,List.drop_eq_getElem_cons (by simpa using hi)];simp [List.getD,hi]
  simp only [aF.sz,aN];rw [this];exact .cons _ _ _ _ (.bool _) rfl .nil
 | ints k l hk=>
  simp only [aF.len] at hi
  have:((l.map (Value.int k)).drop (i*1)).take 1=[Value.int k (l.getD i 0)]:=by
   rw [Nat.mul_one,List.drop_eq_getElem_cons (by simpa using hi)];simp [List.getD,hi]
  simp only [aF.sz,aN];rw [this]
  exact .cons _ _ _ _ (.int _ _ (hk _ (by simp [List.getD,hi]))) rfl .nil
 | strs l hs=>
  simp only [aF.len] at hi
  have:((l.map fun s=>Value.string ⟨s.toArray⟩).drop (i*1)).take 1=[Value.string ⟨(l.getD i []).toArray⟩]:=by
   rw [Nat.mul_one,List.drop_eq_getElem_cons (by simpa using hi)];simp [List.getD,hi]
  simp only [aF.sz,aN];rw [this]
  exact .cons _ _ _ _ (.str _ (hs _ (by simp [List.getD,hi]))) rfl .nil
 | objs sz l cells hz h=>simp only [aF.sz,aN];exact h.elem hi
theorem Ko {r:aF} (i:Nat) (h:eG r=true):bT (aN r i)=true:=by
 cases r with
 | objs sz l=>
  simp only [eG,List.all_eq_true] at h
  simp only [aN,List.getD_eq_getElem?_getD]
  cases hq:l[i]? with
  | none=>rfl
  | some x=>exact h x (List.mem_of_getElem? hq)
 | _=>rfl
theorem iW {r:aF} (lo hi:Nat) (h:eG r=true):eG (dJ r lo hi)=true:=by
 cases r with
 | objs sz l=>
  simp only [eG,List.all_eq_true,dJ] at *
  exact fun x hx=>h x (List.mem_of_mem_drop (List.mem_of_mem_take hx))
 | _=>rfl
theorem uJ:∀ (l:List AV) (n:Nat),bT l=true→bT (l.drop n)=true
 | _,0,h=>h
 | [],_+1,_=>rfl
 | x::l,n+1,h=>by
  simp only [bT,Bool.and_eq_true] at h
  exact uJ l n h.2
theorem bP.sub {c:Ctx} {r:aF} {cells:List Value} (lo hi:Nat) (h:bP c r cells):bP c (dJ r lo hi) ((cells.drop (lo*r.sz)).take ((hi - lo)*r.sz)):=by
 cases h with
 | bools l=>simp only [aF.sz,dJ,Nat.mul_one,←List.map_drop,←List.map_take];exact .bools _
 | ints k l hk=>
  simp only [aF.sz,dJ,Nat.mul_one,←List.map_drop,←List.map_take]
  exact .ints _ _ fun x hx=>hk x (List.mem_of_mem_drop (List.mem_of_mem_take hx))
 | strs l hs=>
  simp only [aF.sz,dJ,Nat.mul_one,←List.map_drop,←List.map_take]
  exact .strs _ fun x hx=>hs x (List.mem_of_mem_drop (List.mem_of_mem_take hx))
 | objs sz l cells hz h=>simp only [aF.sz,dJ];exact .objs _ _ _ hz ((h.drop lo).take (hi - lo))
theorem ig (r:aF) (lo hi:Nat) (h:hi≤r.len):(dJ r lo hi).len=hi - lo:=by
 cases r<;>simp [dJ,aF.len] at *<;>omega
theorem eH.drop {c:Ctx} {a:Addr} {cells:List Value} (h:eH c a cells) (n:Nat):eH c (a.add n) (cells.drop n):=by
 obtain ⟨h1,h2,h3⟩:=h
 have hb:(a.add n).block=a.block:=by unfold Addr.add;split<;>rfl
 refine ⟨trivial,fun hn=>by rw [hb];exact h2 fun e=>hn (by simp [e]),fun j u hu=>?_⟩
 rw [List.getElem?_drop] at hu
 have:=h3 _ _ hu
 have e:(a.add n).add j=a.add (n+j):=by
  unfold Addr.add
  by_cases hn:n=0
  ·subst hn;simp
  ·by_cases hj:j=0
   ·subst hj;simp [hn]
   ·have:¬(n=0∧j=0):=fun h=>hn h.1
    simp [hn,hj,Nat.add_assoc]
 rw [e];exact this
theorem eH.take {c:Ctx} {a:Addr} {cells:List Value} (h:eH c a cells) (n:Nat):eH c a (cells.take n):=by
 obtain ⟨h1,h2,h3⟩:=h
 refine ⟨h1,fun hn=>h2 fun e=>hn (by simp [e]),fun j u hu=>h3 j u ?_⟩
 rw [List.getElem?_take] at hu
 split at hu
 ·exact hu
 ·cases hu
/-! ### Loading from a list of cells -/
def EP:TypeDesc→Bool
 | .struct _ | .array _ _=>true
 | _=>false
def Fh (c:AV) (K:Prop):Prop:=match c with | .int k n=>qA (jf k n) K|_=>K
def gK (P:Program) (t:TypeId) (cs:List AV) (K:AV→Prop):Prop:=
 match P.underlying t with
 | none=>False
 | some d=>bif EP d then aZ (P.cellsOf t≤cs.length) (K (.agg (cs.take (P.cellsOf t)))) else match cs with|[]=>False|c::_=>Fh c (K c)
theorem lK {P:Program} {t:TypeId} {d:TypeDesc} (h:P.underlying t=some d) (w:World):(isAgg t).run P w=.ok (EP d) w:=by
 unfold isAgg
 simp only [Sem.run_bind,run_underlying h,Result.andThen]
 cases d<;>rfl
theorem info_of_underlying {P:Program} {t:TypeId} {d:TypeDesc} (h:P.underlying t=some d):∃ i,P.info? t=some i:=by
 unfold Program.underlying at h
 cases hi:P.info? t with
 | none=>rw [hi] at h;cases h
 | some i=>exact ⟨i,rfl⟩
theorem dw {P:Program} {t:TypeId} {i:TypeInfo} (h:P.info? t=some i) (w:World):(sizeOf t).run P w=.ok (P.cellsOf t) w:=by
 simp [sizeOf,typeInfo,h,Program.cellsOf]
theorem bM {P:Program} {t:TypeId} (h:0<P.cellsOf t):∃ i,P.info? t=some i:=by
 unfold Program.cellsOf at h
 cases hi:P.info? t with
 | none=>rw [hi] at h;simp at h
 | some i=>exact ⟨i,rfl⟩
theorem nR {P:Program} {t:TypeId} {cs:List AV} {K:AV→Prop} {c:Ctx} {vs:List Value} {a:Addr} (h:gK P t cs K) (hv:cO c cs vs)
  (hc:∀ j u,vs[j]?=some u→c.w.cell? (a.add j)=some u):∃ r v,K r∧(loadVar t a).run P c.w=.ok v c.w∧Rv c r v:=by
 unfold gK at h
 cases ht:P.underlying t with
 | none=>rw [ht] at h;exact h.elim
 | some d=>
  rw [ht] at h
  obtain ⟨i,hi⟩:=info_of_underlying ht
  cases hd:EP d with
  | true=>
   simp only [hd,cond_true] at h
   obtain ⟨hl,hk⟩:=h
   refine ⟨_,_,hk,?_,.agg _ _ (hv.take (P.cellsOf t))⟩
   unfold loadVar
   have e:(vs.take (P.cellsOf t)).length=P.cellsOf t:=by simp [hv.length];omega
   have hr:=run_loadCells_list (P:=P) c.w a (vs.take (P.cellsOf t)) (fun j u hu=>hc j u (by
    rw [List.getElem?_take] at hu
    split at hu
    ·exact hu
    ·cases hu))
   rw [e] at hr
   simp [Sem.run_bind,lK ht,hd,dw hi,hr,Result.andThen]
  | false=>
   simp only [hd,cond_false] at h
   cases cs with
   | nil=>exact h.elim
   | cons x l=>
    cases hv with
    | cons _ v _ vs hx h1 htl=>
     have hcell:=hc 0 v (by simp)
     have e0:a.add 0=a:=by simp [Addr.add]
     rw [e0] at hcell
     refine ⟨x,v,?_,?_,hx⟩
     ·cases hx with
      | int k n hk=>exact h hk
      | _=>exact h
     ·unfold loadVar
      simp [Sem.run_bind,lK ht,hd,Result.andThen,load,Sem.run,hcell]
end Go.Fv
