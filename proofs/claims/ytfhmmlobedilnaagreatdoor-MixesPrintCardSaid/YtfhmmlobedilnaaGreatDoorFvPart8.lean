/-
  A part of the proof of the claim: walks over the program's functions and the plain laws that these need. No condition of its own.
-/
import Derived.Test.YtfhmmlobedilnaaGreatDoorFvPart7
set_option linter.unusedSectionVars false
set_option linter.unusedVariables false
set_option linter.unusedSimpArgs false
set_option linter.unnecessarySimpa false
/-
 States that say less; contracts of functions; calls.
-/
namespace Go.Fv
open Go.RowKit
mutual
theorem jS (p:Nat→Nat):∀ x:AV,bg x=true→ren p x=x
 | .own i,h=>by simp [bg] at h
 | .ptr i o,h=>by simp [bg] at h
 | .elt i a b c,h=>by simp [bg] at h
 | .pre i k,h=>by simp [bg] at h
 | .suf i a b k,h=>by simp [bg] at h
 | .agg cs,h=>by simp only [ren];rw [iY p cs (by simpa [bg] using h)]
 | .tup cs,h=>by simp only [ren];rw [iY p cs (by simpa [bg] using h)]
 | .fn f cs,h=>by simp only [ren];rw [iY p cs (by simpa [bg] using h)]
 | .cell cs,_=>rfl
 | .dead,_=>rfl
 | .nilS,_=>rfl
 | .bool _,_=>rfl
 | .int _ _,_=>rfl
 | .str _,_=>rfl
 | .ro _,_=>rfl
 | .raw _,_=>rfl
 | .mp _ _,_=>rfl
 | .opt b v,h=>by simp only [ren];rw [jS p v (by simpa [bg] using h)]
 | .ifc b v,h=>by simp only [ren];rw [jS p v (by simpa [bg] using h)]
 | .bm b v,h=>by simp only [ren];rw [jS p v (by simpa [bg] using h)]
theorem iY (p:Nat→Nat):∀ x:List AV,bD x=true→dh p x=x
 | [],_=>rfl
 | x::l,h=>by
  simp only [bD,Bool.and_eq_true] at h
  simp only [dh];rw [jS p x h.1,iY p l h.2]
end
def Item.ren (p:Nat→Nat):Item→Item
 | .row e r=>.row e (qp p r)
 | .box e cs=>.box e (dh p cs)
 | .map ks vs=>.map (dh p ks) (dh p vs)
 | .iter mp since seen=>.iter (p mp) since seen
 | .siter t pos=>.siter t pos
def Item.below (n:Nat):Item→Bool
 | .row _ r=>kD n r
 | .box _ cs=>aA n cs
 | .map ks vs=>aA n ks && aA n vs
 | .iter mp _ _=>decide (mp<n)
 | .siter _ _=>true
class gQ (r:au):Prop where
 ok:dM r=true
instance {l:List Bool}:gQ (.bools l):=⟨rfl⟩
instance {k:IntKind} {l:List Int}:gQ (.ints k l):=⟨rfl⟩
instance {l:List (List UInt8)}:gQ (.strs l):=⟨rfl⟩
class jc (l:List (List AV)):Prop where
 ok:l.all bD=true
class EL {α:Type} (f:α→List AV):Prop where
 ok:∀ x,bD (f x)=true
class uI (l:List AV):Prop where
 ok:bD l=true
instance {sz:Nat} {l:List (List AV)} [h:jc l]:gQ (.objs sz l):=⟨h.ok⟩
instance:jc []:=⟨rfl⟩
instance {x:List AV} {l:List (List AV)} [h:uI x] [h2:jc l]:jc (x::l):=⟨by simp [List.all_cons,h.ok,h2.ok]⟩
instance {l l':List (List AV)} [h:jc l] [h2:jc l']:jc (l++l'):=⟨by simp [List.all_append,h.ok,h2.ok]⟩
instance {α:Type} {f:α→List AV} {l:List α} [h:EL f]:jc (l.map f):=⟨by simp [List.all_map,List.all_eq_true,h.ok]⟩
instance {x:List AV} {n:Nat} [h:uI x]:jc (List.replicate n x):=⟨by simp [List.all_eq_true,List.mem_replicate,h.ok]⟩
instance {α:Type} {f:α→List AV} {x:α} [h:EL f]:uI (f x):=⟨h.ok x⟩
instance {l:List (List AV)} {n:Nat} [h:jc l]:jc (l.take n):=⟨by have:=h.ok;simp only [List.all_eq_true] at *;exact fun x hx=>this x (List.mem_of_mem_take hx)⟩
instance {l:List (List AV)} {n:Nat} [h:jc l]:jc (l.drop n):=⟨by have:=h.ok;simp only [List.all_eq_true] at *;exact fun x hx=>this x (List.mem_of_mem_drop hx)⟩
theorem BO:∀ (l:List (List AV)) (n:Nat) (x:List AV),l.all bD=true→bD x=true→(l.set n x).all bD=true
 | [],_,_,_,_=>rfl
 | y::l,0,x,h,hx=>by simp only [List.all_cons,Bool.and_eq_true,List.set_cons_zero] at *;exact ⟨hx,h.2⟩
 | y::l,n+1,x,h,hx=>by simp only [List.all_cons,Bool.and_eq_true,List.set_cons_succ] at *;exact ⟨h.1,BO l n x h.2 hx⟩
instance {l:List (List AV)} {n:Nat} {x:List AV} [h:jc l] [h2:uI x]:jc (l.set n x):=⟨BO _ _ _ h.ok h2.ok⟩
class nZ (x:AV):Prop where
 ok:bg x=true
instance:uI []:=⟨rfl⟩
instance {x:AV} {l:List AV} [h:nZ x] [h2:uI l]:uI (x::l):=⟨by simp [bD,h.ok,h2.ok]⟩
instance {k:IntKind} {n:Int}:nZ (.int k n):=⟨rfl⟩
instance {b:Bool}:nZ (.bool b):=⟨rfl⟩
instance {s:List UInt8}:nZ (.str s):=⟨rfl⟩
instance {r:au}:nZ (.ro r):=⟨rfl⟩
instance {r:List AV}:nZ (.cell r):=⟨rfl⟩
instance:nZ .nilS:=⟨rfl⟩
instance:nZ .dead:=⟨rfl⟩
instance {v:Value}:nZ (.raw v):=⟨rfl⟩
instance {ks vs:List AV}:nZ (.mp ks vs):=⟨rfl⟩
theorem dF (r:au) [h:gQ r]:dM r=true:=h.ok
theorem IK (p:Nat→Nat):∀ (l:List (List AV)),l.all bD=true→l.map (dh p)=l:=fun l h=>by
 simp only [List.all_eq_true] at h
 conv=>rhs;rw [←List.map_id l]
 exact List.map_congr_left fun x hx=>iY p x (h x hx)
theorem GY (p:Nat→Nat) {r:au} (h:dM r=true):qp p r=r:=by
 cases r with
 | objs sz l=>simp only [qp];rw [IK p l h]
 | _=>rfl
theorem iT (p:Nat→Nat) (r:au) [h:gQ r]:qp p r=r:=GY p h.ok
theorem aW (n:Nat) (r:au) [h:gQ r]:kD n r=true:=CB n r h.ok
def pm (l:List (Nat × Nat)) (i:Nat):Nat:=match lk l i with|some j=>j|none=>i
def uX (p:Nat→Nat) (s:S) (N:Nat):List (Nat × AV)→Prop
 | []=>True
 |(r,v)::l=>(s.get r=ren p v∧Fv.below N v=true)∧uX p s N l
def fP (p:Nat→Nat) (rows:List (Nat × Item)) (N:Nat):List (Nat × Item)→Prop
 | []=>True
 |(i,it)::l=>(i<N∧lk rows (p i)=some (it.ren p)∧it.below N=true∧∀ x,x∈l→x.1=i∨p x.1≠p i)∧fP p rows N l
theorem bQ {α:Type}:∀ {l:List (Nat × α)} {i:Nat} {v:α},lk l i=some v→(i,v)∈l
 |(j,x)::l,i,v,h=>by
  simp only [lk] at h
  split at h
  ·rename_i e;subst e;cases h;exact .head _
  ·exact .tail _ (bQ h)
theorem rE {p:Nat→Nat} {s:S} {N:Nat}:∀ {l:List (Nat × AV)},uX p s N l→∀ r v,(r,v)∈l→s.get r=ren p v∧Fv.below N v=true
 |(q,y)::l,h,r,v,hm=>by
  cases List.mem_cons.1 hm with
  | inl e=>cases e;exact h.1
  | inr e=>exact rE h.2 r v e
theorem bW {p:Nat→Nat} {rows:List (Nat × Item)} {N:Nat}:∀ {l:List (Nat × Item)},fP p rows N l→∀ i it,(i,it)∈l→i<N∧lk rows (p i)=some (it.ren p)∧it.below N=true
 |(q,y)::l,h,i,it,hm=>by
  cases List.mem_cons.1 hm with
  | inl e=>cases e;exact ⟨h.1.1,h.1.2.1,h.1.2.2.1⟩
  | inr e=>exact bW h.2 i it e
theorem nN {p:Nat→Nat} {rows:List (Nat × Item)} {N:Nat}:∀ {l:List (Nat × Item)},fP p rows N l→∀ i j it jt,(i,it)∈l→(j,jt)∈l→p i=p j→i=j
 |(q,y)::l,h,i,j,it,jt,hi,hj,e=>by
  cases List.mem_cons.1 hi with
  | inl e1=>
   cases e1
   cases List.mem_cons.1 hj with
   | inl e2=>cases e2;rfl
   | inr e2=>cases h.1.2.2.2 _ e2 with
    | inl e3=>exact e3.symm
    | inr e3=>exact absurd e.symm e3
  | inr e1=>
   cases List.mem_cons.1 hj with
   | inl e2=>
    cases e2
    cases h.1.2.2.2 _ e1 with
    | inl e3=>exact e3
    | inr e3=>exact absurd e e3
   | inr e2=>exact nN h.2 i j it jt e1 e2 e
theorem aG.ren {p:Nat→Nat} {c c':Ctx} (h:iF p c c') (hw:c'.w.heap=c.w.heap) {O:Nat→Prop} {v:Value} {it:Item} (hb:it.below c'.N=true) (hi:aG c O v (it.ren p)):aG c' O v it:=by
 have hh:∀ b:Nat,c'.w.heap[b]?=c.w.heap[b]?:=fun b=>by rw [hw]
 cases it with
 | row e r=>
  obtain ⟨n,cells,hr,hn,ho,hO⟩:=hi
  have h1:(qp p r).len=r.len:=by cases r<;>simp [qp,au.len]
  have h2:(qp p r).sz=r.sz:=by cases r<;>rfl
  rw [h1] at hn;rw [h2] at ho
  exact ⟨n,cells,aS.ren h r hb hr,hn,kW ho fun g _=>hh g,hO⟩
 | box e cs=>
  obtain ⟨g,vs,rfl,hg,hl,he⟩:=hi
  exact ⟨g,vs,rfl,hg,aV.ren h cs hb hl,by rw [hh g];exact he⟩
 | map ks vs=>
  simp only [Item.below,Bool.and_eq_true] at hb
  obtain ⟨g,es,clock,rfl,hg,h1,h2,h3,h4,he⟩:=hi
  exact ⟨g,es,clock,rfl,hg,bI.ren h ks hb.1 h1,bI.ren h vs hb.2 h2,h3,h4,by rw [hh g];exact he⟩
 | iter mp since seen=>
  obtain ⟨g,q,sn,last,rfl,hg,h1,h2,h3,h4,he⟩:=hi
  have hlt:mp<c'.N:=by simpa [Item.below] using hb
  exact ⟨g,q,sn,last,rfl,hg,hlt,by rw [h.m mp hlt];exact h2,h3,h4,by rw [hh g];exact he⟩
 | siter t pos=>
  obtain ⟨g,rfl,hg,he⟩:=hi
  exact ⟨g,rfl,hg,by rw [hh g];exact he⟩
mutual
theorem fA {p:Nat→Nat} {b0:Nat} (hp:∀ i,i<b0→p i=i):∀ x:AV,Fv.below b0 x=true→ren p x=x
 | .own i,h=>by simp only [ren];rw [hp i (by simpa [Fv.below] using h)]
 | .ptr i o,h=>by simp only [ren];rw [hp i (by simpa [Fv.below] using h)]
 | .elt i a b c,h=>by simp only [ren];rw [hp i (by simpa [Fv.below] using h)]
 | .pre i k,h=>by simp only [ren];rw [hp i (by simpa [Fv.below] using h)]
 | .suf i a b k,h=>by simp only [ren];rw [hp i (by simpa [Fv.below] using h)]
 | .agg cs,h=>by simp only [ren];rw [iy hp cs (by simpa [Fv.below] using h)]
 | .tup cs,h=>by simp only [ren];rw [iy hp cs (by simpa [Fv.below] using h)]
 | .fn f cs,h=>by simp only [ren];rw [iy hp cs (by simpa [Fv.below] using h)]
 | .cell cs,_=>rfl
 | .dead,_=>rfl
 | .nilS,_=>rfl
 | .bool _,_=>rfl
 | .int _ _,_=>rfl
 | .str _,_=>rfl
 | .ro _,_=>rfl
 | .raw _,_=>rfl
 | .opt b v,h=>by simp only [ren];rw [fA hp v (by simpa [Fv.below] using h)]
 | .ifc b v,h=>by simp only [ren];rw [fA hp v (by simpa [Fv.below] using h)]
 | .bm b v,h=>by simp only [ren];rw [fA hp v (by simpa [Fv.below] using h)]
 | .mp _ _,_=>rfl
theorem iy {p:Nat→Nat} {b0:Nat} (hp:∀ i,i<b0→p i=i):∀ x:List AV,aA b0 x=true→dh p x=x
 | [],_=>rfl
 | x::l,h=>by
  simp only [aA,Bool.and_eq_true] at h
  simp only [dh];rw [fA hp x h.1,iy hp l h.2]
end
theorem Jw {p:Nat→Nat} {b0:Nat} (hp:∀ i,i<b0→p i=i) (r:au) (h:kD b0 r=true):qp p r=r:=by
 cases r with
 | objs sz l=>
  simp only [kD,List.all_eq_true] at h
  simp only [qp]
  congr 1
  conv=>rhs;rw [←List.map_id l]
  exact List.map_congr_left fun x hx=>iy hp x (h x hx)
 | _=>rfl
theorem Item.fA {p:Nat→Nat} {b0:Nat} (hp:∀ i,i<b0→p i=i) (it:Item) (h:it.below b0=true):it.ren p=it:=by
 cases it with
 | row e r=>simp only [Item.ren];rw [Jw hp r h]
 | box e cs=>simp only [Item.ren];rw [iy hp cs h]
 | map ks vs=>
  simp only [Item.below,Bool.and_eq_true] at h
  simp only [Item.ren];rw [iy hp ks h.1,iy hp vs h.2]
 | iter mp since seen=>simp only [Item.ren];rw [hp mp (by simpa [Item.below] using h)]
 | siter t pos=>rfl
theorem aG.ids {c:Ctx} {O:Nat→Prop} {v:Value} {it:Item} (h:aG c O v it):it.below c.N=true:=by
 cases it with
 | row e r=>obtain ⟨n,cells,hr,_⟩:=h;exact hr.ids
 | box e cs=>obtain ⟨g,vs,_,_,hl,_⟩:=h;exact hl.ids
 | map ks vs=>obtain ⟨g,es,clock,_,_,h1,h2,_⟩:=h;simp [Item.below,h1.ids,h2.ids]
 | iter mp since seen=>obtain ⟨g,q,sn,last,_,_,h1,_⟩:=h;simpa [Item.below] using h1
 | siter t pos=>rfl
theorem Rv.cut {w:World} {A:Nat→Prop} {m:Nat→Value} {No N:Nat} {x:AV} {u:Value} (hx:Rv ⟨w,A,m,No⟩ x u) (hb:Fv.below N x=true):Rv ⟨w,A,m,N⟩ x u:=by
 refine Rv.ren (p:=id) (c:=⟨w,A,m,No⟩) (c':=⟨w,A,m,N⟩) ⟨fun _ _=>rfl,fun b hb _=>⟨hb,rfl⟩⟩ x hb ?_
 rw [fA (p:=id) (fun _ _=>rfl) x hx.ids];exact hx
theorem aG.cut {w:World} {A:Nat→Prop} {m:Nat→Value} {No N:Nat} {O:Nat→Prop} {v:Value} {it:Item} (hx:aG ⟨w,A,m,No⟩ O v it) (hb:it.below N=true):aG ⟨w,A,m,N⟩ O v it:=by
 refine aG.ren (p:=id) (c:=⟨w,A,m,No⟩) (c':=⟨w,A,m,N⟩) ⟨fun _ _=>rfl,fun b hb _=>⟨hb,rfl⟩⟩ rfl hb ?_
 rw [Item.fA (p:=id) (fun _ _=>rfl) it hx.ids];exact hx
section
variable {P:Program} {w0:World} {T0:Bs} {b0:Nat}
theorem dB.of (l:List (Nat × Nat)) {s s':S} (hn:s'.n=s.n) (hb:b0≤s'.next) (hl:∀ x,x∈l→b0≤x.1) (he:uX (pm l) s s'.next s'.env) (hr:fP (pm l) s.rows s'.next s'.rows):dB w0 T0 b0 s s':=by
 rintro H a w hH ⟨m,hm⟩
 have hlow:∀ i,i<b0→pm l i=i:=by
  intro i hi
  unfold pm
  cases h:lk l i with
  | none=>rfl
  | some j=>have:=hl _ (bQ h);simp at this;omega
 have hren:iF (pm l) (ak T0 w0.heap.size m s w) (ak T0 w0.heap.size (fun i=>m (pm l i)) s' w):=
  {m:=fun _ _=>rfl,
   t:=by
    intro b ⟨h1,h2⟩ _
    refine ⟨⟨h1,fun i it hi e=>?_⟩,rfl⟩
    obtain ⟨_,h3,_⟩:=bW hr i it (bQ hi)
    exact h2 _ _ h3 e }
 refine ⟨fun i=>m (pm l i),{ size:=by rw [hn];exact hm.size,nodef:=hm.nodef,below:=hm.below,env:=?_,held:=?_,rows:=?_,sep:=?_ }⟩
 ·intro r v hv
  obtain ⟨h1,h2⟩:=rE he r v (bQ hv)
  refine Rv.ren hren v h2 ?_
  have:Rv (ak T0 w0.heap.size m s w) (s.get r) (a.tmps.getD r undef):=by
   simp only [S.get]
   cases hq:lk s.env r with
   | none=>exact .dead _
   | some y=>exact hm.env r y hq
  rw [←h1];exact this
 ·intro q hq
  have h1:=hH q hq
  refine Rv.ren hren q.1 (below_le hb _ h1) ?_
  rw [fA hlow _ h1];exact hm.held q hq
 ·intro i it hi
  obtain ⟨h1,h2,h3⟩:=bW hr i it (bQ hi)
  exact ⟨h1,aG.ren hren rfl h3 (hm.rows _ _ h2).2⟩
 ·intro i j it jt b hi hj hbi hbj
  obtain ⟨_,h2,_⟩:=bW hr i it (bQ hi)
  obtain ⟨_,h2',_⟩:=bW hr j jt (bQ hj)
  exact nN hr i j it jt (bQ hi) (bQ hj) (hm.sep _ _ _ _ b h2 h2' hbi hbj)
theorem dB.refl (s:S):dB w0 T0 b0 s s:=fun _ _ _ _ h=>h
theorem dB.trans {s s' s'':S} (h:dB w0 T0 b0 s s') (h':dB w0 T0 b0 s' s''):dB w0 T0 b0 s s'':=fun H a w hH hr=>h' H a w hH (h H a w hH hr)
/-! ### What a function hands back -/
def lI (T:Nat→Prop) (B:Nat) (w:World) (out:AV) (rows:List (Nat × Item)) (v:Value):Prop:=
 ∃ (m:Nat→Value) (N:Nat),Rv ⟨w,allow (bs T) B m rows,m,N⟩ out v ∧
  (∀ i it,lk rows i=some it→i<N∧aG ⟨w,allow (bs T) B m rows,m,N⟩ (B≤·) (m i) it) ∧
  (∀ i j it jt b,lk rows i=some it→lk rows j=some jt→blk (m i)=some b→blk (m j)=some b→i=j)
def LV (T0:Bs) (B:Nat) (w:World) (out:AV) (rows:List (Nat × Item)) (v:Value):Prop:=
 ∃ (m:Nat→Value) (N:Nat),Rv ⟨w,allow T0 B m rows,m,N⟩ out v ∧
  (∀ i it,lk rows i=some it→i<N∧aG ⟨w,allow T0 B m rows,m,N⟩ (ownB T0 B) (m i) it) ∧
  (∀ i j it jt b,lk rows i=some it→lk rows j=some jt→blk (m i)=some b→blk (m j)=some b→i=j)
theorem aG.own {c:Ctx} {O O':Nat→Prop} (h:∀ b,O b→O' b) {v:Value} {it:Item} (hi:aG c O v it):aG c O' v it:=by
 cases it with
 | row e r=>obtain ⟨n,cells,hr,hn,ho,hO⟩:=hi;exact ⟨n,cells,hr,hn,ho,fun b hb=>h b (hO b hb)⟩
 | box e cs=>obtain ⟨g,vs,rfl,hg,hl,he⟩:=hi;exact ⟨g,vs,rfl,h g hg,hl,he⟩
 | map ks vs=>obtain ⟨g,es,clock,rfl,hg,r⟩:=hi;exact ⟨g,es,clock,rfl,h g hg,r⟩
 | iter mp since seen=>obtain ⟨g,q,sn,last,rfl,hg,r⟩:=hi;exact ⟨g,q,sn,last,rfl,h g hg,r⟩
 | siter t pos=>obtain ⟨g,rfl,hg,r⟩:=hi;exact ⟨g,rfl,h g hg,r⟩
theorem aG.L6 {c:Ctx} {O O':Nat→Prop} {v:Value} {it:Item} (hi:aG c O v it) (h:∀ b,Fv.blk v=some b→O' b):aG c O' v it:=by
 cases it with
 | row e r=>obtain ⟨n,cells,hr,hn,ho,hO⟩:=hi;exact ⟨n,cells,hr,hn,ho,h⟩
 | box e cs=>obtain ⟨g,vs,rfl,hg,hl,he⟩:=hi;exact ⟨g,vs,rfl,h g rfl,hl,he⟩
 | map ks vs=>obtain ⟨g,es,clock,rfl,hg,r⟩:=hi;exact ⟨g,es,clock,rfl,h g rfl,r⟩
 | iter mp since seen=>obtain ⟨g,q,sn,last,rfl,hg,r⟩:=hi;exact ⟨g,q,sn,last,rfl,h g rfl,r⟩
 | siter t pos=>obtain ⟨g,rfl,hg,r⟩:=hi;exact ⟨g,rfl,h g rfl,r⟩
theorem FC {α:Type}:∀ {l:List (Nat × α)} {q:Nat × α},q∈l→∃ v,lk l q.1=some v
 |(j,x)::l,q,h=>by
  by_cases e:j=q.1
  ·exact ⟨x,by simp [lk,e]⟩
  ·cases List.mem_cons.1 h with
   | inl h=>subst h;exact absurd rfl e
   | inr h=>obtain ⟨v,hv⟩:=FC h;exact ⟨v,by simp [lk,e,hv]⟩
theorem LV.out {T:Nat→Prop} {B:Nat} {w:World} {out:AV} {rows:List (Nat × Item)} {v:Value} (h:LV (bs T) B w out rows v):lI T B w out rows v:=by
 obtain ⟨m,N,h1,h2,h3⟩:=h
 exact ⟨m,N,h1,fun i it hi=>⟨(h2 i it hi).1,((h2 i it hi).2).own fun b hb=>hb.resolve_right fun x=>x.1⟩,h3⟩
def aU (P:Program) (f:Nat) (args:List AV) (out:AV) (rows:List (Nat × Item)):Prop:=
 Enter P f∧∀ (w:World) (T:Nat→Prop) (vals:List Value),lH P w→bI ⟨w,T,fun _=>undef,0⟩ args vals →
  Calls P f vals.toArray w fun e w'=>∃ v,e=.returned v∧gy w.heap.size w w'∧lI T w.heap.size w' out rows v
def aI:Nat→List AV→List (Nat × AV)
 | _,[]=>[]
 | k,x::l=>(k,x)::aI (k+1) l
def Jz (P:Program) (s:S) (K:AV→Prop):ResultVar→Prop
 | .tmp t=>K (s.ev (.tmp t))
 | .cell t ty=>match s.get t with
  | .ptr i off=>match lk s.rows i with
   | some (.box _ cs)=>dS P ty (cs.drop off) K
   | _=>False
  | _=>False
def rQ (P:Program) (s:S):List ResultVar→(List AV→Prop)→Prop
 | [],K=>K []
 | x::l,K=>Jz P s (fun v=>rQ P s l (fun vs=>K (v::vs))) x
def iM:List AV→AV
 | [x]=>x
 | l=>.tup l
def dJ (P:Program) (w0:World) (T0:Bs) (res:List ResultVar) (out:AV) (rows:List (Nat × Item)) (s:S):Prop:=
 ∀ (a:Act) (w:World),Rep w0 T0 [] s a w→∃ v,(∀ (fn:Func),fn.results=res.toArray→(results fn a.tmps).run P w=.ok v w)∧LV T0 w0.heap.size w out rows v
def Post (P:Program) (w0:World) (T0:Bs) (res:List ResultVar) (out:AV) (rows:List (Nat × Item)):Exit→S→Prop
 | .normal,s=>dJ P w0 T0 res out rows s
 | .ret,s=>dJ P w0 T0 res out rows s
 | _,_=>False
@[congr] theorem Na {P:Program} {res:List ResultVar} {out:AV} {rows:List (Nat × Item)} {s s':S} (h:s=s'):dJ P w0 T0 res out rows s=dJ P w0 T0 res out rows s':=by rw [h]
def GZ (tmps:Array Value):ResultVar→Sem Value
 | .tmp t=>pure (tmps.getD t undef)
 | .cell a t=>do loadVar t (←asAddr (tmps.getD a undef))
theorem mJ {P:Program} {H:List (AV × Value)} {s:S} {a:Act} {w:World} {m:Nat→Value} (hm:aF w0 T0 H s a w m):∀ {res:List ResultVar} {K:List AV→Prop},rQ P s res K →
  ∃ l vs,K l∧(res.mapM (GZ a.tmps)).run P w=.ok vs w∧bI (ak T0 w0.heap.size m s w) l vs
 | [],K,h=>⟨[],[],h,rfl,.nil⟩
 | x::res,K,h=>by
  have key:∃ v u,rQ P s res (fun vs=>K (v::vs))∧(GZ a.tmps x).run P w=.ok u w∧Rv (ak T0 w0.heap.size m s w) v u:=by
   unfold rQ at h
   cases x with
   | tmp t=>exact ⟨_,_,h,rfl,hm.ev (.tmp t) trivial⟩
   | cell t ty=>
    simp only [Jz] at h
    split at h
    ·rename_i i off hg
     have hl:lk s.env t=some (.ptr i off):=by
      simp only [S.get] at hg
      cases hl:lk s.env t with
      | none=>rw [hl] at hg;cases hg
      | some y=>rw [hl] at hg;exact congrArg some hg
     have hp:=hm.env t _ hl
     split at h
     ·rename_i e cs hi
      generalize hvt:a.tmps.getD t undef=vt at hp
      cases hp with
      | ptr _ _ g _ hg=>
       obtain ⟨g',vs,hv,_,hl,hh⟩:=(hm.rows i _ hi).2
       have hmi:blk (m i)=some g:=hg
       rw [hv] at hmi;cases hmi
       obtain ⟨r,v,hk,hr,hrv⟩:=jF (c:=ak T0 w0.heap.size m s w) (a:=⟨g',off,none⟩) h (hl.drop off) fun j u hu=>by
        rw [Addr.add_lit]
        rw [List.getElem?_drop] at hu
        have:=cell_of_row w g' (off+j) vs.toArray e (0,0) hh
        show w.cell? _=_
        rw [this];simpa using hu
       refine ⟨r,v,hk,?_,hrv⟩
       have hr':(loadVar ty ⟨g',off,none⟩).run P w=.ok v w:=hr
       simp [GZ,hvt,asAddr,hr']
     ·exact h.elim
    ·exact h.elim
  obtain ⟨v,u,hk,hr,hv⟩:=key
  obtain ⟨l,vs,hk',hr',hvs⟩:=mJ hm hk
  refine ⟨v::l,u::vs,hk',?_,.cons _ _ _ _ hv hvs⟩
  rw [List.mapM_cons]
  simp [Sem.run_bind,hr,hr',Result.andThen]
def Ew:List Value→Value
 | [v]=>v
 | l=>.tuple l.toArray
theorem Eo (fn:Func) (tmps:Array Value):results fn tmps=(fn.results.mapM (GZ tmps) >>= fun vs=>pure (if h:vs.size=1 then vs[0] else .tuple vs)):=by
 unfold results
 congr 1
theorem iU {P:Program} {fn:Func} {res:List ResultVar} (h:fn.results=res.toArray) (tmps:Array Value) {w:World} {vs:List Value} (hr:(res.mapM (GZ tmps)).run P w=.ok vs w) :
  (results fn tmps).run P w=.ok (Ew vs) w:=by
 rw [Eo,h]
 have e2:=List.mapM_toArray (f:=GZ tmps) (l:=res)
 rw [e2]
 simp only [Sem.run_bind,Sem.run_map,hr,Result.andThen]
 match vs with
 | []=>rfl
 | [v]=>rfl
 | v::v'::l=>simp [Ew]
theorem dJ.of {P:Program} (l:List (Nat × Nat)) (N:Nat) {res:List ResultVar} {out:AV} {rows:List (Nat × Item)} {s:S} (h:rQ P s res (fun vs=>iM vs=ren (pm l) out)) (hb:Fv.below N out=true) (hr:fP (pm l) s.rows N rows):dJ P w0 T0 res out rows s:=by
 rintro a w ⟨m,hm⟩
 obtain ⟨vs,us,he,hrun,hvs⟩:=mJ hm h
 have hrv:Rv (ak T0 w0.heap.size m s w) (iM vs) (Ew us):=by
  cases hvs with
  | nil=>exact .tup _ _ .nil
  | cons x v l us hx ht=>
   cases ht with
   | nil=>exact hx
   | cons x' v' l' us' hx' ht'=>exact .tup _ _ (.cons _ _ _ _ hx (.cons _ _ _ _ hx' ht'))
 have hren:iF (pm l) (ak T0 w0.heap.size m s w) ⟨w,allow T0 w0.heap.size (fun i=>m (pm l i)) rows,fun i=>m (pm l i),N⟩:=
  {m:=fun _ _=>rfl,
   t:=by
    intro b ⟨h1,h2⟩ _
    refine ⟨⟨h1,fun i it hi e=>?_⟩,rfl⟩
    obtain ⟨_,h3,_⟩:=bW hr i it (bQ hi)
    exact h2 _ _ h3 e }
 refine ⟨_,fun fn hf=>iU hf a.tmps hrun,fun i=>m (pm l i),N,Rv.ren hren out hb (by rw [←he];exact hrv),fun i it hi=>?_,fun i j it jt b hi hj hbi hbj=>?_⟩
 ·obtain ⟨h1,h2,h3⟩:=bW hr i it (bQ hi)
  exact ⟨h1,aG.ren hren rfl h3 (hm.rows _ _ h2).2⟩
 ·obtain ⟨_,h2,_⟩:=bW hr i it (bQ hi)
  obtain ⟨_,h2',_⟩:=bW hr j jt (bQ hj)
  exact nN hr i j it jt (bQ hi) (bQ hj) (hm.sep _ _ _ _ b h2 h2' hbi hbj)
theorem mY {c:Ctx}:∀ {args:List AV} {vals:List Value} (k:Nat) (pre:List Value),pre.length=k→bI c args vals→∀ r v,lk (aI k args) r=some v→∃ u,(pre++vals)[r]?=some u∧Rv c v u
 | _,_,k,pre,hk,.nil,r,v,h=>by simp [aI,lk] at h
 | _,_,k,pre,hk,.cons x u l vs hx ht,r,v,h=>by
  simp only [aI,lk] at h
  split at h
  ·rename_i e;subst e;cases h
   exact ⟨u,by rw [List.getElem?_append_right (by omega)];simp [hk],hx⟩
  ·obtain ⟨u',h1,h2⟩:=mY (k+1) (pre++[u]) (by simp [hk]) ht r v h
   exact ⟨u',by simpa using h1,h2⟩
theorem aU.of_run {f:Nat} {fn:Func} {c:Code} {args:List AV} {out:AV} {rows:List (Nat × Item)} (hf:P.funcs[f]?=some fn) (hb:fn.body=some c)
  (hnm:(fn.name == "runtime.NumGoroutine")=false) (hn:args.length≤fn.ntmps) (res:List ResultVar) (hres:fn.results=res.toArray)
  (h:∀ (w0:World) (T0:Bs) [lC P w0 T0],VcRun P w0 T0 0 c ⟨fn.ntmps,aI 0 args,[],0⟩ (Post P w0 T0 res out rows)):aU P f args out rows:=by
 refine ⟨⟨fn,hf,by rw [hb];rfl,hnm⟩,fun w T vals hgl hv=>?_⟩
 haveI:lC P w (bs T):=⟨hgl,fun _ _ _ h=>h.1⟩
 refine calls_of_wp hf hb ?_
 have hlen:=hv.length
 have hle:bK (⟨w,T,fun _=>undef,0⟩:Ctx) (ak (bs T) w.heap.size (fun _=>undef) ⟨fn.ntmps,aI 0 args,[],0⟩ w):=
  ⟨Nat.le_refl _,fun _ _=>rfl,fun b hb _=>⟨⟨.inr hb,fun i it hi=>by simp [lk] at hi⟩,rfl⟩⟩
 have hrep:aF w (bs T) [] ⟨fn.ntmps,aI 0 args,[],0⟩ { tmps:=vals.toArray++Array.replicate (fn.ntmps - vals.toArray.size) undef,defers:=[] } w (fun _=>undef):=
  {size:=by simp;omega,nodef:=rfl,below:=aK.refl _ _,
   env:=by
    intro r v hr
    obtain ⟨u,h1,h2⟩:=mY 0 [] rfl hv r v hr
    have e:((vals.toArray++Array.replicate (fn.ntmps - vals.toArray.size) undef).getD r undef)=u:=by
     have h1':vals[r]?=some u:=by simpa using h1
     have hlt:r<vals.length:=(List.getElem?_eq_some_iff.1 h1').1
     rw [Array.getD_eq_getD_getElem?,Array.getElem?_append_left (by simpa using hlt)]
     simp [h1']
    rw [e];exact h2.mono hle,
   held:=fun p hp=>absurd hp (by simp),rows:=fun i it hi=>absurd hi (by simp [lk]),sep:=fun i j it jt b hi=>absurd hi (by simp [lk]) }
 refine wp_mono (h w (bs T) [] _ w (fun p hp=>absurd hp (by simp)) ⟨_,hrep⟩) ?_
 rintro e a w' ⟨s',hq,hr⟩
 have fin:dJ P w (bs T) res out rows s'→a.defers=[]∧∃ v,(results fn a.tmps).run P w'=.ok v w'∧∃ v',Ending.returned v=.returned v'∧gy w.heap.size w w'∧lI T w.heap.size w' out rows v':=by
  intro hret
  obtain ⟨v,hv,hout⟩:=hret a w' hr
  obtain ⟨m,hm⟩:=hr
  exact ⟨hm.nodef,v,hv fn hres,v,rfl,(hm.below.mono fun b hb=>hb.1).below,hout.out⟩
 cases e with
 | normal=>exact fin hq
 | ret=>exact fin hq
 | _=>exact hq.elim
theorem aU.bT {f:Nat} {fn:Func} {c:Code} {args:List AV} {out:AV} {rows:List (Nat × Item)} (hf:P.funcs[f]?=some fn) (hb:fn.body=some c)
  (hnm:(fn.name == "runtime.NumGoroutine")=false) (hn:args.length≤fn.ntmps) (res:List ResultVar) (hres:fn.results=res.toArray)
  (h:∀ (w0:World) (T0:Bs) [lC P w0 T0],dZ P w0 T0 0 c (Post P w0 T0 res out rows) ⟨fn.ntmps,aI 0 args,[],0⟩):aU P f args out rows:=
 .of_run hf hb hnm hn res hres fun w0 T0=>.of (h w0 T0)
end
end Go.Fv
/-
 Calls: by contract, or into the callee's code.
-/
namespace Go.Fv
open Go.RowKit
structure sD (p:Nat→Nat) (c c':Ctx):Prop where
 n:∀ i,i<c.N→p i<c'.N
 m:∀ i,i<c.N→c'.m (p i)=c.m i
 t:∀ b,c.T b→b<c.w.heap.size→c'.T b∧c'.w.heap[b]?=c.w.heap[b]?
mutual
theorem gZ {p:Nat→Nat} {n k:Nat} (h:∀ i,i<n→p i<k):∀ x:AV,Fv.below n x=true→Fv.below k (ren p x)=true
 | .own i,e=>by simp only [Fv.below,ren,decide_eq_true_eq] at *;exact h i e
 | .ptr i o,e=>by simp only [Fv.below,ren,decide_eq_true_eq] at *;exact h i e
 | .elt i a b c,e=>by simp only [Fv.below,ren,decide_eq_true_eq] at *;exact h i e
 | .pre i k,e=>by simp only [Fv.below,ren,decide_eq_true_eq] at *;exact h i e
 | .suf i a b k,e=>by simp only [Fv.below,ren,decide_eq_true_eq] at *;exact h i e
 | .agg cs,e=>by simp only [Fv.below,ren] at *;exact iQ h cs e
 | .tup cs,e=>by simp only [Fv.below,ren] at *;exact iQ h cs e
 | .fn f cs,e=>by simp only [Fv.below,ren] at *;exact iQ h cs e
 | .cell cs,_=>rfl
 | .dead,_=>rfl
 | .nilS,_=>rfl
 | .bool _,_=>rfl
 | .int _ _,_=>rfl
 | .str _,_=>rfl
 | .ro _,_=>rfl
 | .raw _,_=>rfl
 | .mp _ _,_=>rfl
 | .opt _ v,e=>by simp only [Fv.below,ren] at *;exact gZ h v e
 | .ifc _ v,e=>by simp only [Fv.below,ren] at *;exact gZ h v e
 | .bm _ v,e=>by simp only [Fv.below,ren] at *;exact gZ h v e
theorem iQ {p:Nat→Nat} {n k:Nat} (h:∀ i,i<n→p i<k):∀ x:List AV,aA n x=true→aA k (dh p x)=true
 | [],_=>rfl
 | x::l,e=>by
  simp only [aA,Bool.and_eq_true] at e
  simp [dh,aA,gZ h x e.1,iQ h l e.2]
end
mutual
theorem Rv.shift {p:Nat→Nat} {c c':Ctx} (h:sD p c c'):∀ {x:AV} {v:Value},Rv c x v→Rv c' (ren p x) v
 | _,_,.dead v=>.dead v
 | _,_,.nilS=>.nilS
 | _,_,.bool b=>.bool b
 | _,_,.int k n hk=>.int k n hk
 | _,_,.str s hs=>.str s hs
 | _,_,.roNil r hr hi=>.roNil r (aS.bY h.t hr hi) hi
 | _,_,.ro r a len cap cells hr hl hc hm hs hi=>.ro r a len cap cells (aS.bY h.t hr hi) hl hc hm (hs.mono' h.t) hi
 | _,_,.mp ks vs g es clock hk hv hb hc hT hh hi hi2=>.mp ks vs g es clock (bI.bY h.t hk hi) (bI.bY h.t hv hi2) hb hc (h.t g hT (Array.getElem?_eq_some_iff.1 hh).1).1 (by rw [(h.t g hT (Array.getElem?_eq_some_iff.1 hh).1).2];exact hh) hi hi2
 | _,_,.own i hi h1=>by rw [←h.m i hi];exact .own (p i) (h.n i hi) (by rw [h.m i hi];exact h1)
 | _,_,.cell cs vs a hl hi hs=>.cell cs vs a (aV.bY h.t hl hi) hi (hs.mono' h.t)
 | _,_,.ptr i off g hi hg=>.ptr (p i) off g (h.n i hi) (by rw [h.m i hi];exact hg)
 | _,_,.elt i sz idx off g hi hg=>.elt (p i) sz idx off g (h.n i hi) (by rw [h.m i hi];exact hg)
 | _,_,.pre i n l cap a hi hv hn=>.pre (p i) n l cap a (h.n i hi) (by rw [h.m i hi];exact hv) hn
 | _,_,.suf i sz o n l cap a hi hv hn=>.suf (p i) sz o n l cap a (h.n i hi) (by rw [h.m i hi];exact hv) hn
 | _,_,.agg cs vs hl=>.agg _ vs (aV.shift h hl)
 | _,_,.tup cs vs hl=>.tup _ vs (bI.shift h hl)
 | _,_,.fn f cs vs hl=>.fn f _ vs (bI.shift h hl)
 | _,_,.raw v=>.raw v
 | _,_,.opt b x v hb hx h2=>.opt b _ v (gZ h.n x hb) (fun e=>Rv.shift h (hx e)) h2
 | _,_,.ifc t x v hx=>.ifc t _ v (Rv.shift h hx)
 | _,_,.bm t x v hx=>.bm t _ v (Rv.shift h hx)
theorem aV.shift {p:Nat→Nat} {c c':Ctx} (h:sD p c c'):∀ {x:List AV} {v:List Value},aV c x v→aV c' (dh p x) v
 | _,_,.nil=>.nil
 | _,_,.cons x v l vs hx h1 ht=>.cons _ v _ vs (Rv.shift h hx) h1 (aV.shift h ht)
theorem bI.shift {p:Nat→Nat} {c c':Ctx} (h:sD p c c'):∀ {x:List AV} {v:List Value},bI c x v→bI c' (dh p x) v
 | _,_,.nil=>.nil
 | _,_,.cons x v l vs hx ht=>.cons _ v _ vs (Rv.shift h hx) (bI.shift h ht)
end
theorem aP.shift {p:Nat→Nat} {c c':Ctx} (h:sD p c c'):∀ {sz:Nat} {x:List (List AV)} {v:List Value},aP c sz x v→aP c' sz (x.map (dh p)) v
 | _,_,_,.nil sz=>.nil sz
 | _,_,_,.cons sz o vs l cells ho hl ht=>.cons sz _ vs _ cells (aV.shift h ho) hl (aP.shift h ht)
theorem aS.shift {p:Nat→Nat} {c c':Ctx} (h:sD p c c') {r:au} {v:List Value} (hr:aS c r v):aS c' (qp p r) v:=by
 cases hr with
 | objs sz l _ hz ho=>exact .objs sz _ v hz (aP.shift h ho)
 | bools l=>exact .bools l
 | ints k l hk=>exact .ints k l hk
 | strs l hk=>exact .strs l hk
theorem Jv (p:Nat→Nat) (r:au):(qp p r).len=r.len:=by cases r<;>simp [qp,au.len]
theorem KT (p:Nat→Nat) (r:au):(qp p r).sz=r.sz:=by cases r<;>rfl
theorem aG.shift {p:Nat→Nat} {c c':Ctx} (h:sD p c c') (hw:c'.w=c.w) {O O':Nat→Prop} (hB:∀ b,O b→O' b) {v:Value} {it:Item} (hi:aG c O v it):aG c' O' v (it.ren p):=by
 cases it with
 | row e r=>
  obtain ⟨n,cells,hr,hn,ho,hO⟩:=hi
  exact ⟨n,cells,aS.shift h hr,by rw [Jv];exact hn,by rw [hw,KT];exact ho,fun b hb=>hB b (hO b hb)⟩
 | box e cs=>
  obtain ⟨g,vs,rfl,hg,hl,he⟩:=hi
  exact ⟨g,vs,rfl,hB g hg,aV.shift h hl,by rw [hw];exact he⟩
 | map ks vs=>
  obtain ⟨g,es,clock,rfl,hg,h1,h2,h3,h4,he⟩:=hi
  exact ⟨g,es,clock,rfl,hB g hg,bI.shift h h1,bI.shift h h2,h3,h4,by rw [hw];exact he⟩
 | iter mp since seen=>
  obtain ⟨g,q,sn,last,rfl,hg,h1,h2,h3,h4,he⟩:=hi
  exact ⟨g,q,sn,last,rfl,hB g hg,h.n mp h1,by rw [h.m mp h1];exact h2,h3,h4,by rw [hw];exact he⟩
 | siter t pos=>
  obtain ⟨g,rfl,hg,he⟩:=hi
  exact ⟨g,rfl,hB g hg,by rw [hw];exact he⟩
def lu (P:Program) (f:Nat) (args:List AV) (out:AV) (rows:List (Nat × Item)):Prop:=
 Enter P f∧∀ (w:World) (T:Nat→Prop) (vals:List Value),lH P w→bI ⟨w,T,fun _=>undef,0⟩ args vals →
  Calls P f vals.toArray w fun e w'=>∃ v,e=.returned v∧gy w.heap.size w w'∧lI (fun _=>False) w.heap.size w' out rows v
mutual
def jH:AV→Bool
 | .ro _=>false
 | .cell _=>false
 | .fn _ _=>false
 | .agg cs=>iK cs
 | .tup cs=>iK cs
 | .own _=>true
 | .ptr _ _=>true
 | .elt _ _ _ _=>true
 | .pre _ _=>true
 | .suf _ _ _ _=>true
 | .dead=>true
 | .nilS=>true
 | .bool _=>true
 | .int _ _=>true
 | .str _=>true
 | .raw _=>true
 | .opt _ v=>jH v
 | .ifc _ v=>jH v
 | .bm _ v=>jH v
 | .mp _ _=>false
def iK:List AV→Bool
 | []=>true
 | x::l=>jH x && iK l
end
def uq:au→Bool
 | .objs _ l=>l.all iK
 | .bools _=>true
 | .ints _ _=>true
 | .strs _=>true
def jT:Item→Bool
 | .row _ r=>uq r
 | .box _ cs=>iK cs
 | .map ks vs=>iK ks && iK vs
 | .iter _ _ _=>true
 | .siter _ _=>true
def jU:List (Nat × Item)→Bool
 | []=>true
 |(_,it)::l=>jT it && jU l
mutual
theorem Rv.gY {w:World} {T T':Nat→Prop} {m:Nat→Value} {N:Nat}:∀ {x:AV} {v:Value},Rv ⟨w,T,m,N⟩ x v→jH x=true→Rv ⟨w,T',m,N⟩ x v
 | _,_,.dead v,_=>.dead v
 | _,_,.nilS,_=>.nilS
 | _,_,.bool b,_=>.bool b
 | _,_,.int k n hk,_=>.int k n hk
 | _,_,.str s hs,_=>.str s hs
 | _,_,.roNil r hr _,e=>by simp [jH] at e
 | _,_,.ro r a len cap cells hr hl hc hm hs _,e=>by simp [jH] at e
 | _,_,.mp _ _ _ _ _ _ _ _ _ _ _ _ _,e=>by simp [jH] at e
 | _,_,.own i hi h1,_=>.own (c:=⟨w,T',m,N⟩) i hi h1
 | _,_,.cell cs vs a hl hi hs,e=>by simp [jH] at e
 | _,_,.ptr i off g hi hg,_=>.ptr i off g hi hg
 | _,_,.elt i sz idx off g hi hg,_=>.elt i sz idx off g hi hg
 | _,_,.pre i n l cap a hi hv hn,_=>.pre i n l cap a hi hv hn
 | _,_,.suf i sz o n l cap a hi hv hn,_=>.suf i sz o n l cap a hi hv hn
 | _,_,.agg cs vs hl,e=>.agg _ vs (aV.gY hl (by simpa [jH] using e))
 | _,_,.tup cs vs hl,e=>.tup _ vs (bI.gY hl (by simpa [jH] using e))
 | _,_,.fn f cs vs hl,e=>by simp [jH] at e
 | _,_,.raw v,_=>.raw v
 | _,_,.opt b x v hb hx h2,e=>.opt b x v hb (fun e'=>Rv.gY (hx e') (by simpa [jH] using e)) h2
 | _,_,.ifc t x v hx,e=>.ifc t x v (Rv.gY hx (by simpa [jH] using e))
 | _,_,.bm t x v hx,e=>.bm t x v (Rv.gY hx (by simpa [jH] using e))
theorem aV.gY {w:World} {T T':Nat→Prop} {m:Nat→Value} {N:Nat}:∀ {x:List AV} {v:List Value},aV ⟨w,T,m,N⟩ x v→iK x=true→aV ⟨w,T',m,N⟩ x v
 | _,_,.nil,_=>.nil
 | _,_,.cons x v l vs hx h1 ht,e=>by
  simp only [iK,Bool.and_eq_true] at e
  exact .cons _ v _ vs (Rv.gY hx e.1) h1 (aV.gY ht e.2)
theorem bI.gY {w:World} {T T':Nat→Prop} {m:Nat→Value} {N:Nat}:∀ {x:List AV} {v:List Value},bI ⟨w,T,m,N⟩ x v→iK x=true→bI ⟨w,T',m,N⟩ x v
 | _,_,.nil,_=>.nil
 | _,_,.cons x v l vs hx ht,e=>by
  simp only [iK,Bool.and_eq_true] at e
  exact .cons _ v _ vs (Rv.gY hx e.1) (bI.gY ht e.2)
end
theorem qj:∀ {l:List (Nat × Item)} {i:Nat} {it:Item},jU l=true→lk l i=some it→jT it=true
 |(j,jt)::l,i,it,h,hi=>by
  simp only [jU,Bool.and_eq_true] at h
  simp only [lk] at hi
  split at hi
  ·cases hi;exact h.1
  ·exact qj h.2 hi
theorem aP.gY {w:World} {T T':Nat→Prop} {m:Nat→Value} {N:Nat}:∀ {sz:Nat} {l:List (List AV)} {cells:List Value},aP ⟨w,T,m,N⟩ sz l cells→l.all iK=true→aP ⟨w,T',m,N⟩ sz l cells
 | _,_,_,.nil _,_=>.nil _
 | _,_,_,.cons sz o vs l cells ho hl ht,hr=>by
  simp only [List.all_cons,Bool.and_eq_true] at hr
  exact .cons sz o vs l cells (ho.gY hr.1) hl (aP.gY ht hr.2)
theorem aS.gY {w:World} {T T':Nat→Prop} {m:Nat→Value} {N:Nat} {r:au} {cells:List Value} (h:aS ⟨w,T,m,N⟩ r cells) (hr:uq r=true):aS ⟨w,T',m,N⟩ r cells:=by
 cases h with
 | bools l=>exact .bools l
 | ints k l hk=>exact .ints k l hk
 | strs l hs=>exact .strs l hs
 | objs sz l cells hz ho=>
  exact .objs sz l cells hz (ho.gY (by simpa only [uq] using hr))
section
variable {P:Program} {w0:World} {T0:Bs} {b0:Nat}
theorem lu.ou {f:Nat} {args:List AV} {out:AV} {rows:List (Nat × Item)} (h:aU P f args out rows) (h1:jH out=true) (h2:jU rows=true):lu P f args out rows:=by
 refine ⟨h.1,fun w T vals hgl hv=>(h.2 w T vals hgl hv).mono ?_⟩
 rintro e w' ⟨v,rfl,hb,m,N,hr,hrows,hsep⟩
 refine ⟨v,rfl,hb,m,N,hr.gY h1,fun i it hi=>⟨(hrows i it hi).1,?_⟩,hsep⟩
 have hn:=qj h2 hi
 have ho:=(hrows i it hi).2
 cases it with
 | row e r=>obtain ⟨n,cells,hc,hq⟩:=ho;exact ⟨n,cells,hc.gY hn,hq⟩
 | box e cs=>obtain ⟨g,vs,hv',hg,hl,hq⟩:=ho;exact ⟨g,vs,hv',hg,hl.gY hn,hq⟩
 | map ks vs=>
  simp only [jT,Bool.and_eq_true] at hn
  obtain ⟨g,es,clock,hv',hg,h1,h2,h3,h4,hq⟩:=ho;exact ⟨g,es,clock,hv',hg,h1.gY hn.1,h2.gY hn.2,h3,h4,hq⟩
 | iter mp since seen=>exact ho
 | siter t pos=>exact ho
theorem lu.ok {f:Nat} {args:List AV} {out:AV} {rows:List (Nat × Item)} (h:lu P f args out rows):aU P f args out rows:=by
 refine ⟨h.1,fun w T vals hgl hv=>(h.2 w T vals hgl hv).mono ?_⟩
 rintro e w' ⟨v,rfl,hb,m,N,hr,hrows,hsep⟩
 have hle:bK (⟨w',allow (bs fun _=>False) w.heap.size m rows,m,N⟩:Ctx) ⟨w',allow (bs T) w.heap.size m rows,m,N⟩:=
  ⟨Nat.le_refl _,fun _ _=>rfl,fun b hb _=>⟨⟨.inl (hb.1.resolve_right fun x=>x),hb.2⟩,rfl⟩⟩
 exact ⟨v,rfl,hb,m,N,hr.mono hle,fun i it hi=>⟨(hrows i it hi).1,((hrows i it hi).2).mono hle fun _ _=>rfl⟩,hsep⟩
/-! ### Arguments -/
def nilRow:au→Prop
 | .bools l=>l=[]
 | .ints _ l=>l=[]
 | .strs l=>l=[]
 | .objs sz l=>0<sz∧l=[]
def bU (R:AV→AV→Prop):List AV→List AV→Prop
 | [],l=>l=[]
 | x::l,l'=>∃ y r,R x y∧bU R l r∧l'=y::r
def uN (R:AV→AV→Prop):List (List AV)→List (List AV)→Prop
 | [],l=>l=[]
 | x::l,l'=>∃ y r,bU R x y∧uN R l r∧l'=y::r
def aJ (rows:List (Nat × Item)):Nat→AV→AV→Prop
 | n+1,.own i,y=>match lk rows i with
  | some (.row _ r)=>if dM r=true then y=.ro r else match r with
   | .objs sz l=>∃ l',uN (aJ rows n) l l'∧y=.ro (.objs sz l')
   | _=>False
  | some (.map ks vs)=>∃ ks' vs',bU (aJ rows n) ks ks'∧bU (aJ rows n) vs vs'∧y=.mp ks' vs'
  | _=>False
 | n+1,.pre i k,y=>match lk rows i with
  | some (.row _ r)=>dM r=true∧k≤r.len∧y=.ro (bn r 0 k)
  | _=>False
 | n+1,.nilS,y=>y=.nilS∨∃ r,nilRow r∧y=.ro r
 | n+1,.agg cs,y=>∃ cs',bU (aJ rows n) cs cs'∧y=.agg cs'
 | n+1,.fn f cs,y=>∃ cs',bU (aJ rows n) cs cs'∧y=.fn f cs'
 | n+1,.ptr i off,y=>∃ e cs cs',lk rows i=some (.box e cs)∧bU (aJ rows n) (cs.drop off) cs'∧y=.cell cs'
 | n+1,.ro r,y=>y=.ro r
 | n+1,.bool b,y=>y=.bool b
 | n+1,.int k m,y=>y=.int k m
 | n+1,.str s,y=>y=.str s
 | n+1,.cell cs,y=>y=.cell cs
 | n+1,.raw v,y=>y=.raw v
 | n+1,.mp ks vs,y=>y=.mp ks vs
 | n+1,.dead,y=>y=.dead
 | _,_,_=>False
def jr (rows:List (Nat × Item)) (x y:AV):Prop:=aJ rows 6 x y
def bG (rows:List (Nat × Item)) (x y:List AV):Prop:=bU (aJ rows 6) x y
structure xu (w:World) (c:Ctx) (rows:List (Nat × Item)) (T:Nat→Prop):Prop where
 hw:c.w=w
 t:∀ b,c.T b→T b
 own:∀ i e r,lk rows i=some (.row e r)→(∀ b,blk (c.m i)=some b→T b)∧∃ n cells,aS c r cells∧r.len=n∧kV w e r.sz (c.m i) n cells
 map:∀ i ks vs,lk rows i=some (.map ks vs)→∃ g es clock,c.m i=.map (some g)∧T g∧bI c ks (es.toList.map MapEntry.key)∧bI c vs (es.toList.map MapEntry.val)∧(∀ (i:Nat) (e:MapEntry),es[i]?=some e→e.born=i)∧zk es clock∧w.heap[g]?=some (.map es clock)
 box:∀ i e cs,lk rows i=some (.box e cs)→∃ g vs,c.m i=.pointer (some ⟨g,0,none⟩)∧T g∧aV c cs vs∧w.heap[g]?=some (.cells vs.toArray e (0,0))
theorem xu.ht {w:World} {c:Ctx} {rows:List (Nat × Item)} {T:Nat→Prop} (h:xu w c rows T):∀ b,c.T b→b<c.w.heap.size→(⟨w,T,fun _=>undef,0⟩:Ctx).T b∧(⟨w,T,fun _=>undef,0⟩:Ctx).w.heap[b]?=c.w.heap[b]?:=
 fun b hb _=>⟨h.t b hb,by rw [h.hw]⟩
theorem GH {c:Ctx} {r:au} (h:nilRow r):aS c r []:=by
 cases r with
 | bools l=>cases h;exact .bools []
 | ints k l=>cases h;exact .ints k [] fun x hx=>by cases hx
 | strs l=>cases h;exact .strs [] fun x hx=>by cases hx
 | objs sz l=>obtain ⟨hz,rfl⟩:=h;exact .objs sz [] [] hz (.nil sz)
theorem Jg {w:World} {c:Ctx} {rows:List (Nat × Item)} {T:Nat→Prop} (h:xu w c rows T) {i:Nat} {e:TypeId} {r:au} {v:Value} (hl:lk rows i=some (.row e r)) (hid:dM r=true) (hr:Rv c (.own i) v):Rv ⟨w,T,fun _=>undef,0⟩ (.ro r) v:=by
 have ht:∀ b,c.T b→b<c.w.heap.size→(⟨w,T,fun _=>undef,0⟩:Ctx).T b∧(⟨w,T,fun _=>undef,0⟩:Ctx).w.heap[b]?=c.w.heap[b]?:=fun b hb _=>⟨h.t b hb,by rw [h.hw]⟩
 obtain ⟨h1,n,cells,hc,hn,ho⟩:=h.own i e r hl
 cases hr with
 | own _ hi _=>
  rcases ho.2 with ⟨hv,hz⟩|⟨g,cap,cur,fz,hv,hg,hh,hnc,hcm,hcs,htake⟩
  ·rw [hv]
   have hcl:cells=[]:=List.eq_nil_of_length_eq_zero (by rw [ho.1,hz];simp)
   subst hcl
   exact .roNil r (aS.bY ht hc hid) hid
  ·have hb:=h1 g (by rw [hv];rfl)
   have hcells:=dN ho (g:=g) (by rw [hv];rfl)
   rw [hv]
   exact .ro r ⟨g,0,none⟩ n cap cells (aS.bY ht hc hid) hn hnc hcm ⟨trivial,fun _=>hb,hcells⟩ hid
theorem Jl {w:World} {c:Ctx} {rows:List (Nat × Item)} {T:Nat→Prop} (h:xu w c rows T) {i k:Nat} {e:TypeId} {r:au} {v:Value} (hl:lk rows i=some (.row e r)) (hid:dM r=true) (hk:k≤r.len) (hr:Rv c (.pre i k) v):Rv ⟨w,T,fun _=>undef,0⟩ (.ro (bn r 0 k)) v:=by
 have ht:∀ b,c.T b→b<c.w.heap.size→(⟨w,T,fun _=>undef,0⟩:Ctx).T b∧(⟨w,T,fun _=>undef,0⟩:Ctx).w.heap[b]?=c.w.heap[b]?:=fun b hb _=>⟨h.t b hb,by rw [h.hw]⟩
 obtain ⟨h1,n,cells,hc,hn,ho⟩:=h.own i e r hl
 have hsub:=aS.sub 0 k (aS.bY ht hc hid)
 cases hr with
 | pre _ _ l cap a hi hv hkl=>
  rcases ho.2 with ⟨hv',hz⟩|⟨g,cap',cur,fz,hv',hg,hh,hnc,hcm,hcs,htake⟩
  ·rw [hv] at hv'
   cases hv'
   have hcl:cells=[]:=List.eq_nil_of_length_eq_zero (by rw [ho.1,hz];simp)
   subst hcl
   obtain rfl:k=0:=by omega
   simp only [List.drop_nil,List.take_nil] at hsub
   exact .roNil _ hsub (fE 0 0 hid)
  ·have hb:=h1 g (by rw [hv'];rfl)
   have hcells:=dN ho (g:=g) (by rw [hv'];rfl)
   rw [hv] at hv'
   cases hv'
   refine .ro _ ⟨g,0,none⟩ k cap _ hsub (by rw [dO r 0 k hk];omega) (by omega) hcm ⟨trivial,fun _=>hb,fun j u hu=>hcells j u ?_⟩ (fE 0 k hid)
   simp only [Nat.zero_mul,List.drop_zero,Nat.sub_zero] at hu
   rw [List.getElem?_take] at hu
   split at hu
   ·exact hu
   ·cases hu
mutual
theorem uO:∀ x:AV,Fv.below 0 x=true→bg x=true
 | .own i,h=>by simp [Fv.below] at h
 | .ptr i o,h=>by simp [Fv.below] at h
 | .elt i a b c,h=>by simp [Fv.below] at h
 | .pre i k,h=>by simp [Fv.below] at h
 | .suf i a b k,h=>by simp [Fv.below] at h
 | .agg cs,h=>by simp only [bg,Fv.below] at *;exact iP cs h
 | .tup cs,h=>by simp only [bg,Fv.below] at *;exact iP cs h
 | .fn f cs,h=>by simp only [bg,Fv.below] at *;exact iP cs h
 | .cell cs,_=>rfl
 | .dead,_=>rfl
 | .nilS,_=>rfl
 | .bool _,_=>rfl
 | .int _ _,_=>rfl
 | .str _,_=>rfl
 | .ro _,_=>rfl
 | .raw _,_=>rfl
 | .mp _ _,_=>rfl
 | .opt _ v,h=>by simp only [bg,Fv.below] at *;exact uO v h
 | .ifc _ v,h=>by simp only [bg,Fv.below] at *;exact uO v h
 | .bm _ v,h=>by simp only [bg,Fv.below] at *;exact uO v h
theorem iP:∀ x:List AV,aA 0 x=true→bD x=true
 | [],_=>rfl
 | x::l,h=>by
  simp only [aA,Bool.and_eq_true] at h
  simp [bD,uO x h.1,iP l h.2]
end
theorem Rv.CG {c:Ctx} (h0:c.N=0) {x:AV} {v:Value} (h:Rv c x v):bg x=true:=uO x (by rw [←h0];exact h.ids)
theorem aV.CG {c:Ctx} (h0:c.N=0) {x:List AV} {v:List Value} (h:aV c x v):bD x=true:=iP x (by rw [←h0];exact h.ids)
theorem aS.CG {c:Ctx} (h0:c.N=0) {r:au} {v:List Value} (h:aS c r v):dM r=true:=by
 have:=h.ids
 rw [h0] at this
 cases r with
 | objs sz l=>
  simp only [dM,kD,List.all_eq_true] at *
  exact fun x hx=>iP x (this x hx)
 | _=>rfl
theorem qY {w:World} {c:Ctx} {rows:List (Nat × Item)} {T:Nat→Prop} (h:xu w c rows T):∀ (n:Nat) (x:AV) {y:AV} {v:Value},aJ rows n x y→Rv c x v→Rv ⟨w,T,fun _=>undef,0⟩ y v:=by
 intro n
 induction n with
 | zero=>intro x y v ha _;simp [aJ] at ha
 | succ n ih=>
  have lst:∀ {l l':List AV} {vs:List Value},bU (aJ rows n) l l'→aV c l vs→aV ⟨w,T,fun _=>undef,0⟩ l' vs:=by
   intro l
   induction l with
   | nil=>intro l' vs ha hr;simp only [bU] at ha;subst ha;cases hr;exact .nil
   | cons x l ihl=>
    intro l' vs ha hr
    simp only [bU] at ha
    obtain ⟨y,r,h1,h2,rfl⟩:=ha
    cases hr with
    | cons _ v _ vs hv h1' ht=>exact .cons _ _ _ _ (ih x h1 hv) h1' (ihl h2 ht)
  have lstT:∀ {l l':List AV} {vs:List Value},bU (aJ rows n) l l'→bI c l vs→bI ⟨w,T,fun _=>undef,0⟩ l' vs:=by
   intro l
   induction l with
   | nil=>intro l' vs ha hr;simp only [bU] at ha;subst ha;cases hr;exact .nil
   | cons x l ihl=>
    intro l' vs ha hr
    simp only [bU] at ha
    obtain ⟨y,r,h1,h2,rfl⟩:=ha
    cases hr with
    | cons _ v _ vs hv ht=>exact .cons _ _ _ _ (ih x h1 hv) (ihl h2 ht)
  intro x y v ha hr
  cases x with
  | agg cs=>
   simp only [aJ] at ha
   obtain ⟨cs',hl,rfl⟩:=ha
   cases hr with
   | agg _ vs hv=>exact .agg _ _ (lst hl hv)
  | fn f cs=>
   simp only [aJ] at ha
   obtain ⟨cs',hl,rfl⟩:=ha
   cases hr with
   | fn _ _ vs hv=>exact .fn f _ _ (lstT hl hv)
  | own i=>
   simp only [aJ] at ha
   split at ha
   ·rename_i e r hl
    split at ha
    ·rename_i hid;subst ha;exact Jg h hl hid hr
    ·cases r with
     | objs sz l=>
      obtain ⟨l',hl2,rfl⟩:=ha
      have lstO:∀ {l l':List (List AV)} {cells:List Value},uN (aJ rows n) l l'→aP c sz l cells→aP ⟨w,T,fun _=>undef,0⟩ sz l' cells∧l'.length=l.length:=by
       intro l
       induction l with
       | nil=>intro l' cells ha hr;simp only [uN] at ha;subst ha;cases hr;exact ⟨.nil _,rfl⟩
       | cons x l ihl=>
        intro l' cells ha hr
        simp only [uN] at ha
        obtain ⟨y,r,h1,h2,rfl⟩:=ha
        cases hr with
        | cons _ _ vs _ cells ho hl ht=>exact ⟨.cons _ _ vs _ cells (lst h1 ho) hl (ihl h2 ht).1,by simp [(ihl h2 ht).2]⟩
      obtain ⟨h1,k,cells,hc,hn,ho⟩:=h.own i _ _ hl
      cases hc with
      | objs _ _ _ hz hob=>
       obtain ⟨q1,q2⟩:=lstO hl2 hob
       have q3:aS ⟨w,T,fun _=>undef,0⟩ (.objs sz l') cells:=.objs sz l' cells hz q1
       have q4:dM (.objs sz l')=true:=by
        simp only [dM]
        have:=q1.ids
        simp only [List.all_eq_true] at *
        exact fun x hx=>iP x (this x hx)
       have q5:(au.objs sz l').len=k:=by rw [←hn];simpa [au.len] using q2
       cases hr with
       | own _ hi _=>
        rcases ho.2 with ⟨hv,hz⟩|⟨g,cap,cur,fz,hv,hg,hh,hnc,hcm,hcs,htake⟩
        ·rw [hv]
         have hcl:cells=[]:=List.eq_nil_of_length_eq_zero (by rw [ho.1,hz];simp)
         subst hcl
         exact .roNil _ q3 q4
        ·have hb:=h1 g (by rw [hv];rfl)
         have hcells:=dN ho (g:=g) (by rw [hv];rfl)
         rw [hv]
         exact .ro _ ⟨g,0,none⟩ k cap cells q3 q5 hnc hcm ⟨trivial,fun _=>hb,hcells⟩ q4
     | _=>exact ha.elim
   ·rename_i ks vs hl
    obtain ⟨ks',vs',h1,h2,rfl⟩:=ha
    obtain ⟨g,es,clock,hv,hT,k1,k2,k3,k4,hh⟩:=h.map i _ _ hl
    cases hr with
    | own _ hi _=>
     rw [hv]
     have q1:=lstT h1 k1
     have q2:=lstT h2 k2
     exact .mp ks' vs' g es clock q1 q2 k3 k4 hT hh (iP _ q1.ids) (iP _ q2.ids)
   ·exact ha.elim
  | pre i k=>
   simp only [aJ] at ha
   split at ha
   ·rename_i e r hl
    obtain ⟨h1,h2,rfl⟩:=ha
    exact Jl h hl h1 h2 hr
   ·exact ha.elim
  | nilS=>
   simp only [aJ] at ha
   cases hr
   rcases ha with rfl|⟨r,hr,rfl⟩
   ·exact .nilS
   ·exact .roNil r (GH hr) (by cases r<;>first|rfl|(obtain ⟨_,rfl⟩:=hr;rfl))
  | ptr i off=>
   simp only [aJ] at ha
   obtain ⟨e,cs,cs',hl,hcs,rfl⟩:=ha
   obtain ⟨g,vs,hv,hT,hvs,hh⟩:=h.box i e cs hl
   cases hr with
   | ptr _ _ g' _ hg=>
    have hmi:blk (c.m i)=some g':=hg
    rw [hv] at hmi;cases hmi
    have k1:=lst hcs (hvs.drop off)
    refine .cell cs' (vs.drop off) ⟨g,off,none⟩ k1 (aV.CG rfl k1) ⟨trivial,fun _=>hT,fun j u hu=>?_⟩
    rw [Addr.add_lit]
    rw [List.getElem?_drop] at hu
    have:=cell_of_row w g (off+j) vs.toArray e (0,0) hh
    show w.cell? _=_
    rw [this];simpa using hu
  | ro r=>simp only [aJ] at ha;subst ha;exact hr.bY h.ht rfl
  | bool b=>simp only [aJ] at ha;subst ha;exact hr.bY h.ht rfl
  | int k n=>simp only [aJ] at ha;subst ha;exact hr.bY h.ht rfl
  | str s=>simp only [aJ] at ha;subst ha;exact hr.bY h.ht rfl
  | raw v=>simp only [aJ] at ha;subst ha;exact hr.bY h.ht rfl
  | mp ks vs=>simp only [aJ] at ha;subst ha;exact hr.bY h.ht rfl
  | dead=>simp only [aJ] at ha;subst ha;exact .dead v
  | cell cs=>
   simp only [aJ] at ha;subst ha
   cases hr with
   | cell _ vs a hl hi hs=>exact .cell cs vs a (hl.bY h.ht hi) hi (hs.mono' h.ht)
  | _=>simp [aJ] at ha
theorem jJ {w:World} {c:Ctx} {rows:List (Nat × Item)} {T:Nat→Prop} (h:xu w c rows T):∀ (l:List AV) {l':List AV} {vs:List Value},bG rows l l'→bI c l vs→bI ⟨w,T,fun _=>undef,0⟩ l' vs
 | [],_,_,ha,hr=>by
  simp only [bG,bU] at ha;subst ha
  cases hr;exact .nil
 | x::l,_,_,ha,hr=>by
  simp only [bG,bU] at ha
  obtain ⟨y,r,h1,h2,rfl⟩:=ha
  cases hr with
  | cons _ v _ vs hv ht=>exact .cons _ _ _ _ (qY h 6 x h1 hv) (jJ h l h2 ht)
/-! ### The state behind a call -/
def oW (k:Nat):List (Nat × Item)→List (Nat × Item)
 | []=>[]
 |(i,it)::l=>(k+i,it.ren (fun j=>k+j))::oW k l
theorem yI (k:Nat):∀ (l:List (Nat × Item)) (i:Nat) (it:Item),lk (oW k l) i=some it→∃ j jt,i=k+j∧lk l j=some jt∧it=jt.ren (fun j=>k+j)
 |(j,jt)::l,i,it,h=>by
  simp only [oW,lk] at h
  split at h
  ·rename_i e;cases h;exact ⟨j,jt,e.symm,by simp [lk],rfl⟩
  ·rename_i e
   obtain ⟨q,qt,h1,h2,h3⟩:=yI k l i it h
   refine ⟨q,qt,h1,?_,h3⟩
   simp only [lk];rw [if_neg (by intro e';exact e (by omega))];exact h2
theorem rH {α:Type}:∀ (l l':List (Nat × α)) (i:Nat),lk (l++l') i=match lk l i with|some v=>some v|none=>lk l' i
 | [],_,_=>rfl
 |(j,v)::l,l',i=>by
  simp only [List.cons_append,lk]
  split
  ·rfl
  ·exact rH l l' i
def S.after (s:S) (rows':List (Nat × Item)) (N:Nat) (rows:List (Nat × Item)):S:={ s with rows:=oW s.next rows++rows',next:=s.next+N }
theorem aF.after {H:List (AV × Value)} {s:S} {a:Act} {w:World} {m:Nat→Value} (hm:aF w0 T0 H s a w m) {w':World} (hb:gy w.heap.size w w') {rows':List (Nat × Item)}
  (hsub:∀ i it,lk rows' i=some it→lk s.rows i=some it) {T:Nat→Prop} (hT:∀ b,T b→allow T0 w0.heap.size m rows' b) {out:AV} {rows:List (Nat × Item)} {v:Value} (ho:lI T w.heap.size w' out rows v)
  {N:Nat} (hN:Fv.below N out=true) (hNr:∀ i it,lk rows i=some it→i<N∧it.below N=true) :
  Rep w0 T0 ((ren (fun j=>s.next+j) out,v)::H) (s.after rows' N rows) a w':=by
 obtain ⟨mo,No,hr,hrows,hsep⟩:=ho
 have hitem:∀ i it,lk rows i=some it→aG ⟨w',allow (bs T) w.heap.size mo rows,mo,N⟩ (w.heap.size≤·) (mo i) it:=fun i it hi=>((hrows i it hi).2).cut (hNr i it hi).2
 let m2:Nat→Value:=fun i=>if i<s.next then m i else mo (i - s.next)
 have hm2:∀ i,i<s.next→m2 i=m i:=fun i hi=>if_pos hi
 have hm3:∀ j,m2 (s.next+j)=mo j:=fun j=>by show (if s.next+j<s.next then _ else _)=_;rw [if_neg (by omega),Nat.add_sub_cancel_left]
 have hold:∀ i it,lk rows' i=some it→i<s.next:=fun i it hi=>(hm.rows i it (hsub i it hi)).1
 have hnewB:∀ j jt,lk rows j=some jt→∀ b,blk (mo j)=some b→w.heap.size≤b:=fun j jt hj b hbl=>((hrows j jt hj).2.blk b hbl).1
 have holdB:∀ i it,lk s.rows i=some it→∀ b,blk (m i)=some b→b<w.heap.size:=fun i it hi b hbl=>((hm.rows i it hi).2.blk b hbl).2
 have hcases:∀ i it,lk (oW s.next rows++rows') i=some it→(∃ j jt,i=s.next+j∧lk rows j=some jt∧it=jt.ren (fun j=>s.next+j))∨(i<s.next∧lk rows' i=some it):=by
  intro i it hi
  rw [rH] at hi
  cases hq:lk (oW s.next rows) i with
  | some y=>rw [hq] at hi;cases hi;exact .inl (yI _ _ _ _ hq)
  | none=>rw [hq] at hi;exact .inr ⟨hold i it hi,hi⟩
 have hle:bK (ak T0 w0.heap.size m s w) (ak T0 w0.heap.size m2 (s.after rows' N rows) w'):=by
  refine ⟨Nat.le_add_right _ _,hm2,?_⟩
  intro b ⟨h1,h2⟩ hlt
  refine ⟨⟨h1,fun i it hi e=>?_⟩,hb.block b hlt⟩
  rcases hcases i it hi with ⟨j,jt,rfl,hj,_⟩|⟨hlt',hi'⟩
  ·rw [hm3] at e;have h4:=hnewB j jt hj b e;have hlt2:b<w.heap.size:=hlt;omega
  ·rw [hm2 i hlt'] at e;exact h2 i it (hsub i it hi') e
 have hsh:sD (fun j=>s.next+j) (⟨w',allow (bs T) w.heap.size mo rows,mo,N⟩:Ctx) (ak T0 w0.heap.size m2 (s.after rows' N rows) w'):=by
  refine ⟨fun i hi=>Nat.add_lt_add_left hi _,fun i _=>hm3 i,?_⟩
  intro b ⟨h1,h2⟩ _
  have hlt0:=hm.lt
  refine ⟨⟨?_,fun i it hi e=>?_⟩,rfl⟩
  ·rcases h1 with h1|h1
   ·exact .inl (by omega)
   ·exact (hT b h1).1
  ·rcases hcases i it hi with ⟨j,jt,rfl,hj,_⟩|⟨hlt',hi'⟩
   ·rw [hm3] at e;exact h2 j jt hj e
   ·rw [hm2 i hlt'] at e
    rcases h1 with h1|h1
    ·have:=holdB i it (hsub i it hi') b e;omega
    ·exact (hT b h1).2 i it hi' e
 refine ⟨m2,aF.hold (s:=s.after rows' N rows) ?_ ((hr.cut hN).shift hsh)⟩
 refine { size:=hm.size,nodef:=hm.nodef,below:=hm.below.step hb.os hb.tape hb.output hb.size (fun k hk _=>hb.block k (Nat.lt_of_lt_of_le hk hm.lt)) hb.drawn,env:=fun r u hu=>(hm.env r u hu).mono hle,held:=fun q hq=>(hm.held q hq).mono hle,rows:=?_,sep:=?_ }
 ·intro i it hi
  rcases hcases i it hi with ⟨j,jt,rfl,hj,rfl⟩|⟨hlt',hi'⟩
  ·refine ⟨Nat.add_lt_add_left (hNr j jt hj).1 _,?_⟩
   rw [hm3]
   exact (hitem j jt hj).shift hsh rfl fun b hb=>.inl (Nat.le_trans hm.lt hb)
  ·refine ⟨by have:i<s.next:=hlt';show i<s.next+N;omega,?_⟩
   rw [hm2 i hlt']
   exact ((hm.rows i it (hsub i it hi')).2).mono hle fun b hbl=>hb.block b (holdB i it (hsub i it hi') b hbl)
 ·intro i j it jt b hi hj hbi hbj
  rcases hcases i it hi with ⟨i',it',rfl,hi',_⟩|⟨hlt',hi'⟩<;>rcases hcases j jt hj with ⟨j',jt',rfl,hj',_⟩|⟨hlt'',hj'⟩
  ·rw [hm3] at hbi hbj
   rw [hsep i' j' it' jt' b hi' hj' hbi hbj]
  ·rw [hm3] at hbi;rw [hm2 j hlt''] at hbj
   have h4:=hnewB i' it' hi' b hbi
   have h5:=holdB j jt (hsub j jt hj') b hbj
   omega
  ·rw [hm3] at hbj;rw [hm2 i hlt'] at hbi
   have h4:=hnewB j' jt' hj' b hbj
   have h5:=holdB i it (hsub i it hi') b hbi
   omega
  ·rw [hm2 i hlt'] at hbi;rw [hm2 j hlt''] at hbj
   exact hm.sep i j it jt b (hsub i it hi') (hsub j jt hj') hbi hbj
def dw (N:Nat):List (Nat × Item)→Prop
 | []=>True
 |(i,it)::l=>(i<N∧it.below N=true)∧dw N l
theorem qw {N:Nat}:∀ {l:List (Nat × Item)},dw N l→∀ i it,lk l i=some it→i<N∧it.below N=true
 |(j,jt)::l,h,i,it,hi=>by
  simp only [lk] at hi
  split at hi
  ·rename_i e;subst e;cases hi;exact h.1
  ·exact qw h.2 i it hi
theorem ah.fr [hG:lC P w0 T0] {f:Nat} {args args':List AV} {out:AV} {rows:List (Nat × Item)} {s:S} {K:AV→S→Prop} (h:lu P f args' out rows) (ha:bG s.rows args args') (N:Nat) (hN:Fv.below N out=true) (hNr:dw N rows)
  (hk:K (ren (fun j=>s.next+j) out) (s.after s.rows N rows)):@ah P w0 T0 f args s ⟨K⟩:=by
 refine ⟨h.1,fun H a w m vals hm hv=>?_⟩
 have hl:xu w (ak T0 w0.heap.size m s w) s.rows (fun _=>True):=
  {hw:=rfl,t:=fun _ _=>trivial,
   own:=fun i e r hi=>by
    obtain ⟨n,cells,hc,hn,ho,hO⟩:=(hm.rows i _ hi).2
    exact ⟨fun _ _=>trivial,n,cells,hc,hn,ho⟩,
   box:=fun i e cs hi=>by
    obtain ⟨g,vs,hv,_,hl,hh⟩:=(hm.rows i _ hi).2
    exact ⟨g,vs,hv,trivial,hl,hh⟩,
   map:=fun i ks vs hi=>by
    obtain ⟨g,es,clock,hv,_,h1,h2,h3,h4,hh⟩:=(hm.rows i _ hi).2
    exact ⟨g,es,clock,hv,trivial,h1,h2,h3,h4,hh⟩ }
 refine (h.2 w (fun _=>True) vals (lC.at hm) (jJ hl _ ha hv)).mono ?_
 rintro e w' ⟨v,rfl,hb,ho⟩
 exact ⟨v,rfl,_,_,hk,hm.after hb (fun _ _ h=>h) (fun b hb=>hb.elim) ho hN (qw hNr)⟩
theorem ah.sh [hG:lC P w0 T0] (rows':List (Nat × Item)) {f:Nat} {args args':List AV} {out:AV} {rows:List (Nat × Item)} {s:S} {K:AV→S→Prop} (h:aU P f args' out rows) (lent:List (Nat × Item)) (ha:bG lent args args')
  (hsub:∀ i it,lk rows' i=some it→lk s.rows i=some it) (hlent:∀ i it,lk lent i=some it→lk s.rows i=some it∧lk rows' i=none) (N:Nat) (hN:Fv.below N out=true) (hNr:dw N rows)
  (hk:K (ren (fun j=>s.next+j) out) (s.after rows' N rows)):@ah P w0 T0 f args s ⟨K⟩:=by
 refine ⟨h.1,fun H a w m vals hm hv=>?_⟩
 have hl:xu w (ak T0 w0.heap.size m s w) lent (allow T0 w0.heap.size m rows'):=
  {hw:=rfl,t:=fun b hb=>⟨hb.1,fun i it hi=>hb.2 i it (hsub i it hi)⟩,
   own:=fun i e r hi=>by
    obtain ⟨h1,h2⟩:=hlent i _ hi
    obtain ⟨n,cells,hc,hn,ho,hO⟩:=(hm.rows i _ h1).2
    refine ⟨fun b hb=>⟨(hO b hb).imp id (·.2),fun j jt hj hbj=>?_⟩,n,cells,hc,hn,ho⟩
    have:=hm.sep i j _ jt b h1 (hsub j jt hj) hb hbj
    subst this
    exact absurd (h2.symm.trans hj) (by simp),
   box:=fun i e cs hi=>by
    obtain ⟨h1,h2⟩:=hlent i _ hi
    obtain ⟨g,vs,hv,hg,hl,hh⟩:=(hm.rows i _ h1).2
    refine ⟨g,vs,hv,⟨hg.imp id (·.2),fun j jt hj hbj=>?_⟩,hl,hh⟩
    have:=hm.sep i j _ jt g h1 (hsub j jt hj) (by show blk (m i)=some g;rw [show m i=_ from hv];rfl) hbj
    subst this
    rw [h2] at hj;exact absurd hj (by simp),
   map:=fun i ks vs hi=>by
    obtain ⟨h1,h2⟩:=hlent i _ hi
    obtain ⟨g,es,clock,hv,hg,k1,k2,k3,k4,hh⟩:=(hm.rows i _ h1).2
    refine ⟨g,es,clock,hv,⟨hg.imp id (·.2),fun j jt hj hbj=>?_⟩,k1,k2,k3,k4,hh⟩
    have:=hm.sep i j _ jt g h1 (hsub j jt hj) (by show blk (m i)=some g;rw [show m i=_ from hv];rfl) hbj
    subst this
    rw [h2] at hj;cases hj }
 refine (h.2 w _ vals (lC.at hm) (jJ hl _ ha hv)).mono ?_
 rintro e w' ⟨v,rfl,hb,ho⟩
 exact ⟨v,rfl,_,_,hk,hm.after hb hsub (fun b hb=>hb) ho hN (qw hNr)⟩
end
end Go.Fv
