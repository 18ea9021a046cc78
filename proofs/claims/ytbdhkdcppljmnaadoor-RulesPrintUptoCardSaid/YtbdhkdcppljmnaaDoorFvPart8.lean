/-
  A part of the proof of the claim: walks over the program's functions and the plain laws that these need. No condition of its own.
-/
import Derived.Test.YtbdhkdcppljmnaaDoorFvPart7
set_option linter.unusedSectionVars false
set_option linter.unusedVariables false
set_option linter.unusedSimpArgs false
set_option linter.unnecessarySimpa false
/-
 States that say less; contracts of functions; calls.
-/
namespace Go.Fv
open Go.RowKit
mutual
theorem qX (p:Nat→Nat):∀ x:AV,bM x=true→ren p x=x
 | .own i,h=>by simp [bM] at h
 | .ptr i o,h=>by simp [bM] at h
 | .elt i a b c,h=>by simp [bM] at h
 | .pre i k,h=>by simp [bM] at h
 | .suf i a b k,h=>by simp [bM] at h
 | .agg cs,h=>by simp only [ren];rw [jo p cs (by simpa [bM] using h)]
 | .tup cs,h=>by simp only [ren];rw [jo p cs (by simpa [bM] using h)]
 | .fn f cs,h=>by simp only [ren];rw [jo p cs (by simpa [bM] using h)]
 | .cell cs,_=>rfl
 | .dead,_=>rfl
 | .nilS,_=>rfl
 | .bool _,_=>rfl
 | .int _ _,_=>rfl
 | .str _,_=>rfl
 | .ro _,_=>rfl
 | .raw _,_=>rfl
 | .mp _ _,_=>rfl
 | .opt b v,h=>by simp only [ren];rw [qX p v (by simpa [bM] using h)]
theorem jo (p:Nat→Nat):∀ x:List AV,bI x=true→dw p x=x
 | [],_=>rfl
 | x::l,h=>by
  simp only [bI,Bool.and_eq_true] at h
  simp only [dw];rw [qX p x h.1,jo p l h.2]
end
def Item.ren (p:Nat→Nat):Item→Item
 | .row e r=>.row e (rF p r)
 | .box e cs=>.box e (dw p cs)
 | .map ks vs=>.map (dw p ks) (dw p vs)
 | .iter mp since seen=>.iter (p mp) since seen
 | .siter t pos=>.siter t pos
def Item.below (n:Nat):Item→Bool
 | .row _ r=>kZ n r
 | .box _ cs=>aH n cs
 | .map ks vs=>aH n ks && aH n vs
 | .iter mp _ _=>decide (mp<n)
 | .siter _ _=>true
class jM (r:au):Prop where
 ok:dQ r=true
instance {l:List Bool}:jM (.bools l):=⟨rfl⟩
instance {k:IntKind} {l:List Int}:jM (.ints k l):=⟨rfl⟩
instance {l:List (List UInt8)}:jM (.strs l):=⟨rfl⟩
class jy (l:List (List AV)):Prop where
 ok:l.all bI=true
class CZ {α:Type} (f:α→List AV):Prop where
 ok:∀ x,bI (f x)=true
class wu (l:List AV):Prop where
 ok:bI l=true
instance {sz:Nat} {l:List (List AV)} [h:jy l]:jM (.objs sz l):=⟨h.ok⟩
instance:jy []:=⟨rfl⟩
instance {x:List AV} {l:List (List AV)} [h:wu x] [h2:jy l]:jy (x::l):=⟨by simp [List.all_cons,h.ok,h2.ok]⟩
instance {l l':List (List AV)} [h:jy l] [h2:jy l']:jy (l++l'):=⟨by simp [List.all_append,h.ok,h2.ok]⟩
instance {α:Type} {f:α→List AV} {l:List α} [h:CZ f]:jy (l.map f):=⟨by simp [List.all_map,List.all_eq_true,h.ok]⟩
instance {x:List AV} {n:Nat} [h:wu x]:jy (List.replicate n x):=⟨by simp [List.all_eq_true,List.mem_replicate,h.ok]⟩
instance {α:Type} {f:α→List AV} {x:α} [h:CZ f]:wu (f x):=⟨h.ok x⟩
instance {l:List (List AV)} {n:Nat} [h:jy l]:jy (l.take n):=⟨by have:=h.ok;simp only [List.all_eq_true] at *;exact fun x hx=>this x (List.mem_of_mem_take hx)⟩
instance {l:List (List AV)} {n:Nat} [h:jy l]:jy (l.drop n):=⟨by have:=h.ok;simp only [List.all_eq_true] at *;exact fun x hx=>this x (List.mem_of_mem_drop hx)⟩
theorem DX:∀ (l:List (List AV)) (n:Nat) (x:List AV),l.all bI=true→bI x=true→(l.set n x).all bI=true
 | [],_,_,_,_=>rfl
 | y::l,0,x,h,hx=>by simp only [List.all_cons,Bool.and_eq_true,List.set_cons_zero] at *;exact ⟨hx,h.2⟩
 | y::l,n+1,x,h,hx=>by simp only [List.all_cons,Bool.and_eq_true,List.set_cons_succ] at *;exact ⟨h.1,DX l n x h.2 hx⟩
instance {l:List (List AV)} {n:Nat} {x:List AV} [h:jy l] [h2:wu x]:jy (l.set n x):=⟨DX _ _ _ h.ok h2.ok⟩
class o7 (x:AV):Prop where
 ok:bM x=true
instance:wu []:=⟨rfl⟩
instance {x:AV} {l:List AV} [h:o7 x] [h2:wu l]:wu (x::l):=⟨by simp [bI,h.ok,h2.ok]⟩
instance {k:IntKind} {n:Int}:o7 (.int k n):=⟨rfl⟩
instance {b:Bool}:o7 (.bool b):=⟨rfl⟩
instance {s:List UInt8}:o7 (.str s):=⟨rfl⟩
instance {r:au}:o7 (.ro r):=⟨rfl⟩
instance {r:List AV}:o7 (.cell r):=⟨rfl⟩
instance:o7 .nilS:=⟨rfl⟩
instance:o7 .dead:=⟨rfl⟩
instance {v:Value}:o7 (.raw v):=⟨rfl⟩
instance {ks vs:List AV}:o7 (.mp ks vs):=⟨rfl⟩
theorem bH (r:au) [h:jM r]:dQ r=true:=h.ok
theorem Kr (p:Nat→Nat):∀ (l:List (List AV)),l.all bI=true→l.map (dw p)=l:=fun l h=>by
 simp only [List.all_eq_true] at h
 conv=>rhs;rw [←List.map_id l]
 exact List.map_congr_left fun x hx=>jo p x (h x hx)
theorem Jo (p:Nat→Nat) {r:au} (h:dQ r=true):rF p r=r:=by
 cases r with
 | objs sz l=>simp only [rF];rw [Kr p l h]
 | _=>rfl
theorem jh (p:Nat→Nat) (r:au) [h:jM r]:rF p r=r:=Jo p h.ok
theorem bK (n:Nat) (r:au) [h:jM r]:kZ n r=true:=Eh n r h.ok
def pm (l:List (Nat × Nat)) (i:Nat):Nat:=match lk l i with|some j=>j|none=>i
def wL (p:Nat→Nat) (s:S) (N:Nat):List (Nat × AV)→Prop
 | []=>True
 |(r,v)::l=>(s.get r=ren p v∧Fv.below N v=true)∧wL p s N l
def fM (p:Nat→Nat) (rows:List (Nat × Item)) (N:Nat):List (Nat × Item)→Prop
 | []=>True
 |(i,it)::l=>(i<N∧lk rows (p i)=some (it.ren p)∧it.below N=true∧∀ x,x∈l→x.1=i∨p x.1≠p i)∧fM p rows N l
theorem bU {α:Type}:∀ {l:List (Nat × α)} {i:Nat} {v:α},lk l i=some v→(i,v)∈l
 |(j,x)::l,i,v,h=>by
  simp only [lk] at h
  split at h
  ·rename_i e;subst e;cases h;exact .head _
  ·exact .tail _ (bU h)
theorem sW {p:Nat→Nat} {s:S} {N:Nat}:∀ {l:List (Nat × AV)},wL p s N l→∀ r v,(r,v)∈l→s.get r=ren p v∧Fv.below N v=true
 |(q,y)::l,h,r,v,hm=>by
  cases List.mem_cons.1 hm with
  | inl e=>cases e;exact h.1
  | inr e=>exact sW h.2 r v e
theorem bY {p:Nat→Nat} {rows:List (Nat × Item)} {N:Nat}:∀ {l:List (Nat × Item)},fM p rows N l→∀ i it,(i,it)∈l→i<N∧lk rows (p i)=some (it.ren p)∧it.below N=true
 |(q,y)::l,h,i,it,hm=>by
  cases List.mem_cons.1 hm with
  | inl e=>cases e;exact ⟨h.1.1,h.1.2.1,h.1.2.2.1⟩
  | inr e=>exact bY h.2 i it e
theorem oK {p:Nat→Nat} {rows:List (Nat × Item)} {N:Nat}:∀ {l:List (Nat × Item)},fM p rows N l→∀ i j it jt,(i,it)∈l→(j,jt)∈l→p i=p j→i=j
 |(q,y)::l,h,i,j,it,jt,hi,hj,e=>by
  cases List.mem_cons.1 hi with
  | inl e1=>
   cases e1
   cases List.mem_cons.1 hj with
   | inl e2=>cases e2;rfl
   | inr e2=>cases h.1.2.2.2 _ e2 with
    | inl e3=>exact e3.symm
    | inr e3=>exact absurd e.symm e3
  | inr e1=>
   cases List.mem_cons.1 hj with
   | inl e2=>
    cases e2
    cases h.1.2.2.2 _ e1 with
    | inl e3=>exact e3
    | inr e3=>exact absurd e e3
   | inr e2=>exact oK h.2 i j it jt e1 e2 e
theorem aK.ren {p:Nat→Nat} {c c':Ctx} (h:iR p c c') (hw:c'.w.heap=c.w.heap) {O:Nat→Prop} {v:Value} {it:Item} (hb:it.below c'.N=true) (hi:aK c O v (it.ren p)):aK c' O v it:=by
 have hh:∀ b:Nat,c'.w.heap[b]?=c.w.heap[b]?:=fun b=>by rw [hw]
 cases it with
 | row e r=>
  obtain ⟨n,cells,hr,hn,ho,hO⟩:=hi
  have h1:(rF p r).len=r.len:=by cases r<;>simp [rF,au.len]
  have h2:(rF p r).sz=r.sz:=by cases r<;>rfl
  rw [h1] at hn;rw [h2] at ho
  exact ⟨n,cells,aT.ren h r hb hr,hn,lQ ho fun g _=>hh g,hO⟩
 | box e cs=>
  obtain ⟨g,vs,rfl,hg,hl,he⟩:=hi
  exact ⟨g,vs,rfl,hg,aY.ren h cs hb hl,by rw [hh g];exact he⟩
 | map ks vs=>
  simp only [Item.below,Bool.and_eq_true] at hb
  obtain ⟨g,es,clock,rfl,hg,h1,h2,h3,h4,he⟩:=hi
  exact ⟨g,es,clock,rfl,hg,bQ.ren h ks hb.1 h1,bQ.ren h vs hb.2 h2,h3,h4,by rw [hh g];exact he⟩
 | iter mp since seen=>
  obtain ⟨g,q,sn,last,rfl,hg,h1,h2,h3,h4,he⟩:=hi
  have hlt:mp<c'.N:=by simpa [Item.below] using hb
  exact ⟨g,q,sn,last,rfl,hg,hlt,by rw [h.m mp hlt];exact h2,h3,h4,by rw [hh g];exact he⟩
 | siter t pos=>
  obtain ⟨g,rfl,hg,he⟩:=hi
  exact ⟨g,rfl,hg,by rw [hh g];exact he⟩
mutual
theorem iI {p:Nat→Nat} {b0:Nat} (hp:∀ i,i<b0→p i=i):∀ x:AV,Fv.below b0 x=true→ren p x=x
 | .own i,h=>by simp only [ren];rw [hp i (by simpa [Fv.below] using h)]
 | .ptr i o,h=>by simp only [ren];rw [hp i (by simpa [Fv.below] using h)]
 | .elt i a b c,h=>by simp only [ren];rw [hp i (by simpa [Fv.below] using h)]
 | .pre i k,h=>by simp only [ren];rw [hp i (by simpa [Fv.below] using h)]
 | .suf i a b k,h=>by simp only [ren];rw [hp i (by simpa [Fv.below] using h)]
 | .agg cs,h=>by simp only [ren];rw [iO hp cs (by simpa [Fv.below] using h)]
 | .tup cs,h=>by simp only [ren];rw [iO hp cs (by simpa [Fv.below] using h)]
 | .fn f cs,h=>by simp only [ren];rw [iO hp cs (by simpa [Fv.below] using h)]
 | .cell cs,_=>rfl
 | .dead,_=>rfl
 | .nilS,_=>rfl
 | .bool _,_=>rfl
 | .int _ _,_=>rfl
 | .str _,_=>rfl
 | .ro _,_=>rfl
 | .raw _,_=>rfl
 | .opt b v,h=>by simp only [ren];rw [iI hp v (by simpa [Fv.below] using h)]
 | .mp _ _,_=>rfl
theorem iO {p:Nat→Nat} {b0:Nat} (hp:∀ i,i<b0→p i=i):∀ x:List AV,aH b0 x=true→dw p x=x
 | [],_=>rfl
 | x::l,h=>by
  simp only [aH,Bool.and_eq_true] at h
  simp only [dw];rw [iI hp x h.1,iO hp l h.2]
end
theorem KZ {p:Nat→Nat} {b0:Nat} (hp:∀ i,i<b0→p i=i) (r:au) (h:kZ b0 r=true):rF p r=r:=by
 cases r with
 | objs sz l=>
  simp only [kZ,List.all_eq_true] at h
  simp only [rF]
  congr 1
  conv=>rhs;rw [←List.map_id l]
  exact List.map_congr_left fun x hx=>iO hp x (h x hx)
 | _=>rfl
theorem Item.iI {p:Nat→Nat} {b0:Nat} (hp:∀ i,i<b0→p i=i) (it:Item) (h:it.below b0=true):it.ren p=it:=by
 cases it with
 | row e r=>simp only [Item.ren];rw [KZ hp r h]
 | box e cs=>simp only [Item.ren];rw [iO hp cs h]
 | map ks vs=>
  simp only [Item.below,Bool.and_eq_true] at h
  simp only [Item.ren];rw [iO hp ks h.1,iO hp vs h.2]
 | iter mp since seen=>simp only [Item.ren];rw [hp mp (by simpa [Item.below] using h)]
 | siter t pos=>rfl
theorem aK.ids {c:Ctx} {O:Nat→Prop} {v:Value} {it:Item} (h:aK c O v it):it.below c.N=true:=by
 cases it with
 | row e r=>obtain ⟨n,cells,hr,_⟩:=h;exact hr.ids
 | box e cs=>obtain ⟨g,vs,_,_,hl,_⟩:=h;exact hl.ids
 | map ks vs=>obtain ⟨g,es,clock,_,_,h1,h2,_⟩:=h;simp [Item.below,h1.ids,h2.ids]
 | iter mp since seen=>obtain ⟨g,q,sn,last,_,_,h1,_⟩:=h;simpa [Item.below] using h1
 | siter t pos=>rfl
theorem Rv.cut {w:World} {A:Nat→Prop} {m:Nat→Value} {No N:Nat} {x:AV} {u:Value} (hx:Rv ⟨w,A,m,No⟩ x u) (hb:Fv.below N x=true):Rv ⟨w,A,m,N⟩ x u:=by
 refine Rv.ren (p:=id) (c:=⟨w,A,m,No⟩) (c':=⟨w,A,m,N⟩) ⟨fun _ _=>rfl,fun b hb _=>⟨hb,rfl⟩⟩ x hb ?_
 rw [iI (p:=id) (fun _ _=>rfl) x hx.ids];exact hx
theorem aK.cut {w:World} {A:Nat→Prop} {m:Nat→Value} {No N:Nat} {O:Nat→Prop} {v:Value} {it:Item} (hx:aK ⟨w,A,m,No⟩ O v it) (hb:it.below N=true):aK ⟨w,A,m,N⟩ O v it:=by
 refine aK.ren (p:=id) (c:=⟨w,A,m,No⟩) (c':=⟨w,A,m,N⟩) ⟨fun _ _=>rfl,fun b hb _=>⟨hb,rfl⟩⟩ rfl hb ?_
 rw [Item.iI (p:=id) (fun _ _=>rfl) it hx.ids];exact hx
section
variable {P:Program} {w0:World} {T0:Bs} {b0:Nat}
theorem bC.of (l:List (Nat × Nat)) {s s':S} (hn:s'.n=s.n) (hb:b0≤s'.next) (hl:∀ x,x∈l→b0≤x.1) (he:wL (pm l) s s'.next s'.env) (hr:fM (pm l) s.rows s'.next s'.rows):bC w0 T0 b0 s s':=by
 rintro H a w hH ⟨m,hm⟩
 have hlow:∀ i,i<b0→pm l i=i:=by
  intro i hi
  unfold pm
  cases h:lk l i with
  | none=>rfl
  | some j=>have:=hl _ (bU h);simp at this;omega
 have hren:iR (pm l) (aj T0 w0.heap.size m s w) (aj T0 w0.heap.size (fun i=>m (pm l i)) s' w):=
  {m:=fun _ _=>rfl,
   t:=by
    intro b ⟨h1,h2⟩ _
    refine ⟨⟨h1,fun i it hi e=>?_⟩,rfl⟩
    obtain ⟨_,h3,_⟩:=bY hr i it (bU hi)
    exact h2 _ _ h3 e }
 refine ⟨fun i=>m (pm l i),{ size:=by rw [hn];exact hm.size,nodef:=hm.nodef,below:=hm.below,env:=?_,held:=?_,rows:=?_,sep:=?_ }⟩
 ·intro r v hv
  obtain ⟨h1,h2⟩:=sW he r v (bU hv)
  refine Rv.ren hren v h2 ?_
  have:Rv (aj T0 w0.heap.size m s w) (s.get r) (a.tmps.getD r undef):=by
   simp only [S.get]
   cases hq:lk s.env r with
   | none=>exact .dead _
   | some y=>exact hm.env r y hq
  rw [←h1];exact this
 ·intro q hq
  have h1:=hH q hq
  refine Rv.ren hren q.1 (below_le hb _ h1) ?_
  rw [iI hlow _ h1];exact hm.held q hq
 ·intro i it hi
  obtain ⟨h1,h2,h3⟩:=bY hr i it (bU hi)
  exact ⟨h1,aK.ren hren rfl h3 (hm.rows _ _ h2).2⟩
 ·intro i j it jt b hi hj hbi hbj
  obtain ⟨_,h2,_⟩:=bY hr i it (bU hi)
  obtain ⟨_,h2',_⟩:=bY hr j jt (bU hj)
  exact oK hr i j it jt (bU hi) (bU hj) (hm.sep _ _ _ _ b h2 h2' hbi hbj)
theorem bC.refl (s:S):bC w0 T0 b0 s s:=fun _ _ _ _ h=>h
theorem bC.trans {s s' s'':S} (h:bC w0 T0 b0 s s') (h':bC w0 T0 b0 s' s''):bC w0 T0 b0 s s'':=fun H a w hH hr=>h' H a w hH (h H a w hH hr)
/-! ### What a function hands back -/
def l7 (T:Nat→Prop) (B:Nat) (w:World) (out:AV) (rows:List (Nat × Item)) (v:Value):Prop:=
 ∃ (m:Nat→Value) (N:Nat),Rv ⟨w,allow (bs T) B m rows,m,N⟩ out v ∧
  (∀ i it,lk rows i=some it→i<N∧aK ⟨w,allow (bs T) B m rows,m,N⟩ (B≤·) (m i) it) ∧
  (∀ i j it jt b,lk rows i=some it→lk rows j=some jt→blk (m i)=some b→blk (m j)=some b→i=j)
def Oq (T0:Bs) (B:Nat) (w:World) (out:AV) (rows:List (Nat × Item)) (v:Value):Prop:=
 ∃ (m:Nat→Value) (N:Nat),Rv ⟨w,allow T0 B m rows,m,N⟩ out v ∧
  (∀ i it,lk rows i=some it→i<N∧aK ⟨w,allow T0 B m rows,m,N⟩ (ownB T0 B) (m i) it) ∧
  (∀ i j it jt b,lk rows i=some it→lk rows j=some jt→blk (m i)=some b→blk (m j)=some b→i=j)
theorem aK.own {c:Ctx} {O O':Nat→Prop} (h:∀ b,O b→O' b) {v:Value} {it:Item} (hi:aK c O v it):aK c O' v it:=by
 cases it with
 | row e r=>obtain ⟨n,cells,hr,hn,ho,hO⟩:=hi;exact ⟨n,cells,hr,hn,ho,fun b hb=>h b (hO b hb)⟩
 | box e cs=>obtain ⟨g,vs,rfl,hg,hl,he⟩:=hi;exact ⟨g,vs,rfl,h g hg,hl,he⟩
 | map ks vs=>obtain ⟨g,es,clock,rfl,hg,r⟩:=hi;exact ⟨g,es,clock,rfl,h g hg,r⟩
 | iter mp since seen=>obtain ⟨g,q,sn,last,rfl,hg,r⟩:=hi;exact ⟨g,q,sn,last,rfl,h g hg,r⟩
 | siter t pos=>obtain ⟨g,rfl,hg,r⟩:=hi;exact ⟨g,rfl,h g hg,r⟩
theorem aK.Ov {c:Ctx} {O O':Nat→Prop} {v:Value} {it:Item} (hi:aK c O v it) (h:∀ b,Fv.blk v=some b→O' b):aK c O' v it:=by
 cases it with
 | row e r=>obtain ⟨n,cells,hr,hn,ho,hO⟩:=hi;exact ⟨n,cells,hr,hn,ho,h⟩
 | box e cs=>obtain ⟨g,vs,rfl,hg,hl,he⟩:=hi;exact ⟨g,vs,rfl,h g rfl,hl,he⟩
 | map ks vs=>obtain ⟨g,es,clock,rfl,hg,r⟩:=hi;exact ⟨g,es,clock,rfl,h g rfl,r⟩
 | iter mp since seen=>obtain ⟨g,q,sn,last,rfl,hg,r⟩:=hi;exact ⟨g,q,sn,last,rfl,h g rfl,r⟩
 | siter t pos=>obtain ⟨g,rfl,hg,r⟩:=hi;exact ⟨g,rfl,h g rfl,r⟩
theorem Hw {α:Type}:∀ {l:List (Nat × α)} {q:Nat × α},q∈l→∃ v,lk l q.1=some v
 |(j,x)::l,q,h=>by
  by_cases e:j=q.1
  ·exact ⟨x,by simp [lk,e]⟩
  ·cases List.mem_cons.1 h with
   | inl h=>subst h;exact absurd rfl e
   | inr h=>obtain ⟨v,hv⟩:=Hw h;exact ⟨v,by simp [lk,e,hv]⟩
theorem Oq.out {T:Nat→Prop} {B:Nat} {w:World} {out:AV} {rows:List (Nat × Item)} {v:Value} (h:Oq (bs T) B w out rows v):l7 T B w out rows v:=by
 obtain ⟨m,N,h1,h2,h3⟩:=h
 exact ⟨m,N,h1,fun i it hi=>⟨(h2 i it hi).1,((h2 i it hi).2).own fun b hb=>hb.resolve_right fun x=>x.1⟩,h3⟩
def aC (P:Program) (f:Nat) (args:List AV) (out:AV) (rows:List (Nat × Item)):Prop:=
 Enter P f∧∀ (w:World) (T:Nat→Prop) (vals:List Value),jU P w→bQ ⟨w,T,fun _=>undef,0⟩ args vals →
  Calls P f vals.toArray w fun e w'=>∃ v,e=.returned v∧ig w.heap.size w w'∧l7 T w.heap.size w' out rows v
def aB:Nat→List AV→List (Nat × AV)
 | _,[]=>[]
 | k,x::l=>(k,x)::aB (k+1) l
def La (P:Program) (s:S) (K:AV→Prop):ResultVar→Prop
 | .tmp t=>K (s.ev (.tmp t))
 | .cell t ty=>match s.get t with
  | .ptr i off=>match lk s.rows i with
   | some (.box _ cs)=>dX P ty (cs.drop off) K
   | _=>False
  | _=>False
def tX (P:Program) (s:S):List ResultVar→(List AV→Prop)→Prop
 | [],K=>K []
 | x::l,K=>La P s (fun v=>tX P s l (fun vs=>K (v::vs))) x
def iY:List AV→AV
 | [x]=>x
 | l=>.tup l
def aZ (P:Program) (w0:World) (T0:Bs) (res:List ResultVar) (out:AV) (rows:List (Nat × Item)) (s:S):Prop:=
 ∀ (a:Act) (w:World),Rep w0 T0 [] s a w→∃ v,(∀ (fn:Func),fn.results=res.toArray→(results fn a.tmps).run P w=.ok v w)∧Oq T0 w0.heap.size w out rows v
def Post (P:Program) (w0:World) (T0:Bs) (res:List ResultVar) (out:AV) (rows:List (Nat × Item)):Exit→S→Prop
 | .normal,s=>aZ P w0 T0 res out rows s
 | .ret,s=>aZ P w0 T0 res out rows s
 | _,_=>False
@[congr] theorem O1 {P:Program} {res:List ResultVar} {out:AV} {rows:List (Nat × Item)} {s s':S} (h:s=s'):aZ P w0 T0 res out rows s=aZ P w0 T0 res out rows s':=by rw [h]
def Jp (tmps:Array Value):ResultVar→Sem Value
 | .tmp t=>pure (tmps.getD t undef)
 | .cell a t=>do loadVar t (←asAddr (tmps.getD a undef))
theorem nH {P:Program} {H:List (AV × Value)} {s:S} {a:Act} {w:World} {m:Nat→Value} (hm:aN w0 T0 H s a w m):∀ {res:List ResultVar} {K:List AV→Prop},tX P s res K →
  ∃ l vs,K l∧(res.mapM (Jp a.tmps)).run P w=.ok vs w∧bQ (aj T0 w0.heap.size m s w) l vs
 | [],K,h=>⟨[],[],h,rfl,.nil⟩
 | x::res,K,h=>by
  have key:∃ v u,tX P s res (fun vs=>K (v::vs))∧(Jp a.tmps x).run P w=.ok u w∧Rv (aj T0 w0.heap.size m s w) v u:=by
   unfold tX at h
   cases x with
   | tmp t=>exact ⟨_,_,h,rfl,hm.ev (.tmp t) trivial⟩
   | cell t ty=>
    simp only [La] at h
    split at h
    ·rename_i i off hg
     have hl:lk s.env t=some (.ptr i off):=by
      simp only [S.get] at hg
      cases hl:lk s.env t with
      | none=>rw [hl] at hg;cases hg
      | some y=>rw [hl] at hg;exact congrArg some hg
     have hp:=hm.env t _ hl
     split at h
     ·rename_i e cs hi
      generalize hvt:a.tmps.getD t undef=vt at hp
      cases hp with
      | ptr _ _ g _ hg=>
       obtain ⟨g',vs,hv,_,hl,hh⟩:=(hm.rows i _ hi).2
       have hmi:blk (m i)=some g:=hg
       rw [hv] at hmi;cases hmi
       obtain ⟨r,v,hk,hr,hrv⟩:=jZ (c:=aj T0 w0.heap.size m s w) (a:=⟨g',off,none⟩) h (hl.drop off) fun j u hu=>by
        rw [Addr.add_lit]
        rw [List.getElem?_drop] at hu
        have:=cell_of_row w g' (off+j) vs.toArray e (0,0) hh
        show w.cell? _=_
        rw [this];simpa using hu
       refine ⟨r,v,hk,?_,hrv⟩
       have hr':(loadVar ty ⟨g',off,none⟩).run P w=.ok v w:=hr
       simp [Jp,hvt,asAddr,hr']
     ·exact h.elim
    ·exact h.elim
  obtain ⟨v,u,hk,hr,hv⟩:=key
  obtain ⟨l,vs,hk',hr',hvs⟩:=nH hm hk
  refine ⟨v::l,u::vs,hk',?_,.cons _ _ _ _ hv hvs⟩
  rw [List.mapM_cons]
  simp [Sem.run_bind,hr,hr',Result.andThen]
def Gp:List Value→Value
 | [v]=>v
 | l=>.tuple l.toArray
theorem Gg (fn:Func) (tmps:Array Value):results fn tmps=(fn.results.mapM (Jp tmps) >>= fun vs=>pure (if h:vs.size=1 then vs[0] else .tuple vs)):=by
 unfold results
 congr 1
theorem ji {P:Program} {fn:Func} {res:List ResultVar} (h:fn.results=res.toArray) (tmps:Array Value) {w:World} {vs:List Value} (hr:(res.mapM (Jp tmps)).run P w=.ok vs w) :
  (results fn tmps).run P w=.ok (Gp vs) w:=by
 rw [Gg,h]
 have e2:=List.mapM_toArray (f:=Jp tmps) (l:=res)
 rw [e2]
 simp only [Sem.run_bind,Sem.run_map,hr,Result.andThen]
 match vs with
 | []=>rfl
 | [v]=>rfl
 | v::v'::l=>simp [Gp]
theorem aZ.of {P:Program} (l:List (Nat × Nat)) (N:Nat) {res:List ResultVar} {out:AV} {rows:List (Nat × Item)} {s:S} (h:tX P s res (fun vs=>iY vs=ren (pm l) out)) (hb:Fv.below N out=true) (hr:fM (pm l) s.rows N rows):aZ P w0 T0 res out rows s:=by
 rintro a w ⟨m,hm⟩
 obtain ⟨vs,us,he,hrun,hvs⟩:=nH hm h
 have hrv:Rv (aj T0 w0.heap.size m s w) (iY vs) (Gp us):=by
  cases hvs with
  | nil=>exact .tup _ _ .nil
  | cons x v l us hx ht=>
   cases ht with
   | nil=>exact hx
   | cons x' v' l' us' hx' ht'=>exact .tup _ _ (.cons _ _ _ _ hx (.cons _ _ _ _ hx' ht'))
 have hren:iR (pm l) (aj T0 w0.heap.size m s w) ⟨w,allow T0 w0.heap.size (fun i=>m (pm l i)) rows,fun i=>m (pm l i),N⟩:=
  {m:=fun _ _=>rfl,
   t:=by
    intro b ⟨h1,h2⟩ _
    refine ⟨⟨h1,fun i it hi e=>?_⟩,rfl⟩
    obtain ⟨_,h3,_⟩:=bY hr i it (bU hi)
    exact h2 _ _ h3 e }
 refine ⟨_,fun fn hf=>ji hf a.tmps hrun,fun i=>m (pm l i),N,Rv.ren hren out hb (by rw [←he];exact hrv),fun i it hi=>?_,fun i j it jt b hi hj hbi hbj=>?_⟩
 ·obtain ⟨h1,h2,h3⟩:=bY hr i it (bU hi)
  exact ⟨h1,aK.ren hren rfl h3 (hm.rows _ _ h2).2⟩
 ·obtain ⟨_,h2,_⟩:=bY hr i it (bU hi)
  obtain ⟨_,h2',_⟩:=bY hr j jt (bU hj)
  exact oK hr i j it jt (bU hi) (bU hj) (hm.sep _ _ _ _ b h2 h2' hbi hbj)
theorem nY {c:Ctx}:∀ {args:List AV} {vals:List Value} (k:Nat) (pre:List Value),pre.length=k→bQ c args vals→∀ r v,lk (aB k args) r=some v→∃ u,(pre++vals)[r]?=some u∧Rv c v u
 | _,_,k,pre,hk,.nil,r,v,h=>by simp [aB,lk] at h
 | _,_,k,pre,hk,.cons x u l vs hx ht,r,v,h=>by
  simp only [aB,lk] at h
  split at h
  ·rename_i e;subst e;cases h
   exact ⟨u,by rw [List.getElem?_append_right (by omega)];simp [hk],hx⟩
  ·obtain ⟨u',h1,h2⟩:=nY (k+1) (pre++[u]) (by simp [hk]) ht r v h
   exact ⟨u',by simpa using h1,h2⟩
theorem aC.of_run {f:Nat} {fn:Func} {c:Code} {args:List AV} {out:AV} {rows:List (Nat × Item)} (hf:P.funcs[f]?=some fn) (hb:fn.body=some c)
  (hnm:(fn.name == "runtime.NumGoroutine")=false) (hn:args.length≤fn.ntmps) (res:List ResultVar) (hres:fn.results=res.toArray)
  (h:∀ (w0:World) (T0:Bs) [lZ P w0 T0],aX P w0 T0 0 c ⟨fn.ntmps,aB 0 args,[],0⟩ (Post P w0 T0 res out rows)):aC P f args out rows:=by
 refine ⟨⟨fn,hf,by rw [hb];rfl,hnm⟩,fun w T vals hgl hv=>?_⟩
 haveI:lZ P w (bs T):=⟨hgl,fun _ _ _ h=>h.1⟩
 refine calls_of_wp hf hb ?_
 have hlen:=hv.length
 have hle:bT (⟨w,T,fun _=>undef,0⟩:Ctx) (aj (bs T) w.heap.size (fun _=>undef) ⟨fn.ntmps,aB 0 args,[],0⟩ w):=
  ⟨Nat.le_refl _,fun _ _=>rfl,fun b hb _=>⟨⟨.inr hb,fun i it hi=>by simp [lk] at hi⟩,rfl⟩⟩
 have hrep:aN w (bs T) [] ⟨fn.ntmps,aB 0 args,[],0⟩ { tmps:=vals.toArray++Array.replicate (fn.ntmps - vals.toArray.size) undef,defers:=[] } w (fun _=>undef):=
  {size:=by simp;omega,nodef:=rfl,below:=aP.refl _ _,
   env:=by
    intro r v hr
    obtain ⟨u,h1,h2⟩:=nY 0 [] rfl hv r v hr
    have e:((vals.toArray++Array.replicate (fn.ntmps - vals.toArray.size) undef).getD r undef)=u:=by
     have h1':vals[r]?=some u:=by simpa using h1
     have hlt:r<vals.length:=(List.getElem?_eq_some_iff.1 h1').1
     rw [Array.getD_eq_getD_getElem?,Array.getElem?_append_left (by simpa using hlt)]
     simp [h1']
    rw [e];exact h2.mono hle,
   held:=fun p hp=>absurd hp (by simp),rows:=fun i it hi=>absurd hi (by simp [lk]),sep:=fun i j it jt b hi=>absurd hi (by simp [lk]) }
 refine wp_mono (h w (bs T) [] _ w (fun p hp=>absurd hp (by simp)) ⟨_,hrep⟩) ?_
 rintro e a w' ⟨s',hq,hr⟩
 have fin:aZ P w (bs T) res out rows s'→a.defers=[]∧∃ v,(results fn a.tmps).run P w'=.ok v w'∧∃ v',Ending.returned v=.returned v'∧ig w.heap.size w w'∧l7 T w.heap.size w' out rows v':=by
  intro hret
  obtain ⟨v,hv,hout⟩:=hret a w' hr
  obtain ⟨m,hm⟩:=hr
  exact ⟨hm.nodef,v,hv fn hres,v,rfl,(hm.below.mono fun b hb=>hb.1).below,hout.out⟩
 cases e with
 | normal=>exact fin hq
 | ret=>exact fin hq
 | _=>exact hq.elim
theorem aC.aO {f:Nat} {fn:Func} {c:Code} {args:List AV} {out:AV} {rows:List (Nat × Item)} (hf:P.funcs[f]?=some fn) (hb:fn.body=some c)
  (hnm:(fn.name == "runtime.NumGoroutine")=false) (hn:args.length≤fn.ntmps) (res:List ResultVar) (hres:fn.results=res.toArray)
  (h:∀ (w0:World) (T0:Bs) [lZ P w0 T0],fA P w0 T0 0 c (Post P w0 T0 res out rows) ⟨fn.ntmps,aB 0 args,[],0⟩):aC P f args out rows:=
 .of_run hf hb hnm hn res hres fun w0 T0=>.of (h w0 T0)
end
end Go.Fv
/-
 Calls: by contract, or into the callee's code.
-/
namespace Go.Fv
open Go.RowKit
structure uq (p:Nat→Nat) (c c':Ctx):Prop where
 n:∀ i,i<c.N→p i<c'.N
 m:∀ i,i<c.N→c'.m (p i)=c.m i
 t:∀ b,c.T b→b<c.w.heap.size→c'.T b∧c'.w.heap[b]?=c.w.heap[b]?
mutual
theorem mg {p:Nat→Nat} {n k:Nat} (h:∀ i,i<n→p i<k):∀ x:AV,Fv.below n x=true→Fv.below k (ren p x)=true
 | .own i,e=>by simp only [Fv.below,ren,decide_eq_true_eq] at *;exact h i e
 | .ptr i o,e=>by simp only [Fv.below,ren,decide_eq_true_eq] at *;exact h i e
 | .elt i a b c,e=>by simp only [Fv.below,ren,decide_eq_true_eq] at *;exact h i e
 | .pre i k,e=>by simp only [Fv.below,ren,decide_eq_true_eq] at *;exact h i e
 | .suf i a b k,e=>by simp only [Fv.below,ren,decide_eq_true_eq] at *;exact h i e
 | .agg cs,e=>by simp only [Fv.below,ren] at *;exact jf h cs e
 | .tup cs,e=>by simp only [Fv.below,ren] at *;exact jf h cs e
 | .fn f cs,e=>by simp only [Fv.below,ren] at *;exact jf h cs e
 | .cell cs,_=>rfl
 | .dead,_=>rfl
 | .nilS,_=>rfl
 | .bool _,_=>rfl
 | .int _ _,_=>rfl
 | .str _,_=>rfl
 | .ro _,_=>rfl
 | .raw _,_=>rfl
 | .mp _ _,_=>rfl
 | .opt _ v,e=>by simp only [Fv.below,ren] at *;exact mg h v e
theorem jf {p:Nat→Nat} {n k:Nat} (h:∀ i,i<n→p i<k):∀ x:List AV,aH n x=true→aH k (dw p x)=true
 | [],_=>rfl
 | x::l,e=>by
  simp only [aH,Bool.and_eq_true] at e
  simp [dw,aH,mg h x e.1,jf h l e.2]
end
mutual
theorem Rv.shift {p:Nat→Nat} {c c':Ctx} (h:uq p c c'):∀ {x:AV} {v:Value},Rv c x v→Rv c' (ren p x) v
 | _,_,.dead v=>.dead v
 | _,_,.nilS=>.nilS
 | _,_,.bool b=>.bool b
 | _,_,.int k n hk=>.int k n hk
 | _,_,.str s hs=>.str s hs
 | _,_,.roNil r hr hi=>.roNil r (aT.dB h.t hr hi) hi
 | _,_,.ro r a len cap cells hr hl hc hm hs hi=>.ro r a len cap cells (aT.dB h.t hr hi) hl hc hm (hs.mono' h.t) hi
 | _,_,.mp ks vs g es clock hk hv hb hc hT hh hi hi2=>.mp ks vs g es clock (bQ.dB h.t hk hi) (bQ.dB h.t hv hi2) hb hc (h.t g hT (Array.getElem?_eq_some_iff.1 hh).1).1 (by rw [(h.t g hT (Array.getElem?_eq_some_iff.1 hh).1).2];exact hh) hi hi2
 | _,_,.own i hi h1=>by rw [←h.m i hi];exact .own (p i) (h.n i hi) (by rw [h.m i hi];exact h1)
 | _,_,.cell cs vs a hl hi hs=>.cell cs vs a (aY.dB h.t hl hi) hi (hs.mono' h.t)
 | _,_,.ptr i off g hi hg=>.ptr (p i) off g (h.n i hi) (by rw [h.m i hi];exact hg)
 | _,_,.elt i sz idx off g hi hg=>.elt (p i) sz idx off g (h.n i hi) (by rw [h.m i hi];exact hg)
 | _,_,.pre i n l cap a hi hv hn=>.pre (p i) n l cap a (h.n i hi) (by rw [h.m i hi];exact hv) hn
 | _,_,.suf i sz o n l cap a hi hv hn=>.suf (p i) sz o n l cap a (h.n i hi) (by rw [h.m i hi];exact hv) hn
 | _,_,.agg cs vs hl=>.agg _ vs (aY.shift h hl)
 | _,_,.tup cs vs hl=>.tup _ vs (bQ.shift h hl)
 | _,_,.fn f cs vs hl=>.fn f _ vs (bQ.shift h hl)
 | _,_,.raw v=>.raw v
 | _,_,.opt b x v hb hx h2=>.opt b _ v (mg h.n x hb) (fun e=>Rv.shift h (hx e)) h2
theorem aY.shift {p:Nat→Nat} {c c':Ctx} (h:uq p c c'):∀ {x:List AV} {v:List Value},aY c x v→aY c' (dw p x) v
 | _,_,.nil=>.nil
 | _,_,.cons x v l vs hx h1 ht=>.cons _ v _ vs (Rv.shift h hx) h1 (aY.shift h ht)
theorem bQ.shift {p:Nat→Nat} {c c':Ctx} (h:uq p c c'):∀ {x:List AV} {v:List Value},bQ c x v→bQ c' (dw p x) v
 | _,_,.nil=>.nil
 | _,_,.cons x v l vs hx ht=>.cons _ v _ vs (Rv.shift h hx) (bQ.shift h ht)
end
theorem aQ.shift {p:Nat→Nat} {c c':Ctx} (h:uq p c c'):∀ {sz:Nat} {x:List (List AV)} {v:List Value},aQ c sz x v→aQ c' sz (x.map (dw p)) v
 | _,_,_,.nil sz=>.nil sz
 | _,_,_,.cons sz o vs l cells ho hl ht=>.cons sz _ vs _ cells (aY.shift h ho) hl (aQ.shift h ht)
theorem aT.shift {p:Nat→Nat} {c c':Ctx} (h:uq p c c') {r:au} {v:List Value} (hr:aT c r v):aT c' (rF p r) v:=by
 cases hr with
 | objs sz l _ hz ho=>exact .objs sz _ v hz (aQ.shift h ho)
 | bools l=>exact .bools l
 | ints k l hk=>exact .ints k l hk
 | strs l hk=>exact .strs l hk
theorem KY (p:Nat→Nat) (r:au):(rF p r).len=r.len:=by cases r<;>simp [rF,au.len]
theorem NG (p:Nat→Nat) (r:au):(rF p r).sz=r.sz:=by cases r<;>rfl
theorem aK.shift {p:Nat→Nat} {c c':Ctx} (h:uq p c c') (hw:c'.w=c.w) {O O':Nat→Prop} (hB:∀ b,O b→O' b) {v:Value} {it:Item} (hi:aK c O v it):aK c' O' v (it.ren p):=by
 cases it with
 | row e r=>
  obtain ⟨n,cells,hr,hn,ho,hO⟩:=hi
  exact ⟨n,cells,aT.shift h hr,by rw [KY];exact hn,by rw [hw,NG];exact ho,fun b hb=>hB b (hO b hb)⟩
 | box e cs=>
  obtain ⟨g,vs,rfl,hg,hl,he⟩:=hi
  exact ⟨g,vs,rfl,hB g hg,aY.shift h hl,by rw [hw];exact he⟩
 | map ks vs=>
  obtain ⟨g,es,clock,rfl,hg,h1,h2,h3,h4,he⟩:=hi
  exact ⟨g,es,clock,rfl,hB g hg,bQ.shift h h1,bQ.shift h h2,h3,h4,by rw [hw];exact he⟩
 | iter mp since seen=>
  obtain ⟨g,q,sn,last,rfl,hg,h1,h2,h3,h4,he⟩:=hi
  exact ⟨g,q,sn,last,rfl,hB g hg,h.n mp h1,by rw [h.m mp h1];exact h2,h3,h4,by rw [hw];exact he⟩
 | siter t pos=>
  obtain ⟨g,rfl,hg,he⟩:=hi
  exact ⟨g,rfl,hB g hg,by rw [hw];exact he⟩
def jr (P:Program) (f:Nat) (args:List AV) (out:AV) (rows:List (Nat × Item)):Prop:=
 Enter P f∧∀ (w:World) (T:Nat→Prop) (vals:List Value),jU P w→bQ ⟨w,T,fun _=>undef,0⟩ args vals →
  Calls P f vals.toArray w fun e w'=>∃ v,e=.returned v∧ig w.heap.size w w'∧l7 (fun _=>False) w.heap.size w' out rows v
mutual
def lW:AV→Bool
 | .ro _=>false
 | .cell _=>false
 | .fn _ _=>false
 | .agg cs=>iM cs
 | .tup cs=>iM cs
 | .own _=>true
 | .ptr _ _=>true
 | .elt _ _ _ _=>true
 | .pre _ _=>true
 | .suf _ _ _ _=>true
 | .dead=>true
 | .nilS=>true
 | .bool _=>true
 | .int _ _=>true
 | .str _=>true
 | .raw _=>true
 | .opt _ v=>lW v
 | .mp _ _=>false
def iM:List AV→Bool
 | []=>true
 | x::l=>lW x && iM l
end
def vO:au→Bool
 | .objs _ l=>l.all iM
 | .bools _=>true
 | .ints _ _=>true
 | .strs _=>true
def kL:Item→Bool
 | .row _ r=>vO r
 | .box _ cs=>iM cs
 | .map ks vs=>iM ks && iM vs
 | .iter _ _ _=>true
 | .siter _ _=>true
def kM:List (Nat × Item)→Bool
 | []=>true
 |(_,it)::l=>kL it && kM l
mutual
theorem Rv.jc {w:World} {T T':Nat→Prop} {m:Nat→Value} {N:Nat}:∀ {x:AV} {v:Value},Rv ⟨w,T,m,N⟩ x v→lW x=true→Rv ⟨w,T',m,N⟩ x v
 | _,_,.dead v,_=>.dead v
 | _,_,.nilS,_=>.nilS
 | _,_,.bool b,_=>.bool b
 | _,_,.int k n hk,_=>.int k n hk
 | _,_,.str s hs,_=>.str s hs
 | _,_,.roNil r hr _,e=>by simp [lW] at e
 | _,_,.ro r a len cap cells hr hl hc hm hs _,e=>by simp [lW] at e
 | _,_,.mp _ _ _ _ _ _ _ _ _ _ _ _ _,e=>by simp [lW] at e
 | _,_,.own i hi h1,_=>.own (c:=⟨w,T',m,N⟩) i hi h1
 | _,_,.cell cs vs a hl hi hs,e=>by simp [lW] at e
 | _,_,.ptr i off g hi hg,_=>.ptr i off g hi hg
 | _,_,.elt i sz idx off g hi hg,_=>.elt i sz idx off g hi hg
 | _,_,.pre i n l cap a hi hv hn,_=>.pre i n l cap a hi hv hn
 | _,_,.suf i sz o n l cap a hi hv hn,_=>.suf i sz o n l cap a hi hv hn
 | _,_,.agg cs vs hl,e=>.agg _ vs (aY.jc hl (by simpa [lW] using e))
 | _,_,.tup cs vs hl,e=>.tup _ vs (bQ.jc hl (by simpa [lW] using e))
 | _,_,.fn f cs vs hl,e=>by simp [lW] at e
 | _,_,.raw v,_=>.raw v
 | _,_,.opt b x v hb hx h2,e=>.opt b x v hb (fun e'=>Rv.jc (hx e') (by simpa [lW] using e)) h2
theorem aY.jc {w:World} {T T':Nat→Prop} {m:Nat→Value} {N:Nat}:∀ {x:List AV} {v:List Value},aY ⟨w,T,m,N⟩ x v→iM x=true→aY ⟨w,T',m,N⟩ x v
 | _,_,.nil,_=>.nil
 | _,_,.cons x v l vs hx h1 ht,e=>by
  simp only [iM,Bool.and_eq_true] at e
  exact .cons _ v _ vs (Rv.jc hx e.1) h1 (aY.jc ht e.2)
theorem bQ.jc {w:World} {T T':Nat→Prop} {m:Nat→Value} {N:Nat}:∀ {x:List AV} {v:List Value},bQ ⟨w,T,m,N⟩ x v→iM x=true→bQ ⟨w,T',m,N⟩ x v
 | _,_,.nil,_=>.nil
 | _,_,.cons x v l vs hx ht,e=>by
  simp only [iM,Bool.and_eq_true] at e
  exact .cons _ v _ vs (Rv.jc hx e.1) (bQ.jc ht e.2)
end
theorem qY:∀ {l:List (Nat × Item)} {i:Nat} {it:Item},kM l=true→lk l i=some it→kL it=true
 |(j,jt)::l,i,it,h,hi=>by
  simp only [kM,Bool.and_eq_true] at h
  simp only [lk] at hi
  split at hi
  ·cases hi;exact h.1
  ·exact qY h.2 hi
theorem aQ.jc {w:World} {T T':Nat→Prop} {m:Nat→Value} {N:Nat}:∀ {sz:Nat} {l:List (List AV)} {cells:List Value},aQ ⟨w,T,m,N⟩ sz l cells→l.all iM=true→aQ ⟨w,T',m,N⟩ sz l cells
 | _,_,_,.nil _,_=>.nil _
 | _,_,_,.cons sz o vs l cells ho hl ht,hr=>by
  simp only [List.all_cons,Bool.and_eq_true] at hr
  exact .cons sz o vs l cells (ho.jc hr.1) hl (aQ.jc ht hr.2)
theorem aT.jc {w:World} {T T':Nat→Prop} {m:Nat→Value} {N:Nat} {r:au} {cells:List Value} (h:aT ⟨w,T,m,N⟩ r cells) (hr:vO r=true):aT ⟨w,T',m,N⟩ r cells:=by
 cases h with
 | bools l=>exact .bools l
 | ints k l hk=>exact .ints k l hk
 | strs l hs=>exact .strs l hs
 | objs sz l cells hz ho=>
  exact .objs sz l cells hz (ho.jc (by simpa only [vO] using hr))
section
variable {P:Program} {w0:World} {T0:Bs} {b0:Nat}
theorem jr.kN {f:Nat} {args:List AV} {out:AV} {rows:List (Nat × Item)} (h:aC P f args out rows) (h1:lW out=true) (h2:kM rows=true):jr P f args out rows:=by
 refine ⟨h.1,fun w T vals hgl hv=>(h.2 w T vals hgl hv).mono ?_⟩
 rintro e w' ⟨v,rfl,hb,m,N,hr,hrows,hsep⟩
 refine ⟨v,rfl,hb,m,N,hr.jc h1,fun i it hi=>⟨(hrows i it hi).1,?_⟩,hsep⟩
 have hn:=qY h2 hi
 have ho:=(hrows i it hi).2
 cases it with
 | row e r=>obtain ⟨n,cells,hc,hq⟩:=ho;exact ⟨n,cells,hc.jc hn,hq⟩
 | box e cs=>obtain ⟨g,vs,hv',hg,hl,hq⟩:=ho;exact ⟨g,vs,hv',hg,hl.jc hn,hq⟩
 | map ks vs=>
  simp only [kL,Bool.and_eq_true] at hn
  obtain ⟨g,es,clock,hv',hg,h1,h2,h3,h4,hq⟩:=ho;exact ⟨g,es,clock,hv',hg,h1.jc hn.1,h2.jc hn.2,h3,h4,hq⟩
 | iter mp since seen=>exact ho
 | siter t pos=>exact ho
theorem jr.ok {f:Nat} {args:List AV} {out:AV} {rows:List (Nat × Item)} (h:jr P f args out rows):aC P f args out rows:=by
 refine ⟨h.1,fun w T vals hgl hv=>(h.2 w T vals hgl hv).mono ?_⟩
 rintro e w' ⟨v,rfl,hb,m,N,hr,hrows,hsep⟩
 have hle:bT (⟨w',allow (bs fun _=>False) w.heap.size m rows,m,N⟩:Ctx) ⟨w',allow (bs T) w.heap.size m rows,m,N⟩:=
  ⟨Nat.le_refl _,fun _ _=>rfl,fun b hb _=>⟨⟨.inl (hb.1.resolve_right fun x=>x),hb.2⟩,rfl⟩⟩
 exact ⟨v,rfl,hb,m,N,hr.mono hle,fun i it hi=>⟨(hrows i it hi).1,((hrows i it hi).2).mono hle fun _ _=>rfl⟩,hsep⟩
/-! ### Arguments -/
def nilRow:au→Prop
 | .bools l=>l=[]
 | .ints _ l=>l=[]
 | .strs l=>l=[]
 | .objs sz l=>0<sz∧l=[]
def bf (R:AV→AV→Prop):List AV→List AV→Prop
 | [],l=>l=[]
 | x::l,l'=>∃ y r,R x y∧bf R l r∧l'=y::r
def wF (R:AV→AV→Prop):List (List AV)→List (List AV)→Prop
 | [],l=>l=[]
 | x::l,l'=>∃ y r,bf R x y∧wF R l r∧l'=y::r
def aF (rows:List (Nat × Item)):Nat→AV→AV→Prop
 | n+1,.own i,y=>match lk rows i with
  | some (.row _ r)=>if dQ r=true then y=.ro r else match r with
   | .objs sz l=>∃ l',wF (aF rows n) l l'∧y=.ro (.objs sz l')
   | _=>False
  | some (.map ks vs)=>∃ ks' vs',bf (aF rows n) ks ks'∧bf (aF rows n) vs vs'∧y=.mp ks' vs'
  | _=>False
 | n+1,.pre i k,y=>match lk rows i with
  | some (.row _ r)=>dQ r=true∧k≤r.len∧y=.ro (bP r 0 k)
  | _=>False
 | n+1,.nilS,y=>y=.nilS∨∃ r,nilRow r∧y=.ro r
 | n+1,.agg cs,y=>∃ cs',bf (aF rows n) cs cs'∧y=.agg cs'
 | n+1,.fn f cs,y=>∃ cs',bf (aF rows n) cs cs'∧y=.fn f cs'
 | n+1,.ptr i off,y=>∃ e cs cs',lk rows i=some (.box e cs)∧bf (aF rows n) (cs.drop off) cs'∧y=.cell cs'
 | n+1,.ro r,y=>y=.ro r
 | n+1,.bool b,y=>y=.bool b
 | n+1,.int k m,y=>y=.int k m
 | n+1,.str s,y=>y=.str s
 | n+1,.cell cs,y=>y=.cell cs
 | n+1,.raw v,y=>y=.raw v
 | n+1,.mp ks vs,y=>y=.mp ks vs
 | n+1,.dead,y=>y=.dead
 | _,_,_=>False
def fK (rows:List (Nat × Item)) (x y:AV):Prop:=aF rows 6 x y
def aW (rows:List (Nat × Item)) (x y:List AV):Prop:=bf (aF rows 6) x y
structure yK (w:World) (c:Ctx) (rows:List (Nat × Item)) (T:Nat→Prop):Prop where
 hw:c.w=w
 t:∀ b,c.T b→T b
 own:∀ i e r,lk rows i=some (.row e r)→(∀ b,blk (c.m i)=some b→T b)∧∃ n cells,aT c r cells∧r.len=n∧nD w e r.sz (c.m i) n cells
 map:∀ i ks vs,lk rows i=some (.map ks vs)→∃ g es clock,c.m i=.map (some g)∧T g∧bQ c ks (es.toList.map MapEntry.key)∧bQ c vs (es.toList.map MapEntry.val)∧(∀ (i:Nat) (e:MapEntry),es[i]?=some e→e.born=i)∧Ar es clock∧w.heap[g]?=some (.map es clock)
 box:∀ i e cs,lk rows i=some (.box e cs)→∃ g vs,c.m i=.pointer (some ⟨g,0,none⟩)∧T g∧aY c cs vs∧w.heap[g]?=some (.cells vs.toArray e (0,0))
theorem yK.ht {w:World} {c:Ctx} {rows:List (Nat × Item)} {T:Nat→Prop} (h:yK w c rows T):∀ b,c.T b→b<c.w.heap.size→(⟨w,T,fun _=>undef,0⟩:Ctx).T b∧(⟨w,T,fun _=>undef,0⟩:Ctx).w.heap[b]?=c.w.heap[b]?:=
 fun b hb _=>⟨h.t b hb,by rw [h.hw]⟩
theorem Jd {c:Ctx} {r:au} (h:nilRow r):aT c r []:=by
 cases r with
 | bools l=>cases h;exact .bools []
 | ints k l=>cases h;exact .ints k [] fun x hx=>by cases hx
 | strs l=>cases h;exact .strs [] fun x hx=>by cases hx
 | objs sz l=>obtain ⟨hz,rfl⟩:=h;exact .objs sz [] [] hz (.nil sz)
theorem KI {w:World} {c:Ctx} {rows:List (Nat × Item)} {T:Nat→Prop} (h:yK w c rows T) {i:Nat} {e:TypeId} {r:au} {v:Value} (hl:lk rows i=some (.row e r)) (hid:dQ r=true) (hr:Rv c (.own i) v):Rv ⟨w,T,fun _=>undef,0⟩ (.ro r) v:=by
 have ht:∀ b,c.T b→b<c.w.heap.size→(⟨w,T,fun _=>undef,0⟩:Ctx).T b∧(⟨w,T,fun _=>undef,0⟩:Ctx).w.heap[b]?=c.w.heap[b]?:=fun b hb _=>⟨h.t b hb,by rw [h.hw]⟩
 obtain ⟨h1,n,cells,hc,hn,ho⟩:=h.own i e r hl
 cases hr with
 | own _ hi _=>
  rcases ho.2 with ⟨hv,hz⟩|⟨g,cap,cur,fz,hv,hg,hh,hnc,hcm,hcs,htake⟩
  ·rw [hv]
   have hcl:cells=[]:=List.eq_nil_of_length_eq_zero (by rw [ho.1,hz];simp)
   subst hcl
   exact .roNil r (aT.dB ht hc hid) hid
  ·have hb:=h1 g (by rw [hv];rfl)
   have hcells:=dR ho (g:=g) (by rw [hv];rfl)
   rw [hv]
   exact .ro r ⟨g,0,none⟩ n cap cells (aT.dB ht hc hid) hn hnc hcm ⟨trivial,fun _=>hb,hcells⟩ hid
theorem KP {w:World} {c:Ctx} {rows:List (Nat × Item)} {T:Nat→Prop} (h:yK w c rows T) {i k:Nat} {e:TypeId} {r:au} {v:Value} (hl:lk rows i=some (.row e r)) (hid:dQ r=true) (hk:k≤r.len) (hr:Rv c (.pre i k) v):Rv ⟨w,T,fun _=>undef,0⟩ (.ro (bP r 0 k)) v:=by
 have ht:∀ b,c.T b→b<c.w.heap.size→(⟨w,T,fun _=>undef,0⟩:Ctx).T b∧(⟨w,T,fun _=>undef,0⟩:Ctx).w.heap[b]?=c.w.heap[b]?:=fun b hb _=>⟨h.t b hb,by rw [h.hw]⟩
 obtain ⟨h1,n,cells,hc,hn,ho⟩:=h.own i e r hl
 have hsub:=aT.sub 0 k (aT.dB ht hc hid)
 cases hr with
 | pre _ _ l cap a hi hv hkl=>
  rcases ho.2 with ⟨hv',hz⟩|⟨g,cap',cur,fz,hv',hg,hh,hnc,hcm,hcs,htake⟩
  ·rw [hv] at hv'
   cases hv'
   have hcl:cells=[]:=List.eq_nil_of_length_eq_zero (by rw [ho.1,hz];simp)
   subst hcl
   obtain rfl:k=0:=by omega
   simp only [List.drop_nil,List.take_nil] at hsub
   exact .roNil _ hsub (gq 0 0 hid)
  ·have hb:=h1 g (by rw [hv'];rfl)
   have hcells:=dR ho (g:=g) (by rw [hv'];rfl)
   rw [hv] at hv'
   cases hv'
   refine .ro _ ⟨g,0,none⟩ k cap _ hsub (by rw [eY r 0 k hk];omega) (by omega) hcm ⟨trivial,fun _=>hb,fun j u hu=>hcells j u ?_⟩ (gq 0 k hid)
   simp only [Nat.zero_mul,List.drop_zero,Nat.sub_zero] at hu
   rw [List.getElem?_take] at hu
   split at hu
   ·exact hu
   ·cases hu
mutual
theorem Fj:∀ x:AV,Fv.below 0 x=true→bM x=true
 | .own i,h=>by simp [Fv.below] at h
 | .ptr i o,h=>by simp [Fv.below] at h
 | .elt i a b c,h=>by simp [Fv.below] at h
 | .pre i k,h=>by simp [Fv.below] at h
 | .suf i a b k,h=>by simp [Fv.below] at h
 | .agg cs,h=>by simp only [bM,Fv.below] at *;exact jd cs h
 | .tup cs,h=>by simp only [bM,Fv.below] at *;exact jd cs h
 | .fn f cs,h=>by simp only [bM,Fv.below] at *;exact jd cs h
 | .cell cs,_=>rfl
 | .dead,_=>rfl
 | .nilS,_=>rfl
 | .bool _,_=>rfl
 | .int _ _,_=>rfl
 | .str _,_=>rfl
 | .ro _,_=>rfl
 | .raw _,_=>rfl
 | .mp _ _,_=>rfl
 | .opt _ v,h=>by simp only [bM,Fv.below] at *;exact Fj v h
theorem jd:∀ x:List AV,aH 0 x=true→bI x=true
 | [],_=>rfl
 | x::l,h=>by
  simp only [aH,Bool.and_eq_true] at h
  simp [bI,Fj x h.1,jd l h.2]
end
theorem Rv.Ei {c:Ctx} (h0:c.N=0) {x:AV} {v:Value} (h:Rv c x v):bM x=true:=Fj x (by rw [←h0];exact h.ids)
theorem aY.Ei {c:Ctx} (h0:c.N=0) {x:List AV} {v:List Value} (h:aY c x v):bI x=true:=jd x (by rw [←h0];exact h.ids)
theorem aT.Ei {c:Ctx} (h0:c.N=0) {r:au} {v:List Value} (h:aT c r v):dQ r=true:=by
 have:=h.ids
 rw [h0] at this
 cases r with
 | objs sz l=>
  simp only [dQ,kZ,List.all_eq_true] at *
  exact fun x hx=>jd x (this x hx)
 | _=>rfl
theorem sS {w:World} {c:Ctx} {rows:List (Nat × Item)} {T:Nat→Prop} (h:yK w c rows T):∀ (n:Nat) (x:AV) {y:AV} {v:Value},aF rows n x y→Rv c x v→Rv ⟨w,T,fun _=>undef,0⟩ y v:=by
 intro n
 induction n with
 | zero=>intro x y v ha _;simp [aF] at ha
 | succ n ih=>
  have lst:∀ {l l':List AV} {vs:List Value},bf (aF rows n) l l'→aY c l vs→aY ⟨w,T,fun _=>undef,0⟩ l' vs:=by
   intro l
   induction l with
   | nil=>intro l' vs ha hr;simp only [bf] at ha;subst ha;cases hr;exact .nil
   | cons x l ihl=>
    intro l' vs ha hr
    simp only [bf] at ha
    obtain ⟨y,r,h1,h2,rfl⟩:=ha
    cases hr with
    | cons _ v _ vs hv h1' ht=>exact .cons _ _ _ _ (ih x h1 hv) h1' (ihl h2 ht)
  have lstT:∀ {l l':List AV} {vs:List Value},bf (aF rows n) l l'→bQ c l vs→bQ ⟨w,T,fun _=>undef,0⟩ l' vs:=by
   intro l
   induction l with
   | nil=>intro l' vs ha hr;simp only [bf] at ha;subst ha;cases hr;exact .nil
   | cons x l ihl=>
    intro l' vs ha hr
    simp only [bf] at ha
    obtain ⟨y,r,h1,h2,rfl⟩:=ha
    cases hr with
    | cons _ v _ vs hv ht=>exact .cons _ _ _ _ (ih x h1 hv) (ihl h2 ht)
  intro x y v ha hr
  cases x with
  | agg cs=>
   simp only [aF] at ha
   obtain ⟨cs',hl,rfl⟩:=ha
   cases hr with
   | agg _ vs hv=>exact .agg _ _ (lst hl hv)
  | fn f cs=>
   simp only [aF] at ha
   obtain ⟨cs',hl,rfl⟩:=ha
   cases hr with
   | fn _ _ vs hv=>exact .fn f _ _ (lstT hl hv)
  | own i=>
   simp only [aF] at ha
   split at ha
   ·rename_i e r hl
    split at ha
    ·rename_i hid;subst ha;exact KI h hl hid hr
    ·cases r with
     | objs sz l=>
      obtain ⟨l',hl2,rfl⟩:=ha
      have lstO:∀ {l l':List (List AV)} {cells:List Value},wF (aF rows n) l l'→aQ c sz l cells→aQ ⟨w,T,fun _=>undef,0⟩ sz l' cells∧l'.length=l.length:=by
       intro l
       induction l with
       | nil=>intro l' cells ha hr;simp only [wF] at ha;subst ha;cases hr;exact ⟨.nil _,rfl⟩
       | cons x l ihl=>
        intro l' cells ha hr
        simp only [wF] at ha
        obtain ⟨y,r,h1,h2,rfl⟩:=ha
        cases hr with
        | cons _ _ vs _ cells ho hl ht=>exact ⟨.cons _ _ vs _ cells (lst h1 ho) hl (ihl h2 ht).1,by simp [(ihl h2 ht).2]⟩
      obtain ⟨h1,k,cells,hc,hn,ho⟩:=h.own i _ _ hl
      cases hc with
      | objs _ _ _ hz hob=>
       obtain ⟨q1,q2⟩:=lstO hl2 hob
       have q3:aT ⟨w,T,fun _=>undef,0⟩ (.objs sz l') cells:=.objs sz l' cells hz q1
       have q4:dQ (.objs sz l')=true:=by
        simp only [dQ]
        have:=q1.ids
        simp only [List.all_eq_true] at *
        exact fun x hx=>jd x (this x hx)
       have q5:(au.objs sz l').len=k:=by rw [←hn];simpa [au.len] using q2
       cases hr with
       | own _ hi _=>
        rcases ho.2 with ⟨hv,hz⟩|⟨g,cap,cur,fz,hv,hg,hh,hnc,hcm,hcs,htake⟩
        ·rw [hv]
         have hcl:cells=[]:=List.eq_nil_of_length_eq_zero (by rw [ho.1,hz];simp)
         subst hcl
         exact .roNil _ q3 q4
        ·have hb:=h1 g (by rw [hv];rfl)
         have hcells:=dR ho (g:=g) (by rw [hv];rfl)
         rw [hv]
         exact .ro _ ⟨g,0,none⟩ k cap cells q3 q5 hnc hcm ⟨trivial,fun _=>hb,hcells⟩ q4
     | _=>exact ha.elim
   ·rename_i ks vs hl
    obtain ⟨ks',vs',h1,h2,rfl⟩:=ha
    obtain ⟨g,es,clock,hv,hT,k1,k2,k3,k4,hh⟩:=h.map i _ _ hl
    cases hr with
    | own _ hi _=>
     rw [hv]
     have q1:=lstT h1 k1
     have q2:=lstT h2 k2
     exact .mp ks' vs' g es clock q1 q2 k3 k4 hT hh (jd _ q1.ids) (jd _ q2.ids)
   ·exact ha.elim
  | pre i k=>
   simp only [aF] at ha
   split at ha
   ·rename_i e r hl
    obtain ⟨h1,h2,rfl⟩:=ha
    exact KP h hl h1 h2 hr
   ·exact ha.elim
  | nilS=>
   simp only [aF] at ha
   cases hr
   rcases ha with rfl|⟨r,hr,rfl⟩
   ·exact .nilS
   ·exact .roNil r (Jd hr) (by cases r<;>first|rfl|(obtain ⟨_,rfl⟩:=hr;rfl))
  | ptr i off=>
   simp only [aF] at ha
   obtain ⟨e,cs,cs',hl,hcs,rfl⟩:=ha
   obtain ⟨g,vs,hv,hT,hvs,hh⟩:=h.box i e cs hl
   cases hr with
   | ptr _ _ g' _ hg=>
    have hmi:blk (c.m i)=some g':=hg
    rw [hv] at hmi;cases hmi
    have k1:=lst hcs (hvs.drop off)
    refine .cell cs' (vs.drop off) ⟨g,off,none⟩ k1 (aY.Ei rfl k1) ⟨trivial,fun _=>hT,fun j u hu=>?_⟩
    rw [Addr.add_lit]
    rw [List.getElem?_drop] at hu
    have:=cell_of_row w g (off+j) vs.toArray e (0,0) hh
    show w.cell? _=_
    rw [this];simpa using hu
  | ro r=>simp only [aF] at ha;subst ha;exact hr.dB h.ht rfl
  | bool b=>simp only [aF] at ha;subst ha;exact hr.dB h.ht rfl
  | int k n=>simp only [aF] at ha;subst ha;exact hr.dB h.ht rfl
  | str s=>simp only [aF] at ha;subst ha;exact hr.dB h.ht rfl
  | raw v=>simp only [aF] at ha;subst ha;exact hr.dB h.ht rfl
  | mp ks vs=>simp only [aF] at ha;subst ha;exact hr.dB h.ht rfl
  | dead=>simp only [aF] at ha;subst ha;exact .dead v
  | cell cs=>
   simp only [aF] at ha;subst ha
   cases hr with
   | cell _ vs a hl hi hs=>exact .cell cs vs a (hl.dB h.ht hi) hi (hs.mono' h.ht)
  | _=>simp [aF] at ha
theorem kD {w:World} {c:Ctx} {rows:List (Nat × Item)} {T:Nat→Prop} (h:yK w c rows T):∀ (l:List AV) {l':List AV} {vs:List Value},aW rows l l'→bQ c l vs→bQ ⟨w,T,fun _=>undef,0⟩ l' vs
 | [],_,_,ha,hr=>by
  simp only [aW,bf] at ha;subst ha
  cases hr;exact .nil
 | x::l,_,_,ha,hr=>by
  simp only [aW,bf] at ha
  obtain ⟨y,r,h1,h2,rfl⟩:=ha
  cases hr with
  | cons _ v _ vs hv ht=>exact .cons _ _ _ _ (sS h 6 x h1 hv) (kD h l h2 ht)
/-! ### The state behind a call -/
def qj (k:Nat):List (Nat × Item)→List (Nat × Item)
 | []=>[]
 |(i,it)::l=>(k+i,it.ren (fun j=>k+j))::qj k l
theorem zN (k:Nat):∀ (l:List (Nat × Item)) (i:Nat) (it:Item),lk (qj k l) i=some it→∃ j jt,i=k+j∧lk l j=some jt∧it=jt.ren (fun j=>k+j)
 |(j,jt)::l,i,it,h=>by
  simp only [qj,lk] at h
  split at h
  ·rename_i e;cases h;exact ⟨j,jt,e.symm,by simp [lk],rfl⟩
  ·rename_i e
   obtain ⟨q,qt,h1,h2,h3⟩:=zN k l i it h
   refine ⟨q,qt,h1,?_,h3⟩
   simp only [lk];rw [if_neg (by intro e';exact e (by omega))];exact h2
theorem tJ {α:Type}:∀ (l l':List (Nat × α)) (i:Nat),lk (l++l') i=match lk l i with|some v=>some v|none=>lk l' i
 | [],_,_=>rfl
 |(j,v)::l,l',i=>by
  simp only [List.cons_append,lk]
  split
  ·rfl
  ·exact tJ l l' i
def S.after (s:S) (rows':List (Nat × Item)) (N:Nat) (rows:List (Nat × Item)):S:={ s with rows:=qj s.next rows++rows',next:=s.next+N }
theorem aN.after {H:List (AV × Value)} {s:S} {a:Act} {w:World} {m:Nat→Value} (hm:aN w0 T0 H s a w m) {w':World} (hb:ig w.heap.size w w') {rows':List (Nat × Item)}
  (hsub:∀ i it,lk rows' i=some it→lk s.rows i=some it) {T:Nat→Prop} (hT:∀ b,T b→allow T0 w0.heap.size m rows' b) {out:AV} {rows:List (Nat × Item)} {v:Value} (ho:l7 T w.heap.size w' out rows v)
  {N:Nat} (hN:Fv.below N out=true) (hNr:∀ i it,lk rows i=some it→i<N∧it.below N=true) :
  Rep w0 T0 ((ren (fun j=>s.next+j) out,v)::H) (s.after rows' N rows) a w':=by
 obtain ⟨mo,No,hr,hrows,hsep⟩:=ho
 have hitem:∀ i it,lk rows i=some it→aK ⟨w',allow (bs T) w.heap.size mo rows,mo,N⟩ (w.heap.size≤·) (mo i) it:=fun i it hi=>((hrows i it hi).2).cut (hNr i it hi).2
 let m2:Nat→Value:=fun i=>if i<s.next then m i else mo (i - s.next)
 have hm2:∀ i,i<s.next→m2 i=m i:=fun i hi=>if_pos hi
 have hm3:∀ j,m2 (s.next+j)=mo j:=fun j=>by show (if s.next+j<s.next then _ else _)=_;rw [if_neg (by omega),Nat.add_sub_cancel_left]
 have hold:∀ i it,lk rows' i=some it→i<s.next:=fun i it hi=>(hm.rows i it (hsub i it hi)).1
 have hnewB:∀ j jt,lk rows j=some jt→∀ b,blk (mo j)=some b→w.heap.size≤b:=fun j jt hj b hbl=>((hrows j jt hj).2.blk b hbl).1
 have holdB:∀ i it,lk s.rows i=some it→∀ b,blk (m i)=some b→b<w.heap.size:=fun i it hi b hbl=>((hm.rows i it hi).2.blk b hbl).2
 have hcases:∀ i it,lk (qj s.next rows++rows') i=some it→(∃ j jt,i=s.next+j∧lk rows j=some jt∧it=jt.ren (fun j=>s.next+j))∨(i<s.next∧lk rows' i=some it):=by
  intro i it hi
  rw [tJ] at hi
  cases hq:lk (qj s.next rows) i with
  | some y=>rw [hq] at hi;cases hi;exact .inl (zN _ _ _ _ hq)
  | none=>rw [hq] at hi;exact .inr ⟨hold i it hi,hi⟩
 have hle:bT (aj T0 w0.heap.size m s w) (aj T0 w0.heap.size m2 (s.after rows' N rows) w'):=by
  refine ⟨Nat.le_add_right _ _,hm2,?_⟩
  intro b ⟨h1,h2⟩ hlt
  refine ⟨⟨h1,fun i it hi e=>?_⟩,hb.block b hlt⟩
  rcases hcases i it hi with ⟨j,jt,rfl,hj,_⟩|⟨hlt',hi'⟩
  ·rw [hm3] at e;have h4:=hnewB j jt hj b e;have hlt2:b<w.heap.size:=hlt;omega
  ·rw [hm2 i hlt'] at e;exact h2 i it (hsub i it hi') e
 have hsh:uq (fun j=>s.next+j) (⟨w',allow (bs T) w.heap.size mo rows,mo,N⟩:Ctx) (aj T0 w0.heap.size m2 (s.after rows' N rows) w'):=by
  refine ⟨fun i hi=>Nat.add_lt_add_left hi _,fun i _=>hm3 i,?_⟩
  intro b ⟨h1,h2⟩ _
  have hlt0:=hm.lt
  refine ⟨⟨?_,fun i it hi e=>?_⟩,rfl⟩
  ·rcases h1 with h1|h1
   ·exact .inl (by omega)
   ·exact (hT b h1).1
  ·rcases hcases i it hi with ⟨j,jt,rfl,hj,_⟩|⟨hlt',hi'⟩
   ·rw [hm3] at e;exact h2 j jt hj e
   ·rw [hm2 i hlt'] at e
    rcases h1 with h1|h1
    ·have:=holdB i it (hsub i it hi') b e;omega
    ·exact (hT b h1).2 i it hi' e
 refine ⟨m2,aN.hold (s:=s.after rows' N rows) ?_ ((hr.cut hN).shift hsh)⟩
 refine { size:=hm.size,nodef:=hm.nodef,below:=hm.below.step hb.os hb.tape hb.output hb.size (fun k hk _=>hb.block k (Nat.lt_of_lt_of_le hk hm.lt)) hb.drawn,env:=fun r u hu=>(hm.env r u hu).mono hle,held:=fun q hq=>(hm.held q hq).mono hle,rows:=?_,sep:=?_ }
 ·intro i it hi
  rcases hcases i it hi with ⟨j,jt,rfl,hj,rfl⟩|⟨hlt',hi'⟩
  ·refine ⟨Nat.add_lt_add_left (hNr j jt hj).1 _,?_⟩
   rw [hm3]
   exact (hitem j jt hj).shift hsh rfl fun b hb=>.inl (Nat.le_trans hm.lt hb)
  ·refine ⟨by have:i<s.next:=hlt';show i<s.next+N;omega,?_⟩
   rw [hm2 i hlt']
   exact ((hm.rows i it (hsub i it hi')).2).mono hle fun b hbl=>hb.block b (holdB i it (hsub i it hi') b hbl)
 ·intro i j it jt b hi hj hbi hbj
  rcases hcases i it hi with ⟨i',it',rfl,hi',_⟩|⟨hlt',hi'⟩<;>rcases hcases j jt hj with ⟨j',jt',rfl,hj',_⟩|⟨hlt'',hj'⟩
  ·rw [hm3] at hbi hbj
   rw [hsep i' j' it' jt' b hi' hj' hbi hbj]
  ·rw [hm3] at hbi;rw [hm2 j hlt''] at hbj
   have h4:=hnewB i' it' hi' b hbi
   have h5:=holdB j jt (hsub j jt hj') b hbj
   omega
  ·rw [hm3] at hbj;rw [hm2 i hlt'] at hbi
   have h4:=hnewB j' jt' hj' b hbj
   have h5:=holdB i it (hsub i it hi') b hbi
   omega
  ·rw [hm2 i hlt'] at hbi;rw [hm2 j hlt''] at hbj
   exact hm.sep i j it jt b (hsub i it hi') (hsub j jt hj') hbi hbj
def dL (N:Nat):List (Nat × Item)→Prop
 | []=>True
 |(i,it)::l=>(i<N∧it.below N=true)∧dL N l
theorem rG {N:Nat}:∀ {l:List (Nat × Item)},dL N l→∀ i it,lk l i=some it→i<N∧it.below N=true
 |(j,jt)::l,h,i,it,hi=>by
  simp only [lk] at hi
  split at hi
  ·rename_i e;subst e;cases hi;exact h.1
  ·exact rG h.2 i it hi
theorem ah.fr [hG:lZ P w0 T0] {f:Nat} {args args':List AV} {out:AV} {rows:List (Nat × Item)} {s:S} {K:AV→S→Prop} (h:jr P f args' out rows) (ha:aW s.rows args args') (N:Nat) (hN:Fv.below N out=true) (hNr:dL N rows)
  (hk:K (ren (fun j=>s.next+j) out) (s.after s.rows N rows)):@ah P w0 T0 f args s ⟨K⟩:=by
 refine ⟨h.1,fun H a w m vals hm hv=>?_⟩
 have hl:yK w (aj T0 w0.heap.size m s w) s.rows (fun _=>True):=
  {hw:=rfl,t:=fun _ _=>trivial,
   own:=fun i e r hi=>by
    obtain ⟨n,cells,hc,hn,ho,hO⟩:=(hm.rows i _ hi).2
    exact ⟨fun _ _=>trivial,n,cells,hc,hn,ho⟩,
   box:=fun i e cs hi=>by
    obtain ⟨g,vs,hv,_,hl,hh⟩:=(hm.rows i _ hi).2
    exact ⟨g,vs,hv,trivial,hl,hh⟩,
   map:=fun i ks vs hi=>by
    obtain ⟨g,es,clock,hv,_,h1,h2,h3,h4,hh⟩:=(hm.rows i _ hi).2
    exact ⟨g,es,clock,hv,trivial,h1,h2,h3,h4,hh⟩ }
 refine (h.2 w (fun _=>True) vals (lZ.at hm) (kD hl _ ha hv)).mono ?_
 rintro e w' ⟨v,rfl,hb,ho⟩
 exact ⟨v,rfl,_,_,hk,hm.after hb (fun _ _ h=>h) (fun b hb=>hb.elim) ho hN (rG hNr)⟩
theorem ah.sh [hG:lZ P w0 T0] (rows':List (Nat × Item)) {f:Nat} {args args':List AV} {out:AV} {rows:List (Nat × Item)} {s:S} {K:AV→S→Prop} (h:aC P f args' out rows) (lent:List (Nat × Item)) (ha:aW lent args args')
  (hsub:∀ i it,lk rows' i=some it→lk s.rows i=some it) (hlent:∀ i it,lk lent i=some it→lk s.rows i=some it∧lk rows' i=none) (N:Nat) (hN:Fv.below N out=true) (hNr:dL N rows)
  (hk:K (ren (fun j=>s.next+j) out) (s.after rows' N rows)):@ah P w0 T0 f args s ⟨K⟩:=by
 refine ⟨h.1,fun H a w m vals hm hv=>?_⟩
 have hl:yK w (aj T0 w0.heap.size m s w) lent (allow T0 w0.heap.size m rows'):=
  {hw:=rfl,t:=fun b hb=>⟨hb.1,fun i it hi=>hb.2 i it (hsub i it hi)⟩,
   own:=fun i e r hi=>by
    obtain ⟨h1,h2⟩:=hlent i _ hi
    obtain ⟨n,cells,hc,hn,ho,hO⟩:=(hm.rows i _ h1).2
    refine ⟨fun b hb=>⟨(hO b hb).imp id (·.2),fun j jt hj hbj=>?_⟩,n,cells,hc,hn,ho⟩
    have:=hm.sep i j _ jt b h1 (hsub j jt hj) hb hbj
    subst this
    exact absurd (h2.symm.trans hj) (by simp),
   box:=fun i e cs hi=>by
    obtain ⟨h1,h2⟩:=hlent i _ hi
    obtain ⟨g,vs,hv,hg,hl,hh⟩:=(hm.rows i _ h1).2
    refine ⟨g,vs,hv,⟨hg.imp id (·.2),fun j jt hj hbj=>?_⟩,hl,hh⟩
    have:=hm.sep i j _ jt g h1 (hsub j jt hj) (by show blk (m i)=some g;rw [show m i=_ from hv];rfl) hbj
    subst this
    rw [h2] at hj;exact absurd hj (by simp),
   map:=fun i ks vs hi=>by
    obtain ⟨h1,h2⟩:=hlent i _ hi
    obtain ⟨g,es,clock,hv,hg,k1,k2,k3,k4,hh⟩:=(hm.rows i _ h1).2
    refine ⟨g,es,clock,hv,⟨hg.imp id (·.2),fun j jt hj hbj=>?_⟩,k1,k2,k3,k4,hh⟩
    have:=hm.sep i j _ jt g h1 (hsub j jt hj) (by show blk (m i)=some g;rw [show m i=_ from hv];rfl) hbj
    subst this
    rw [h2] at hj;cases hj }
 refine (h.2 w _ vals (lZ.at hm) (kD hl _ ha hv)).mono ?_
 rintro e w' ⟨v,rfl,hb,ho⟩
 exact ⟨v,rfl,_,_,hk,hm.after hb hsub (fun b hb=>hb) ho hN (rG hNr)⟩
end
end Go.Fv
