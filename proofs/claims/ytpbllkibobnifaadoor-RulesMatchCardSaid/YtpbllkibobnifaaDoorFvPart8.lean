/-
  A part of the proof of the claim: walks over the program's functions and the plain laws that these need. No condition of its own.
-/
import Derived.Test.YtpbllkibobnifaaDoorFvPart7
set_option linter.unusedSectionVars false
set_option linter.unusedVariables false
set_option linter.unusedSimpArgs false
set_option linter.unnecessarySimpa false
/-
 Regions whose order is drawn: every order is walked, moves first.
-/
namespace Go.Fv
open Go.RowKit
section
variable {P:Program} {w0:World} {T0:Bs} {b0:Nat} {H:List (AV × Value)} [hG:qB P w0 T0]
theorem GZ {ops:Array Oper} (hs:Region.noSelect ops=true) {Q:S→Prop}:∀ (t:yt) (n:Nat) (listed:Array Bool) (q:Option (List Nat)),fP ops t n listed q=true→∀ (s:S) (a:Act) (w:World),
  jB P w0 T0 ops t s Q→Rep w0 T0 H s a w →
  match q with
  | none=>wpAny P .any ops (fun e a' w'=>e=.normal∧∃ s',Q s'∧Rep w0 T0 H s' a' w') n listed a w
  | some l=>∃ n',n=n'+1∧∀ i,i∈l→wpOp P ops (fun e a' w'=>e=.normal∧∃ s',Q s'∧Rep w0 T0 H s' a' w') i (wpAny P .any ops (fun e a' w'=>e=.normal∧∃ s',Q s'∧Rep w0 T0 H s' a' w') n' (listed.setIfInBounds i true)) a w:=by
 intro t
 induction t with
 | done=>
  intro n listed q hok s a w h hr
  cases q with
  | none=>
   have hn:Region.ready .any ops listed=[]:=by
    cases n<;>simpa [fP,List.isEmpty_iff] using hok
   exact wpAny_done hn ⟨rfl,s,h,hr⟩ n
  | some l=>cases n<;>simp [fP] at hok
 | first i t ih=>
  intro n listed q hok s a w h hr
  cases n with
  | zero=>cases q<;>simp [fP] at hok
  | succ n=>
   cases q with
   | some l=>simp [fP] at hok
   | none=>
    simp only [fP,Bool.and_eq_true] at hok
    obtain ⟨⟨⟨hm,hf⟩,hrd⟩,ht⟩:=hok
    unfold jB at h
    cases ho:ops[i]? with
    | none=>rw [ho] at h;exact h.elim
    | some o=>
     rw [ho] at h hm
     have hm':KD o=true:=by simpa using hm
     have hg:o.guard=none:=by
      unfold KD at hm';split at hm'<;>first|assumption|cases hm'
     have go:∀ x,(o.op=.move x∨o.op=.assign x)→aZ (au x) (gU o.dst (s.ev x) s (fun s'=>jB P w0 T0 ops t s' Q)) →
       wpAny P .any ops (fun e a' w'=>e=.normal∧∃ s',Q s'∧Rep w0 T0 H s' a' w') (n+1) listed a w:=by
      rintro x hx ⟨hxo,hk⟩
      have hrun:∀ w,(execOp a.eval o).run P w=.ok (.value (a.eval x)) w:=by
       intro w;unfold execOp;rcases hx with hx|hx<;>rw [hx]<;>rfl
      have hy:Yields P ops o (a.eval x) a:=.inl ⟨by simp [Region.wanted,hg],hrun⟩
      refine wpAny_take ho hs hf hrd (by rintro c a w ⟨h,_⟩;cases h) hy ?_
      obtain ⟨m,hm⟩:=hr
      obtain ⟨s',h2,hr2⟩:=Rep.put (⟨m,hm.hold (hm.ev x hxo)⟩:Rep w0 T0 ((s.ev x,a.eval x)::H) s a w) hk
      exact ih n _ none ht s' _ w h2 hr2
     dsimp only at h
     cases hop:o.op<;>rw [hop] at h<;>first|exact h.elim|skip
     ·exact go _ (.inl hop) h
     ·exact go _ (.inr hop) h
     ·obtain ⟨hxo,hk⟩:=h
      obtain ⟨m,hm⟩:=hr
      obtain ⟨r,v,hk',hrun,hv⟩:=ql hop hxo hk hm
      have hy:Yields P ops o v a:=.inl ⟨by simp [Region.wanted,hg],hrun⟩
      refine wpAny_take ho hs hf hrd (by rintro c a w ⟨h,_⟩;cases h) hy ?_
      obtain ⟨s',h2,hr2⟩:=Rep.put (⟨m,hm.hold hv⟩:Rep w0 T0 ((r,v)::H) s a w) hk'
      exact ih n _ none ht s' _ w h2 hr2
 | cons i t r iht ihr=>
  intro n listed q hok s a w h hr
  unfold jB at h
  cases ho:ops[i]? with
  | none=>rw [ho] at h;exact h.elim
  | some o=>
   rw [ho] at h
   obtain ⟨h1,h2⟩:=h
   have one:∀ n',fP ops t n' (listed.setIfInBounds i true) none=true→wpOp P ops (fun e a' w'=>e=.normal∧∃ s',Q s'∧Rep w0 T0 H s' a' w') i (wpAny P .any ops (fun e a' w'=>e=.normal∧∃ s',Q s'∧Rep w0 T0 H s' a' w') n' (listed.setIfInBounds i true)) a w:=by
    intro n' ht
    unfold wpOp
    rw [ho]
    have:=BM (Qc:=fun e a' w'=>e=.normal∧∃ s',Q s'∧Rep w0 T0 H s' a' w') h1 hr fun s' a' w' hk hr'=>iht n' _ none ht s' a' w' hk hr'
    dsimp only at this ⊢
    split
    ·rename_i hw;rw [if_pos hw] at this;exact .inl this
    ·rename_i hw;rw [if_neg hw] at this;exact this
   cases n with
   | zero=>cases q<;>simp [fP] at hok
   | succ n=>
    cases q with
    | none=>
     cases hrd:Region.ready .any ops listed with
     | nil=>simp [fP,hrd] at hok
     | cons j l=>
      simp only [fP,hrd,Bool.and_eq_true,beq_iff_eq] at hok
      obtain ⟨⟨rfl,ht⟩,hrest⟩:=hok
      have:=ihr (n+1) listed (some l) hrest s a w h2 hr
      obtain ⟨n',hn,hall⟩:=this
      cases hn
      refine wpAny_all hrd (by simp) fun k hk=>?_
      cases List.mem_cons.1 hk with
      | inl e=>subst e;exact one n ht
      | inr e=>exact hall k e
    | some l=>
     cases l with
     | nil=>simp [fP] at hok
     | cons j l=>
      simp only [fP,Bool.and_eq_true,beq_iff_eq] at hok
      obtain ⟨⟨rfl,ht⟩,hrest⟩:=hok
      have:=ihr (n+1) listed (some l) hrest s a w h2 hr
      obtain ⟨n',hn,hall⟩:=this
      cases hn
      refine ⟨n,rfl,fun k hk=>?_⟩
      cases List.mem_cons.1 hk with
      | inl e=>subst e;exact one n ht
      | inr e=>exact hall k e
 | stop=>
  intro n listed q hok s a w h hr
  cases n<;>cases q<;>simp [fP] at hok
  subst hok
  exact ⟨_,rfl,fun i hi=>by cases hi⟩
theorem bC.drawn {s:S} {a:Act} {w:World} {m:Nat→Value} (h:bC w0 T0 H s a w m):bC w0 T0 H s a w.drew m:=by
 have hle:dK (aA T0 w0.heap.size m s w) (aA T0 w0.heap.size m s w.drew):=
  ji (Nat.le_refl _) (fun _ _=>rfl) (fun _ _ _=>rfl) fun i it b hi hb _=>⟨i,it,hi,hb⟩
 exact h.xE rfl rfl hle h.below.drew (fun i it hi=>⟨(h.rows i it hi).1,(h.rows i it hi).2.mono hle fun _ _=>rfl⟩) h.sep
theorem aP.intro {id:Nat} {ops:Array Oper} {s:S} {Q:S→Prop} (t:yt) (hm:P.follows .mixedOrders=true) (hs:Region.noSelect ops=true) (ht:fP ops t ops.size (Array.replicate ops.size false) none=true)
  (h:jB P w0 T0 ops t s Q):@aP P w0 T0 b0 id ops s ⟨Q⟩:=by
 intro H a w _ hr
 refine wp_region_any hm ?_
 have hr':Rep w0 T0 H s a { w with drawn:=w.drawn+1 }:=by
  obtain ⟨m,hm⟩:=hr
  exact ⟨m,hm.drawn⟩
 exact GZ hs t _ _ none ht s a _ h hr'
theorem aP.cut {id:Nat} {ops:Array Oper} {s:S} {Q:S→Prop} (t:yt) (hm:P.follows .mixedOrders=true) (hs:Region.noSelect ops=true) (ht:fP ops t ops.size (Array.replicate ops.size false) none=true) (shape:S)
  (h:jB P w0 T0 ops t s (fun s'=>aS w0 T0 b0 s' shape)) (hk:Q shape):@aP P w0 T0 b0 id ops s ⟨Q⟩:=by
 intro H a w hH hr
 refine wp_mono (aP.intro (b0:=b0) (id:=id) t hm hs ht h H a w hH hr) ?_
 rintro e a' w' ⟨he,s',hq,hr'⟩
 exact ⟨he,shape,hk,hq H a' w' hH hr'⟩
end
end Go.Fv
/-
 States that say less; contracts of functions; calls.
-/
namespace Go.Fv
open Go.RowKit
mutual
theorem oJ (p:Nat→Nat):∀ x:AV,bW x=true→ren p x=x
 | .own i,h=>by simp [bW] at h
 | .ptr i o,h=>by simp [bW] at h
 | .elt i a b c,h=>by simp [bW] at h
 | .pre i k,h=>by simp [bW] at h
 | .suf i a b k,h=>by simp [bW] at h
 | .agg cs,h=>by simp only [ren];rw [iV p cs (by simpa [bW] using h)]
 | .tup cs,h=>by simp only [ren];rw [iV p cs (by simpa [bW] using h)]
 | .fn f cs,h=>by simp only [ren];rw [iV p cs (by simpa [bW] using h)]
 | .cell cs,_=>rfl
 | .dead,_=>rfl
 | .nilS,_=>rfl
 | .bool _,_=>rfl
 | .int _ _,_=>rfl
 | .str _,_=>rfl
 | .ro _,_=>rfl
 | .raw _,_=>rfl
 | .mp _ _,_=>rfl
 | .opt b v,h=>by simp only [ren];rw [oJ p v (by simpa [bW] using h)]
 | .ifc b v,h=>by simp only [ren];rw [oJ p v (by simpa [bW] using h)]
 | .bm b v,h=>by simp only [ren];rw [oJ p v (by simpa [bW] using h)]
theorem iV (p:Nat→Nat):∀ x:List AV,bT x=true→bZ p x=x
 | [],_=>rfl
 | x::l,h=>by
  simp only [bT,Bool.and_eq_true] at h
  simp only [bZ];rw [oJ p x h.1,iV p l h.2]
end
def Item.ren (p:Nat→Nat):Item→Item
 | .row e r=>.row e (uO p r)
 | .box e cs=>.box e (bZ p cs)
 | .map ks vs=>.map (bZ p ks) (bZ p vs)
 | .iter mp since seen=>.iter (p mp) since seen
 | .siter t pos=>.siter t pos
def Item.below (n:Nat):Item→Bool
 | .row _ r=>jh n r
 | .box _ cs=>aQ n cs
 | .map ks vs=>aQ n ks && aQ n vs
 | .iter mp _ _=>decide (mp<n)
 | .siter _ _=>true
class jP (r:aF):Prop where
 ok:eG r=true
instance {l:List Bool}:jP (.bools l):=⟨rfl⟩
instance {k:IntKind} {l:List Int}:jP (.ints k l):=⟨rfl⟩
instance {l:List (List UInt8)}:jP (.strs l):=⟨rfl⟩
class lV (l:List (List AV)):Prop where
 ok:l.all bT=true
class pY {α:Type} (f:α→List AV):Prop where
 ok:∀ x,bT (f x)=true
class zQ (l:List AV):Prop where
 ok:bT l=true
instance {sz:Nat} {l:List (List AV)} [h:lV l]:jP (.objs sz l):=⟨h.ok⟩
instance:lV []:=⟨rfl⟩
instance {x:List AV} {l:List (List AV)} [h:zQ x] [h2:lV l]:lV (x::l):=⟨by simp [List.all_cons,h.ok,h2.ok]⟩
instance {l l':List (List AV)} [h:lV l] [h2:lV l']:lV (l++l'):=⟨by simp [List.all_append,h.ok,h2.ok]⟩
instance {α:Type} {f:α→List AV} {l:List α} [h:pY f]:lV (l.map f):=⟨by simp [List.all_map,List.all_eq_true,h.ok]⟩
instance {x:List AV} {n:Nat} [h:zQ x]:lV (List.replicate n x):=⟨by simp [List.all_eq_true,List.mem_replicate,h.ok]⟩
instance {α:Type} {f:α→List AV} {x:α} [h:pY f]:zQ (f x):=⟨h.ok x⟩
instance {l:List (List AV)} {n:Nat} [h:lV l]:lV (l.take n):=⟨by have:=h.ok;simp only [List.all_eq_true] at *;exact fun x hx=>this x (List.mem_of_mem_take hx)⟩
instance {l:List (List AV)} {n:Nat} [h:lV l]:lV (l.drop n):=⟨by have:=h.ok;simp only [List.all_eq_true] at *;exact fun x hx=>this x (List.mem_of_mem_drop hx)⟩
theorem Iw:∀ (l:List (List AV)) (n:Nat) (x:List AV),l.all bT=true→bT x=true→(l.set n x).all bT=true
 | [],_,_,_,_=>rfl
 | y::l,0,x,h,hx=>by simp only [List.all_cons,Bool.and_eq_true,List.set_cons_zero] at *;exact ⟨hx,h.2⟩
 | y::l,n+1,x,h,hx=>by simp only [List.all_cons,Bool.and_eq_true,List.set_cons_succ] at *;exact ⟨h.1,Iw l n x h.2 hx⟩
instance {l:List (List AV)} {n:Nat} {x:List AV} [h:lV l] [h2:zQ x]:lV (l.set n x):=⟨Iw _ _ _ h.ok h2.ok⟩
class tu (x:AV):Prop where
 ok:bW x=true
instance:zQ []:=⟨rfl⟩
instance {x:AV} {l:List AV} [h:tu x] [h2:zQ l]:zQ (x::l):=⟨by simp [bT,h.ok,h2.ok]⟩
instance {k:IntKind} {n:Int}:tu (.int k n):=⟨rfl⟩
instance {b:Bool}:tu (.bool b):=⟨rfl⟩
instance {s:List UInt8}:tu (.str s):=⟨rfl⟩
instance {r:aF}:tu (.ro r):=⟨rfl⟩
instance {r:List AV}:tu (.cell r):=⟨rfl⟩
instance:tu .nilS:=⟨rfl⟩
instance:tu .dead:=⟨rfl⟩
instance {v:Value}:tu (.raw v):=⟨rfl⟩
instance {ks vs:List AV}:tu (.mp ks vs):=⟨rfl⟩
theorem aG (r:aF) [h:jP r]:eG r=true:=h.ok
theorem QT (p:Nat→Nat):∀ (l:List (List AV)),l.all bT=true→l.map (bZ p)=l:=fun l h=>by
 simp only [List.all_eq_true] at h
 conv=>rhs;rw [←List.map_id l]
 exact List.map_congr_left fun x hx=>iV p x (h x hx)
theorem Ej (p:Nat→Nat) {r:aF} (h:eG r=true):uO p r=r:=by
 cases r with
 | objs sz l=>simp only [uO];rw [QT p l h]
 | _=>rfl
theorem bg (p:Nat→Nat) (r:aF) [h:jP r]:uO p r=r:=Ej p h.ok
theorem ak (n:Nat) (r:aF) [h:jP r]:jh n r=true:=yQ n r h.ok
def pm (l:List (Nat × Nat)) (i:Nat):Nat:=match lk l i with|some j=>j|none=>i
def qL (p:Nat→Nat) (s:S) (N:Nat):List (Nat × AV)→Prop
 | []=>True
 |(r,v)::l=>(s.get r=ren p v∧Fv.below N v=true)∧qL p s N l
def bU (p:Nat→Nat) (rows:List (Nat × Item)) (N:Nat):List (Nat × Item)→Prop
 | []=>True
 |(i,it)::l=>(i<N∧lk rows (p i)=some (it.ren p)∧it.below N=true∧∀ x,x∈l→x.1=i∨p x.1≠p i)∧bU p rows N l
theorem dM {α:Type}:∀ {l:List (Nat × α)} {i:Nat} {v:α},lk l i=some v→(i,v)∈l
 |(j,x)::l,i,v,h=>by
  simp only [lk] at h
  split at h
  ·rename_i e;subst e;cases h;exact .head _
  ·exact .tail _ (dM h)
theorem xB {p:Nat→Nat} {s:S} {N:Nat}:∀ {l:List (Nat × AV)},qL p s N l→∀ r v,(r,v)∈l→s.get r=ren p v∧Fv.below N v=true
 |(q,y)::l,h,r,v,hm=>by
  cases List.mem_cons.1 hm with
  | inl e=>cases e;exact h.1
  | inr e=>exact xB h.2 r v e
theorem dU {p:Nat→Nat} {rows:List (Nat × Item)} {N:Nat}:∀ {l:List (Nat × Item)},bU p rows N l→∀ i it,(i,it)∈l→i<N∧lk rows (p i)=some (it.ren p)∧it.below N=true
 |(q,y)::l,h,i,it,hm=>by
  cases List.mem_cons.1 hm with
  | inl e=>cases e;exact ⟨h.1.1,h.1.2.1,h.1.2.2.1⟩
  | inr e=>exact dU h.2 i it e
theorem sK {p:Nat→Nat} {rows:List (Nat × Item)} {N:Nat}:∀ {l:List (Nat × Item)},bU p rows N l→∀ i j it jt,(i,it)∈l→(j,jt)∈l→p i=p j→i=j
 |(q,y)::l,h,i,j,it,jt,hi,hj,e=>by
  cases List.mem_cons.1 hi with
  | inl e1=>
   cases e1
   cases List.mem_cons.1 hj with
   | inl e2=>cases e2;rfl
   | inr e2=>cases h.1.2.2.2 _ e2 with
    | inl e3=>exact e3.symm
    | inr e3=>exact absurd e.symm e3
  | inr e1=>
   cases List.mem_cons.1 hj with
   | inl e2=>
    cases e2
    cases h.1.2.2.2 _ e1 with
    | inl e3=>exact e3
    | inr e3=>exact absurd e e3
   | inr e2=>exact sK h.2 i j it jt e1 e2 e
theorem bD.ren {p:Nat→Nat} {c c':Ctx} (h:kK p c c') (hw:c'.w.heap=c.w.heap) {O:Nat→Prop} {v:Value} {it:Item} (hb:it.below c'.N=true) (hi:bD c O v (it.ren p)):bD c' O v it:=by
 have hh:∀ b:Nat,c'.w.heap[b]?=c.w.heap[b]?:=fun b=>by rw [hw]
 cases it with
 | row e r=>
  obtain ⟨n,cells,hr,hn,ho,hO⟩:=hi
  have h1:(uO p r).len=r.len:=by cases r<;>simp [uO,aF.len]
  have h2:(uO p r).sz=r.sz:=by cases r<;>rfl
  rw [h1] at hn;rw [h2] at ho
  exact ⟨n,cells,bP.ren h r hb hr,hn,qh ho fun g _=>hh g,hO⟩
 | box e cs=>
  obtain ⟨g,vs,rfl,hg,hl,he⟩:=hi
  exact ⟨g,vs,rfl,hg,cO.ren h cs hb hl,by rw [hh g];exact he⟩
 | map ks vs=>
  simp only [Item.below,Bool.and_eq_true] at hb
  obtain ⟨g,es,clock,rfl,hg,h1,h2,h3,h4,he⟩:=hi
  exact ⟨g,es,clock,rfl,hg,dH.ren h ks hb.1 h1,dH.ren h vs hb.2 h2,h3,h4,by rw [hh g];exact he⟩
 | iter mp since seen=>
  obtain ⟨g,q,sn,last,rfl,hg,h1,h2,h3,h4,he⟩:=hi
  have hlt:mp<c'.N:=by simpa [Item.below] using hb
  exact ⟨g,q,sn,last,rfl,hg,hlt,by rw [h.m mp hlt];exact h2,h3,h4,by rw [hh g];exact he⟩
 | siter t pos=>
  obtain ⟨g,rfl,hg,he⟩:=hi
  exact ⟨g,rfl,hg,by rw [hh g];exact he⟩
mutual
theorem gQ {p:Nat→Nat} {b0:Nat} (hp:∀ i,i<b0→p i=i):∀ x:AV,Fv.below b0 x=true→ren p x=x
 | .own i,h=>by simp only [ren];rw [hp i (by simpa [Fv.below] using h)]
 | .ptr i o,h=>by simp only [ren];rw [hp i (by simpa [Fv.below] using h)]
 | .elt i a b c,h=>by simp only [ren];rw [hp i (by simpa [Fv.below] using h)]
 | .pre i k,h=>by simp only [ren];rw [hp i (by simpa [Fv.below] using h)]
 | .suf i a b k,h=>by simp only [ren];rw [hp i (by simpa [Fv.below] using h)]
 | .agg cs,h=>by simp only [ren];rw [kC hp cs (by simpa [Fv.below] using h)]
 | .tup cs,h=>by simp only [ren];rw [kC hp cs (by simpa [Fv.below] using h)]
 | .fn f cs,h=>by simp only [ren];rw [kC hp cs (by simpa [Fv.below] using h)]
 | .cell cs,_=>rfl
 | .dead,_=>rfl
 | .nilS,_=>rfl
 | .bool _,_=>rfl
 | .int _ _,_=>rfl
 | .str _,_=>rfl
 | .ro _,_=>rfl
 | .raw _,_=>rfl
 | .opt b v,h=>by simp only [ren];rw [gQ hp v (by simpa [Fv.below] using h)]
 | .ifc b v,h=>by simp only [ren];rw [gQ hp v (by simpa [Fv.below] using h)]
 | .bm b v,h=>by simp only [ren];rw [gQ hp v (by simpa [Fv.below] using h)]
 | .mp _ _,_=>rfl
theorem kC {p:Nat→Nat} {b0:Nat} (hp:∀ i,i<b0→p i=i):∀ x:List AV,aQ b0 x=true→bZ p x=x
 | [],_=>rfl
 | x::l,h=>by
  simp only [aQ,Bool.and_eq_true] at h
  simp only [bZ];rw [gQ hp x h.1,kC hp l h.2]
end
theorem Rz {p:Nat→Nat} {b0:Nat} (hp:∀ i,i<b0→p i=i) (r:aF) (h:jh b0 r=true):uO p r=r:=by
 cases r with
 | objs sz l=>
  simp only [jh,List.all_eq_true] at h
  simp only [uO]
  congr 1
  conv=>rhs;rw [←List.map_id l]
  exact List.map_congr_left fun x hx=>kC hp x (h x hx)
 | _=>rfl
theorem Item.gQ {p:Nat→Nat} {b0:Nat} (hp:∀ i,i<b0→p i=i) (it:Item) (h:it.below b0=true):it.ren p=it:=by
 cases it with
 | row e r=>simp only [Item.ren];rw [Rz hp r h]
 | box e cs=>simp only [Item.ren];rw [kC hp cs h]
 | map ks vs=>
  simp only [Item.below,Bool.and_eq_true] at h
  simp only [Item.ren];rw [kC hp ks h.1,kC hp vs h.2]
 | iter mp since seen=>simp only [Item.ren];rw [hp mp (by simpa [Item.below] using h)]
 | siter t pos=>rfl
theorem bD.ids {c:Ctx} {O:Nat→Prop} {v:Value} {it:Item} (h:bD c O v it):it.below c.N=true:=by
 cases it with
 | row e r=>obtain ⟨n,cells,hr,_⟩:=h;exact hr.ids
 | box e cs=>obtain ⟨g,vs,_,_,hl,_⟩:=h;exact hl.ids
 | map ks vs=>obtain ⟨g,es,clock,_,_,h1,h2,_⟩:=h;simp [Item.below,h1.ids,h2.ids]
 | iter mp since seen=>obtain ⟨g,q,sn,last,_,_,h1,_⟩:=h;simpa [Item.below] using h1
 | siter t pos=>rfl
theorem Rv.cut {w:World} {A:Nat→Prop} {m:Nat→Value} {No N:Nat} {x:AV} {u:Value} (hx:Rv ⟨w,A,m,No⟩ x u) (hb:Fv.below N x=true):Rv ⟨w,A,m,N⟩ x u:=by
 refine Rv.ren (p:=id) (c:=⟨w,A,m,No⟩) (c':=⟨w,A,m,N⟩) ⟨fun _ _=>rfl,fun b hb _=>⟨hb,rfl⟩⟩ x hb ?_
 rw [gQ (p:=id) (fun _ _=>rfl) x hx.ids];exact hx
theorem bD.cut {w:World} {A:Nat→Prop} {m:Nat→Value} {No N:Nat} {O:Nat→Prop} {v:Value} {it:Item} (hx:bD ⟨w,A,m,No⟩ O v it) (hb:it.below N=true):bD ⟨w,A,m,N⟩ O v it:=by
 refine bD.ren (p:=id) (c:=⟨w,A,m,No⟩) (c':=⟨w,A,m,N⟩) ⟨fun _ _=>rfl,fun b hb _=>⟨hb,rfl⟩⟩ rfl hb ?_
 rw [Item.gQ (p:=id) (fun _ _=>rfl) it hx.ids];exact hx
section
variable {P:Program} {w0:World} {T0:Bs} {b0:Nat}
theorem aS.of (l:List (Nat × Nat)) {s s':S} (hn:s'.n=s.n) (hb:b0≤s'.next) (hl:∀ x,x∈l→b0≤x.1) (he:qL (pm l) s s'.next s'.env) (hr:bU (pm l) s.rows s'.next s'.rows):aS w0 T0 b0 s s':=by
 rintro H a w hH ⟨m,hm⟩
 have hlow:∀ i,i<b0→pm l i=i:=by
  intro i hi
  unfold pm
  cases h:lk l i with
  | none=>rfl
  | some j=>have:=hl _ (dM h);simp at this;omega
 have hren:kK (pm l) (aA T0 w0.heap.size m s w) (aA T0 w0.heap.size (fun i=>m (pm l i)) s' w):=
  {m:=fun _ _=>rfl,
   t:=by
    intro b ⟨h1,h2⟩ _
    refine ⟨⟨h1,fun i it hi e=>?_⟩,rfl⟩
    obtain ⟨_,h3,_⟩:=dU hr i it (dM hi)
    exact h2 _ _ h3 e }
 refine ⟨fun i=>m (pm l i),{ size:=by rw [hn];exact hm.size,nodef:=hm.nodef,below:=hm.below,env:=?_,held:=?_,rows:=?_,sep:=?_ }⟩
 ·intro r v hv
  obtain ⟨h1,h2⟩:=xB he r v (dM hv)
  refine Rv.ren hren v h2 ?_
  have:Rv (aA T0 w0.heap.size m s w) (s.get r) (a.tmps.getD r undef):=by
   simp only [S.get]
   cases hq:lk s.env r with
   | none=>exact .dead _
   | some y=>exact hm.env r y hq
  rw [←h1];exact this
 ·intro q hq
  have h1:=hH q hq
  refine Rv.ren hren q.1 (below_le hb _ h1) ?_
  rw [gQ hlow _ h1];exact hm.held q hq
 ·intro i it hi
  obtain ⟨h1,h2,h3⟩:=dU hr i it (dM hi)
  exact ⟨h1,bD.ren hren rfl h3 (hm.rows _ _ h2).2⟩
 ·intro i j it jt b hi hj hbi hbj
  obtain ⟨_,h2,_⟩:=dU hr i it (dM hi)
  obtain ⟨_,h2',_⟩:=dU hr j jt (dM hj)
  exact sK hr i j it jt (dM hi) (dM hj) (hm.sep _ _ _ _ b h2 h2' hbi hbj)
theorem aS.refl (s:S):aS w0 T0 b0 s s:=fun _ _ _ _ h=>h
theorem aS.trans {s s' s'':S} (h:aS w0 T0 b0 s s') (h':aS w0 T0 b0 s' s''):aS w0 T0 b0 s s'':=fun H a w hH hr=>h' H a w hH (h H a w hH hr)
/-! ### What a function hands back -/
def qE (T:Nat→Prop) (B:Nat) (w:World) (out:AV) (rows:List (Nat × Item)) (v:Value):Prop:=
 ∃ (m:Nat→Value) (N:Nat),Rv ⟨w,allow (bs T) B m rows,m,N⟩ out v ∧
  (∀ i it,lk rows i=some it→i<N∧bD ⟨w,allow (bs T) B m rows,m,N⟩ (B≤·) (m i) it) ∧
  (∀ i j it jt b,lk rows i=some it→lk rows j=some jt→blk (m i)=some b→blk (m j)=some b→i=j)
def Vu (T0:Bs) (B:Nat) (w:World) (out:AV) (rows:List (Nat × Item)) (v:Value):Prop:=
 ∃ (m:Nat→Value) (N:Nat),Rv ⟨w,allow T0 B m rows,m,N⟩ out v ∧
  (∀ i it,lk rows i=some it→i<N∧bD ⟨w,allow T0 B m rows,m,N⟩ (ownB T0 B) (m i) it) ∧
  (∀ i j it jt b,lk rows i=some it→lk rows j=some jt→blk (m i)=some b→blk (m j)=some b→i=j)
theorem bD.own {c:Ctx} {O O':Nat→Prop} (h:∀ b,O b→O' b) {v:Value} {it:Item} (hi:bD c O v it):bD c O' v it:=by
 cases it with
 | row e r=>obtain ⟨n,cells,hr,hn,ho,hO⟩:=hi;exact ⟨n,cells,hr,hn,ho,fun b hb=>h b (hO b hb)⟩
 | box e cs=>obtain ⟨g,vs,rfl,hg,hl,he⟩:=hi;exact ⟨g,vs,rfl,h g hg,hl,he⟩
 | map ks vs=>obtain ⟨g,es,clock,rfl,hg,r⟩:=hi;exact ⟨g,es,clock,rfl,h g hg,r⟩
 | iter mp since seen=>obtain ⟨g,q,sn,last,rfl,hg,r⟩:=hi;exact ⟨g,q,sn,last,rfl,h g hg,r⟩
 | siter t pos=>obtain ⟨g,rfl,hg,r⟩:=hi;exact ⟨g,rfl,h g hg,r⟩
theorem bD.VD {c:Ctx} {O O':Nat→Prop} {v:Value} {it:Item} (hi:bD c O v it) (h:∀ b,Fv.blk v=some b→O' b):bD c O' v it:=by
 cases it with
 | row e r=>obtain ⟨n,cells,hr,hn,ho,hO⟩:=hi;exact ⟨n,cells,hr,hn,ho,h⟩
 | box e cs=>obtain ⟨g,vs,rfl,hg,hl,he⟩:=hi;exact ⟨g,vs,rfl,h g rfl,hl,he⟩
 | map ks vs=>obtain ⟨g,es,clock,rfl,hg,r⟩:=hi;exact ⟨g,es,clock,rfl,h g rfl,r⟩
 | iter mp since seen=>obtain ⟨g,q,sn,last,rfl,hg,r⟩:=hi;exact ⟨g,q,sn,last,rfl,h g rfl,r⟩
 | siter t pos=>obtain ⟨g,rfl,hg,r⟩:=hi;exact ⟨g,rfl,h g rfl,r⟩
theorem Nk {α:Type}:∀ {l:List (Nat × α)} {q:Nat × α},q∈l→∃ v,lk l q.1=some v
 |(j,x)::l,q,h=>by
  by_cases e:j=q.1
  ·exact ⟨x,by simp [lk,e]⟩
  ·cases List.mem_cons.1 h with
   | inl h=>subst h;exact absurd rfl e
   | inr h=>obtain ⟨v,hv⟩:=Nk h;exact ⟨v,by simp [lk,e,hv]⟩
theorem Vu.out {T:Nat→Prop} {B:Nat} {w:World} {out:AV} {rows:List (Nat × Item)} {v:Value} (h:Vu (bs T) B w out rows v):qE T B w out rows v:=by
 obtain ⟨m,N,h1,h2,h3⟩:=h
 exact ⟨m,N,h1,fun i it hi=>⟨(h2 i it hi).1,((h2 i it hi).2).own fun b hb=>hb.resolve_right fun x=>x.1⟩,h3⟩
def aU (P:Program) (f:Nat) (args:List AV) (out:AV) (rows:List (Nat × Item)):Prop:=
 Enter P f∧∀ (w:World) (T:Nat→Prop) (vals:List Value),kX P w→dH ⟨w,T,fun _=>undef,0⟩ args vals →
  Calls P f vals.toArray w fun e w'=>∃ v,e=.returned v∧oZ w.heap.size w w'∧qE T w.heap.size w' out rows v
def aK:Nat→List AV→List (Nat × AV)
 | _,[]=>[]
 | k,x::l=>(k,x)::aK (k+1) l
def RF (P:Program) (s:S) (K:AV→Prop):ResultVar→Prop
 | .tmp t=>K (s.ev (.tmp t))
 | .cell t ty=>match s.get t with
  | .ptr i off=>match lk s.rows i with
   | some (.box _ cs)=>gK P ty (cs.drop off) K
   | _=>False
  | _=>False
def xW (P:Program) (s:S):List ResultVar→(List AV→Prop)→Prop
 | [],K=>K []
 | x::l,K=>RF P s (fun v=>xW P s l (fun vs=>K (v::vs))) x
def kW:List AV→AV
 | [x]=>x
 | l=>.tup l
def eP (P:Program) (w0:World) (T0:Bs) (res:List ResultVar) (out:AV) (rows:List (Nat × Item)) (s:S):Prop:=
 ∀ (a:Act) (w:World),Rep w0 T0 [] s a w→∃ v,(∀ (fn:Func),fn.results=res.toArray→(results fn a.tmps).run P w=.ok v w)∧Vu T0 w0.heap.size w out rows v
def Post (P:Program) (w0:World) (T0:Bs) (res:List ResultVar) (out:AV) (rows:List (Nat × Item)):Exit→S→Prop
 | .normal,s=>eP P w0 T0 res out rows s
 | .ret,s=>eP P w0 T0 res out rows s
 | _,_=>False
@[congr] theorem Wu {P:Program} {res:List ResultVar} {out:AV} {rows:List (Nat × Item)} {s s':S} (h:s=s'):eP P w0 T0 res out rows s=eP P w0 T0 res out rows s':=by rw [h]
def O6 (tmps:Array Value):ResultVar→Sem Value
 | .tmp t=>pure (tmps.getD t undef)
 | .cell a t=>do loadVar t (←asAddr (tmps.getD a undef))
theorem rF {P:Program} {H:List (AV × Value)} {s:S} {a:Act} {w:World} {m:Nat→Value} (hm:bC w0 T0 H s a w m):∀ {res:List ResultVar} {K:List AV→Prop},xW P s res K →
  ∃ l vs,K l∧(res.mapM (O6 a.tmps)).run P w=.ok vs w∧dH (aA T0 w0.heap.size m s w) l vs
 | [],K,h=>⟨[],[],h,rfl,.nil⟩
 | x::res,K,h=>by
  have key:∃ v u,xW P s res (fun vs=>K (v::vs))∧(O6 a.tmps x).run P w=.ok u w∧Rv (aA T0 w0.heap.size m s w) v u:=by
   unfold xW at h
   cases x with
   | tmp t=>exact ⟨_,_,h,rfl,hm.ev (.tmp t) trivial⟩
   | cell t ty=>
    simp only [RF] at h
    split at h
    ·rename_i i off hg
     have hl:lk s.env t=some (.ptr i off):=by
      simp only [S.get] at hg
      cases hl:lk s.env t with
      | none=>rw [hl] at hg;cases hg
      | some y=>rw [hl] at hg;exact congrArg some hg
     have hp:=hm.env t _ hl
     split at h
     ·rename_i e cs hi
      generalize hvt:a.tmps.getD t undef=vt at hp
      cases hp with
      | ptr _ _ g _ hg=>
       obtain ⟨g',vs,hv,_,hl,hh⟩:=(hm.rows i _ hi).2
       have hmi:blk (m i)=some g:=hg
       rw [hv] at hmi;cases hmi
       obtain ⟨r,v,hk,hr,hrv⟩:=nR (c:=aA T0 w0.heap.size m s w) (a:=⟨g',off,none⟩) h (hl.drop off) fun j u hu=>by
        rw [Addr.add_lit]
        rw [List.getElem?_drop] at hu
        have:=cell_of_row w g' (off+j) vs.toArray e (0,0) hh
        show w.cell? _=_
        rw [this];simpa using hu
       refine ⟨r,v,hk,?_,hrv⟩
       have hr':(loadVar ty ⟨g',off,none⟩).run P w=.ok v w:=hr
       simp [O6,hvt,asAddr,hr']
     ·exact h.elim
    ·exact h.elim
  obtain ⟨v,u,hk,hr,hv⟩:=key
  obtain ⟨l,vs,hk',hr',hvs⟩:=rF hm hk
  refine ⟨v::l,u::vs,hk',?_,.cons _ _ _ _ hv hvs⟩
  rw [List.mapM_cons]
  simp [Sem.run_bind,hr,hr',Result.andThen]
def LD:List Value→Value
 | [v]=>v
 | l=>.tuple l.toArray
theorem KZ (fn:Func) (tmps:Array Value):results fn tmps=(fn.results.mapM (O6 tmps) >>= fun vs=>pure (if h:vs.size=1 then vs[0] else .tuple vs)):=by
 unfold results
 congr 1
theorem lG {P:Program} {fn:Func} {res:List ResultVar} (h:fn.results=res.toArray) (tmps:Array Value) {w:World} {vs:List Value} (hr:(res.mapM (O6 tmps)).run P w=.ok vs w) :
  (results fn tmps).run P w=.ok (LD vs) w:=by
 rw [KZ,h]
 have e2:=List.mapM_toArray (f:=O6 tmps) (l:=res)
 rw [e2]
 simp only [Sem.run_bind,Sem.run_map,hr,Result.andThen]
 match vs with
 | []=>rfl
 | [v]=>rfl
 | v::v'::l=>simp [LD]
theorem eP.of {P:Program} (l:List (Nat × Nat)) (N:Nat) {res:List ResultVar} {out:AV} {rows:List (Nat × Item)} {s:S} (h:xW P s res (fun vs=>kW vs=ren (pm l) out)) (hb:Fv.below N out=true) (hr:bU (pm l) s.rows N rows):eP P w0 T0 res out rows s:=by
 rintro a w ⟨m,hm⟩
 obtain ⟨vs,us,he,hrun,hvs⟩:=rF hm h
 have hrv:Rv (aA T0 w0.heap.size m s w) (kW vs) (LD us):=by
  cases hvs with
  | nil=>exact .tup _ _ .nil
  | cons x v l us hx ht=>
   cases ht with
   | nil=>exact hx
   | cons x' v' l' us' hx' ht'=>exact .tup _ _ (.cons _ _ _ _ hx (.cons _ _ _ _ hx' ht'))
 have hren:kK (pm l) (aA T0 w0.heap.size m s w) ⟨w,allow T0 w0.heap.size (fun i=>m (pm l i)) rows,fun i=>m (pm l i),N⟩:=
  {m:=fun _ _=>rfl,
   t:=by
    intro b ⟨h1,h2⟩ _
    refine ⟨⟨h1,fun i it hi e=>?_⟩,rfl⟩
    obtain ⟨_,h3,_⟩:=dU hr i it (dM hi)
    exact h2 _ _ h3 e }
 refine ⟨_,fun fn hf=>lG hf a.tmps hrun,fun i=>m (pm l i),N,Rv.ren hren out hb (by rw [←he];exact hrv),fun i it hi=>?_,fun i j it jt b hi hj hbi hbj=>?_⟩
 ·obtain ⟨h1,h2,h3⟩:=dU hr i it (dM hi)
  exact ⟨h1,bD.ren hren rfl h3 (hm.rows _ _ h2).2⟩
 ·obtain ⟨_,h2,_⟩:=dU hr i it (dM hi)
  obtain ⟨_,h2',_⟩:=dU hr j jt (dM hj)
  exact sK hr i j it jt (dM hi) (dM hj) (hm.sep _ _ _ _ b h2 h2' hbi hbj)
theorem rX {c:Ctx}:∀ {args:List AV} {vals:List Value} (k:Nat) (pre:List Value),pre.length=k→dH c args vals→∀ r v,lk (aK k args) r=some v→∃ u,(pre++vals)[r]?=some u∧Rv c v u
 | _,_,k,pre,hk,.nil,r,v,h=>by simp [aK,lk] at h
 | _,_,k,pre,hk,.cons x u l vs hx ht,r,v,h=>by
  simp only [aK,lk] at h
  split at h
  ·rename_i e;subst e;cases h
   exact ⟨u,by rw [List.getElem?_append_right (by omega)];simp [hk],hx⟩
  ·obtain ⟨u',h1,h2⟩:=rX (k+1) (pre++[u]) (by simp [hk]) ht r v h
   exact ⟨u',by simpa using h1,h2⟩
theorem aU.of_run {f:Nat} {fn:Func} {c:Code} {args:List AV} {out:AV} {rows:List (Nat × Item)} (hf:P.funcs[f]?=some fn) (hb:fn.body=some c)
  (hnm:(fn.name == "runtime.NumGoroutine")=false) (hn:args.length≤fn.ntmps) (res:List ResultVar) (hres:fn.results=res.toArray)
  (h:∀ (w0:World) (T0:Bs) [qB P w0 T0],kR P w0 T0 0 c ⟨fn.ntmps,aK 0 args,[],0⟩ (Post P w0 T0 res out rows)):aU P f args out rows:=by
 refine ⟨⟨fn,hf,by rw [hb];rfl,hnm⟩,fun w T vals hgl hv=>?_⟩
 haveI:qB P w (bs T):=⟨hgl,fun _ _ _ h=>h.1⟩
 refine calls_of_wp hf hb ?_
 have hlen:=hv.length
 have hle:dK (⟨w,T,fun _=>undef,0⟩:Ctx) (aA (bs T) w.heap.size (fun _=>undef) ⟨fn.ntmps,aK 0 args,[],0⟩ w):=
  ⟨Nat.le_refl _,fun _ _=>rfl,fun b hb _=>⟨⟨.inr hb,fun i it hi=>by simp [lk] at hi⟩,rfl⟩⟩
 have hrep:bC w (bs T) [] ⟨fn.ntmps,aK 0 args,[],0⟩ { tmps:=vals.toArray++Array.replicate (fn.ntmps - vals.toArray.size) undef,defers:=[] } w (fun _=>undef):=
  {size:=by simp;omega,nodef:=rfl,below:=bK.refl _ _,
   env:=by
    intro r v hr
    obtain ⟨u,h1,h2⟩:=rX 0 [] rfl hv r v hr
    have e:((vals.toArray++Array.replicate (fn.ntmps - vals.toArray.size) undef).getD r undef)=u:=by
     have h1':vals[r]?=some u:=by simpa using h1
     have hlt:r<vals.length:=(List.getElem?_eq_some_iff.1 h1').1
     rw [Array.getD_eq_getD_getElem?,Array.getElem?_append_left (by simpa using hlt)]
     simp [h1']
    rw [e];exact h2.mono hle,
   held:=fun p hp=>absurd hp (by simp),rows:=fun i it hi=>absurd hi (by simp [lk]),sep:=fun i j it jt b hi=>absurd hi (by simp [lk]) }
 refine wp_mono (h w (bs T) [] _ w (fun p hp=>absurd hp (by simp)) ⟨_,hrep⟩) ?_
 rintro e a w' ⟨s',hq,hr⟩
 have fin:eP P w (bs T) res out rows s'→a.defers=[]∧∃ v,(results fn a.tmps).run P w'=.ok v w'∧∃ v',Ending.returned v=.returned v'∧oZ w.heap.size w w'∧qE T w.heap.size w' out rows v':=by
  intro hret
  obtain ⟨v,hv,hout⟩:=hret a w' hr
  obtain ⟨m,hm⟩:=hr
  exact ⟨hm.nodef,v,hv fn hres,v,rfl,(hm.below.mono fun b hb=>hb.1).below,hout.out⟩
 cases e with
 | normal=>exact fin hq
 | ret=>exact fin hq
 | _=>exact hq.elim
theorem aU.aY {f:Nat} {fn:Func} {c:Code} {args:List AV} {out:AV} {rows:List (Nat × Item)} (hf:P.funcs[f]?=some fn) (hb:fn.body=some c)
  (hnm:(fn.name == "runtime.NumGoroutine")=false) (hn:args.length≤fn.ntmps) (res:List ResultVar) (hres:fn.results=res.toArray)
  (h:∀ (w0:World) (T0:Bs) [qB P w0 T0],iI P w0 T0 0 c (Post P w0 T0 res out rows) ⟨fn.ntmps,aK 0 args,[],0⟩):aU P f args out rows:=
 .of_run hf hb hnm hn res hres fun w0 T0=>.of (h w0 T0)
end
end Go.Fv
