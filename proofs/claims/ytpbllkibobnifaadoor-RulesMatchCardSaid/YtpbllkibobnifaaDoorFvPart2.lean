/-
  A part of the proof of the claim: walks over the program's functions and the plain laws that these need. No condition of its own.
-/
import Derived.Test.YtpbllkibobnifaaDoorFvPart1
set_option linter.unusedSectionVars false
set_option linter.unusedVariables false
set_option linter.unusedSimpArgs false
set_option linter.unnecessarySimpa false
/-
 How a state goes on when memory is made or written.
-/
namespace Go.Fv
open Go.RowKit
theorem mD {α:Type} (l:List (Nat × α)) (i j:Nat):lk (del l i) j=if j=i then none else lk l j:=by
 induction l with
 | nil=>simp [del,lk]
 | cons p l ih=>
  obtain ⟨k,v⟩:=p
  by_cases h:k=i
  ·subst h
   simp only [del,if_pos,ih,lk]
   by_cases hj:j=k
   ·simp [hj]
   ·rw [if_neg hj,if_neg hj,if_neg (fun e=>hj e.symm)]
  ·simp only [del,if_neg h,lk,ih]
   by_cases hk:k=j
   ·subst hk;simp [h]
   ·simp [hk]
theorem xO {α:Type} (l:List (Nat × α)) (i j:Nat) (x:α):lk (put l i x) j=if j=i then (lk l i).map (fun _=>x) else lk l j:=by
 induction l with
 | nil=>simp [put,lk]
 | cons p l ih=>
  obtain ⟨k,v⟩:=p
  by_cases h:k=i
  ·subst h
   simp only [put,if_pos,lk]
   by_cases hj:j=k
   ·subst hj;simp
   ·rw [if_neg (fun e=>hj e.symm),ih,if_neg hj,if_neg hj,if_neg (fun e=>hj e.symm)]
  ·simp only [put,if_neg h,lk,ih]
   by_cases hk:k=j
   ·subst hk;simp [h]
   ·simp [hk]
def upd (m:Nat→Value) (k:Nat) (v:Value):Nat→Value:=fun i=>if i=k then v else m i
theorem upd_same (m:Nat→Value) (k:Nat) (v:Value):upd m k v k=v:=if_pos rfl
theorem EC {m:Nat→Value} {k i:Nat} {v:Value} (h:i≠k):upd m k v i=m i:=if_neg h
theorem qh {w w':World} {e:TypeId} {size:Nat} {v:Value} {n:Nat} {xs:List Value} (h:rD w e size v n xs)
  (hb:∀ g,blk v=some g→w'.heap[g]?=w.heap[g]?):rD w' e size v n xs:=by
 refine ⟨h.1,?_⟩
 rcases h.2 with hn|⟨g,cap,cur,fz,rfl,hbg,hgg,rest⟩
 ·exact .inl hn
 ·exact .inr ⟨g,cap,cur,fz,rfl,hbg,by rw [hb g rfl];exact hgg,rest⟩
theorem IV {w:World} {e:TypeId} {size:Nat} {v:Value} {n:Nat} {xs:List Value} (h:rD w e size v n xs):∀ b,blk v=some b→b<w.heap.size:=by
 intro b hb
 rcases h.2 with ⟨rfl,_⟩|⟨g,cap,cur,fz,rfl,hbg,hgg,_⟩
 ·cases hb
 ·cases hb
  exact (Array.getElem?_eq_some_iff.1 hgg).1
theorem bD.blk {c:Ctx} {O:Nat→Prop} {v:Value} {it:Item} (h:bD c O v it):∀ b,blk v=some b→O b∧b<c.w.heap.size:=by
 cases it with
 | row e r=>obtain ⟨n,cells,_,_,ho,hO⟩:=h;exact fun b hb=>⟨hO b hb,IV ho b hb⟩
 | box e cs=>
  obtain ⟨g,vs,rfl,hg,_,hh⟩:=h
  intro b hb;cases hb
  exact ⟨hg,(Array.getElem?_eq_some_iff.1 hh).1⟩
 | map ks vs=>
  obtain ⟨g,es,clock,rfl,hg,_,_,_,_,hh⟩:=h
  intro b hb;cases hb
  exact ⟨hg,(Array.getElem?_eq_some_iff.1 hh).1⟩
 | iter mp since seen=>
  obtain ⟨g,q,sn,last,rfl,hg,_,_,_,_,hh⟩:=h
  intro b hb;cases hb
  exact ⟨hg,(Array.getElem?_eq_some_iff.1 hh).1⟩
 | siter t pos=>
  obtain ⟨g,rfl,hg,hh⟩:=h
  intro b hb;cases hb
  exact ⟨hg,(Array.getElem?_eq_some_iff.1 hh).1⟩
theorem bD.mono {c c':Ctx} (h:dK c c') {O:Nat→Prop} {v:Value} {it:Item} (hb:∀ b,Fv.blk v=some b→c'.w.heap[b]?=c.w.heap[b]?) (hi:bD c O v it):bD c' O v it:=by
 cases it with
 | row e r=>obtain ⟨n,cells,hr,hn,ho,hO⟩:=hi;exact ⟨n,cells,hr.mono h,hn,qh ho hb,hO⟩
 | box e cs=>obtain ⟨g,vs,rfl,hg,hl,hh⟩:=hi;exact ⟨g,vs,rfl,hg,hl.mono h,by rw [hb g rfl];exact hh⟩
 | map ks vs=>obtain ⟨g,es,clock,rfl,hg,h1,h2,h3,h4,hh⟩:=hi;exact ⟨g,es,clock,rfl,hg,h1.mono h,h2.mono h,h3,h4,by rw [hb g rfl];exact hh⟩
 | iter mp since seen=>obtain ⟨g,q,sn,last,rfl,hg,h1,h2,h3,h4,hh⟩:=hi;exact ⟨g,q,sn,last,rfl,hg,Nat.lt_of_lt_of_le h1 h.n,by rw [h.m mp h1];exact h2,h3,h4,by rw [hb g rfl];exact hh⟩
 | siter t pos=>obtain ⟨g,rfl,hg,hh⟩:=hi;exact ⟨g,rfl,hg,by rw [hb g rfl];exact hh⟩
section
variable {w0 w:World} {T0:Bs} {H:List (AV × Value)} {s:S} {a:Act} {m:Nat→Value}
theorem ji {s':S} {w':World} {m':Nat→Value} {B:Nat} (hN:s.next≤s'.next) (hm:∀ i,i<s.next→m' i=m i)
  (hheap:∀ b,b<w.heap.size→(∀ i it,lk s.rows i=some it→blk (m i)≠some b)→w'.heap[b]?=w.heap[b]?)
  (hown:∀ i it b,lk s'.rows i=some it→blk (m' i)=some b→b<w.heap.size→∃ j jt,lk s.rows j=some jt∧blk (m j)=some b) :
  dK (aA T0 B m s w) (aA T0 B m' s' w'):=
 {n:=hN,m:=hm,
  t:=by
   intro b ⟨h1,h2⟩ hb
   refine ⟨⟨h1,fun i it hi e=>?_⟩,hheap b hb h2⟩
   obtain ⟨j,jt,hj,hjb⟩:=hown i it b hi e hb
   exact h2 j jt hj hjb }
theorem bC.xE (h:bC w0 T0 H s a w m) {s':S} {w':World} {m':Nat→Value} (hn:s'.n=s.n) (henv:s'.env=s.env)
  (hle:dK (aA T0 w0.heap.size m s w) (aA T0 w0.heap.size m' s' w')) (hb:bK (fun b=>T0.g b∧T0.a b) w0 w')
  (hrows:∀ i it,lk s'.rows i=some it→i<s'.next∧bD (aA T0 w0.heap.size m' s' w') (ownB T0 w0.heap.size) (m' i) it)
  (hsep:∀ i j it jt b,lk s'.rows i=some it→lk s'.rows j=some jt→blk (m' i)=some b→blk (m' j)=some b→i=j) :
  bC w0 T0 H s' a w' m':=
 {size:=by rw [hn];exact h.size,nodef:=h.nodef,below:=hb,
  env:=fun r v hv=>(h.env r v (by rw [←henv];exact hv)).mono hle,
  held:=fun p hp=>(h.held p hp).mono hle,rows:=hrows,sep:=hsep }
theorem bC.lt (h:bC w0 T0 H s a w m):w0.heap.size≤w.heap.size:=h.below.size
theorem bC.new (h:bC w0 T0 H s a w m) {w':World} (hb:bK (fun b=>T0.g b∧T0.a b) w0 w') (hheap:∀ b,b<w.heap.size→w'.heap[b]?=w.heap[b]?) (it:Item) (hdr:Value)
  (hblk:∀ b,blk hdr=some b→w.heap.size≤b)
  (hit:∀ c,dK (aA T0 w0.heap.size m s w) c→c.w=w'→bD c (ownB T0 w0.heap.size) hdr it) :
  bC w0 T0 H { s with rows:=(s.next,it)::s.rows,next:=s.next+1 } a w' (upd m s.next hdr):=by
 have hm:∀ i,i<s.next→upd m s.next hdr i=m i:=fun i hi=>EC (Nat.ne_of_lt hi)
 have hold:∀ i it',lk s.rows i=some it'→i<s.next:=fun i it' hi=>(h.rows i it' hi).1
 have hle:dK (aA T0 w0.heap.size m s w) (aA T0 w0.heap.size (upd m s.next hdr) { s with rows:=(s.next,it)::s.rows,next:=s.next+1 } w'):=by
  refine ji (Nat.le_succ _) hm (fun b hb _=>hheap b hb) ?_
  intro i it' b hi hbl hlt
  simp only [lk] at hi
  split at hi
  ·rename_i e;subst e
   rw [upd_same] at hbl
   have:=hblk b hbl;omega
  ·rw [hm i (hold i it' hi)] at hbl
   exact ⟨i,it',hi,hbl⟩
 refine h.xE rfl rfl hle hb ?_ ?_
 ·intro i it' hi
  simp only [lk] at hi
  split at hi
  ·rename_i e;subst e;cases hi
   rw [upd_same]
   exact ⟨Nat.lt_succ_self _,hit _ hle rfl⟩
  ·have hl:=hold i it' hi
   rw [hm i hl]
   exact ⟨Nat.lt_succ_of_lt hl,((h.rows i it' hi).2).mono hle fun b hb=>hheap b ((h.rows i it' hi).2.blk b hb).2⟩
 ·intro i j it' jt b hi hj hbi hbj
  simp only [lk] at hi hj
  split at hi<;>split at hj
  ·rename_i e1 e2;omega
  ·rename_i e1 _;subst e1
   rw [upd_same] at hbi
   rw [hm j (hold j jt hj)] at hbj
   have h1:=hblk b hbi
   have h2:b<w.heap.size:=((h.rows j jt hj).2.blk b hbj).2
   omega
  ·rename_i _ e2;subst e2
   rw [upd_same] at hbj
   rw [hm i (hold i it' hi)] at hbi
   have h1:=hblk b hbj
   have h2:b<w.heap.size:=((h.rows i it' hi).2.blk b hbi).2
   omega
  ·rw [hm i (hold i it' hi)] at hbi
   rw [hm j (hold j jt hj)] at hbj
   exact h.sep i j it' jt b hi hj hbi hbj
theorem bC.Uy (h:bC w0 T0 H s a w m) {w':World} (hb:bK (fun b=>T0.g b∧T0.a b) w0 w') {i0:Nat} {it0:Item} (hi0:lk s.rows i0=some it0)
  (hheap:∀ b,b<w.heap.size→blk (m i0)≠some b→w'.heap[b]?=w.heap[b]?) (it:Item) (hdr:Value)
  (hblk:∀ b,blk hdr=some b→b<w.heap.size→blk (m i0)=some b)
  (hit:∀ c,dK (aA T0 w0.heap.size m s w) c→c.w=w'→bD c (ownB T0 w0.heap.size) hdr it) :
  bC w0 T0 H { s with rows:=(s.next,it)::del s.rows i0,next:=s.next+1 } a w' (upd m s.next hdr):=by
 have hm:∀ i,i<s.next→upd m s.next hdr i=m i:=fun i hi=>EC (Nat.ne_of_lt hi)
 have hold:∀ i it',lk s.rows i=some it'→i<s.next:=fun i it' hi=>(h.rows i it' hi).1
 have hdel:∀ i it',lk (del s.rows i0) i=some it'→i≠i0∧lk s.rows i=some it':=by
  intro i it' hi
  rw [mD] at hi
  split at hi
  ·cases hi
  ·rename_i e;exact ⟨e,hi⟩
 have hle:dK (aA T0 w0.heap.size m s w) (aA T0 w0.heap.size (upd m s.next hdr) { s with rows:=(s.next,it)::del s.rows i0,next:=s.next+1 } w'):=by
  refine ji (Nat.le_succ _) hm (fun b hb hno=>hheap b hb (hno i0 it0 hi0)) ?_
  intro i it' b hi hbl hlt
  simp only [lk] at hi
  split at hi
  ·rename_i e;subst e
   rw [upd_same] at hbl
   exact ⟨i0,it0,hi0,hblk b hbl hlt⟩
  ·obtain ⟨_,hi⟩:=hdel i it' hi
   rw [hm i (hold i it' hi)] at hbl
   exact ⟨i,it',hi,hbl⟩
 refine h.xE rfl rfl hle hb ?_ ?_
 ·intro i it' hi
  simp only [lk] at hi
  split at hi
  ·rename_i e;subst e;cases hi
   rw [upd_same]
   exact ⟨Nat.lt_succ_self _,hit _ hle rfl⟩
  ·obtain ⟨hne,hi⟩:=hdel i it' hi
   have hl:=hold i it' hi
   rw [hm i hl]
   exact ⟨Nat.lt_succ_of_lt hl,((h.rows i it' hi).2).mono hle fun b hb=>hheap b ((h.rows i it' hi).2.blk b hb).2 fun e=>hne (h.sep i i0 it' it0 b hi hi0 hb e)⟩
 ·intro i j it' jt b hi hj hbi hbj
  simp only [lk] at hi hj
  split at hi<;>split at hj
  ·rename_i e1 e2;omega
  ·rename_i e1 _;subst e1
   obtain ⟨hne,hj⟩:=hdel j jt hj
   rw [upd_same] at hbi
   rw [hm j (hold j jt hj)] at hbj
   have h2:b<w.heap.size:=((h.rows j jt hj).2.blk b hbj).2
   exact absurd (h.sep j i0 jt it0 b hj hi0 hbj (hblk b hbi h2)) hne
  ·rename_i _ e2;subst e2
   obtain ⟨hne,hi⟩:=hdel i it' hi
   rw [upd_same] at hbj
   rw [hm i (hold i it' hi)] at hbi
   have h2:b<w.heap.size:=((h.rows i it' hi).2.blk b hbi).2
   exact absurd (h.sep i i0 it' it0 b hi hi0 hbi (hblk b hbj h2)) hne
  ·obtain ⟨_,hi⟩:=hdel i it' hi
   obtain ⟨_,hj⟩:=hdel j jt hj
   rw [hm i (hold i it' hi)] at hbi
   rw [hm j (hold j jt hj)] at hbj
   exact h.sep i j it' jt b hi hj hbi hbj
theorem bC.upd (h:bC w0 T0 H s a w m) {w':World} (hb:bK (fun b=>T0.g b∧T0.a b) w0 w') {i0:Nat} {it0:Item} (hi0:lk s.rows i0=some it0)
  (hheap:∀ b,b<w.heap.size→blk (m i0)≠some b→w'.heap[b]?=w.heap[b]?) (it:Item)
  (hit:∀ c,dK (aA T0 w0.heap.size m s w) c→c.w=w'→c.m=m→c.N=s.next→bD c (ownB T0 w0.heap.size) (m i0) it) :
  bC w0 T0 H { s with rows:=put s.rows i0 it } a w' m:=by
 have hput:∀ i it',lk (put s.rows i0 it) i=some it'→(i=i0∧it'=it)∨(i≠i0∧lk s.rows i=some it'):=by
  intro i it' hi
  rw [xO] at hi
  split at hi
  ·rename_i e;rw [hi0] at hi;cases hi;exact .inl ⟨e,rfl⟩
  ·rename_i e;exact .inr ⟨e,hi⟩
 have hsome:∀ i it',lk (put s.rows i0 it) i=some it'→∃ jt,lk s.rows i=some jt:=by
  intro i it' hi
  rcases hput i it' hi with ⟨rfl,_⟩|⟨_,h'⟩
  ·exact ⟨it0,hi0⟩
  ·exact ⟨_,h'⟩
 have hle:dK (aA T0 w0.heap.size m s w) (aA T0 w0.heap.size m { s with rows:=put s.rows i0 it } w'):=by
  refine ji (Nat.le_refl _) (fun _ _=>rfl) (fun b hb hno=>hheap b hb (hno i0 it0 hi0)) ?_
  intro i it' b hi hbl _
  obtain ⟨jt,hj⟩:=hsome i it' hi
  exact ⟨i,jt,hj,hbl⟩
 refine h.xE rfl rfl hle hb ?_ ?_
 ·intro i it' hi
  rcases hput i it' hi with ⟨rfl,rfl⟩|⟨hne,hi⟩
  ·exact ⟨(h.rows _ _ hi0).1,hit _ hle rfl rfl rfl⟩
  ·exact ⟨(h.rows i it' hi).1,((h.rows i it' hi).2).mono hle fun b hb=>hheap b ((h.rows i it' hi).2.blk b hb).2 fun e=>hne (h.sep i i0 it' it0 b hi hi0 hb e)⟩
 ·intro i j it' jt b hi hj hbi hbj
  obtain ⟨it1,hi⟩:=hsome i it' hi
  obtain ⟨jt1,hj⟩:=hsome j jt hj
  exact h.sep i j it1 jt1 b hi hj hbi hbj
theorem bC.drew (h:bC w0 T0 H s a w m):bC w0 T0 H s a w.drew m:=by
 have hle:dK (aA T0 w0.heap.size m s w) (aA T0 w0.heap.size m s w.drew):=⟨Nat.le_refl _,fun _ _=>rfl,fun _ ht _=>⟨ht,rfl⟩⟩
 exact h.xE rfl rfl hle h.below.drew (fun i it hi=>⟨(h.rows i it hi).1,((h.rows i it hi).2).mono hle fun _ _=>rfl⟩) h.sep
theorem bC.forget (h:bC w0 T0 H s a w m) (rows':List (Nat × Item)) (hsub:∀ i it,lk rows' i=some it→lk s.rows i=some it):bC w0 T0 H { s with rows:=rows' } a w m:=by
 have hle:dK (aA T0 w0.heap.size m s w) (aA T0 w0.heap.size m { s with rows:=rows' } w):=
  ji (Nat.le_refl _) (fun _ _=>rfl) (fun _ _ _=>rfl) fun i it b hi hb _=>⟨i,it,hsub i it hi,hb⟩
 exact h.xE rfl rfl hle h.below (fun i it hi=>⟨(h.rows i it (hsub i it hi)).1,((h.rows i it (hsub i it hi)).2).mono hle fun _ _=>rfl⟩)
  fun i j it jt b hi hj=>h.sep i j it jt b (hsub i it hi) (hsub j jt hj)
end
end Go.Fv
/-
 Rows that grow: append, make, literal slices.
-/
namespace Go.Fv
open Go.RowKit
def zeroOf (P:Program) (e:TypeId):Option Value:=(P.info? e).bind (·.zero)
def Xg:Value→Prop
 | .int k n=>jf k n
 | .string s=>s.size≤maxLen
 | .agg cs=>(∀ v,v∈cs.toList→v.oneCell'=true∧dZ v)∧0<cs.size
 | .tuple _=>False
 | _=>True
structure bH (P:Program) (e:TypeId) (z:Value):Prop where
 ex:∃ i,P.info? e=some i∧i.zero=some z∧i.size=z.cells.size∧i.bytes≤1024
 ok:Xg z
def jO:Value→Nat→aF
 | .bool b,n=>.bools (List.replicate n b)
 | .int k x,n=>.ints k (List.replicate n x)
 | .string s,n=>.strs (List.replicate n s.data.toList)
 | .agg cs,n=>.objs cs.size (List.replicate n (cs.toList.map FK))
 | v,n=>.objs 1 (List.replicate n [FK v])
def appRow:aF→aF→Option aF
 | .bools a,.bools b=>some (.bools (a++b))
 | .ints k a,.ints k' b=>if k=k' then some (.ints k (a++b)) else none
 | .strs a,.strs b=>some (.strs (a++b))
 | .objs n a,.objs n' b=>if n=n' then some (.objs n (a++b)) else none
 | _,_=>none
theorem xq {c:Ctx} {r r2 r3:aF} {cells cells2:List Value} (h1:bP c r cells) (h2:bP c r2 cells2) (h:appRow r r2=some r3) :
  bP c r3 (cells++cells2)∧r3.len=r.len+r2.len∧r3.sz=r.sz∧r2.sz=r.sz:=by
 cases h1 with
 | bools l=>
  cases h2<;>simp only [appRow] at h<;>cases h
  rename_i l2
  refine ⟨?_,by simp [aF.len],rfl,rfl⟩
  rw [←List.map_append];exact .bools _
 | ints k l hk=>
  cases h2<;>simp only [appRow] at h<;>try cases h
  rename_i k2 l2 hk2
  split at h<;>cases h
  rename_i e;subst e
  refine ⟨?_,by simp [aF.len],rfl,rfl⟩
  rw [←List.map_append]
  exact .ints _ _ fun x hx=>by
   cases List.mem_append.1 hx with
   | inl e=>exact hk x e
   | inr e=>exact hk2 x e
 | strs l hk=>
  cases h2<;>simp only [appRow] at h<;>cases h
  rename_i l2 hk2
  refine ⟨?_,by simp [aF.len],rfl,rfl⟩
  rw [←List.map_append]
  exact .strs _ fun x hx=>by
   cases List.mem_append.1 hx with
   | inl e=>exact hk x e
   | inr e=>exact hk2 x e
 | objs sz l cells hz ho=>
  cases h2<;>simp only [appRow] at h<;>try cases h
  rename_i sz2 l2 hz2 ho2
  split at h<;>cases h
  rename_i e;subst e
  exact ⟨.objs _ _ _ hz (ho.append ho2),by simp [aF.len],rfl,rfl⟩
theorem rV (c:Ctx):∀ {cs:List Value},(∀ v,v∈cs→v.oneCell'=true∧dZ v)→cO c (cs.map FK) cs
 | [],_=>.nil
 | v::cs,h=>.cons _ _ _ _ (FM c v (h v (.head _)).2) (h v (.head _)).1 (rV c fun u hu=>h u (.tail _ hu))
theorem jv {α:Type} (n:Nat) (l:List α):((List.replicate n l).flatten).length=n*l.length:=by
 induction n with
 | zero=>simp
 | succ n ih=>simp [List.replicate_succ,ih,Nat.succ_mul,Nat.add_comm]
theorem qY {c:Ctx} {o:List AV} {vs:List Value} (h:cO c o vs) (n:Nat):bJ c vs.length (List.replicate n o) (List.replicate n vs).flatten:=by
 induction n with
 | zero=>exact .nil _
 | succ n ih=>simpa [List.replicate_succ] using .cons _ o vs _ _ h rfl ih
theorem wY (c:Ctx) {z:Value} (h:Xg z) (n:Nat):bP c (jO z n) (List.replicate n z.cells.toList).flatten∧(jO z n).len=n∧(jO z n).sz=z.cells.size:=by
 have one:∀ (v:Value),v.cells=#[v]→(List.replicate n v.cells.toList).flatten=List.replicate n v:=by
  intro v hv;rw [hv];clear h
  induction n with
  | zero=>rfl
  | succ n ih=>simpa [List.replicate_succ] using ih
 have gen:∀ v:Value,v.cells=#[v]→v.oneCell'=true→dZ v→bP c (.objs 1 (List.replicate n [FK v])) (List.replicate n v.cells.toList).flatten:=by
  intro v hv h1 h2
  have:=qY (c:=c) (o:=[FK v]) (vs:=[v]) (.cons _ _ _ _ (FM c v h2) h1 .nil) n
  rw [hv]
  exact .objs 1 _ _ (by omega) this
 cases z with
 | bool b=>refine ⟨?_,by simp [jO,aF.len],rfl⟩;rw [one _ rfl];simp only [jO];rw [←List.map_replicate];exact .bools _
 | int k x=>
  refine ⟨?_,by simp [jO,aF.len],rfl⟩;rw [one _ rfl];simp only [jO];rw [←List.map_replicate]
  exact .ints _ _ fun y hy=>by rw [(List.mem_replicate.1 hy).2];exact h
 | string s=>
  refine ⟨?_,by simp [jO,aF.len],rfl⟩;rw [one _ rfl];simp only [jO]
  have:List.replicate n (Value.string s)=(List.replicate n s.data.toList).map fun l=>Value.string ⟨l.toArray⟩:=by rw [List.map_replicate]
  rw [this]
  exact .strs _ fun y hy=>by rw [(List.mem_replicate.1 hy).2];rw [Array.length_toList];exact h
 | agg _=>
  refine ⟨?_,by simp [jO,aF.len],rfl⟩
  simp only [jO,Value.cells]
  have:=qY (rV c h.1) n
  exact .objs _ _ _ h.2 (by simpa using this)
 | tuple _=>exact h.elim
 | _=>exact ⟨gen _ rfl rfl trivial,by simp [jO,aF.len],rfl⟩
theorem qX (z:Array Value) (n:Nat):(madeCells z (n*z.size)).toList=(List.replicate n z.toList).flatten:=by
 apply List.ext_getElem?
 intro j
 have hl:(madeCells z (n*z.size)).toList.length=n*z.size:=by simp [size_madeCells]
 have hr:((List.replicate n z.toList).flatten).length=n*z.size:=by rw [jv];simp
 by_cases hj:j<n*z.size
 ·have e1:(madeCells z (n*z.size)).toList[j]?=some (z[j%z.size]!):=by
   simp [madeCells,hj]
  rw [e1]
  have:∀ (n j:Nat),j<n*z.size→((List.replicate n z.toList).flatten)[j]?=some (z[j%z.size]!):=by
   intro n
   induction n with
   | zero=>intro j hj;simp at hj
   | succ n ih=>
    intro j hj
    rw [List.replicate_succ,List.flatten_cons]
    by_cases h:j<z.size
    ·rw [List.getElem?_append_left (by simpa using h),Nat.mod_eq_of_lt h]
     simp [h]
    ·rw [List.getElem?_append_right (by simpa using h)]
     have:=ih (j - z.size) (by rw [Nat.succ_mul] at hj;omega)
     simp only [Array.length_toList]
     rw [this,Nat.mod_eq_sub_mod (by omega:j≥z.size)]
  rw [this n j hj]
 ·rw [List.getElem?_eq_none (by omega),List.getElem?_eq_none (by omega)]
theorem kD (P:Program) (g o:Nat) (t:TypeId) (fz:Nat × Nat):∀ (vs:List Value) (i:Nat) (cur:Array Value) (w:World),w.heap[g]?=some (.cells cur t fz)→Xi fz cur.size→o+i+vs.length≤cur.size→(∀ v∈vs,v.oneCell'=true) →
  (storeCells ⟨g,o,none⟩ vs i).run P w=.ok () (w.setRow g (cur.toList.take (o+i)++vs++cur.toList.drop (o+i+vs.length)).toArray)
 | [],i,cur,w,hg,_,_,_=>by
  simp only [storeCells,List.append_nil,List.length_nil,Nat.add_zero,List.take_append_drop,Array.toArray_toList]
  rw [setRow_self w g cur t fz hg]
  rfl
 | v::rest,i,cur,w,hg,hmk,hl,h1=>by
  have hi:o+i<cur.size:=by simp at hl;omega
  have hadd:(⟨g,o,none⟩:Addr).add i=⟨g,o+i,none⟩:=by unfold Addr.add;split<;>simp_all
  have hcell:w.cell? ⟨g,o+i,none⟩=some cur[o+i]:=by simp [World.cell?,hg,hi]
  have hfro:w.frozen? ⟨g,o+i,none⟩=false:=by
   obtain ⟨lo,hi'⟩:=fz
   rcases hmk with e|e
   ·cases e;simp [World.frozen?,hg]
   ·simp only [World.frozen?,hg]
    have:¬lo≤o+i:=by have:cur.size≤lo:=e;omega
    simp [this]
  have hst:(store ((⟨g,o,none⟩:Addr).add i) v).run P w=.ok () (w.setRow g (cur.setIfInBounds (o+i) v)):=by
   rw [hadd,run_store P w _ v _ (h1 v (by simp)),hcell]
   simp [hfro,setCell_eq_setRow w g (o+i) cur t fz v hg]
  have ih:=kD P g o t fz rest (i+1) (cur.setIfInBounds (o+i) v) (w.setRow g (cur.setIfInBounds (o+i) v)) (setRow_heap w g cur _ t _ hg) (by simpa using hmk) (by simp at hl ⊢;omega) (fun x hx=>h1 x (by simp [hx]))
  simp only [storeCells,Sem.run_bind,hst,Result.andThen_ok,ih,setRow_setRow]
  congr 3
  have e:=list_seg_step cur.toList (o+i) v rest (by simp at hl ⊢;omega)
  simpa [Array.toList_setIfInBounds,Nat.add_assoc] using e
structure Src (P:Program) (w:World) (t2:TypeId) (size:Nat) (src:Value) (m:Nat) (news:List Value):Prop where
 len:∀ w':World,(Builtin.lenOf src).run P w'=.ok m w'
 cells:∀ w':World,w'.heap=w.heap→(Builtin.firstCells size m src).run P w'=.ok news.toArray w'
 ty:(∃ e',P.underlying t2=some (.slice e'))∨P.underlying t2=some .string
theorem Src.slice {P:Program} {w:World} {t2 e:TypeId} {size:Nat} {a:Addr} {m c:Nat} {news:List Value} (ht:P.underlying t2=some (.slice e)) (hl:news.length=m*size) (h:∀ j u,news[j]?=some u→w.cell? (a.add j)=some u):Src P w t2 size (.slice (some a) m c) m news:=
 {len:=fun w'=>by simp [Builtin.lenOf],
  cells:=fun w' hw=>run_firstCells_some (P:=P) w' size m a m c news hl (fun j u hu=>by rw [←h j u hu];simp [World.cell?,hw]),
  ty:=.inl ⟨_,ht⟩ }
theorem Src.none {P:Program} {w:World} {t2 e:TypeId} {size:Nat} (ht:P.underlying t2=some (.slice e)):Src P w t2 size (.slice none 0 0) 0 []:=
 {len:=fun w'=>by simp [Builtin.lenOf],cells:=fun w' hw=>by simp [Builtin.firstCells],ty:=.inl ⟨_,ht⟩ }
theorem Src.str {P:Program} {w:World} {t2:TypeId} {size:Nat} (l:List UInt8) (ht:P.underlying t2=some .string):Src P w t2 size (.string ⟨l.toArray⟩) l.length (l.map fun b=>.int .u8 b.toNat):=
 {len:=fun w'=>by simp [Builtin.lenOf,ByteArray.size],
  cells:=fun w' hw=>by
   have:(⟨l.toArray⟩:ByteArray).extract 0 l.length=⟨l.toArray⟩:=by
    apply ByteArray.ext
    simp [ByteArray.data_extract]
   simp [Builtin.firstCells,this],
  ty:=.inr ht }
section
variable {P:Program} {w:World} {t t2 ty e:TypeId} {i:TypeInfo} {z:Value} {src:Value} {m:Nat} {news:List Value}
theorem wH (ht:P.underlying t=some (.slice e)) (hi:P.info? e=some i) (g sLen sCap:Nat) (cur:Array Value) (fz:Nat × Nat) (hg:w.heap[g]?=some (.cells cur e fz)) (hmk:Xi fz cur.size)
  (hsrc:Src P w t2 i.size src m news) (h1:∀ u∈news,u.oneCell'=true) (hroom:sLen+m≤sCap) (hfit:sLen*i.size+news.length≤cur.size) :
  (Builtin.append_ #[t,t2] ty #[.slice (some ⟨g,0,none⟩) sLen sCap,src]).run P w =
   .ok (.slice (some ⟨g,0,none⟩) (sLen+m) sCap) (w.setRow g (cur.toList.take (sLen*i.size)++news++cur.toList.drop (sLen*i.size+news.length)).toArray):=by
 have hf:=hsrc.cells w rfl
 have hl:=hsrc.len w
 have e1:=hsrc.ty
 have hst:=kD P g (sLen*i.size) e fz news 0 cur w hg hmk (by simpa using hfit) h1
 simp only [Nat.add_zero] at hst
 rcases e1 with ⟨e',e1⟩|e1<;>simp [Builtin.append_,run_underlying ht,run_underlying e1,sizeOf,typeInfo,hi,hl,hroom,hf,Addr.add_lit,hst]
theorem Jf (ht:P.underlying t=some (.slice e)) (hi:P.info? e=some i) (hz:i.zero=some z) (hsrc:Src P w t2 i.size src m news)
  (h0:0<m) (h63:(m:Int)≤9223372036854775807) (h48:m*i.bytes≤281474976710656) :
  (Builtin.append_ #[t,t2] ty #[.slice none 0 0,src]).run P w =
   .ok (.slice (some ⟨w.heap.size,0,none⟩) m (grownCap w m 0 e)) (w.drew.alloc (.cells (news.toArray++Builtin.zeroCells z.cells (grownCap w m 0 e - m)) e)):=by
 have hn:m≠0:=by omega
 have h63':¬(9223372036854775807<(m:Int)):=by omega
 have h48':¬(281474976710656<Builtin.nextslicecap m 0*i.bytes):=by rw [nextslicecap_zero h0];omega
 have hf:=hsrc.cells w.drew rfl
 have hl:=hsrc.len w
 have e1:=hsrc.ty
 rcases e1 with ⟨e',e1⟩|e1<;>simp [Builtin.append_,run_underlying ht,run_underlying e1,sizeOf,typeInfo,zeroValue,hi,hz,hl,hn,h63',h48',Question.forced,run_firstCells_none,hf,newRow,grownCap]
theorem F7 (ht:P.underlying t=some (.slice e)) (hi:P.info? e=some i) (hz:i.zero=some z)
  (b:Addr) (sLen sCap:Nat) (olds:List Value) (hlo:olds.length=sLen*i.size) (holds:∀ j v,olds[j]?=some v→w.cell? (b.add j)=some v)
  (hsrc:Src P w t2 i.size src m news) (hg:sCap<sLen+m) (h63:((sLen+m:Nat):Int)≤9223372036854775807) (hfit:Builtin.nextslicecap (sLen+m) sCap*i.bytes≤281474976710656) :
  (Builtin.append_ #[t,t2] ty #[.slice (some b) sLen sCap,src]).run P w =
   .ok (.slice (some ⟨w.heap.size,0,none⟩) (sLen+m) (grownCap w (sLen+m) sCap e))
    (w.drew.alloc (.cells (olds.toArray++news.toArray++Builtin.zeroCells z.cells (grownCap w (sLen+m) sCap e - (sLen+m))) e)):=by
 have hn:¬(sLen+m≤sCap):=by omega
 have h63':¬(9223372036854775807<((sLen:Int)+(m:Int))):=by omega
 have h48':¬(281474976710656<Builtin.nextslicecap (sLen+m) sCap*i.bytes):=by omega
 have hf:=hsrc.cells w.drew rfl
 have hl:=hsrc.len w
 have e1:=hsrc.ty
 have hfo:=run_firstCells_some (P:=P) w.drew i.size sLen b sLen sCap olds hlo (by simpa using holds)
 rcases e1 with ⟨e',e1⟩|e1<;>(
  simp [Builtin.append_,run_underlying ht,run_underlying e1,sizeOf,typeInfo,zeroValue,hi,hz,hl,hn,h63',h48',Question.forced,hf,hfo,newRow,grownCap]
  congr 2
  apply Array.ext'
  simp [List.append_assoc])
theorem JY (ht:P.underlying t=some (.slice e)) (hz:bH P e z)
  {v:Value} {n:Nat} {xs:List Value} {size:Nat} (hsz:size=z.cells.size) (hpos:0<size) (hown:rD w e size v n xs)
  (hl:news.length=m*size) (h1:∀ u∈news,u.oneCell'=true) (hsrc:Src P w t2 size src m news) (hb:n+m≤137438953472∨(n+m≤8796093022208∧(P.info? e).map (fun i=>decide (i.bytes≤16))=some true)) :
  ∃ v' w',(Builtin.append_ #[t,t2] ty #[v,src]).run P w=.ok v' w'∧rD w' e size v' (n+m) (xs++news)∧w.grownBy w' v.ownBlock ∧
   (∀ b,blk v'=some b→b<w.heap.size→blk v=some b)∧w.drawn≤w'.drawn:=by
 obtain ⟨i,hi,hiz,his,hib⟩:=hz.ex
 have hbytes:(n+m)*i.bytes≤140737488355328:=by
  rcases hb with hb|⟨hb,hb2⟩
  ·have:(n+m)*i.bytes≤137438953472*1024:=Nat.mul_le_mul hb hib
   omega
  ·rw [hi] at hb2
   have h16:i.bytes≤16:=by simpa using hb2
   have:(n+m)*i.bytes≤8796093022208*16:=Nat.mul_le_mul hb h16
   omega
 have his':i.size=size:=by rw [his,hsz]
 subst his'
 have hlen:(xs++news).length=(n+m)*i.size:=by rw [List.length_append,hown.1,hl,Nat.add_mul]
 have h63:n+m≤maxLen:=by simp only [maxLen];omega
 have grown:∀ old:Nat,∀ (row:Option Nat),
   rD (w.drew.alloc (.cells (xs.toArray++news.toArray++Builtin.zeroCells z.cells (grownCap w (n+m) old e - (n+m))) e)) e i.size
    (.slice (some ⟨w.heap.size,0,none⟩) (n+m) (grownCap w (n+m) old e)) (n+m) (xs++news) ∧
   w.grownBy (w.drew.alloc (.cells (xs.toArray++news.toArray++Builtin.zeroCells z.cells (grownCap w (n+m) old e - (n+m))) e)) row:=by
  intro old row
  refine ⟨⟨hlen,.inr ⟨w.heap.size,_,_,(0,0),rfl,.inl rfl,heap_alloc_new w.drew _,grownCap_ge w (n+m) old e,grownCap_le_maxLen w (n+m) old e h63,?_,?_⟩⟩,⟨rfl,rfl,rfl,by simp,fun k hk _=>Below.heap_alloc w.drew _ k hk⟩⟩
  ·have:=grownCap_ge w (n+m) old e
   simp only [Array.size_append,List.size_toArray,size_zeroCells,←hsz,hown.1,hl,←Nat.add_mul]
   congr 1;omega
  ·simp only [Array.toList_append,List.append_assoc]
   rw [←List.append_assoc,←hlen]
   exact List.take_left
 rcases hown.2 with ⟨rfl,rfl⟩|⟨g,cap,cur,fz,rfl,hmk,hg,hnc,hcm,hcs,htake⟩
 ·have hx:xs=[]:=List.eq_nil_of_length_eq_zero (by simpa using hown.1)
  subst hx
  by_cases hm:m=0
  ·subst hm
   have hn:news=[]:=List.eq_nil_of_length_eq_zero (by simpa using hl)
   subst hn
   refine ⟨.slice none 0 0,w,?_,xQ w e i.size,World.grownBy.refl _ _,fun b hb _=>hb,Nat.le_refl _⟩
   have hl:=hsrc.len w
   have hf:=hsrc.cells w rfl
   have e1:=hsrc.ty
   rcases e1 with ⟨e',e1⟩|e1<;>simp [Builtin.append_,run_underlying ht,run_underlying e1,sizeOf,typeInfo,hi,hl,hf]
  ·have hr:=Jf (ty:=ty) ht hi hiz hsrc (by omega) (by simp only [maxLen] at h63;omega) (by rw [Nat.zero_add] at hbytes;omega)
   have hgr:=grown 0 (Value.ownBlock (.slice none 0 0))
   simp only [Nat.zero_add,List.nil_append,Array.empty_append] at hgr ⊢
   exact ⟨_,_,hr,hgr.1,hgr.2,fun b hb hlt=>(by cases hb;simp at hlt),Nat.le_succ _⟩
 ·by_cases hroom:n+m≤cap
  ·have hfit:n*i.size+news.length≤cur.size:=by rw [hl,hcs,←Nat.add_mul];exact Nat.mul_le_mul_right _ hroom
   have hr:=wH (ty:=ty) ht hi g n cap cur fz hg hmk.w hsrc h1 hroom hfit
   have hsz2:(cur.toList.take (n*i.size)++news++cur.toList.drop (n*i.size+news.length)).length=cur.size:=by
    simp only [List.length_append,List.length_take,List.length_drop,Array.length_toList]
    omega
   refine ⟨_,_,hr,⟨hlen,.inr ⟨g,cap,_,fz,rfl,?_,setRow_heap w g cur _ e _ hg,hroom,hcm,?_,?_⟩⟩,⟨rfl,rfl,rfl,by simp,fun k _ hk=>setRow_other w g k _ (fun e=>hk (by simp [Value.ownBlock,e]))⟩,fun b hb _=>hb,Nat.le_refl _⟩
   ·rw [List.size_toArray,hsz2];exact hmk
   ·rw [List.size_toArray,hsz2];exact hcs
   ·rw [htake,←hlen]
    exact List.take_left
  ·have holds:∀ j u,xs[j]?=some u→w.cell? ((⟨g,0,none⟩:Addr).add j)=some u:=fV hown (g:=g) rfl
   have hr:=F7 (ty:=ty) ht hi hiz ⟨g,0,none⟩ n cap xs hown.1 holds hsrc (by omega) (by simp only [maxLen] at h63;omega) (growslice_fits (by omega) hbytes)
   have hgr:=grown cap (Value.ownBlock (.slice (some ⟨g,0,none⟩) n cap))
   exact ⟨_,_,hr,hgr.1,hgr.2,fun b hb hlt=>(by cases hb;simp at hlt),Nat.le_succ _⟩
end
end Go.Fv
/-
 Each operation's meaning over abstract states, and its law.
-/
namespace Go.Fv
open Go.RowKit
section
variable {P:Program} {w0:World} {T0:Bs} {o:Oper} {s:S} {K:AV→S→Prop}
theorem aT.mem (h:∀ (H:List (AV × Value)) (a:Act) (w:World) (m:Nat→Value),bC w0 T0 H s a w m →
   ∃ r v s' w' m',K r s'∧((execOp a.eval o).run P w=.ok (.value v) w'∨((execOp a.eval o).run P w=.ok .skip w'∧v=undef))∧bC w0 T0 ((r,v)::H) s' a w' m'):aT P w0 T0 o s K:=by
 intro H a w next Q ⟨m,hm⟩ hn
 obtain ⟨r,v,s',w',m',hk,hr,hv⟩:=h H a w m hm
 unfold Oper.wp
 rcases hr with hr|⟨hr,rfl⟩
 ·rw [hr];exact hn r s' v w' hk ⟨m',hv⟩
 ·rw [hr];exact hn r s' undef w' hk ⟨m',hv⟩
def S.add (s:S) (it:Item):S:={ s with rows:=(s.next,it)::s.rows,next:=s.next+1 }
def S.swap (s:S) (i:Nat) (it:Item):S:={ s with rows:=(s.next,it)::del s.rows i,next:=s.next+1 }
def S.upd (s:S) (i:Nat) (it:Item):S:={ s with rows:=put s.rows i it }
/-! ### move, pick, extract, functions -/
def uY (P:Program) (t:TypeId) (x:Operand) (s:S) (K:AV→S→Prop):Prop:=
 match x with
 | .const (.slice none 0 0)=>
  match P.underlying t with
  | some (.slice e)=>match zeroOf P e with
   | some z=>aZ (bH P e z) (K (.own s.next) (s.add (.row e (jO z 0))))
   | none=>False
  | _=>False
 | .const (.agg cs)=>aZ (∀ v,v∈cs.toList→v.oneCell'=true∧dZ v) (K (.agg (cs.toList.map FK)) s)
 | x=>aZ (au x) (K (s.ev x) s)
theorem zG {H:List (AV × Value)} {a:Act} {w:World} {m:Nat→Value} (h:bC w0 T0 H s a w m) {e:TypeId} {z:Value} (hz:bH P e z) :
  bC w0 T0 ((.own s.next,.slice none 0 0)::H) (s.add (.row e (jO z 0))) a w (Fv.upd m s.next (.slice none 0 0)):=by
 have h2:=h.new (w':=w) h.below (fun _ _=>rfl) (.row e (jO z 0)) (.slice none 0 0) (fun b hb=>by cases hb) (fun c _ hw=>by
  obtain ⟨h1,h2,h3⟩:=wY c hz.ok 0
  exact ⟨0,[],by simpa using h1,h2,by rw [hw];exact xQ _ _ _,fun b hb=>by cases hb⟩)
 refine h2.hold ?_
 have:(Fv.upd m s.next (.slice none 0 0)) s.next=.slice none 0 0:=upd_same _ _ _
 have hr:Rv (aA T0 w0.heap.size (Fv.upd m s.next (.slice none 0 0)) (s.add (.row e (jO z 0))) w) (.own s.next) ((Fv.upd m s.next (.slice none 0 0)) s.next):=.own _ (Nat.lt_succ_self _) (by show Value.oneCell' (Fv.upd m s.next (.slice none 0 0) s.next)=true;rw [this];rfl)
 rw [this] at hr;exact hr
theorem wU {x:Operand} (ho:o.op=.move x∨o.op=.assign x) (h:uY P o.type x s K):aT P w0 T0 o s K:=by
 have hrun:∀ (ρ:Operand→Value) (w:World),(execOp ρ o).run P w=.ok (.value (ρ x)) w:=by
  intro ρ w;unfold execOp;rcases ho with ho|ho<;>rw [ho]<;>rfl
 unfold uY at h
 split at h
 ·split at h
  ·split at h
   ·obtain ⟨hz,hk⟩:=h
    refine aT.mem fun H a w m hm=>?_
    exact ⟨.own s.next,.slice none 0 0,_,w,_,hk,.inl (hrun _ _),zG hm hz⟩
   ·exact h.elim
  ·exact h.elim
 ·obtain ⟨h1,hk⟩:=h
  refine aT.pure fun H a w m hm=>⟨_,_,hk,hrun _ _,?_⟩
  have:=rV (aA T0 w0.heap.size m s w) h1
  simpa [Act.eval] using Rv.agg _ _ this
 ·obtain ⟨h1,hk⟩:=h
  exact aT.pure fun H a w m hm=>⟨_,_,hk,hrun _ _,hm.ev x h1⟩
def Cb (c x y:Operand) (s:S) (K:AV→S→Prop):Prop:=
 match s.ev c with
 | .bool b=>aZ (au x∧au y) (@Ite b ⟨K (s.ev x) s⟩ ⟨K (s.ev y) s⟩)
 | _=>False
theorem GY {c x y:Operand} (ho:o.op=.pick c x y) (hc:au c) (h:Cb c x y s K):cZ P w0 T0 o s K:=by
 unfold Cb at h
 intro H a w m hm
 have rc:=hm.ev c hc
 revert h rc
 generalize s.ev c=ac
 intro h rc
 cases ac with
 | bool b=>
  obtain ⟨⟨hx,hy⟩,h⟩:=h
  generalize hvc:a.eval c=vc at rc
  cases rc
  have hrun:(execOp a.eval o).run P w=.ok (.value (if b then a.eval x else a.eval y)) w:=by
   unfold execOp;rw [ho];simp [hvc,asBool,Sem.run_bind,Result.andThen]
  cases b with
  | true=>exact ⟨_,_,h.1 rfl,hrun,hm.ev x hx⟩
  | false=>exact ⟨_,_,h.2 rfl,hrun,hm.ev y hy⟩
 | _=>exact h.elim
theorem GX {c x y:Operand} (ho:o.op=.pick c x y) (hc:au c) (h:Cb c x y s K):aT P w0 T0 o s K:=(GY ho hc h).op
def jM (x:Operand) (i:Nat) (s:S) (K:AV→S→Prop):Prop:=
 match s.ev x with
 | .tup l=>match l[i]? with
  | some v=>K v s
  | none=>False
 | _=>False
theorem zf {x:Operand} {i:Nat} (ho:o.op=.extract x i) (hx:au x) (h:jM x i s K):cZ P w0 T0 o s K:=by
 unfold jM at h
 intro H a w m hm
 have rc:=hm.ev x hx
 revert h rc
 generalize s.ev x=ac
 intro h rc
 cases ac with
 | tup l=>
  dsimp only at h
  generalize hvc:a.eval x=vc at rc
  cases rc with
  | tup _ vs hl=>
   cases hi:l[i]? with
   | none=>rw [hi] at h;exact h.elim
   | some y=>
    rw [hi] at h
    obtain ⟨v,hv,hr⟩:=hl.get hi
    refine ⟨y,v,h,?_,hr⟩
    unfold execOp;rw [ho];simp [hvc,Instr.extract,hv,Sem.run_bind,Result.andThen]
 | _=>exact h.elim
theorem y9 {x:Operand} {i:Nat} (ho:o.op=.extract x i) (hx:au x) (h:jM x i s K):aT P w0 T0 o s K:=(zf ho hx h).op
def evs (s:S) (l:List Operand):List AV:=l.map s.ev
theorem bC.evs {H:List (AV × Value)} {a:Act} {w:World} {m:Nat→Value} (hm:bC w0 T0 H s a w m):∀ {l:List Operand},(∀ x,x∈l→au x)→dH (aA T0 w0.heap.size m s w) (evs s l) (l.map a.eval)
 | [],_=>.nil
 | x::l,h=>.cons _ _ _ _ (hm.ev x (h x (.head _))) (bC.evs hm fun y hy=>h y (.tail _ hy))
def iT (fn:Fn) (first captured:Array Operand) (s:S) (K:AV→S→Prop):Prop:=
 match fn with
 | .func f=>match first.toList with
  | []=>aZ (∀ x,x∈captured.toList→au x) (K (.fn f (evs s captured.toList)) s)
  | [x]=>aZ (captured=#[]∧au x) (K (.bm f (s.ev x)) s)
  | _=>False
 | _=>False
theorem yh {fn:Fn} {first captured:Array Operand} (ho:o.op=.makeFunc fn first captured) (h:iT fn first captured s K):cZ P w0 T0 o s K:=by
 unfold iT at h
 cases fn with
 | func f=>
  dsimp only at h
  split at h
  case h_2 x hx=>
   obtain ⟨⟨rfl,ho2⟩,hk⟩:=h
   have hf:first=#[x]:=by apply Array.ext';simpa using hx
   subst hf
   intro H a w m hm
   refine ⟨.bm f (s.ev x),.func (.func f) #[a.eval x] #[],hk,?_,.bm _ _ _ (hm.ev x ho2)⟩
   unfold execOp;rw [ho];simp [Instr.makeFunc]
  case h_3=>exact h.elim
  rename_i hx
  obtain rfl:first=#[]:=by apply Array.ext';simpa using hx
  obtain ⟨hc,hk⟩:=h
  intro H a w m hm
  refine ⟨.fn f (evs s captured.toList),.func (.func f) #[] ((captured.toList.map a.eval).toArray),hk,?_,.fn f _ _ (hm.evs hc)⟩
  unfold execOp;rw [ho];simp [Instr.makeFunc];rw [←Array.toList_map]
 | _=>exact h.elim
theorem yg {fn:Fn} {first captured:Array Operand} (ho:o.op=.makeFunc fn first captured) (h:iT fn first captured s K):aT P w0 T0 o s K:=(yh ho h).op
/-! ### Boxes -/
def iC:AV→Option (List AV)
 | .agg cs=>some cs
 | .bool b=>some [.bool b]
 | .int k n=>some [.int k n]
 | .str l=>some [.str l]
 | .ro r=>some [.ro r]
 | .own i=>some [.own i]
 | .nilS=>some [.nilS]
 | .fn f c=>some [.fn f c]
 | .ptr i off=>some [.ptr i off]
 | .elt i sz x off=>some [.elt i sz x off]
 | .cell cs=>some [.cell cs]
 | .mp ks vs=>some [.mp ks vs]
 | .ifc t v=>some [.ifc t v]
 | .raw v=>if v.oneCell'=true then some [.raw v] else none
 | _=>none
theorem ET {v:Value} (h:v.oneCell'=true):v.cells.toList=[v]:=by
 cases v<;>first|rfl|exact absurd h (by simp [Value.oneCell'])
theorem pz {c:Ctx} {x:AV} {v:Value} {cs:List AV} (h:Rv c x v) (hb:iC x=some cs):cO c cs v.cells.toList:=by
 have one:∀ (x:AV) (v:Value),Rv c x v→v.oneCell'=true→cO c [x] v.cells.toList:=fun x v hx h1=>by
  rw [ET h1];exact .cons _ _ _ _ hx h1 .nil
 cases h with
 | agg cs' vs hl=>cases hb;simpa [Value.cells] using hl
 | own i hi h1=>cases hb;exact one _ _ (.own i hi h1) h1
 | dead _=>cases hb
 | raw v=>
  simp only [iC] at hb
  split at hb
  ·rename_i h1;cases hb;exact one _ _ (.raw v) h1
  ·cases hb
 | opt _ _ _ _ _ _=>cases hb
 | tup _ _ _=>cases hb
 | nilS=>cases hb;exact one _ _ .nilS rfl
 | bool b=>cases hb;exact one _ _ (.bool b) rfl
 | int k n hk=>cases hb;exact one _ _ (.int k n hk) rfl
 | str l hl=>cases hb;exact one _ _ (.str l hl) rfl
 | roNil r hr hi=>cases hb;exact one _ _ (.roNil r hr hi) rfl
 | ro r a len cap cells h1 h2 h3 h4 h5 h6=>cases hb;exact one _ _ (.ro r a len cap cells h1 h2 h3 h4 h5 h6) rfl
 | mp ks vs g es clock h1 h2 h3 h4 h5 h6 h7 h8=>cases hb;exact one _ _ (.mp ks vs g es clock h1 h2 h3 h4 h5 h6 h7 h8) rfl
 | cell cs vs a h1 h2 h3=>cases hb;exact one _ _ (.cell cs vs a h1 h2 h3) rfl
 | ptr i off g h1 h2=>cases hb;exact one _ _ (.ptr i off g h1 h2) rfl
 | elt i sz idx off g h1 h2=>cases hb;exact one _ _ (.elt i sz idx off g h1 h2) rfl
 | pre i n l cap ad h1 h2 h3=>cases hb
 | suf i sz o n l cap ad h1 h2 h3=>cases hb
 | fn f cs vs h1=>cases hb;exact one _ _ (.fn f cs vs h1) rfl
 | ifc t x v h1=>cases hb;exact one _ _ (.ifc t x v h1) rfl
 | bm f x v h1=>cases hb
theorem Nu {H:List (AV × Value)} {a:Act} {w:World} {m:Nat→Value} (h:bC w0 T0 H s a w m) {e:TypeId} {cs:List AV} {vs:List Value}
  (hl:cO (aA T0 w0.heap.size m s w) cs vs) :
  bC w0 T0 ((.ptr s.next 0,.pointer (some ⟨w.heap.size,0,none⟩))::H) (s.add (.box e cs)) a (w.alloc (.cells vs.toArray e)) (Fv.upd m s.next (.pointer (some ⟨w.heap.size,0,none⟩))):=by
 have h2:=h.new (w':=w.alloc (.cells vs.toArray e)) (h.below.alloc _) (fun b hb=>Below.heap_alloc w _ b hb) (.box e cs) (.pointer (some ⟨w.heap.size,0,none⟩))
  (fun b hb=>by cases hb;exact Nat.le_refl _) (fun c hle hw=>by
   refine ⟨w.heap.size,vs,rfl,.inl h.lt,hl.mono hle,by rw [hw];exact heap_alloc_new w _⟩)
 refine h2.hold ?_
 exact .ptr _ _ _ (Nat.lt_succ_self _) (by show blk (Fv.upd m s.next _ s.next)=_;rw [upd_same];rfl)
def EF (e:TypeId) (x:Operand) (s:S) (K:AV→S→Prop):Prop:=
 match iC (s.ev x) with
 | some cs=>aZ (au x) (K (.ptr s.next 0) (s.add (.box e cs)))
 | none=>False
theorem JA {e:TypeId} {x:Operand} (ho:o.op=.box e x) (h:EF e x s K):aT P w0 T0 o s K:=by
 unfold EF at h
 cases hb:iC (s.ev x) with
 | none=>rw [hb] at h;exact h.elim
 | some cs=>
  rw [hb] at h
  obtain ⟨hx,hk⟩:=h
  refine aT.mem fun H a w m hm=>?_
  have hl:=pz (hm.ev x hx) hb
  refine ⟨_,_,_,_,_,hk,.inl ?_,Nu hm (e:=e) hl⟩
  unfold execOp;rw [ho]
  simp [Instr.box,newVar,newRow]
def sO (P:Program) (e:TypeId) (s:S) (K:AV→S→Prop):Prop:=
 match zeroOf P e with
 | some z=>aZ (∀ v,v∈z.cells.toList→v.oneCell'=true∧dZ v) (K (.ptr s.next 0) (s.add (.box e (z.cells.toList.map FK))))
 | none=>False
theorem Dc {e:TypeId} (ho:o.op=.alloc e) (h:sO P e s K):aT P w0 T0 o s K:=by
 unfold sO at h
 cases hz:zeroOf P e with
 | none=>rw [hz] at h;exact h.elim
 | some z=>
  rw [hz] at h
  obtain ⟨h1,hk⟩:=h
  refine aT.mem fun H a w m hm=>?_
  refine ⟨_,_,_,_,_,hk,.inl ?_,Nu hm (e:=e) (rV _ h1)⟩
  unfold zeroOf at hz
  cases hi:P.info? e with
  | none=>rw [hi] at hz;cases hz
  | some i=>
   rw [hi] at hz
   have hz':i.zero=some z:=hz
   unfold execOp;rw [ho]
   simp [Instr.alloc,zeroValue,typeInfo,hi,hz',newVar,newRow]
end
end Go.Fv
/-
 Loads, stores, addresses of parts.
-/
namespace Go.Fv
open Go.RowKit
def spl:List AV→Nat→List AV→List AV
 | bs,_,[]=>bs
 | bs,off,c::cs=>spl (bs.set off c) (off+1) cs
def iM:List Value→Nat→List Value→List Value
 | bs,_,[]=>bs
 | bs,off,c::cs=>iM (bs.set off c) (off+1) cs
theorem Gf:∀ (cs bs:List Value) (off:Nat),off+cs.length≤bs.length→iM bs off cs=bs.take off++cs++bs.drop (off+cs.length)
 | [],bs,off,_=>by simp [iM]
 | c::cs,bs,off,h=>by
  simp only [List.length_cons] at h
  rw [iM,Gf cs _ _ (by simp;omega),List.take_set,List.drop_set,if_pos (by omega)]
  rw [List.take_succ_eq_append_getElem (by omega),List.set_append_right _ _ (by simp;omega)]
  have e:off - (List.take off bs).length=0:=by simp;omega
  rw [e]
  simp only [List.set_cons_zero,List.length_cons,List.append_assoc,List.cons_append,List.nil_append]
  have e2:off+1+cs.length=off+(cs.length+1):=by omega
  rw [e2]
theorem cO.set {c:Ctx}:∀ {l:List AV} {vs:List Value} (i:Nat) {x:AV} {v:Value},cO c l vs→Rv c x v→v.oneCell'=true→cO c (l.set i x) (vs.set i v)
 | _,_,_,_,_,.nil,_,_=>.nil
 | _,_,0,_,_,.cons _ _ _ _ _ _ t,hx,h1=>.cons _ _ _ _ hx h1 t
 | _,_,i+1,_,_,.cons y u l vs h h1' t,hx,h1=>.cons y u _ _ h h1' (cO.set i t hx h1)
theorem cO.spl {c:Ctx}:∀ {cs:List AV} {us:List Value} {l:List AV} {vs:List Value} (off:Nat),cO c l vs→cO c cs us→cO c (Fv.spl l off cs) (iM vs off us)
 | _,_,_,_,_,h,.nil=>h
 | _,_,_,_,off,h,.cons x v cs us hx h1 t=>cO.spl (off+1) (h.set off hx h1) t
def lH (r:aF) (i off:Nat) (cs:List AV):Option aF:=
 match r with
 | .bools l=>match cs with
  | [.bool b]=>if off=0 then some (.bools (l.set i b)) else none
  | _=>none
 | .ints k l=>match cs with
  | [.int k' n]=>if off=0∧k=k' then some (.ints k (l.set i n)) else none
  | _=>none
 | .strs l=>match cs with
  | [.str t]=>if off=0 then some (.strs (l.set i t)) else none
  | _=>none
 | .objs sz l=>if off+cs.length≤sz then some (.objs sz (l.set i (spl (l.getD i []) off cs))) else none
section
variable {P:Program} {w0:World} {T0:Bs} {o:Oper} {s:S} {K:AV→S→Prop}
def BN (P:Program) (t:TypeId) (x:Operand) (s:S) (K:AV→S→Prop):Prop:=
 match s.ev x with
 | .cell cs=>gK P t cs (fun v=>K v s)
 | .ptr i off=>match lk s.rows i with
  | some (.box _ cs)=>gK P t (cs.drop off) (fun v=>K v s)
  | _=>False
 | .elt i sz idx off=>match lk s.rows i with
  | some (.row _ r)=>aZ (idx<r.len∧sz=r.sz) (gK P t ((aN r idx).drop off) (fun v=>K v s))
  | _=>False
 | _=>False
theorem OW {w:World} {e:TypeId} {size:Nat} {v:Value} {n:Nat} {xs:List Value} (h:rD w e size v n xs) {g:Nat} (hg:blk v=some g) :
  ∀ j u,xs[j]?=some u→w.cell? ⟨g,j,none⟩=some u:=by
 intro j u hu
 have:=fV h hg j u hu
 have e1:(⟨g,0,none⟩:Addr).add j=⟨g,j,none⟩:=by unfold Addr.add;split<;>simp_all
 rwa [e1] at this
theorem GN {t:TypeId} {x:Operand} (ho:o.op=.load t x) (hx:au x) (h:BN P t x s K):cZ P w0 T0 o s K:=by
 unfold BN at h
 intro H a w m hm
 have rx:=hm.ev x hx
 revert h rx
 generalize s.ev x=ax
 generalize hvx:a.eval x=vx
 intro h rx
 have fin:∀ (ad:Addr) (cs:List AV) (vs:List Value),vx=.pointer (some ad)→gK P t cs (fun v=>K v s)→cO (aA T0 w0.heap.size m s w) cs vs →
   (∀ j u,vs[j]?=some u→w.cell? (ad.add j)=some u)→∃ r v,K r s∧(execOp a.eval o).run P w=.ok (.value v) w∧Rv (aA T0 w0.heap.size m s w) r v:=by
  intro ad cs vs he hl hv hc
  obtain ⟨r,v,hk,hr,hrv⟩:=nR (c:=aA T0 w0.heap.size m s w) hl hv hc
  refine ⟨r,v,hk,?_,hrv⟩
  have hr':(loadVar t ad).run P w=.ok v w:=hr
  unfold execOp;rw [ho]
  simp [hvx,he,Instr.loadAt,Instr.sureAddr,hr']
 cases ax with
 | cell cs=>
  cases rx with
  | cell _ vs ad hl hid hs=>exact fin ad cs vs rfl h hl hs.2.2
 | ptr i off=>
  dsimp only at h
  cases hi:lk s.rows i with
  | none=>rw [hi] at h;exact h.elim
  | some it=>
   rw [hi] at h
   cases it with
   | row e r=>exact h.elim
   | map _ _=>exact h.elim
   | iter _ _ _=>exact h.elim
   | siter _ _=>exact h.elim
   | box e cs=>
    dsimp only at h
    cases rx with
    | ptr _ _ g _ hg=>
     obtain ⟨g',vs,hv,_,hl,hh⟩:=(hm.rows i _ hi).2
     have hmi:blk (m i)=some g:=hg
     rw [hv] at hmi;cases hmi
     refine fin _ _ (vs.drop off) rfl h (hl.drop off) fun j u hu=>?_
     rw [Addr.add_lit]
     rw [List.getElem?_drop] at hu
     have:=cell_of_row w g' (off+j) vs.toArray e (0,0) hh
     rw [this];simpa using hu
 | elt i sz idx off=>
  dsimp only at h
  cases hi:lk s.rows i with
  | none=>rw [hi] at h;exact h.elim
  | some it=>
   rw [hi] at h
   cases it with
   | map _ _=>exact h.elim
   | iter _ _ _=>exact h.elim
   | siter _ _=>exact h.elim
   | box e cs=>exact h.elim
   | row e r=>
    dsimp only at h
    obtain ⟨⟨hlt,rfl⟩,h⟩:=h
    cases rx with
    | elt _ _ _ _ g _ hg=>
     obtain ⟨n,cells,hr,hn,how,hO⟩:=(hm.rows i _ hi).2
     have he:=(hr.elem hlt).drop off
     refine fin _ _ _ rfl h he fun j u hu=>?_
     rw [Addr.add_lit]
     rw [List.getElem?_drop,List.getElem?_take] at hu
     split at hu
     ·rw [List.getElem?_drop] at hu
      have:=OW how hg _ _ hu
      have e:idx*r.sz+off+j=idx*r.sz+(off+j):=by omega
      rw [e];exact this
     ·cases hu
 | _=>exact h.elim
theorem GL {t:TypeId} {x:Operand} (ho:o.op=.load t x) (hx:au x) (h:BN P t x s K):aT P w0 T0 o s K:=(GN ho hx h).op
def BX (x:Operand) (s:S) (K:AV→S→Prop):Prop:=
 match s.ev x with
 | .cell cs=>K (.cell cs) s
 | .ptr i off=>K (.ptr i off) s
 | .elt i sz x off=>K (.elt i sz x off) s
 | .fn f cs=>K (.fn f cs) s
 | _=>False
theorem JG {x:Operand} (ho:o.op=.nilCheck x) (hx:au x) (h:BX x s K):cZ P w0 T0 o s K:=by
 unfold BX at h
 intro H a w m hm
 have rx:=hm.ev x hx
 revert h rx
 generalize s.ev x=ax
 generalize hvx:a.eval x=vx
 intro h rx
 have fin:∀ r,K r s→Rv (aA T0 w0.heap.size m s w) r vx→((∃ ad,vx=.pointer (some ad))∨∃ f cs,vx=.func (.func f) #[] cs)→∃ r v,K r s∧(execOp a.eval o).run P w=.ok (.value v) w∧Rv (aA T0 w0.heap.size m s w) r v:=by
  intro r hk hr hp
  refine ⟨r,vx,hk,?_,hr⟩
  unfold execOp;rw [ho]
  rcases hp with ⟨ad,rfl⟩|⟨f,cs,rfl⟩<;>simp [hvx]
 cases ax with
 | cell cs=>have rx':=rx;cases rx with|cell _ vs ad hl hid hs=>exact fin _ h rx' (.inl ⟨ad,rfl⟩)
 | ptr i off=>have rx':=rx;cases rx with|ptr _ _ g _ hg=>exact fin _ h rx' (.inl ⟨_,rfl⟩)
 | elt i sz idx off=>have rx':=rx;cases rx with|elt _ _ _ _ g _ hg=>exact fin _ h rx' (.inl ⟨_,rfl⟩)
 | fn f cs=>have rx':=rx;cases rx with|fn _ _ vs hl=>exact fin _ h rx' (.inr ⟨_,_,rfl⟩)
 | _=>exact h.elim
theorem JF {x:Operand} (ho:o.op=.nilCheck x) (hx:au x) (h:BX x s K):aT P w0 T0 o s K:=(JG ho hx h).op
def iw (P:Program) (t:TypeId) (x:Operand) (k:Nat) (s:S) (K:AV→S→Prop):Prop:=
 match P.underlying t with
 | some (.struct fs)=>match fs[k]? with
  | some f=>aZ (0<P.cellsOf f.type) (match s.ev x with
   | .cell cs=>K (.cell (cs.drop f.offset)) s
   | .ptr i off=>K (.ptr i (off+f.offset)) s
   | .elt i sz idx off=>K (.elt i sz idx (off+f.offset)) s
   | _=>False)
  | none=>False
 | _=>False
theorem ql {t:TypeId} {x:Operand} {k:Nat} (ho:o.op=.fieldAddr t x k) (hx:au x) (h:iw P t x k s K) {H:List (AV × Value)} {a:Act} {w:World} {m:Nat→Value} (hm:bC w0 T0 H s a w m):∃ r v,K r s∧(∀ w',(execOp a.eval o).run P w'=.ok (.value v) w')∧Rv (aA T0 w0.heap.size m s w) r v:=by
 unfold iw at h
 cases ht:P.underlying t with
 | none=>rw [ht] at h;exact h.elim
 | some d=>
  rw [ht] at h
  cases d with
  | struct fs=>
   dsimp only at h
   cases hf:fs[k]? with
   | none=>rw [hf] at h;exact h.elim
   | some f=>
    rw [hf] at h
    obtain ⟨hp,h⟩:=h
    have rx:=hm.ev x hx
    revert h rx
    generalize s.ev x=ax
    generalize hvx:a.eval x=vx
    intro h rx
    obtain ⟨i,hi⟩:=bM hp
    have hne:P.cellsOf f.type≠0:=by omega
    have fin:∀ r ad,vx=.pointer (some ad)→K r s→Rv (aA T0 w0.heap.size m s w) r (.pointer (some (ad.add f.offset)))→∃ r v,K r s∧(∀ w',(execOp a.eval o).run P w'=.ok (.value v) w')∧Rv (aA T0 w0.heap.size m s w) r v:=by
     intro r ad he hk hr
     refine ⟨r,_,hk,fun w'=>?_,hr⟩
     unfold execOp;rw [ho]
     have hs:=dw (P:=P) hi w'
     simp [hvx,he,Instr.fieldAt,run_underlying ht,hf,Instr.sureAddr,fieldPlace,hs,hne]
    cases ax with
    | cell cs=>
     cases rx with
     | cell _ vs ad hl hid hs=>exact fin _ ad rfl h (.cell _ _ _ (hl.drop f.offset) (uJ _ _ hid) (hs.drop f.offset))
    | ptr j off=>cases rx with|ptr _ _ g hj hg=>exact fin _ _ rfl h (by rw [Addr.add_lit];exact .ptr _ _ _ hj hg)
    | elt j sz idx off=>cases rx with|elt _ _ _ _ g hj hg=>exact fin _ _ rfl h (by rw [Addr.add_lit,Nat.add_assoc];exact .elt _ _ _ _ _ hj hg)
    | _=>exact h.elim
  | _=>exact h.elim
theorem wO {t:TypeId} {x:Operand} {k:Nat} (ho:o.op=.fieldAddr t x k) (hx:au x) (h:iw P t x k s K):cZ P w0 T0 o s K:=by
 intro H a w m hm
 obtain ⟨r,v,h1,h2,h3⟩:=ql ho hx h hm
 exact ⟨r,v,h1,h2 w,h3⟩
theorem wM {t:TypeId} {x:Operand} {k:Nat} (ho:o.op=.fieldAddr t x k) (hx:au x) (h:iw P t x k s K):aT P w0 T0 o s K:=(wO ho hx h).op
def kJ (P:Program) (t:TypeId) (x i:Operand) (s:S) (K:AV→S→Prop):Prop:=
 match P.underlying t,s.ev i with
 | some (.slice e),.int _ n=>match s.ev x with
  | .ro r=>aZ (0≤n∧n<r.len∧P.cellsOf e=r.sz) (K (.cell (aN r n.toNat)) s)
  | .own j=>match lk s.rows j with
   | some (.row _ r)=>aZ (0≤n∧n<r.len∧P.cellsOf e=r.sz) (K (.elt j r.sz n.toNat 0) s)
   | _=>False
  | _=>False
 | some (.array len e),.int _ n=>match s.ev x with
  | .ptr j off=>aZ (0≤n∧n<len∧0<P.cellsOf e) (K (.ptr j (off+n.toNat*P.cellsOf e)) s)
  | .cell cs=>aZ (0≤n∧n<len∧0<P.cellsOf e) (K (.cell (cs.drop (n.toNat*P.cellsOf e))) s)
  | .elt j sz idx off=>aZ (0≤n∧n<len∧0<P.cellsOf e) (K (.elt j sz idx (off+n.toNat*P.cellsOf e)) s)
  | _=>False
 | _,_=>False
theorem wR {t:TypeId} {x i:Operand} (ho:o.op=.indexAddr t x i) (hx:au x) (hi:au i) (h:kJ P t x i s K):cZ P w0 T0 o s K:=by
 unfold kJ at h
 intro H a w m hm
 have rx:=hm.ev x hx
 have ri:=hm.ev i hi
 revert h rx ri
 generalize s.ev x=ax
 generalize hvx:a.eval x=vx
 generalize s.ev i=ai
 generalize hvi:a.eval i=vi
 intro h rx ri
 cases ht:P.underlying t with
 | none=>rw [ht] at h;exact h.elim
 | some d=>
  rw [ht] at h
  cases d with
  | slice e=>
   cases ai with
   | int k n=>
    cases ri
    dsimp only at h
    have fin:∀ r ad len cap,vx=.slice (some ad) len cap→0≤n→n<len→0<P.cellsOf e→K r s→Rv (aA T0 w0.heap.size m s w) r (.pointer (some (ad.add (n.toNat*P.cellsOf e))))→∃ r v,K r s∧(execOp a.eval o).run P w=.ok (.value v) w∧Rv (aA T0 w0.heap.size m s w) r v:=by
     intro r ad len cap he h0 h1 hp hk hr
     refine ⟨r,_,hk,?_,hr⟩
     obtain ⟨q,hq⟩:=bM hp
     have hs:=dw (P:=P) hq w
     unfold execOp;rw [ho]
     simp [hvx,hvi,he,Instr.indexAt,asIntOf,run_underlying ht,h0,h1,hs]
    cases ax with
    | ro r=>
     obtain ⟨⟨h0,h1,h2⟩,hk⟩:=h
     cases rx with
     | roNil _ hr=>have:=hr.len;simp at this;have:=hr.pos;rcases Nat.mul_eq_zero.1 (by omega:r.len*r.sz=0) with e|e<;>omega
     | ro _ ad len cap cells hr hl hc hmx hs hid=>
      have hlt:n.toNat<r.len:=by omega
      refine fin _ ad len cap rfl h0 (by omega) (by rw [h2];exact hr.pos) hk (.cell _ _ _ (hr.elem hlt) (Ko _ hid) ?_)
      rw [h2]
      exact (hs.drop _).take _
    | own j=>
     dsimp only at h
     cases hj:lk s.rows j with
     | none=>rw [hj] at h;exact h.elim
     | some it=>
      rw [hj] at h
      cases it with
      | map _ _=>exact h.elim
      | iter _ _ _=>exact h.elim
      | siter _ _=>exact h.elim
      | box e cs=>exact h.elim
      | row e' r=>
       dsimp only at h
       obtain ⟨⟨h0,h1,h2⟩,hk⟩:=h
       obtain ⟨q,cells,hr,hn,how,hO⟩:=(hm.rows j _ hj).2
       cases rx with
       | own _ hj2 _=>
        have hlt:n.toNat<r.len:=by omega
        rcases how.2 with ⟨hv,hq⟩|⟨g,cap,cur,fz,hv,_⟩
        ·omega
        ·have hv':(aA T0 w0.heap.size m s w).m j=.slice (some ⟨g,0,none⟩) q cap:=hv
         refine fin _ _ q cap hv h0 (by omega) (by rw [h2];exact hr.pos) hk ?_
         rw [Addr.add_lit,h2]
         have:=Rv.elt (c:=aA T0 w0.heap.size m s w) j r.sz n.toNat 0 g hj2 (by rw [hv'];rfl)
         simpa using this
    | _=>exact h.elim
   | _=>exact h.elim
  | array len e=>
   cases ai with
   | int k n=>
    cases ri
    dsimp only at h
    have fin:∀ r ad,vx=.pointer (some ad)→0≤n→n<len→0<P.cellsOf e→K r s→Rv (aA T0 w0.heap.size m s w) r (.pointer (some (ad.add (n.toNat*P.cellsOf e))))→∃ r v,K r s∧(execOp a.eval o).run P w=.ok (.value v) w∧Rv (aA T0 w0.heap.size m s w) r v:=by
     intro r ad he h0 h1 hp hk hr
     refine ⟨r,_,hk,?_,hr⟩
     obtain ⟨q,hq⟩:=bM hp
     have hs:=dw (P:=P) hq w
     unfold execOp;rw [ho]
     simp [hvx,hvi,he,Instr.indexAt,asIntOf,run_underlying ht,h0,h1,hs,Instr.sureAddr]
    cases ax with
    | ptr j off=>
     obtain ⟨⟨h0,h1,h2⟩,hk⟩:=h
     cases rx with|ptr _ _ g hj hg=>exact fin _ _ rfl h0 h1 h2 hk (by rw [Addr.add_lit];exact .ptr _ _ _ hj hg)
    | cell cs=>
     obtain ⟨⟨h0,h1,h2⟩,hk⟩:=h
     cases rx with|cell _ vs ad hl hid hs=>exact fin _ ad rfl h0 h1 h2 hk (.cell _ _ _ (hl.drop _) (uJ _ _ hid) (hs.drop _))
    | elt j sz idx off=>
     obtain ⟨⟨h0,h1,h2⟩,hk⟩:=h
     cases rx with|elt _ _ _ _ g hj hg=>exact fin _ _ rfl h0 h1 h2 hk (by rw [Addr.add_lit,Nat.add_assoc];exact .elt _ _ _ _ _ hj hg)
    | _=>exact h.elim
   | _=>exact h.elim
  | _=>exact h.elim
theorem wQ {t:TypeId} {x i:Operand} (ho:o.op=.indexAddr t x i) (hx:au x) (hi:au i) (h:kJ P t x i s K):aT P w0 T0 o s K:=(wR ho hx hi h).op
end
end Go.Fv
/-
 Stores, makes, literal slices, append, len.
-/
namespace Go.Fv
open Go.RowKit
theorem xZ:∀ (us xs ys:List Value) (o:Nat),o+us.length≤xs.length→iM (xs++ys) o us=iM xs o us++ys
 | [],_,_,_,_=>rfl
 | u::us,xs,ys,o,h=>by
  simp only [List.length_cons] at h
  rw [iM,iM,List.set_append_left _ _ (by omega),xZ us _ _ _ (by simp;omega)]
theorem uU:∀ (us xs ys:List Value) (o:Nat),iM (xs++ys) (xs.length+o) us=xs++iM ys o us
 | [],_,_,_=>rfl
 | u::us,xs,ys,o=>by
  rw [iM,iM,List.set_append_right _ _ (by omega),Nat.add_sub_cancel_left,Nat.add_assoc,uU us]
theorem jd:∀ (us xs:List Value) (o:Nat),(iM xs o us).length=xs.length
 | [],_,_=>rfl
 | u::us,xs,o=>by simp [iM,jd us]
theorem bJ.set {c:Ctx} {sz:Nat}:∀ {l:List (List AV)} {cells:List Value} {i off:Nat} {cs:List AV} {us:List Value},bJ c sz l cells→i<l.length→cO c cs us→off+us.length≤sz →
  bJ c sz (l.set i (Fv.spl (l.getD i []) off cs)) (iM cells (i*sz+off) us)
 | _,_,0,off,cs,us,.cons _ o vs l cells h hl t,_,hu,ho=>by
  rw [Nat.zero_mul,Nat.zero_add,xZ _ _ _ _ (by omega)]
  simp only [List.set_cons_zero,List.getD_cons_zero]
  exact .cons _ _ _ _ _ (h.spl off hu) (by rw [jd];exact hl) t
 | _,_,i+1,off,cs,us,.cons _ o vs l cells h hl t,hi,hu,ho=>by
  have e:(i+1)*sz+off=vs.length+(i*sz+off):=by rw [Nat.succ_mul,hl];omega
  rw [e,uU]
  simp only [List.set_cons_succ,List.getD_cons_succ]
  exact .cons _ _ _ _ _ h hl (bJ.set t (by simpa using hi) hu ho)
theorem Lj {c:Ctx} {r r':aF} {cells:List Value} {idx off:Nat} {cs:List AV} {us:List Value} (hr:bP c r cells) (h:lH r idx off cs=some r') (hu:cO c cs us)
  (hi:idx<r.len):bP c r' (iM cells (idx*r.sz+off) us)∧r'.len=r.len∧r'.sz=r.sz∧off+us.length≤r.sz:=by
 cases hr with
 | bools l=>
  simp only [lH] at h
  split at h<;>try (cases h;done)
  split at h<;>cases h
  rename_i e;subst e
  cases hu with
  | cons _ _ _ _ hx _ t=>
   cases hx;cases t
   refine ⟨?_,by simp [aF.len],rfl,by simp [aF.sz]⟩
   simp only [aF.sz,Nat.mul_one,Nat.add_zero,iM]
   rw [←List.map_set];exact .bools _
 | ints k l hk=>
  simp only [lH] at h
  split at h<;>try (cases h;done)
  split at h<;>cases h
  rename_i e;obtain ⟨e,e2⟩:=e;subst e;subst e2
  cases hu with
  | cons _ _ _ _ hx _ t=>
   cases t
   cases hx with
   | int _ _ hin=>
    refine ⟨?_,by simp [aF.len],rfl,by simp [aF.sz]⟩
    simp only [aF.sz,Nat.mul_one,Nat.add_zero,iM]
    rw [←List.map_set]
    exact .ints _ _ fun x hx=>by
     rcases List.mem_or_eq_of_mem_set hx with h|h
     ·exact hk x h
     ·rw [h];exact hin
 | strs l hs=>
  have key:∀ q:List UInt8,q.length≤maxLen→bP c (.strs (l.set idx q)) ((l.map fun s=>Value.string ⟨s.toArray⟩).set idx (Value.string ⟨q.toArray⟩)):=by
   intro q hl
   have:(l.map fun s=>Value.string ⟨s.toArray⟩).set idx (Value.string ⟨q.toArray⟩)=(l.set idx q).map fun s=>Value.string ⟨s.toArray⟩:=(List.map_set ..).symm
   rw [this]
   exact .strs _ fun x hx=>by
    rcases List.mem_or_eq_of_mem_set hx with h|h
    ·exact hs x h
    ·rw [h];exact hl
  simp only [lH] at h
  split at h<;>try (cases h;done)
  split at h<;>cases h
  rename_i e;subst e
  cases hu with
  | cons _ _ _ _ hx _ t=>
   cases t
   cases hx with
   | str _ hl=>
    exact ⟨by simpa only [aF.sz,Nat.mul_one,Nat.add_zero,iM] using key _ hl,by simp [aF.len],rfl,by simp [aF.sz]⟩
 | objs sz l cells hz ho=>
  simp only [lH] at h
  split at h<;>cases h
  rename_i hle
  have hlen:=hu.length
  refine ⟨?_,by simp [aF.len],rfl,by simp only [aF.sz];omega⟩
  simp only [aF.sz]
  exact .objs _ _ _ hz (ho.set (by simpa [aF.len] using hi) hu (by omega))
end Go.Fv
