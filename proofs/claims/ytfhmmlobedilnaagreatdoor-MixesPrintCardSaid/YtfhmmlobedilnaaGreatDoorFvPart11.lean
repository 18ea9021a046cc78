/-
  A part of the proof of the claim: walks over the program's functions and the plain laws that these need. No condition of its own.
-/
import Derived.Test.YtfhmmlobedilnaaGreatDoorFvPart10
import Derived.Shelf.SortM.Plain
import Derived.Shelf.SortM.SortNone
set_option linter.unusedSectionVars false
set_option linter.unusedVariables false
set_option linter.unusedSimpArgs false
set_option linter.unnecessarySimpa false
/-
 Families of rows: as many owned rows as a list tells, with names one behind the other.
-/
namespace Go.Fv
section
variable {w0:World} {T0:Bs} {b0:Nat}
theorem dB.PG (p:Nat→Nat) {s s':S} (hn:s'.n=s.n) (hb:b0≤s'.next) (hlow:∀ i,i<b0→p i=i) (he:uX p s s'.next s'.env)
  (hr:∀ i it,lk s'.rows i=some it→i<s'.next∧lk s.rows (p i)=some (it.ren p)∧it.below s'.next=true)
  (hinj:∀ i j it jt,lk s'.rows i=some it→lk s'.rows j=some jt→p i=p j→i=j):dB w0 T0 b0 s s':=by
 rintro H a w hH ⟨m,hm⟩
 have hren:iF p (ak T0 w0.heap.size m s w) (ak T0 w0.heap.size (fun i=>m (p i)) s' w):=
  {m:=fun _ _=>rfl,
   t:=by
    intro b ⟨h1,h2⟩ _
    refine ⟨⟨h1,fun i it hi e=>?_⟩,rfl⟩
    obtain ⟨_,h3,_⟩:=hr i it hi
    exact h2 _ _ h3 e }
 refine ⟨fun i=>m (p i),{ size:=by rw [hn];exact hm.size,nodef:=hm.nodef,below:=hm.below,env:=?_,held:=?_,rows:=?_,sep:=?_ }⟩
 ·intro r v hv
  obtain ⟨h1,h2⟩:=rE he r v (bQ hv)
  refine Rv.ren hren v h2 ?_
  have:Rv (ak T0 w0.heap.size m s w) (s.get r) (a.tmps.getD r undef):=by
   simp only [S.get]
   cases hq:lk s.env r with
   | none=>exact .dead _
   | some y=>exact hm.env r y hq
  rw [←h1];exact this
 ·intro q hq
  have h1:=hH q hq
  refine Rv.ren hren q.1 (below_le hb _ h1) ?_
  rw [fA hlow _ h1];exact hm.held q hq
 ·intro i it hi
  obtain ⟨h1,h2,h3⟩:=hr i it hi
  exact ⟨h1,aG.ren hren rfl h3 (hm.rows _ _ h2).2⟩
 ·intro i j it jt b hi hj hbi hbj
  obtain ⟨_,h2,_⟩:=hr i it hi
  obtain ⟨_,h2',_⟩:=hr j jt hj
  exact hinj i j it jt hi hj (hm.sep _ _ _ _ b h2 h2' hbi hbj)
end
/-! ### Renamings by hand -/
def p1 (a K x:Nat):Nat:=if x=a then K else x
def p2 (a K a' K' x:Nat):Nat:=if x=a then K else if x=a' then K' else x
end Go.Fv
/-
 An owned row becomes data, wherever the state speaks of it.
-/
namespace Go.Fv
open Go.RowKit
mutual
def fz (k:Nat) (r:au):AV→AV
 | .own i=>if i=k then .ro r else .own i
 | .ptr i o=>.ptr i o
 | .elt i a b c=>.elt i a b c
 | .pre i n=>.pre i n
 | .suf i sz o n=>.suf i sz o n
 | .agg cs=>.agg (DI k r cs)
 | .tup cs=>.tup (DI k r cs)
 | .fn f cs=>.fn f (DI k r cs)
 | .cell cs=>.cell cs
 | .dead=>.dead
 | .nilS=>.nilS
 | .bool b=>.bool b
 | .int q n=>.int q n
 | .str s=>.str s
 | .ro r=>.ro r
 | .raw v=>.raw v
 | .opt b v=>.opt b (fz k r v)
 | .ifc b v=>.ifc b (fz k r v)
 | .bm b v=>.bm b (fz k r v)
 | .mp ks vs=>.mp ks vs
def DI (k:Nat) (r:au):List AV→List AV
 | []=>[]
 | x::l=>fz k r x::DI k r l
end
def Nc (k:Nat) (q:au):au→au
 | .objs sz l=>.objs sz (l.map (DI k q))
 | .bools l=>.bools l
 | .ints k l=>.ints k l
 | .strs l=>.strs l
def Nz (k:Nat) (q:au):Item→Item
 | .row e r=>.row e (Nc k q r)
 | .box e cs=>.box e (DI k q cs)
 | .map ks vs=>.map (DI k q ks) (DI k q vs)
 | .iter mp since seen=>.iter mp since seen
 | .siter t pos=>.siter t pos
def Ny (k:Nat) (q:au):List (Nat × AV)→List (Nat × AV)
 | []=>[]
 |(i,v)::l=>(i,fz k q v)::Ny k q l
def oO (k:Nat) (q:au):List (Nat × Item)→List (Nat × Item)
 | []=>[]
 |(i,it)::l=>if i=k then oO k q l else (i,Nz k q it)::oO k q l
def S.fz (s:S) (k:Nat) (r:au):S:={ s with env:=Ny k r s.env,rows:=oO k r s.rows }
theorem IZ (k:Nat) (q:au):∀ (l:List (Nat × AV)) (i:Nat),lk (Ny k q l) i=(lk l i).map (fz k q)
 | [],i=>rfl
 |(j,v)::l,i=>by
  simp only [Ny,lk]
  split
  ·rfl
  ·exact IZ k q l i
theorem rJ (k:Nat) (q:au):∀ (l:List (Nat × Item)) (i:Nat),lk (oO k q l) i=if i=k then none else (lk l i).map (Nz k q)
 | [],i=>by simp [oO,lk]
 |(j,v)::l,i=>by
  simp only [oO]
  split
  ·rename_i e;subst e
   rw [rJ]
   by_cases h:i=j
   ·simp [h]
   ·simp only [if_neg h,lk];rw [if_neg (fun e=>h e.symm)]
  ·rename_i e
   simp only [lk]
   split
   ·rename_i e2;subst e2;rw [if_neg e];rfl
   ·exact rJ k q l i
mutual
theorem lT {k:Nat} {r:au} (n:Nat):∀ x:AV,below n x=true→below n (fz k r x)=true
 | .own i,h=>by
  simp only [fz];split
  ·rfl
  ·exact h
 | .ptr i o,h=>h
 | .elt i a b c,h=>h
 | .pre i n,h=>h
 | .suf i sz o n,h=>h
 | .agg cs,h=>by simp only [fz,below] at *;exact nH n cs h
 | .tup cs,h=>by simp only [fz,below] at *;exact nH n cs h
 | .fn f cs,h=>by simp only [fz,below] at *;exact nH n cs h
 | .cell cs,_=>rfl
 | .dead,_=>rfl
 | .nilS,_=>rfl
 | .bool _,_=>rfl
 | .int _ _,_=>rfl
 | .str _,_=>rfl
 | .ro _,_=>rfl
 | .raw _,_=>rfl
 | .opt _ v,h=>by simp only [fz,below] at *;exact lT n v h
 | .ifc _ v,h=>by simp only [fz,below] at *;exact lT n v h
 | .bm _ v,h=>by simp only [fz,below] at *;exact lT n v h
 | .mp _ _,_=>rfl
theorem nH {k:Nat} {r:au} (n:Nat):∀ x:List AV,aA n x=true→aA n (DI k r x)=true
 | [],_=>rfl
 | x::l,h=>by
  simp only [aA,Bool.and_eq_true] at h
  simp [DI,aA,lT n x h.1,nH n l h.2]
end
mutual
theorem vH (k:Nat) (r:au) (b0:Nat) (hb:b0≤k):∀ x:AV,below b0 x=true→fz k r x=x
 | .own i,h=>by
  simp only [below,decide_eq_true_eq] at h
  simp only [fz];rw [if_neg (by omega)]
 | .ptr i o,h=>rfl
 | .elt i a b c,h=>rfl
 | .pre i n,h=>rfl
 | .suf i sz o n,h=>rfl
 | .agg cs,h=>by simp only [fz];rw [uh k r b0 hb cs (by simpa [below] using h)]
 | .tup cs,h=>by simp only [fz];rw [uh k r b0 hb cs (by simpa [below] using h)]
 | .fn f cs,h=>by simp only [fz];rw [uh k r b0 hb cs (by simpa [below] using h)]
 | .cell cs,_=>rfl
 | .dead,_=>rfl
 | .nilS,_=>rfl
 | .bool _,_=>rfl
 | .int _ _,_=>rfl
 | .str _,_=>rfl
 | .ro _,_=>rfl
 | .raw _,_=>rfl
 | .mp _ _,_=>rfl
 | .opt b v,h=>by simp only [fz];rw [vH k r b0 hb v (by simpa [below] using h)]
 | .ifc b v,h=>by simp only [fz];rw [vH k r b0 hb v (by simpa [below] using h)]
 | .bm b v,h=>by simp only [fz];rw [vH k r b0 hb v (by simpa [below] using h)]
theorem uh (k:Nat) (r:au) (b0:Nat) (hb:b0≤k):∀ x:List AV,aA b0 x=true→DI k r x=x
 | [],_=>rfl
 | x::l,h=>by
  simp only [aA,Bool.and_eq_true] at h
  simp only [DI];rw [vH k r b0 hb x h.1,uh k r b0 hb l h.2]
end
structure uH (k:Nat) (r:au) (c c':Ctx):Prop where
 n:c'.N=c.N
 m:c'.m=c.m
 t:∀ b,c.T b→b<c.w.heap.size→c'.T b∧c'.w.heap[b]?=c.w.heap[b]?
 ro:Rv c' (.ro r) (c.m k)
mutual
theorem Rv.fz {k:Nat} {r:au} {c c':Ctx} (h:uH k r c c'):∀ {x:AV} {v:Value},Rv c x v→Rv c' (Fv.fz k r x) v
 | _,_,.dead v=>.dead v
 | _,_,.nilS=>.nilS
 | _,_,.bool b=>.bool b
 | _,_,.int q n hk=>.int q n hk
 | _,_,.str s hs=>.str s hs
 | _,_,.roNil r hr hi=>.roNil r (aS.bY h.t hr hi) hi
 | _,_,.ro r a len cap cells hr hl hc hm hs hi=>.ro r a len cap cells (aS.bY h.t hr hi) hl hc hm (hs.mono' h.t) hi
 | _,_,.mp ks vs g es clock hk hv hb hc hT hh hi hi2=>.mp ks vs g es clock (bI.bY h.t hk hi) (bI.bY h.t hv hi2) hb hc (h.t g hT (Array.getElem?_eq_some_iff.1 hh).1).1 (by rw [(h.t g hT (Array.getElem?_eq_some_iff.1 hh).1).2];exact hh) hi hi2
 | _,_,.own i hi h1=>by
  simp only [Fv.fz]
  split
  ·rename_i e;subst e;exact h.ro
  ·rw [←h.m];exact .own i (by rw [h.n];exact hi) (by rw [h.m];exact h1)
 | _,_,.cell cs vs a hl hi hs=>.cell cs vs a (aV.bY h.t hl hi) hi (hs.mono' h.t)
 | _,_,.ptr i off g hi hg=>.ptr i off g (by rw [h.n];exact hi) (by rw [h.m];exact hg)
 | _,_,.elt i a b d g hi hg=>.elt i a b d g (by rw [h.n];exact hi) (by rw [h.m];exact hg)
 | _,_,.pre i n l cap a hi hv hn=>.pre i n l cap a (by rw [h.n];exact hi) (by rw [h.m];exact hv) hn
 | _,_,.suf i sz o n l cap a hi hv hn=>.suf i sz o n l cap a (by rw [h.n];exact hi) (by rw [h.m];exact hv) hn
 | _,_,.agg cs vs hl=>.agg _ vs (aV.fz h hl)
 | _,_,.tup cs vs hl=>.tup _ vs (bI.fz h hl)
 | _,_,.fn f cs vs hl=>.fn f _ vs (bI.fz h hl)
 | _,_,.raw v=>.raw v
 | _,_,.opt b x v hb hx h2=>.opt b _ v (by rw [h.n];exact lT _ _ hb) (fun e=>Rv.fz h (hx e)) h2
 | _,_,.ifc t x v hx=>.ifc t _ v (Rv.fz h hx)
 | _,_,.bm t x v hx=>.bm t _ v (Rv.fz h hx)
theorem aV.fz {k:Nat} {r:au} {c c':Ctx} (h:uH k r c c'):∀ {x:List AV} {v:List Value},aV c x v→aV c' (DI k r x) v
 | _,_,.nil=>.nil
 | _,_,.cons x v l vs hx h1 ht=>.cons _ v _ vs (Rv.fz h hx) h1 (aV.fz h ht)
theorem bI.fz {k:Nat} {r:au} {c c':Ctx} (h:uH k r c c'):∀ {x:List AV} {v:List Value},bI c x v→bI c' (DI k r x) v
 | _,_,.nil=>.nil
 | _,_,.cons x v l vs hx ht=>.cons _ v _ vs (Rv.fz h hx) (bI.fz h ht)
end
theorem aP.fz {k:Nat} {r:au} {c c':Ctx} (h:uH k r c c'):∀ {sz:Nat} {x:List (List AV)} {v:List Value},aP c sz x v→aP c' sz (x.map (DI k r)) v
 | _,_,_,.nil sz=>.nil sz
 | _,_,_,.cons sz o vs l cells ho hl ht=>.cons sz _ vs _ cells (ho.fz h) hl (ht.fz h)
theorem aS.fz {k:Nat} {q:au} {c c':Ctx} (h:uH k q c c') {x:au} {v:List Value} (hr:aS c x v):aS c' (Nc k q x) v:=by
 cases hr with
 | bools l=>exact .bools l
 | ints k l hk=>exact .ints k l hk
 | strs l hs=>exact .strs l hs
 | objs sz l cells hz ho=>exact .objs sz _ _ hz (ho.fz h)
theorem Ky (k:Nat) (q r:au):(Nc k q r).len=r.len:=by cases r<;>simp [Nc,au.len]
theorem Md (k:Nat) (q r:au):(Nc k q r).sz=r.sz:=by cases r<;>rfl
theorem aG.fz {k:Nat} {q:au} {c c':Ctx} (h:uH k q c c') (hw:c'.w=c.w) {O:Nat→Prop} {v:Value} {it:Item} (hi:aG c O v it):aG c' O v (Nz k q it):=by
 cases it with
 | row e r=>
  obtain ⟨n,cells,hr,hn,ho,hO⟩:=hi
  exact ⟨n,cells,hr.fz h,by rw [Ky];exact hn,by rw [Md,hw];exact ho,hO⟩
 | box e cs=>obtain ⟨g,vs,rfl,hg,hl,hh⟩:=hi;exact ⟨g,vs,rfl,hg,hl.fz h,by rw [hw];exact hh⟩
 | map ks vs=>obtain ⟨g,es,clock,rfl,hg,h1,h2,h3,h4,hh⟩:=hi;exact ⟨g,es,clock,rfl,hg,h1.fz h,h2.fz h,h3,h4,by rw [hw];exact hh⟩
 | iter mp since seen=>obtain ⟨g,p,sn,last,rfl,hg,h1,h2,h3,h4,hh⟩:=hi;exact ⟨g,p,sn,last,rfl,hg,by rw [h.n];exact h1,by rw [h.m];exact h2,h3,h4,by rw [hw];exact hh⟩
 | siter t pos=>obtain ⟨g,rfl,hg,hh⟩:=hi;exact ⟨g,rfl,hg,by rw [hw];exact hh⟩
section
variable {w0:World} {T0:Bs} {b0:Nat}
theorem dB.fz (k:Nat) {s:S} {e:TypeId} {r:au} (hk:lk s.rows k=some (.row e r)) (hid:dM r=true) (hb:b0≤k):dB w0 T0 b0 s (s.fz k r):=by
 rintro H a w hH ⟨m,hm⟩
 have hsub:∀ i it,lk (s.fz k r).rows i=some it→i≠k∧∃ jt,lk s.rows i=some jt∧it=Nz k r jt:=by
  intro i it hi
  simp only [S.fz,rJ] at hi
  split at hi
  ·cases hi
  ·rename_i hne
   cases hq:lk s.rows i with
   | none=>rw [hq] at hi;cases hi
   | some jt=>rw [hq] at hi;cases hi;exact ⟨hne,jt,rfl,rfl⟩
 have hdel:∀ i it,lk (del s.rows k) i=some it→lk s.rows i=some it:=gW _ _
 have hro:=Em hm hk hdel (by rw [kQ,if_pos rfl]) hid
 have hT:∀ b,allow T0 w0.heap.size m (del s.rows k) b→allow T0 w0.heap.size m (s.fz k r).rows b:=by
  rintro b ⟨h1,h2⟩
  refine ⟨h1,fun i it hi e=>?_⟩
  obtain ⟨hne,jt,hj,_⟩:=hsub i it hi
  exact h2 i jt (by rw [kQ,if_neg hne];exact hj) e
 have hc:uH k r (ak T0 w0.heap.size m s w) (ak T0 w0.heap.size m (s.fz k r) w):=
  {n:=rfl,m:=rfl,
   t:=by
    intro b ⟨h1,h2⟩ _
    exact ⟨hT b ⟨h1,fun i it hi=>h2 i it (hdel i it hi)⟩,rfl⟩,
   ro:=by
    refine Rv.bY (c:=ak T0 w0.heap.size m { s with rows:=del s.rows k } w) ?_ hro rfl
    intro b hb _
    exact ⟨hT b hb,rfl⟩ }
 refine ⟨m,{ size:=hm.size,nodef:=hm.nodef,below:=hm.below,env:=?_,held:=?_,rows:=?_,sep:=?_ }⟩
 ·intro q v hv
  simp only [S.fz,IZ] at hv
  cases hq:lk s.env q with
  | none=>rw [hq] at hv;cases hv
  | some y=>rw [hq] at hv;cases hv;exact (hm.env q y hq).fz hc
 ·intro p hp
  have h1:=(hm.held p hp).fz hc
  have h2:Fv.fz k r p.1=p.1:=by
   have hlow:=hH p hp
   exact vH k r b0 hb p.1 hlow
  rwa [h2] at h1
 ·intro i it hi
  obtain ⟨hne,jt,hj,rfl⟩:=hsub i it hi
  exact ⟨(hm.rows i jt hj).1,(hm.rows i jt hj).2.fz hc rfl⟩
 ·intro i j it jt b hi hj hbi hbj
  obtain ⟨_,it',hi',_⟩:=hsub i it hi
  obtain ⟨_,jt',hj',_⟩:=hsub j jt hj
  exact hm.sep i j it' jt' b hi' hj' hbi hbj
end
attribute [go_sem] fz DI Nc Nz Ny oO S.fz
end Go.Fv
/-
 The set by which states are held against one another.
-/
namespace Go.Fv
theorem Df (p:Nat→Nat) (x:AV):∀ n:Nat,dh p (List.replicate n x)=List.replicate n (ren p x)
 | 0=>rfl
 | n+1=>by simp only [List.replicate_succ,dh];rw [Df p x n]
theorem uS {N:Nat} {x:AV} (h:below N x=true):∀ n:Nat,aA N (List.replicate n x)=true
 | 0=>rfl
 | n+1=>by simp only [List.replicate_succ,aA,h,Bool.true_and];exact uS h n
theorem yM {x:AV} (h:bg x=true):∀ n:Nat,bD (List.replicate n x)=true
 | 0=>rfl
 | n+1=>by simp only [List.replicate_succ,bD,h,Bool.true_and];exact yM h n
theorem KL {x:AV} (h:bg x=true) (n:Nat) (y:List AV):zL (List.replicate n x) y=[]:=jk _ y (yM h n)
theorem Bh (N n:Nat) (b:Bool):aA N (List.replicate n (AV.bool b))=true:=uS rfl n
theorem Jb (n:Nat) (b:Bool) (y:List AV):zL (List.replicate n (AV.bool b)) y=[]:=KL rfl n y
attribute [go_sem] Jc yL rQ Jz MN Cm iM uX fP FN FM zM mkItem mkV zL pm Item.below AV.own.injEq AV.str.injEq AV.ro.injEq AV.agg.injEq AV.tup.injEq List.cons.injEq Option.some.injEq Item.row.injEq Item.box.injEq au.ints.injEq au.bools.injEq au.strs.injEq au.objs.injEq Nat.succ_ne_self Df Bh Jb yK
attribute [go_sem] ku Dc FV
end Go.Fv
/-
 Calls into the callee's code: what it writes into memory that the caller owns is seen by the caller.
-/
namespace Go.Fv
open Go.RowKit
def JM (P:Program) (res:List ResultVar) (s:S) (K:AV→S→Prop):Exit→S→Prop
 | .normal,s1=>rQ P s1 res (fun vs=>K (iM vs) { s with rows:=s1.rows,next:=s1.next })
 | .ret,s1=>rQ P s1 res (fun vs=>K (iM vs) { s with rows:=s1.rows,next:=s1.next })
 | _,_=>False
section
variable {P:Program} {w0:World} {T0:Bs}
theorem ah.inl {f:Nat} {fn:Func} {c:Code} {args:List AV} {s:S} {K:AV→S→Prop} (hf:P.funcs[f]?=some fn) (hb:fn.body=some c)
  (hnm:(fn.name == "runtime.NumGoroutine")=false) (hn:args.length≤fn.ntmps) (res:List ResultVar) (hres:fn.results=res.toArray)
  (h:VcRun P w0 T0 s.next c ⟨fn.ntmps,aI 0 args,s.rows,s.next⟩ (JM P res s K)):@ah P w0 T0 f args s ⟨K⟩:=by
 refine ⟨⟨fn,hf,by rw [hb];rfl,hnm⟩,fun H a w m vals hm hv=>?_⟩
 refine calls_of_wp hf hb ?_
 have hlen:=hv.length
 have hE:∀ p,p∈(s.env.map fun p=>(s.get p.1,a.tmps.getD p.1 undef))++H→Rv (ak T0 w0.heap.size m s w) p.1 p.2:=by
  intro p hp
  rcases List.mem_append.1 hp with hp|hp
  ·obtain ⟨q,_,rfl⟩:=List.mem_map.1 hp
   show Rv _ (s.get q.1) _
   unfold S.get
   cases hl:lk s.env q.1 with
   | none=>exact .dead _
   | some y=>exact hm.env q.1 y hl
  ·exact hm.held p hp
 have hrep:aF w0 T0 ((s.env.map fun p=>(s.get p.1,a.tmps.getD p.1 undef))++H) ⟨fn.ntmps,aI 0 args,s.rows,s.next⟩ { tmps:=vals.toArray++Array.replicate (fn.ntmps - vals.toArray.size) undef,defers:=[] } w m:=
  {size:=by simp;omega,nodef:=rfl,below:=hm.below,
   env:=by
    intro r v hr
    obtain ⟨u,h1,h2⟩:=mY 0 [] rfl hv r v hr
    have e:((vals.toArray++Array.replicate (fn.ntmps - vals.toArray.size) undef).getD r undef)=u:=by
     have h1':vals[r]?=some u:=by simpa using h1
     have hlt:r<vals.length:=(List.getElem?_eq_some_iff.1 h1').1
     rw [Array.getD_eq_getD_getElem?,Array.getElem?_append_left (by simpa using hlt)]
     simp [h1']
    rw [e];exact h2,
   held:=hE,rows:=hm.rows,sep:=hm.sep }
 refine wp_mono (h _ _ w (fun p hp=>(hE p hp).ids) ⟨m,hrep⟩) ?_
 rintro e a1 w1 ⟨s1,hq,m1,hm1⟩
 have fin:rQ P s1 res (fun vs=>K (iM vs) { s with rows:=s1.rows,next:=s1.next })→a1.defers=[]∧∃ v,(results fn a1.tmps).run P w1=.ok v w1∧∃ v',Ending.returned v=.returned v'∧∃ r s',K r s'∧Rep w0 T0 ((r,v')::H) s' a w1:=by
  intro hk
  obtain ⟨l,vs,hk,hr,hvs⟩:=mJ hm1 hk
  have hrv:Rv (ak T0 w0.heap.size m1 s1 w1) (iM l) (Ew vs):=by
   cases hvs with
   | nil=>exact .tup _ _ .nil
   | cons x v l us hx ht=>
    cases ht with
    | nil=>exact hx
    | cons x' v' l' us' hx' ht'=>exact .tup _ _ (.cons _ _ _ _ hx (.cons _ _ _ _ hx' ht'))
  refine ⟨hm1.nodef,_,iU hres a1.tmps hr,_,rfl,_,_,hk,m1,?_⟩
  exact
     {size:=hm.size,nodef:=hm.nodef,below:=hm1.below,
      env:=by
       intro r v hv
       have hmem:(s.get r,a.tmps.getD r undef)∈(s.env.map fun p=>(s.get p.1,a.tmps.getD p.1 undef))++H:=
        List.mem_append.2 (.inl (List.mem_map.2 ⟨(r,v),bQ hv,rfl⟩))
       have:=hm1.held _ hmem
       have e:s.get r=v:=by unfold S.get;rw [show lk s.env r=some v from hv]
       rw [e] at this;exact this,
      held:=by
       intro p hp
       cases List.mem_cons.1 hp with
       | inl e=>subst e;exact hrv
       | inr e=>exact hm1.held p (List.mem_append.2 (.inr e)),
      rows:=hm1.rows,sep:=hm1.sep }
 cases e with
 | normal=>exact fin hq
 | ret=>exact fin hq
 | _=>exact hq.elim
end
end Go.Fv
/-
 Contracts of functions that are given memory, which they turn and hand back.
-/
namespace Go.Fv
open Go.RowKit
def y9 (w:World) (T g:Nat→Prop) (m0:Nat→Value) (k:Nat) (rows0:List (Nat × Item)):Prop:=
 (∀ i it,lk rows0 i=some it→i<k∧aG ⟨w,T,m0,k⟩ g (m0 i) it) ∧
 (∀ i j it jt b,lk rows0 i=some it→lk rows0 j=some jt→blk (m0 i)=some b→blk (m0 j)=some b→i=j) ∧
 (∀ b,T b→¬g b)
def fV (P:Program) (f:Nat) (args:List AV) (rows0:List (Nat × Item)) (k:Nat) (out:AV) (rows:List (Nat × Item)):Prop:=
 Enter P f∧∀ (w:World) (T g:Nat→Prop) (m0:Nat→Value) (vals:List Value),y9 w T g m0 k rows0→lH P w→(∀ (b:Nat) (q:GK),IC P b=some q→¬g b)→bI ⟨w,T,m0,k⟩ args vals →
  Calls P f vals.toArray w fun e w'=>∃ v,e=.returned v∧aK g w w'∧∃ m N,(∀ i,i<k→m i=m0 i)∧k≤N ∧
   Rv ⟨w',allow ⟨fun b=>T b∨g b,g⟩ w.heap.size m rows,m,N⟩ out v ∧
   (∀ i it,lk rows i=some it→i<N∧aG ⟨w',allow ⟨fun b=>T b∨g b,g⟩ w.heap.size m rows,m,N⟩ (ownB ⟨fun b=>T b∨g b,g⟩ w.heap.size) (m i) it) ∧
   (∀ i j it jt b,lk rows i=some it→lk rows j=some jt→blk (m i)=some b→blk (m j)=some b→i=j)
section
variable {P:Program} {w0:World} {T0:Bs}
def jd (P:Program) (w0:World) (T0:Bs) (k:Nat) (res:List ResultVar) (out:AV) (rows:List (Nat × Item)) (s:S):Prop:=
 ∀ (H:List (AV × Value)) (a:Act) (w:World),uJ k H→Rep w0 T0 H s a w→∃ v,(∀ (fn:Func),fn.results=res.toArray→(results fn a.tmps).run P w=.ok v w) ∧
  ∃ m N,k≤N∧(∀ p,p∈H→Rv ⟨w,allow T0 w0.heap.size m rows,m,N⟩ p.1 p.2)∧Rv ⟨w,allow T0 w0.heap.size m rows,m,N⟩ out v ∧
   (∀ i it,lk rows i=some it→i<N∧aG ⟨w,allow T0 w0.heap.size m rows,m,N⟩ (ownB T0 w0.heap.size) (m i) it) ∧
   (∀ i j it jt b,lk rows i=some it→lk rows j=some jt→blk (m i)=some b→blk (m j)=some b→i=j)
def Lj (P:Program) (w0:World) (T0:Bs) (k:Nat) (res:List ResultVar) (out:AV) (rows:List (Nat × Item)):Exit→S→Prop
 | .normal,s=>jd P w0 T0 k res out rows s
 | .ret,s=>jd P w0 T0 k res out rows s
 | _,_=>False
@[congr] theorem LW {k:Nat} {res:List ResultVar} {out:AV} {rows:List (Nat × Item)} {s s':S} (h:s=s'):jd P w0 T0 k res out rows s=jd P w0 T0 k res out rows s':=by rw [h]
theorem jd.of {k:Nat} (l:List (Nat × Nat)) (N:Nat) (hl:∀ x,x∈l→k≤x.1) (hk:k≤N) {res:List ResultVar} {out:AV} {rows:List (Nat × Item)} {s:S} (h:rQ P s res (fun vs=>iM vs=ren (pm l) out)) (hb:Fv.below N out=true) (hr:fP (pm l) s.rows N rows):jd P w0 T0 k res out rows s:=by
 rintro H a w hH ⟨m,hm⟩
 obtain ⟨vs,us,he,hrun,hvs⟩:=mJ hm h
 have hlow:∀ i,i<k→pm l i=i:=by
  intro i hi
  unfold pm
  cases h:lk l i with
  | none=>rfl
  | some j=>have:=hl _ (bQ h);simp at this;omega
 have hrv:Rv (ak T0 w0.heap.size m s w) (iM vs) (Ew us):=by
  cases hvs with
  | nil=>exact .tup _ _ .nil
  | cons x v l us hx ht=>
   cases ht with
   | nil=>exact hx
   | cons x' v' l' us' hx' ht'=>exact .tup _ _ (.cons _ _ _ _ hx (.cons _ _ _ _ hx' ht'))
 have hren:iF (pm l) (ak T0 w0.heap.size m s w) ⟨w,allow T0 w0.heap.size (fun i=>m (pm l i)) rows,fun i=>m (pm l i),N⟩:=
  {m:=fun _ _=>rfl,
   t:=by
    intro b ⟨h1,h2⟩ _
    refine ⟨⟨h1,fun i it hi e=>?_⟩,rfl⟩
    obtain ⟨_,h3,_⟩:=bW hr i it (bQ hi)
    exact h2 _ _ h3 e }
 refine ⟨_,fun fn hf=>iU hf a.tmps hrun,fun i=>m (pm l i),N,hk,fun p hp=>?_,Rv.ren hren out hb (by rw [←he];exact hrv),fun i it hi=>?_,fun i j it jt b hi hj hbi hbj=>?_⟩
 ·have h1:=hH p hp
  refine Rv.ren hren p.1 (below_le hk _ h1) ?_
  rw [fA hlow _ h1];exact hm.held p hp
 ·obtain ⟨h1,h2,h3⟩:=bW hr i it (bQ hi)
  exact ⟨h1,aG.ren hren rfl h3 (hm.rows _ _ h2).2⟩
 ·obtain ⟨_,h2,_⟩:=bW hr i it (bQ hi)
  obtain ⟨_,h2',_⟩:=bW hr j jt (bQ hj)
  exact nN hr i j it jt (bQ hi) (bQ hj) (hm.sep _ _ _ _ b h2 h2' hbi hbj)
theorem jd.auto {k:Nat} (N:Nat) (hk:k≤N) {res:List ResultVar} {out:AV} {rows:List (Nat × Item)} {s:S} (h:rQ P s res (fun vs=>iM vs=ren (pm (yG k (Cm s res out rows))) out)) (hb:Fv.below N out=true) (hr:fP (pm (yG k (Cm s res out rows))) s.rows N rows):jd P w0 T0 k res out rows s:=
 jd.of _ N (vG k _) hk h hb hr
theorem aG.oneCell {c:Ctx} {O:Nat→Prop} {v:Value} {it:Item} (h:aG c O v it):v.oneCell'=true:=by
 cases it with
 | row e r=>
  obtain ⟨n,cells,_,_,ho,_⟩:=h
  rcases ho.2 with ⟨rfl,_⟩|⟨g,cap,cur,fz,rfl,_⟩<;>rfl
 | box e cs=>obtain ⟨g,vs,rfl,_⟩:=h;rfl
 | map ks vs=>obtain ⟨g,es,clock,rfl,_⟩:=h;rfl
 | iter mp since seen=>obtain ⟨g,q,sn,last,rfl,_⟩:=h;rfl
 | siter t pos=>obtain ⟨g,rfl,_⟩:=h;rfl
theorem fV.of_run {f:Nat} {fn:Func} {c:Code} {args:List AV} {rows0:List (Nat × Item)} {k:Nat} {out:AV} {rows:List (Nat × Item)} (hf:P.funcs[f]?=some fn) (hb:fn.body=some c)
  (hnm:(fn.name == "runtime.NumGoroutine")=false) (hn:args.length≤fn.ntmps) (hcov:∀ j,j<k→∃ it,lk rows0 j=some it) (res:List ResultVar) (hres:fn.results=res.toArray)
  (h:∀ (w0:World) (T0:Bs) [lC P w0 T0],VcRun P w0 T0 k c ⟨fn.ntmps,aI 0 args,rows0,k⟩ (Lj P w0 T0 k res out rows)):fV P f args rows0 k out rows:=by
 refine ⟨⟨fn,hf,by rw [hb];rfl,hnm⟩,fun w T g m0 vals hG hgl hgg hv=>?_⟩
 haveI:lC P w ⟨fun b=>T b∨g b,g⟩:=⟨hgl,fun b q hq h=>hgg b q hq h.1⟩
 obtain ⟨hrows,hsep,hTg⟩:=hG
 refine calls_of_wp hf hb ?_
 have hlen:=hv.length
 have hle:bK (⟨w,T,m0,k⟩:Ctx) (ak ⟨fun b=>T b∨g b,g⟩ w.heap.size m0 ⟨fn.ntmps,aI 0 args,rows0,k⟩ w):=
  ⟨Nat.le_refl _,fun _ _=>rfl,fun b hb _=>⟨⟨.inr (.inl hb),fun i it hi e=>hTg b hb ((hrows i it hi).2.blk b e).1⟩,rfl⟩⟩
 have hrep:aF w ⟨fun b=>T b∨g b,g⟩ (rows0.map fun p=>(.own p.1,m0 p.1)) ⟨fn.ntmps,aI 0 args,rows0,k⟩ { tmps:=vals.toArray++Array.replicate (fn.ntmps - vals.toArray.size) undef,defers:=[] } w m0:=
  {size:=by simp;omega,nodef:=rfl,below:=aK.refl _ _,
   env:=by
    intro r v hr
    obtain ⟨u,h1,h2⟩:=mY 0 [] rfl hv r v hr
    have e:((vals.toArray++Array.replicate (fn.ntmps - vals.toArray.size) undef).getD r undef)=u:=by
     have h1':vals[r]?=some u:=by simpa using h1
     have hlt:r<vals.length:=(List.getElem?_eq_some_iff.1 h1').1
     rw [Array.getD_eq_getD_getElem?,Array.getElem?_append_left (by simpa using hlt)]
     simp [h1']
    rw [e];exact h2.mono hle,
   held:=by
    intro p hp
    obtain ⟨q,hq,rfl⟩:=List.mem_map.1 hp
    obtain ⟨it,hit⟩:=FC hq
    obtain ⟨h1,h2⟩:=hrows _ _ hit
    exact .own q.1 h1 h2.oneCell,
   rows:=fun i it hi=>⟨(hrows i it hi).1,(((hrows i it hi).2).mono hle fun _ _=>rfl).own fun b hb=>.inr ⟨hb,.inr hb⟩⟩,sep:=hsep }
 have hH:uJ k (rows0.map fun p=>(AV.own p.1,m0 p.1)):=by
  intro p hp
  exact (hrep.held p hp).ids
 refine wp_mono (h w _ _ _ w hH ⟨_,hrep⟩) ?_
 rintro e a w' ⟨s',hq,hr⟩
 have fin:jd P w ⟨fun b=>T b∨g b,g⟩ k res out rows s'→a.defers=[]∧∃ v,(results fn a.tmps).run P w'=.ok v w'∧∃ v',Ending.returned v=.returned v'∧aK g w w'∧∃ m N,(∀ i,i<k→m i=m0 i)∧k≤N ∧
   Rv ⟨w',allow ⟨fun b=>T b∨g b,g⟩ w.heap.size m rows,m,N⟩ out v' ∧
   (∀ i it,lk rows i=some it→i<N∧aG ⟨w',allow ⟨fun b=>T b∨g b,g⟩ w.heap.size m rows,m,N⟩ (ownB ⟨fun b=>T b∨g b,g⟩ w.heap.size) (m i) it) ∧
   (∀ i j it jt b,lk rows i=some it→lk rows j=some jt→blk (m i)=some b→blk (m j)=some b→i=j):=by
  intro hret
  obtain ⟨v,hv,m,N,hkN,hheld,hout,hit,hsp⟩:=hret _ a w' hH hr
  obtain ⟨m',hm⟩:=hr
  refine ⟨hm.nodef,v,hv fn hres,v,rfl,hm.below.mono fun b hb=>hb.1,m,N,fun i hi=>?_,hkN,hout,hit,hsp⟩
  obtain ⟨it,hi'⟩:=hcov i hi
  have:=hheld (.own i,m0 i) (List.mem_map.2 ⟨(i,it),bQ hi',rfl⟩)
  generalize hmi:m0 i=mi at this
  cases this
  rfl
 cases e with
 | normal=>exact fin hq
 | ret=>exact fin hq
 | _=>exact hq.elim
theorem fV.bT {f:Nat} {fn:Func} {c:Code} {args:List AV} {rows0:List (Nat × Item)} {k:Nat} {out:AV} {rows:List (Nat × Item)} (hf:P.funcs[f]?=some fn) (hb:fn.body=some c)
  (hnm:(fn.name == "runtime.NumGoroutine")=false) (hn:args.length≤fn.ntmps) (hcov:∀ j,j<k→∃ it,lk rows0 j=some it) (res:List ResultVar) (hres:fn.results=res.toArray)
  (h:∀ (w0:World) (T0:Bs) [lC P w0 T0],dZ P w0 T0 k c (Lj P w0 T0 k res out rows) ⟨fn.ntmps,aI 0 args,rows0,k⟩):fV P f args rows0 k out rows:=
 .of_run hf hb hnm hn hcov res hres fun w0 T0=>.of (h w0 T0)
/-! ### The call -/
def jg (ids:List Nat) (next:Nat) (j:Nat):Nat:=match ids[j]? with|some i=>i|none=>next+(j - ids.length)
def lW (p:Nat→Nat):List (Nat × Item)→List (Nat × Item)
 | []=>[]
 |(i,it)::l=>(p i,it.ren p)::lW p l
def zy {α:Type}:List (Nat × α)→List Nat→List (Nat × α)
 | l,[]=>l
 | l,i::is=>zy (del l i) is
theorem FB {α:Type}:∀ (is:List Nat) (l:List (Nat × α)) (j:Nat),lk (zy l is) j=if j∈is then none else lk l j
 | [],l,j=>by simp [zy]
 | i::is,l,j=>by
  simp only [zy]
  rw [FB is,kQ]
  by_cases h1:j∈is
  ·simp [h1]
  ·by_cases h2:j=i<;>simp [h1,h2]
def S.KD (s:S) (ids:List Nat) (N:Nat) (rows:List (Nat × Item)):S:={ s with rows:=lW (jg ids s.next) rows++zy s.rows ids,next:=s.next+(N - ids.length) }
theorem qc {p:Nat→Nat} {S:Nat→Prop} (hp:∀ i j,S i→S j→p i=p j→i=j):∀ {l:List (Nat × Item)},(∀ x,x∈l→S x.1)→∀ {i:Nat} {it:Item},lk (lW p l) i=some it→∃ j jt,i=p j∧lk l j=some jt∧it=jt.ren p
 |(j,jt)::l,hS,i,it,h=>by
  simp only [lW,lk] at h
  split at h
  ·rename_i e;cases h;exact ⟨j,jt,e.symm,by simp [lk],rfl⟩
  ·rename_i e
   obtain ⟨q,qt,h1,h2,h3⟩:=qc hp (fun x hx=>hS x (.tail _ hx)) h
   refine ⟨q,qt,h1,?_,h3⟩
   simp only [lk];rw [if_neg (fun e'=>e (by rw [h1,e']))];exact h2
theorem GI:∀ {l:List Nat} {i j a:Nat},l.Nodup→l[i]?=some a→l[j]?=some a→i=j:=by
 intro l i j a hd hi hj
 exact (List.getElem?_inj (List.getElem?_eq_some_iff.1 hi).1 hd).1 (hi.trans hj.symm)
def Oi (ids:List Nat) (next:Nat) (rows0:List (Nat × Item)) (m:Nat→Value) (b:Nat):Prop:=∃ j it,lk rows0 j=some it∧blk (m (jg ids next j))=some b
def LP (w:World) (T g:Nat→Prop) (m0:Nat→Value) (k:Nat) (out:AV) (rows:List (Nat × Item)) (e:Ending) (w':World):Prop:=
 ∃ v,e=.returned v∧aK g w w'∧∃ m N,(∀ i,i<k→m i=m0 i)∧k≤N ∧
   Rv ⟨w',allow ⟨fun b=>T b∨g b,g⟩ w.heap.size m rows,m,N⟩ out v ∧
   (∀ i it,lk rows i=some it→i<N∧aG ⟨w',allow ⟨fun b=>T b∨g b,g⟩ w.heap.size m rows,m,N⟩ (ownB ⟨fun b=>T b∨g b,g⟩ w.heap.size) (m i) it) ∧
   (∀ i j it jt b,lk rows i=some it→lk rows j=some jt→blk (m i)=some b→blk (m j)=some b→i=j)
theorem ah.MB [hgb:lC P w0 T0] {f:Nat} {args:List AV} {rows0:List (Nat × Item)} {out:AV} {rows:List (Nat × Item)} {s:S} {K:AV→S→Prop} (ids:List Nat) (hE:Enter P f) (hd:ids.Nodup)
  (hcall:∀ (H:List (AV × Value)) (a:Act) (w:World) (m:Nat→Value) (vals:List Value),aF w0 T0 H s a w m→bI (ak T0 w0.heap.size m s w) args vals →
   y9 w (allow T0 w0.heap.size m s.rows) (Oi ids s.next rows0 m) (fun j=>m (jg ids s.next j)) ids.length rows0→(∀ (b:Nat) (q:GK),IC P b=some q→¬Oi ids s.next rows0 m b) →
   Calls P f vals.toArray w (LP w (allow T0 w0.heap.size m s.rows) (Oi ids s.next rows0 m) (fun j=>m (jg ids s.next j)) ids.length out rows))
  (h0:fP (jg ids s.next) s.rows ids.length rows0) (hcov:∀ j,j<ids.length→∃ it,lk rows0 j=some it) (N:Nat) (hkN:ids.length≤N) (hN:Fv.below N out=true) (hNr:dw N rows)
  (hk:K (ren (jg ids s.next) out) (s.KD ids N rows)):@ah P w0 T0 f args s ⟨K⟩:=by
 refine ⟨hE,fun H a w m vals hm hv=>?_⟩
 have hp1:∀ j,j<ids.length→∃ i,ids[j]?=some i∧jg ids s.next j=i:=fun j hj=>⟨ids[j],List.getElem?_eq_getElem hj,by simp [jg,List.getElem?_eq_getElem hj]⟩
 have hp2:∀ j,ids.length≤j→jg ids s.next j=s.next+(j - ids.length):=fun j hj=>by simp [jg,List.getElem?_eq_none hj]
 have h0':∀ j it,lk rows0 j=some it→j<ids.length∧lk s.rows (jg ids s.next j)=some (it.ren (jg ids s.next))∧it.below ids.length=true:=fun j it hj=>bW h0 j it (bQ hj)
 have hmem:∀ i,i∈ids→∃ j it,j<ids.length∧jg ids s.next j=i∧lk rows0 j=some it:=by
  intro i hi
  obtain ⟨j,hj,e⟩:=List.getElem_of_mem hi
  obtain ⟨it,hit⟩:=hcov j hj
  exact ⟨j,it,hj,by simp [jg,List.getElem?_eq_getElem hj,e],hit⟩
 have hsrc:∀ j,j<ids.length→jg ids s.next j<s.next:=fun j hj=>by
  obtain ⟨it,hit⟩:=hcov j hj
  exact (hm.rows _ _ (h0' j it hit).2.1).1
 have hinj:∀ i j,jg ids s.next i=jg ids s.next j→i=j:=by
  intro i j e
  by_cases hi:i<ids.length<;>by_cases hj:j<ids.length
  ·obtain ⟨x,hx,ex⟩:=hp1 i hi
   obtain ⟨y,hy,ey⟩:=hp1 j hj
   rw [ex,ey] at e;subst e
   exact GI hd hx hy
  ·have:=hsrc i hi;rw [e,hp2 j (by omega)] at this;omega
  ·have:=hsrc j hj;rw [←e,hp2 i (by omega)] at this;omega
  ·rw [hp2 i (by omega),hp2 j (by omega)] at e;omega
 let T:Nat→Prop:=allow T0 w0.heap.size m s.rows
 let g:Nat→Prop:=fun b=>∃ j it,lk rows0 j=some it∧blk (m (jg ids s.next j))=some b
 let m0:Nat→Value:=fun j=>m (jg ids s.next j)
 have hctx:iF (jg ids s.next) (ak T0 w0.heap.size m s w) ⟨w,T,m0,ids.length⟩:=⟨fun _ _=>rfl,fun b hb _=>⟨hb,rfl⟩⟩
 have hown:∀ i it,lk s.rows i=some it→∀ b,blk (m i)=some b→ownB T0 w0.heap.size b∧b<w.heap.size:=fun i it hi b hb=>(hm.rows i it hi).2.blk b hb
 have hG:y9 w T g m0 ids.length rows0:=by
  refine ⟨fun j it hj=>?_,fun i j it jt b hi hj hbi hbj=>?_,fun b hb hg=>?_⟩
  ·obtain ⟨h1,h2,h3⟩:=h0' j it hj
   refine ⟨h1,(aG.ren hctx rfl h3 (hm.rows _ _ h2).2).L6 fun b hb=>⟨j,it,hj,hb⟩⟩
  ·obtain ⟨_,h2,_⟩:=h0' i it hi
   obtain ⟨_,h2',_⟩:=h0' j jt hj
   exact hinj i j (hm.sep _ _ _ _ b h2 h2' hbi hbj)
  ·obtain ⟨j,it,hj,hbj⟩:=hg
   exact hb.2 _ _ (h0' j it hj).2.1 hbj
 have hgg:∀ (b:Nat) (q:GK),IC P b=some q→¬g b:=by
  rintro b q hq ⟨j,it,hj,hb⟩
  obtain ⟨ob,hh,_⟩:=hgb.ok b q hq
  have hlt:=(Array.getElem?_eq_some_iff.1 hh).1
  rcases (hown _ _ (h0' j it hj).2.1 b hb).1 with h|h
  ·omega
  ·exact hgb.ng b q hq h
 refine (hcall H a w m vals hm hv hG hgg).mono ?_
 rintro e w' ⟨v,rfl,hbel,mo,No,hmo,hkNo,hout,hrows,hsep⟩
 refine ⟨v,rfl,_,_,hk,?_⟩
 have hgs:∀ b,g b→(∃ i it,lk s.rows i=some it∧blk (m i)=some b):=fun b ⟨j,it,hj,hb⟩=>⟨_,_,(h0' j it hj).2.1,hb⟩
 have hNr':=qw hNr
 have hitem:∀ i it,lk rows i=some it→aG ⟨w',allow ⟨fun b=>T b∨g b,g⟩ w.heap.size mo rows,mo,N⟩ (ownB ⟨fun b=>T b∨g b,g⟩ w.heap.size) (mo i) it:=fun i it hi=>((hrows i it hi).2).cut (hNr' i it hi).2
 let m2:Nat→Value:=fun i=>if i<s.next then m i else mo (ids.length+(i - s.next))
 have hm2:∀ i,i<s.next→m2 i=m i:=fun i hi=>if_pos hi
 have hm3:∀ j,m2 (jg ids s.next j)=mo j:=fun j=>by
  by_cases hj:j<ids.length
  ·rw [hm2 _ (hsrc j hj)];exact (hmo j hj).symm
  ·rw [hp2 j (by omega)]
   show (if s.next+(j - ids.length)<s.next then _ else _)=_
   rw [if_neg (by omega)];congr 1;omega
 have hlt:∀ i it,lk s.rows i=some it→i<s.next:=fun i it hi=>(hm.rows i it hi).1
 have hrest:∀ i it,lk (zy s.rows ids) i=some it→i∉ids∧lk s.rows i=some it:=by
  intro i it hi
  rw [FB] at hi
  split at hi
  ·cases hi
  ·rename_i e;exact ⟨e,hi⟩
 have hcases:∀ i it,lk (s.KD ids N rows).rows i=some it→(∃ j jt,i=jg ids s.next j∧lk rows j=some jt∧it=jt.ren (jg ids s.next))∨(i∉ids∧lk s.rows i=some it):=by
  intro i it hi
  have hi':lk (lW (jg ids s.next) rows++zy s.rows ids) i=some it:=hi
  rw [rH] at hi'
  cases hq:lk (lW (jg ids s.next) rows) i with
  | some y=>
   rw [hq] at hi';cases hi'
   exact .inl (qc (S:=fun _=>True) (fun i j _ _ e=>hinj i j e) (fun _ _=>trivial) hq)
  | none=>rw [hq] at hi';exact .inr (hrest i it hi')
 have hnotg:∀ i it,i∉ids→lk s.rows i=some it→∀ b,blk (m i)=some b→¬g b:=by
  rintro i it hni hi b hb ⟨j,jt,hj,hbj⟩
  obtain ⟨h1,h2,_⟩:=h0' j jt hj
  have:=hm.sep _ _ _ _ b hi h2 hb hbj
  obtain ⟨x,hx,ex⟩:=hp1 j h1
  exact hni (by rw [this,ex];exact List.mem_of_getElem? hx)
 have hnewB:∀ j jt,lk rows j=some jt→∀ b,blk (mo j)=some b→w.heap.size≤b∨g b:=fun j jt hj b hbl=>(((hrows j jt hj).2.blk b hbl).1).imp id (·.1)
 have hle:bK (ak T0 w0.heap.size m s w) (ak T0 w0.heap.size m2 (s.KD ids N rows) w'):=by
  refine ⟨Nat.le_add_right _ _,hm2,?_⟩
  intro b hb hltb
  have hbg:¬g b:=fun hg=>by
   obtain ⟨i,it,hi,hbi⟩:=hgs b hg
   exact hb.2 i it hi hbi
  refine ⟨⟨hb.1,fun i it hi e=>?_⟩,hbel.block b hltb hbg⟩
  rcases hcases i it hi with ⟨j,jt,rfl,hj,_⟩|⟨hni,hi'⟩
  ·rw [hm3] at e
   rcases hnewB j jt hj b e with h|h
   ·have hlt2:b<w.heap.size:=hltb;omega
   ·exact hbg h
  ·rw [hm2 i (hlt i it hi')] at e;exact hb.2 i it hi' e
 have hsh:sD (jg ids s.next) (⟨w',allow ⟨fun b=>T b∨g b,g⟩ w.heap.size mo rows,mo,N⟩:Ctx) (ak T0 w0.heap.size m2 (s.KD ids N rows) w'):=by
  refine ⟨fun i hi=>?_,fun i _=>hm3 i,?_⟩
  ·show jg ids s.next i<s.next+(N - ids.length)
   by_cases hj:i<ids.length
   ·have:=hsrc i hj;omega
   ·rw [hp2 i (by omega)];have:i<N:=hi;omega
  intro b ⟨h1,h2⟩ _
  have hlt0:=hm.lt
  have hb1:w0.heap.size≤b∨T0.a b:=by
   rcases h1 with h1|h1|h1
   ·exact .inl (by omega)
   ·exact h1.1
   ·obtain ⟨i,it,hi,hbi⟩:=hgs b h1
    exact ((hown i it hi b hbi).1).imp id (·.2)
  refine ⟨⟨hb1,fun i it hi e=>?_⟩,rfl⟩
  rcases hcases i it hi with ⟨j,jt,rfl,hj,_⟩|⟨hni,hi'⟩
  ·rw [hm3] at e;exact h2 j jt hj e
  ·rw [hm2 i (hlt i it hi')] at e
   rcases h1 with h1|h1|h1
   ·have:=(hown i it hi' b e).2;omega
   ·exact h1.2 i it hi' e
   ·exact hnotg i it hni hi' b e h1
 have hOO:∀ b,ownB ⟨fun b=>T b∨g b,g⟩ w.heap.size b→ownB T0 w0.heap.size b:=fun b hb=>by
  rcases hb with hb|hb
  ·exact .inl (Nat.le_trans hm.lt hb)
  ·obtain ⟨i,it,hi,hbi⟩:=hgs b hb.1
   exact (hown i it hi b hbi).1
 refine ⟨m2,aF.hold (s:=s.KD ids N rows) ?_ ((hout.cut hN).shift hsh)⟩
 refine { size:=hm.size,nodef:=hm.nodef,below:=?_,env:=fun r u hu=>(hm.env r u hu).mono hle,held:=fun q hq=>(hm.held q hq).mono hle,rows:=?_,sep:=?_ }
 ·refine hm.below.step hbel.os hbel.tape hbel.output hbel.size (fun b hb hn=>hbel.block b (Nat.lt_of_lt_of_le hb hm.lt) fun hg=>?_) hbel.drawn
  obtain ⟨i,it,hi,hbi⟩:=hgs b hg
  rcases (hown i it hi b hbi).1 with h|h
  ·omega
  ·exact hn h
 ·intro i it hi
  rcases hcases i it hi with ⟨j,jt,rfl,hj,rfl⟩|⟨hni,hi'⟩
  ·refine ⟨hsh.n j (hNr' j jt hj).1,?_⟩
   rw [hm3]
   exact (hitem j jt hj).shift hsh rfl hOO
  ·have hl:=hlt i it hi'
   refine ⟨by show i<s.next+_;omega,?_⟩
   rw [hm2 i hl]
   exact ((hm.rows i it hi').2).mono hle fun b hbl=>hbel.block b ((hown i it hi' b hbl).2) (hnotg i it hni hi' b hbl)
 ·intro i j it jt b hi hj hbi hbj
  rcases hcases i it hi with ⟨i',it',rfl,hi',_⟩|⟨hni,hi'⟩<;>rcases hcases j jt hj with ⟨j',jt',rfl,hj',_⟩|⟨hnj,hj'⟩
  ·rw [hm3] at hbi hbj
   rw [hsep i' j' it' jt' b hi' hj' hbi hbj]
  ·rw [hm3] at hbi;rw [hm2 j (hlt j jt hj')] at hbj
   have h5:=(hown j jt hj' b hbj).2
   rcases hnewB i' it' hi' b hbi with h|h
   ·omega
   ·exact absurd h (hnotg j jt hnj hj' b hbj)
  ·rw [hm3] at hbj;rw [hm2 i (hlt i it hi')] at hbi
   have h5:=(hown i it hi' b hbi).2
   rcases hnewB j' jt' hj' b hbj with h|h
   ·omega
   ·exact absurd h (hnotg i it hni hi' b hbi)
  ·rw [hm2 i (hlt i it hi')] at hbi;rw [hm2 j (hlt j jt hj')] at hbj
   exact hm.sep i j it jt b hi' hj' hbi hbj
theorem ah.io [hgb:lC P w0 T0] {f:Nat} {args args':List AV} {rows0:List (Nat × Item)} {out:AV} {rows:List (Nat × Item)} {s:S} {K:AV→S→Prop} (ids:List Nat) (h:fV P f args' rows0 ids.length out rows) (hd:ids.Nodup)
  (ha:args=dh (jg ids s.next) args') (hab:aA ids.length args'=true) (h0:fP (jg ids s.next) s.rows ids.length rows0) (hcov:∀ j,j<ids.length→∃ it,lk rows0 j=some it) (N:Nat) (hkN:ids.length≤N) (hN:Fv.below N out=true) (hNr:dw N rows)
  (hk:K (ren (jg ids s.next) out) (s.KD ids N rows)):@ah P w0 T0 f args s ⟨K⟩:=by
 subst ha
 exact ah.MB ids h.1 hd (fun H a w m vals hm hv hG hgg=>by
  have hctx:iF (jg ids s.next) (ak T0 w0.heap.size m s w) ⟨w,allow T0 w0.heap.size m s.rows,fun j=>m (jg ids s.next j),ids.length⟩:=⟨fun _ _=>rfl,fun b hb _=>⟨hb,rfl⟩⟩
  exact h.2 w _ _ _ vals hG (lC.at hm) hgg (bI.ren hctx args' hab hv)) h0 hcov N hkN hN hNr hk
theorem aG.gY {w:World} {T T':Nat→Prop} {m:Nat→Value} {N:Nat} {O:Nat→Prop} {v:Value} {it:Item} (ho:aG ⟨w,T,m,N⟩ O v it) (hn:jT it=true):aG ⟨w,T',m,N⟩ O v it:=by
 cases it with
 | row e r=>obtain ⟨n,cells,hc,hq⟩:=ho;exact ⟨n,cells,hc.gY hn,hq⟩
 | box e cs=>obtain ⟨g,vs,hv',hg,hl,hq⟩:=ho;exact ⟨g,vs,hv',hg,hl.gY hn,hq⟩
 | map ks vs=>
  simp only [jT,Bool.and_eq_true] at hn
  obtain ⟨g,es,clock,hv',hg,h1,h2,h3,h4,hq⟩:=ho;exact ⟨g,es,clock,hv',hg,h1.gY hn.1,h2.gY hn.2,h3,h4,hq⟩
 | iter mp since seen=>exact ho
 | siter t pos=>exact ho
end
end Go.Fv
/-
 What stands for families where they are lent; the end of a function whose results are only read.
-/
namespace Go.Fv
open Go.RowKit
/-! ### The same names -/
def Fa (s:S) (N:Nat):List (Nat × AV)→Prop
 | []=>True
 |(r,v)::l=>(s.get r=v∧Fv.below N v=true)∧Fa s N l
def zV (rows:List (Nat × Item)) (N:Nat):List (Nat × Item)→Prop
 | []=>True
 |(i,it)::l=>(i<N∧lk rows i=some it∧it.below N=true)∧zV rows N l
theorem BI {s:S} {N:Nat}:∀ {l:List (Nat × AV)},Fa s N l→uX id s N l
 | [],_=>trivial
 |(r,v)::l,h=>⟨⟨by rw [fA (p:=id) (b0:=N) (fun _ _=>rfl) v h.1.2];exact h.1.1,h.1.2⟩,BI h.2⟩
theorem yV {rows:List (Nat × Item)} {N:Nat}:∀ {l:List (Nat × Item)},zV rows N l→∀ i it,lk l i=some it→i<N∧lk rows i=some it∧it.below N=true
 |(j,jt)::l,h,i,it,hi=>by
  simp only [lk] at hi
  split at hi
  ·rename_i e;subst e;cases hi;exact h.1
  ·exact yV h.2 i it hi
theorem dB.same {w0:World} {T0:Bs} {b0:Nat} {s s':S} (hn:s'.n=s.n) (hb:b0≤s'.next) (he:Fa s s'.next s'.env) (hr:zV s.rows s'.next s'.rows):dB w0 T0 b0 s s':=
 dB.PG id hn hb (fun _ _=>rfl) (BI he) (fun i it hi=>by
  obtain ⟨h1,h2,h3⟩:=yV hr i it hi
  exact ⟨h1,by rw [Item.fA (p:=id) (b0:=s'.next) (fun _ _=>rfl) it h3];exact h2,h3⟩) (fun i j _ _ _ _ e=>e)
attribute [go_sem] Fa zV
section
variable {P:Program} {w0:World} {T0:Bs}
theorem dJ.ro {res:List ResultVar} {out:AV} {s:S} (h:rQ P s res (fun vs=>jC s.rows (iM vs) out)):dJ P w0 T0 res out [] s:=by
 rintro a w ⟨m,hm⟩
 obtain ⟨vs,us,he,hrun,hvs⟩:=mJ hm h
 have hrv:Rv (ak T0 w0.heap.size m s w) (iM vs) (Ew us):=by
  cases hvs with
  | nil=>exact .tup _ _ .nil
  | cons x v l us hx ht=>
   cases ht with
   | nil=>exact hx
   | cons x' v' l' us' hx' ht'=>exact .tup _ _ (.cons _ _ _ _ hx (.cons _ _ _ _ hx' ht'))
 have hal:∀ b,ownB T0 w0.heap.size b→allow T0 w0.heap.size (fun _=>undef) [] b:=fun b hb=>⟨hb.imp id (·.2),fun i it hi=>by simp [lk] at hi⟩
 have hl:xu w (ak T0 w0.heap.size m s w) s.rows (allow T0 w0.heap.size (fun _=>undef) []):=
  {hw:=rfl,t:=fun b hb=>⟨hb.1,fun i it hi=>by simp [lk] at hi⟩,
   own:=fun i e r hi=>by
    obtain ⟨n,cells,hc,hn,hq,hO⟩:=(hm.rows i _ hi).2
    exact ⟨fun b hb=>hal b (hO b hb),n,cells,hc,hn,hq⟩,
   box:=fun i e cs hi=>by
    obtain ⟨g,vs,hv,hg,hl,hh⟩:=(hm.rows i _ hi).2
    exact ⟨g,vs,hv,hal g hg,hl,hh⟩,
   map:=fun i ks vs hi=>by
    obtain ⟨g,es,clock,hv,hg,h1,h2,h3,h4,hh⟩:=(hm.rows i _ hi).2
    exact ⟨g,es,clock,hv,hal g hg,h1,h2,h3,h4,hh⟩ }
 refine ⟨_,fun fn hf=>iU hf a.tmps hrun,fun _=>undef,0,?_,fun i it hi=>by simp [lk] at hi,fun i j it jt b hi=>by simp [lk] at hi⟩
 generalize iM vs=x at he hrv
 generalize hus:Ew us=u at hrv
 unfold jC at he
 split at he
 ·obtain ⟨l',ha,rfl⟩:=he
  cases hrv with
  | tup _ us' hv'=>exact .tup _ _ (jJ hl _ ha hv')
 ·exact qY hl 6 _ he hrv
end
end Go.Fv
/-
 Steps of a walk that pay their side conditions by themselves.
-/
namespace Go.Fv
theorem aN.g {p K:Prop} (k:K) (h:p:=by first|omega|(with_reducible refine aN.intro ?_ ?_<;>omega)|(simp;done)|(simp;omega)):aN p K:=⟨h,k⟩
theorem dP.g {e:Int} {K:Int→Prop} (kk:K e) (h1:-9223372036854775808≤e:=by omega) (h2:e≤9223372036854775807:=by omega):dP .i64 e K:=dP.i64 h1 h2 kk
theorem dP.h {e:Int} {K:Int→Prop} (kk:K e) (h1:0≤e:=by omega) (h2:e≤255:=by omega):dP .u8 e K:=dP.u8 h1 h2 kk
theorem Ite.t {p:Prop} [Decidable p] {x y:Prop} (k:p→x) (h:¬p→False:=by (intro _;omega)):@Ite (Decidable.decide p) ⟨x⟩ ⟨y⟩:=Ite.decide k fun h'=>(h h').elim
theorem Ite.f {p:Prop} [Decidable p] {x y:Prop} (k:¬p→y) (h:p→False:=by (intro _;omega)):@Ite (Decidable.decide p) ⟨x⟩ ⟨y⟩:=Ite.decide (fun h'=>(h h').elim) k
class Stp (p:Prop) (q:outParam Prop):Prop where
 go:q→p
instance {p K:Prop}:Stp (A8 p K) (p→K):=⟨A8.intro⟩
instance {K:Int→Prop}:Stp (@DL .i64 ⟨K⟩) (∀ n,(-9223372036854775808≤n∧n≤9223372036854775807)→K n):=⟨DL.i64⟩
instance (priority:=900) {b:Bool} {x y:Prop}:Stp (@Ite b ⟨x⟩ ⟨y⟩) ((b=true→x)∧(b=false→y)):=⟨fun h=>Ite.bool h.1 h.2⟩
instance {p:Prop} [Decidable p] {x y:Prop}:Stp (@Ite (Decidable.decide p) ⟨x⟩ ⟨y⟩) ((p→x)∧(¬p→y)):=⟨fun h=>Ite.decide h.1 h.2⟩
theorem rs {p q:Prop} [h:Stp p q] (k:q):p:=h.go k
theorem rc {p K:Prop} (k:K) (h:p:=by first|omega|(with_reducible refine aN.intro ?_ ?_<;>omega)|(simp;done)|(simp;omega)):aN p K:=⟨h,k⟩
theorem rl {e:Int} {K:Int→Prop} (k:K e) (h1:-9223372036854775808≤e:=by omega) (h2:e≤9223372036854775807:=by omega):dP .i64 e K:=dP.i64 h1 h2 k
theorem rh {e:Int} {K:Int→Prop} (k:K e) (h1:0≤e:=by omega) (h2:e≤255:=by omega):dP .u8 e K:=dP.u8 h1 h2 k
theorem rt {p:Prop} [Decidable p] {x y:Prop} (k:p→x) (h:¬p→False:=by (intro _;omega)):@Ite (Decidable.decide p) ⟨x⟩ ⟨y⟩:=Ite.decide k fun h'=>(h h').elim
theorem rf {p:Prop} [Decidable p] {x y:Prop} (k:¬p→y) (h:p→False:=by (intro _;omega)):@Ite (Decidable.decide p) ⟨x⟩ ⟨y⟩:=Ite.decide (fun h'=>(h h').elim) k
theorem ru {k:IntKind} {e:Int} {K:Int→Prop} (kk:K e) (h:(k=.u64∧0≤e∧e≤18446744073709551615)∨(k=.u32∧0≤e∧e≤4294967295)∨(k=.i32∧-2147483648≤e∧e≤2147483647):=by
  first|(refine Or.inl ⟨rfl,?_,?_⟩<;>omega)|(refine Or.inr (Or.inl ⟨rfl,?_,?_⟩)<;>omega)|(refine Or.inr (Or.inr ⟨rfl,?_,?_⟩)<;>omega)):dP k e K:=by
 rcases h with ⟨rfl,h1,h2⟩|⟨rfl,h1,h2⟩|⟨rfl,h1,h2⟩
 ·exact dP.Me (EN.2 ⟨h1,h2⟩) kk
 ·exact dP.Me (EM.2 ⟨h1,h2⟩) kk
 ·exact dP.Me (zf.2 ⟨h1,h2⟩) kk
theorem rz {P Q:Prop} (q:Q) (h:Q→P:=by first|exact fun k=>rc k|exact fun k=>rl k|exact fun k=>rh k|exact fun k=>ru k|exact fun k=>rt k|exact fun k=>rf k|exact fun k=>rs k):P:=h q
theorem ry {P Q:Prop} (q:Q) (h:Q→P:=by first|exact fun k=>rc k|exact fun k=>rl k|exact fun k=>rh k|exact fun k=>rt k|exact fun k=>rf k|exact fun k=>rs k):P:=h q
structure Dn:Prop where
theorem dn:Dn:=⟨⟩
theorem rn {P Q:Prop} (q:Q) (h:Q→P:=by first|exact fun k=>rc k|exact fun k=>rl k|exact fun k=>rh k|exact fun k=>ru k|exact fun k=>rt k|exact fun k=>rf k|exact fun k=>rs k|(refine fun _:Dn=>?_;omega)|(intro q;simp (maxSteps:=1000000) only [go_sem];exact q)|(refine fun _:Dn=>?_;simp (maxSteps:=1000000) only [go_sem];done)):P:=h q
theorem ra {p q:Prop} (a:p) (b:q):p∧q:=⟨a,b⟩
theorem dP.at {k:IntKind} {e:Int} {K:Int→Prop} (m:Int) (h:k.wrap e=m) (kk:K m):dP k e K:=fun n hn _=>by rw [hn,h];exact kk
theorem ah.k {P:Program} {w0:World} {T0:Bs} [hG:lC P w0 T0] {f:Nat} {args args':List AV} {out:AV} {s:S} {K:AV→S→Prop} (h:aU P f args' out []) (hk:K (ren (fun j=>s.next+j) out) (s.after s.rows 0 []))
  (h1:jH out=true:=by rfl) (h2:Fv.below 0 out=true:=by rfl) (ha:bG s.rows args args':=by
   simp only [dF,bG,jr,bU,aJ,List.drop_zero,lk,reduceIte,reduceCtorEq,Nat.reduceEqDiff,Option.some.injEq,Item.row.injEq,Item.box.injEq,AV.ro.injEq,exists_eq_left,exists_and_left,exists_eq_left',exists_eq_right,and_assoc,and_true,true_and,List.cons.injEq,exists_eq',exists_eq]) :
  @ah P w0 T0 f args s ⟨K⟩:=ah.fr (lu.ou h h1 rfl) ha 0 h2 trivial hk
theorem ah.f {P:Program} {w0:World} {T0:Bs} [hG:lC P w0 T0] {f:Nat} {args args':List AV} {out:AV} {rows:List (Nat × Item)} {s:S} {K:AV→S→Prop} (h:lu P f args' out rows) (N:Nat) (hk:K (ren (fun j=>s.next+j) out) (s.after s.rows N rows))
  (hN:Fv.below N out=true:=by rfl) (hNr:dw N rows:=by simp [dw,Item.below,Fv.below,aA,aW]) (ha:bG s.rows args args':=by
   simp only [dF,bG,jr,bU,aJ,List.drop_zero,lk,reduceIte,reduceCtorEq,Nat.reduceEqDiff,Option.some.injEq,Item.row.injEq,Item.box.injEq,AV.ro.injEq,exists_eq_left,exists_and_left,exists_eq_left',exists_eq_right,and_assoc,and_true,true_and,List.cons.injEq,exists_eq',exists_eq]) :
  @ah P w0 T0 f args s ⟨K⟩:=ah.fr h ha N hN hNr hk
theorem ah.o {P:Program} {w0:World} {T0:Bs} [hG:lC P w0 T0] {f:Nat} {args args':List AV} {out:AV} {rows:List (Nat × Item)} {s:S} {K:AV→S→Prop} (h:aU P f args' out rows) (N:Nat) (hk:K (ren (fun j=>s.next+j) out) (s.after s.rows N rows))
  (h1:jH out=true:=by rfl) (h2:jU rows=true:=by rfl) (hN:Fv.below N out=true:=by rfl) (hNr:dw N rows:=by simp [dw,Item.below,Fv.below,aA,aW]) (ha:bG s.rows args args':=by
   simp only [dF,bG,jr,bU,aJ,List.drop_zero,lk,reduceIte,reduceCtorEq,Nat.reduceEqDiff,Option.some.injEq,Item.row.injEq,Item.box.injEq,AV.ro.injEq,exists_eq_left,exists_and_left,exists_eq_left',exists_eq_right,and_assoc,and_true,true_and,List.cons.injEq,exists_eq',exists_eq]) :
  @ah P w0 T0 f args s ⟨K⟩:=ah.fr (lu.ou h h1 h2) ha N hN hNr hk
theorem O9 {a:Item}:∀ j,j<1→∃ it,lk [(0,a)] j=some it:=fun j hj=>by
 obtain rfl:j=0:=by omega
 exact ⟨a,rfl⟩
theorem Pg {a b:Item}:∀ j,j<2→∃ it,lk [(0,a),(1,b)] j=some it:=fun j hj=>by
 rcases j with _|_|j
 ·exact ⟨a,rfl⟩
 ·exact ⟨b,rfl⟩
 ·omega
theorem Ph {a b c:Item}:∀ j,j<3→∃ it,lk [(0,a),(1,b),(2,c)] j=some it:=fun j hj=>by
 rcases j with _|_|_|j
 ·exact ⟨a,rfl⟩
 ·exact ⟨b,rfl⟩
 ·exact ⟨c,rfl⟩
 ·omega
theorem Pj {a b c d:Item}:∀ j,j<4→∃ it,lk [(0,a),(1,b),(2,c),(3,d)] j=some it:=fun j hj=>by
 rcases j with _|_|_|_|j
 ·exact ⟨a,rfl⟩
 ·exact ⟨b,rfl⟩
 ·exact ⟨c,rfl⟩
 ·exact ⟨d,rfl⟩
 ·omega
theorem ah.i {P:Program} {w0:World} {T0:Bs} [hgb:lC P w0 T0] {f:Nat} {args args':List AV} {rows0:List (Nat × Item)} {out:AV} {rows:List (Nat × Item)} {s:S} {K:AV→S→Prop} (ids:List Nat) (h:fV P f args' rows0 ids.length out rows) (N:Nat) (hk:K (ren (jg ids s.next) out) (s.KD ids N rows))
  (hd:ids.Nodup:=by decide) (ha:args=dh (jg ids s.next) args':=by simp [dh,ren,jg]) (hab:aA ids.length args'=true:=by rfl)
  (h0:fP (jg ids s.next) s.rows ids.length rows0:=by simp [fP,jg,lk,Item.ren,Item.below,ren,dh,aA,Fv.below,iT,aW])
  (hcov:∀ j,j<ids.length→∃ it,lk rows0 j=some it:=by first|exact O9|exact Pg|exact Ph|exact Pj) (hkN:ids.length≤N:=by decide) (hN:Fv.below N out=true:=by rfl) (hNr:dw N rows:=by simp [dw,Item.below,Fv.below,aA,aW]) :
  @ah P w0 T0 f args s ⟨K⟩:=ah.io ids h hd ha hab h0 hcov N hkN hN hNr hk
attribute [go_sem] S.KD lW jg zy iT aW List.getElem?_nil Nat.sub_self List.getElem?_cons_zero List.getElem?_cons_succ
attribute [go_sem ↓] reduceIte
attribute [go_sem] Fin.reduceNatAdd Fin.isValue UInt8.reduceAdd reduceDIte Nat.reduceEqDiff Int.reduceNegSucc Nat.reduceOr Fin.reduceGT Nat.reducePow Fin.reduceCastSucc Fin.reduceOr Nat.reduceGT Nat.reduceBneDiff Fin.reduceCastLT Fin.reduceNe Nat.reduceSubDiff Fin.reduceGE Nat.reduceMod Nat.reduceXor Int.reduceGE Int.reduceBmod UInt8.reduceOfNat Fin.reduceMod Int.reduceToNat Fin.reduceAddNat Fin.reduceXor Fin.reduceAnd Int.reduceEq Int.reduceFDiv Nat.reduceAnd Fin.reduceSubNat UInt8.reduceGT Fin.reduceFinMk Nat.reduceShiftRight Int.reduceNatCast Int.reduceGT Int.reducePow Nat.reduceGcd Nat.reduceAdd Nat.reduceBNe Int.reduceDiv Int.reduceMul reduceCtorEq Nat.reduceDvd Int.reduceBEq Nat.reduceBeqDiff Fin.reduceOfNat UInt8.reduceMod Int.reduceTMod Int.reduceOfNat UInt8.reduceToNat Nat.reduceShiftLeft Fin.reduceLast Nat.reduceLeDiff Fin.reduceShiftLeft Int.reduceNe UInt8.reduceGE Fin.reduceCastLE Int.reduceSub Fin.reduceLE Int.reduceAbs Fin.reduceCastAdd Int.reduceLT Fin.reducePred Int.reduceNatCast' Nat.reduceSub Fin.reduceRev Int.reduceNeg Fin.reduceLT Fin.reduceShiftRight Fin.reduceEq UInt8.reduceOfNatLT Fin.reduceAdd Fin.reduceBNe Nat.reduceDiv Int.reduceBNe Int.reduceDvd Nat.reduceMul Int.reduceAdd Nat.reduceBEq Nat.reduceSucc Fin.reduceDiv Fin.reduceMul Fin.reduceBEq Fin.reduceSucc UInt8.reduceLT Int.reduceTDiv Int.reduceFMod UInt8.reduceSub Int.reduceBdiv UInt8.reduceLE Nat.reduceLT Fin.reduceSub Int.reduceLE Int.reduceMod UInt8.reduceDiv UInt8.reduceMul
end Go.Fv
/-
 The library's sort of a row of ints or of strings, by the shelf's contracts, as a contract that writes the caller's memory.
-/
namespace Go.Fv
open Go.RowKit Go.Sort Go.Proofs Go.Shelf
theorem Di {α:Type} [Inhabited α] (enc:α→Value) (w:World) (n g:Nat) (d:Array α) (os:Array Obj) {cur:Array Value} {e:TypeId} {fz:Nat × Nat} (hh:w.heap[g]?=some (.cells cur e fz)) :
  (grow (putRow enc (Sort.ahead w n) g 0 d) os).heap[g]?=some (.cells (putCells enc 0 d cur) e fz):=by
 have hlt:g<w.heap.size:=(Array.getElem?_eq_some_iff.1 hh).1
 show ((w.heap.modify g (onCells (putCells enc 0 d)))++os)[g]?=_
 rw [Array.getElem?_append_left (by simpa using hlt),Array.getElem?_modify,if_pos rfl,hh]
 rfl
theorem zY {α:Type} [Inhabited α] (enc:α→Value) (w:World) (n g:Nat) (d:Array α) (os:Array Obj) {k:Nat} (hk:k<w.heap.size) (hne:¬g=k) :
  (grow (putRow enc (Sort.ahead w n) g 0 d) os).heap[k]?=w.heap[k]?:=by
 show ((w.heap.modify g (onCells (putCells enc 0 d)))++os)[k]?=_
 rw [Array.getElem?_append_left (by simpa using hk),Array.getElem?_modify,if_neg hne]
theorem oz {α:Type} [Inhabited α] (enc:α→Value) (d:Array α) (c:Array Value):(putCells enc 0 d c).size=c.size:=by simp [putCells]
theorem xG {α:Type} [Inhabited α] (enc:α→Value) (l:List α) (c:Array Value) (n:Nat) (hn:l.length=n) (hc:n≤c.size):(putCells enc 0 l.toArray c).toList.take n=l.map enc:=by
 apply List.ext_getElem?
 intro j
 by_cases hj:j<n
 ·rw [List.getElem?_take_of_lt hj,List.getElem?_map]
  have h1:j<c.size:=by omega
  have h2:j<l.length:=by omega
  have h3:(putCells enc 0 l.toArray c)[j]?=some (enc l.toArray[j]!):=by
   simp only [putCells,Array.getElem?_mapIdx,Array.getElem?_eq_getElem h1,Option.map_some]
   rw [if_pos ⟨Nat.zero_le _,by simpa using h2⟩,Nat.sub_zero]
  rw [Array.getElem?_toList,h3]
  simp [h2]
 ·rw [List.getElem?_eq_none (by simp;omega),List.getElem?_eq_none (by simp;omega)]
section
variable {P:Program}
theorem fV.place {α:Type} [Inhabited α] (enc:α→Value) {f:Nat} (hE:Enter P f) (e:TypeId) (r r':au) (l l':List α) (hll:l'.length=l.length)
  (hr1:r.sz=1) (hr2:r'.sz=1) (hrl:r.len=l.length) (hrl':r'.len=l.length)
  (hdown:∀ c cells,aS c r cells→cells=l.map enc) (hup:∀ c c' cells,aS c r cells→aS c' r' (l'.map enc))
  (hrun:∀ (w:World) (g cap:Nat),Holds enc w g 0 l.toArray→g<w.heap.size→Calls P f #[.slice (some ⟨g,0,none⟩) l.length cap] w fun x w'=>x=.returned (.tuple #[])∧∃ n os,w'=grow (putRow enc (Sort.ahead w n) g 0 l'.toArray) os)
  (hnone:∀ (w:World) (p:Option Addr) (cap:Nat),Calls P f #[.slice p 0 cap] w fun x w'=>x=.returned (.tuple #[])∧w'=w) :
  fV P f [.own 0] [(0,.row e r)] 1 (.tup []) [(0,.row e r')]:=by
 refine ⟨hE,fun w T g m0 vals ⟨hrow,_,hd⟩ hgl hng hv=>?_⟩
 obtain ⟨_,n,cells,hr,hn,⟨hlen,hcase⟩,hO⟩:=hrow 0 _ rfl
 have hcells:=hdown _ _ hr
 subst hcells
 rw [hrl] at hn
 subst hn
 cases hv with
 | cons _ v0 _ vs h0 hvs=>
 cases hvs
 cases h0 with
 | own _ hi h1=>
 rw [hr1] at hcase
 have none_case:l.length=0→∀ p cap,m0 0=.slice p 0 cap→Calls P f [m0 0].toArray w fun e_1 w'=>∃ v,e_1=.returned v∧aK g w w'∧∃ m N,(∀ i,i<1→m i=m0 i)∧1≤N ∧
   Rv ⟨w',allow ⟨fun b=>T b∨g b,g⟩ w.heap.size m [(0,.row e r')],m,N⟩ (.tup []) v ∧
   (∀ i it,lk [(0,Item.row e r')] i=some it→i<N∧aG ⟨w',allow ⟨fun b=>T b∨g b,g⟩ w.heap.size m [(0,.row e r')],m,N⟩ (ownB ⟨fun b=>T b∨g b,g⟩ w.heap.size) (m i) it) ∧
   (∀ i j it jt b,lk [(0,Item.row e r')] i=some it→lk [(0,Item.row e r')] j=some jt→blk (m i)=some b→blk (m j)=some b→i=j):=by
  intro h00 p cap hm
  rw [show [m0 0].toArray=#[m0 0] from rfl,hm]
  refine (hnone w p cap).mono ?_
  rintro x w' ⟨rfl,rfl⟩
  have hl'0:l'=[]:=List.eq_nil_of_length_eq_zero (by omega)
  refine ⟨_,rfl,aK.refl _ _,m0,1,fun _ _=>rfl,Nat.le_refl _,.tup [] [] .nil,?_,?_⟩
  ·intro i it hi
   have hi0:i=0:=by
    simp only [lk] at hi
    split at hi
    ·rename_i h;exact h.symm
    ·cases hi
   subst hi0
   have:it=Item.row e r':=by simp [lk] at hi;exact hi.symm
   subst this
   have hr':=hup _ ⟨w',allow ⟨fun b=>T b∨g b,g⟩ w'.heap.size m0 [(0,.row e r')],m0,1⟩ _ hr
   rw [hl'0] at hr'
   refine ⟨by omega,0,[],hr',by omega,?_,fun b hb=>.inr ⟨hO b hb,.inr (hO b hb)⟩⟩
   rcases hcase with ⟨hv,_⟩|⟨g0,cap',cur,fz,hv,hMk,hh,hnc,hcm,hcs,htk⟩
   ·exact ⟨by simp,.inl ⟨hv,rfl⟩⟩
   ·refine ⟨by simp,.inr ⟨g0,cap',cur,fz,by rw [hv,h00],hMk,hh,by omega,hcm,by rw [hcs,hr2],by simp⟩⟩
  ·intro i j it jt b hi hj _ _
   have aux:∀ q x,lk [(0,Item.row e r')] q=some x→q=0:=by
    intro q x hq
    simp only [lk] at hq
    split at hq
    ·rename_i h;exact h.symm
    ·cases hq
   rw [aux i it hi,aux j jt hj]
 rcases hcase with ⟨hv,h00⟩|⟨g0,cap,cur,fz,hv,hMk,hh,hnc,hcm,hcs,htk⟩
 ·exact none_case h00 _ _ hv
 ·by_cases h00:l.length=0
  ·exact none_case h00 _ cap (by rw [hv,h00])
  rw [Nat.mul_one] at hcs htk
  have hlt:g0<w.heap.size:=(Array.getElem?_eq_some_iff.1 hh).1
  have hcell:∀ j,j<l.length→cur[j]?=some (enc l.toArray[j]!):=by
   intro j hj
   have h1:(cur.toList.take l.length)[j]?=(l.map enc)[j]?:=by rw [htk]
   rw [List.getElem?_take_of_lt hj,List.getElem?_map,Array.getElem?_toList] at h1
   rw [h1];simp [hj]
  have hH:Holds enc w g0 0 l.toArray:=by
   intro j hj
   have hj':j<l.length:=by simpa using hj
   constructor
   ·simp [World.cell?,hh,hcell j hj']
   ·simp only [World.frozen?,hh]
    rcases hMk.w with rfl|hMk
    ·simp
    ·obtain ⟨lo,hi⟩:=fz
     have:cur.size≤lo:=hMk
     simp;omega
  rw [show [m0 0].toArray=#[m0 0] from rfl,hv]
  refine (hrun w g0 cap hH hlt).mono ?_
  rintro x w' ⟨rfl,nn,os,rfl⟩
  have hgO:=hO g0 (by rw [hv];rfl)
  have hnh:=Di enc w nn g0 l'.toArray os hh
  refine ⟨_,rfl,⟨rfl,rfl,rfl,by simp,trivial,fun k hk hng'=>zY enc w nn g0 _ os hk fun e=>hng' (e▸hgO)⟩,m0,1,fun _ _=>rfl,Nat.le_refl _,.tup [] [] .nil,?_,?_⟩
  ·intro i it hi
   have hi0:i=0:=by
    simp only [lk] at hi
    split at hi
    ·rename_i h;exact h.symm
    ·cases hi
   subst hi0
   have:it=Item.row e r':=by simp [lk] at hi;exact hi.symm
   subst this
   have hr':=hup _ ⟨grow (putRow enc (Sort.ahead w nn) g0 0 l'.toArray) os,allow ⟨fun b=>T b∨g b,g⟩ w.heap.size m0 [(0,.row e r')],m0,1⟩ _ hr
   refine ⟨by omega,l.length,l'.map enc,hr',hrl',?_,fun b hb=>.inr ⟨hO b hb,.inr (hO b hb)⟩⟩
   rw [hr2]
   refine ⟨by simp [hll],.inr ⟨g0,cap,_,fz,hv,by rw [oz];exact hMk,hnh,hnc,hcm,by rw [oz,hcs,Nat.mul_one],?_⟩⟩
   rw [Nat.mul_one]
   exact xG enc l' cur _ hll (by omega)
  ·intro i j it jt b hi hj _ _
   have aux:∀ q x,lk [(0,Item.row e r')] q=some x→q=0:=by
    intro q x hq
    simp only [lk] at hq
    split at hq
    ·rename_i h;exact h.symm
    ·cases hq
   rw [aux i it hi,aux j jt hj]
end
end Go.Fv
