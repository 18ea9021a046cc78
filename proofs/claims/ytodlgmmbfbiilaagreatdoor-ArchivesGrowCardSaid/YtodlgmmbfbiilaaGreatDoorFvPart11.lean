/-
  A part of the proof of the claim: walks over the program's functions and the plain laws that these need. No condition of its own.
-/
import Derived.Test.YtodlgmmbfbiilaaGreatDoorFvPart10
import Derived.Test.YtodlgmmbfbiilaaGreatDoorFvPart8
import Derived.Test.YtodlgmmbfbiilaaGreatDoorFvPart6
import Derived.Shelf.Vars
import Derived.Handed
import Derived.LaidSub
import Derived.Lib.LaidTab
set_option linter.unusedSectionVars false
set_option linter.unusedVariables false
set_option linter.unusedSimpArgs false
set_option linter.unnecessarySimpa false
/-
 An owned row becomes data, wherever the state speaks of it.
-/
namespace Go.Fv
open Go.RowKit
mutual
def fz (k:Nat) (r:aG):AV→AV
 | .own i=>if i=k then .ro r else .own i
 | .ptr i o=>.ptr i o
 | .elt i a b c=>.elt i a b c
 | .pre i n=>.pre i n
 | .agg cs=>.agg (Je k r cs)
 | .tup cs=>.tup (Je k r cs)
 | .fn f cs=>.fn f (Je k r cs)
 | .cell cs=>.cell cs
 | .dead=>.dead
 | .nilS=>.nilS
 | .bool b=>.bool b
 | .int q n=>.int q n
 | .str s=>.str s
 | .ro r=>.ro r
 | .raw v=>.raw v
 | .opt b v=>.opt b (fz k r v)
 | .mp ks vs=>.mp ks vs
def Je (k:Nat) (r:aG):List AV→List AV
 | []=>[]
 | x::l=>fz k r x::Je k r l
end
def V3 (k:Nat) (q:aG):aG→aG
 | .objs sz l=>.objs sz (l.map (Je k q))
 | .bools l=>.bools l
 | .ints k l=>.ints k l
 | .strs l=>.strs l
def Wv (k:Nat) (q:aG):Item→Item
 | .row e r=>.row e (V3 k q r)
 | .box e cs=>.box e (Je k q cs)
 | .map ks vs=>.map (Je k q ks) (Je k q vs)
 | .iter mp since seen=>.iter mp since seen
 | .siter t pos=>.siter t pos
def Wu (k:Nat) (q:aG):List (Nat × AV)→List (Nat × AV)
 | []=>[]
 |(i,v)::l=>(i,fz k q v)::Wu k q l
def tu (k:Nat) (q:aG):List (Nat × Item)→List (Nat × Item)
 | []=>[]
 |(i,it)::l=>if i=k then tu k q l else (i,Wv k q it)::tu k q l
def S.fz (s:S) (k:Nat) (r:aG):S:={ s with env:=Wu k r s.env,rows:=tu k r s.rows }
theorem Qb (k:Nat) (q:aG):∀ (l:List (Nat × AV)) (i:Nat),lk (Wu k q l) i=(lk l i).map (fz k q)
 | [],i=>rfl
 |(j,v)::l,i=>by
  simp only [Wu,lk]
  split
  ·rfl
  ·exact Qb k q l i
theorem wS (k:Nat) (q:aG):∀ (l:List (Nat × Item)) (i:Nat),lk (tu k q l) i=if i=k then none else (lk l i).map (Wv k q)
 | [],i=>by simp [tu,lk]
 |(j,v)::l,i=>by
  simp only [tu]
  split
  ·rename_i e;subst e
   rw [wS]
   by_cases h:i=j
   ·simp [h]
   ·simp only [if_neg h,lk];rw [if_neg (fun e=>h e.symm)]
  ·rename_i e
   simp only [lk]
   split
   ·rename_i e2;subst e2;rw [if_neg e];rfl
   ·exact wS k q l i
mutual
theorem zW {k:Nat} {r:aG} (n:Nat):∀ x:AV,below n x=true→below n (fz k r x)=true
 | .own i,h=>by
  simp only [fz];split
  ·rfl
  ·exact h
 | .ptr i o,h=>h
 | .elt i a b c,h=>h
 | .pre i n,h=>h
 | .agg cs,h=>by simp only [fz,below] at *;exact qY n cs h
 | .tup cs,h=>by simp only [fz,below] at *;exact qY n cs h
 | .fn f cs,h=>by simp only [fz,below] at *;exact qY n cs h
 | .cell cs,_=>rfl
 | .dead,_=>rfl
 | .nilS,_=>rfl
 | .bool _,_=>rfl
 | .int _ _,_=>rfl
 | .str _,_=>rfl
 | .ro _,_=>rfl
 | .raw _,_=>rfl
 | .opt _ v,h=>by simp only [fz,below] at *;exact zW n v h
 | .mp _ _,_=>rfl
theorem qY {k:Nat} {r:aG} (n:Nat):∀ x:List AV,aP n x=true→aP n (Je k r x)=true
 | [],_=>rfl
 | x::l,h=>by
  simp only [aP,Bool.and_eq_true] at h
  simp [Je,aP,zW n x h.1,qY n l h.2]
end
mutual
theorem JC (k:Nat) (r:aG) (b0:Nat) (hb:b0≤k):∀ x:AV,below b0 x=true→fz k r x=x
 | .own i,h=>by
  simp only [below,decide_eq_true_eq] at h
  simp only [fz];rw [if_neg (by omega)]
 | .ptr i o,h=>rfl
 | .elt i a b c,h=>rfl
 | .pre i n,h=>rfl
 | .agg cs,h=>by simp only [fz];rw [yY k r b0 hb cs (by simpa [below] using h)]
 | .tup cs,h=>by simp only [fz];rw [yY k r b0 hb cs (by simpa [below] using h)]
 | .fn f cs,h=>by simp only [fz];rw [yY k r b0 hb cs (by simpa [below] using h)]
 | .cell cs,_=>rfl
 | .dead,_=>rfl
 | .nilS,_=>rfl
 | .bool _,_=>rfl
 | .int _ _,_=>rfl
 | .str _,_=>rfl
 | .ro _,_=>rfl
 | .raw _,_=>rfl
 | .mp _ _,_=>rfl
 | .opt b v,h=>by simp only [fz];rw [JC k r b0 hb v (by simpa [below] using h)]
theorem yY (k:Nat) (r:aG) (b0:Nat) (hb:b0≤k):∀ x:List AV,aP b0 x=true→Je k r x=x
 | [],_=>rfl
 | x::l,h=>by
  simp only [aP,Bool.and_eq_true] at h
  simp only [Je];rw [JC k r b0 hb x h.1,yY k r b0 hb l h.2]
end
structure zu (k:Nat) (r:aG) (c c':Ctx):Prop where
 n:c'.N=c.N
 m:c'.m=c.m
 t:∀ b,c.T b→b<c.w.heap.size→c'.T b∧c'.w.heap[b]?=c.w.heap[b]?
 ro:Rv c' (.ro r) (c.m k)
mutual
theorem Rv.fz {k:Nat} {r:aG} {c c':Ctx} (h:zu k r c c'):∀ {x:AV} {v:Value},Rv c x v→Rv c' (Fv.fz k r x) v
 | _,_,.dead v=>.dead v
 | _,_,.nilS=>.nilS
 | _,_,.bool b=>.bool b
 | _,_,.int q n hk=>.int q n hk
 | _,_,.str s hs=>.str s hs
 | _,_,.roNil r hr hi=>.roNil r (bG.eP h.t hr hi) hi
 | _,_,.ro r a len cap cells hr hl hc hm hs hi=>.ro r a len cap cells (bG.eP h.t hr hi) hl hc hm (hs.mono' h.t) hi
 | _,_,.mp ks vs g es clock hk hv hb hc hT hh hi hi2=>.mp ks vs g es clock (dF.eP h.t hk hi) (dF.eP h.t hv hi2) hb hc (h.t g hT (Array.getElem?_eq_some_iff.1 hh).1).1 (by rw [(h.t g hT (Array.getElem?_eq_some_iff.1 hh).1).2];exact hh) hi hi2
 | _,_,.own i hi h1=>by
  simp only [Fv.fz]
  split
  ·rename_i e;subst e;exact h.ro
  ·rw [←h.m];exact .own i (by rw [h.n];exact hi) (by rw [h.m];exact h1)
 | _,_,.cell cs vs a hl hi hs=>.cell cs vs a (bJ.eP h.t hl hi) hi (hs.mono' h.t)
 | _,_,.ptr i off g hi hg=>.ptr i off g (by rw [h.n];exact hi) (by rw [h.m];exact hg)
 | _,_,.elt i a b d g hi hg=>.elt i a b d g (by rw [h.n];exact hi) (by rw [h.m];exact hg)
 | _,_,.pre i n l cap a hi hv hn=>.pre i n l cap a (by rw [h.n];exact hi) (by rw [h.m];exact hv) hn
 | _,_,.agg cs vs hl=>.agg _ vs (bJ.fz h hl)
 | _,_,.tup cs vs hl=>.tup _ vs (dF.fz h hl)
 | _,_,.fn f cs vs hl=>.fn f _ vs (dF.fz h hl)
 | _,_,.raw v=>.raw v
 | _,_,.opt b x v hb hx h2=>.opt b _ v (by rw [h.n];exact zW _ _ hb) (fun e=>Rv.fz h (hx e)) h2
theorem bJ.fz {k:Nat} {r:aG} {c c':Ctx} (h:zu k r c c'):∀ {x:List AV} {v:List Value},bJ c x v→bJ c' (Je k r x) v
 | _,_,.nil=>.nil
 | _,_,.cons x v l vs hx h1 ht=>.cons _ v _ vs (Rv.fz h hx) h1 (bJ.fz h ht)
theorem dF.fz {k:Nat} {r:aG} {c c':Ctx} (h:zu k r c c'):∀ {x:List AV} {v:List Value},dF c x v→dF c' (Je k r x) v
 | _,_,.nil=>.nil
 | _,_,.cons x v l vs hx ht=>.cons _ v _ vs (Rv.fz h hx) (dF.fz h ht)
end
theorem bf.fz {k:Nat} {r:aG} {c c':Ctx} (h:zu k r c c'):∀ {sz:Nat} {x:List (List AV)} {v:List Value},bf c sz x v→bf c' sz (x.map (Je k r)) v
 | _,_,_,.nil sz=>.nil sz
 | _,_,_,.cons sz o vs l cells ho hl ht=>.cons sz _ vs _ cells (ho.fz h) hl (ht.fz h)
theorem bG.fz {k:Nat} {q:aG} {c c':Ctx} (h:zu k q c c') {x:aG} {v:List Value} (hr:bG c x v):bG c' (V3 k q x) v:=by
 cases hr with
 | bools l=>exact .bools l
 | ints k l hk=>exact .ints k l hk
 | strs l hs=>exact .strs l hs
 | objs sz l cells hz ho=>exact .objs sz _ _ hz (ho.fz h)
theorem Tv (k:Nat) (q r:aG):(V3 k q r).len=r.len:=by cases r<;>simp [V3,aG.len]
theorem Vl (k:Nat) (q r:aG):(V3 k q r).sz=r.sz:=by cases r<;>rfl
theorem aV.fz {k:Nat} {q:aG} {c c':Ctx} (h:zu k q c c') (hw:c'.w=c.w) {O:Nat→Prop} {v:Value} {it:Item} (hi:aV c O v it):aV c' O v (Wv k q it):=by
 cases it with
 | row e r=>
  obtain ⟨n,cells,hr,hn,ho,hO⟩:=hi
  exact ⟨n,cells,hr.fz h,by rw [Tv];exact hn,by rw [Vl,hw];exact ho,hO⟩
 | box e cs=>obtain ⟨g,vs,rfl,hg,hl,hh⟩:=hi;exact ⟨g,vs,rfl,hg,hl.fz h,by rw [hw];exact hh⟩
 | map ks vs=>obtain ⟨g,es,clock,rfl,hg,h1,h2,h3,h4,hh⟩:=hi;exact ⟨g,es,clock,rfl,hg,h1.fz h,h2.fz h,h3,h4,by rw [hw];exact hh⟩
 | iter mp since seen=>obtain ⟨g,p,sn,last,rfl,hg,h1,h2,h3,h4,hh⟩:=hi;exact ⟨g,p,sn,last,rfl,hg,by rw [h.n];exact h1,by rw [h.m];exact h2,h3,h4,by rw [hw];exact hh⟩
 | siter t pos=>obtain ⟨g,rfl,hg,hh⟩:=hi;exact ⟨g,rfl,hg,by rw [hw];exact hh⟩
section
variable {w0:World} {T0:Bs} {b0:Nat}
theorem aK.fz (k:Nat) {s:S} {e:TypeId} {r:aG} (hk:lk s.rows k=some (.row e r)) (hid:gy r=true) (hb:b0≤k):aK w0 T0 b0 s (s.fz k r):=by
 rintro H a w hH ⟨m,hm⟩
 have hsub:∀ i it,lk (s.fz k r).rows i=some it→i≠k∧∃ jt,lk s.rows i=some jt∧it=Wv k r jt:=by
  intro i it hi
  simp only [S.fz,wS] at hi
  split at hi
  ·cases hi
  ·rename_i hne
   cases hq:lk s.rows i with
   | none=>rw [hq] at hi;cases hi
   | some jt=>rw [hq] at hi;cases hi;exact ⟨hne,jt,rfl,rfl⟩
 have hdel:∀ i it,lk (del s.rows k) i=some it→lk s.rows i=some it:=jR _ _
 have hro:=JY hm hk hdel (by rw [oN,if_pos rfl]) hid
 have hT:∀ b,allow T0 w0.heap.size m (del s.rows k) b→allow T0 w0.heap.size m (s.fz k r).rows b:=by
  rintro b ⟨h1,h2⟩
  refine ⟨h1,fun i it hi e=>?_⟩
  obtain ⟨hne,jt,hj,_⟩:=hsub i it hi
  exact h2 i jt (by rw [oN,if_neg hne];exact hj) e
 have hc:zu k r (au T0 w0.heap.size m s w) (au T0 w0.heap.size m (s.fz k r) w):=
  {n:=rfl,m:=rfl,
   t:=by
    intro b ⟨h1,h2⟩ _
    exact ⟨hT b ⟨h1,fun i it hi=>h2 i it (hdel i it hi)⟩,rfl⟩,
   ro:=by
    refine Rv.eP (c:=au T0 w0.heap.size m { s with rows:=del s.rows k } w) ?_ hro rfl
    intro b hb _
    exact ⟨hT b hb,rfl⟩ }
 refine ⟨m,{ size:=hm.size,nodef:=hm.nodef,below:=hm.below,env:=?_,held:=?_,rows:=?_,sep:=?_ }⟩
 ·intro q v hv
  simp only [S.fz,Qb] at hv
  cases hq:lk s.env q with
  | none=>rw [hq] at hv;cases hv
  | some y=>rw [hq] at hv;cases hv;exact (hm.env q y hq).fz hc
 ·intro p hp
  have h1:=(hm.held p hp).fz hc
  have h2:Fv.fz k r p.1=p.1:=by
   have hlow:=hH p hp
   exact JC k r b0 hb p.1 hlow
  rwa [h2] at h1
 ·intro i it hi
  obtain ⟨hne,jt,hj,rfl⟩:=hsub i it hi
  exact ⟨(hm.rows i jt hj).1,(hm.rows i jt hj).2.fz hc rfl⟩
 ·intro i j it jt b hi hj hbi hbj
  obtain ⟨_,it',hi',_⟩:=hsub i it hi
  obtain ⟨_,jt',hj',_⟩:=hsub j jt hj
  exact hm.sep i j it' jt' b hi' hj' hbi hbj
end
attribute [go_sem] fz Je V3 Wv Wu tu S.fz
end Go.Fv
/-
 The set by which states are held against one another.
-/
namespace Go.Fv
theorem IE (p:Nat→Nat) (x:AV):∀ n:Nat,gK p (List.replicate n x)=List.replicate n (ren p x)
 | 0=>rfl
 | n+1=>by simp only [List.replicate_succ,gK];rw [IE p x n]
theorem sS {N:Nat} {x:AV} (h:below N x=true):∀ n:Nat,aP N (List.replicate n x)=true
 | 0=>rfl
 | n+1=>by simp only [List.replicate_succ,aP,h,Bool.true_and];exact sS h n
theorem DT {x:AV} (h:dA x=true):∀ n:Nat,bM (List.replicate n x)=true
 | 0=>rfl
 | n+1=>by simp only [List.replicate_succ,bM,h,Bool.true_and];exact DT h n
theorem ML {x:AV} (h:dA x=true) (n:Nat) (y:List AV):y7 (List.replicate n x) y=[]:=kD _ y (DT h n)
theorem Gn (N n:Nat) (b:Bool):aP N (List.replicate n (AV.bool b))=true:=sS rfl n
theorem Gp (N n:Nat) (k:IntKind) (i:Int):aP N (List.replicate n (AV.int k i))=true:=sS rfl n
theorem Qo (n:Nat) (b:Bool) (y:List AV):y7 (List.replicate n (AV.bool b)) y=[]:=ML rfl n y
theorem Qp (n:Nat) (k:IntKind) (i:Int) (y:List AV):y7 (List.replicate n (AV.int k i)) y=[]:=ML rfl n y
attribute [go_sem] Qq Qn DI H6 wZ Ri VG H9 kQ xU mF DJ MK EY mkItem mkV y7 pm Item.below AV.own.injEq AV.str.injEq AV.ro.injEq AV.agg.injEq AV.tup.injEq List.cons.injEq Option.some.injEq Item.row.injEq Item.box.injEq aG.ints.injEq aG.bools.injEq aG.strs.injEq aG.objs.injEq Nat.succ_ne_self IE Gn Gp Qo Qp H8 wY pU DF
attribute [go_sem] fB fE sH MW
end Go.Fv
/-
 Calls into the callee's code: what it writes into memory that the caller owns is seen by the caller.
-/
namespace Go.Fv
open Go.RowKit
def Sj (P:Program) (res:List ResultVar) (s:S) (K:AV→S→Prop):Exit→S→Prop
 | .normal,s1=>wZ P s1 res (fun vs=>K (kQ vs) { s with rows:=s1.rows,next:=s1.next })
 | .ret,s1=>wZ P s1 res (fun vs=>K (kQ vs) { s with rows:=s1.rows,next:=s1.next })
 | _,_=>False
section
variable {P:Program} {w0:World} {T0:Bs}
theorem ah.inl {f:Nat} {fn:Func} {c:Code} {args:List AV} {s:S} {K:AV→S→Prop} (hf:P.funcs[f]?=some fn) (hb:fn.body=some c)
  (hnm:(fn.name == "runtime.NumGoroutine")=false) (hn:args.length≤fn.ntmps) (res:List ResultVar) (hres:fn.results=res.toArray)
  (h:ig P w0 T0 s.next c ⟨fn.ntmps,aB 0 args,s.rows,s.next⟩ (Sj P res s K)):@ah P w0 T0 f args s ⟨K⟩:=by
 refine ⟨⟨fn,hf,by rw [hb];rfl,hnm⟩,fun H a w m vals hm hv=>?_⟩
 refine calls_of_wp hf hb ?_
 have hlen:=hv.length
 have hE:∀ p,p∈(s.env.map fun p=>(s.get p.1,a.tmps.getD p.1 undef))++H→Rv (au T0 w0.heap.size m s w) p.1 p.2:=by
  intro p hp
  rcases List.mem_append.1 hp with hp|hp
  ·obtain ⟨q,_,rfl⟩:=List.mem_map.1 hp
   show Rv _ (s.get q.1) _
   unfold S.get
   cases hl:lk s.env q.1 with
   | none=>exact .dead _
   | some y=>exact hm.env q.1 y hl
  ·exact hm.held p hp
 have hrep:aY w0 T0 ((s.env.map fun p=>(s.get p.1,a.tmps.getD p.1 undef))++H) ⟨fn.ntmps,aB 0 args,s.rows,s.next⟩ { tmps:=vals.toArray++Array.replicate (fn.ntmps - vals.toArray.size) undef,defers:=[] } w m:=
  {size:=by simp;omega,nodef:=rfl,below:=hm.below,
   env:=by
    intro r v hr
    obtain ⟨u,h1,h2⟩:=qN 0 [] rfl hv r v hr
    have e:((vals.toArray++Array.replicate (fn.ntmps - vals.toArray.size) undef).getD r undef)=u:=by
     have h1':vals[r]?=some u:=by simpa using h1
     have hlt:r<vals.length:=(List.getElem?_eq_some_iff.1 h1').1
     rw [Array.getD_eq_getD_getElem?,Array.getElem?_append_left (by simpa using hlt)]
     simp [h1']
    rw [e];exact h2,
   held:=hE,rows:=hm.rows,sep:=hm.sep }
 refine wp_mono (h _ _ w (fun p hp=>(hE p hp).ids) ⟨m,hrep⟩) ?_
 rintro e a1 w1 ⟨s1,hq,m1,hm1⟩
 have fin:wZ P s1 res (fun vs=>K (kQ vs) { s with rows:=s1.rows,next:=s1.next })→a1.defers=[]∧∃ v,(results fn a1.tmps).run P w1=.ok v w1∧∃ v',Ending.returned v=.returned v'∧∃ r s',K r s'∧Rep w0 T0 ((r,v')::H) s' a w1:=by
  intro hk
  obtain ⟨l,vs,hk,hr,hvs⟩:=qF hm1 hk
  have hrv:Rv (au T0 w0.heap.size m1 s1 w1) (kQ l) (KE vs):=by
   cases hvs with
   | nil=>exact .tup _ _ .nil
   | cons x v l us hx ht=>
    cases ht with
    | nil=>exact hx
    | cons x' v' l' us' hx' ht'=>exact .tup _ _ (.cons _ _ _ _ hx (.cons _ _ _ _ hx' ht'))
  refine ⟨hm1.nodef,_,lC hres a1.tmps hr,_,rfl,_,_,hk,m1,?_⟩
  exact
     {size:=hm.size,nodef:=hm.nodef,below:=hm1.below,
      env:=by
       intro r v hv
       have hmem:(s.get r,a.tmps.getD r undef)∈(s.env.map fun p=>(s.get p.1,a.tmps.getD p.1 undef))++H:=
        List.mem_append.2 (.inl (List.mem_map.2 ⟨(r,v),dQ hv,rfl⟩))
       have:=hm1.held _ hmem
       have e:s.get r=v:=by unfold S.get;rw [show lk s.env r=some v from hv]
       rw [e] at this;exact this,
      held:=by
       intro p hp
       cases List.mem_cons.1 hp with
       | inl e=>subst e;exact hrv
       | inr e=>exact hm1.held p (List.mem_append.2 (.inr e)),
      rows:=hm1.rows,sep:=hm1.sep }
 cases e with
 | normal=>exact fin hq
 | ret=>exact fin hq
 | _=>exact hq.elim
end
end Go.Fv
/-
 Contracts of functions that are given memory, which they turn and hand back.
-/
namespace Go.Fv
open Go.RowKit
def Ei (w:World) (T g:Nat→Prop) (m0:Nat→Value) (k:Nat) (rows0:List (Nat × Item)):Prop:=
 (∀ i it,lk rows0 i=some it→i<k∧aV ⟨w,T,m0,k⟩ g (m0 i) it) ∧
 (∀ i j it jt b,lk rows0 i=some it→lk rows0 j=some jt→blk (m0 i)=some b→blk (m0 j)=some b→i=j) ∧
 (∀ b,T b→¬g b)
def gU (P:Program) (f:Nat) (args:List AV) (rows0:List (Nat × Item)) (k:Nat) (out:AV) (rows:List (Nat × Item)):Prop:=
 Enter P f∧∀ (w:World) (T g:Nat→Prop) (m0:Nat→Value) (vals:List Value),Ei w T g m0 k rows0→rV P w→(∀ (b:Nat) (q:GK),RX P b=some q→¬g b)→dF ⟨w,T,m0,k⟩ args vals →
  Calls P f vals.toArray w fun e w'=>∃ v,e=.returned v∧bn g w w'∧∃ m N,(∀ i,i<k→m i=m0 i)∧k≤N ∧
   Rv ⟨w',allow ⟨fun b=>T b∨g b,g⟩ w.heap.size m rows,m,N⟩ out v ∧
   (∀ i it,lk rows i=some it→i<N∧aV ⟨w',allow ⟨fun b=>T b∨g b,g⟩ w.heap.size m rows,m,N⟩ (ownB ⟨fun b=>T b∨g b,g⟩ w.heap.size) (m i) it) ∧
   (∀ i j it jt b,lk rows i=some it→lk rows j=some jt→blk (m i)=some b→blk (m j)=some b→i=j)
section
variable {P:Program} {w0:World} {T0:Bs}
def kU (P:Program) (w0:World) (T0:Bs) (k:Nat) (res:List ResultVar) (out:AV) (rows:List (Nat × Item)) (s:S):Prop:=
 ∀ (H:List (AV × Value)) (a:Act) (w:World),zy k H→Rep w0 T0 H s a w→∃ v,(∀ (fn:Func),fn.results=res.toArray→(results fn a.tmps).run P w=.ok v w) ∧
  ∃ m N,k≤N∧(∀ p,p∈H→Rv ⟨w,allow T0 w0.heap.size m rows,m,N⟩ p.1 p.2)∧Rv ⟨w,allow T0 w0.heap.size m rows,m,N⟩ out v ∧
   (∀ i it,lk rows i=some it→i<N∧aV ⟨w,allow T0 w0.heap.size m rows,m,N⟩ (ownB T0 w0.heap.size) (m i) it) ∧
   (∀ i j it jt b,lk rows i=some it→lk rows j=some jt→blk (m i)=some b→blk (m j)=some b→i=j)
def Uy (P:Program) (w0:World) (T0:Bs) (k:Nat) (res:List ResultVar) (out:AV) (rows:List (Nat × Item)):Exit→S→Prop
 | .normal,s=>kU P w0 T0 k res out rows s
 | .ret,s=>kU P w0 T0 k res out rows s
 | _,_=>False
@[congr] theorem U0 {k:Nat} {res:List ResultVar} {out:AV} {rows:List (Nat × Item)} {s s':S} (h:s=s'):kU P w0 T0 k res out rows s=kU P w0 T0 k res out rows s':=by rw [h]
theorem kU.of {k:Nat} (l:List (Nat × Nat)) (N:Nat) (hl:∀ x,x∈l→k≤x.1) (hk:k≤N) {res:List ResultVar} {out:AV} {rows:List (Nat × Item)} {s:S} (h:wZ P s res (fun vs=>kQ vs=ren (pm l) out)) (hb:Fv.below N out=true) (hr:mF (pm l) s.rows N rows):kU P w0 T0 k res out rows s:=by
 rintro H a w hH ⟨m,hm⟩
 obtain ⟨vs,us,he,hrun,hvs⟩:=qF hm h
 have hlow:∀ i,i<k→pm l i=i:=by
  intro i hi
  unfold pm
  cases h:lk l i with
  | none=>rfl
  | some j=>have:=hl _ (dQ h);simp at this;omega
 have hrv:Rv (au T0 w0.heap.size m s w) (kQ vs) (KE us):=by
  cases hvs with
  | nil=>exact .tup _ _ .nil
  | cons x v l us hx ht=>
   cases ht with
   | nil=>exact hx
   | cons x' v' l' us' hx' ht'=>exact .tup _ _ (.cons _ _ _ _ hx (.cons _ _ _ _ hx' ht'))
 have hren:kH (pm l) (au T0 w0.heap.size m s w) ⟨w,allow T0 w0.heap.size (fun i=>m (pm l i)) rows,fun i=>m (pm l i),N⟩:=
  {m:=fun _ _=>rfl,
   t:=by
    intro b ⟨h1,h2⟩ _
    refine ⟨⟨h1,fun i it hi e=>?_⟩,rfl⟩
    obtain ⟨_,h3,_⟩:=dS hr i it (dQ hi)
    exact h2 _ _ h3 e }
 refine ⟨_,fun fn hf=>lC hf a.tmps hrun,fun i=>m (pm l i),N,hk,fun p hp=>?_,Rv.ren hren out hb (by rw [←he];exact hrv),fun i it hi=>?_,fun i j it jt b hi hj hbi hbj=>?_⟩
 ·have h1:=hH p hp
  refine Rv.ren hren p.1 (below_le hk _ h1) ?_
  rw [jT hlow _ h1];exact hm.held p hp
 ·obtain ⟨h1,h2,h3⟩:=dS hr i it (dQ hi)
  exact ⟨h1,aV.ren hren rfl h3 (hm.rows _ _ h2).2⟩
 ·obtain ⟨_,h2,_⟩:=dS hr i it (dQ hi)
  obtain ⟨_,h2',_⟩:=dS hr j jt (dQ hj)
  exact rM hr i j it jt (dQ hi) (dQ hj) (hm.sep _ _ _ _ b h2 h2' hbi hbj)
theorem kU.auto {k:Nat} (N:Nat) (hk:k≤N) {res:List ResultVar} {out:AV} {rows:List (Nat × Item)} {s:S} (h:wZ P s res (fun vs=>kQ vs=ren (pm (jY k (H9 s res out rows))) out)) (hb:Fv.below N out=true) (hr:mF (pm (jY k (H9 s res out rows))) s.rows N rows):kU P w0 T0 k res out rows s:=
 kU.of _ N (uP k _) hk h hb hr
theorem aV.oneCell {c:Ctx} {O:Nat→Prop} {v:Value} {it:Item} (h:aV c O v it):v.oneCell'=true:=by
 cases it with
 | row e r=>
  obtain ⟨n,cells,_,_,ho,_⟩:=h
  rcases ho.2 with ⟨rfl,_⟩|⟨g,cap,cur,fz,rfl,_⟩<;>rfl
 | box e cs=>obtain ⟨g,vs,rfl,_⟩:=h;rfl
 | map ks vs=>obtain ⟨g,es,clock,rfl,_⟩:=h;rfl
 | iter mp since seen=>obtain ⟨g,q,sn,last,rfl,_⟩:=h;rfl
 | siter t pos=>obtain ⟨g,rfl,_⟩:=h;rfl
theorem gU.of_run {f:Nat} {fn:Func} {c:Code} {args:List AV} {rows0:List (Nat × Item)} {k:Nat} {out:AV} {rows:List (Nat × Item)} (hf:P.funcs[f]?=some fn) (hb:fn.body=some c)
  (hnm:(fn.name == "runtime.NumGoroutine")=false) (hn:args.length≤fn.ntmps) (hcov:∀ j,j<k→∃ it,lk rows0 j=some it) (res:List ResultVar) (hres:fn.results=res.toArray)
  (h:∀ (w0:World) (T0:Bs) [qL P w0 T0],ig P w0 T0 k c ⟨fn.ntmps,aB 0 args,rows0,k⟩ (Uy P w0 T0 k res out rows)):gU P f args rows0 k out rows:=by
 refine ⟨⟨fn,hf,by rw [hb];rfl,hnm⟩,fun w T g m0 vals hG hgl hgg hv=>?_⟩
 haveI:qL P w ⟨fun b=>T b∨g b,g⟩:=⟨hgl,fun b q hq h=>hgg b q hq h.1⟩
 obtain ⟨hrows,hsep,hTg⟩:=hG
 refine calls_of_wp hf hb ?_
 have hlen:=hv.length
 have hle:dI (⟨w,T,m0,k⟩:Ctx) (au ⟨fun b=>T b∨g b,g⟩ w.heap.size m0 ⟨fn.ntmps,aB 0 args,rows0,k⟩ w):=
  ⟨Nat.le_refl _,fun _ _=>rfl,fun b hb _=>⟨⟨.inr (.inl hb),fun i it hi e=>hTg b hb ((hrows i it hi).2.blk b e).1⟩,rfl⟩⟩
 have hrep:aY w ⟨fun b=>T b∨g b,g⟩ (rows0.map fun p=>(.own p.1,m0 p.1)) ⟨fn.ntmps,aB 0 args,rows0,k⟩ { tmps:=vals.toArray++Array.replicate (fn.ntmps - vals.toArray.size) undef,defers:=[] } w m0:=
  {size:=by simp;omega,nodef:=rfl,below:=bn.refl _ _,
   env:=by
    intro r v hr
    obtain ⟨u,h1,h2⟩:=qN 0 [] rfl hv r v hr
    have e:((vals.toArray++Array.replicate (fn.ntmps - vals.toArray.size) undef).getD r undef)=u:=by
     have h1':vals[r]?=some u:=by simpa using h1
     have hlt:r<vals.length:=(List.getElem?_eq_some_iff.1 h1').1
     rw [Array.getD_eq_getD_getElem?,Array.getElem?_append_left (by simpa using hlt)]
     simp [h1']
    rw [e];exact h2.mono hle,
   held:=by
    intro p hp
    obtain ⟨q,hq,rfl⟩:=List.mem_map.1 hp
    obtain ⟨it,hit⟩:=MC hq
    obtain ⟨h1,h2⟩:=hrows _ _ hit
    exact .own q.1 h1 h2.oneCell,
   rows:=fun i it hi=>⟨(hrows i it hi).1,(((hrows i it hi).2).mono hle fun _ _=>rfl).own fun b hb=>.inr ⟨hb,.inr hb⟩⟩,sep:=hsep }
 have hH:zy k (rows0.map fun p=>(AV.own p.1,m0 p.1)):=by
  intro p hp
  exact (hrep.held p hp).ids
 refine wp_mono (h w _ _ _ w hH ⟨_,hrep⟩) ?_
 rintro e a w' ⟨s',hq,hr⟩
 have fin:kU P w ⟨fun b=>T b∨g b,g⟩ k res out rows s'→a.defers=[]∧∃ v,(results fn a.tmps).run P w'=.ok v w'∧∃ v',Ending.returned v=.returned v'∧bn g w w'∧∃ m N,(∀ i,i<k→m i=m0 i)∧k≤N ∧
   Rv ⟨w',allow ⟨fun b=>T b∨g b,g⟩ w.heap.size m rows,m,N⟩ out v' ∧
   (∀ i it,lk rows i=some it→i<N∧aV ⟨w',allow ⟨fun b=>T b∨g b,g⟩ w.heap.size m rows,m,N⟩ (ownB ⟨fun b=>T b∨g b,g⟩ w.heap.size) (m i) it) ∧
   (∀ i j it jt b,lk rows i=some it→lk rows j=some jt→blk (m i)=some b→blk (m j)=some b→i=j):=by
  intro hret
  obtain ⟨v,hv,m,N,hkN,hheld,hout,hit,hsp⟩:=hret _ a w' hH hr
  obtain ⟨m',hm⟩:=hr
  refine ⟨hm.nodef,v,hv fn hres,v,rfl,hm.below.mono fun b hb=>hb.1,m,N,fun i hi=>?_,hkN,hout,hit,hsp⟩
  obtain ⟨it,hi'⟩:=hcov i hi
  have:=hheld (.own i,m0 i) (List.mem_map.2 ⟨(i,it),dQ hi',rfl⟩)
  generalize hmi:m0 i=mi at this
  cases this
  rfl
 cases e with
 | normal=>exact fin hq
 | ret=>exact fin hq
 | _=>exact hq.elim
theorem gU.aJ {f:Nat} {fn:Func} {c:Code} {args:List AV} {rows0:List (Nat × Item)} {k:Nat} {out:AV} {rows:List (Nat × Item)} (hf:P.funcs[f]?=some fn) (hb:fn.body=some c)
  (hnm:(fn.name == "runtime.NumGoroutine")=false) (hn:args.length≤fn.ntmps) (hcov:∀ j,j<k→∃ it,lk rows0 j=some it) (res:List ResultVar) (hres:fn.results=res.toArray)
  (h:∀ (w0:World) (T0:Bs) [qL P w0 T0],jd P w0 T0 k c (Uy P w0 T0 k res out rows) ⟨fn.ntmps,aB 0 args,rows0,k⟩):gU P f args rows0 k out rows:=
 .of_run hf hb hnm hn hcov res hres fun w0 T0=>.of (h w0 T0)
/-! ### The call -/
def nO (ids:List Nat) (next:Nat) (j:Nat):Nat:=match ids[j]? with|some i=>i|none=>next+(j - ids.length)
def nD (p:Nat→Nat):List (Nat × Item)→List (Nat × Item)
 | []=>[]
 |(i,it)::l=>(p i,it.ren p)::nD p l
def zL {α:Type}:List (Nat × α)→List Nat→List (Nat × α)
 | l,[]=>l
 | l,i::is=>zL (del l i) is
theorem MB {α:Type}:∀ (is:List Nat) (l:List (Nat × α)) (j:Nat),lk (zL l is) j=if j∈is then none else lk l j
 | [],l,j=>by simp [zL]
 | i::is,l,j=>by
  simp only [zL]
  rw [MB is,oN]
  by_cases h1:j∈is
  ·simp [h1]
  ·by_cases h2:j=i<;>simp [h1,h2]
def S.PX (s:S) (ids:List Nat) (N:Nat) (rows:List (Nat × Item)):S:={ s with rows:=nD (nO ids s.next) rows++zL s.rows ids,next:=s.next+(N - ids.length) }
theorem uY {p:Nat→Nat} {S:Nat→Prop} (hp:∀ i j,S i→S j→p i=p j→i=j):∀ {l:List (Nat × Item)},(∀ x,x∈l→S x.1)→∀ {i:Nat} {it:Item},lk (nD p l) i=some it→∃ j jt,i=p j∧lk l j=some jt∧it=jt.ren p
 |(j,jt)::l,hS,i,it,h=>by
  simp only [nD,lk] at h
  split at h
  ·rename_i e;cases h;exact ⟨j,jt,e.symm,by simp [lk],rfl⟩
  ·rename_i e
   obtain ⟨q,qt,h1,h2,h3⟩:=uY hp (fun x hx=>hS x (.tail _ hx)) h
   refine ⟨q,qt,h1,?_,h3⟩
   simp only [lk];rw [if_neg (fun e'=>e (by rw [h1,e']))];exact h2
theorem Oc:∀ {l:List Nat} {i j a:Nat},l.Nodup→l[i]?=some a→l[j]?=some a→i=j:=by
 intro l i j a hd hi hj
 exact (List.getElem?_inj (List.getElem?_eq_some_iff.1 hi).1 hd).1 (hi.trans hj.symm)
def Xt (ids:List Nat) (next:Nat) (rows0:List (Nat × Item)) (m:Nat→Value) (b:Nat):Prop:=∃ j it,lk rows0 j=some it∧blk (m (nO ids next j))=some b
def UN (w:World) (T g:Nat→Prop) (m0:Nat→Value) (k:Nat) (out:AV) (rows:List (Nat × Item)) (e:Ending) (w':World):Prop:=
 ∃ v,e=.returned v∧bn g w w'∧∃ m N,(∀ i,i<k→m i=m0 i)∧k≤N ∧
   Rv ⟨w',allow ⟨fun b=>T b∨g b,g⟩ w.heap.size m rows,m,N⟩ out v ∧
   (∀ i it,lk rows i=some it→i<N∧aV ⟨w',allow ⟨fun b=>T b∨g b,g⟩ w.heap.size m rows,m,N⟩ (ownB ⟨fun b=>T b∨g b,g⟩ w.heap.size) (m i) it) ∧
   (∀ i j it jt b,lk rows i=some it→lk rows j=some jt→blk (m i)=some b→blk (m j)=some b→i=j)
theorem ah.Vq [hgb:qL P w0 T0] {f:Nat} {args:List AV} {rows0:List (Nat × Item)} {out:AV} {rows:List (Nat × Item)} {s:S} {K:AV→S→Prop} (ids:List Nat) (hE:Enter P f) (hd:ids.Nodup)
  (hcall:∀ (H:List (AV × Value)) (a:Act) (w:World) (m:Nat→Value) (vals:List Value),aY w0 T0 H s a w m→dF (au T0 w0.heap.size m s w) args vals →
   Ei w (allow T0 w0.heap.size m s.rows) (Xt ids s.next rows0 m) (fun j=>m (nO ids s.next j)) ids.length rows0→(∀ (b:Nat) (q:GK),RX P b=some q→¬Xt ids s.next rows0 m b) →
   Calls P f vals.toArray w (UN w (allow T0 w0.heap.size m s.rows) (Xt ids s.next rows0 m) (fun j=>m (nO ids s.next j)) ids.length out rows))
  (h0:mF (nO ids s.next) s.rows ids.length rows0) (hcov:∀ j,j<ids.length→∃ it,lk rows0 j=some it) (N:Nat) (hkN:ids.length≤N) (hN:Fv.below N out=true) (hNr:gG N rows)
  (hk:K (ren (nO ids s.next) out) (s.PX ids N rows)):@ah P w0 T0 f args s ⟨K⟩:=by
 refine ⟨hE,fun H a w m vals hm hv=>?_⟩
 have hp1:∀ j,j<ids.length→∃ i,ids[j]?=some i∧nO ids s.next j=i:=fun j hj=>⟨ids[j],List.getElem?_eq_getElem hj,by simp [nO,List.getElem?_eq_getElem hj]⟩
 have hp2:∀ j,ids.length≤j→nO ids s.next j=s.next+(j - ids.length):=fun j hj=>by simp [nO,List.getElem?_eq_none hj]
 have h0':∀ j it,lk rows0 j=some it→j<ids.length∧lk s.rows (nO ids s.next j)=some (it.ren (nO ids s.next))∧it.below ids.length=true:=fun j it hj=>dS h0 j it (dQ hj)
 have hmem:∀ i,i∈ids→∃ j it,j<ids.length∧nO ids s.next j=i∧lk rows0 j=some it:=by
  intro i hi
  obtain ⟨j,hj,e⟩:=List.getElem_of_mem hi
  obtain ⟨it,hit⟩:=hcov j hj
  exact ⟨j,it,hj,by simp [nO,List.getElem?_eq_getElem hj,e],hit⟩
 have hsrc:∀ j,j<ids.length→nO ids s.next j<s.next:=fun j hj=>by
  obtain ⟨it,hit⟩:=hcov j hj
  exact (hm.rows _ _ (h0' j it hit).2.1).1
 have hinj:∀ i j,nO ids s.next i=nO ids s.next j→i=j:=by
  intro i j e
  by_cases hi:i<ids.length<;>by_cases hj:j<ids.length
  ·obtain ⟨x,hx,ex⟩:=hp1 i hi
   obtain ⟨y,hy,ey⟩:=hp1 j hj
   rw [ex,ey] at e;subst e
   exact Oc hd hx hy
  ·have:=hsrc i hi;rw [e,hp2 j (by omega)] at this;omega
  ·have:=hsrc j hj;rw [←e,hp2 i (by omega)] at this;omega
  ·rw [hp2 i (by omega),hp2 j (by omega)] at e;omega
 let T:Nat→Prop:=allow T0 w0.heap.size m s.rows
 let g:Nat→Prop:=fun b=>∃ j it,lk rows0 j=some it∧blk (m (nO ids s.next j))=some b
 let m0:Nat→Value:=fun j=>m (nO ids s.next j)
 have hctx:kH (nO ids s.next) (au T0 w0.heap.size m s w) ⟨w,T,m0,ids.length⟩:=⟨fun _ _=>rfl,fun b hb _=>⟨hb,rfl⟩⟩
 have hown:∀ i it,lk s.rows i=some it→∀ b,blk (m i)=some b→ownB T0 w0.heap.size b∧b<w.heap.size:=fun i it hi b hb=>(hm.rows i it hi).2.blk b hb
 have hG:Ei w T g m0 ids.length rows0:=by
  refine ⟨fun j it hj=>?_,fun i j it jt b hi hj hbi hbj=>?_,fun b hb hg=>?_⟩
  ·obtain ⟨h1,h2,h3⟩:=h0' j it hj
   refine ⟨h1,(aV.ren hctx rfl h3 (hm.rows _ _ h2).2).U7 fun b hb=>⟨j,it,hj,hb⟩⟩
  ·obtain ⟨_,h2,_⟩:=h0' i it hi
   obtain ⟨_,h2',_⟩:=h0' j jt hj
   exact hinj i j (hm.sep _ _ _ _ b h2 h2' hbi hbj)
  ·obtain ⟨j,it,hj,hbj⟩:=hg
   exact hb.2 _ _ (h0' j it hj).2.1 hbj
 have hgg:∀ (b:Nat) (q:GK),RX P b=some q→¬g b:=by
  rintro b q hq ⟨j,it,hj,hb⟩
  obtain ⟨ob,hh,_⟩:=hgb.ok b q hq
  have hlt:=(Array.getElem?_eq_some_iff.1 hh).1
  rcases (hown _ _ (h0' j it hj).2.1 b hb).1 with h|h
  ·omega
  ·exact hgb.ng b q hq h
 refine (hcall H a w m vals hm hv hG hgg).mono ?_
 rintro e w' ⟨v,rfl,hbel,mo,No,hmo,hkNo,hout,hrows,hsep⟩
 refine ⟨v,rfl,_,_,hk,?_⟩
 have hgs:∀ b,g b→(∃ i it,lk s.rows i=some it∧blk (m i)=some b):=fun b ⟨j,it,hj,hb⟩=>⟨_,_,(h0' j it hj).2.1,hb⟩
 have hNr':=vO hNr
 have hitem:∀ i it,lk rows i=some it→aV ⟨w',allow ⟨fun b=>T b∨g b,g⟩ w.heap.size mo rows,mo,N⟩ (ownB ⟨fun b=>T b∨g b,g⟩ w.heap.size) (mo i) it:=fun i it hi=>((hrows i it hi).2).cut (hNr' i it hi).2
 let m2:Nat→Value:=fun i=>if i<s.next then m i else mo (ids.length+(i - s.next))
 have hm2:∀ i,i<s.next→m2 i=m i:=fun i hi=>if_pos hi
 have hm3:∀ j,m2 (nO ids s.next j)=mo j:=fun j=>by
  by_cases hj:j<ids.length
  ·rw [hm2 _ (hsrc j hj)];exact (hmo j hj).symm
  ·rw [hp2 j (by omega)]
   show (if s.next+(j - ids.length)<s.next then _ else _)=_
   rw [if_neg (by omega)];congr 1;omega
 have hlt:∀ i it,lk s.rows i=some it→i<s.next:=fun i it hi=>(hm.rows i it hi).1
 have hrest:∀ i it,lk (zL s.rows ids) i=some it→i∉ids∧lk s.rows i=some it:=by
  intro i it hi
  rw [MB] at hi
  split at hi
  ·cases hi
  ·rename_i e;exact ⟨e,hi⟩
 have hcases:∀ i it,lk (s.PX ids N rows).rows i=some it→(∃ j jt,i=nO ids s.next j∧lk rows j=some jt∧it=jt.ren (nO ids s.next))∨(i∉ids∧lk s.rows i=some it):=by
  intro i it hi
  have hi':lk (nD (nO ids s.next) rows++zL s.rows ids) i=some it:=hi
  rw [wR] at hi'
  cases hq:lk (nD (nO ids s.next) rows) i with
  | some y=>
   rw [hq] at hi';cases hi'
   exact .inl (uY (S:=fun _=>True) (fun i j _ _ e=>hinj i j e) (fun _ _=>trivial) hq)
  | none=>rw [hq] at hi';exact .inr (hrest i it hi')
 have hnotg:∀ i it,i∉ids→lk s.rows i=some it→∀ b,blk (m i)=some b→¬g b:=by
  rintro i it hni hi b hb ⟨j,jt,hj,hbj⟩
  obtain ⟨h1,h2,_⟩:=h0' j jt hj
  have:=hm.sep _ _ _ _ b hi h2 hb hbj
  obtain ⟨x,hx,ex⟩:=hp1 j h1
  exact hni (by rw [this,ex];exact List.mem_of_getElem? hx)
 have hnewB:∀ j jt,lk rows j=some jt→∀ b,blk (mo j)=some b→w.heap.size≤b∨g b:=fun j jt hj b hbl=>(((hrows j jt hj).2.blk b hbl).1).imp id (·.1)
 have hle:dI (au T0 w0.heap.size m s w) (au T0 w0.heap.size m2 (s.PX ids N rows) w'):=by
  refine ⟨Nat.le_add_right _ _,hm2,?_⟩
  intro b hb hltb
  have hbg:¬g b:=fun hg=>by
   obtain ⟨i,it,hi,hbi⟩:=hgs b hg
   exact hb.2 i it hi hbi
  refine ⟨⟨hb.1,fun i it hi e=>?_⟩,hbel.block b hltb hbg⟩
  rcases hcases i it hi with ⟨j,jt,rfl,hj,_⟩|⟨hni,hi'⟩
  ·rw [hm3] at e
   rcases hnewB j jt hj b e with h|h
   ·have hlt2:b<w.heap.size:=hltb;omega
   ·exact hbg h
  ·rw [hm2 i (hlt i it hi')] at e;exact hb.2 i it hi' e
 have hsh:xH (nO ids s.next) (⟨w',allow ⟨fun b=>T b∨g b,g⟩ w.heap.size mo rows,mo,N⟩:Ctx) (au T0 w0.heap.size m2 (s.PX ids N rows) w'):=by
  refine ⟨fun i hi=>?_,fun i _=>hm3 i,?_⟩
  ·show nO ids s.next i<s.next+(N - ids.length)
   by_cases hj:i<ids.length
   ·have:=hsrc i hj;omega
   ·rw [hp2 i (by omega)];have:i<N:=hi;omega
  intro b ⟨h1,h2⟩ _
  have hlt0:=hm.lt
  have hb1:w0.heap.size≤b∨T0.a b:=by
   rcases h1 with h1|h1|h1
   ·exact .inl (by omega)
   ·exact h1.1
   ·obtain ⟨i,it,hi,hbi⟩:=hgs b h1
    exact ((hown i it hi b hbi).1).imp id (·.2)
  refine ⟨⟨hb1,fun i it hi e=>?_⟩,rfl⟩
  rcases hcases i it hi with ⟨j,jt,rfl,hj,_⟩|⟨hni,hi'⟩
  ·rw [hm3] at e;exact h2 j jt hj e
  ·rw [hm2 i (hlt i it hi')] at e
   rcases h1 with h1|h1|h1
   ·have:=(hown i it hi' b e).2;omega
   ·exact h1.2 i it hi' e
   ·exact hnotg i it hni hi' b e h1
 have hOO:∀ b,ownB ⟨fun b=>T b∨g b,g⟩ w.heap.size b→ownB T0 w0.heap.size b:=fun b hb=>by
  rcases hb with hb|hb
  ·exact .inl (Nat.le_trans hm.lt hb)
  ·obtain ⟨i,it,hi,hbi⟩:=hgs b hb.1
   exact (hown i it hi b hbi).1
 refine ⟨m2,aY.hold (s:=s.PX ids N rows) ?_ ((hout.cut hN).shift hsh)⟩
 refine { size:=hm.size,nodef:=hm.nodef,below:=?_,env:=fun r u hu=>(hm.env r u hu).mono hle,held:=fun q hq=>(hm.held q hq).mono hle,rows:=?_,sep:=?_ }
 ·refine hm.below.step hbel.os hbel.tape hbel.output hbel.size (fun b hb hn=>hbel.block b (Nat.lt_of_lt_of_le hb hm.lt) fun hg=>?_) hbel.drawn
  obtain ⟨i,it,hi,hbi⟩:=hgs b hg
  rcases (hown i it hi b hbi).1 with h|h
  ·omega
  ·exact hn h
 ·intro i it hi
  rcases hcases i it hi with ⟨j,jt,rfl,hj,rfl⟩|⟨hni,hi'⟩
  ·refine ⟨hsh.n j (hNr' j jt hj).1,?_⟩
   rw [hm3]
   exact (hitem j jt hj).shift hsh rfl hOO
  ·have hl:=hlt i it hi'
   refine ⟨by show i<s.next+_;omega,?_⟩
   rw [hm2 i hl]
   exact ((hm.rows i it hi').2).mono hle fun b hbl=>hbel.block b ((hown i it hi' b hbl).2) (hnotg i it hni hi' b hbl)
 ·intro i j it jt b hi hj hbi hbj
  rcases hcases i it hi with ⟨i',it',rfl,hi',_⟩|⟨hni,hi'⟩<;>rcases hcases j jt hj with ⟨j',jt',rfl,hj',_⟩|⟨hnj,hj'⟩
  ·rw [hm3] at hbi hbj
   rw [hsep i' j' it' jt' b hi' hj' hbi hbj]
  ·rw [hm3] at hbi;rw [hm2 j (hlt j jt hj')] at hbj
   have h5:=(hown j jt hj' b hbj).2
   rcases hnewB i' it' hi' b hbi with h|h
   ·omega
   ·exact absurd h (hnotg j jt hnj hj' b hbj)
  ·rw [hm3] at hbj;rw [hm2 i (hlt i it hi')] at hbi
   have h5:=(hown i it hi' b hbi).2
   rcases hnewB j' jt' hj' b hbj with h|h
   ·omega
   ·exact absurd h (hnotg i it hni hi' b hbi)
  ·rw [hm2 i (hlt i it hi')] at hbi;rw [hm2 j (hlt j jt hj')] at hbj
   exact hm.sep i j it jt b hi' hj' hbi hbj
theorem ah.io [hgb:qL P w0 T0] {f:Nat} {args args':List AV} {rows0:List (Nat × Item)} {out:AV} {rows:List (Nat × Item)} {s:S} {K:AV→S→Prop} (ids:List Nat) (h:gU P f args' rows0 ids.length out rows) (hd:ids.Nodup)
  (ha:args=gK (nO ids s.next) args') (hab:aP ids.length args'=true) (h0:mF (nO ids s.next) s.rows ids.length rows0) (hcov:∀ j,j<ids.length→∃ it,lk rows0 j=some it) (N:Nat) (hkN:ids.length≤N) (hN:Fv.below N out=true) (hNr:gG N rows)
  (hk:K (ren (nO ids s.next) out) (s.PX ids N rows)):@ah P w0 T0 f args s ⟨K⟩:=by
 subst ha
 exact ah.Vq ids h.1 hd (fun H a w m vals hm hv hG hgg=>by
  have hctx:kH (nO ids s.next) (au T0 w0.heap.size m s w) ⟨w,allow T0 w0.heap.size m s.rows,fun j=>m (nO ids s.next j),ids.length⟩:=⟨fun _ _=>rfl,fun b hb _=>⟨hb,rfl⟩⟩
  exact h.2 w _ _ _ vals hG (qL.at hm) hgg (dF.ren hctx args' hab hv)) h0 hcov N hkN hN hNr hk
theorem aV.kV {w:World} {T T':Nat→Prop} {m:Nat→Value} {N:Nat} {O:Nat→Prop} {v:Value} {it:Item} (ho:aV ⟨w,T,m,N⟩ O v it) (hn:iD it=true):aV ⟨w,T',m,N⟩ O v it:=by
 cases it with
 | row e r=>obtain ⟨n,cells,hc,hq⟩:=ho;exact ⟨n,cells,hc.kV hn,hq⟩
 | box e cs=>obtain ⟨g,vs,hv',hg,hl,hq⟩:=ho;exact ⟨g,vs,hv',hg,hl.kV hn,hq⟩
 | map ks vs=>
  simp only [iD,Bool.and_eq_true] at hn
  obtain ⟨g,es,clock,hv',hg,h1,h2,h3,h4,hq⟩:=ho;exact ⟨g,es,clock,hv',hg,h1.kV hn.1,h2.kV hn.2,h3,h4,hq⟩
 | iter mp since seen=>exact ho
 | siter t pos=>exact ho
end
end Go.Fv
/-
 What stands for families where they are lent; the end of a function whose results are only read.
-/
namespace Go.Fv
open Go.RowKit
/-! ### The same names -/
def LH (s:S) (N:Nat):List (Nat × AV)→Prop
 | []=>True
 |(r,v)::l=>(s.get r=v∧Fv.below N v=true)∧LH s N l
def Fe (rows:List (Nat × Item)) (N:Nat):List (Nat × Item)→Prop
 | []=>True
 |(i,it)::l=>(i<N∧lk rows i=some it∧it.below N=true)∧Fe rows N l
theorem GX {s:S} {N:Nat}:∀ {l:List (Nat × AV)},LH s N l→xU id s N l
 | [],_=>trivial
 |(r,v)::l,h=>⟨⟨by rw [jT (p:=id) (b0:=N) (fun _ _=>rfl) v h.1.2];exact h.1.1,h.1.2⟩,GX h.2⟩
theorem D7 {rows:List (Nat × Item)} {N:Nat}:∀ {l:List (Nat × Item)},Fe rows N l→∀ i it,lk l i=some it→i<N∧lk rows i=some it∧it.below N=true
 |(j,jt)::l,h,i,it,hi=>by
  simp only [lk] at hi
  split at hi
  ·rename_i e;subst e;cases hi;exact h.1
  ·exact D7 h.2 i it hi
theorem aK.same {w0:World} {T0:Bs} {b0:Nat} {s s':S} (hn:s'.n=s.n) (hb:b0≤s'.next) (he:LH s s'.next s'.env) (hr:Fe s.rows s'.next s'.rows):aK w0 T0 b0 s s':=
 aK.Yw id hn hb (fun _ _=>rfl) (GX he) (fun i it hi=>by
  obtain ⟨h1,h2,h3⟩:=D7 hr i it hi
  exact ⟨h1,by rw [Item.jT (p:=id) (b0:=s'.next) (fun _ _=>rfl) it h3];exact h2,h3⟩) (fun i j _ _ _ _ e=>e)
attribute [go_sem] LH Fe
section
variable {P:Program} {w0:World} {T0:Bs}
theorem bg.ro {res:List ResultVar} {out:AV} {s:S} (h:wZ P s res (fun vs=>fH s.rows (kQ vs) out)):bg P w0 T0 res out [] s:=by
 rintro a w ⟨m,hm⟩
 obtain ⟨vs,us,he,hrun,hvs⟩:=qF hm h
 have hrv:Rv (au T0 w0.heap.size m s w) (kQ vs) (KE us):=by
  cases hvs with
  | nil=>exact .tup _ _ .nil
  | cons x v l us hx ht=>
   cases ht with
   | nil=>exact hx
   | cons x' v' l' us' hx' ht'=>exact .tup _ _ (.cons _ _ _ _ hx (.cons _ _ _ _ hx' ht'))
 have hal:∀ b,ownB T0 w0.heap.size b→allow T0 w0.heap.size (fun _=>undef) [] b:=fun b hb=>⟨hb.imp id (·.2),fun i it hi=>by simp [lk] at hi⟩
 have hl:BN w (au T0 w0.heap.size m s w) s.rows (allow T0 w0.heap.size (fun _=>undef) []):=
  {hw:=rfl,t:=fun b hb=>⟨hb.1,fun i it hi=>by simp [lk] at hi⟩,
   own:=fun i e r hi=>by
    obtain ⟨n,cells,hc,hn,hq,hO⟩:=(hm.rows i _ hi).2
    exact ⟨fun b hb=>hal b (hO b hb),n,cells,hc,hn,hq⟩,
   box:=fun i e cs hi=>by
    obtain ⟨g,vs,hv,hg,hl,hh⟩:=(hm.rows i _ hi).2
    exact ⟨g,vs,hv,hal g hg,hl,hh⟩,
   map:=fun i ks vs hi=>by
    obtain ⟨g,es,clock,hv,hg,h1,h2,h3,h4,hh⟩:=(hm.rows i _ hi).2
    exact ⟨g,es,clock,hv,hal g hg,h1,h2,h3,h4,hh⟩ }
 refine ⟨_,fun fn hf=>lC hf a.tmps hrun,fun _=>undef,0,?_,fun i it hi=>by simp [lk] at hi,fun i j it jt b hi=>by simp [lk] at hi⟩
 generalize kQ vs=x at he hrv
 generalize hus:KE us=u at hrv
 unfold fH at he
 split at he
 ·obtain ⟨l',ha,rfl⟩:=he
  cases hrv with
  | tup _ us' hv'=>exact .tup _ _ (nJ hl _ ha hv')
 ·exact wC hl 6 _ he hrv
end
end Go.Fv
/-
 Steps of a walk that pay their side conditions by themselves.
-/
namespace Go.Fv
theorem aX.g {p K:Prop} (k:K) (h:p:=by first|omega|(with_reducible refine aX.intro ?_ ?_<;>omega)|(simp;done)|(simp;omega)):aX p K:=⟨h,k⟩
theorem bZ.g {e:Int} {K:Int→Prop} (kk:K e) (h1:-9223372036854775808≤e:=by omega) (h2:e≤9223372036854775807:=by omega):bZ .i64 e K:=bZ.i64 h1 h2 kk
theorem bZ.h {e:Int} {K:Int→Prop} (kk:K e) (h1:0≤e:=by omega) (h2:e≤255:=by omega):bZ .u8 e K:=bZ.u8 h1 h2 kk
theorem Ite.t {p:Prop} [Decidable p] {x y:Prop} (k:p→x) (h:¬p→False:=by (intro _;omega)):@Ite (Decidable.decide p) ⟨x⟩ ⟨y⟩:=Ite.decide k fun h'=>(h h').elim
theorem Ite.f {p:Prop} [Decidable p] {x y:Prop} (k:¬p→y) (h:p→False:=by (intro _;omega)):@Ite (Decidable.decide p) ⟨x⟩ ⟨y⟩:=Ite.decide (fun h'=>(h h').elim) k
class Stp (p:Prop) (q:outParam Prop):Prop where
 go:q→p
instance {p K:Prop}:Stp (wu p K) (p→K):=⟨wu.intro⟩
instance {K:Int→Prop}:Stp (@Jg .i64 ⟨K⟩) (∀ n,(-9223372036854775808≤n∧n≤9223372036854775807)→K n):=⟨Jg.i64⟩
instance (priority:=900) {b:Bool} {x y:Prop}:Stp (@Ite b ⟨x⟩ ⟨y⟩) ((b=true→x)∧(b=false→y)):=⟨fun h=>Ite.bool h.1 h.2⟩
instance {p:Prop} [Decidable p] {x y:Prop}:Stp (@Ite (Decidable.decide p) ⟨x⟩ ⟨y⟩) ((p→x)∧(¬p→y)):=⟨fun h=>Ite.decide h.1 h.2⟩
theorem rs {p q:Prop} [h:Stp p q] (k:q):p:=h.go k
theorem rc {p K:Prop} (k:K) (h:p:=by first|omega|(with_reducible refine aX.intro ?_ ?_<;>omega)|(simp;done)|(simp;omega)):aX p K:=⟨h,k⟩
theorem rl {e:Int} {K:Int→Prop} (k:K e) (h1:-9223372036854775808≤e:=by omega) (h2:e≤9223372036854775807:=by omega):bZ .i64 e K:=bZ.i64 h1 h2 k
theorem rh {e:Int} {K:Int→Prop} (k:K e) (h1:0≤e:=by omega) (h2:e≤255:=by omega):bZ .u8 e K:=bZ.u8 h1 h2 k
theorem rt {p:Prop} [Decidable p] {x y:Prop} (k:p→x) (h:¬p→False:=by (intro _;omega)):@Ite (Decidable.decide p) ⟨x⟩ ⟨y⟩:=Ite.decide k fun h'=>(h h').elim
theorem rf {p:Prop} [Decidable p] {x y:Prop} (k:¬p→y) (h:p→False:=by (intro _;omega)):@Ite (Decidable.decide p) ⟨x⟩ ⟨y⟩:=Ite.decide (fun h'=>(h h').elim) k
theorem ru {k:IntKind} {e:Int} {K:Int→Prop} (kk:K e) (h:(k=.u64∧0≤e∧e≤18446744073709551615)∨(k=.u32∧0≤e∧e≤4294967295)∨(k=.i32∧-2147483648≤e∧e≤2147483647):=by
  first|(refine Or.inl ⟨rfl,?_,?_⟩<;>omega)|(refine Or.inr (Or.inl ⟨rfl,?_,?_⟩)<;>omega)|(refine Or.inr (Or.inr ⟨rfl,?_,?_⟩)<;>omega)):bZ k e K:=by
 rcases h with ⟨rfl,h1,h2⟩|⟨rfl,h1,h2⟩|⟨rfl,h1,h2⟩
 ·exact bZ.Vo (kT.2 ⟨h1,h2⟩) kk
 ·exact bZ.Vo (KX.2 ⟨h1,h2⟩) kk
 ·exact bZ.Vo (Ej.2 ⟨h1,h2⟩) kk
theorem rz {P Q:Prop} (q:Q) (h:Q→P:=by first|exact fun k=>rc k|exact fun k=>rl k|exact fun k=>rh k|exact fun k=>ru k|exact fun k=>rt k|exact fun k=>rf k|exact fun k=>rs k):P:=h q
theorem ry {P Q:Prop} (q:Q) (h:Q→P:=by first|exact fun k=>rc k|exact fun k=>rl k|exact fun k=>rh k|exact fun k=>rt k|exact fun k=>rf k|exact fun k=>rs k):P:=h q
structure Dn:Prop where
theorem dn:Dn:=⟨⟩
theorem rn {P Q:Prop} (q:Q) (h:Q→P:=by first|exact fun k=>rc k|exact fun k=>rl k|exact fun k=>rh k|exact fun k=>ru k|exact fun k=>rt k|exact fun k=>rf k|exact fun k=>rs k|(refine fun _:Dn=>?_;omega)|(intro q;simp (maxSteps:=1000000) only [go_sem];exact q)|(refine fun _:Dn=>?_;simp (maxSteps:=1000000) only [go_sem];done)):P:=h q
theorem ra {p q:Prop} (a:p) (b:q):p∧q:=⟨a,b⟩
theorem bZ.at {k:IntKind} {e:Int} {K:Int→Prop} (m:Int) (h:k.wrap e=m) (kk:K m):bZ k e K:=fun n hn _=>by rw [hn,h];exact kk
theorem ah.k {P:Program} {w0:World} {T0:Bs} [hG:qL P w0 T0] {f:Nat} {args args':List AV} {out:AV} {s:S} {K:AV→S→Prop} (h:aC P f args' out []) (hk:K (ren (fun j=>s.next+j) out) (s.after s.rows 0 []))
  (h1:mP out=true:=by rfl) (h2:Fv.below 0 out=true:=by rfl) (ha:aO s.rows args args':=by
   simp only [aI,aO,bT,aT,aF,List.drop_zero,lk,reduceIte,reduceCtorEq,Nat.reduceEqDiff,Option.some.injEq,Item.row.injEq,Item.box.injEq,AV.ro.injEq,exists_eq_left,exists_and_left,exists_eq_left',exists_eq_right,and_assoc,and_true,true_and,List.cons.injEq,exists_eq',exists_eq]) :
  @ah P w0 T0 f args s ⟨K⟩:=ah.fr (fD.iF h h1 rfl) ha 0 h2 trivial hk
theorem ah.f {P:Program} {w0:World} {T0:Bs} [hG:qL P w0 T0] {f:Nat} {args args':List AV} {out:AV} {rows:List (Nat × Item)} {s:S} {K:AV→S→Prop} (h:fD P f args' out rows) (N:Nat) (hk:K (ren (fun j=>s.next+j) out) (s.after s.rows N rows))
  (hN:Fv.below N out=true:=by rfl) (hNr:gG N rows:=by simp [gG,Item.below,Fv.below,aP,gQ]) (ha:aO s.rows args args':=by
   simp only [aI,aO,bT,aT,aF,List.drop_zero,lk,reduceIte,reduceCtorEq,Nat.reduceEqDiff,Option.some.injEq,Item.row.injEq,Item.box.injEq,AV.ro.injEq,exists_eq_left,exists_and_left,exists_eq_left',exists_eq_right,and_assoc,and_true,true_and,List.cons.injEq,exists_eq',exists_eq]) :
  @ah P w0 T0 f args s ⟨K⟩:=ah.fr h ha N hN hNr hk
theorem ah.o {P:Program} {w0:World} {T0:Bs} [hG:qL P w0 T0] {f:Nat} {args args':List AV} {out:AV} {rows:List (Nat × Item)} {s:S} {K:AV→S→Prop} (h:aC P f args' out rows) (N:Nat) (hk:K (ren (fun j=>s.next+j) out) (s.after s.rows N rows))
  (h1:mP out=true:=by rfl) (h2:iE rows=true:=by rfl) (hN:Fv.below N out=true:=by rfl) (hNr:gG N rows:=by simp [gG,Item.below,Fv.below,aP,gQ]) (ha:aO s.rows args args':=by
   simp only [aI,aO,bT,aT,aF,List.drop_zero,lk,reduceIte,reduceCtorEq,Nat.reduceEqDiff,Option.some.injEq,Item.row.injEq,Item.box.injEq,AV.ro.injEq,exists_eq_left,exists_and_left,exists_eq_left',exists_eq_right,and_assoc,and_true,true_and,List.cons.injEq,exists_eq',exists_eq]) :
  @ah P w0 T0 f args s ⟨K⟩:=ah.fr (fD.iF h h1 h2) ha N hN hNr hk
theorem Yh {a:Item}:∀ j,j<1→∃ it,lk [(0,a)] j=some it:=fun j hj=>by
 obtain rfl:j=0:=by omega
 exact ⟨a,rfl⟩
theorem Yi {a b:Item}:∀ j,j<2→∃ it,lk [(0,a),(1,b)] j=some it:=fun j hj=>by
 rcases j with _|_|j
 ·exact ⟨a,rfl⟩
 ·exact ⟨b,rfl⟩
 ·omega
theorem Xl {a b c:Item}:∀ j,j<3→∃ it,lk [(0,a),(1,b),(2,c)] j=some it:=fun j hj=>by
 rcases j with _|_|_|j
 ·exact ⟨a,rfl⟩
 ·exact ⟨b,rfl⟩
 ·exact ⟨c,rfl⟩
 ·omega
theorem Yj {a b c d:Item}:∀ j,j<4→∃ it,lk [(0,a),(1,b),(2,c),(3,d)] j=some it:=fun j hj=>by
 rcases j with _|_|_|_|j
 ·exact ⟨a,rfl⟩
 ·exact ⟨b,rfl⟩
 ·exact ⟨c,rfl⟩
 ·exact ⟨d,rfl⟩
 ·omega
theorem ah.i {P:Program} {w0:World} {T0:Bs} [hgb:qL P w0 T0] {f:Nat} {args args':List AV} {rows0:List (Nat × Item)} {out:AV} {rows:List (Nat × Item)} {s:S} {K:AV→S→Prop} (ids:List Nat) (h:gU P f args' rows0 ids.length out rows) (N:Nat) (hk:K (ren (nO ids s.next) out) (s.PX ids N rows))
  (hd:ids.Nodup:=by decide) (ha:args=gK (nO ids s.next) args':=by simp [gK,ren,nO]) (hab:aP ids.length args'=true:=by rfl)
  (h0:mF (nO ids s.next) s.rows ids.length rows0:=by simp [mF,nO,lk,Item.ren,Item.below,ren,gK,aP,Fv.below,zh,gQ])
  (hcov:∀ j,j<ids.length→∃ it,lk rows0 j=some it:=by first|exact Yh|exact Yi|exact Xl|exact Yj) (hkN:ids.length≤N:=by decide) (hN:Fv.below N out=true:=by rfl) (hNr:gG N rows:=by simp [gG,Item.below,Fv.below,aP,gQ]) :
  @ah P w0 T0 f args s ⟨K⟩:=ah.io ids h hd ha hab h0 hcov N hkN hN hNr hk
attribute [go_sem] S.PX nD nO zL zh gQ List.getElem?_nil Nat.sub_self List.getElem?_cons_zero List.getElem?_cons_succ
attribute [go_sem ↓] reduceIte
attribute [go_sem] Fin.reduceNatAdd Fin.isValue UInt8.reduceAdd reduceDIte Nat.reduceEqDiff Int.reduceNegSucc Nat.reduceOr Fin.reduceGT Nat.reducePow Fin.reduceCastSucc Fin.reduceOr Nat.reduceGT Nat.reduceBneDiff Fin.reduceCastLT Fin.reduceNe Nat.reduceSubDiff Fin.reduceGE Nat.reduceMod Nat.reduceXor Int.reduceGE Int.reduceBmod UInt8.reduceOfNat Fin.reduceMod Int.reduceToNat Fin.reduceAddNat Fin.reduceXor Fin.reduceAnd Int.reduceEq Int.reduceFDiv Nat.reduceAnd Fin.reduceSubNat UInt8.reduceGT Fin.reduceFinMk Nat.reduceShiftRight Int.reduceNatCast Int.reduceGT Int.reducePow Nat.reduceGcd Nat.reduceAdd Nat.reduceBNe Int.reduceDiv Int.reduceMul reduceCtorEq Nat.reduceDvd Int.reduceBEq Nat.reduceBeqDiff Fin.reduceOfNat UInt8.reduceMod Int.reduceTMod Int.reduceOfNat UInt8.reduceToNat Nat.reduceShiftLeft Fin.reduceLast Nat.reduceLeDiff Fin.reduceShiftLeft Int.reduceNe UInt8.reduceGE Fin.reduceCastLE Int.reduceSub Fin.reduceLE Int.reduceAbs Fin.reduceCastAdd Int.reduceLT Fin.reducePred Int.reduceNatCast' Nat.reduceSub Fin.reduceRev Int.reduceNeg Fin.reduceLT Fin.reduceShiftRight Fin.reduceEq UInt8.reduceOfNatLT Fin.reduceAdd Fin.reduceBNe Nat.reduceDiv Int.reduceBNe Int.reduceDvd Nat.reduceMul Int.reduceAdd Nat.reduceBEq Nat.reduceSucc Fin.reduceDiv Fin.reduceMul Fin.reduceBEq Fin.reduceSucc UInt8.reduceLT Int.reduceTDiv Int.reduceFMod UInt8.reduceSub Int.reduceBdiv UInt8.reduceLE Nat.reduceLT Fin.reduceSub Int.reduceLE Int.reduceMod UInt8.reduceDiv UInt8.reduceMul
end Go.Fv
/-
 What a row's first world gives of package-level integers.
-/
namespace Go.Fv
open Go.RowKit Go.ChangeShapes Go.WideShapes
def UH (w:World) (P:Program) (g:Nat) (k:IntKind):Bool:=match (w.heap[g]?).bind Obj.row? with
 | some (zero,t)=>decide (zero.size=1) && P.buildable t && decide (P.cellTypes P.depth t=some [t]) && (match P.underlying t with|some (.int k')=>decide (k'=k)|_=>false)
 | none=>false
def WX (P:Program):Bool:=(List.range P.globals.size).all fun g=>match Aa P g with
 | some k=>UH (begin P (fun _ _=>0) default).world P g k
 | none=>true
theorem rV.JX {P:Program} {w:World} (hs:WX P=true) (h:w.ShapedOpen P) (htab:∀ g,IV P g=true→∃ ob,w.heap[g]?=some ob∧UM .tab ob):rV P w:=by
 suffices hI:∀ g k,Aa P g=some k→∃ (n:Int) (t:TypeId),jk k n∧w.heap[g]?=some (.cells #[.int k n] t (0,0)) by
  intro g k hg
  unfold RX at hg
  split at hg
  ·rename_i k' hk
   cases hg
   obtain ⟨n,t,h1,h2⟩:=hI g k' hk
   exact ⟨_,h2,n,t,h1,rfl⟩
  ·split at hg
   ·rename_i ht
    cases hg
    exact htab g ht
   ·cases hg
 intro g k hg
 have hlt:g<P.globals.size:=by
  by_cases hlt:g<P.globals.size
  ·exact hlt
  ·unfold Aa at hg
   rw [Array.getElem?_eq_none (Nat.le_of_not_lt hlt)] at hg
   cases hg
 have h1:=List.all_eq_true.1 hs g (List.mem_range.2 hlt)
 rw [hg] at h1
 dsimp only at h1
 unfold UH at h1
 split at h1
 ·rename_i zero t hz
  simp only [Bool.and_eq_true,decide_eq_true_eq] at h1
  obtain ⟨⟨⟨hz1,hb⟩,hc⟩,hu⟩:=h1
  have hu:P.underlying t=some (.int k):=by
   split at hu
   ·rename_i k' e;rw [e,of_decide_eq_true hu]
   ·cases hu
  obtain ⟨cs,hh,hsz,hr⟩:=h.1 g zero t hlt hz
  obtain ⟨ts,hts,_,hall⟩:=hr hb
  rw [hc] at hts
  cases hts
  have h1:0<cs.size:=by omega
  obtain ⟨u,hu',hok⟩:=hall 0 cs[0] (by simp [h1])
  have:u=t:=by simpa using hu'.symm
  subst this
  unfold Cell.ok at hok
  rw [hu] at hok
  have e:cs=#[cs[0]]:=by
   apply Array.ext
   ·simp;omega
   ·intro i h1 h2
    simp at h2
    subst h2;simp
  cases hv:cs[0]<;>rw [hv] at hok<;>simp at hok
  case int k' n=>
   obtain ⟨rfl,hk⟩:=hok
   refine ⟨n,u,?_,by rw [hh,e,hv]⟩
   exact hk
 ·cases h1
variable {H:Type} {enc:TypeId × Value→H}
end Go.Fv
/-
 What a row's laid table gives of math/bits.deBruijn64tab.
-/
namespace Go.Fv
open Go.RowKit Go.ChangeShapes Go.WideShapes
def Us:DataW Unit:=Lib.tabData .u8 (Lib.deBruijn64tab.map Int.ofNat)
theorem IW {P:Program} {W:World} {l:List (String × DataW Unit)} {g0:Nat} {t e:TypeId} (hl:(l.filter fun x=>x.1 == "math/bits.deBruijn64tab")=[("math/bits.deBruijn64tab", Us)]) (hh:Us.handleName?=none)
  (hg:P.globalNamed "math/bits.deBruijn64tab" = some g0) (hty:(P.globals[g0]?).map (·.type)=some t) (ht:P.underlying t=some (.array 64 e)) (he:P.underlying e=some (.int .u8)) (hce:P.cellsOf e=1) (hct:P.cellsOf t=64)
  (hu:((List.range P.globals.size).all fun g=>IV P g == (g == g0))=true) (h:laidMetH P l W):∀ g,IV P g=true→∃ ob,W.heap[g]?=some ob∧UM .tab ob:=by
 intro g hgt
 have hlt:g<P.globals.size:=by
  by_cases hlt:g<P.globals.size
  ·exact hlt
  ·unfold IV at hgt
   rw [Array.getElem?_eq_none (Nat.le_of_not_lt hlt)] at hgt
   cases hgt
 have h1:=List.all_eq_true.1 hu g (List.mem_range.2 hlt)
 rw [hgt] at h1
 obtain rfl:g=g0:=by simpa using h1
 have h2:=laidMetH.filter (fun x=>x.1 == "math/bits.deBruijn64tab") h
 rw [hl] at h2
 have h3:=(laidMetH_iff.1 h2).1
 have e1:([("math/bits.deBruijn64tab", Us)].filter fun x=>x.2.handleName?.isNone)=[("math/bits.deBruijn64tab", Us)]:=by simp [hh]
 rw [e1] at h3
 have h4:=Lib.tabIs_of_head hg hty ht he hce hct h3
 obtain ⟨ps,⟨g',t',cs,fuel,p,q,hg',ht',hvar,hd,_,rfl⟩,_,hfree⟩:=h3
 obtain rfl:=Option.some.inj (hg.symm.trans hg')
 unfold Lib.TabIs at h4
 have hcs:cs=((Lib.deBruijn64tab.map Int.ofNat).map fun z=>Value.int .u8 z).toArray:=Option.some.inj (hvar.symm.trans h4)
 have h64:cs.size=64:=by rw [hcs];rfl
 obtain ⟨⟨c,t2,hc⟩,_⟩:=hfree g 0 (by
  simp only [List.mem_append]
  refine .inl (.inl ?_)
  unfold MemPlace.row
  exact List.mem_map.2 ⟨0,List.mem_range.2 (by omega),rfl⟩)
 have hv:=hvar
 unfold World.var? at hv
 rw [hg] at hv
 simp only [Option.bind_some,hc] at hv
 refine ⟨_,hc,t2,?_⟩
 rw [Option.some.inj hv,hcs]
 simp only [List.map_map]
 rfl
variable {H:Type} {enc:TypeId × Value→H}
theorem uT {a:Assume} {C:Checked} {os:Os} {f:FuncId} {fn:Func} {s:ChangeSpec} {conds:List PathCond} {apart fresh handsOn again:Bool} {X:World→Array Value→Prop}
  (hX:∀ (w w':World) (args:Array Value),w.heap=w'.heap→X w args→X w' args)
  (own:ownKnob C.prog.godebug=none) (started:os.Started) (noInit:C.prog.inits.idxOf? f=none) (hfn:C.prog.funcs[f]?=some fn)
  (witness:∃ (w:World) (tape:Tape) (i:Input),w.os=os∧(w.forCall tape i).Shaped C.prog∧i.vars=[]∧Input.okWide C.prog (w.forCall tape i) .any w.heap.size f i ∧
   ((s.pre enc C.prog fn conds apart (w.forCall tape i).memory i.args∧X (w.forCall tape i).memory i.args)∧sizedMet enc C.prog fn (OpenSpec.ofChange s) apart (w.forCall tape i).memory i.args)∧a.holds C.prog (lone (Frame.enter C.prog f i.args .normal) [] (w.forCall tape i)))
  (contract:∀ (W:World) (base:Nat) (args:Array Value) (ds gs:List (DataW H)) (before:List MemPlace),W.ShapedOpen C.prog→X W args→(DataW.weightsEach C.prog (fn.params.toList++(OpenSpec.ofChange s).bare.plain.varTypes C.prog) (ds++gs)).all (·≤reachBytes)=true →
   (∀ (j:Nat) t v,fn.params[j]?=some t→args[j]?=some v→Value.okWide C.prog W .any base t v) →
   DataW.Whole enc C.prog fn.params.toList s.vars apart W args.toList ds gs before →
   Calls C.prog f args W fun e W'=>∃ v,e=.returned v∧s.post enc C.prog fn apart fresh handsOn again W args v W') :
  ReturnsInHanded a C os f .any (fun w args=>(s.pre enc C.prog fn conds apart w args∧X w args)∧sizedMet enc C.prog fn (OpenSpec.ofChange s) apart w args) (s.post enc C.prog fn apart fresh handsOn again):=by
 refine returnsInHanded_of_calls own started noInit witness ?_
 intro w tape i _ hsh _ hok hpre hholds
 obtain ⟨_,_,_,fn',hfn',_,_,_,_,hval⟩:=hok
 have e:fn'=fn:=Option.some.inj (hfn'.symm.trans hfn)
 subst e
 obtain ⟨⟨⟨ds,gs,before,hw,hc⟩,hx⟩,hz⟩:=hpre
 have hw':=DataW.Whole.of_heap (w':=w.forCall tape i) (by rfl) hw
 refine (contract (w.forCall tape i) w.heap.size i.args ds gs before hsh (hX _ _ _ (by rfl:(w.forCall tape i).memory.heap=(w.forCall tape i).heap) hx) (hz.weights hw) hval hw').mono fun e W' ⟨v,he,hp⟩=>?_
 subst he
 exact ChangeSpec.post_blind hp
end Go.Fv
