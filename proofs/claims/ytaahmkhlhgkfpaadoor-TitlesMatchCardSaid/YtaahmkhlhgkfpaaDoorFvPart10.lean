/-
  A part of the proof of the claim: walks over the program's functions and the plain laws that these need. No condition of its own.
-/
import Derived.Test.YtaahmkhlhgkfpaaDoorFvPart9
import Derived.Test.YtaahmkhlhgkfpaaDoorFvPart8
set_option linter.unusedSectionVars false
set_option linter.unusedVariables false
set_option linter.unusedSimpArgs false
set_option linter.unnecessarySimpa false
namespace Go.Fv
open Go.RowKit
theorem jk {ks:List Nat} {x:Nat × Acc} (hk:oC ks x.1=true):∀ {l:List (Nat × Acc)},x∈l→x∈jM ks l
 | y::l,h=>by
  unfold jM
  rcases List.mem_cons.1 h with rfl|h
  ·rw [hk];exact .head _
  ·cases oC ks y.1 with
   | true=>exact .tail _ (jk hk h)
   | false=>exact jk hk h
theorem wO {l:List Nat} {i:Nat}:oC l i=true↔i∈l:=by
 rw [sW];simp
section
variable {P:Program} {w0:World} {T0:Bs} {b0:Nat} {ops:Array Oper} {T:List Nat} {H:List (AV × Value)} [hG:mQ P w0 T0]
theorem E5 {n:Nat} {R:List (Nat × Item)} {N:Nat} {x:Nat × Acc} {l:List (Nat × Acc)} (h:AO P w0 T0 n R N l) (hx:x∈l):lG P w0 T0 n x.2 (R,N):=by
 induction l with
 | nil=>cases hx
 | cons y l ih=>
  obtain ⟨j,o,g,env,v,ks⟩:=y
  have h1:Ei P w0 T0 n o g env v R N:=h.1
  have h2:AO P w0 T0 n R N l:=h.2
  rcases List.mem_cons.1 hx with rfl|hx
  ·unfold Ei at h1;unfold lG
   cases g with
   | none=>exact h1
   | some c=>exact h1
  ·exact ih h2 hx
theorem ni {vs:List AV} {i:Nat} {v:AV} (h:i<vs.length):(vs.set i v).getD i .dead=v:=by
 simp [List.getD_eq_getElem?_getD,h]
theorem qW {vs:List AV} {i j:Nat} {v:AV} (h:i≠j):(vs.set i v).getD j .dead=vs.getD j .dead:=by
 simp [List.getD_eq_getElem?_getD,List.getElem?_set,h]
theorem AB (hok:je ops [] [] T) {s0 s:S} {vs:List AV} {V:Array Bool} {i:Nat} {o:Oper} {v:AV} {R:List (Nat × Item)} {N:Nat} (ho:ops[i]?=some o) (hs:V.size=ops.size) (hl:vs.length=ops.size) (hV:V.getD i false=false) (hg:∀ r,s.get r=nY ops s0 vs V r) :
  ∀ r,(jc o.dst v ⟨s.n,s.env,R,N⟩).get r=nY ops s0 (vs.set i v) (V.setIfInBounds i true) r:=by
 intro r
 have hilt:=(Array.getElem?_eq_some_iff.1 ho).1
 have h:=Ej hok (s0:=s0) (vs:=vs.set i v) (g:=s.get) ho hs (fun r=>(hg r).trans (rW hV r).symm) r
 rw [ni (by omega)] at h
 rw [←h]
 unfold jc
 cases o.dst with
 | none=>rfl
 | some d=>exact zU
theorem Es.quiet (hok:je ops [] [] T) {s0 s:S} {vs:List AV} {V:Array Bool} {Pd:List Nat} {acc acc':List (Nat × Acc)} {i:Nat} {o:Oper} {v:AV} (hv:Es P w0 T0 ops s0 vs V Pd acc s) (ho:ops[i]?=some o) (hd:Dp V o) (hV:V.getD i false=false)
  (hq:QS P w0 T0 ops o s.n s.get (s.rows,s.next) (s.rows,s.next) v) (hr:(∀ h,QS P w0 T0 ops o s.n s.get h h v)∨∃ x,(i,x)∈acc'∧∀ h,lG P w0 T0 s.n x h→QS P w0 T0 ops o s.n s.get h h v)
  (hsub:∀ x,x∈acc→x∈acc') (hdst:jB o.dst s.n):Es P w0 T0 ops s0 (vs.set i v) (V.setIfInBounds i true) (i::Pd) acc' (jc o.dst v s):=by
 have hilt:=(Array.getElem?_eq_some_iff.1 ho).1
 have hVs:(V.setIfInBounds i true).getD i false=true:=by
  have:i<V.size:=by rw [hv.vsize];exact hilt
  simp [this]
 have hup:∀ j,V.getD j false=true→(V.setIfInBounds i true).getD j false=true:=fun j hj=>getD_set_true hj
 have hrows:(jc o.dst v s).rows=s.rows∧(jc o.dst v s).next=s.next∧(jc o.dst v s).n=s.n:=by
  unfold jc;cases o.dst<;>exact ⟨rfl,rfl,rfl⟩
 have conv:∀ {h h':nD},QS P w0 T0 ops o s.n s.get h h' v→QS P w0 T0 ops o s0.n (nY ops s0 (vs.set i v) V) h h' ((vs.set i v).getD i .dead):=by
  intro h h' hh
  rw [ni (by rw [hv.vlen];exact hilt),←hv.n]
  exact hh.congr fun r _=>by rw [rW hV];exact (hv.sget r).symm
 refine ⟨by simpa using hv.vsize,by simpa using hv.vlen,hv.cl.set ho hd,by rw [hrows.2.2];exact hv.n,?_,?_,?_⟩
 ·exact AB hok (R:=s.rows) (N:=s.next) ho hv.vsize hv.vlen hV hv.sget
 ·intro j hj
  rcases List.mem_cons.1 hj with rfl|hj
  ·refine ⟨hVs,fun o' ho'=>?_⟩
   rw [ho] at ho';cases ho'
   refine ⟨V,hv.vsize,hv.cl,hup,hd,hV,?_,?_⟩
   ·rw [hrows.1,hrows.2.1];exact conv hq
   ·rcases hr with h|⟨x,hx,h⟩
    ·exact .inl fun h'=>conv (h h')
    ·exact .inr ⟨x,hx,fun h' hc=>conv (h h' (by rw [hv.n];exact hc))⟩
  ·obtain ⟨h1,h2⟩:=hv.pd j hj
   have hne:i≠j:=by rintro rfl;rw [hV] at h1;cases h1
   refine ⟨hup j h1,fun o' ho'=>?_⟩
   obtain ⟨U,u1,u2,u3,u4,u5,u6,u7⟩:=h2 o' ho'
   have hUi:U.getD i false=false:=by
    cases hu:U.getD i false with
    | false=>rfl
    | true=>have:=u3 i hu;rw [hV] at this;cases this
   have cv:∀ {h h':nD},QS P w0 T0 ops o' s0.n (nY ops s0 vs U) h h' (vs.getD j .dead)→QS P w0 T0 ops o' s0.n (nY ops s0 (vs.set i v) U) h h' ((vs.set i v).getD j .dead):=by
    intro h h' hh
    rw [qW hne]
    exact hh.congr fun r _=>rW hUi r
   refine ⟨U,u1,u2,fun k hk=>hup k (u3 k hk),u4,u5,?_,?_⟩
   ·rw [hrows.1,hrows.2.1];exact cv u6
   ·rcases u7 with h|⟨x,hx,h⟩
    ·exact .inl fun h'=>cv (h h')
    ·exact .inr ⟨x,hsub _ hx,fun h' hc=>cv (h h' hc)⟩
 ·intro j oj d hj hoj hdj
  by_cases e:i=j
  ·subst e
   rw [ho] at hoj;cases hoj
   rw [hdj] at hdst
   rw [←hv.n];exact hdst
  ·rw [getD_set_ne false e] at hj
   exact hv.put j oj d hj hoj hdj
theorem Es.eff (hok:je ops [] [] T) {s0 s:S} {vs:List AV} {V:Array Bool} {Pd ks:List Nat} {acc:List (Nat × Acc)} {i:Nat} {o:Oper} {v:AV} {R:List (Nat × Item)} {N:Nat} (hv:Es P w0 T0 ops s0 vs V Pd acc s) (ho:ops[i]?=some o) (hd:Dp V o) (hV:V.getD i false=false)
  (hks:∀ j,j∈ks→j∈Pd) (hre:AO P w0 T0 s.n R N (jM ks acc)) (hdst:jB o.dst s.n):Es P w0 T0 ops s0 (vs.set i v) (V.setIfInBounds i true) ks (jM ks acc) (jc o.dst v ⟨s.n,s.env,R,N⟩):=by
 have hilt:=(Array.getElem?_eq_some_iff.1 ho).1
 have hup:∀ j,V.getD j false=true→(V.setIfInBounds i true).getD j false=true:=fun j hj=>getD_set_true hj
 have hrows:(jc o.dst v ⟨s.n,s.env,R,N⟩).rows=R∧(jc o.dst v ⟨s.n,s.env,R,N⟩).next=N∧(jc o.dst v ⟨s.n,s.env,R,N⟩).n=s.n:=by
  unfold jc;cases o.dst<;>exact ⟨rfl,rfl,rfl⟩
 refine ⟨by simpa using hv.vsize,by simpa using hv.vlen,hv.cl.set ho hd,by rw [hrows.2.2];exact hv.n,?_,?_,?_⟩
 ·exact AB hok ho hv.vsize hv.vlen hV hv.sget
 ·intro j hj
  obtain ⟨h1,h2⟩:=hv.pd j (hks j hj)
  have hne:i≠j:=by rintro rfl;rw [hV] at h1;cases h1
  refine ⟨hup j h1,fun o' ho'=>?_⟩
  obtain ⟨U,u1,u2,u3,u4,u5,u6,u7⟩:=h2 o' ho'
  have hUi:U.getD i false=false:=by
   cases hu:U.getD i false with
   | false=>rfl
   | true=>have:=u3 i hu;rw [hV] at this;cases this
  have cv:∀ {h h':nD},QS P w0 T0 ops o' s0.n (nY ops s0 vs U) h h' (vs.getD j .dead)→QS P w0 T0 ops o' s0.n (nY ops s0 (vs.set i v) U) h h' ((vs.set i v).getD j .dead):=by
   intro h h' hh
   rw [qW hne]
   exact hh.congr fun r _=>rW hUi r
  refine ⟨U,u1,u2,fun k hk=>hup k (u3 k hk),u4,u5,?_,?_⟩
  ·rw [hrows.1,hrows.2.1]
   rcases u7 with h|⟨x,hx,h⟩
   ·exact cv (h _)
   ·have:=E5 hre (jk (x:=(j,x)) (wO.2 hj) hx)
    rw [hv.n] at this
    exact cv (h _ this)
  ·rcases u7 with h|⟨x,hx,h⟩
   ·exact .inl fun h'=>cv (h h')
   ·exact .inr ⟨x,jk (x:=(j,x)) (wO.2 hj) hx,fun h' hc=>cv (h h' hc)⟩
 ·intro j oj d hj hoj hdj
  by_cases e:i=j
  ·subst e
   rw [ho] at hoj;cases hoj
   rw [hdj] at hdst
   rw [←hv.n];exact hdst
  ·rw [getD_set_ne false e] at hj
   exact hv.put j oj d hj hoj hdj
end
end Go.Fv
/-
 Congruences: only the state of a word is reckoned out, not what stands behind it.
-/
namespace Go.Fv
section
variable {P:Program} {w0:World} {T0:Bs} {s s':S} {K:AV→S→Prop}
@[congr] theorem JR {ops:Array Oper} {o:Oper} {k:S→Prop} (h:s=s'):Dt P w0 T0 ops o s k=Dt P w0 T0 ops o s' k:=by rw [h]
@[congr] theorem Je {o:Oper} {c c':Bool} {s1 s2:S} {k:S→Prop} (hc:c=c') (h:s=s'):nX P w0 T0 o c s s1 s2 k=nX P w0 T0 o c' s' s1 s2 k:=by rw [hc,h]
@[congr] theorem Jq {ops:Array Oper} {l:List Oper} {k:S→Prop} (h:s=s'):vG P w0 T0 ops l s k=vG P w0 T0 ops l s' k:=by rw [h]
@[congr] theorem Jd {ops:Array Oper} {l:qI} {k:S→Prop} (h:s=s'):fE P w0 T0 ops l s k=fE P w0 T0 ops l s' k:=by rw [h]
@[congr] theorem Jc {b0:Nat} {c:Code} {Q:Exit→S→Prop} (h:s=s'):dX P w0 T0 b0 c Q s=dX P w0 T0 b0 c Q s':=by rw [h]
@[congr] theorem Jr {d:Option Nat} {v v':AV} {k:S→Prop} (hv:v=v') (h:s=s'):dH d v s k=dH d v' s' k:=by rw [hv,h]
@[congr] theorem JU {o:Oper} (h:s=s'):kK P w0 T0 o s K=kK P w0 T0 o s' K:=by rw [h]
@[congr] theorem H8 {c:Call} (h:s=s'):iW P w0 T0 c s K=iW P w0 T0 c s' K:=by rw [h]
end
end Go.Fv
/-
 Facts about types, out of one glance each.
-/
namespace Go.Fv
def Jf:Value→Bool
 | .int k n=>EK k n
 | .string s=>s.size == 0
 | .agg cs=>(cs.toList.all fun v=>v.oneCell' && (match v with | .string s=>s.size == 0|_=>true)) && decide (0<cs.size)
 | .tuple _=>false
 | _=>true
theorem H9 {v:Value} (h:Jf v=true):KF v:=by
 cases v<;>first|trivial|cases h;done|skip
 case int k n=>exact zA h
 case string s=>
  have h':s.size=0:=by simpa [Jf] using h
  show s.size≤maxLen
  rw [h'];exact Nat.zero_le _
 case agg cs=>
  simp only [Jf,Bool.and_eq_true,List.all_eq_true,decide_eq_true_eq] at h
  refine ⟨fun v hv=>⟨(h.1 v hv).1,?_⟩,h.2⟩
  have h2:=(h.1 v hv).2
  cases v<;>try trivial
  rename_i s
  have h':s.size=0:=by simpa using h2
  show s.size≤maxLen
  rw [h'];exact Nat.zero_le _
theorem aY.of {P:Program} {e:TypeId} {z:Value} (h:(P.info? e).map (fun i=>(i.zero,i.size,decide (i.bytes≤1024)))=some (some z,z.cells.size,true)) (hz:Jf z=true):aY P e z:=by
 refine ⟨?_,H9 hz⟩
 cases hi:P.info? e with
 | none=>rw [hi] at h;cases h
 | some i=>
  rw [hi] at h
  simp only [Option.map_some,Option.some.injEq,Prod.mk.injEq,decide_eq_true_eq] at h
  exact ⟨i,rfl,h.1,h.2.1,h.2.2⟩
theorem aY.zero {P:Program} {e:TypeId} {z:Value} (h:aY P e z):zeroOf P e=some z:=by
 obtain ⟨i,h1,h2,_⟩:=h.ex
 simp [zeroOf,h1,h2]
theorem aY.cellsOf {P:Program} {e:TypeId} {z:Value} (h:aY P e z):P.cellsOf e=z.cells.size:=by
 obtain ⟨i,h1,h2,h3,_⟩:=h.ex
 simp [Program.cellsOf,h1,h3]
end Go.Fv
/-
 The names of one state among those of another, found by looking; steps of a walk.
-/
namespace Go.Fv
mutual
def mkV:AV→AV→List (Nat × Nat)
 | .own i,y=>match y with | .own k=>[(i,k)]|_=>[]
 | .ptr i _,y=>match y with | .ptr k _=>[(i,k)]|_=>[]
 | .elt i _ _ _,y=>match y with | .elt k _ _ _=>[(i,k)]|_=>[]
 | .pre i _,y=>match y with | .pre k _=>[(i,k)]|_=>[]
 | .agg l,y=>match y with | .agg l'=>wU l l'|_=>[]
 | .tup l,y=>match y with | .tup l'=>wU l l'|_=>[]
 | .fn _ l,y=>match y with | .fn _ l'=>wU l l'|_=>[]
 | .dead,_=>[]
 | .nilS,_=>[]
 | .bool _,_=>[]
 | .int _ _,_=>[]
 | .str _,_=>[]
 | .ro _,_=>[]
 | .cell _,_=>[]
 | .raw _,_=>[]
 | .opt _ x,y=>match y with | .opt _ y'=>mkV x y'|_=>[]
 | .mp _ _,_=>[]
def wU:List AV→List AV→List (Nat × Nat)
 | [],_=>[]
 | x::l,ys=>match ys with|y::l'=>mkV x y++wU l l'|[]=>[]
end
def Ec (s:S):List (Nat × AV)→List (Nat × Nat)
 | []=>[]
 |(r,v)::l=>mkV v (s.get r)++Ec s l
def IW:List (List AV)→List (List AV)→List (Nat × Nat)
 | [],_=>[]
 | x::l,ys=>match ys with|y::l'=>wU x y++IW l l'|[]=>[]
def Lj:au→au→List (Nat × Nat)
 | .objs _ l,.objs _ l'=>IW l l'
 | _,_=>[]
def mkItem:Item→Option Item→List (Nat × Nat)
 | .box _ cs,some (.box _ cs')=>wU cs cs'
 | .row _ r,some (.row _ r')=>Lj r r'
 | .map ks vs,some (.map ks' vs')=>wU ks ks'++wU vs vs'
 | .iter i _ _,some (.iter k _ _)=>[(i,k)]
 | _,_=>[]
def yG (l:List (Nat × Nat)) (rows:List (Nat × Item)):List (Nat × Item)→List (Nat × Nat)
 | []=>[]
 |(i,it)::rest=>mkItem it (lk rows (pm l i))++yG l rows rest
def Ed (s s':S):List (Nat × Nat):=Ec s s'.env++yG (Ec s s'.env) s.rows s'.rows
theorem Iw (k:IntKind) (n:Int):(Value.int k n).cells.size=1:=rfl
theorem FW (b:Bool):(Value.bool b).cells.size=1:=rfl
theorem Iz (b:ByteArray):(Value.string b).cells.size=1:=rfl
theorem EC (a:Option Addr) (n m:Nat):(Value.slice a n m).cells.size=1:=rfl
theorem Iy (a:Option Addr):(Value.pointer a).cells.size=1:=rfl
theorem Iu (a:Array Value):(Value.agg a).cells.size=a.size:=rfl
theorem Ite.bool {b:Bool} {x y:Prop} (h1:b=true→x) (h2:b=false→y):@Ite b ⟨x⟩ ⟨y⟩:=⟨h1,h2⟩
def wR (b:Nat):List (Nat × Nat)→List (Nat × Nat)
 | []=>[]
 | x::l=>if b≤x.1 then x::wR b l else wR b l
theorem tC (b:Nat):∀ (l:List (Nat × Nat)) x,x∈wR b l→b≤x.1
 | y::l,x,h=>by
  simp only [wR] at h
  split at h
  ·rename_i hb
   cases List.mem_cons.1 h with
   | inl e=>subst e;exact hb
   | inr e=>exact tC b l x e
  ·exact tC b l x h
section
variable {w0:World} {T0:Bs} {b0:Nat}
theorem bQ.aC {s s':S} (hn:s'.n=s.n) (he:zO (pm (Ed s s')) s s'.next s'.env) (hr:gG (pm (Ed s s')) s.rows s'.next s'.rows):bQ w0 T0 0 s s':=
 bQ.of (Ed s s') hn (Nat.zero_le _) (fun _ _=>Nat.zero_le _) he hr
def JL (s:S):ResultVar→AV
 | .tmp t=>s.ev (.tmp t)
 | .cell t _=>match s.get t with
  | .ptr i off=>match lk s.rows i with
   | some (.box _ cs)=>.agg (cs.drop off)
   | _=>.dead
  | _=>.dead
def Aj (s:S) (res:List ResultVar) (out:AV) (rows:List (Nat × Item)):List (Nat × Nat):=
 mkV out (gZ (res.map (JL s)))++yG (mkV out (gZ (res.map (JL s)))) s.rows rows
theorem bW.auto {P:Program} (N:Nat) {res:List ResultVar} {out:AV} {rows:List (Nat × Item)} {s:S} (h:qA P s res (fun vs=>gZ vs=ren (pm (Aj s res out rows)) out)) (hb:Fv.below N out=true) (hr:gG (pm (Aj s res out rows)) s.rows N rows):bW P w0 T0 res out rows s:=
 bW.of _ N h hb hr
end
end Go.Fv
/-
 The set by which a walk is reckoned.
-/
namespace Go.Fv
theorem FT (p q:Prop) [Decidable p] [Decidable q]:(decide p && decide q)=decide (p∧q):=by simp
theorem Iq (p q:Prop) [Decidable p] [Decidable q]:(decide p || decide q)=decide (p∨q):=by simp
theorem FU (p:Prop) [Decidable p]:(!decide p)=decide (¬p):=by simp
attribute [go_sem] not_true_eq_false or_true true_or false_or or_false and_false false_and or_self and_self Array.toList_replicate List.map_replicate List.mem_replicate not_false_eq_true ne_eq Value.oneCell' maxLen_eq Nat.zero_le FT Iq FU AV.int.injEq AV.bool.injEq dX thenS sS Hr D5 vG Dt kK nV vH fP dZ xI mG uX vF dN gI mO qE dH iW Bj fA nC uT tY yX Dv G9 KG tZ kd zy eq1 Dw lN pJ pz Bq GN rY lS jS pU yZ zq iI dS intsOf kC fE S.ev S.get S.set S.add S.swap S.after nS lk put del evs aj bP yJ EK ren dR gq kS eU iM bU yA dF xR bnd zI iZ dU iF spl appRow mD dP S.upd idxFrom nJ placeOf bytesOf bn aU below aB au.len au.sz Item.ren Iw FW Iz EC Iy Iu List.length_append List.length_set List.length_replicate List.length_nil List.mem_cons List.not_mem_nil or_false forall_eq forall_eq_or_imp implies_true false_implies eq_self List.set_cons_zero List.set_cons_succ List.drop_zero List.drop_succ_cons List.take_succ_cons List.take_zero List.size_toArray List.length_cons List.map_cons List.map_nil List.replicate_zero List.nil_append List.cons_append List.append_nil List.reverse_nil List.zipIdx_cons List.zipIdx_nil Array.toList_empty List.getElem?_cons_zero List.getElem?_cons_succ List.getElem?_toArray Option.bind_some Option.map_some Option.getD_some Nat.one_mul decide_true decide_false Bool.and_self Bool.true_and Bool.false_and Bool.and_true Bool.and_false Bool.not_true Bool.not_false cond_true cond_false FH Eo and_true true_and and_self FB Bool.not_eq_true' Nat.zero_add Nat.add_zero Int.toNat_natCast Int.ofNat_eq_natCast J6 J7 gY cu peel Cb Ku Kv gHead zS II oJ nR nX Ig J9 J8 Bool.and_eq_true decide_eq_true_eq Bool.cond_true_left Bool.cond_false_right imp_self Bool.not_eq_true decide_eq_false_iff_not Decidable.not_not Bool.not_not jd nG Int.natCast_zero
end Go.Fv
/-
 Calls whose results are only read by the caller: they stand as data, and the caller's state stays as it is.
-/
namespace Go.Fv
open Go.RowKit
def oQ (rows:List (Nat × Item)) (x y:AV):Prop:=match x with
 | .tup l=>∃ l',bD rows l l'∧y=.tup l'
 | x=>mX rows x y
section
variable {P:Program} {w0:World} {T0:Bs}
theorem kL.ro {T:Nat→Prop} {B:Nat} {w:World} {out out':AV} {rows:List (Nat × Item)} {v:Value} (h:kL T B w out rows v) (ho:oQ rows out out'):kL T B w out' [] v:=by
 obtain ⟨m,N,hr,hrows,hsep⟩:=h
 have hblk:∀ i it,lk rows i=some it→∀ b,blk (m i)=some b→B≤b:=fun i it hi b hb=>((hrows i it hi).2.blk b hb).1
 have hl:vK w (⟨w,allow (bs T) B m rows,m,N⟩:Ctx) rows (allow (bs T) B (fun _=>undef) []):=
  {hw:=rfl,t:=fun b hb=>⟨hb.1,fun i it hi=>by simp [lk] at hi⟩,
   own:=fun i e r hi=>by
    obtain ⟨n,cells,hc,hn,hq,_⟩:=(hrows i _ hi).2
    exact ⟨fun b hb=>⟨.inl (hblk i _ hi b hb),fun i it hi=>by simp [lk] at hi⟩,n,cells,hc,hn,hq⟩,
   box:=fun i e cs hi=>by
    obtain ⟨g,vs,hv,hg,hl,hh⟩:=(hrows i _ hi).2
    exact ⟨g,vs,hv,⟨.inl hg,fun i it hi=>by simp [lk] at hi⟩,hl,hh⟩,
   map:=fun i ks vs hi=>by
    obtain ⟨g,es,clock,hv,hg,h1,h2,h3,h4,hh⟩:=(hrows i _ hi).2
    exact ⟨g,es,clock,hv,⟨.inl hg,fun i it hi=>by simp [lk] at hi⟩,h1,h2,h3,h4,hh⟩ }
 refine ⟨fun _=>undef,0,?_,fun i it hi=>by simp [lk] at hi,fun i j it jt b hi=>by simp [lk] at hi⟩
 unfold oQ at ho
 split at ho
 ·obtain ⟨l',ha,rfl⟩:=ho
  cases hr with
  | tup _ vs hv=>exact .tup _ _ (jv hl _ ha hv)
 ·exact qg hl 6 _ ho hr
theorem kL.bT {T:Nat→Prop} {B:Nat} {w:World} {out:AV} {v:Value} (h:kL T B w out [] v):kL T B w out [] v:=h
theorem ak.ro [hG:mQ P w0 T0] {f:Nat} {args args':List AV} {out:AV} (out':AV) {rows:List (Nat × Item)} {s:S} {K:AV→S→Prop} (h:gJ P f args' out rows) (ha:bD s.rows args args') (ho:oQ rows out out') (hn:bn out'=true)
  (hk:K out' s):@ak P w0 T0 f args s ⟨K⟩:=by
 have h':gJ P f args' out' []:=⟨h.1,fun w T vals hgl hv=>(h.2 w T vals hgl hv).mono fun e w' ⟨v,he,hb,hq⟩=>⟨v,he,hb,hq.ro ho⟩⟩
 refine ak.fr h' ha 0 (jX 0 _ hn) trivial ?_
 rw [uD _ _ hn]
 exact hk
theorem aP.ro {f:Nat} {args:List AV} {out out':AV} {rows:List (Nat × Item)} (h:aP P f args out rows) (ho:oQ rows out out'):aP P f args out' []:=
 ⟨h.1,fun w T vals hgl hv=>(h.2 w T vals hgl hv).mono fun e w' ⟨v,he,hb,hq⟩=>⟨v,he,hb,hq.ro ho⟩⟩
theorem ak.shr [hG:mQ P w0 T0] {f:Nat} {args args':List AV} {out:AV} {rows:List (Nat × Item)} {s:S} {K:AV→S→Prop} (h:aP P f args' out rows) (ha:bD [] args args') (N:Nat) (hN:Fv.below N out=true) (hNr:dG N rows)
  (hk:K (ren (fun j=>s.next+j) out) (s.after s.rows N rows)):@ak P w0 T0 f args s ⟨K⟩:=
 ak.sh s.rows h [] ha (fun _ _ h=>h) (fun i it hi=>by simp [lk] at hi) N hN hNr hk
end
end Go.Fv
/-
 A nil slice in a box, as an owned row without elements.
-/
namespace Go.Fv
open Go.RowKit
section
variable {P:Program} {w0:World} {T0:Bs} {b0:Nat}
theorem bQ.pre {s:S} (r i:Nat) {e:TypeId} {rv:au} (hr:lk s.env r=some (.own i)) (hi:lk s.rows i=some (.row e rv)):bQ w0 T0 b0 s (s.set r (.pre i rv.len)):=by
 rintro H a w hH ⟨m,hm⟩
 refine ⟨m,hm.Gu ?_⟩
 have hx:=hm.env r _ hr
 obtain ⟨k,cells,hrc,hk,how,hO⟩:=(hm.rows i _ hi).2
 generalize a.tmps.getD r undef=v at hx
 cases hx with
 | own _ hi2 h1=>
  rcases how.2 with ⟨hv2,hq⟩|⟨g,cap,cur,fz,hv2,_⟩
  ·have hv:(ah T0 w0.heap.size m s w).m i=.slice none 0 0:=hv2
   have h0:rv.len=0:=by omega
   rw [hv,h0]
   exact .pre i 0 0 0 none hi2 hv (Nat.le_refl _)
  ·have hv:(ah T0 w0.heap.size m s w).m i=.slice (some ⟨g,0,none⟩) k cap:=hv2
   rw [hv,hk]
   exact .pre i k k cap _ hi2 hv (Nat.le_refl _)
end
end Go.Fv
/-
 What a function value has captured, where nothing of it is the caller's own memory.
-/
namespace Go.Fv
open Go.RowKit
def jF:Nat→AV→Bool
 | 0,_=>false
 | n+1,x=>match x with
  | .agg cs=>cs.all (jF n)
  | .fn _ cs=>cs.all (jF n)
  | .ro _=>true
  | .bool _=>true
  | .int _ _=>true
  | .str _=>true
  | .raw _=>true
  | .cell _=>true
  | .nilS=>true
  | .mp _ _=>true
  | _=>false
theorem mg:∀ {l:List AV},(∀ x,x∈l→bn x=true)→aU l=true
 | [],_=>rfl
 | x::l,h=>by simp only [aU,Bool.and_eq_true];exact ⟨h x (.head _),mg fun y hy=>h y (.tail _ hy)⟩
theorem nN:∀ (n:Nat) (x:AV),jF n x=true→bn x=true
 | 0,x,h=>by simp [jF] at h
 | n+1,x,h=>by
  cases x<;>simp only [jF] at h<;>first|rfl|(cases h;done)|skip
  ·simp only [bn];exact mg fun y hy=>nN n y (List.all_eq_true.1 h y hy)
  ·simp only [bn];exact mg fun y hy=>nN n y (List.all_eq_true.1 h y hy)
theorem nH {R:AV→AV→Prop}:∀ {l:List AV},(∀ x,x∈l→R x x)→bG R l l
 | [],_=>rfl
 | x::l,h=>⟨x,l,h x (.head _),nH fun y hy=>h y (.tail _ hy),rfl⟩
theorem zZ (rows:List (Nat × Item)):∀ (n:Nat) (x:AV),jF n x=true→aF rows n x x
 | 0,x,h=>by simp [jF] at h
 | n+1,x,h=>by
  cases x<;>simp only [jF] at h<;>first|(cases h;done)|skip
  all_goals first|(simp only [aF];done)|(simp only [aF];exact .inl trivial)|(simp only [aF];exact ⟨_,nH fun y hy=>zZ rows n y (List.all_eq_true.1 h y hy),rfl⟩)|skip
class xJ (caps:List AV):Prop where
 ok:caps.all (jF 5)=true
section
variable {caps:List AV} [h:xJ caps]
theorem qh:aU caps=true:=mg fun x hx=>nN 5 x (List.all_eq_true.1 h.ok x hx)
theorem uj:∀ (n:Nat) (x:AV),jF n x=true→jF (n+1) x=true
 | 0,x,h=>by simp [jF] at h
 | n+1,x,h=>by
  cases x<;>simp only [jF] at h ⊢<;>first|(cases h;done)|rfl|skip
  ·exact List.all_eq_true.2 fun y hy=>uj n y (List.all_eq_true.1 h y hy)
  ·exact List.all_eq_true.2 fun y hy=>uj n y (List.all_eq_true.1 h y hy)
theorem Fa (p:Nat→Nat):dR p caps=caps:=fM p caps qh
theorem zF (n:Nat):aB n caps=true:=dI n caps qh
theorem BI (rows:List (Nat × Item)):bG (aF rows 6) caps caps:=nH fun x hx=>zZ rows 6 x (uj 5 x (List.all_eq_true.1 h.ok x hx))
end
mutual
theorem Ak:∀ (x y:AV),bn x=true→mkV x y=[]
 | .own _,_,h=>by simp [bn] at h
 | .ptr _ _,_,h=>by simp [bn] at h
 | .elt _ _ _ _,_,h=>by simp [bn] at h
 | .pre _ _,_,h=>by simp [bn] at h
 | .agg l,y,h=>by simp only [mkV];split<;>first|exact gy l _ (by simpa [bn] using h)|rfl
 | .tup l,y,h=>by simp only [mkV];split<;>first|exact gy l _ (by simpa [bn] using h)|rfl
 | .fn _ l,y,h=>by simp only [mkV];split<;>first|exact gy l _ (by simpa [bn] using h)|rfl
 | .dead,_,_=>rfl
 | .nilS,_,_=>rfl
 | .bool _,_,_=>rfl
 | .int _ _,_,_=>rfl
 | .str _,_,_=>rfl
 | .ro _,_,_=>rfl
 | .cell _,_,_=>rfl
 | .raw _,_,_=>rfl
 | .mp _ _,_,_=>rfl
 | .opt _ x,y,h=>by simp only [mkV];split<;>first|exact Ak x _ (by simpa [bn] using h)|rfl
theorem gy:∀ (x y:List AV),aU x=true→wU x y=[]
 | [],_,_=>rfl
 | x::l,y,h=>by
  simp only [aU,Bool.and_eq_true] at h
  simp only [wU];split
  ·rw [Ak x _ h.1,gy l _ h.2];rfl
  ·rfl
end
theorem wV:∀ (x y:List (List AV)),x.all aU=true→IW x y=[]
 | [],_,_=>rfl
 | x::l,y,h=>by
  simp only [List.all_cons,Bool.and_eq_true] at h
  simp only [IW];split
  ·rw [gy x _ h.1,wV l _ h.2];rfl
  ·rfl
theorem GV (r r':au) [h:jf r]:Lj r r'=[]:=by
 have:=h.ok
 cases r<;>cases r'<;>first|rfl|exact wV _ _ this
theorem GR {caps:List AV} [h:xJ caps] (y:List AV):wU caps y=[]:=gy caps y qh
end Go.Fv
/-
 The walk of drawn regions, in the set.
-/
namespace Go.Fv
attribute [go_sem] mJ FM lQ D9 jJ jL jK ED fO mM zi rX List.getLast?_concat mapOf Ji wG KQ Bool.false_eq_true true_implies Ju ig Gl FP Ew JA I7 I5 He Ag qR jB jc AL JK dL Jo bY fG gd Hf xu redo jm jE cu oC tX Option.toList_some Option.toList_none Fa zF
end Go.Fv
/-
 Maps whose keys and values are told by lists of plain data.
-/
namespace Go.Fv
def kJ {α:Type} [DecidableEq α]:List α→α→Option Nat
 | [],_=>none
 | x::l,k=>if x=k then some 0 else (kJ l k).map (·+1)
theorem iR {α:Type} [DecidableEq α] {f:α→AV} (hf:∀ a b,fZ (f a) (f b)=decide (a=b)) (x:α):∀ l:List α,bF (l.map f) (f x)=kJ l x
 | []=>rfl
 | y::l=>by simp only [List.map_cons,bF,kJ,hf,iR hf x l,decide_eq_true_eq]
theorem ji (l:List (List UInt8)) (n:List UInt8):bF (l.map .str) (.str n)=kJ l n:=iR (fun a b=>by simp [fZ]) n l
theorem fJ {α:Type} [DecidableEq α]:∀ {l:List α} {x:α} {j:Nat},kJ l x=some j→l[j]?=some x
 | y::l,x,j,h=>by
  simp only [kJ] at h
  split at h
  ·rename_i e;cases h;simp [e]
  ·simp only [Option.map_eq_some_iff] at h
   obtain ⟨i,hi,rfl⟩:=h
   simpa using fJ hi
theorem iH {α:Type} [DecidableEq α]:∀ {l:List α} {x:α},kJ l x=none↔x∉l
 | [],x=>by simp [kJ]
 | y::l,x=>by
  simp only [kJ]
  split
  ·rename_i e;simp [e]
  ·rename_i e
   rw [Option.map_eq_none_iff,iH,List.mem_cons,not_or]
   exact ⟨fun h=>⟨fun e'=>e e'.symm,h⟩,fun h=>h.2⟩
theorem kW {α:Type} [DecidableEq α] (l:List α) (x:α):(kJ l x).isSome=decide (x∈l):=by
 cases h:kJ l x with
 | none=>simp [iH.1 h]
 | some j=>simp [List.mem_of_getElem? (fJ h)]
theorem Gn {α:Type} [DecidableEq α] {f:α→AV} (hf:∀ a b,fZ (f a) (f b)=decide (a=b)) (l:List α) (x:α):rF (l.map f) (l.map fun _=>.bool true) (f x)=decide (x∈l):=by
 unfold rF jC
 rw [iR hf]
 cases h:kJ l x with
 | none=>simp [iH.1 h]
 | some j=>simp [List.mem_of_getElem? (fJ h),fJ h]
theorem EH (l:List (List UInt8)) (n:List UInt8):rF (l.map .str) (l.map fun _=>.bool true) (.str n)=decide (n∈l):=by
 rw [Gn (f:=AV.str) (fun a b=>by simp [fZ]) l n];congr
def jD {α:Type} [DecidableEq α] (l:List α) (x:α):List α:=if x∈l then l else l++[x]
theorem Fj {α:Type} [DecidableEq α] {f:α→AV} (hf:∀ a b,fZ (f a) (f b)=decide (a=b)) (l:List α) (x:α):kG (l.map f) (f x)=(jD l x).map f:=by
 unfold kG jD
 rw [iR hf]
 cases h:kJ l x with
 | none=>simp [iH.1 h]
 | some j=>simp [List.mem_of_getElem? (fJ h)]
theorem xA {α β:Type} (c:β):∀ (l:List α) (j:Nat),(l.map fun _=>c).set j c=l.map fun _=>c
 | [],_=>rfl
 | _::l,0=>rfl
 | _::l,j+1=>by simp [xA c l j]
theorem Fp {α:Type} [DecidableEq α] {f:α→AV} (hf:∀ a b,fZ (f a) (f b)=decide (a=b)) (l:List α) (x:α):rC (l.map f) (l.map fun _=>.bool true) (f x) (.bool true)=(jD l x).map fun _=>.bool true:=by
 unfold rC jD
 rw [iR hf]
 cases h:kJ l x with
 | none=>simp [iH.1 h]
 | some j=>simp [List.mem_of_getElem? (fJ h),xA]
theorem Dk (l:List (List UInt8)) (n:List UInt8):kG (l.map .str) (.str n)=(jD l n).map .str:=Fj (fun a b=>by simp [fZ]) l n
theorem Dl (l:List (List UInt8)) (n:List UInt8):rC (l.map .str) (l.map fun _=>.bool true) (.str n) (.bool true)=(jD l n).map fun _=>.bool true:=Fp (fun a b=>by simp [fZ]) l n
theorem Io {α:Type} (l:List α) (f:α→Bool):(l.map fun x=>AV.bool (f x)).all J4=true:=by simp [J4]
theorem xw {α:Type} (p:Nat→Nat) {f:α→AV} (hf:∀ a,bn (f a)=true) (l:List α):dR p (l.map f)=l.map f:=by
 refine fM p _ ?_
 induction l with
 | nil=>rfl
 | cons x l ih=>simp [aU,hf,ih]
theorem qJ {α:Type} (n:Nat) {f:α→AV} (hf:∀ a,bn (f a)=true) (l:List α):aB n (l.map f)=true:=by
 refine dI n _ ?_
 induction l with
 | nil=>rfl
 | cons x l ih=>simp [aU,hf,ih]
theorem CG {α:Type} {f:α→AV} (hf:∀ a,bn (f a)=true) (l:List α):aU (l.map f)=true:=by
 induction l with
 | nil=>rfl
 | cons x l ih=>simp [aU,hf,ih]
theorem Ah {α:Type} {f:α→AV} (hf:∀ a,bn (f a)=true) (l:List α) (y:List AV):wU (l.map f) y=[]:=gy _ y (CG hf l)
theorem qy (p:Nat→Nat) (l:List (List UInt8)):dR p (l.map .str)=l.map .str:=xw p (fun _=>rfl) l
theorem kN (n:Nat) (l:List (List UInt8)):aB n (l.map .str)=true:=qJ n (fun _=>rfl) l
theorem Ai (l:List (List UInt8)) (y:List AV):wU (l.map .str) y=[]:=Ah (fun _=>rfl) l y
theorem uJ {α:Type} (p:Nat→Nat) (l:List α) (f:α→Bool):dR p (l.map fun x=>.bool (f x))=l.map fun x=>.bool (f x):=xw p (fun _=>rfl) l
theorem oh {α:Type} (n:Nat) (l:List α) (f:α→Bool):aB n (l.map fun x=>.bool (f x))=true:=qJ n (fun _=>rfl) l
theorem wW {α:Type} (l:List α) (f:α→Bool) (y:List AV):wU (l.map fun x=>.bool (f x)) y=[]:=Ah (fun _=>rfl) l y
attribute [simp] qy kN Ai uJ oh wW
attribute [go_sem] qy kN uJ oh Io EH Dk Dl ji kW
end Go.Fv
/-
 Small facts about lists.
-/
namespace Go.Fv
theorem getD_lt {α:Type} {l:List α} {i:Nat} {d:α} (h:i<l.length):l.getD i d=l[i]:=by simp [List.getD,h]
theorem qY {α:Type} [DecidableEq α] {a b:List α} (d:α) (h:a.length=b.length):∀ {i:Nat},i≤a.length→((∀ j,j<i→a.getD j d=b.getD j d)↔a.take i=b.take i)
 | 0,_=>by simp
 | i+1,hi=>by
  have ih:=qY d h (i:=i) (by omega)
  rw [List.take_succ_eq_append_getElem (by omega),List.take_succ_eq_append_getElem (by omega)]
  constructor
  ·intro hh
   have h1:=ih.1 fun j hj=>hh j (by omega)
   have h2:=hh i (by omega)
   rw [getD_lt (by omega),getD_lt (by omega)] at h2
   rw [h1,h2]
  ·intro hh j hj
   have:=List.append_inj hh (by simp;omega)
   by_cases e:j=i
   ·subst e
    rw [getD_lt (by omega),getD_lt (by omega)]
    simpa using this.2
   ·exact ih.2 this.1 j (by omega)
theorem BR {α:Type} [DecidableEq α] {a b:List α} (d:α) (h:a.length=b.length) (hh:∀ j,j<a.length→a.getD j d=b.getD j d):a=b:=by
 have:=(qY d h (Nat.le_refl _)).1 hh
 rwa [List.take_length,h,List.take_length] at this
theorem uK (p:Nat→Nat):∀ l:List Bool,dR p (l.map .bool)=l.map .bool
 | []=>rfl
 | b::l=>by simp only [List.map_cons,dR,ren];rw [uK p l]
theorem iy (n:Nat):∀ l:List Bool,aB n (l.map .bool)=true
 | []=>rfl
 | b::l=>by simp only [List.map_cons,aB,below,Bool.true_and];exact iy n l
theorem wX:∀ (l:List Bool) (y:List AV),wU (l.map .bool) y=[]
 | [],_=>by simp [wU]
 | b::l,y=>by
  simp only [List.map_cons,wU]
  split
  ·simp only [mkV,List.nil_append];exact wX l _
  ·rfl
theorem jg (rows:List (Nat × Item)) (n:Nat):∀ l:List Bool,bG (aF rows (n+1)) (l.map .bool) (l.map .bool)
 | []=>rfl
 | b::l=>⟨.bool b,l.map .bool,by simp [aF],jg rows n l,rfl⟩
theorem Fg (l:List Bool) (i:Nat) (b:Bool):(l.map AV.bool).set i (.bool b)=(l.set i b).map .bool:=by rw [List.map_set]
theorem lg:∀ l:List Bool,gW (l.map .bool)=true
 | []=>rfl
 | b::l=>by simp only [List.map_cons,gW,kY,Bool.true_and];exact lg l
theorem uN:∀ (cs bs:List AV) (off:Nat),off+cs.length≤bs.length→spl bs off cs=bs.take off++cs++bs.drop (off+cs.length)
 | [],bs,off,_=>by simp [spl]
 | c::cs,bs,off,h=>by
  simp only [List.length_cons] at h
  rw [spl,uN cs _ _ (by simp;omega),List.take_set,List.drop_set,if_pos (by omega)]
  rw [List.take_succ_eq_append_getElem (by omega),List.set_append_right _ _ (by simp;omega)]
  have e:off - (List.take off bs).length=0:=by simp;omega
  rw [e]
  simp only [List.set_cons_zero,List.length_cons,List.append_assoc,List.cons_append,List.nil_append]
  have e2:off+1+cs.length=off+(cs.length+1):=by omega
  rw [e2]
theorem yR {bs cs:List AV} (h:cs.length=bs.length):spl bs 0 cs=cs:=by
 rw [uN _ _ _ (by omega)];simp [h]
attribute [simp] dJ rV fH GV
attribute [go_sem] rE dJ rV fH uK iy List.length_map Nat.mul_one Fg
end Go.Fv
/-
 Families of rows: as many owned rows as a list tells, with names one behind the other.
-/
namespace Go.Fv
section
variable {w0:World} {T0:Bs} {b0:Nat}
end
/-! ### Renamings by hand -/
def p1 (a K x:Nat):Nat:=if x=a then K else x
def p2 (a K a' K' x:Nat):Nat:=if x=a then K else if x=a' then K' else x
end Go.Fv
/-
 An owned row becomes data, wherever the state speaks of it.
-/
namespace Go.Fv
open Go.RowKit
mutual
def fz (k:Nat) (r:au):AV→AV
 | .own i=>if i=k then .ro r else .own i
 | .ptr i o=>.ptr i o
 | .elt i a b c=>.elt i a b c
 | .pre i n=>.pre i n
 | .agg cs=>.agg (BD k r cs)
 | .tup cs=>.tup (BD k r cs)
 | .fn f cs=>.fn f (BD k r cs)
 | .cell cs=>.cell cs
 | .dead=>.dead
 | .nilS=>.nilS
 | .bool b=>.bool b
 | .int q n=>.int q n
 | .str s=>.str s
 | .ro r=>.ro r
 | .raw v=>.raw v
 | .opt b v=>.opt b (fz k r v)
 | .mp ks vs=>.mp ks vs
def BD (k:Nat) (r:au):List AV→List AV
 | []=>[]
 | x::l=>fz k r x::BD k r l
end
def J3 (k:Nat) (q:au):au→au
 | .objs sz l=>.objs sz (l.map (BD k q))
 | .bools l=>.bools l
 | .ints k l=>.ints k l
 | .strs l=>.strs l
def Kt (k:Nat) (q:au):Item→Item
 | .row e r=>.row e (J3 k q r)
 | .box e cs=>.box e (BD k q cs)
 | .map ks vs=>.map (BD k q ks) (BD k q vs)
 | .iter mp since seen=>.iter mp since seen
 | .siter t pos=>.siter t pos
def Kr (k:Nat) (q:au):List (Nat × AV)→List (Nat × AV)
 | []=>[]
 |(i,v)::l=>(i,fz k q v)::Kr k q l
def nK (k:Nat) (q:au):List (Nat × Item)→List (Nat × Item)
 | []=>[]
 |(i,it)::l=>if i=k then nK k q l else (i,Kt k q it)::nK k q l
def S.fz (s:S) (k:Nat) (r:au):S:={ s with env:=Kr k r s.env,rows:=nK k r s.rows }
theorem GI (k:Nat) (q:au):∀ (l:List (Nat × AV)) (i:Nat),lk (Kr k q l) i=(lk l i).map (fz k q)
 | [],i=>rfl
 |(j,v)::l,i=>by
  simp only [Kr,lk]
  split
  ·rfl
  ·exact GI k q l i
theorem qw (k:Nat) (q:au):∀ (l:List (Nat × Item)) (i:Nat),lk (nK k q l) i=if i=k then none else (lk l i).map (Kt k q)
 | [],i=>by simp [nK,lk]
 |(j,v)::l,i=>by
  simp only [nK]
  split
  ·rename_i e;subst e
   rw [qw]
   by_cases h:i=j
   ·simp [h]
   ·simp only [if_neg h,lk];rw [if_neg (fun e=>h e.symm)]
  ·rename_i e
   simp only [lk]
   split
   ·rename_i e2;subst e2;rw [if_neg e];rfl
   ·exact qw k q l i
mutual
theorem tH {k:Nat} {r:au} (n:Nat):∀ x:AV,below n x=true→below n (fz k r x)=true
 | .own i,h=>by
  simp only [fz];split
  ·rfl
  ·exact h
 | .ptr i o,h=>h
 | .elt i a b c,h=>h
 | .pre i n,h=>h
 | .agg cs,h=>by simp only [fz,below] at *;exact l7 n cs h
 | .tup cs,h=>by simp only [fz,below] at *;exact l7 n cs h
 | .fn f cs,h=>by simp only [fz,below] at *;exact l7 n cs h
 | .cell cs,_=>rfl
 | .dead,_=>rfl
 | .nilS,_=>rfl
 | .bool _,_=>rfl
 | .int _ _,_=>rfl
 | .str _,_=>rfl
 | .ro _,_=>rfl
 | .raw _,_=>rfl
 | .opt _ v,h=>by simp only [fz,below] at *;exact tH n v h
 | .mp _ _,_=>rfl
theorem l7 {k:Nat} {r:au} (n:Nat):∀ x:List AV,aB n x=true→aB n (BD k r x)=true
 | [],_=>rfl
 | x::l,h=>by
  simp only [aB,Bool.and_eq_true] at h
  simp [BD,aB,tH n x h.1,l7 n l h.2]
end
mutual
theorem BZ (k:Nat) (r:au) (b0:Nat) (hb:b0≤k):∀ x:AV,below b0 x=true→fz k r x=x
 | .own i,h=>by
  simp only [below,decide_eq_true_eq] at h
  simp only [fz];rw [if_neg (by omega)]
 | .ptr i o,h=>rfl
 | .elt i a b c,h=>rfl
 | .pre i n,h=>rfl
 | .agg cs,h=>by simp only [fz];rw [rP k r b0 hb cs (by simpa [below] using h)]
 | .tup cs,h=>by simp only [fz];rw [rP k r b0 hb cs (by simpa [below] using h)]
 | .fn f cs,h=>by simp only [fz];rw [rP k r b0 hb cs (by simpa [below] using h)]
 | .cell cs,_=>rfl
 | .dead,_=>rfl
 | .nilS,_=>rfl
 | .bool _,_=>rfl
 | .int _ _,_=>rfl
 | .str _,_=>rfl
 | .ro _,_=>rfl
 | .raw _,_=>rfl
 | .mp _ _,_=>rfl
 | .opt b v,h=>by simp only [fz];rw [BZ k r b0 hb v (by simpa [below] using h)]
theorem rP (k:Nat) (r:au) (b0:Nat) (hb:b0≤k):∀ x:List AV,aB b0 x=true→BD k r x=x
 | [],_=>rfl
 | x::l,h=>by
  simp only [aB,Bool.and_eq_true] at h
  simp only [BD];rw [BZ k r b0 hb x h.1,rP k r b0 hb l h.2]
end
structure su (k:Nat) (r:au) (c c':Ctx):Prop where
 n:c'.N=c.N
 m:c'.m=c.m
 t:∀ b,c.T b→b<c.w.heap.size→c'.T b∧c'.w.heap[b]?=c.w.heap[b]?
 ro:Rv c' (.ro r) (c.m k)
mutual
theorem Rv.fz {k:Nat} {r:au} {c c':Ctx} (h:su k r c c'):∀ {x:AV} {v:Value},Rv c x v→Rv c' (Fv.fz k r x) v
 | _,_,.dead v=>.dead v
 | _,_,.nilS=>.nilS
 | _,_,.bool b=>.bool b
 | _,_,.int q n hk=>.int q n hk
 | _,_,.str s hs=>.str s hs
 | _,_,.roNil r hr hi=>.roNil r (aQ.bT h.t hr hi) hi
 | _,_,.ro r a len cap cells hr hl hc hm hs hi=>.ro r a len cap cells (aQ.bT h.t hr hi) hl hc hm (hs.mono' h.t) hi
 | _,_,.mp ks vs g es clock hk hv hb hc hT hh hi hi2=>.mp ks vs g es clock (bg.bT h.t hk hi) (bg.bT h.t hv hi2) hb hc (h.t g hT (Array.getElem?_eq_some_iff.1 hh).1).1 (by rw [(h.t g hT (Array.getElem?_eq_some_iff.1 hh).1).2];exact hh) hi hi2
 | _,_,.own i hi h1=>by
  simp only [Fv.fz]
  split
  ·rename_i e;subst e;exact h.ro
  ·rw [←h.m];exact .own i (by rw [h.n];exact hi) (by rw [h.m];exact h1)
 | _,_,.cell cs vs a hl hi hs=>.cell cs vs a (aS.bT h.t hl hi) hi (hs.mono' h.t)
 | _,_,.ptr i off g hi hg=>.ptr i off g (by rw [h.n];exact hi) (by rw [h.m];exact hg)
 | _,_,.elt i a b d g hi hg=>.elt i a b d g (by rw [h.n];exact hi) (by rw [h.m];exact hg)
 | _,_,.pre i n l cap a hi hv hn=>.pre i n l cap a (by rw [h.n];exact hi) (by rw [h.m];exact hv) hn
 | _,_,.agg cs vs hl=>.agg _ vs (aS.fz h hl)
 | _,_,.tup cs vs hl=>.tup _ vs (bg.fz h hl)
 | _,_,.fn f cs vs hl=>.fn f _ vs (bg.fz h hl)
 | _,_,.raw v=>.raw v
 | _,_,.opt b x v hb hx h2=>.opt b _ v (by rw [h.n];exact tH _ _ hb) (fun e=>Rv.fz h (hx e)) h2
theorem aS.fz {k:Nat} {r:au} {c c':Ctx} (h:su k r c c'):∀ {x:List AV} {v:List Value},aS c x v→aS c' (BD k r x) v
 | _,_,.nil=>.nil
 | _,_,.cons x v l vs hx h1 ht=>.cons _ v _ vs (Rv.fz h hx) h1 (aS.fz h ht)
theorem bg.fz {k:Nat} {r:au} {c c':Ctx} (h:su k r c c'):∀ {x:List AV} {v:List Value},bg c x v→bg c' (BD k r x) v
 | _,_,.nil=>.nil
 | _,_,.cons x v l vs hx ht=>.cons _ v _ vs (Rv.fz h hx) (bg.fz h ht)
end
theorem aJ.fz {k:Nat} {r:au} {c c':Ctx} (h:su k r c c'):∀ {sz:Nat} {x:List (List AV)} {v:List Value},aJ c sz x v→aJ c' sz (x.map (BD k r)) v
 | _,_,_,.nil sz=>.nil sz
 | _,_,_,.cons sz o vs l cells ho hl ht=>.cons sz _ vs _ cells (ho.fz h) hl (ht.fz h)
theorem aQ.fz {k:Nat} {q:au} {c c':Ctx} (h:su k q c c') {x:au} {v:List Value} (hr:aQ c x v):aQ c' (J3 k q x) v:=by
 cases hr with
 | bools l=>exact .bools l
 | ints k l hk=>exact .ints k l hk
 | strs l hs=>exact .strs l hs
 | objs sz l cells hz ho=>exact .objs sz _ _ hz (ho.fz h)
theorem IG (k:Nat) (q r:au):(J3 k q r).len=r.len:=by cases r<;>simp [J3,au.len]
theorem JC (k:Nat) (q r:au):(J3 k q r).sz=r.sz:=by cases r<;>rfl
theorem aG.fz {k:Nat} {q:au} {c c':Ctx} (h:su k q c c') (hw:c'.w=c.w) {O:Nat→Prop} {v:Value} {it:Item} (hi:aG c O v it):aG c' O v (Kt k q it):=by
 cases it with
 | row e r=>
  obtain ⟨n,cells,hr,hn,ho,hO⟩:=hi
  exact ⟨n,cells,hr.fz h,by rw [IG];exact hn,by rw [JC,hw];exact ho,hO⟩
 | box e cs=>obtain ⟨g,vs,rfl,hg,hl,hh⟩:=hi;exact ⟨g,vs,rfl,hg,hl.fz h,by rw [hw];exact hh⟩
 | map ks vs=>obtain ⟨g,es,clock,rfl,hg,h1,h2,h3,h4,hh⟩:=hi;exact ⟨g,es,clock,rfl,hg,h1.fz h,h2.fz h,h3,h4,by rw [hw];exact hh⟩
 | iter mp since seen=>obtain ⟨g,p,sn,last,rfl,hg,h1,h2,h3,h4,hh⟩:=hi;exact ⟨g,p,sn,last,rfl,hg,by rw [h.n];exact h1,by rw [h.m];exact h2,h3,h4,by rw [hw];exact hh⟩
 | siter t pos=>obtain ⟨g,rfl,hg,hh⟩:=hi;exact ⟨g,rfl,hg,by rw [hw];exact hh⟩
section
variable {w0:World} {T0:Bs} {b0:Nat}
theorem bQ.fz (k:Nat) {s:S} {e:TypeId} {r:au} (hk:lk s.rows k=some (.row e r)) (hid:dw r=true) (hb:b0≤k):bQ w0 T0 b0 s (s.fz k r):=by
 rintro H a w hH ⟨m,hm⟩
 have hsub:∀ i it,lk (s.fz k r).rows i=some it→i≠k∧∃ jt,lk s.rows i=some jt∧it=Kt k r jt:=by
  intro i it hi
  simp only [S.fz,qw] at hi
  split at hi
  ·cases hi
  ·rename_i hne
   cases hq:lk s.rows i with
   | none=>rw [hq] at hi;cases hi
   | some jt=>rw [hq] at hi;cases hi;exact ⟨hne,jt,rfl,rfl⟩
 have hdel:∀ i it,lk (del s.rows k) i=some it→lk s.rows i=some it:=fQ _ _
 have hro:=CQ hm hk hdel (by rw [jW,if_pos rfl]) hid
 have hT:∀ b,allow T0 w0.heap.size m (del s.rows k) b→allow T0 w0.heap.size m (s.fz k r).rows b:=by
  rintro b ⟨h1,h2⟩
  refine ⟨h1,fun i it hi e=>?_⟩
  obtain ⟨hne,jt,hj,_⟩:=hsub i it hi
  exact h2 i jt (by rw [jW,if_neg hne];exact hj) e
 have hc:su k r (ah T0 w0.heap.size m s w) (ah T0 w0.heap.size m (s.fz k r) w):=
  {n:=rfl,m:=rfl,
   t:=by
    intro b ⟨h1,h2⟩ _
    exact ⟨hT b ⟨h1,fun i it hi=>h2 i it (hdel i it hi)⟩,rfl⟩,
   ro:=by
    refine Rv.bT (c:=ah T0 w0.heap.size m { s with rows:=del s.rows k } w) ?_ hro rfl
    intro b hb _
    exact ⟨hT b hb,rfl⟩ }
 refine ⟨m,{ size:=hm.size,nodef:=hm.nodef,below:=hm.below,env:=?_,held:=?_,rows:=?_,sep:=?_ }⟩
 ·intro q v hv
  simp only [S.fz,GI] at hv
  cases hq:lk s.env q with
  | none=>rw [hq] at hv;cases hv
  | some y=>rw [hq] at hv;cases hv;exact (hm.env q y hq).fz hc
 ·intro p hp
  have h1:=(hm.held p hp).fz hc
  have h2:Fv.fz k r p.1=p.1:=by
   have hlow:=hH p hp
   exact BZ k r b0 hb p.1 hlow
  rwa [h2] at h1
 ·intro i it hi
  obtain ⟨hne,jt,hj,rfl⟩:=hsub i it hi
  exact ⟨(hm.rows i jt hj).1,(hm.rows i jt hj).2.fz hc rfl⟩
 ·intro i j it jt b hi hj hbi hbj
  obtain ⟨_,it',hi',_⟩:=hsub i it hi
  obtain ⟨_,jt',hj',_⟩:=hsub j jt hj
  exact hm.sep i j it' jt' b hi' hj' hbi hbj
end
attribute [go_sem] fz BD J3 Kt Kr nK S.fz
end Go.Fv
/-
 The set by which states are held against one another.
-/
namespace Go.Fv
theorem AX (p:Nat→Nat) (x:AV):∀ n:Nat,dR p (List.replicate n x)=List.replicate n (ren p x)
 | 0=>rfl
 | n+1=>by simp only [List.replicate_succ,dR];rw [AX p x n]
theorem sQ {N:Nat} {x:AV} (h:below N x=true):∀ n:Nat,aB N (List.replicate n x)=true
 | 0=>rfl
 | n+1=>by simp only [List.replicate_succ,aB,h,Bool.true_and];exact sQ h n
theorem wZ {x:AV} (h:bn x=true):∀ n:Nat,aU (List.replicate n x)=true
 | 0=>rfl
 | n+1=>by simp only [List.replicate_succ,aU,h,Bool.true_and];exact wZ h n
theorem IX {x:AV} (h:bn x=true) (n:Nat) (y:List AV):wU (List.replicate n x) y=[]:=gy _ y (wZ h n)
theorem zG (N n:Nat) (b:Bool):aB N (List.replicate n (AV.bool b))=true:=sQ rfl n
theorem GU (n:Nat) (b:Bool) (y:List AV):wU (List.replicate n (AV.bool b)) y=[]:=IX rfl n y
attribute [go_sem] GV GR wX qA Ho JL Aj gZ zO gG Ed Ec yG mkItem mkV wU pm Item.below AV.own.injEq AV.str.injEq AV.ro.injEq AV.agg.injEq AV.tup.injEq List.cons.injEq Option.some.injEq Item.row.injEq Item.box.injEq au.ints.injEq au.bools.injEq au.strs.injEq au.objs.injEq Nat.succ_ne_self AX zG GU Ai qy kN wW
attribute [go_sem] jM AO Ei
end Go.Fv
/-
 Calls into the callee's code: what it writes into memory that the caller owns is seen by the caller.
-/
namespace Go.Fv
open Go.RowKit
def Ie (P:Program) (res:List ResultVar) (s:S) (K:AV→S→Prop):Exit→S→Prop
 | .normal,s1=>qA P s1 res (fun vs=>K (gZ vs) { s with rows:=s1.rows,next:=s1.next })
 | .ret,s1=>qA P s1 res (fun vs=>K (gZ vs) { s with rows:=s1.rows,next:=s1.next })
 | _,_=>False
section
variable {P:Program} {w0:World} {T0:Bs}
theorem ak.inl {f:Nat} {fn:Func} {c:Code} {args:List AV} {s:S} {K:AV→S→Prop} (hf:P.funcs[f]?=some fn) (hb:fn.body=some c)
  (hnm:(fn.name == "runtime.NumGoroutine")=false) (hn:args.length≤fn.ntmps) (res:List ResultVar) (hres:fn.results=res.toArray)
  (h:gV P w0 T0 s.next c ⟨fn.ntmps,aI 0 args,s.rows,s.next⟩ (Ie P res s K)):@ak P w0 T0 f args s ⟨K⟩:=by
 refine ⟨⟨fn,hf,by rw [hb];rfl,hnm⟩,fun H a w m vals hm hv=>?_⟩
 refine calls_of_wp hf hb ?_
 have hlen:=hv.length
 have hE:∀ p,p∈(s.env.map fun p=>(s.get p.1,a.tmps.getD p.1 undef))++H→Rv (ah T0 w0.heap.size m s w) p.1 p.2:=by
  intro p hp
  rcases List.mem_append.1 hp with hp|hp
  ·obtain ⟨q,_,rfl⟩:=List.mem_map.1 hp
   show Rv _ (s.get q.1) _
   unfold S.get
   cases hl:lk s.env q.1 with
   | none=>exact .dead _
   | some y=>exact hm.env q.1 y hl
  ·exact hm.held p hp
 have hrep:aH w0 T0 ((s.env.map fun p=>(s.get p.1,a.tmps.getD p.1 undef))++H) ⟨fn.ntmps,aI 0 args,s.rows,s.next⟩ { tmps:=vals.toArray++Array.replicate (fn.ntmps - vals.toArray.size) undef,defers:=[] } w m:=
  {size:=by simp;omega,nodef:=rfl,below:=hm.below,
   env:=by
    intro r v hr
    obtain ⟨u,h1,h2⟩:=lV 0 [] rfl hv r v hr
    have e:((vals.toArray++Array.replicate (fn.ntmps - vals.toArray.size) undef).getD r undef)=u:=by
     have h1':vals[r]?=some u:=by simpa using h1
     have hlt:r<vals.length:=(List.getElem?_eq_some_iff.1 h1').1
     rw [Array.getD_eq_getD_getElem?,Array.getElem?_append_left (by simpa using hlt)]
     simp [h1']
    rw [e];exact h2,
   held:=hE,rows:=hm.rows,sep:=hm.sep }
 refine wp_mono (h _ _ w (fun p hp=>(hE p hp).ids) ⟨m,hrep⟩) ?_
 rintro e a1 w1 ⟨s1,hq,m1,hm1⟩
 have fin:qA P s1 res (fun vs=>K (gZ vs) { s with rows:=s1.rows,next:=s1.next })→a1.defers=[]∧∃ v,(results fn a1.tmps).run P w1=.ok v w1∧∃ v',Ending.returned v=.returned v'∧∃ r s',K r s'∧Rep w0 T0 ((r,v')::H) s' a w1:=by
  intro hk
  obtain ⟨l,vs,hk,hr,hvs⟩:=lH hm1 hk
  have hrv:Rv (ah T0 w0.heap.size m1 s1 w1) (gZ l) (Di vs):=by
   cases hvs with
   | nil=>exact .tup _ _ .nil
   | cons x v l us hx ht=>
    cases ht with
    | nil=>exact hx
    | cons x' v' l' us' hx' ht'=>exact .tup _ _ (.cons _ _ _ _ hx (.cons _ _ _ _ hx' ht'))
  refine ⟨hm1.nodef,_,iE hres a1.tmps hr,_,rfl,_,_,hk,m1,?_⟩
  exact
     {size:=hm.size,nodef:=hm.nodef,below:=hm1.below,
      env:=by
       intro r v hv
       have hmem:(s.get r,a.tmps.getD r undef)∈(s.env.map fun p=>(s.get p.1,a.tmps.getD p.1 undef))++H:=
        List.mem_append.2 (.inl (List.mem_map.2 ⟨(r,v),bJ hv,rfl⟩))
       have:=hm1.held _ hmem
       have e:s.get r=v:=by unfold S.get;rw [show lk s.env r=some v from hv]
       rw [e] at this;exact this,
      held:=by
       intro p hp
       cases List.mem_cons.1 hp with
       | inl e=>subst e;exact hrv
       | inr e=>exact hm1.held p (List.mem_append.2 (.inr e)),
      rows:=hm1.rows,sep:=hm1.sep }
 cases e with
 | normal=>exact fin hq
 | ret=>exact fin hq
 | _=>exact hq.elim
end
end Go.Fv
