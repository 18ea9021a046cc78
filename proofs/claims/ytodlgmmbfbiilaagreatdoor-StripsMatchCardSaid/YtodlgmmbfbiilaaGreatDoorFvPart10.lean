/-
  A part of the proof of the claim: walks over the program's functions and the plain laws that these need. No condition of its own.
-/
import Derived.Test.YtodlgmmbfbiilaaGreatDoorFvPart8
import Derived.Test.YtodlgmmbfbiilaaGreatDoorFvPart9
set_option linter.unusedSectionVars false
set_option linter.unusedVariables false
set_option linter.unusedSimpArgs false
set_option linter.unnecessarySimpa false
/-
 Congruences: only the state of a word is reckoned out, not what stands behind it.
-/
namespace Go.Fv
section
variable {P:Program} {w0:World} {T0:Bs} {s s':S} {K:AV→S→Prop}
@[congr] theorem VU {ops:Array Oper} {o:Oper} {k:S→Prop} (h:s=s'):MP P w0 T0 ops o s k=MP P w0 T0 ops o s' k:=by rw [h]
@[congr] theorem Vs {o:Oper} {c c':Bool} {s1 s2:S} {k:S→Prop} (hc:c=c') (h:s=s'):vU P w0 T0 o c s s1 s2 k=vU P w0 T0 o c' s' s1 s2 k:=by rw [hc,h]
@[congr] theorem VG {ops:Array Oper} {l:List Oper} {k:S→Prop} (h:s=s'):D7 P w0 T0 ops l s k=D7 P w0 T0 ops l s' k:=by rw [h]
@[congr] theorem Vd {ops:Array Oper} {l:Ac} {k:S→Prop} (h:s=s'):jY P w0 T0 ops l s k=jY P w0 T0 ops l s' k:=by rw [h]
@[congr] theorem UR {b0:Nat} {c:Code} {Q:Exit→S→Prop} (h:s=s'):jC P w0 T0 b0 c Q s=jC P w0 T0 b0 c Q s':=by rw [h]
@[congr] theorem VF {d:Option Nat} {v v':AV} {k:S→Prop} (hv:v=v') (h:s=s'):iQ d v s k=iQ d v' s' k:=by rw [hv,h]
@[congr] theorem WH {o:Oper} (h:s=s'):rD P w0 T0 o s K=rD P w0 T0 o s' K:=by rw [h]
@[congr] theorem Ti {c:Call} (h:s=s'):nR P w0 T0 c s K=nR P w0 T0 c s' K:=by rw [h]
end
end Go.Fv
/-
 Facts about types, out of one glance each.
-/
namespace Go.Fv
def Vb:Value→Bool
 | .int k n=>PU k n
 | .string s=>s.size == 0
 | .agg cs=>(cs.toList.all fun v=>v.oneCell' && (match v with | .string s=>s.size == 0|_=>true)) && decide (0<cs.size)
 | .tuple _=>false
 | _=>true
theorem Tt {v:Value} (h:Vb v=true):XD v:=by
 cases v<;>first|trivial|cases h;done|skip
 case int k n=>exact Lp h
 case string s=>
  have h':s.size=0:=by simpa [Vb] using h
  show s.size≤maxLen
  rw [h'];exact Nat.zero_le _
 case agg cs=>
  simp only [Vb,Bool.and_eq_true,List.all_eq_true,decide_eq_true_eq] at h
  refine ⟨fun v hv=>⟨(h.1 v hv).1,?_⟩,h.2⟩
  have h2:=(h.1 v hv).2
  cases v<;>try trivial
  rename_i s
  have h':s.size=0:=by simpa using h2
  show s.size≤maxLen
  rw [h'];exact Nat.zero_le _
theorem bM.of {P:Program} {e:TypeId} {z:Value} (h:(P.info? e).map (fun i=>(i.zero,i.size,decide (i.bytes≤1024)))=some (some z,z.cells.size,true)) (hz:Vb z=true):bM P e z:=by
 refine ⟨?_,Tt hz⟩
 cases hi:P.info? e with
 | none=>rw [hi] at h;cases h
 | some i=>
  rw [hi] at h
  simp only [Option.map_some,Option.some.injEq,Prod.mk.injEq,decide_eq_true_eq] at h
  exact ⟨i,rfl,h.1,h.2.1,h.2.2⟩
theorem bM.zero {P:Program} {e:TypeId} {z:Value} (h:bM P e z):zeroOf P e=some z:=by
 obtain ⟨i,h1,h2,_⟩:=h.ex
 simp [zeroOf,h1,h2]
theorem bM.cellsOf {P:Program} {e:TypeId} {z:Value} (h:bM P e z):P.cellsOf e=z.cells.size:=by
 obtain ⟨i,h1,h2,h3,_⟩:=h.ex
 simp [Program.cellsOf,h1,h3]
end Go.Fv
/-
 The names of one state among those of another, found by looking; steps of a walk.
-/
namespace Go.Fv
mutual
def mkV:AV→AV→List (Nat × Nat)
 | .own i,y=>match y with | .own k=>[(i,k)]|_=>[]
 | .ptr i _,y=>match y with | .ptr k _=>[(i,k)]|_=>[]
 | .elt i _ _ _,y=>match y with | .elt k _ _ _=>[(i,k)]|_=>[]
 | .pre i _,y=>match y with | .pre k _=>[(i,k)]|_=>[]
 | .agg l,y=>match y with | .agg l'=>EN l l'|_=>[]
 | .tup l,y=>match y with | .tup l'=>EN l l'|_=>[]
 | .fn _ l,y=>match y with | .fn _ l'=>EN l l'|_=>[]
 | .dead,_=>[]
 | .nilS,_=>[]
 | .bool _,_=>[]
 | .int _ _,_=>[]
 | .str _,_=>[]
 | .ro _,_=>[]
 | .cell _,_=>[]
 | .raw _,_=>[]
 | .opt _ x,y=>match y with | .opt _ y'=>mkV x y'|_=>[]
 | .mp _ _,_=>[]
def EN:List AV→List AV→List (Nat × Nat)
 | [],_=>[]
 | x::l,ys=>match ys with|y::l'=>mkV x y++EN l l'|[]=>[]
end
def OC (s:S):List (Nat × AV)→List (Nat × Nat)
 | []=>[]
 |(r,v)::l=>mkV v (s.get r)++OC s l
def Ur:List (List AV)→List (List AV)→List (Nat × Nat)
 | [],_=>[]
 | x::l,ys=>match ys with|y::l'=>EN x y++Ur l l'|[]=>[]
def Ym:aN→aN→List (Nat × Nat)
 | .objs _ l,.objs _ l'=>Ur l l'
 | _,_=>[]
def mkItem:Item→Option Item→List (Nat × Nat)
 | .box _ cs,some (.box _ cs')=>EN cs cs'
 | .row _ r,some (.row _ r')=>Ym r r'
 | .map ks vs,some (.map ks' vs')=>EN ks ks'++EN vs vs'
 | .iter i _ _,some (.iter k _ _)=>[(i,k)]
 | _,_=>[]
def Hy (l:List (Nat × Nat)) (rows:List (Nat × Item)):List (Nat × Item)→List (Nat × Nat)
 | []=>[]
 |(i,it)::rest=>mkItem it (lk rows (pm l i))++Hy l rows rest
def Fb (s s':S):List (Nat × Nat):=OC s s'.env++Hy (OC s s'.env) s.rows s'.rows
theorem Va (k:IntKind) (n:Int):(Value.int k n).cells.size=1:=rfl
theorem TR (b:Bool):(Value.bool b).cells.size=1:=rfl
theorem UG (b:ByteArray):(Value.string b).cells.size=1:=rfl
theorem PX (a:Option Addr) (n m:Nat):(Value.slice a n m).cells.size=1:=rfl
theorem Vp (a:Option Addr):(Value.pointer a).cells.size=1:=rfl
theorem UA (a:Array Value):(Value.agg a).cells.size=a.size:=rfl
theorem Ite.bool {b:Bool} {x y:Prop} (h1:b=true→x) (h2:b=false→y):@Ite b ⟨x⟩ ⟨y⟩:=⟨h1,h2⟩
def gZ (b:Nat):List (Nat × Nat)→List (Nat × Nat)
 | []=>[]
 | x::l=>if b≤x.1 then x::gZ b l else gZ b l
theorem wV (b:Nat):∀ (l:List (Nat × Nat)) x,x∈gZ b l→b≤x.1
 | y::l,x,h=>by
  simp only [gZ] at h
  split at h
  ·rename_i hb
   cases List.mem_cons.1 h with
   | inl e=>subst e;exact hb
   | inr e=>exact wV b l x e
  ·exact wV b l x h
section
variable {w0:World} {T0:Bs} {b0:Nat}
theorem aO.ak {s s':S} (hn:s'.n=s.n) (he:Aa (pm (Fb s s')) s s'.next s'.env) (hr:jy (pm (Fb s s')) s.rows s'.next s'.rows):aO w0 T0 0 s s':=
 aO.of (Fb s s') hn (Nat.zero_le _) (fun _ _=>Nat.zero_le _) he hr
theorem aO.Dq (k:Nat) {s s':S} (hn:s'.n=s.n) (hk:k≤s'.next) (he:Aa (pm (gZ k (Fb s s'))) s s'.next s'.env) (hr:jy (pm (gZ k (Fb s s'))) s.rows s'.next s'.rows):aO w0 T0 k s s':=
 aO.of _ hn hk (wV k _) he hr
def V5 (s:S):ResultVar→AV
 | .tmp t=>s.ev (.tmp t)
 | .cell t _=>match s.get t with
  | .ptr i off=>match lk s.rows i with
   | some (.box _ cs)=>.agg (cs.drop off)
   | _=>.dead
  | _=>.dead
def Ld (s:S) (res:List ResultVar) (out:AV) (rows:List (Nat × Item)):List (Nat × Nat):=
 mkV out (l9 (res.map (V5 s)))++Hy (mkV out (l9 (res.map (V5 s)))) s.rows rows
theorem aV.auto {P:Program} (N:Nat) {res:List ResultVar} {out:AV} {rows:List (Nat × Item)} {s:S} (h:zF P s res (fun vs=>l9 vs=ren (pm (Ld s res out rows)) out)) (hb:Fv.below N out=true) (hr:jy (pm (Ld s res out rows)) s.rows N rows):aV P w0 T0 res out rows s:=
 aV.of _ N h hb hr
end
end Go.Fv
/-
 The set by which a walk is reckoned.
-/
namespace Go.Fv
theorem Tc (p q:Prop) [Decidable p] [Decidable q]:(decide p && decide q)=decide (p∧q):=by simp
theorem U7 (p q:Prop) [Decidable p] [Decidable q]:(decide p || decide q)=decide (p∨q):=by simp
theorem TB (p:Prop) [Decidable p]:(!decide p)=decide (¬p):=by simp
attribute [go_sem] not_true_eq_false or_true true_or false_or or_false and_false false_and or_self and_self Array.toList_replicate List.map_replicate List.mem_replicate not_false_eq_true ne_eq Value.oneCell' maxLen_eq Nat.zero_le Tc U7 TB AV.int.injEq AV.bool.injEq jC thenS Dx O1 D7 MP rD vJ D8 kQ jE FK uj Eb Dy jd lF tX yX iQ nR LJ lH vI Du CP IE Nu TG XJ BF kd Ja eq1 LY vT wS x9 KL Bq sW mg zH xH Iy Hl ny ji intsOf qH jY S.ev S.get S.set S.add S.swap S.after wI lk put del evs aC fJ GI PU ren je lJ tq jZ nV fO Hw iR Ib bnd J6 lT qU mD spl appRow ug jk S.upd idxFrom vS placeOf bytesOf eF dI below aY aN.len aN.sz Item.ren Va TR UG PX Vp UA List.length_append List.length_set List.length_replicate List.length_nil List.mem_cons List.not_mem_nil or_false forall_eq forall_eq_or_imp implies_true false_implies eq_self List.set_cons_zero List.set_cons_succ List.drop_zero List.drop_succ_cons List.take_succ_cons List.take_zero List.size_toArray List.length_cons List.map_cons List.map_nil List.replicate_zero List.nil_append List.cons_append List.append_nil List.reverse_nil List.zipIdx_cons List.zipIdx_nil Array.toList_empty List.getElem?_cons_zero List.getElem?_cons_succ List.getElem?_toArray Option.bind_some Option.map_some Option.getD_some Nat.one_mul decide_true decide_false Bool.and_self Bool.true_and Bool.false_and Bool.and_true Bool.and_false Bool.not_true Bool.not_false cond_true cond_false SC Qb and_true true_and and_self Rt Bool.not_eq_true' Nat.zero_add Nat.add_zero Int.toNat_natCast Int.ofNat_eq_natCast WZ Xf l7 gW peel NH Xh Xo gHead JG Uy yD wB vU Vo XB XA Bool.and_eq_true decide_eq_true_eq Bool.cond_true_left Bool.cond_false_right imp_self Bool.not_eq_true decide_eq_false_iff_not Decidable.not_not Bool.not_not lq sO Int.natCast_zero
end Go.Fv
/-
 Calls whose results are only read by the caller: they stand as data, and the caller's state stays as it is.
-/
namespace Go.Fv
open Go.RowKit
def dN (rows:List (Nat × Item)) (x y:AV):Prop:=match x with
 | .tup l=>∃ l',aP rows l l'∧y=.tup l'
 | x=>bH rows x y
section
variable {P:Program} {w0:World} {T0:Bs}
theorem sJ.ro {T:Nat→Prop} {B:Nat} {w:World} {out out':AV} {rows:List (Nat × Item)} {v:Value} (h:sJ T B w out rows v) (ho:dN rows out out'):sJ T B w out' [] v:=by
 obtain ⟨m,N,hr,hrows,hsep⟩:=h
 have hblk:∀ i it,lk rows i=some it→∀ b,blk (m i)=some b→B≤b:=fun i it hi b hb=>((hrows i it hi).2.blk b hb).1
 have hl:EP w (⟨w,allow (bs T) B m rows,m,N⟩:Ctx) rows (allow (bs T) B (fun _=>undef) []):=
  {hw:=rfl,t:=fun b hb=>⟨hb.1,fun i it hi=>by simp [lk] at hi⟩,
   own:=fun i e r hi=>by
    obtain ⟨n,cells,hc,hn,hq,_⟩:=(hrows i _ hi).2
    exact ⟨fun b hb=>⟨.inl (hblk i _ hi b hb),fun i it hi=>by simp [lk] at hi⟩,n,cells,hc,hn,hq⟩,
   box:=fun i e cs hi=>by
    obtain ⟨g,vs,hv,hg,hl,hh⟩:=(hrows i _ hi).2
    exact ⟨g,vs,hv,⟨.inl hg,fun i it hi=>by simp [lk] at hi⟩,hl,hh⟩,
   map:=fun i ks vs hi=>by
    obtain ⟨g,es,clock,hv,hg,h1,h2,h3,h4,hh⟩:=(hrows i _ hi).2
    exact ⟨g,es,clock,hv,⟨.inl hg,fun i it hi=>by simp [lk] at hi⟩,h1,h2,h3,h4,hh⟩ }
 refine ⟨fun _=>undef,0,?_,fun i it hi=>by simp [lk] at hi,fun i j it jt b hi=>by simp [lk] at hi⟩
 unfold dN at ho
 split at ho
 ·obtain ⟨l',ha,rfl⟩:=ho
  cases hr with
  | tup _ vs hv=>exact .tup _ _ (pq hl _ ha hv)
 ·exact yO hl 6 _ ho hr
theorem sJ.fM {T:Nat→Prop} {B:Nat} {w:World} {out:AV} {v:Value} (h:sJ T B w out [] v):sJ T B w out [] v:=h
theorem ah.ro [hG:uq P w0 T0] {f:Nat} {args args':List AV} {out:AV} (out':AV) {rows:List (Nat × Item)} {s:S} {K:AV→S→Prop} (h:dh P f args' out rows) (ha:aP s.rows args args') (ho:dN rows out out') (hn:eF out'=true)
  (hk:K out' s):@ah P w0 T0 f args s ⟨K⟩:=by
 have h':dh P f args' out' []:=⟨h.1,fun w T vals hgl hv=>(h.2 w T vals hgl hv).mono fun e w' ⟨v,he,hb,hq⟩=>⟨v,he,hb,hq.ro ho⟩⟩
 refine ah.fr h' ha 0 (nM 0 _ hn) trivial ?_
 rw [xP _ _ hn]
 exact hk
theorem aA.ro {f:Nat} {args:List AV} {out out':AV} {rows:List (Nat × Item)} (h:aA P f args out rows) (ho:dN rows out out'):aA P f args out' []:=
 ⟨h.1,fun w T vals hgl hv=>(h.2 w T vals hgl hv).mono fun e w' ⟨v,he,hb,hq⟩=>⟨v,he,hb,hq.ro ho⟩⟩
theorem ah.QX [hG:uq P w0 T0] {f:Nat} {args args':List AV} {out:AV} (out':AV) {rows:List (Nat × Item)} {s:S} {K:AV→S→Prop} (h:aA P f args' out rows) (ha:aP [] args args') (ho:dN rows out out') (hn:eF out'=true)
  (hk:K out' s):@ah P w0 T0 f args s ⟨K⟩:=by
 refine ah.sh s.rows (h.ro ho) [] ha (fun _ _ h=>h) (fun i it hi=>by simp [lk] at hi) 0 (nM 0 _ hn) trivial ?_
 rw [xP _ _ hn]
 exact hk
theorem ah.shr [hG:uq P w0 T0] {f:Nat} {args args':List AV} {out:AV} {rows:List (Nat × Item)} {s:S} {K:AV→S→Prop} (h:aA P f args' out rows) (ha:aP [] args args') (N:Nat) (hN:Fv.below N out=true) (hNr:iL N rows)
  (hk:K (ren (fun j=>s.next+j) out) (s.after s.rows N rows)):@ah P w0 T0 f args s ⟨K⟩:=
 ah.sh s.rows h [] ha (fun _ _ h=>h) (fun i it hi=>by simp [lk] at hi) N hN hNr hk
end
end Go.Fv
/-
 A nil slice in a box, as an owned row without elements.
-/
namespace Go.Fv
open Go.RowKit
section
variable {P:Program} {w0:World} {T0:Bs} {b0:Nat}
theorem bU.S9 {c:Ctx} {x:AV} (hx:Rv c x (.slice none 0 0)):∀ {cs:List AV} {vs:List Value} {j:Nat},bU c cs vs→cs[j]?=some .nilS→bU c (cs.set j x) vs
 | _,_,j,.nil,h=>by simp at h
 | _,_,0,.cons y v l vs hy h1 ht,h=>by
  simp at h;subst h
  cases hy
  exact .cons _ _ _ _ hx h1 ht
 | _,_,j+1,.cons y v l vs hy h1 ht,h=>by
  simp at h
  exact .cons _ _ _ _ hy h1 (ht.S9 hx h)
theorem aO.iM {s:S} (i:Nat) {t:TypeId} {cs:List AV} (j:Nat) (e:TypeId) {z:Value} (hz:bM P e z) (hi:lk s.rows i=some (.box t cs)) (hj:cs[j]?=some .nilS) :
  aO w0 T0 b0 s { s with rows:=put ((s.next,.row e (lT z 0))::s.rows) i (.box t (cs.set j (.own s.next))),next:=s.next+1 }:=by
 rintro H a w hH ⟨m,hm⟩
 have hlt:=(hm.rows i _ hi).1
 have h1:=G6 hm hz
 have hi':lk (s.add (.row e (lT z 0))).rows i=some (.box t cs):=by
  simp only [S.add,lk]
  rw [if_neg (by omega)];exact hi
 have h0:=(h1.rows i _ hi').2
 have h2:=h1.upd h1.below hi' (fun _ _ _=>rfl) (.box t (cs.set j (.own s.next))) (fun c hle hw hmm hN=>?_)
 ·exact ⟨_,h2.oU⟩
 ·obtain ⟨g,vs,hv,hg,hl,hh⟩:=h0
  refine ⟨g,vs,hv,hg,?_,by rw [hw];exact hh⟩
  exact (hl.mono hle).S9 ((h1.held _ (.head _)).mono hle) hj
end
end Go.Fv
/-
 What a function value has captured, where nothing of it is the caller's own memory.
-/
namespace Go.Fv
open Go.RowKit
def pG:Nat→AV→Bool
 | 0,_=>false
 | n+1,x=>match x with
  | .agg cs=>cs.all (pG n)
  | .fn _ cs=>cs.all (pG n)
  | .ro _=>true
  | .bool _=>true
  | .int _ _=>true
  | .str _=>true
  | .raw _=>true
  | .cell _=>true
  | .nilS=>true
  | .mp _ _=>true
  | _=>false
theorem uh:∀ {l:List AV},(∀ x,x∈l→eF x=true)→dI l=true
 | [],_=>rfl
 | x::l,h=>by simp only [dI,Bool.and_eq_true];exact ⟨h x (.head _),uh fun y hy=>h y (.tail _ hy)⟩
theorem wu:∀ (n:Nat) (x:AV),pG n x=true→eF x=true
 | 0,x,h=>by simp [pG] at h
 | n+1,x,h=>by
  cases x<;>simp only [pG] at h<;>first|rfl|(cases h;done)|skip
  ·simp only [eF];exact uh fun y hy=>wu n y (List.all_eq_true.1 h y hy)
  ·simp only [eF];exact uh fun y hy=>wu n y (List.all_eq_true.1 h y hy)
theorem vK {R:AV→AV→Prop}:∀ {l:List AV},(∀ x,x∈l→R x x)→aU R l l
 | [],_=>rfl
 | x::l,h=>⟨x,l,h x (.head _),vK fun y hy=>h y (.tail _ hy),rfl⟩
theorem Je (rows:List (Nat × Item)):∀ (n:Nat) (x:AV),pG n x=true→aF rows n x x
 | 0,x,h=>by simp [pG] at h
 | n+1,x,h=>by
  cases x<;>simp only [pG] at h<;>first|(cases h;done)|skip
  all_goals first|(simp only [aF];done)|(simp only [aF];exact .inl trivial)|(simp only [aF];exact ⟨_,vK fun y hy=>Je rows n y (List.all_eq_true.1 h y hy),rfl⟩)|skip
class CW (caps:List AV):Prop where
 ok:caps.all (pG 5)=true
section
variable {caps:List AV} [h:CW caps]
theorem yU:dI caps=true:=uh fun x hx=>wu 5 x (List.all_eq_true.1 h.ok x hx)
theorem Dt:∀ (n:Nat) (x:AV),pG n x=true→pG (n+1) x=true
 | 0,x,h=>by simp [pG] at h
 | n+1,x,h=>by
  cases x<;>simp only [pG] at h ⊢<;>first|(cases h;done)|rfl|skip
  ·exact List.all_eq_true.2 fun y hy=>Dt n y (List.all_eq_true.1 h y hy)
  ·exact List.all_eq_true.2 fun y hy=>Dt n y (List.all_eq_true.1 h y hy)
theorem QO (p:Nat→Nat):je p caps=caps:=nG p caps yU
theorem Jp (n:Nat):aY n caps=true:=jO n caps yU
theorem LQ (rows:List (Nat × Item)):aU (aF rows 6) caps caps:=vK fun x hx=>Je rows 6 x (Dt 5 x (List.all_eq_true.1 h.ok x hx))
end
mutual
theorem Le:∀ (x y:AV),eF x=true→mkV x y=[]
 | .own _,_,h=>by simp [eF] at h
 | .ptr _ _,_,h=>by simp [eF] at h
 | .elt _ _ _ _,_,h=>by simp [eF] at h
 | .pre _ _,_,h=>by simp [eF] at h
 | .agg l,y,h=>by simp only [mkV];split<;>first|exact nJ l _ (by simpa [eF] using h)|rfl
 | .tup l,y,h=>by simp only [mkV];split<;>first|exact nJ l _ (by simpa [eF] using h)|rfl
 | .fn _ l,y,h=>by simp only [mkV];split<;>first|exact nJ l _ (by simpa [eF] using h)|rfl
 | .dead,_,_=>rfl
 | .nilS,_,_=>rfl
 | .bool _,_,_=>rfl
 | .int _ _,_,_=>rfl
 | .str _,_,_=>rfl
 | .ro _,_,_=>rfl
 | .cell _,_,_=>rfl
 | .raw _,_,_=>rfl
 | .mp _ _,_,_=>rfl
 | .opt _ x,y,h=>by simp only [mkV];split<;>first|exact Le x _ (by simpa [eF] using h)|rfl
theorem nJ:∀ (x y:List AV),dI x=true→EN x y=[]
 | [],_,_=>rfl
 | x::l,y,h=>by
  simp only [dI,Bool.and_eq_true] at h
  simp only [EN];split
  ·rw [Le x _ h.1,nJ l _ h.2];rfl
  ·rfl
end
theorem F7:∀ (x y:List (List AV)),x.all dI=true→Ur x y=[]
 | [],_,_=>rfl
 | x::l,y,h=>by
  simp only [List.all_cons,Bool.and_eq_true] at h
  simp only [Ur];split
  ·rw [nJ x _ h.1,F7 l _ h.2];rfl
  ·rfl
theorem Q7 (r r':aN) [h:oI r]:Ym r r'=[]:=by
 have:=h.ok
 cases r<;>cases r'<;>first|rfl|exact F7 _ _ this
theorem Sv {caps:List AV} [h:CW caps] (y:List AV):EN caps y=[]:=nJ caps y yU
end Go.Fv
/-
 The walk of drawn regions, in the set.
-/
namespace Go.Fv
attribute [go_sem] um SL tC OD pR o9 pU PE kP uQ Hg Bc List.getLast?_concat mapOf Vx FT XP Bool.false_eq_true true_implies VT lZ SB TD QD Wj Vj Vf RY KP Aj pF oh KN VY jc VE gG kG gd SE FU redo oW o8 gW wM Ea Option.toList_some Option.toList_none QO Jp
end Go.Fv
/-
 Maps whose keys and values are told by lists of plain data.
-/
namespace Go.Fv
end Go.Fv
/-
 Small facts about lists.
-/
namespace Go.Fv
theorem getD_lt {α:Type} {l:List α} {i:Nat} {d:α} (h:i<l.length):l.getD i d=l[i]:=by simp [List.getD,h]
theorem zN {α:Type} [DecidableEq α] {a b:List α} (d:α) (h:a.length=b.length):∀ {i:Nat},i≤a.length→((∀ j,j<i→a.getD j d=b.getD j d)↔a.take i=b.take i)
 | 0,_=>by simp
 | i+1,hi=>by
  have ih:=zN d h (i:=i) (by omega)
  rw [List.take_succ_eq_append_getElem (by omega),List.take_succ_eq_append_getElem (by omega)]
  constructor
  ·intro hh
   have h1:=ih.1 fun j hj=>hh j (by omega)
   have h2:=hh i (by omega)
   rw [getD_lt (by omega),getD_lt (by omega)] at h2
   rw [h1,h2]
  ·intro hh j hj
   have:=List.append_inj hh (by simp;omega)
   by_cases e:j=i
   ·subst e
    rw [getD_lt (by omega),getD_lt (by omega)]
    simpa using this.2
   ·exact ih.2 this.1 j (by omega)
theorem CJ {α:Type} [DecidableEq α] {a b:List α} (d:α) (h:a.length=b.length) (hh:∀ j,j<a.length→a.getD j d=b.getD j d):a=b:=by
 have:=(zN d h (Nat.le_refl _)).1 hh
 rwa [List.take_length,h,List.take_length] at this
theorem Ht {l:List Int} {A B:Int} (h:∀ x,x∈l→A≤x∧x≤B) (hA:A≤0) (hB:0≤B) (j:Nat):A≤l.getD j 0∧l.getD j 0≤B:=by
 rw [List.getD_eq_getElem?_getD]
 cases hq:l[j]? with
 | none=>exact ⟨hA,hB⟩
 | some y=>exact h y (List.mem_of_getElem? hq)
theorem BJ (p:Nat→Nat):∀ l:List Bool,je p (l.map .bool)=l.map .bool
 | []=>rfl
 | b::l=>by simp only [List.map_cons,je,ren];rw [BJ p l]
theorem F5 (p:Nat→Nat) (k:IntKind):∀ l:List Int,je p (l.map (.int k))=l.map (.int k)
 | []=>rfl
 | b::l=>by simp only [List.map_cons,je,ren];rw [F5 p k l]
theorem ql (n:Nat):∀ l:List Bool,aY n (l.map .bool)=true
 | []=>rfl
 | b::l=>by simp only [List.map_cons,aY,below,Bool.true_and];exact ql n l
theorem zV (n:Nat) (k:IntKind):∀ l:List Int,aY n (l.map (.int k))=true
 | []=>rfl
 | b::l=>by simp only [List.map_cons,aY,below,Bool.true_and];exact zV n k l
theorem FC:∀ (l:List Bool) (y:List AV),EN (l.map .bool) y=[]
 | [],_=>by simp [EN]
 | b::l,y=>by
  simp only [List.map_cons,EN]
  split
  ·simp only [mkV,List.nil_append];exact FC l _
  ·rfl
theorem JL (k:IntKind):∀ (l:List Int) (y:List AV),EN (l.map (.int k)) y=[]
 | [],_=>by simp [EN]
 | b::l,y=>by
  simp only [List.map_cons,EN]
  split
  ·simp only [mkV,List.nil_append];exact JL k l _
  ·rfl
theorem rU (rows:List (Nat × Item)) (n:Nat):∀ l:List Bool,aU (aF rows (n+1)) (l.map .bool) (l.map .bool)
 | []=>rfl
 | b::l=>⟨.bool b,l.map .bool,by simp [aF],rU rows n l,rfl⟩
theorem PW (l:List Bool) (i:Nat) (b:Bool):(l.map AV.bool).set i (.bool b)=(l.set i b).map .bool:=by rw [List.map_set]
theorem TY (l:List Int) (k:IntKind) (i:Nat) (b:Int):(l.map (AV.int k)).set i (.int k b)=(l.set i b).map (.int k):=by rw [List.map_set]
theorem zM:∀ l:List Bool,iP (l.map .bool)=true
 | []=>rfl
 | b::l=>by simp only [List.map_cons,iP,lQ,Bool.true_and];exact zM l
theorem TF:∀ (cs bs:List AV) (off:Nat),off+cs.length≤bs.length→spl bs off cs=bs.take off++cs++bs.drop (off+cs.length)
 | [],bs,off,_=>by simp [spl]
 | c::cs,bs,off,h=>by
  simp only [List.length_cons] at h
  rw [spl,TF cs _ _ (by simp;omega),List.take_set,List.drop_set,if_pos (by omega)]
  rw [List.take_succ_eq_append_getElem (by omega),List.set_append_right _ _ (by simp;omega)]
  have e:off - (List.take off bs).length=0:=by simp;omega
  rw [e]
  simp only [List.set_cons_zero,List.length_cons,List.append_assoc,List.cons_append,List.nil_append]
  have e2:off+1+cs.length=off+(cs.length+1):=by omega
  rw [e2]
theorem O8 {bs cs:List AV} (h:cs.length=bs.length):spl bs 0 cs=cs:=by
 rw [TF _ _ _ (by omega)];simp [h]
attribute [simp] aJ Bo jF Q7
attribute [go_sem] Am aJ Bo jF BJ F5 ql zV List.length_map Nat.mul_one PW TY
theorem up_add (a b:Nat):(a:Int)+(b:Int)=((a+b:Nat):Int):=rfl
theorem up_mul (a b:Nat):(a:Int)*(b:Int)=((a*b:Nat):Int):=(Int.natCast_mul a b).symm
theorem up_tmod (a b:Nat):(a:Int).tmod (b:Int)=((a%b:Nat):Int):=(Int.ofNat_tmod a b).symm
end Go.Fv
/-
 Families of rows: as many owned rows as a list tells, with names one behind the other.
-/
namespace Go.Fv
section
variable {w0:World} {T0:Bs} {b0:Nat}
theorem aO.YD (p:Nat→Nat) {s s':S} (hn:s'.n=s.n) (hb:b0≤s'.next) (hlow:∀ i,i<b0→p i=i) (he:Aa p s s'.next s'.env)
  (hr:∀ i it,lk s'.rows i=some it→i<s'.next∧lk s.rows (p i)=some (it.ren p)∧it.below s'.next=true)
  (hinj:∀ i j it jt,lk s'.rows i=some it→lk s'.rows j=some jt→p i=p j→i=j):aO w0 T0 b0 s s':=by
 rintro H a w hH ⟨m,hm⟩
 have hren:lV p (aB T0 w0.heap.size m s w) (aB T0 w0.heap.size (fun i=>m (p i)) s' w):=
  {m:=fun _ _=>rfl,
   t:=by
    intro b ⟨h1,h2⟩ _
    refine ⟨⟨h1,fun i it hi e=>?_⟩,rfl⟩
    obtain ⟨_,h3,_⟩:=hr i it hi
    exact h2 _ _ h3 e }
 refine ⟨fun i=>m (p i),{ size:=by rw [hn];exact hm.size,nodef:=hm.nodef,below:=hm.below,env:=?_,held:=?_,rows:=?_,sep:=?_ }⟩
 ·intro r v hv
  obtain ⟨h1,h2⟩:=zi he r v (eU hv)
  refine Rv.ren hren v h2 ?_
  have:Rv (aB T0 w0.heap.size m s w) (s.get r) (a.tmps.getD r undef):=by
   simp only [S.get]
   cases hq:lk s.env r with
   | none=>exact .dead _
   | some y=>exact hm.env r y hq
  rw [←h1];exact this
 ·intro q hq
  have h1:=hH q hq
  refine Rv.ren hren q.1 (below_le hb _ h1) ?_
  rw [kV hlow _ h1];exact hm.held q hq
 ·intro i it hi
  obtain ⟨h1,h2,h3⟩:=hr i it hi
  exact ⟨h1,bf.ren hren rfl h3 (hm.rows _ _ h2).2⟩
 ·intro i j it jt b hi hj hbi hbj
  obtain ⟨_,h2,_⟩:=hr i it hi
  obtain ⟨_,h2',_⟩:=hr j jt hj
  exact hinj i j it jt hi hj (hm.sep _ _ _ _ b h2 h2' hbi hbj)
end
/-! ### Renamings by hand -/
def p1 (a K x:Nat):Nat:=if x=a then K else x
def p2 (a K a' K' x:Nat):Nat:=if x=a then K else if x=a' then K' else x
end Go.Fv
/-
 An owned row becomes data, wherever the state speaks of it.
-/
namespace Go.Fv
open Go.RowKit
mutual
def fz (k:Nat) (r:aN):AV→AV
 | .own i=>if i=k then .ro r else .own i
 | .ptr i o=>.ptr i o
 | .elt i a b c=>.elt i a b c
 | .pre i n=>.pre i n
 | .agg cs=>.agg (LM k r cs)
 | .tup cs=>.tup (LM k r cs)
 | .fn f cs=>.fn f (LM k r cs)
 | .cell cs=>.cell cs
 | .dead=>.dead
 | .nilS=>.nilS
 | .bool b=>.bool b
 | .int q n=>.int q n
 | .str s=>.str s
 | .ro r=>.ro r
 | .raw v=>.raw v
 | .opt b v=>.opt b (fz k r v)
 | .mp ks vs=>.mp ks vs
def LM (k:Nat) (r:aN):List AV→List AV
 | []=>[]
 | x::l=>fz k r x::LM k r l
end
def Xa (k:Nat) (q:aN):aN→aN
 | .objs sz l=>.objs sz (l.map (LM k q))
 | .bools l=>.bools l
 | .ints k l=>.ints k l
 | .strs l=>.strs l
def Xk (k:Nat) (q:aN):Item→Item
 | .row e r=>.row e (Xa k q r)
 | .box e cs=>.box e (LM k q cs)
 | .map ks vs=>.map (LM k q ks) (LM k q vs)
 | .iter mp since seen=>.iter mp since seen
 | .siter t pos=>.siter t pos
def Xw (k:Nat) (q:aN):List (Nat × AV)→List (Nat × AV)
 | []=>[]
 |(i,v)::l=>(i,fz k q v)::Xw k q l
def vZ (k:Nat) (q:aN):List (Nat × Item)→List (Nat × Item)
 | []=>[]
 |(i,it)::l=>if i=k then vZ k q l else (i,Xk k q it)::vZ k q l
def S.fz (s:S) (k:Nat) (r:aN):S:={ s with env:=Xw k r s.env,rows:=vZ k r s.rows }
theorem TW (k:Nat) (q:aN):∀ (l:List (Nat × AV)) (i:Nat),lk (Xw k q l) i=(lk l i).map (fz k q)
 | [],i=>rfl
 |(j,v)::l,i=>by
  simp only [Xw,lk]
  split
  ·rfl
  ·exact TW k q l i
theorem yV (k:Nat) (q:aN):∀ (l:List (Nat × Item)) (i:Nat),lk (vZ k q l) i=if i=k then none else (lk l i).map (Xk k q)
 | [],i=>by simp [vZ,lk]
 |(j,v)::l,i=>by
  simp only [vZ]
  split
  ·rename_i e;subst e
   rw [yV]
   by_cases h:i=j
   ·simp [h]
   ·simp only [if_neg h,lk];rw [if_neg (fun e=>h e.symm)]
  ·rename_i e
   simp only [lk]
   split
   ·rename_i e2;subst e2;rw [if_neg e];rfl
   ·exact yV k q l i
mutual
theorem DJ {k:Nat} {r:aN} (n:Nat):∀ x:AV,below n x=true→below n (fz k r x)=true
 | .own i,h=>by
  simp only [fz];split
  ·rfl
  ·exact h
 | .ptr i o,h=>h
 | .elt i a b c,h=>h
 | .pre i n,h=>h
 | .agg cs,h=>by simp only [fz,below] at *;exact uz n cs h
 | .tup cs,h=>by simp only [fz,below] at *;exact uz n cs h
 | .fn f cs,h=>by simp only [fz,below] at *;exact uz n cs h
 | .cell cs,_=>rfl
 | .dead,_=>rfl
 | .nilS,_=>rfl
 | .bool _,_=>rfl
 | .int _ _,_=>rfl
 | .str _,_=>rfl
 | .ro _,_=>rfl
 | .raw _,_=>rfl
 | .opt _ v,h=>by simp only [fz,below] at *;exact DJ n v h
 | .mp _ _,_=>rfl
theorem uz {k:Nat} {r:aN} (n:Nat):∀ x:List AV,aY n x=true→aY n (LM k r x)=true
 | [],_=>rfl
 | x::l,h=>by
  simp only [aY,Bool.and_eq_true] at h
  simp [LM,aY,DJ n x h.1,uz n l h.2]
end
mutual
theorem Na (k:Nat) (r:aN) (b0:Nat) (hb:b0≤k):∀ x:AV,below b0 x=true→fz k r x=x
 | .own i,h=>by
  simp only [below,decide_eq_true_eq] at h
  simp only [fz];rw [if_neg (by omega)]
 | .ptr i o,h=>rfl
 | .elt i a b c,h=>rfl
 | .pre i n,h=>rfl
 | .agg cs,h=>by simp only [fz];rw [AU k r b0 hb cs (by simpa [below] using h)]
 | .tup cs,h=>by simp only [fz];rw [AU k r b0 hb cs (by simpa [below] using h)]
 | .fn f cs,h=>by simp only [fz];rw [AU k r b0 hb cs (by simpa [below] using h)]
 | .cell cs,_=>rfl
 | .dead,_=>rfl
 | .nilS,_=>rfl
 | .bool _,_=>rfl
 | .int _ _,_=>rfl
 | .str _,_=>rfl
 | .ro _,_=>rfl
 | .raw _,_=>rfl
 | .mp _ _,_=>rfl
 | .opt b v,h=>by simp only [fz];rw [Na k r b0 hb v (by simpa [below] using h)]
theorem AU (k:Nat) (r:aN) (b0:Nat) (hb:b0≤k):∀ x:List AV,aY b0 x=true→LM k r x=x
 | [],_=>rfl
 | x::l,h=>by
  simp only [aY,Bool.and_eq_true] at h
  simp only [LM];rw [Na k r b0 hb x h.1,AU k r b0 hb l h.2]
end
structure DY (k:Nat) (r:aN) (c c':Ctx):Prop where
 n:c'.N=c.N
 m:c'.m=c.m
 t:∀ b,c.T b→b<c.w.heap.size→c'.T b∧c'.w.heap[b]?=c.w.heap[b]?
 ro:Rv c' (.ro r) (c.m k)
mutual
theorem Rv.fz {k:Nat} {r:aN} {c c':Ctx} (h:DY k r c c'):∀ {x:AV} {v:Value},Rv c x v→Rv c' (Fv.fz k r x) v
 | _,_,.dead v=>.dead v
 | _,_,.nilS=>.nilS
 | _,_,.bool b=>.bool b
 | _,_,.int q n hk=>.int q n hk
 | _,_,.str s hs=>.str s hs
 | _,_,.roNil r hr hi=>.roNil r (bK.fM h.t hr hi) hi
 | _,_,.ro r a len cap cells hr hl hc hm hs hi=>.ro r a len cap cells (bK.fM h.t hr hi) hl hc hm (hs.mono' h.t) hi
 | _,_,.mp ks vs g es clock hk hv hb hc hT hh hi hi2=>.mp ks vs g es clock (dS.fM h.t hk hi) (dS.fM h.t hv hi2) hb hc (h.t g hT (Array.getElem?_eq_some_iff.1 hh).1).1 (by rw [(h.t g hT (Array.getElem?_eq_some_iff.1 hh).1).2];exact hh) hi hi2
 | _,_,.own i hi h1=>by
  simp only [Fv.fz]
  split
  ·rename_i e;subst e;exact h.ro
  ·rw [←h.m];exact .own i (by rw [h.n];exact hi) (by rw [h.m];exact h1)
 | _,_,.cell cs vs a hl hi hs=>.cell cs vs a (bU.fM h.t hl hi) hi (hs.mono' h.t)
 | _,_,.ptr i off g hi hg=>.ptr i off g (by rw [h.n];exact hi) (by rw [h.m];exact hg)
 | _,_,.elt i a b d g hi hg=>.elt i a b d g (by rw [h.n];exact hi) (by rw [h.m];exact hg)
 | _,_,.pre i n l cap a hi hv hn=>.pre i n l cap a (by rw [h.n];exact hi) (by rw [h.m];exact hv) hn
 | _,_,.agg cs vs hl=>.agg _ vs (bU.fz h hl)
 | _,_,.tup cs vs hl=>.tup _ vs (dS.fz h hl)
 | _,_,.fn f cs vs hl=>.fn f _ vs (dS.fz h hl)
 | _,_,.raw v=>.raw v
 | _,_,.opt b x v hb hx h2=>.opt b _ v (by rw [h.n];exact DJ _ _ hb) (fun e=>Rv.fz h (hx e)) h2
theorem bU.fz {k:Nat} {r:aN} {c c':Ctx} (h:DY k r c c'):∀ {x:List AV} {v:List Value},bU c x v→bU c' (LM k r x) v
 | _,_,.nil=>.nil
 | _,_,.cons x v l vs hx h1 ht=>.cons _ v _ vs (Rv.fz h hx) h1 (bU.fz h ht)
theorem dS.fz {k:Nat} {r:aN} {c c':Ctx} (h:DY k r c c'):∀ {x:List AV} {v:List Value},dS c x v→dS c' (LM k r x) v
 | _,_,.nil=>.nil
 | _,_,.cons x v l vs hx ht=>.cons _ v _ vs (Rv.fz h hx) (dS.fz h ht)
end
theorem bF.fz {k:Nat} {r:aN} {c c':Ctx} (h:DY k r c c'):∀ {sz:Nat} {x:List (List AV)} {v:List Value},bF c sz x v→bF c' sz (x.map (LM k r)) v
 | _,_,_,.nil sz=>.nil sz
 | _,_,_,.cons sz o vs l cells ho hl ht=>.cons sz _ vs _ cells (ho.fz h) hl (ht.fz h)
theorem bK.fz {k:Nat} {q:aN} {c c':Ctx} (h:DY k q c c') {x:aN} {v:List Value} (hr:bK c x v):bK c' (Xa k q x) v:=by
 cases hr with
 | bools l=>exact .bools l
 | ints k l hk=>exact .ints k l hk
 | strs l hs=>exact .strs l hs
 | objs sz l cells hz ho=>exact .objs sz _ _ hz (ho.fz h)
theorem Vm (k:Nat) (q r:aN):(Xa k q r).len=r.len:=by cases r<;>simp [Xa,aN.len]
theorem WM (k:Nat) (q r:aN):(Xa k q r).sz=r.sz:=by cases r<;>rfl
theorem bf.fz {k:Nat} {q:aN} {c c':Ctx} (h:DY k q c c') (hw:c'.w=c.w) {O:Nat→Prop} {v:Value} {it:Item} (hi:bf c O v it):bf c' O v (Xk k q it):=by
 cases it with
 | row e r=>
  obtain ⟨n,cells,hr,hn,ho,hO⟩:=hi
  exact ⟨n,cells,hr.fz h,by rw [Vm];exact hn,by rw [WM,hw];exact ho,hO⟩
 | box e cs=>obtain ⟨g,vs,rfl,hg,hl,hh⟩:=hi;exact ⟨g,vs,rfl,hg,hl.fz h,by rw [hw];exact hh⟩
 | map ks vs=>obtain ⟨g,es,clock,rfl,hg,h1,h2,h3,h4,hh⟩:=hi;exact ⟨g,es,clock,rfl,hg,h1.fz h,h2.fz h,h3,h4,by rw [hw];exact hh⟩
 | iter mp since seen=>obtain ⟨g,p,sn,last,rfl,hg,h1,h2,h3,h4,hh⟩:=hi;exact ⟨g,p,sn,last,rfl,hg,by rw [h.n];exact h1,by rw [h.m];exact h2,h3,h4,by rw [hw];exact hh⟩
 | siter t pos=>obtain ⟨g,rfl,hg,hh⟩:=hi;exact ⟨g,rfl,hg,by rw [hw];exact hh⟩
section
variable {w0:World} {T0:Bs} {b0:Nat}
theorem aO.fz (k:Nat) {s:S} {e:TypeId} {r:aN} (hk:lk s.rows k=some (.row e r)) (hid:iF r=true) (hb:b0≤k):aO w0 T0 b0 s (s.fz k r):=by
 rintro H a w hH ⟨m,hm⟩
 have hsub:∀ i it,lk (s.fz k r).rows i=some it→i≠k∧∃ jt,lk s.rows i=some jt∧it=Xk k r jt:=by
  intro i it hi
  simp only [S.fz,yV] at hi
  split at hi
  ·cases hi
  ·rename_i hne
   cases hq:lk s.rows i with
   | none=>rw [hq] at hi;cases hi
   | some jt=>rw [hq] at hi;cases hi;exact ⟨hne,jt,rfl,rfl⟩
 have hdel:∀ i it,lk (del s.rows k) i=some it→lk s.rows i=some it:=kX _ _
 have hro:=NK hm hk hdel (by rw [qm,if_pos rfl]) hid
 have hT:∀ b,allow T0 w0.heap.size m (del s.rows k) b→allow T0 w0.heap.size m (s.fz k r).rows b:=by
  rintro b ⟨h1,h2⟩
  refine ⟨h1,fun i it hi e=>?_⟩
  obtain ⟨hne,jt,hj,_⟩:=hsub i it hi
  exact h2 i jt (by rw [qm,if_neg hne];exact hj) e
 have hc:DY k r (aB T0 w0.heap.size m s w) (aB T0 w0.heap.size m (s.fz k r) w):=
  {n:=rfl,m:=rfl,
   t:=by
    intro b ⟨h1,h2⟩ _
    exact ⟨hT b ⟨h1,fun i it hi=>h2 i it (hdel i it hi)⟩,rfl⟩,
   ro:=by
    refine Rv.fM (c:=aB T0 w0.heap.size m { s with rows:=del s.rows k } w) ?_ hro rfl
    intro b hb _
    exact ⟨hT b hb,rfl⟩ }
 refine ⟨m,{ size:=hm.size,nodef:=hm.nodef,below:=hm.below,env:=?_,held:=?_,rows:=?_,sep:=?_ }⟩
 ·intro q v hv
  simp only [S.fz,TW] at hv
  cases hq:lk s.env q with
  | none=>rw [hq] at hv;cases hv
  | some y=>rw [hq] at hv;cases hv;exact (hm.env q y hq).fz hc
 ·intro p hp
  have h1:=(hm.held p hp).fz hc
  have h2:Fv.fz k r p.1=p.1:=by
   have hlow:=hH p hp
   exact Na k r b0 hb p.1 hlow
  rwa [h2] at h1
 ·intro i it hi
  obtain ⟨hne,jt,hj,rfl⟩:=hsub i it hi
  exact ⟨(hm.rows i jt hj).1,(hm.rows i jt hj).2.fz hc rfl⟩
 ·intro i j it jt b hi hj hbi hbj
  obtain ⟨_,it',hi',_⟩:=hsub i it hi
  obtain ⟨_,jt',hj',_⟩:=hsub j jt hj
  exact hm.sep i j it' jt' b hi' hj' hbi hbj
end
attribute [go_sem] fz LM Xa Xk Xw vZ S.fz
end Go.Fv
/-
 The set by which states are held against one another.
-/
namespace Go.Fv
theorem Ko (p:Nat→Nat) (x:AV):∀ n:Nat,je p (List.replicate n x)=List.replicate n (ren p x)
 | 0=>rfl
 | n+1=>by simp only [List.replicate_succ,je];rw [Ko p x n]
theorem vN {N:Nat} {x:AV} (h:below N x=true):∀ n:Nat,aY N (List.replicate n x)=true
 | 0=>rfl
 | n+1=>by simp only [List.replicate_succ,aY,h,Bool.true_and];exact vN h n
theorem FQ {x:AV} (h:eF x=true):∀ n:Nat,dI (List.replicate n x)=true
 | 0=>rfl
 | n+1=>by simp only [List.replicate_succ,dI,h,Bool.true_and];exact FQ h n
theorem Ox {x:AV} (h:eF x=true) (n:Nat) (y:List AV):EN (List.replicate n x) y=[]:=nJ _ y (FQ h n)
theorem Jt (N n:Nat) (b:Bool):aY N (List.replicate n (AV.bool b))=true:=vN rfl n
theorem Lr (N n:Nat) (k:IntKind) (i:Int):aY N (List.replicate n (AV.int k i))=true:=vN rfl n
theorem Tv (n:Nat) (b:Bool) (y:List AV):EN (List.replicate n (AV.bool b)) y=[]:=Ox rfl n y
theorem SI (n:Nat) (k:IntKind) (i:Int) (y:List AV):EN (List.replicate n (AV.int k i)) y=[]:=Ox rfl n y
attribute [go_sem] Q7 Sv FC JL zF Ub V5 Ld l9 Aa jy Fb OC Hy mkItem mkV EN pm Item.below AV.own.injEq AV.str.injEq AV.ro.injEq AV.agg.injEq AV.tup.injEq List.cons.injEq Option.some.injEq Item.row.injEq Item.box.injEq aN.ints.injEq aN.bools.injEq aN.strs.injEq aN.objs.injEq Nat.succ_ne_self Ko Jt Lr Tv SI
attribute [go_sem] qN Jv Oo
end Go.Fv
/-
 Calls into the callee's code: what it writes into memory that the caller owns is seen by the caller.
-/
namespace Go.Fv
open Go.RowKit
def UK (P:Program) (res:List ResultVar) (s:S) (K:AV→S→Prop):Exit→S→Prop
 | .normal,s1=>zF P s1 res (fun vs=>K (l9 vs) { s with rows:=s1.rows,next:=s1.next })
 | .ret,s1=>zF P s1 res (fun vs=>K (l9 vs) { s with rows:=s1.rows,next:=s1.next })
 | _,_=>False
section
variable {P:Program} {w0:World} {T0:Bs}
theorem ah.inl {f:Nat} {fn:Func} {c:Code} {args:List AV} {s:S} {K:AV→S→Prop} (hf:P.funcs[f]?=some fn) (hb:fn.body=some c)
  (hnm:(fn.name == "runtime.NumGoroutine")=false) (hn:args.length≤fn.ntmps) (res:List ResultVar) (hres:fn.results=res.toArray)
  (h:jP P w0 T0 s.next c ⟨fn.ntmps,au 0 args,s.rows,s.next⟩ (UK P res s K)):@ah P w0 T0 f args s ⟨K⟩:=by
 refine ⟨⟨fn,hf,by rw [hb];rfl,hnm⟩,fun H a w m vals hm hv=>?_⟩
 refine calls_of_wp hf hb ?_
 have hlen:=hv.length
 have hE:∀ p,p∈(s.env.map fun p=>(s.get p.1,a.tmps.getD p.1 undef))++H→Rv (aB T0 w0.heap.size m s w) p.1 p.2:=by
  intro p hp
  rcases List.mem_append.1 hp with hp|hp
  ·obtain ⟨q,_,rfl⟩:=List.mem_map.1 hp
   show Rv _ (s.get q.1) _
   unfold S.get
   cases hl:lk s.env q.1 with
   | none=>exact .dead _
   | some y=>exact hm.env q.1 y hl
  ·exact hm.held p hp
 have hrep:bD w0 T0 ((s.env.map fun p=>(s.get p.1,a.tmps.getD p.1 undef))++H) ⟨fn.ntmps,au 0 args,s.rows,s.next⟩ { tmps:=vals.toArray++Array.replicate (fn.ntmps - vals.toArray.size) undef,defers:=[] } w m:=
  {size:=by simp;omega,nodef:=rfl,below:=hm.below,
   env:=by
    intro r v hr
    obtain ⟨u,h1,h2⟩:=uF 0 [] rfl hv r v hr
    have e:((vals.toArray++Array.replicate (fn.ntmps - vals.toArray.size) undef).getD r undef)=u:=by
     have h1':vals[r]?=some u:=by simpa using h1
     have hlt:r<vals.length:=(List.getElem?_eq_some_iff.1 h1').1
     rw [Array.getD_eq_getD_getElem?,Array.getElem?_append_left (by simpa using hlt)]
     simp [h1']
    rw [e];exact h2,
   held:=hE,rows:=hm.rows,sep:=hm.sep }
 refine wp_mono (h _ _ w (fun p hp=>(hE p hp).ids) ⟨m,hrep⟩) ?_
 rintro e a1 w1 ⟨s1,hq,m1,hm1⟩
 have fin:zF P s1 res (fun vs=>K (l9 vs) { s with rows:=s1.rows,next:=s1.next })→a1.defers=[]∧∃ v,(results fn a1.tmps).run P w1=.ok v w1∧∃ v',Ending.returned v=.returned v'∧∃ r s',K r s'∧Rep w0 T0 ((r,v')::H) s' a w1:=by
  intro hk
  obtain ⟨l,vs,hk,hr,hvs⟩:=su hm1 hk
  have hrv:Rv (aB T0 w0.heap.size m1 s1 w1) (l9 l) (MW vs):=by
   cases hvs with
   | nil=>exact .tup _ _ .nil
   | cons x v l us hx ht=>
    cases ht with
    | nil=>exact hx
    | cons x' v' l' us' hx' ht'=>exact .tup _ _ (.cons _ _ _ _ hx (.cons _ _ _ _ hx' ht'))
  refine ⟨hm1.nodef,_,mJ hres a1.tmps hr,_,rfl,_,_,hk,m1,?_⟩
  exact
     {size:=hm.size,nodef:=hm.nodef,below:=hm1.below,
      env:=by
       intro r v hv
       have hmem:(s.get r,a.tmps.getD r undef)∈(s.env.map fun p=>(s.get p.1,a.tmps.getD p.1 undef))++H:=
        List.mem_append.2 (.inl (List.mem_map.2 ⟨(r,v),eU hv,rfl⟩))
       have:=hm1.held _ hmem
       have e:s.get r=v:=by unfold S.get;rw [show lk s.env r=some v from hv]
       rw [e] at this;exact this,
      held:=by
       intro p hp
       cases List.mem_cons.1 hp with
       | inl e=>subst e;exact hrv
       | inr e=>exact hm1.held p (List.mem_append.2 (.inr e)),
      rows:=hm1.rows,sep:=hm1.sep }
 cases e with
 | normal=>exact fin hq
 | ret=>exact fin hq
 | _=>exact hq.elim
end
end Go.Fv
