/-
  A part of the proof of the claim: walks over the program's functions and the plain laws that these need. No condition of its own.
-/
import Derived.Test.YtkigppimkbkjoaaDoorFvPart9
import Derived.Test.YtkigppimkbkjoaaDoorFvPart8
import Derived.Test.YtkigppimkbkjoaaDoorFvPart10
set_option linter.unusedSectionVars false
set_option linter.unusedVariables false
set_option linter.unusedSimpArgs false
set_option linter.unnecessarySimpa false
/-
 Congruences: only the state of a word is reckoned out, not what stands behind it.
-/
namespace Go.Fv
section
variable {P:Program} {w0:World} {T0:Bs} {s s':S} {K:AV→S→Prop}
@[congr] theorem LV {ops:Array Oper} {o:Oper} {k:S→Prop} (h:s=s'):EJ P w0 T0 ops o s k=EJ P w0 T0 ops o s' k:=by rw [h]
@[congr] theorem KL {o:Oper} {c c':Bool} {s1 s2:S} {k:S→Prop} (hc:c=c') (h:s=s'):qB P w0 T0 o c s s1 s2 k=qB P w0 T0 o c' s' s1 s2 k:=by rw [hc,h]
@[congr] theorem KY {ops:Array Oper} {l:List Oper} {k:S→Prop} (h:s=s'):xO P w0 T0 ops l s k=xO P w0 T0 ops l s' k:=by rw [h]
@[congr] theorem KJ {ops:Array Oper} {l:tZ} {k:S→Prop} (h:s=s'):iq P w0 T0 ops l s k=iq P w0 T0 ops l s' k:=by rw [h]
@[congr] theorem KI {b0:Nat} {c:Code} {Q:Exit→S→Prop} (h:s=s'):fC P w0 T0 b0 c Q s=fC P w0 T0 b0 c Q s':=by rw [h]
@[congr] theorem KZ {d:Option Nat} {v v':AV} {k:S→Prop} (hv:v=v') (h:s=s'):eU d v s k=eU d v' s' k:=by rw [hv,h]
@[congr] theorem LW {o:Oper} (h:s=s'):jU P w0 T0 o s K=jU P w0 T0 o s' K:=by rw [h]
@[congr] theorem Jw {c:Call} (h:s=s'):jS P w0 T0 c s K=jS P w0 T0 c s' K:=by rw [h]
end
end Go.Fv
/-
 Facts about types, out of one glance each.
-/
namespace Go.Fv
def KN:Value→Bool
 | .int k n=>Gs k n
 | .string s=>s.size == 0
 | .agg cs=>(cs.toList.all fun v=>v.oneCell' && (match v with | .string s=>s.size == 0|_=>true)) && decide (0<cs.size)
 | .tuple _=>false
 | _=>true
theorem Jy {v:Value} (h:KN v=true):MZ v:=by
 cases v<;>first|trivial|cases h;done|skip
 case int k n=>exact Bd h
 case string s=>
  have h':s.size=0:=by simpa [KN] using h
  show s.size≤maxLen
  rw [h'];exact Nat.zero_le _
 case agg cs=>
  simp only [KN,Bool.and_eq_true,List.all_eq_true,decide_eq_true_eq] at h
  refine ⟨fun v hv=>⟨(h.1 v hv).1,?_⟩,h.2⟩
  have h2:=(h.1 v hv).2
  cases v<;>try trivial
  rename_i s
  have h':s.size=0:=by simpa using h2
  show s.size≤maxLen
  rw [h'];exact Nat.zero_le _
theorem bK.of {P:Program} {e:TypeId} {z:Value} (h:(P.info? e).map (fun i=>(i.zero,i.size,decide (i.bytes≤1024)))=some (some z,z.cells.size,true)) (hz:KN z=true):bK P e z:=by
 refine ⟨?_,Jy hz⟩
 cases hi:P.info? e with
 | none=>rw [hi] at h;cases h
 | some i=>
  rw [hi] at h
  simp only [Option.map_some,Option.some.injEq,Prod.mk.injEq,decide_eq_true_eq] at h
  exact ⟨i,rfl,h.1,h.2.1,h.2.2⟩
theorem bK.zero {P:Program} {e:TypeId} {z:Value} (h:bK P e z):zeroOf P e=some z:=by
 obtain ⟨i,h1,h2,_⟩:=h.ex
 simp [zeroOf,h1,h2]
theorem bK.cellsOf {P:Program} {e:TypeId} {z:Value} (h:bK P e z):P.cellsOf e=z.cells.size:=by
 obtain ⟨i,h1,h2,h3,_⟩:=h.ex
 simp [Program.cellsOf,h1,h3]
end Go.Fv
/-
 The names of one state among those of another, found by looking; steps of a walk.
-/
namespace Go.Fv
mutual
def mkV:AV→AV→List (Nat × Nat)
 | .own i,y=>match y with | .own k=>[(i,k)]|_=>[]
 | .ptr i _,y=>match y with | .ptr k _=>[(i,k)]|_=>[]
 | .elt i _ _ _,y=>match y with | .elt k _ _ _=>[(i,k)]|_=>[]
 | .pre i _,y=>match y with | .pre k _=>[(i,k)]|_=>[]
 | .suf i _ _ _,y=>match y with | .suf k _ _ _=>[(i,k)]|_=>[]
 | .agg l,y=>match y with | .agg l'=>xU l l'|_=>[]
 | .tup l,y=>match y with | .tup l'=>xU l l'|_=>[]
 | .fn _ l,y=>match y with | .fn _ l'=>xU l l'|_=>[]
 | .dead,_=>[]
 | .nilS,_=>[]
 | .bool _,_=>[]
 | .int _ _,_=>[]
 | .str _,_=>[]
 | .ro _,_=>[]
 | .cell _,_=>[]
 | .raw _,_=>[]
 | .opt _ x,y=>match y with | .opt _ y'=>mkV x y'|_=>[]
 | .mp _ _,_=>[]
def xU:List AV→List AV→List (Nat × Nat)
 | [],_=>[]
 | x::l,ys=>match ys with|y::l'=>mkV x y++xU l l'|[]=>[]
end
def FM (s:S):List (Nat × AV)→List (Nat × Nat)
 | []=>[]
 |(r,v)::l=>mkV v (s.get r)++FM s l
def Ky:List (List AV)→List (List AV)→List (Nat × Nat)
 | [],_=>[]
 | x::l,ys=>match ys with|y::l'=>xU x y++Ky l l'|[]=>[]
def NM:au→au→List (Nat × Nat)
 | .objs _ l,.objs _ l'=>Ky l l'
 | _,_=>[]
def mkItem:Item→Option Item→List (Nat × Nat)
 | .box _ cs,some (.box _ cs')=>xU cs cs'
 | .row _ r,some (.row _ r')=>NM r r'
 | .map ks vs,some (.map ks' vs')=>xU ks ks'++xU vs vs'
 | .iter i _ _,some (.iter k _ _)=>[(i,k)]
 | _,_=>[]
def Ad (l:List (Nat × Nat)) (rows:List (Nat × Item)):List (Nat × Item)→List (Nat × Nat)
 | []=>[]
 |(i,it)::rest=>mkItem it (lk rows (pm l i))++Ad l rows rest
def yY (s s':S):List (Nat × Nat):=FM s s'.env++Ad (FM s s'.env) s.rows s'.rows
theorem JQ (k:IntKind) (n:Int):(Value.int k n).cells.size=1:=rfl
theorem Ib (b:Bool):(Value.bool b).cells.size=1:=rfl
theorem JU (b:ByteArray):(Value.string b).cells.size=1:=rfl
theorem Gg (a:Option Addr) (n m:Nat):(Value.slice a n m).cells.size=1:=rfl
theorem JR (a:Option Addr):(Value.pointer a).cells.size=1:=rfl
theorem JO (a:Array Value):(Value.agg a).cells.size=a.size:=rfl
theorem Ite.bool {b:Bool} {x y:Prop} (h1:b=true→x) (h2:b=false→y):@Ite b ⟨x⟩ ⟨y⟩:=⟨h1,h2⟩
def iV (b:Nat):List (Nat × Nat)→List (Nat × Nat)
 | []=>[]
 | x::l=>if b≤x.1 then x::iV b l else iV b l
theorem qO (b:Nat):∀ (l:List (Nat × Nat)) x,x∈iV b l→b≤x.1
 | y::l,x,h=>by
  simp only [iV] at h
  split at h
  ·rename_i hb
   cases List.mem_cons.1 h with
   | inl e=>subst e;exact hb
   | inr e=>exact qO b l x e
  ·exact qO b l x h
section
variable {w0:World} {T0:Bs} {b0:Nat}
theorem bJ.bG {s s':S} (hn:s'.n=s.n) (he:kT (pm (yY s s')) s s'.next s'.env) (hr:eP (pm (yY s s')) s.rows s'.next s'.rows):bJ w0 T0 0 s s':=
 bJ.of (yY s s') hn (Nat.zero_le _) (fun _ _=>Nat.zero_le _) he hr
theorem bJ.Bj (k:Nat) {s s':S} (hn:s'.n=s.n) (hk:k≤s'.next) (he:kT (pm (iV k (yY s s'))) s s'.next s'.env) (hr:eP (pm (iV k (yY s s'))) s.rows s'.next s'.rows):bJ w0 T0 k s s':=
 bJ.of _ hn hk (qO k _) he hr
def LM (s:S):ResultVar→AV
 | .tmp t=>s.ev (.tmp t)
 | .cell t _=>match s.get t with
  | .ptr i off=>match lk s.rows i with
   | some (.box _ cs)=>.agg (cs.drop off)
   | _=>.dead
  | _=>.dead
def CZ (s:S) (res:List ResultVar) (out:AV) (rows:List (Nat × Item)):List (Nat × Nat):=
 mkV out (jk (res.map (LM s)))++Ad (mkV out (jk (res.map (LM s)))) s.rows rows
theorem dM.auto {P:Program} (N:Nat) {res:List ResultVar} {out:AV} {rows:List (Nat × Item)} {s:S} (h:tC P s res (fun vs=>jk vs=ren (pm (CZ s res out rows)) out)) (hb:Fv.below N out=true) (hr:eP (pm (CZ s res out rows)) s.rows N rows):dM P w0 T0 res out rows s:=
 dM.of _ N h hb hr
end
end Go.Fv
/-
 The set by which a walk is reckoned.
-/
namespace Go.Fv
theorem H8 (p q:Prop) [Decidable p] [Decidable q]:(decide p && decide q)=decide (p∧q):=by simp
theorem JM (p q:Prop) [Decidable p] [Decidable q]:(decide p || decide q)=decide (p∨q):=by simp
theorem H9 (p:Prop) [Decidable p]:(!decide p)=decide (¬p):=by simp
attribute [go_sem] not_true_eq_false or_true true_or false_or or_false and_false false_and or_self and_self Array.toList_replicate List.map_replicate List.mem_replicate not_false_eq_true ne_eq Value.oneCell' maxLen_eq Nat.zero_le H8 JM H9 AV.int.injEq AV.bool.injEq fC thenS vO Jq Fz xO EJ jU qA xP iK fZ zx oV xE xM fD je o8 tN eU jS DF gY pX xA wJ Ar EL Jg Nb wK kd Bc eq1 EM nZ rH rE DK o7 oh lS rP Aw A8 iI jJ rQ FZ uZ tq fH intsOf lZ iq S.ev S.get S.set S.add S.swap S.after qw lk put del evs aj dh Ag Gs ren bW iE nD gK jL bF zV eH zH bnd jX jC bg jB spl appRow oP fF S.upd idxFrom qc placeOf bytesOf bn aV below aC au.len au.sz Item.ren JQ Ib JU Gg JR JO List.length_append List.length_set List.length_replicate List.length_nil List.mem_cons List.not_mem_nil or_false forall_eq forall_eq_or_imp implies_true false_implies eq_self List.set_cons_zero List.set_cons_succ List.drop_zero List.drop_succ_cons List.take_succ_cons List.take_zero List.size_toArray List.length_cons List.map_cons List.map_nil List.replicate_zero List.nil_append List.cons_append List.append_nil List.reverse_nil List.zipIdx_cons List.zipIdx_nil Array.toList_empty List.getElem?_cons_zero List.getElem?_cons_succ List.getElem?_toArray Option.bind_some Option.map_some Option.getD_some Nat.one_mul decide_true decide_false Bool.and_self Bool.true_and Bool.false_and Bool.and_true Bool.and_false Bool.not_true Bool.not_false cond_true cond_false Hy F6 and_true true_and and_self Hw Bool.not_eq_true' Nat.zero_add Nat.add_zero Int.toNat_natCast Int.ofNat_eq_natCast Mc Md ji dJ peel Ec MK ML gHead BZ IB pK qp qB JE MB Me Bool.and_eq_true decide_eq_true_eq Bool.cond_true_left Bool.cond_false_right imp_self Bool.not_eq_true decide_eq_false_iff_not Decidable.not_not Bool.not_not lH pY Int.natCast_zero
end Go.Fv
/-
 Calls whose results are only read by the caller: they stand as data, and the caller's state stays as it is.
-/
namespace Go.Fv
open Go.RowKit
def gG (rows:List (Nat × Item)) (x y:AV):Prop:=match x with
 | .tup l=>∃ l',aW rows l l'∧y=.tup l'
 | x=>eF rows x y
section
variable {P:Program} {w0:World} {T0:Bs}
theorem mg.ro {T:Nat→Prop} {B:Nat} {w:World} {out out':AV} {rows:List (Nat × Item)} {v:Value} (h:mg T B w out rows v) (ho:gG rows out out'):mg T B w out' [] v:=by
 obtain ⟨m,N,hr,hrows,hsep⟩:=h
 have hblk:∀ i it,lk rows i=some it→∀ b,blk (m i)=some b→B≤b:=fun i it hi b hb=>((hrows i it hi).2.blk b hb).1
 have hl:xX w (⟨w,allow (bs T) B m rows,m,N⟩:Ctx) rows (allow (bs T) B (fun _=>undef) []):=
  {hw:=rfl,t:=fun b hb=>⟨hb.1,fun i it hi=>by simp [lk] at hi⟩,
   own:=fun i e r hi=>by
    obtain ⟨n,cells,hc,hn,hq,_⟩:=(hrows i _ hi).2
    exact ⟨fun b hb=>⟨.inl (hblk i _ hi b hb),fun i it hi=>by simp [lk] at hi⟩,n,cells,hc,hn,hq⟩,
   box:=fun i e cs hi=>by
    obtain ⟨g,vs,hv,hg,hl,hh⟩:=(hrows i _ hi).2
    exact ⟨g,vs,hv,⟨.inl hg,fun i it hi=>by simp [lk] at hi⟩,hl,hh⟩,
   map:=fun i ks vs hi=>by
    obtain ⟨g,es,clock,hv,hg,h1,h2,h3,h4,hh⟩:=(hrows i _ hi).2
    exact ⟨g,es,clock,hv,⟨.inl hg,fun i it hi=>by simp [lk] at hi⟩,h1,h2,h3,h4,hh⟩ }
 refine ⟨fun _=>undef,0,?_,fun i it hi=>by simp [lk] at hi,fun i j it jt b hi=>by simp [lk] at hi⟩
 unfold gG at ho
 split at ho
 ·obtain ⟨l',ha,rfl⟩:=ho
  cases hr with
  | tup _ vs hv=>exact .tup _ _ (kP hl _ ha hv)
 ·exact sG hl 6 _ ho hr
theorem mg.dw {T:Nat→Prop} {B:Nat} {w:World} {out:AV} {v:Value} (h:mg T B w out [] v):mg T B w out [] v:=h
theorem ak.ro [hG:mQ P w0 T0] {f:Nat} {args args':List AV} {out:AV} (out':AV) {rows:List (Nat × Item)} {s:S} {K:AV→S→Prop} (h:gJ P f args' out rows) (ha:aW s.rows args args') (ho:gG rows out out') (hn:bn out'=true)
  (hk:K out' s):@ak P w0 T0 f args s ⟨K⟩:=by
 have h':gJ P f args' out' []:=⟨h.1,fun w T vals hgl hv=>(h.2 w T vals hgl hv).mono fun e w' ⟨v,he,hb,hq⟩=>⟨v,he,hb,hq.ro ho⟩⟩
 refine ak.fr h' ha 0 (jP 0 _ hn) trivial ?_
 rw [qV _ _ hn]
 exact hk
theorem aN.ro {f:Nat} {args:List AV} {out out':AV} {rows:List (Nat × Item)} (h:aN P f args out rows) (ho:gG rows out out'):aN P f args out' []:=
 ⟨h.1,fun w T vals hgl hv=>(h.2 w T vals hgl hv).mono fun e w' ⟨v,he,hb,hq⟩=>⟨v,he,hb,hq.ro ho⟩⟩
theorem ak.MS [hG:mQ P w0 T0] {f:Nat} {args args':List AV} {out:AV} (out':AV) {rows:List (Nat × Item)} {s:S} {K:AV→S→Prop} (h:aN P f args' out rows) (ha:aW [] args args') (ho:gG rows out out') (hn:bn out'=true)
  (hk:K out' s):@ak P w0 T0 f args s ⟨K⟩:=by
 refine ak.sh s.rows (h.ro ho) [] ha (fun _ _ h=>h) (fun i it hi=>by simp [lk] at hi) 0 (jP 0 _ hn) trivial ?_
 rw [qV _ _ hn]
 exact hk
theorem ak.shr [hG:mQ P w0 T0] {f:Nat} {args args':List AV} {out:AV} {rows:List (Nat × Item)} {s:S} {K:AV→S→Prop} (h:aN P f args' out rows) (ha:aW [] args args') (N:Nat) (hN:Fv.below N out=true) (hNr:dK N rows)
  (hk:K (ren (fun j=>s.next+j) out) (s.after s.rows N rows)):@ak P w0 T0 f args s ⟨K⟩:=
 ak.sh s.rows h [] ha (fun _ _ h=>h) (fun i it hi=>by simp [lk] at hi) N hN hNr hk
end
end Go.Fv
/-
 A nil slice in a box, as an owned row without elements.
-/
namespace Go.Fv
open Go.RowKit
section
variable {P:Program} {w0:World} {T0:Bs} {b0:Nat}
theorem bJ.pre {s:S} (r i:Nat) {e:TypeId} {rv:au} (hr:lk s.env r=some (.own i)) (hi:lk s.rows i=some (.row e rv)):bJ w0 T0 b0 s (s.set r (.pre i rv.len)):=by
 rintro H a w hH ⟨m,hm⟩
 refine ⟨m,hm.Fq ?_⟩
 have hx:=hm.env r _ hr
 obtain ⟨k,cells,hrc,hk,how,hO⟩:=(hm.rows i _ hi).2
 generalize a.tmps.getD r undef=v at hx
 cases hx with
 | own _ hi2 h1=>
  rcases how.2 with ⟨hv2,hq⟩|⟨g,cap,cur,fz,hv2,_⟩
  ·have hv:(ah T0 w0.heap.size m s w).m i=.slice none 0 0:=hv2
   have h0:rv.len=0:=by omega
   rw [hv,h0]
   exact .pre i 0 0 0 none hi2 hv (Nat.le_refl _)
  ·have hv:(ah T0 w0.heap.size m s w).m i=.slice (some ⟨g,0,none⟩) k cap:=hv2
   rw [hv,hk]
   exact .pre i k k cap _ hi2 hv (Nat.le_refl _)
end
end Go.Fv
/-
 What a function value has captured, where nothing of it is the caller's own memory.
-/
namespace Go.Fv
open Go.RowKit
def kY:Nat→AV→Bool
 | 0,_=>false
 | n+1,x=>match x with
  | .agg cs=>cs.all (kY n)
  | .fn _ cs=>cs.all (kY n)
  | .ro _=>true
  | .bool _=>true
  | .int _ _=>true
  | .str _=>true
  | .raw _=>true
  | .cell _=>true
  | .nilS=>true
  | .mp _ _=>true
  | _=>false
theorem oL:∀ {l:List AV},(∀ x,x∈l→bn x=true)→aV l=true
 | [],_=>rfl
 | x::l,h=>by simp only [aV,Bool.and_eq_true];exact ⟨h x (.head _),oL fun y hy=>h y (.tail _ hy)⟩
theorem qm:∀ (n:Nat) (x:AV),kY n x=true→bn x=true
 | 0,x,h=>by simp [kY] at h
 | n+1,x,h=>by
  cases x<;>simp only [kY] at h<;>first|rfl|(cases h;done)|skip
  ·simp only [bn];exact oL fun y hy=>qm n y (List.all_eq_true.1 h y hy)
  ·simp only [bn];exact oL fun y hy=>qm n y (List.all_eq_true.1 h y hy)
theorem lI {R:AV→AV→Prop}:∀ {l:List AV},(∀ x,x∈l→R x x)→aZ R l l
 | [],_=>rfl
 | x::l,h=>⟨x,l,h x (.head _),lI fun y hy=>h y (.tail _ hy),rfl⟩
theorem wP (rows:List (Nat × Item)):∀ (n:Nat) (x:AV),kY n x=true→aB rows n x x
 | 0,x,h=>by simp [kY] at h
 | n+1,x,h=>by
  cases x<;>simp only [kY] at h<;>first|(cases h;done)|skip
  all_goals first|(simp only [aB];done)|(simp only [aB];exact .inl trivial)|(simp only [aB];exact ⟨_,lI fun y hy=>wP rows n y (List.all_eq_true.1 h y hy),rfl⟩)|skip
class rX (caps:List AV):Prop where
 ok:caps.all (kY 5)=true
section
variable {caps:List AV} [h:rX caps]
theorem sH:aV caps=true:=oL fun x hx=>qm 5 x (List.all_eq_true.1 h.ok x hx)
theorem wQ:∀ (n:Nat) (x:AV),kY n x=true→kY (n+1) x=true
 | 0,x,h=>by simp [kY] at h
 | n+1,x,h=>by
  cases x<;>simp only [kY] at h ⊢<;>first|(cases h;done)|rfl|skip
  ·exact List.all_eq_true.2 fun y hy=>wQ n y (List.all_eq_true.1 h y hy)
  ·exact List.all_eq_true.2 fun y hy=>wQ n y (List.all_eq_true.1 h y hy)
theorem Hf (p:Nat→Nat):bW p caps=caps:=iH p caps sH
theorem Bl (n:Nat):aC n caps=true:=dI n caps sH
theorem vM (rows:List (Nat × Item)):aZ (aB rows 6) caps caps:=lI fun x hx=>wP rows 6 x (wQ 5 x (List.all_eq_true.1 h.ok x hx))
theorem Bh (rows:List (Nat × Item)):aZ (aB rows 5) caps caps:=lI fun x hx=>wP rows 5 x (List.all_eq_true.1 h.ok x hx)
end
mutual
theorem C9:∀ (x y:AV),bn x=true→mkV x y=[]
 | .own _,_,h=>by simp [bn] at h
 | .ptr _ _,_,h=>by simp [bn] at h
 | .elt _ _ _ _,_,h=>by simp [bn] at h
 | .pre _ _,_,h=>by simp [bn] at h
 | .suf _ _ _ _,_,h=>by simp [bn] at h
 | .agg l,y,h=>by simp only [mkV];split<;>first|exact iZ l _ (by simpa [bn] using h)|rfl
 | .tup l,y,h=>by simp only [mkV];split<;>first|exact iZ l _ (by simpa [bn] using h)|rfl
 | .fn _ l,y,h=>by simp only [mkV];split<;>first|exact iZ l _ (by simpa [bn] using h)|rfl
 | .dead,_,_=>rfl
 | .nilS,_,_=>rfl
 | .bool _,_,_=>rfl
 | .int _ _,_,_=>rfl
 | .str _,_,_=>rfl
 | .ro _,_,_=>rfl
 | .cell _,_,_=>rfl
 | .raw _,_,_=>rfl
 | .mp _ _,_,_=>rfl
 | .opt _ x,y,h=>by simp only [mkV];split<;>first|exact C9 x _ (by simpa [bn] using h)|rfl
theorem iZ:∀ (x y:List AV),aV x=true→xU x y=[]
 | [],_,_=>rfl
 | x::l,y,h=>by
  simp only [aV,Bool.and_eq_true] at h
  simp only [xU];split
  ·rw [C9 x _ h.1,iZ l _ h.2];rfl
  ·rfl
end
theorem yU:∀ (x y:List (List AV)),x.all aV=true→Ky x y=[]
 | [],_,_=>rfl
 | x::l,y,h=>by
  simp only [List.all_cons,Bool.and_eq_true] at h
  simp only [Ky];split
  ·rw [iZ x _ h.1,yU l _ h.2];rfl
  ·rfl
theorem I8 (r r':au) [h:iL r]:NM r r'=[]:=by
 have:=h.ok
 cases r<;>cases r'<;>first|rfl|exact yU _ _ this
theorem I4 {caps:List AV} [h:rX caps] (y:List AV):xU caps y=[]:=iZ caps y sH
end Go.Fv
/-
 The walk of drawn regions, in the set.
-/
namespace Go.Fv
attribute [go_sem] oW H6 og FH lD lG lF Gi iJ oZ AQ vk List.getLast?_concat mapOf KQ yI Nj Bool.false_eq_true true_implies jl Iz H7 F9 Lp KG KF Jh uw kZ eG dV wZ Ji dD KU cO gV gd G8 zf redo kJ kW dJ pI pR Option.toList_some Option.toList_none Hf Bl
end Go.Fv
/-
 Maps whose keys and values are told by lists of plain data.
-/
namespace Go.Fv
def qR {α:Type} [DecidableEq α]:List α→α→Option Nat
 | [],_=>none
 | x::l,k=>if x=k then some 0 else (qR l k).map (·+1)
theorem jO {α:Type} [DecidableEq α] {f:α→AV} (hf:∀ a b,iU (f a) (f b)=decide (a=b)) (x:α):∀ l:List α,bV (l.map f) (f x)=qR l x
 | []=>rfl
 | y::l=>by simp only [List.map_cons,bV,qR,hf,jO hf x l,decide_eq_true_eq]
theorem Cm (l:List Int) (q:IntKind) (n:Int):bV (l.map (.int q)) (.int q n)=qR l n:=jO (fun a b=>by simp [iU]) n l
theorem jF {α:Type} [DecidableEq α]:∀ {l:List α} {x:α} {j:Nat},qR l x=some j→l[j]?=some x
 | y::l,x,j,h=>by
  simp only [qR] at h
  split at h
  ·rename_i e;cases h;simp [e]
  ·simp only [Option.map_eq_some_iff] at h
   obtain ⟨i,hi,rfl⟩:=h
   simpa using jF hi
theorem kV {α:Type} [DecidableEq α]:∀ {l:List α} {x:α},qR l x=none↔x∉l
 | [],x=>by simp [qR]
 | y::l,x=>by
  simp only [qR]
  split
  ·rename_i e;simp [e]
  ·rename_i e
   rw [Option.map_eq_none_iff,kV,List.mem_cons,not_or]
   exact ⟨fun h=>⟨fun e'=>e e'.symm,h⟩,fun h=>h.2⟩
theorem Cj {α:Type} [DecidableEq α] (l:List α) (x:α):(qR l x).isSome=decide (x∈l):=by
 cases h:qR l x with
 | none=>simp [kV.1 h]
 | some j=>simp [List.mem_of_getElem? (jF h)]
theorem IE {α:Type} [DecidableEq α] {f:α→AV} (hf:∀ a b,iU (f a) (f b)=decide (a=b)) (l:List α) (x:α):uN (l.map f) (l.map fun _=>.bool true) (f x)=decide (x∈l):=by
 unfold uN lQ
 rw [jO hf]
 cases h:qR l x with
 | none=>simp [kV.1 h]
 | some j=>simp [List.mem_of_getElem? (jF h),jF h]
theorem Gm (l:List Int) (q:IntKind) (n:Int):uN (l.map (.int q)) (l.map fun _=>.bool true) (.int q n)=decide (n∈l):=IE (fun a b=>by simp [iU]) l n
def uO {α:Type} [DecidableEq α] (l:List α) (x:α):List α:=if x∈l then l else l++[x]
theorem IY {α:Type} [DecidableEq α] {l:List α} {x y:α}:y∈uO l x↔y∈l∨y=x:=by
 unfold uO
 split
 ·rename_i h
  constructor
  ·exact .inl
  ·rintro (h'|rfl)
   ·exact h'
   ·exact h
 ·simp
theorem Hr {α:Type} [DecidableEq α] {f:α→AV} (hf:∀ a b,iU (f a) (f b)=decide (a=b)) (l:List α) (x:α):mF (l.map f) (f x)=(uO l x).map f:=by
 unfold mF uO
 rw [jO hf]
 cases h:qR l x with
 | none=>simp [kV.1 h]
 | some j=>simp [List.mem_of_getElem? (jF h)]
theorem zl {α β:Type} (c:β):∀ (l:List α) (j:Nat),(l.map fun _=>c).set j c=l.map fun _=>c
 | [],_=>rfl
 | _::l,0=>rfl
 | _::l,j+1=>by simp [zl c l j]
theorem Ht {α:Type} [DecidableEq α] {f:α→AV} (hf:∀ a b,iU (f a) (f b)=decide (a=b)) (l:List α) (x:α):zo (l.map f) (l.map fun _=>.bool true) (f x) (.bool true)=(uO l x).map fun _=>.bool true:=by
 unfold zo uO
 rw [jO hf]
 cases h:qR l x with
 | none=>simp [kV.1 h]
 | some j=>simp [List.mem_of_getElem? (jF h),zl]
theorem EG (l:List Int) (q:IntKind) (n:Int):mF (l.map (.int q)) (.int q n)=(uO l n).map (.int q):=Hr (fun a b=>by simp [iU]) l n
theorem EH (l:List Int) (q:IntKind) (n:Int):zo (l.map (.int q)) (l.map fun _=>.bool true) (.int q n) (.bool true)=(uO l n).map fun _=>.bool true:=Ht (fun a b=>by simp [iU]) l n
theorem JL {α:Type} (l:List α) (f:α→Bool):(l.map fun x=>AV.bool (f x)).all L9=true:=by simp [L9]
theorem Hg {α:Type} (p:Nat→Nat) {f:α→AV} (hf:∀ a,bn (f a)=true) (l:List α):bW p (l.map f)=l.map f:=by
 refine iH p _ ?_
 induction l with
 | nil=>rfl
 | cons x l ih=>simp [aV,hf,ih]
theorem Bo {α:Type} (n:Nat) {f:α→AV} (hf:∀ a,bn (f a)=true) (l:List α):aC n (l.map f)=true:=by
 refine dI n _ ?_
 induction l with
 | nil=>rfl
 | cons x l ih=>simp [aV,hf,ih]
theorem En {α:Type} {f:α→AV} (hf:∀ a,bn (f a)=true) (l:List α):aV (l.map f)=true:=by
 induction l with
 | nil=>rfl
 | cons x l ih=>simp [aV,hf,ih]
theorem I5 {α:Type} {f:α→AV} (hf:∀ a,bn (f a)=true) (l:List α) (y:List AV):xU (l.map f) y=[]:=iZ _ y (En hf l)
theorem xk {α:Type} (p:Nat→Nat) (l:List α) (f:α→Bool):bW p (l.map fun x=>.bool (f x))=l.map fun x=>.bool (f x):=Hg p (fun _=>rfl) l
theorem qE {α:Type} (n:Nat) (l:List α) (f:α→Bool):aC n (l.map fun x=>.bool (f x))=true:=Bo n (fun _=>rfl) l
theorem yV {α:Type} (l:List α) (f:α→Bool) (y:List AV):xU (l.map fun x=>.bool (f x)) y=[]:=I5 (fun _=>rfl) l y
attribute [simp] xk qE yV
attribute [go_sem] xk qE JL Gm EG EH Cm Cj
end Go.Fv
/-
 Small facts about lists.
-/
namespace Go.Fv
theorem getD_lt {α:Type} {l:List α} {i:Nat} {d:α} (h:i<l.length):l.getD i d=l[i]:=by simp [List.getD,h]
theorem uJ {α:Type} [DecidableEq α] {a b:List α} (d:α) (h:a.length=b.length):∀ {i:Nat},i≤a.length→((∀ j,j<i→a.getD j d=b.getD j d)↔a.take i=b.take i)
 | 0,_=>by simp
 | i+1,hi=>by
  have ih:=uJ d h (i:=i) (by omega)
  rw [List.take_succ_eq_append_getElem (by omega),List.take_succ_eq_append_getElem (by omega)]
  constructor
  ·intro hh
   have h1:=ih.1 fun j hj=>hh j (by omega)
   have h2:=hh i (by omega)
   rw [getD_lt (by omega),getD_lt (by omega)] at h2
   rw [h1,h2]
  ·intro hh j hj
   have:=List.append_inj hh (by simp;omega)
   by_cases e:j=i
   ·subst e
    rw [getD_lt (by omega),getD_lt (by omega)]
    simpa using this.2
   ·exact ih.2 this.1 j (by omega)
theorem Ea {α:Type} [DecidableEq α] {a b:List α} (d:α) (h:a.length=b.length) (hh:∀ j,j<a.length→a.getD j d=b.getD j d):a=b:=by
 have:=(uJ d h (Nat.le_refl _)).1 hh
 rwa [List.take_length,h,List.take_length] at this
theorem xq (p:Nat→Nat):∀ l:List Bool,bW p (l.map .bool)=l.map .bool
 | []=>rfl
 | b::l=>by simp only [List.map_cons,bW,ren];rw [xq p l]
theorem zh (p:Nat→Nat) (k:IntKind):∀ l:List Int,bW p (l.map (.int k))=l.map (.int k)
 | []=>rfl
 | b::l=>by simp only [List.map_cons,bW,ren];rw [zh p k l]
theorem lJ (n:Nat):∀ l:List Bool,aC n (l.map .bool)=true
 | []=>rfl
 | b::l=>by simp only [List.map_cons,aC,below,Bool.true_and];exact lJ n l
theorem ug (n:Nat) (k:IntKind):∀ l:List Int,aC n (l.map (.int k))=true
 | []=>rfl
 | b::l=>by simp only [List.map_cons,aC,below,Bool.true_and];exact ug n k l
theorem yX:∀ (l:List Bool) (y:List AV),xU (l.map .bool) y=[]
 | [],_=>by simp [xU]
 | b::l,y=>by
  simp only [List.map_cons,xU]
  split
  ·simp only [mkV,List.nil_append];exact yX l _
  ·rfl
theorem CY (k:IntKind):∀ (l:List Int) (y:List AV),xU (l.map (.int k)) y=[]
 | [],_=>by simp [xU]
 | b::l,y=>by
  simp only [List.map_cons,xU]
  split
  ·simp only [mkV,List.nil_append];exact CY k l _
  ·rfl
theorem mV (rows:List (Nat × Item)) (n:Nat):∀ l:List Bool,aZ (aB rows (n+1)) (l.map .bool) (l.map .bool)
 | []=>rfl
 | b::l=>⟨.bool b,l.map .bool,by simp [aB],mV rows n l,rfl⟩
theorem Ho (l:List Bool) (i:Nat) (b:Bool):(l.map AV.bool).set i (.bool b)=(l.set i b).map .bool:=by rw [List.map_set]
theorem uG:∀ l:List Bool,jQ (l.map .bool)=true
 | []=>rfl
 | b::l=>by simp only [List.map_cons,jQ,pz,Bool.true_and];exact uG l
theorem Jt:∀ (cs bs:List AV) (off:Nat),off+cs.length≤bs.length→spl bs off cs=bs.take off++cs++bs.drop (off+cs.length)
 | [],bs,off,_=>by simp [spl]
 | c::cs,bs,off,h=>by
  simp only [List.length_cons] at h
  rw [spl,Jt cs _ _ (by simp;omega),List.take_set,List.drop_set,if_pos (by omega)]
  rw [List.take_succ_eq_append_getElem (by omega),List.set_append_right _ _ (by simp;omega)]
  have e:off - (List.take off bs).length=0:=by simp;omega
  rw [e]
  simp only [List.set_cons_zero,List.length_cons,List.append_assoc,List.cons_append,List.nil_append]
  have e2:off+1+cs.length=off+(cs.length+1):=by omega
  rw [e2]
theorem FV {bs cs:List AV} (h:cs.length=bs.length):spl bs 0 cs=cs:=by
 rw [Jt _ _ _ (by omega)];simp [h]
attribute [simp] bI iQ bf I8
attribute [go_sem] uM bI iQ bf xq zh lJ ug List.length_map Nat.mul_one Ho
end Go.Fv
/-
 Families of rows: as many owned rows as a list tells, with names one behind the other.
-/
namespace Go.Fv
def iy:Nat→List Item→List (Nat × Item)
 | _,[]=>[]
 | b,it::L=>(b,it)::iy (b+1) L
theorem Aa:∀ (L:List Item) (b j:Nat),lk (iy b L) j=if b≤j then L[j - b]? else none
 | [],b,j=>by simp [iy,lk]
 | it::L,b,j=>by
  simp only [iy,lk,Aa L (b+1) j]
  by_cases h:b=j
  ·subst h;simp
  ·rw [if_neg h]
   by_cases h2:b≤j
   ·rw [if_pos h2,if_pos (by omega)]
    have:j - b=(j - (b+1))+1:=by omega
    rw [this,List.getElem?_cons_succ]
   ·rw [if_neg h2,if_neg (by omega)]
theorem IW {L:List Item} {b j:Nat} {it:Item} (h:L[j]?=some it):lk (iy b L) (j+b)=some it:=by
 rw [Aa,if_pos (by omega),Nat.add_sub_cancel];exact h
def dO (f:Nat→AV→List AV) (b n:Nat):List (List AV):=(List.range n).map fun i=>f i (.own (i+b))
theorem BP {f:Nat→AV→List AV} {b n i:Nat} (h:i<n):(dO f b n)[i]?=some (f i (.own (i+b))):=by simp [dO,h]
theorem bH (f:Nat→AV→List AV) (b n:Nat):(dO f b n).length=n:=by simp [dO]
theorem yO (f:Nat→AV→List AV) (b n:Nat):dO f b (n+1)=dO f b n++[f n (.own (n+b))]:=by simp [dO,List.range_succ]
section
variable {w0:World} {T0:Bs} {b0:Nat}
theorem bJ.NP (p:Nat→Nat) {s s':S} (hn:s'.n=s.n) (hb:b0≤s'.next) (hlow:∀ i,i<b0→p i=i) (he:kT p s s'.next s'.env)
  (hr:∀ i it,lk s'.rows i=some it→i<s'.next∧lk s.rows (p i)=some (it.ren p)∧it.below s'.next=true)
  (hinj:∀ i j it jt,lk s'.rows i=some it→lk s'.rows j=some jt→p i=p j→i=j):bJ w0 T0 b0 s s':=by
 rintro H a w hH ⟨m,hm⟩
 have hren:jf p (ah T0 w0.heap.size m s w) (ah T0 w0.heap.size (fun i=>m (p i)) s' w):=
  {m:=fun _ _=>rfl,
   t:=by
    intro b ⟨h1,h2⟩ _
    refine ⟨⟨h1,fun i it hi e=>?_⟩,rfl⟩
    obtain ⟨_,h3,_⟩:=hr i it hi
    exact h2 _ _ h3 e }
 refine ⟨fun i=>m (p i),{ size:=by rw [hn];exact hm.size,nodef:=hm.nodef,below:=hm.below,env:=?_,held:=?_,rows:=?_,sep:=?_ }⟩
 ·intro r v hv
  obtain ⟨h1,h2⟩:=sK he r v (bM hv)
  refine Rv.ren hren v h2 ?_
  have:Rv (ah T0 w0.heap.size m s w) (s.get r) (a.tmps.getD r undef):=by
   simp only [S.get]
   cases hq:lk s.env r with
   | none=>exact .dead _
   | some y=>exact hm.env r y hq
  rw [←h1];exact this
 ·intro q hq
  have h1:=hH q hq
  refine Rv.ren hren q.1 (below_le hb _ h1) ?_
  rw [fQ hlow _ h1];exact hm.held q hq
 ·intro i it hi
  obtain ⟨h1,h2,h3⟩:=hr i it hi
  exact ⟨h1,aK.ren hren rfl h3 (hm.rows _ _ h2).2⟩
 ·intro i j it jt b hi hj hbi hbj
  obtain ⟨_,h2,_⟩:=hr i it hi
  obtain ⟨_,h2',_⟩:=hr j jt hj
  exact hinj i j it jt hi hj (hm.sep _ _ _ _ b h2 h2' hbi hbj)
def yg (p:Nat→Nat) (rows:List (Nat × Item)) (N:Nat):List (Nat × Item)→Prop
 | []=>True
 |(i,it)::l=>(lk rows (p i)=some (it.ren p)∧it.below N=true)∧yg p rows N l
theorem FX {p:Nat→Nat} {rows:List (Nat × Item)} {N:Nat}:∀ {l:List (Nat × Item)},yg p rows N l→∀ i it,lk l i=some it→lk rows (p i)=some (it.ren p)∧it.below N=true
 |(j,jt)::l,h,i,it,hi=>by
  simp only [lk] at hi
  split at hi
  ·rename_i e;subst e;cases hi;exact h.1
  ·exact FX h.2 i it hi
theorem bJ.fam (p:Nat→Nat) {s:S} {n b:Nat} {env:List (Nat × AV)} {C:List (Nat × Item)} {L:List Item} (hn:n=s.n) (hb:b0≤L.length+b) (hlow:∀ i,i<b0→p i=i) (hC:∀ x,x∈C→x.1<b)
  (he:kT p s (L.length+b) env) (hc:yg p s.rows (L.length+b) C)
  (hL:∀ j it,L[j]?=some it→lk s.rows (p (j+b))=some (it.ren p)∧it.below (L.length+b)=true)
  (hinj:∀ i j,i<L.length+b→j<L.length+b→p i=p j→i=j):bJ w0 T0 b0 s ⟨n,env,C++iy b L,L.length+b⟩:=by
 have hlt:∀ i it,lk (C++iy b L) i=some it→i<L.length+b∧lk s.rows (p i)=some (it.ren p)∧it.below (L.length+b)=true:=by
  intro i it hi
  rw [jG] at hi
  cases hq:lk C i with
  | some y=>
   rw [hq] at hi;cases hi
   have:=hC _ (bM hq)
   exact ⟨by simp at this;omega,FX hc i _ hq⟩
  | none=>
   rw [hq] at hi
   simp only [Aa] at hi
   split at hi
   ·rename_i hbi
    obtain ⟨h1,h2⟩:=List.getElem?_eq_some_iff.1 hi
    have:=hL (i - b) it hi
    rw [Nat.sub_add_cancel hbi] at this
    exact ⟨by omega,this⟩
   ·cases hi
 exact bJ.NP p hn hb hlow he hlt fun i j it jt hi hj e=>hinj i j (hlt i it hi).1 (hlt j jt hj).1 e
theorem bJ.MH (p:Nat→Nat) {s:S} {n b N:Nat} {env:List (Nat × AV)} {C:List (Nat × Item)} {e:TypeId} {rs:List au} (hN:N=rs.length+b) (hn:n=s.n) (hb:b0≤N) (hlow:∀ i,i<b0→p i=i) (hC:∀ x,x∈C→x.1<b)
  (he:kT p s N env) (hc:yg p s.rows N C) (hid:∀ r,r∈rs→cZ r=true)
  (hL:∀ j (h:j<rs.length),lk s.rows (p (j+b))=some (.row e rs[j]))
  (hinj:∀ i j,i<N→j<N→p i=p j→i=j):bJ w0 T0 b0 s ⟨n,env,C++iy b (rs.map (Item.row e)),N⟩:=by
 subst hN
 have:=bJ.fam (w0:=w0) (T0:=T0) (b0:=b0) (s:=s) (n:=n) (b:=b) (env:=env) (C:=C) (L:=rs.map (Item.row e)) p hn (by simpa using hb) hlow hC (by simpa using he) (by simpa using hc) ?_ (by simpa using hinj)
 ·simpa using this
 ·intro j it hj
  obtain ⟨h1,rfl⟩:=List.getElem?_eq_some_iff.1 hj
  simp only [List.length_map] at h1
  rw [List.getElem_map]
  have h2:=hid _ (List.getElem_mem h1)
  refine ⟨?_,by simp only [Item.below];exact uF _ _ h2⟩
  simp only [Item.ren,zi p h2]
  exact hL j h1
theorem bJ.BQ (p:Nat→Nat) {s:S} {n b N c0:Nat} {A0:Item} {env:List (Nat × AV)} {e:TypeId} {rs:List au} (hN:N=rs.length+b) (hn:n=s.n) (hb:b0≤N) (hlow:∀ i,i<b0→p i=i) (hC:c0<b)
  (he:kT p s N env) (hc:yg p s.rows N [(c0,A0)]) (hid:∀ r,r∈rs→cZ r=true)
  (hL:∀ j (h:j<rs.length),lk s.rows (p (j+b))=some (.row e rs[j]))
  (hinj:∀ i j,i<N→j<N→p i=p j→i=j):bJ w0 T0 b0 s ⟨n,env,(c0,A0)::iy b (rs.map (Item.row e)),N⟩:=
 bJ.MH (C:=[(c0,A0)]) p hN hn hb hlow (by intro x hx;simp at hx;subst hx;exact hC) he hc hid hL hinj
end
/-! ### Renamings by hand -/
def p1 (a K x:Nat):Nat:=if x=a then K else x
theorem MQ (a K:Nat):p1 a K a=K:=if_pos rfl
theorem y8 {a K x:Nat} (h:x≠a):p1 a K x=x:=if_neg h
theorem LH {a K N:Nat} (hK:N≤K):∀ i j,i<N→j<N→p1 a K i=p1 a K j→i=j:=by
 intro i j hi hj
 unfold p1
 split<;>split<;>omega
def p2 (a K a' K' x:Nat):Nat:=if x=a then K else if x=a' then K' else x
theorem KR (a K a' K':Nat):p2 a K a' K' a=K:=if_pos rfl
theorem Jc {a K a' K':Nat} (h:a'≠a):p2 a K a' K' a'=K':=by unfold p2;rw [if_neg h,if_pos rfl]
theorem KT {a K a' K' x:Nat} (h:x≠a) (h':x≠a'):p2 a K a' K' x=x:=by unfold p2;rw [if_neg h,if_neg h']
theorem Jd {a K a' K' N:Nat} (hK:N≤K) (hK':N≤K') (hne:K≠K'):∀ i j,i<N→j<N→p2 a K a' K' i=p2 a K a' K' j→i=j:=by
 intro i j hi hj
 unfold p2
 (repeat' split)<;>omega
theorem gq {α:Type} {j i:Nat} {v:α} {l:List (Nat × α)} (h:j≠i):lk ((j,v)::l) i=lk l i:=by simp only [lk];rw [if_neg h]
theorem nM {α:Type} {i:Nat} {v:α} {l:List (Nat × α)}:lk ((i,v)::l) i=some v:=by simp [lk]
end Go.Fv
/-
 An owned row becomes data, wherever the state speaks of it.
-/
namespace Go.Fv
open Go.RowKit
mutual
def fz (k:Nat) (r:au):AV→AV
 | .own i=>if i=k then .ro r else .own i
 | .ptr i o=>.ptr i o
 | .elt i a b c=>.elt i a b c
 | .pre i n=>.pre i n
 | .suf i sz o n=>.suf i sz o n
 | .agg cs=>.agg (wz k r cs)
 | .tup cs=>.tup (wz k r cs)
 | .fn f cs=>.fn f (wz k r cs)
 | .cell cs=>.cell cs
 | .dead=>.dead
 | .nilS=>.nilS
 | .bool b=>.bool b
 | .int q n=>.int q n
 | .str s=>.str s
 | .ro r=>.ro r
 | .raw v=>.raw v
 | .opt b v=>.opt b (fz k r v)
 | .mp ks vs=>.mp ks vs
def wz (k:Nat) (r:au):List AV→List AV
 | []=>[]
 | x::l=>fz k r x::wz k r l
end
def Jz (k:Nat) (q:au):au→au
 | .objs sz l=>.objs sz (l.map (wz k q))
 | .bools l=>.bools l
 | .ints k l=>.ints k l
 | .strs l=>.strs l
def Iw (k:Nat) (q:au):Item→Item
 | .row e r=>.row e (Jz k q r)
 | .box e cs=>.box e (wz k q cs)
 | .map ks vs=>.map (wz k q ks) (wz k q vs)
 | .iter mp since seen=>.iter mp since seen
 | .siter t pos=>.siter t pos
def MI (k:Nat) (q:au):List (Nat × AV)→List (Nat × AV)
 | []=>[]
 |(i,v)::l=>(i,fz k q v)::MI k q l
def ql (k:Nat) (q:au):List (Nat × Item)→List (Nat × Item)
 | []=>[]
 |(i,it)::l=>if i=k then ql k q l else (i,Iw k q it)::ql k q l
def S.fz (s:S) (k:Nat) (r:au):S:={ s with env:=MI k r s.env,rows:=ql k r s.rows }
theorem Ej (k:Nat) (q:au):∀ (l:List (Nat × AV)) (i:Nat),lk (MI k q l) i=(lk l i).map (fz k q)
 | [],i=>rfl
 |(j,v)::l,i=>by
  simp only [MI,lk]
  split
  ·rfl
  ·exact Ej k q l i
theorem jH (k:Nat) (q:au):∀ (l:List (Nat × Item)) (i:Nat),lk (ql k q l) i=if i=k then none else (lk l i).map (Iw k q)
 | [],i=>by simp [ql,lk]
 |(j,v)::l,i=>by
  simp only [ql]
  split
  ·rename_i e;subst e
   rw [jH]
   by_cases h:i=j
   ·simp [h]
   ·simp only [if_neg h,lk];rw [if_neg (fun e=>h e.symm)]
  ·rename_i e
   simp only [lk]
   split
   ·rename_i e2;subst e2;rw [if_neg e];rfl
   ·exact jH k q l i
mutual
theorem wB {k:Nat} {r:au} (n:Nat):∀ x:AV,below n x=true→below n (fz k r x)=true
 | .own i,h=>by
  simp only [fz];split
  ·rfl
  ·exact h
 | .ptr i o,h=>h
 | .elt i a b c,h=>h
 | .pre i n,h=>h
 | .suf i sz o n,h=>h
 | .agg cs,h=>by simp only [fz,below] at *;exact oK n cs h
 | .tup cs,h=>by simp only [fz,below] at *;exact oK n cs h
 | .fn f cs,h=>by simp only [fz,below] at *;exact oK n cs h
 | .cell cs,_=>rfl
 | .dead,_=>rfl
 | .nilS,_=>rfl
 | .bool _,_=>rfl
 | .int _ _,_=>rfl
 | .str _,_=>rfl
 | .ro _,_=>rfl
 | .raw _,_=>rfl
 | .opt _ v,h=>by simp only [fz,below] at *;exact wB n v h
 | .mp _ _,_=>rfl
theorem oK {k:Nat} {r:au} (n:Nat):∀ x:List AV,aC n x=true→aC n (wz k r x)=true
 | [],_=>rfl
 | x::l,h=>by
  simp only [aC,Bool.and_eq_true] at h
  simp [wz,aC,wB n x h.1,oK n l h.2]
end
mutual
theorem Fg {k:Nat} {r:au}:∀ x:AV,bn x=true→fz k r x=x
 | .own i,h=>by simp [bn] at h
 | .ptr i o,h=>rfl
 | .elt i a b c,h=>rfl
 | .pre i n,h=>rfl
 | .suf i sz o n,h=>rfl
 | .agg cs,h=>by simp only [fz];rw [nH cs (by simpa [bn] using h)]
 | .tup cs,h=>by simp only [fz];rw [nH cs (by simpa [bn] using h)]
 | .fn f cs,h=>by simp only [fz];rw [nH cs (by simpa [bn] using h)]
 | .cell cs,_=>rfl
 | .dead,_=>rfl
 | .nilS,_=>rfl
 | .bool _,_=>rfl
 | .int _ _,_=>rfl
 | .str _,_=>rfl
 | .ro _,_=>rfl
 | .raw _,_=>rfl
 | .mp _ _,_=>rfl
 | .opt b v,h=>by simp only [fz];rw [Fg v (by simpa [bn] using h)]
theorem nH {k:Nat} {r:au}:∀ x:List AV,aV x=true→wz k r x=x
 | [],_=>rfl
 | x::l,h=>by
  simp only [aV,Bool.and_eq_true] at h
  simp only [wz];rw [Fg x h.1,nH l h.2]
end
mutual
theorem zS (k:Nat) (r:au) (b0:Nat) (hb:b0≤k):∀ x:AV,below b0 x=true→fz k r x=x
 | .own i,h=>by
  simp only [below,decide_eq_true_eq] at h
  simp only [fz];rw [if_neg (by omega)]
 | .ptr i o,h=>rfl
 | .elt i a b c,h=>rfl
 | .pre i n,h=>rfl
 | .suf i sz o n,h=>rfl
 | .agg cs,h=>by simp only [fz];rw [jZ k r b0 hb cs (by simpa [below] using h)]
 | .tup cs,h=>by simp only [fz];rw [jZ k r b0 hb cs (by simpa [below] using h)]
 | .fn f cs,h=>by simp only [fz];rw [jZ k r b0 hb cs (by simpa [below] using h)]
 | .cell cs,_=>rfl
 | .dead,_=>rfl
 | .nilS,_=>rfl
 | .bool _,_=>rfl
 | .int _ _,_=>rfl
 | .str _,_=>rfl
 | .ro _,_=>rfl
 | .raw _,_=>rfl
 | .mp _ _,_=>rfl
 | .opt b v,h=>by simp only [fz];rw [zS k r b0 hb v (by simpa [below] using h)]
theorem jZ (k:Nat) (r:au) (b0:Nat) (hb:b0≤k):∀ x:List AV,aC b0 x=true→wz k r x=x
 | [],_=>rfl
 | x::l,h=>by
  simp only [aC,Bool.and_eq_true] at h
  simp only [wz];rw [zS k r b0 hb x h.1,jZ k r b0 hb l h.2]
end
theorem sV {k:Nat} {r:au}:∀ l:List (List AV),l.all aV=true→l.map (wz k r)=l
 | [],_=>rfl
 | x::l,h=>by
  simp only [List.all_cons,Bool.and_eq_true] at h
  rw [List.map_cons,nH x h.1,sV l h.2]
theorem Iy {k:Nat} {q:au} (r:au) [h:iL r]:Jz k q r=r:=by
 have:=h.ok
 cases r<;>first|rfl|(simp only [Jz];rw [sV _ this])
structure vw (k:Nat) (r:au) (c c':Ctx):Prop where
 n:c'.N=c.N
 m:c'.m=c.m
 t:∀ b,c.T b→b<c.w.heap.size→c'.T b∧c'.w.heap[b]?=c.w.heap[b]?
 ro:Rv c' (.ro r) (c.m k)
mutual
theorem Rv.fz {k:Nat} {r:au} {c c':Ctx} (h:vw k r c c'):∀ {x:AV} {v:Value},Rv c x v→Rv c' (Fv.fz k r x) v
 | _,_,.dead v=>.dead v
 | _,_,.nilS=>.nilS
 | _,_,.bool b=>.bool b
 | _,_,.int q n hk=>.int q n hk
 | _,_,.str s hs=>.str s hs
 | _,_,.roNil r hr hi=>.roNil r (aS.dw h.t hr hi) hi
 | _,_,.ro r a len cap cells hr hl hc hm hs hi=>.ro r a len cap cells (aS.dw h.t hr hi) hl hc hm (hs.mono' h.t) hi
 | _,_,.mp ks vs g es clock hk hv hb hc hT hh hi hi2=>.mp ks vs g es clock (bP.dw h.t hk hi) (bP.dw h.t hv hi2) hb hc (h.t g hT (Array.getElem?_eq_some_iff.1 hh).1).1 (by rw [(h.t g hT (Array.getElem?_eq_some_iff.1 hh).1).2];exact hh) hi hi2
 | _,_,.own i hi h1=>by
  simp only [Fv.fz]
  split
  ·rename_i e;subst e;exact h.ro
  ·rw [←h.m];exact .own i (by rw [h.n];exact hi) (by rw [h.m];exact h1)
 | _,_,.cell cs vs a hl hi hs=>.cell cs vs a (aY.dw h.t hl hi) hi (hs.mono' h.t)
 | _,_,.ptr i off g hi hg=>.ptr i off g (by rw [h.n];exact hi) (by rw [h.m];exact hg)
 | _,_,.elt i a b d g hi hg=>.elt i a b d g (by rw [h.n];exact hi) (by rw [h.m];exact hg)
 | _,_,.pre i n l cap a hi hv hn=>.pre i n l cap a (by rw [h.n];exact hi) (by rw [h.m];exact hv) hn
 | _,_,.suf i sz o n l cap a hi hv hn=>.suf i sz o n l cap a (by rw [h.n];exact hi) (by rw [h.m];exact hv) hn
 | _,_,.agg cs vs hl=>.agg _ vs (aY.fz h hl)
 | _,_,.tup cs vs hl=>.tup _ vs (bP.fz h hl)
 | _,_,.fn f cs vs hl=>.fn f _ vs (bP.fz h hl)
 | _,_,.raw v=>.raw v
 | _,_,.opt b x v hb hx h2=>.opt b _ v (by rw [h.n];exact wB _ _ hb) (fun e=>Rv.fz h (hx e)) h2
theorem aY.fz {k:Nat} {r:au} {c c':Ctx} (h:vw k r c c'):∀ {x:List AV} {v:List Value},aY c x v→aY c' (wz k r x) v
 | _,_,.nil=>.nil
 | _,_,.cons x v l vs hx h1 ht=>.cons _ v _ vs (Rv.fz h hx) h1 (aY.fz h ht)
theorem bP.fz {k:Nat} {r:au} {c c':Ctx} (h:vw k r c c'):∀ {x:List AV} {v:List Value},bP c x v→bP c' (wz k r x) v
 | _,_,.nil=>.nil
 | _,_,.cons x v l vs hx ht=>.cons _ v _ vs (Rv.fz h hx) (bP.fz h ht)
end
theorem aQ.fz {k:Nat} {r:au} {c c':Ctx} (h:vw k r c c'):∀ {sz:Nat} {x:List (List AV)} {v:List Value},aQ c sz x v→aQ c' sz (x.map (wz k r)) v
 | _,_,_,.nil sz=>.nil sz
 | _,_,_,.cons sz o vs l cells ho hl ht=>.cons sz _ vs _ cells (ho.fz h) hl (ht.fz h)
theorem aS.fz {k:Nat} {q:au} {c c':Ctx} (h:vw k q c c') {x:au} {v:List Value} (hr:aS c x v):aS c' (Jz k q x) v:=by
 cases hr with
 | bools l=>exact .bools l
 | ints k l hk=>exact .ints k l hk
 | strs l hs=>exact .strs l hs
 | objs sz l cells hz ho=>exact .objs sz _ _ hz (ho.fz h)
theorem J5 (k:Nat) (q r:au):(Jz k q r).len=r.len:=by cases r<;>simp [Jz,au.len]
theorem Lu (k:Nat) (q r:au):(Jz k q r).sz=r.sz:=by cases r<;>rfl
theorem aK.fz {k:Nat} {q:au} {c c':Ctx} (h:vw k q c c') (hw:c'.w=c.w) {O:Nat→Prop} {v:Value} {it:Item} (hi:aK c O v it):aK c' O v (Iw k q it):=by
 cases it with
 | row e r=>
  obtain ⟨n,cells,hr,hn,ho,hO⟩:=hi
  exact ⟨n,cells,hr.fz h,by rw [J5];exact hn,by rw [Lu,hw];exact ho,hO⟩
 | box e cs=>obtain ⟨g,vs,rfl,hg,hl,hh⟩:=hi;exact ⟨g,vs,rfl,hg,hl.fz h,by rw [hw];exact hh⟩
 | map ks vs=>obtain ⟨g,es,clock,rfl,hg,h1,h2,h3,h4,hh⟩:=hi;exact ⟨g,es,clock,rfl,hg,h1.fz h,h2.fz h,h3,h4,by rw [hw];exact hh⟩
 | iter mp since seen=>obtain ⟨g,p,sn,last,rfl,hg,h1,h2,h3,h4,hh⟩:=hi;exact ⟨g,p,sn,last,rfl,hg,by rw [h.n];exact h1,by rw [h.m];exact h2,h3,h4,by rw [hw];exact hh⟩
 | siter t pos=>obtain ⟨g,rfl,hg,hh⟩:=hi;exact ⟨g,rfl,hg,by rw [hw];exact hh⟩
section
variable {w0:World} {T0:Bs} {b0:Nat}
theorem bJ.fz (k:Nat) {s:S} {e:TypeId} {r:au} (hk:lk s.rows k=some (.row e r)) (hid:cZ r=true) (hb:b0≤k):bJ w0 T0 b0 s (s.fz k r):=by
 rintro H a w hH ⟨m,hm⟩
 have hsub:∀ i it,lk (s.fz k r).rows i=some it→i≠k∧∃ jt,lk s.rows i=some jt∧it=Iw k r jt:=by
  intro i it hi
  simp only [S.fz,jH] at hi
  split at hi
  ·cases hi
  ·rename_i hne
   cases hq:lk s.rows i with
   | none=>rw [hq] at hi;cases hi
   | some jt=>rw [hq] at hi;cases hi;exact ⟨hne,jt,rfl,rfl⟩
 have hdel:∀ i it,lk (del s.rows k) i=some it→lk s.rows i=some it:=iM _ _
 have hro:=Es hm hk hdel (by rw [eY,if_pos rfl]) hid
 have hT:∀ b,allow T0 w0.heap.size m (del s.rows k) b→allow T0 w0.heap.size m (s.fz k r).rows b:=by
  rintro b ⟨h1,h2⟩
  refine ⟨h1,fun i it hi e=>?_⟩
  obtain ⟨hne,jt,hj,_⟩:=hsub i it hi
  exact h2 i jt (by rw [eY,if_neg hne];exact hj) e
 have hc:vw k r (ah T0 w0.heap.size m s w) (ah T0 w0.heap.size m (s.fz k r) w):=
  {n:=rfl,m:=rfl,
   t:=by
    intro b ⟨h1,h2⟩ _
    exact ⟨hT b ⟨h1,fun i it hi=>h2 i it (hdel i it hi)⟩,rfl⟩,
   ro:=by
    refine Rv.dw (c:=ah T0 w0.heap.size m { s with rows:=del s.rows k } w) ?_ hro rfl
    intro b hb _
    exact ⟨hT b hb,rfl⟩ }
 refine ⟨m,{ size:=hm.size,nodef:=hm.nodef,below:=hm.below,env:=?_,held:=?_,rows:=?_,sep:=?_ }⟩
 ·intro q v hv
  simp only [S.fz,Ej] at hv
  cases hq:lk s.env q with
  | none=>rw [hq] at hv;cases hv
  | some y=>rw [hq] at hv;cases hv;exact (hm.env q y hq).fz hc
 ·intro p hp
  have h1:=(hm.held p hp).fz hc
  have h2:Fv.fz k r p.1=p.1:=by
   have hlow:=hH p hp
   exact zS k r b0 hb p.1 hlow
  rwa [h2] at h1
 ·intro i it hi
  obtain ⟨hne,jt,hj,rfl⟩:=hsub i it hi
  exact ⟨(hm.rows i jt hj).1,(hm.rows i jt hj).2.fz hc rfl⟩
 ·intro i j it jt b hi hj hbi hbj
  obtain ⟨_,it',hi',_⟩:=hsub i it hi
  obtain ⟨_,jt',hj',_⟩:=hsub j jt hj
  exact hm.sep i j it' jt' b hi' hj' hbi hbj
end
attribute [go_sem] fz wz Jz Iw MI ql S.fz
end Go.Fv
/-
 The set by which states are held against one another.
-/
namespace Go.Fv
theorem Du (p:Nat→Nat) (x:AV):∀ n:Nat,bW p (List.replicate n x)=List.replicate n (ren p x)
 | 0=>rfl
 | n+1=>by simp only [List.replicate_succ,bW];rw [Du p x n]
theorem vN {N:Nat} {x:AV} (h:below N x=true):∀ n:Nat,aC N (List.replicate n x)=true
 | 0=>rfl
 | n+1=>by simp only [List.replicate_succ,aC,h,Bool.true_and];exact vN h n
theorem y5 {x:AV} (h:bn x=true):∀ n:Nat,aV (List.replicate n x)=true
 | 0=>rfl
 | n+1=>by simp only [List.replicate_succ,aV,h,Bool.true_and];exact y5 h n
theorem Kz {x:AV} (h:bn x=true) (n:Nat) (y:List AV):xU (List.replicate n x) y=[]:=iZ _ y (y5 h n)
theorem Bq (N n:Nat) (b:Bool):aC N (List.replicate n (AV.bool b))=true:=vN rfl n
theorem I7 (n:Nat) (b:Bool) (y:List AV):xU (List.replicate n (AV.bool b)) y=[]:=Kz rfl n y
attribute [go_sem] I8 I4 yX CY tC Jm LM CZ jk kT eP yY FM Ad mkItem mkV xU pm Item.below AV.own.injEq AV.str.injEq AV.ro.injEq AV.agg.injEq AV.tup.injEq List.cons.injEq Option.some.injEq Item.row.injEq Item.box.injEq au.ints.injEq au.bools.injEq au.strs.injEq au.objs.injEq Nat.succ_ne_self Du Bq I7 Iy yV
attribute [go_sem] dA dF pU FT
end Go.Fv
/-
 Calls into the callee's code: what it writes into memory that the caller owns is seen by the caller.
-/
namespace Go.Fv
open Go.RowKit
def JD (P:Program) (res:List ResultVar) (s:S) (K:AV→S→Prop):Exit→S→Prop
 | .normal,s1=>tC P s1 res (fun vs=>K (jk vs) { s with rows:=s1.rows,next:=s1.next })
 | .ret,s1=>tC P s1 res (fun vs=>K (jk vs) { s with rows:=s1.rows,next:=s1.next })
 | _,_=>False
section
variable {P:Program} {w0:World} {T0:Bs}
theorem ak.inl {f:Nat} {fn:Func} {c:Code} {args:List AV} {s:S} {K:AV→S→Prop} (hf:P.funcs[f]?=some fn) (hb:fn.body=some c)
  (hnm:(fn.name == "runtime.NumGoroutine")=false) (hn:args.length≤fn.ntmps) (res:List ResultVar) (hres:fn.results=res.toArray)
  (h:aG P w0 T0 s.next c ⟨fn.ntmps,aH 0 args,s.rows,s.next⟩ (JD P res s K)):@ak P w0 T0 f args s ⟨K⟩:=by
 refine ⟨⟨fn,hf,by rw [hb];rfl,hnm⟩,fun H a w m vals hm hv=>?_⟩
 refine calls_of_wp hf hb ?_
 have hlen:=hv.length
 have hE:∀ p,p∈(s.env.map fun p=>(s.get p.1,a.tmps.getD p.1 undef))++H→Rv (ah T0 w0.heap.size m s w) p.1 p.2:=by
  intro p hp
  rcases List.mem_append.1 hp with hp|hp
  ·obtain ⟨q,_,rfl⟩:=List.mem_map.1 hp
   show Rv _ (s.get q.1) _
   unfold S.get
   cases hl:lk s.env q.1 with
   | none=>exact .dead _
   | some y=>exact hm.env q.1 y hl
  ·exact hm.held p hp
 have hrep:aJ w0 T0 ((s.env.map fun p=>(s.get p.1,a.tmps.getD p.1 undef))++H) ⟨fn.ntmps,aH 0 args,s.rows,s.next⟩ { tmps:=vals.toArray++Array.replicate (fn.ntmps - vals.toArray.size) undef,defers:=[] } w m:=
  {size:=by simp;omega,nodef:=rfl,below:=hm.below,
   env:=by
    intro r v hr
    obtain ⟨u,h1,h2⟩:=oz 0 [] rfl hv r v hr
    have e:((vals.toArray++Array.replicate (fn.ntmps - vals.toArray.size) undef).getD r undef)=u:=by
     have h1':vals[r]?=some u:=by simpa using h1
     have hlt:r<vals.length:=(List.getElem?_eq_some_iff.1 h1').1
     rw [Array.getD_eq_getD_getElem?,Array.getElem?_append_left (by simpa using hlt)]
     simp [h1']
    rw [e];exact h2,
   held:=hE,rows:=hm.rows,sep:=hm.sep }
 refine wp_mono (h _ _ w (fun p hp=>(hE p hp).ids) ⟨m,hrep⟩) ?_
 rintro e a1 w1 ⟨s1,hq,m1,hm1⟩
 have fin:tC P s1 res (fun vs=>K (jk vs) { s with rows:=s1.rows,next:=s1.next })→a1.defers=[]∧∃ v,(results fn a1.tmps).run P w1=.ok v w1∧∃ v',Ending.returned v=.returned v'∧∃ r s',K r s'∧Rep w0 T0 ((r,v')::H) s' a w1:=by
  intro hk
  obtain ⟨l,vs,hk,hr,hvs⟩:=nX hm1 hk
  have hrv:Rv (ah T0 w0.heap.size m1 s1 w1) (jk l) (EF vs):=by
   cases hvs with
   | nil=>exact .tup _ _ .nil
   | cons x v l us hx ht=>
    cases ht with
    | nil=>exact hx
    | cons x' v' l' us' hx' ht'=>exact .tup _ _ (.cons _ _ _ _ hx (.cons _ _ _ _ hx' ht'))
  refine ⟨hm1.nodef,_,jA hres a1.tmps hr,_,rfl,_,_,hk,m1,?_⟩
  exact
     {size:=hm.size,nodef:=hm.nodef,below:=hm1.below,
      env:=by
       intro r v hv
       have hmem:(s.get r,a.tmps.getD r undef)∈(s.env.map fun p=>(s.get p.1,a.tmps.getD p.1 undef))++H:=
        List.mem_append.2 (.inl (List.mem_map.2 ⟨(r,v),bM hv,rfl⟩))
       have:=hm1.held _ hmem
       have e:s.get r=v:=by unfold S.get;rw [show lk s.env r=some v from hv]
       rw [e] at this;exact this,
      held:=by
       intro p hp
       cases List.mem_cons.1 hp with
       | inl e=>subst e;exact hrv
       | inr e=>exact hm1.held p (List.mem_append.2 (.inr e)),
      rows:=hm1.rows,sep:=hm1.sep }
 cases e with
 | normal=>exact fin hq
 | ret=>exact fin hq
 | _=>exact hq.elim
end
end Go.Fv
