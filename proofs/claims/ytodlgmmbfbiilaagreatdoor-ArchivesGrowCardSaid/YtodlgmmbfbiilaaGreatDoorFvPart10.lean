/-
  A part of the proof of the claim: walks over the program's functions and the plain laws that these need. No condition of its own.
-/
import Derived.Test.YtodlgmmbfbiilaaGreatDoorFvPart9
import Derived.Test.YtodlgmmbfbiilaaGreatDoorFvPart8
set_option linter.unusedSectionVars false
set_option linter.unusedVariables false
set_option linter.unusedSimpArgs false
set_option linter.unnecessarySimpa false
/-
 Calls whose results are only read by the caller: they stand as data, and the caller's state stays as it is.
-/
namespace Go.Fv
open Go.RowKit
def fH (rows:List (Nat × Item)) (x y:AV):Prop:=match x with
 | .tup l=>∃ l',aO rows l l'∧y=.tup l'
 | x=>bT rows x y
section
variable {P:Program} {w0:World} {T0:Bs}
theorem pK.ro {T:Nat→Prop} {B:Nat} {w:World} {out out':AV} {rows:List (Nat × Item)} {v:Value} (h:pK T B w out rows v) (ho:fH rows out out'):pK T B w out' [] v:=by
 obtain ⟨m,N,hr,hrows,hsep⟩:=h
 have hblk:∀ i it,lk rows i=some it→∀ b,blk (m i)=some b→B≤b:=fun i it hi b hb=>((hrows i it hi).2.blk b hb).1
 have hl:BN w (⟨w,allow (bs T) B m rows,m,N⟩:Ctx) rows (allow (bs T) B (fun _=>undef) []):=
  {hw:=rfl,t:=fun b hb=>⟨hb.1,fun i it hi=>by simp [lk] at hi⟩,
   own:=fun i e r hi=>by
    obtain ⟨n,cells,hc,hn,hq,_⟩:=(hrows i _ hi).2
    exact ⟨fun b hb=>⟨.inl (hblk i _ hi b hb),fun i it hi=>by simp [lk] at hi⟩,n,cells,hc,hn,hq⟩,
   box:=fun i e cs hi=>by
    obtain ⟨g,vs,hv,hg,hl,hh⟩:=(hrows i _ hi).2
    exact ⟨g,vs,hv,⟨.inl hg,fun i it hi=>by simp [lk] at hi⟩,hl,hh⟩,
   map:=fun i ks vs hi=>by
    obtain ⟨g,es,clock,hv,hg,h1,h2,h3,h4,hh⟩:=(hrows i _ hi).2
    exact ⟨g,es,clock,hv,⟨.inl hg,fun i it hi=>by simp [lk] at hi⟩,h1,h2,h3,h4,hh⟩ }
 refine ⟨fun _=>undef,0,?_,fun i it hi=>by simp [lk] at hi,fun i j it jt b hi=>by simp [lk] at hi⟩
 unfold fH at ho
 split at ho
 ·obtain ⟨l',ha,rfl⟩:=ho
  cases hr with
  | tup _ vs hv=>exact .tup _ _ (nJ hl _ ha hv)
 ·exact wC hl 6 _ ho hr
theorem pK.eP {T:Nat→Prop} {B:Nat} {w:World} {out:AV} {v:Value} (h:pK T B w out [] v):pK T B w out [] v:=h
theorem ah.ro [hG:qL P w0 T0] {f:Nat} {args args':List AV} {out:AV} (out':AV) {rows:List (Nat × Item)} {s:S} {K:AV→S→Prop} (h:fD P f args' out rows) (ha:aO s.rows args args') (ho:fH rows out out') (hn:dA out'=true)
  (hk:K out' s):@ah P w0 T0 f args s ⟨K⟩:=by
 have h':fD P f args' out' []:=⟨h.1,fun w T vals hgl hv=>(h.2 w T vals hgl hv).mono fun e w' ⟨v,he,hb,hq⟩=>⟨v,he,hb,hq.ro ho⟩⟩
 refine ah.fr h' ha 0 (l7 0 _ hn) trivial ?_
 rw [vC _ _ hn]
 exact hk
theorem aC.ro {f:Nat} {args:List AV} {out out':AV} {rows:List (Nat × Item)} (h:aC P f args out rows) (ho:fH rows out out'):aC P f args out' []:=
 ⟨h.1,fun w T vals hgl hv=>(h.2 w T vals hgl hv).mono fun e w' ⟨v,he,hb,hq⟩=>⟨v,he,hb,hq.ro ho⟩⟩
theorem ah.OJ [hG:qL P w0 T0] {f:Nat} {args args':List AV} {out:AV} (out':AV) {rows:List (Nat × Item)} {s:S} {K:AV→S→Prop} (h:aC P f args' out rows) (ha:aO [] args args') (ho:fH rows out out') (hn:dA out'=true)
  (hk:K out' s):@ah P w0 T0 f args s ⟨K⟩:=by
 refine ah.sh s.rows (h.ro ho) [] ha (fun _ _ h=>h) (fun i it hi=>by simp [lk] at hi) 0 (l7 0 _ hn) trivial ?_
 rw [vC _ _ hn]
 exact hk
theorem ah.shr [hG:qL P w0 T0] {f:Nat} {args args':List AV} {out:AV} {rows:List (Nat × Item)} {s:S} {K:AV→S→Prop} (h:aC P f args' out rows) (ha:aO [] args args') (N:Nat) (hN:Fv.below N out=true) (hNr:gG N rows)
  (hk:K (ren (fun j=>s.next+j) out) (s.after s.rows N rows)):@ah P w0 T0 f args s ⟨K⟩:=
 ah.sh s.rows h [] ha (fun _ _ h=>h) (fun i it hi=>by simp [lk] at hi) N hN hNr hk
end
end Go.Fv
/-
 A nil slice in a box, as an owned row without elements.
-/
namespace Go.Fv
open Go.RowKit
section
variable {P:Program} {w0:World} {T0:Bs} {b0:Nat}
theorem bJ.Rx {c:Ctx} {x:AV} (hx:Rv c x (.slice none 0 0)):∀ {cs:List AV} {vs:List Value} {j:Nat},bJ c cs vs→cs[j]?=some .nilS→bJ c (cs.set j x) vs
 | _,_,j,.nil,h=>by simp at h
 | _,_,0,.cons y v l vs hy h1 ht,h=>by
  simp at h;subst h
  cases hy
  exact .cons _ _ _ _ hx h1 ht
 | _,_,j+1,.cons y v l vs hy h1 ht,h=>by
  simp at h
  exact .cons _ _ _ _ hy h1 (ht.Rx hx h)
theorem aK.Vs {s:S} (i:Nat) {t:TypeId} {cs:List AV} (j:Nat) (e:TypeId) {z:Value} (hz:aZ P e z) (hi:lk s.rows i=some (.box t cs)) (hj:cs[j]?=some .nilS) :
  aK w0 T0 b0 s { s with rows:=put ((s.next,.row e (kK z 0))::s.rows) i (.box t (cs.set j (.own s.next))),next:=s.next+1 }:=by
 rintro H a w hH ⟨m,hm⟩
 have hlt:=(hm.rows i _ hi).1
 have h1:=EZ hm hz
 have hi':lk (s.add (.row e (kK z 0))).rows i=some (.box t cs):=by
  simp only [S.add,lk]
  rw [if_neg (by omega)];exact hi
 have h0:=(h1.rows i _ hi').2
 have h2:=h1.upd h1.below hi' (fun _ _ _=>rfl) (.box t (cs.set j (.own s.next))) (fun c hle hw hmm hN=>?_)
 ·exact ⟨_,h2.nI⟩
 ·obtain ⟨g,vs,hv,hg,hl,hh⟩:=h0
  refine ⟨g,vs,hv,hg,?_,by rw [hw];exact hh⟩
  exact (hl.mono hle).Rx ((h1.held _ (.head _)).mono hle) hj
theorem aK.pre {s:S} (r i:Nat) {e:TypeId} {rv:aG} (hr:lk s.env r=some (.own i)) (hi:lk s.rows i=some (.row e rv)):aK w0 T0 b0 s (s.set r (.pre i rv.len)):=by
 rintro H a w hH ⟨m,hm⟩
 refine ⟨m,hm.PZ ?_⟩
 have hx:=hm.env r _ hr
 obtain ⟨k,cells,hrc,hk,how,hO⟩:=(hm.rows i _ hi).2
 generalize a.tmps.getD r undef=v at hx
 cases hx with
 | own _ hi2 h1=>
  rcases how.2 with ⟨hv2,hq⟩|⟨g,cap,cur,fz,hv2,_⟩
  ·have hv:(au T0 w0.heap.size m s w).m i=.slice none 0 0:=hv2
   have h0:rv.len=0:=by omega
   rw [hv,h0]
   exact .pre i 0 0 0 none hi2 hv (Nat.le_refl _)
  ·have hv:(au T0 w0.heap.size m s w).m i=.slice (some ⟨g,0,none⟩) k cap:=hv2
   rw [hv,hk]
   exact .pre i k k cap _ hi2 hv (Nat.le_refl _)
end
end Go.Fv
/-
 What a function value has captured, where nothing of it is the caller's own memory.
-/
namespace Go.Fv
open Go.RowKit
def nS:Nat→AV→Bool
 | 0,_=>false
 | n+1,x=>match x with
  | .agg cs=>cs.all (nS n)
  | .fn _ cs=>cs.all (nS n)
  | .ro _=>true
  | .bool _=>true
  | .int _ _=>true
  | .str _=>true
  | .raw _=>true
  | .cell _=>true
  | .nilS=>true
  | .mp _ _=>true
  | _=>false
theorem qZ:∀ {l:List AV},(∀ x,x∈l→dA x=true)→bM l=true
 | [],_=>rfl
 | x::l,h=>by simp only [bM,Bool.and_eq_true];exact ⟨h x (.head _),qZ fun y hy=>h y (.tail _ hy)⟩
theorem tC:∀ (n:Nat) (x:AV),nS n x=true→dA x=true
 | 0,x,h=>by simp [nS] at h
 | n+1,x,h=>by
  cases x<;>simp only [nS] at h<;>first|rfl|(cases h;done)|skip
  ·simp only [dA];exact qZ fun y hy=>tC n y (List.all_eq_true.1 h y hy)
  ·simp only [dA];exact qZ fun y hy=>tC n y (List.all_eq_true.1 h y hy)
theorem sQ {R:AV→AV→Prop}:∀ {l:List AV},(∀ x,x∈l→R x x)→aT R l l
 | [],_=>rfl
 | x::l,h=>⟨x,l,h x (.head _),sQ fun y hy=>h y (.tail _ hy),rfl⟩
theorem Hq (rows:List (Nat × Item)):∀ (n:Nat) (x:AV),nS n x=true→aF rows n x x
 | 0,x,h=>by simp [nS] at h
 | n+1,x,h=>by
  cases x<;>simp only [nS] at h<;>first|(cases h;done)|skip
  all_goals first|(simp only [aF];done)|(simp only [aF];exact .inl trivial)|(simp only [aF];exact ⟨_,sQ fun y hy=>Hq rows n y (List.all_eq_true.1 h y hy),rfl⟩)|skip
class Ef (caps:List AV):Prop where
 ok:caps.all (nS 5)=true
section
variable {caps:List AV} [h:Ef caps]
theorem wG:bM caps=true:=qZ fun x hx=>tC 5 x (List.all_eq_true.1 h.ok x hx)
theorem Ah:∀ (n:Nat) (x:AV),nS n x=true→nS (n+1) x=true
 | 0,x,h=>by simp [nS] at h
 | n+1,x,h=>by
  cases x<;>simp only [nS] at h ⊢<;>first|(cases h;done)|rfl|skip
  ·exact List.all_eq_true.2 fun y hy=>Ah n y (List.all_eq_true.1 h y hy)
  ·exact List.all_eq_true.2 fun y hy=>Ah n y (List.all_eq_true.1 h y hy)
theorem Oo (p:Nat→Nat):gK p caps=caps:=jM p caps wG
theorem Gm (n:Nat):aP n caps=true:=iC n caps wG
theorem Jj (rows:List (Nat × Item)):aT (aF rows 6) caps caps:=sQ fun x hx=>Hq rows 6 x (Ah 5 x (List.all_eq_true.1 h.ok x hx))
end
mutual
theorem Ia:∀ (x y:AV),dA x=true→mkV x y=[]
 | .own _,_,h=>by simp [dA] at h
 | .ptr _ _,_,h=>by simp [dA] at h
 | .elt _ _ _ _,_,h=>by simp [dA] at h
 | .pre _ _,_,h=>by simp [dA] at h
 | .agg l,y,h=>by simp only [mkV];split<;>first|exact kD l _ (by simpa [dA] using h)|rfl
 | .tup l,y,h=>by simp only [mkV];split<;>first|exact kD l _ (by simpa [dA] using h)|rfl
 | .fn _ l,y,h=>by simp only [mkV];split<;>first|exact kD l _ (by simpa [dA] using h)|rfl
 | .dead,_,_=>rfl
 | .nilS,_,_=>rfl
 | .bool _,_,_=>rfl
 | .int _ _,_,_=>rfl
 | .str _,_,_=>rfl
 | .ro _,_,_=>rfl
 | .cell _,_,_=>rfl
 | .raw _,_,_=>rfl
 | .mp _ _,_,_=>rfl
 | .opt _ x,y,h=>by simp only [mkV];split<;>first|exact Ia x _ (by simpa [dA] using h)|rfl
theorem kD:∀ (x y:List AV),bM x=true→y7 x y=[]
 | [],_,_=>rfl
 | x::l,y,h=>by
  simp only [bM,Bool.and_eq_true] at h
  simp only [y7];split
  ·rw [Ia x _ h.1,kD l _ h.2];rfl
  ·rfl
end
theorem DC:∀ (x y:List (List AV)),x.all bM=true→TQ x y=[]
 | [],_,_=>rfl
 | x::l,y,h=>by
  simp only [List.all_cons,Bool.and_eq_true] at h
  simp only [TQ];split
  ·rw [kD x _ h.1,DC l _ h.2];rfl
  ·rfl
theorem Qq (r r':aG) [h:mV r]:X4 r r'=[]:=by
 have:=h.ok
 cases r<;>cases r'<;>first|rfl|exact DC _ _ this
theorem Qn {caps:List AV} [h:Ef caps] (y:List AV):y7 caps y=[]:=kD caps y wG
end Go.Fv
/-
 The walk of drawn regions, in the set.
-/
namespace Go.Fv
attribute [go_sem] rP OV qI MG nZ oh og NH jO rQ FY zl List.getLast?_concat mapOf UE CY Xr Bool.false_eq_true true_implies UR kR PN OZ Nr Vg Uf Ue Q8 yj nU gX gJ AL Q9 eY UG dY jy gd Oj DY redo ny nR fJ rZ sF Option.toList_some Option.toList_none Oo Gm
end Go.Fv
/-
 Maps whose keys and values are told by lists of plain data.
-/
namespace Go.Fv
def uV {α:Type} [DecidableEq α]:List α→α→Option Nat
 | [],_=>none
 | x::l,k=>if x=k then some 0 else (uV l k).map (·+1)
theorem lX {α:Type} [DecidableEq α] {f:α→AV} (hf:∀ a b,jX (f a) (f b)=decide (a=b)) (x:α):∀ l:List α,dO (l.map f) (f x)=uV l x
 | []=>rfl
 | y::l=>by simp only [List.map_cons,dO,uV,hf,lX hf x l,decide_eq_true_eq]
theorem Hg (l:List (List UInt8)) (n:List UInt8):dO (l.map .str) (.str n)=uV l n:=lX (fun a b=>by simp [jX]) n l
theorem lK {α:Type} [DecidableEq α]:∀ {l:List α} {x:α} {j:Nat},uV l x=some j→l[j]?=some x
 | y::l,x,j,h=>by
  simp only [uV] at h
  split at h
  ·rename_i e;cases h;simp [e]
  ·simp only [Option.map_eq_some_iff] at h
   obtain ⟨i,hi,rfl⟩:=h
   simpa using lK hi
theorem nP {α:Type} [DecidableEq α]:∀ {l:List α} {x:α},uV l x=none↔x∉l
 | [],x=>by simp [uV]
 | y::l,x=>by
  simp only [uV]
  split
  ·rename_i e;simp [e]
  ·rename_i e
   rw [Option.map_eq_none_iff,nP,List.mem_cons,not_or]
   exact ⟨fun h=>⟨fun e'=>e e'.symm,h⟩,fun h=>h.2⟩
theorem Hf {α:Type} [DecidableEq α] (l:List α) (x:α):(uV l x).isSome=decide (x∈l):=by
 cases h:uV l x with
 | none=>simp [nP.1 h]
 | some j=>simp [List.mem_of_getElem? (lK h)]
theorem PU {α:Type} [DecidableEq α] {f:α→AV} (hf:∀ a b,jX (f a) (f b)=decide (a=b)) (l:List α) (x:α):yK (l.map f) (l.map fun _=>.bool true) (f x)=decide (x∈l):=by
 unfold yK oH
 rw [lX hf]
 cases h:uV l x with
 | none=>simp [nP.1 h]
 | some j=>simp [List.mem_of_getElem? (lK h),lK h]
theorem lI (l:List (List UInt8)) (n:List UInt8):yK (l.map .str) (l.map fun _=>.bool true) (.str n)=decide (n∈l):=by
 rw [PU (f:=AV.str) (fun a b=>by simp [jX]) l n];congr
def uU {α:Type} [DecidableEq α] (l:List α) (x:α):List α:=if x∈l then l else l++[x]
theorem OC {α:Type} [DecidableEq α] {f:α→AV} (hf:∀ a b,jX (f a) (f b)=decide (a=b)) (l:List α) (x:α):o9 (l.map f) (f x)=(uU l x).map f:=by
 unfold o9 uU
 rw [lX hf]
 cases h:uV l x with
 | none=>simp [nP.1 h]
 | some j=>simp [List.mem_of_getElem? (lK h)]
theorem D9 {α β:Type} (c:β):∀ (l:List α) (j:Nat),(l.map fun _=>c).set j c=l.map fun _=>c
 | [],_=>rfl
 | _::l,0=>rfl
 | _::l,j+1=>by simp [D9 c l j]
theorem OD {α:Type} [DecidableEq α] {f:α→AV} (hf:∀ a b,jX (f a) (f b)=decide (a=b)) (l:List α) (x:α):Eb (l.map f) (l.map fun _=>.bool true) (f x) (.bool true)=(uU l x).map fun _=>.bool true:=by
 unfold Eb uU
 rw [lX hf]
 cases h:uV l x with
 | none=>simp [nP.1 h]
 | some j=>simp [List.mem_of_getElem? (lK h),D9]
theorem KG (l:List (List UInt8)) (n:List UInt8):o9 (l.map .str) (.str n)=(uU l n).map .str:=OC (fun a b=>by simp [jX]) l n
theorem KH (l:List (List UInt8)) (n:List UInt8):Eb (l.map .str) (l.map fun _=>.bool true) (.str n) (.bool true)=(uU l n).map fun _=>.bool true:=OD (fun a b=>by simp [jX]) l n
theorem SC {α:Type} (l:List α) (f:α→Bool):(l.map fun x=>AV.bool (f x)).all V4=true:=by simp [V4]
theorem D5 {α:Type} (p:Nat→Nat) {f:α→AV} (hf:∀ a,dA (f a)=true) (l:List α):gK p (l.map f)=l.map f:=by
 refine jM p _ ?_
 induction l with
 | nil=>rfl
 | cons x l ih=>simp [bM,hf,ih]
theorem xM {α:Type} (n:Nat) {f:α→AV} (hf:∀ a,dA (f a)=true) (l:List α):aP n (l.map f)=true:=by
 refine iC n _ ?_
 induction l with
 | nil=>rfl
 | cons x l ih=>simp [bM,hf,ih]
theorem JV {α:Type} {f:α→AV} (hf:∀ a,dA (f a)=true) (l:List α):bM (l.map f)=true:=by
 induction l with
 | nil=>rfl
 | cons x l ih=>simp [bM,hf,ih]
theorem H7 {α:Type} {f:α→AV} (hf:∀ a,dA (f a)=true) (l:List α) (y:List AV):y7 (l.map f) y=[]:=kD _ y (JV hf l)
theorem wY (p:Nat→Nat) (l:List (List UInt8)):gK p (l.map .str)=l.map .str:=D5 p (fun _=>rfl) l
theorem pU (n:Nat) (l:List (List UInt8)):aP n (l.map .str)=true:=xM n (fun _=>rfl) l
theorem H8 (l:List (List UInt8)) (y:List AV):y7 (l.map .str) y=[]:=H7 (fun _=>rfl) l y
theorem AU {α:Type} (p:Nat→Nat) (l:List α) (f:α→Bool):gK p (l.map fun x=>.bool (f x))=l.map fun x=>.bool (f x):=D5 p (fun _=>rfl) l
theorem uw {α:Type} (n:Nat) (l:List α) (f:α→Bool):aP n (l.map fun x=>.bool (f x))=true:=xM n (fun _=>rfl) l
theorem DF {α:Type} (l:List α) (f:α→Bool) (y:List AV):y7 (l.map fun x=>.bool (f x)) y=[]:=H7 (fun _=>rfl) l y
attribute [simp] wY pU H8 AU uw DF
attribute [go_sem] wY pU AU uw SC lI KG KH Hg Hf
end Go.Fv
/-
 Small facts about lists.
-/
namespace Go.Fv
theorem getD_lt {α:Type} {l:List α} {i:Nat} {d:α} (h:i<l.length):l.getD i d=l[i]:=by simp [List.getD,h]
theorem EI {l:List Int} {A B:Int} (h:∀ x,x∈l→A≤x∧x≤B) (hA:A≤0) (hB:0≤B) (j:Nat):A≤l.getD j 0∧l.getD j 0≤B:=by
 rw [List.getD_eq_getElem?_getD]
 cases hq:l[j]? with
 | none=>exact ⟨hA,hB⟩
 | some y=>exact h y (List.mem_of_getElem? hq)
theorem AX (p:Nat→Nat):∀ l:List Bool,gK p (l.map .bool)=l.map .bool
 | []=>rfl
 | b::l=>by simp only [List.map_cons,gK,ren];rw [AX p l]
theorem DZ (p:Nat→Nat) (k:IntKind):∀ l:List Int,gK p (l.map (.int k))=l.map (.int k)
 | []=>rfl
 | b::l=>by simp only [List.map_cons,gK,ren];rw [DZ p k l]
theorem oq (n:Nat):∀ l:List Bool,aP n (l.map .bool)=true
 | []=>rfl
 | b::l=>by simp only [List.map_cons,aP,below,Bool.true_and];exact oq n l
theorem xK (n:Nat) (k:IntKind):∀ l:List Int,aP n (l.map (.int k))=true
 | []=>rfl
 | b::l=>by simp only [List.map_cons,aP,below,Bool.true_and];exact xK n k l
theorem DI:∀ (l:List Bool) (y:List AV),y7 (l.map .bool) y=[]
 | [],_=>by simp [y7]
 | b::l,y=>by
  simp only [List.map_cons,y7]
  split
  ·simp only [mkV,List.nil_append];exact DI l _
  ·rfl
theorem H6 (k:IntKind):∀ (l:List Int) (y:List AV),y7 (l.map (.int k)) y=[]
 | [],_=>by simp [y7]
 | b::l,y=>by
  simp only [List.map_cons,y7]
  split
  ·simp only [mkV,List.nil_append];exact H6 k l _
  ·rfl
theorem pO (rows:List (Nat × Item)) (n:Nat):∀ l:List Bool,aT (aF rows (n+1)) (l.map .bool) (l.map .bool)
 | []=>rfl
 | b::l=>⟨.bool b,l.map .bool,by simp [aF],pO rows n l,rfl⟩
theorem Oz (l:List Bool) (i:Nat) (b:Bool):(l.map AV.bool).set i (.bool b)=(l.set i b).map .bool:=by rw [List.map_set]
theorem Ry (l:List Int) (k:IntKind) (i:Nat) (b:Int):(l.map (AV.int k)).set i (.int k b)=(l.set i b).map (.int k):=by rw [List.map_set]
theorem yA:∀ l:List Bool,iU (l.map .bool)=true
 | []=>rfl
 | b::l=>by simp only [List.map_cons,iU,mP,Bool.true_and];exact yA l
theorem Rz:∀ (cs bs:List AV) (off:Nat),off+cs.length≤bs.length→spl bs off cs=bs.take off++cs++bs.drop (off+cs.length)
 | [],bs,off,_=>by simp [spl]
 | c::cs,bs,off,h=>by
  simp only [List.length_cons] at h
  rw [spl,Rz cs _ _ (by simp;omega),List.take_set,List.drop_set,if_pos (by omega)]
  rw [List.take_succ_eq_append_getElem (by omega),List.set_append_right _ _ (by simp;omega)]
  have e:off - (List.take off bs).length=0:=by simp;omega
  rw [e]
  simp only [List.set_cons_zero,List.length_cons,List.append_assoc,List.cons_append,List.nil_append]
  have e2:off+1+cs.length=off+(cs.length+1):=by omega
  rw [e2]
theorem Na {bs cs:List AV} (h:cs.length=bs.length):spl bs 0 cs=cs:=by
 rw [Rz _ _ _ (by omega)];simp [h]
attribute [simp] aI zh gQ Qq
attribute [go_sem] yJ aI zh gQ AX DZ oq xK List.length_map Nat.mul_one Oz Ry
theorem up_add (a b:Nat):(a:Int)+(b:Int)=((a+b:Nat):Int):=rfl
theorem up_mul (a b:Nat):(a:Int)*(b:Int)=((a*b:Nat):Int):=(Int.natCast_mul a b).symm
theorem up_tmod (a b:Nat):(a:Int).tmod (b:Int)=((a%b:Nat):Int):=(Int.ofNat_tmod a b).symm
end Go.Fv
/-! Regions whose order is drawn, where operations that change the state may change places: a tree of these; the others are walked once, and shown again where the heap changes. -/
namespace Go.Fv
open Go.RowKit
inductive uj where
 | done
 | none
 | quiet (i:Nat) (t:uj)
 | eff (i:Nat) (ks:List Nat) (t r:uj)
def fE (ks:List Nat):List (Nat × Acc)→List (Nat × Acc)
 | []=>[]
 | x::l=>bif rZ ks x.1 then x::fE ks l else fE ks l
def MW (P:Program) (w0:World) (T0:Bs) (n:Nat) (o:Oper) (g:Option Bool) (env:List (Nat × AV)) (v:AV) (R:List (Nat × Item)) (N:Nat):Prop:=match g with
 | .none=>Oj P w0 T0 o ⟨n,env,R,N⟩ v
 | .some c=>Fv.below N v=true∧(c=true→Oj P w0 T0 o ⟨n,env,R,N⟩ v)
def sH (P:Program) (w0:World) (T0:Bs) (n:Nat) (R:List (Nat × Item)) (N:Nat):List (Nat × Acc)→Prop
 | []=>True
 |(_,⟨o,g,env,v,_⟩)::l=>MW P w0 T0 n o g env v R N∧sH P w0 T0 n R N l
def fB (P:Program) (w0:World) (T0:Bs) (ops:Array Oper):uj→List (Nat × Acc)→S→(S→Prop)→Prop
 | .done,_,s,Q=>Q s
 | .none,_,_,_=>True
 | .quiet i t,acc,s,Q=>match ops[i]? with
  | .none=>False
  | .some o=>@Vm (gd ops s o) ⟨fun g=>@WV (Q9 P w0 T0 o g s) ⟨
    fun v re=>aX (gX o.dst s.n) (fB P w0 T0 ops t (bif re then (i,⟨o,g,nU g s (eY o.op),v,[]⟩)::acc else acc) (gJ o.dst (yj g v) s) Q),
    mQ P w0 T0 o ⟨s.n,dY s (eY o.op),s.rows,s.next⟩ (fun v t'=>@Ws v t' ⟨fun v R N=>aX (R=s.rows∧N=s.next) (aX (gX o.dst s.n) (fB P w0 T0 ops t ((i,⟨o,g,nU g s (eY o.op),v,[]⟩)::acc) (gJ o.dst v s) Q))⟩),
    @QV ⟨fun v=>AL P w0 T0 o g s v,
     fun v=>aX (gX o.dst s.n) (fB P w0 T0 ops t ((i,⟨o,g,nU g s (eY o.op),v,[]⟩)::acc) (gJ o.dst (yj g v) s) Q)⟩⟩⟩
 | .eff i ks t r,acc,s,Q=>(match ops[i]? with
  | .none=>False
  | .some o=>@Vm (gd ops s o) ⟨fun g=>match g with
   | .none=>@U3 (sF o.op) ⟨
     mQ P w0 T0 o ⟨s.n,dY s (eY o.op),s.rows,s.next⟩ (fun v t'=>@Ws v t' ⟨fun v R N=>sH P w0 T0 s.n R N (fE ks acc)∧aX (gX o.dst s.n) (fB P w0 T0 ops t (fE ks acc) (gJ o.dst v ⟨s.n,s.env,R,N⟩) Q)⟩),
     @QE ⟨fun v R N=>mQ P w0 T0 o ⟨s.n,dY s (eY o.op),s.rows,s.next⟩ (fun r t=>r=v∧t.rows=R∧t.next=N),
      fun v R N=>sH P w0 T0 s.n R N (fE ks acc)∧aX (gX o.dst s.n) (fB P w0 T0 ops t (fE ks acc) (gJ o.dst v ⟨s.n,s.env,R,N⟩) Q)⟩⟩
   | .some c=>@Ite c ⟨@QE ⟨fun v R N=>fJ s (eY o.op)=true∧mQ P w0 T0 o ⟨s.n,jy s (eY o.op),s.rows,s.next⟩ (fun r t=>r=v∧t.rows=R∧t.next=N),
      fun v R N=>sH P w0 T0 s.n R N (fE ks acc)∧aX (gX o.dst s.n) (fB P w0 T0 ops t (fE ks acc) (gJ o.dst (.opt true v) ⟨s.n,s.env,R,N⟩) Q)⟩⟩
     ⟨sH P w0 T0 s.n s.rows s.next (fE ks acc)∧aX (gX o.dst s.n) (fB P w0 T0 ops t (fE ks acc) (gJ o.dst (.opt false (.bool false)) s) Q)⟩⟩)∧fB P w0 T0 ops r acc s Q
/-! ### Which trees are right -/
def GL (ops:Array Oper) (V:Array Bool) (i:Nat):Bool:=match ops[i]? with
 | .some o=>o.after.all fun e=>!Region.binds .any e || V.getD e.on false
 | .none=>false
def altIds:uj→List Nat
 | .eff i _ _ r=>i::altIds r
 | _=>[]
def gW (ops:Array Oper) (T:List Nat):uj→Bool→Array Bool→List Nat→Bool
 | .done,b,V,_=>b && (List.range ops.size).all fun j=>V.getD j false
 | .none,b,_,_=>!b
 | .quiet i t,b,V,Pd=>b && decide (i<ops.size) && !V.getD i false && GL ops V i && gW ops T t true (V.setIfInBounds i true) (i::Pd)
 | .eff i ks t r,b,V,Pd=>(!b || (List.range ops.size).all fun j=>V.getD j false || !GL ops V j || (i::altIds r).contains j) && decide (i<ops.size) && !V.getD i false && GL ops V i && Pd.all (fun j=>pG T i j || rZ ks j) && ks.all (fun j=>Pd.contains j) && gW ops T t true (V.setIfInBounds i true) ks && gW ops T r false V Pd
section
variable {P:Program} {w0:World} {T0:Bs} {b0:Nat} {ops:Array Oper} {T:List Nat} {H:List (AV × Value)} [hG:qL P w0 T0]
def Cl (ops:Array Oper) (V:Array Bool):Prop:=∀ (i:Nat) (o:Oper),ops[i]?=some o→V.getD i false=true→∀ e,e∈o.after→Region.binds .any e=true→V.getD e.on false=true
def Dp (V:Array Bool) (o:Oper):Prop:=∀ e,e∈o.after→Region.binds .any e=true→V.getD e.on false=true
theorem zM {V:Array Bool} {i:Nat} {o:Oper} (ho:ops[i]?=some o):GL ops V i=true↔Dp V o:=by
 unfold GL Dp
 rw [ho]
 dsimp only
 rw [Array.all_eq_true_iff_forall_mem]
 constructor
 ·intro h e he hb
  have:=h e he
  simpa [hb] using this
 ·intro h e he
  cases hb:Region.binds .any e with
  | false=>rfl
  | true=>simpa [hb] using h e he hb
theorem agree (hok:iT ops [] [] T) {s0:S} {vs:List AV} {V V':Array Bool} {i:Nat} {o:Oper} (ho:ops[i]?=some o) (hs:V.size=ops.size) (hs':V'.size=ops.size) (hc:Cl ops V) (hc':Cl ops V') (hd:Dp V o) (hd':Dp V' o) (hi:V.getD i false=false) (hi':V'.getD i false=false) :
  ∀ r,r∈o.looksAt ops→pJ ops s0 vs V r=pJ ops s0 vs V' r:=by
 intro r hr
 have hilt:=(Array.getElem?_eq_some_iff.1 ho).1
 unfold pJ
 cases hx:Jc ops r with
 | none=>rfl
 | some j=>
  obtain ⟨oj,hj,hdj⟩:=jV hx
  have hjlt:=(Array.getElem?_eq_some_iff.1 hj).1
  dsimp only
  rcases hok.look i o r j oj ho hj hdj hr with ⟨hb,_⟩|⟨_,_,hb⟩
  ·rw [iZ hok hs hc i o ho hd j hjlt hb,iZ hok hs' hc' i o ho hd' j hjlt hb]
  ·have no:∀ U:Array Bool,U.size=ops.size→Cl ops U→U.getD i false=false→U.getD j false=false:=by
    intro U h1 h2 h3
    cases hU:U.getD j false with
    | false=>rfl
    | true=>
     have:=iZ hok h1 h2 j oj hj (h2 j oj hj hU) i hilt hb
     rw [h3] at this;cases this
   rw [no V hs hc hi,no V' hs' hc' hi']
theorem rJ {s0:S} {vs:List AV} {V:Array Bool} {i:Nat} {v:AV} (h:V.getD i false=false) (r:Nat):pJ ops s0 (vs.set i v) V r=pJ ops s0 vs V r:=by
 unfold pJ
 split
 ·rename_i j _
  by_cases e:i=j
  ·subst e;rw [h];rfl
  ·simp [List.getD_eq_getElem?_getD,List.getElem?_set,e]
 ·rfl
structure BO (P:Program) (w0:World) (T0:Bs) (ops:Array Oper) (s0:S) (vs:List AV) (V:Array Bool) (Pd:List Nat) (acc:List (Nat × Acc)) (s:S):Prop where
 vsize:V.size=ops.size
 vlen:vs.length=ops.size
 cl:Cl ops V
 n:s.n=s0.n
 sget:∀ r,s.get r=pJ ops s0 vs V r
 pd:∀ j,j∈Pd→V.getD j false=true∧∀ o,ops[j]?=some o→∃ U:Array Bool,U.size=ops.size∧Cl ops U∧(∀ i,U.getD i false=true→V.getD i false=true)∧Dp U o∧U.getD j false=false ∧
  QS P w0 T0 ops o s0.n (pJ ops s0 vs U) (s.rows,s.next) (s.rows,s.next) (vs.getD j .dead) ∧
  ((∀ h,QS P w0 T0 ops o s0.n (pJ ops s0 vs U) h h (vs.getD j .dead))∨∃ x,(j,x)∈acc∧∀ h,mg P w0 T0 s0.n x h→QS P w0 T0 ops o s0.n (pJ ops s0 vs U) h h (vs.getD j .dead))
 put:∀ j o d,V.getD j false=true→ops[j]?=some o→o.dst=some d→d<s0.n
structure RInv (w0:World) (T0:Bs) (H:List (AV × Value)) (ops:Array Oper) (s0:S) (vs:List AV) (V:Array Bool) (Pd:List Nat) (s:S) (L:Array Bool) (env:List (Nat × AV)) (a:Act) (w:World):Prop where
 size:L.size=ops.size
 cl:Cl ops L
 sub:∀ i,L.getD i false=true→V.getD i false=true
 get:∀ r,S.get ⟨s0.n,env,[],0⟩ r=pJ ops s0 vs L r
 rep:Rep w0 T0 H ⟨s0.n,env,s.rows,s.next⟩ a w
 pd:∀ i,V.getD i false=true→L.getD i false=false→i∈Pd
theorem EJ {V:Array Bool} {i:Nat} (h:V.getD i false=true):i<V.size:=by
 rcases Nat.lt_or_ge i V.size with h'|h'
 ·exact h'
 ·simp [Array.getElem?_eq_none h'] at h
theorem Jk (hok:iT ops [] [] T) {L:Array Bool} (hs:L.size=ops.size) (hr:Region.ready .any ops L=[]):∀ i,i<ops.size→L.getD i false=true:=by
 intro i
 induction i using Nat.strongRecOn with
 | _ i ihi=>
  intro hi
  cases hL:L.getD i false with
  | true=>rfl
  | false=>
   exfalso
   obtain ⟨o,ho⟩:∃ o,ops[i]?=some o:=⟨ops[i],Array.getElem?_eq_getElem hi⟩
   have hmem:i∈Region.ready .any ops L:=mem_ready.2 ⟨LY (by rw [hs];exact hi) hL,o,ho,fun e he hb=>ihi e.on (hok.low i o ho e he hb) (Nat.lt_trans (hok.low i o ho e he hb) hi)⟩
   rw [hr] at hmem;cases hmem
theorem Cl.set {V:Array Bool} {i:Nat} {o:Oper} (h:Cl ops V) (ho:ops[i]?=some o) (hd:Dp V o):Cl ops (V.setIfInBounds i true):=by
 intro j oj hj hLj e he hb
 by_cases hij:i=j
 ·subst hij
  rw [ho] at hj;cases hj
  exact getD_set_true (hd e he hb)
 ·rw [getD_set_ne false hij] at hLj
  exact getD_set_true (h j oj hj hLj e he hb)
theorem Nb (hok:iT ops [] [] T) {s0:S} {vs:List AV} {V:Array Bool} {i:Nat} {o:Oper} {g:Nat→AV} (ho:ops[i]?=some o) (hs:V.size=ops.size) (hg:∀ r,g r=pJ ops s0 vs V r) :
  ∀ r,(match o.dst with|some d=>if d=r then vs.getD i .dead else g r|none=>g r)=pJ ops s0 vs (V.setIfInBounds i true) r:=by
 intro r
 have hilt:=(Array.getElem?_eq_some_iff.1 ho).1
 have hV:(V.setIfInBounds i true).getD i false=true:=by
  have:i<V.size:=by rw [hs];exact hilt
  simp [this]
 have old:o.dst≠some r→g r=pJ ops s0 vs (V.setIfInBounds i true) r:=by
  intro hne
  rw [hg r]
  unfold pJ
  cases hx:Jc ops r with
  | none=>rfl
  | some j=>
   dsimp only
   have hij:i≠j:=by
    rintro rfl
    obtain ⟨oj,hj,hdj⟩:=jV hx
    rw [ho] at hj;cases hj
    exact hne hdj
   rw [getD_set_ne false hij]
 cases hd:o.dst with
 | none=>exact old (by rw [hd];simp)
 | some d=>
  dsimp only
  by_cases e:d=r
  ·subst e
   rw [if_pos rfl]
   unfold pJ
   rw [hok.Jc ho hd]
   dsimp only
   rw [hV];rfl
  ·rw [if_neg e]
   exact old (by rw [hd];simpa using e)
theorem G8 {n d r:Nat} {v:AV} {env:List (Nat × AV)} {R:List (Nat × Item)} {N:Nat}:S.get ⟨n,(d,v)::env,R,N⟩ r=if d=r then v else S.get ⟨n,env,R,N⟩ r:=by
 by_cases e:d=r
 ·subst e;simp [S.get,lk]
 ·simp [S.get,lk,e]
theorem RInv.more (hok:iT ops [] [] T) {s0:S} {vs:List AV} {L:Array Bool} {env:List (Nat × AV)} {a:Act} {w':World} {i:Nat} {o:Oper} {R:List (Nat × Item)} {N:Nat} {val:Value}
  (ho:ops[i]?=some o) (hs:L.size=ops.size) (hg:∀ r,S.get ⟨s0.n,env,[],0⟩ r=pJ ops s0 vs L r) (hput:∀ d,o.dst=some d→d<s0.n)
  (hr:Rep w0 T0 ((vs.getD i .dead,val)::H) ⟨s0.n,env,R,N⟩ a w') :
  ∃ env',(∀ r,S.get ⟨s0.n,env',[],0⟩ r=pJ ops s0 vs (L.setIfInBounds i true) r)∧Rep w0 T0 H ⟨s0.n,env',R,N⟩ (a.put o.dst val) w':=by
 obtain ⟨m',hm'⟩:=hr
 have hst:=Nb hok (s0:=s0) (vs:=vs) ho hs hg
 cases hd:o.dst with
 | none=>
  rw [hd] at hst
  exact ⟨env,hst,m',hm'.nI⟩
 | some d=>
  rw [hd] at hst
  have h2:=hm'.nI.VE (hm'.held _ (.head _)) (d:=d) (hput d hd)
  exact ⟨(d,vs.getD i .dead)::env,fun r=>by rw [G8];exact hst r,m',h2⟩
theorem vP {s0:S} (vs:List AV) (m r:Nat):pJ ops s0 vs (Array.replicate m false) r=s0.get r:=by
 unfold pJ
 split
 ·rw [zX];rfl
 ·rfl
theorem G5 (hok:iT ops [] [] T) {s0 s:S} {vs:List AV} {V:Array Bool} {Pd:List Nat} {acc:List (Nat × Acc)} {Q:S→Prop} (hv:BO P w0 T0 ops s0 vs V Pd acc s)
  (hfin:(∀ i,i<ops.size→V.getD i false=true)→Q s)
  (hnew:∀ fuel L env a w,RInv w0 T0 H ops s0 vs V Pd s L env a w→∀ i o,ops[i]?=some o→Dp L o→V.getD i false=false→kN L ops.size=fuel+1→wpOp P ops (fun e a' w'=>e=.normal∧∃ s',Q s'∧Rep w0 T0 H s' a' w') i (wpAny P .any ops (fun e a' w'=>e=.normal∧∃ s',Q s'∧Rep w0 T0 H s' a' w') fuel (L.setIfInBounds i true)) a w) :
  ∀ fuel L env a w,kN L ops.size=fuel→RInv w0 T0 H ops s0 vs V Pd s L env a w→wpAny P .any ops (fun e a' w'=>e=.normal∧∃ s',Q s'∧Rep w0 T0 H s' a' w') fuel L a w:=by
 have fin:∀ (L:Array Bool) (env:List (Nat × AV)) (a:Act) (w:World),(∀ i,i<ops.size→L.getD i false=true)→RInv w0 T0 H ops s0 vs V Pd s L env a w→∃ s',Q s'∧Rep w0 T0 H s' a w:=by
  intro L env a w hall inv
  refine ⟨s,hfin fun i hi=>inv.sub i (hall i hi),?_⟩
  obtain ⟨m,hm⟩:=inv.rep
  refine ⟨m,?_⟩
  refine { size:=by rw [hv.n];exact hm.size,nodef:=hm.nodef,below:=hm.below,held:=hm.held,rows:=hm.rows,sep:=hm.sep,env:=?_ }
  intro r v hvr
  have hg:S.get ⟨s0.n,env,[],0⟩ r=v:=by
   rw [inv.get r]
   have h2:s.get r=v:=by simp [S.get,hvr]
   rw [←h2,hv.sget r]
   unfold pJ
   cases hx:Jc ops r with
   | none=>rfl
   | some j=>
    obtain ⟨o,ho,_⟩:=jV hx
    have hlt:=(Array.getElem?_eq_some_iff.1 ho).1
    dsimp only
    rw [hall j hlt,inv.sub j (hall j hlt)]
  simp only [S.get] at hg
  cases hl:lk env r with
  | none=>rw [hl] at hg;simp only at hg;subst hg;exact .dead _
  | some v'=>rw [hl] at hg;simp only at hg;subst hg;exact hm.env r v' hl
 intro fuel
 induction fuel with
 | zero=>
  intro L env a w hf inv
  have hall:=Aw hf
  refine ⟨?_,rfl,fin L env a w hall inv⟩
  apply List.eq_nil_iff_forall_not_mem.2
  intro j hj
  obtain ⟨h1,o,ho,_⟩:=mem_ready.1 hj
  have hlt:=(Array.getElem?_eq_some_iff.1 ho).1
  have h2:=hall j hlt
  rw [yZ h1] at h2
  cases h2
 | succ fuel ih=>
  intro L env a w hf inv
  refine ⟨fun hr=>⟨rfl,fin L env a w (Jk hok inv.size hr) inv⟩,?_⟩
  intro i hi
  obtain ⟨hun,o,ho,hdep⟩:=mem_ready.1 hi
  have hlt:=(Array.getElem?_eq_some_iff.1 ho).1
  have hL:L.getD i false=false:=yZ hun
  cases hVi:V.getD i false with
  | false=>exact hnew fuel L env a w inv i o ho hdep hVi hf
  | true=>
   obtain ⟨_,h2⟩:=hv.pd i (inv.pd i hVi hL)
   obtain ⟨U,hu1,hu2,hu3,hu4,hu5,hqs,_⟩:=h2 o ho
   unfold wpOp
   rw [ho]
   dsimp only
   have wrap:∀ {A B:Prop} {b:Bool} {C:Prop},(if b=true then A else B)→(if b=true then A∨C else B):=by
    intro A B b C h
    cases b with
    | true=>simpa using Or.inl h
    | false=>simpa using h
   apply wrap
   refine hqs env (fun r hr=>?_) H a w _ _ inv.rep fun val w' hr'=>?_
   ·rw [inv.get r]
    exact agree hok ho inv.size hu1 inv.cl hu2 hdep hu4 hL hu5 r hr
   ·obtain ⟨env',hg',hrep'⟩:=RInv.more hok ho inv.size inv.get (fun d hd=>hv.put i o d hVi ho hd) hr'
    have hop:=rC (by rw [inv.size];exact hlt) hL ops.size
    rw [if_pos hlt] at hop
    refine ih _ env' _ w' (by omega) ⟨by simpa using inv.size,inv.cl.set ho hdep,fun j hj=>?_,hg',hrep',fun j h1 h2=>?_⟩
    ·by_cases e:i=j
     ·subst e;exact hVi
     ·rw [getD_set_ne false e] at hj;exact inv.sub j hj
    ·by_cases e:i=j
     ·subst e
      have:i<L.size:=by rw [inv.size];exact hlt
      simp [this] at h2
     ·rw [getD_set_ne false e] at h2;exact inv.pd j h1 h2
end
theorem mZ {ks:List Nat} {x:Nat × Acc} (hk:rZ ks x.1=true):∀ {l:List (Nat × Acc)},x∈l→x∈fE ks l
 | y::l,h=>by
  unfold fE
  rcases List.mem_cons.1 h with rfl|h
  ·rw [hk];exact .head _
  ·cases rZ ks y.1 with
   | true=>exact .tail _ (mZ hk h)
   | false=>exact mZ hk h
theorem wL {l:List Nat} {i:Nat}:rZ l i=true↔i∈l:=by
 rw [zS];simp
section
variable {P:Program} {w0:World} {T0:Bs} {b0:Nat} {ops:Array Oper} {T:List Nat} {H:List (AV × Value)} [hG:qL P w0 T0]
theorem Ol {n:Nat} {R:List (Nat × Item)} {N:Nat} {x:Nat × Acc} {l:List (Nat × Acc)} (h:sH P w0 T0 n R N l) (hx:x∈l):mg P w0 T0 n x.2 (R,N):=by
 induction l with
 | nil=>cases hx
 | cons y l ih=>
  obtain ⟨j,o,g,env,v,ks⟩:=y
  have h1:MW P w0 T0 n o g env v R N:=h.1
  have h2:sH P w0 T0 n R N l:=h.2
  rcases List.mem_cons.1 hx with rfl|hx
  ·unfold MW at h1;unfold mg
   cases g with
   | none=>exact h1
   | some c=>exact h1
  ·exact ih h2 hx
theorem nH {vs:List AV} {i:Nat} {v:AV} (h:i<vs.length):(vs.set i v).getD i .dead=v:=by
 simp [List.getD_eq_getElem?_getD,h]
theorem yB {vs:List AV} {i j:Nat} {v:AV} (h:i≠j):(vs.set i v).getD j .dead=vs.getD j .dead:=by
 simp [List.getD_eq_getElem?_getD,List.getElem?_set,h]
theorem Iy (hok:iT ops [] [] T) {s0 s:S} {vs:List AV} {V:Array Bool} {i:Nat} {o:Oper} {v:AV} {R:List (Nat × Item)} {N:Nat} (ho:ops[i]?=some o) (hs:V.size=ops.size) (hl:vs.length=ops.size) (hV:V.getD i false=false) (hg:∀ r,s.get r=pJ ops s0 vs V r) :
  ∀ r,(gJ o.dst v ⟨s.n,s.env,R,N⟩).get r=pJ ops s0 (vs.set i v) (V.setIfInBounds i true) r:=by
 intro r
 have hilt:=(Array.getElem?_eq_some_iff.1 ho).1
 have h:=Nb hok (s0:=s0) (vs:=vs.set i v) (g:=s.get) ho hs (fun r=>(hg r).trans (rJ hV r).symm) r
 rw [nH (by omega)] at h
 rw [←h]
 unfold gJ
 cases o.dst with
 | none=>rfl
 | some d=>exact G8
theorem BO.quiet (hok:iT ops [] [] T) {s0 s:S} {vs:List AV} {V:Array Bool} {Pd:List Nat} {acc acc':List (Nat × Acc)} {i:Nat} {o:Oper} {v:AV} (hv:BO P w0 T0 ops s0 vs V Pd acc s) (ho:ops[i]?=some o) (hd:Dp V o) (hV:V.getD i false=false)
  (hq:QS P w0 T0 ops o s.n s.get (s.rows,s.next) (s.rows,s.next) v) (hr:(∀ h,QS P w0 T0 ops o s.n s.get h h v)∨∃ x,(i,x)∈acc'∧∀ h,mg P w0 T0 s.n x h→QS P w0 T0 ops o s.n s.get h h v)
  (hsub:∀ x,x∈acc→x∈acc') (hdst:gX o.dst s.n):BO P w0 T0 ops s0 (vs.set i v) (V.setIfInBounds i true) (i::Pd) acc' (gJ o.dst v s):=by
 have hilt:=(Array.getElem?_eq_some_iff.1 ho).1
 have hVs:(V.setIfInBounds i true).getD i false=true:=by
  have:i<V.size:=by rw [hv.vsize];exact hilt
  simp [this]
 have hup:∀ j,V.getD j false=true→(V.setIfInBounds i true).getD j false=true:=fun j hj=>getD_set_true hj
 have hrows:(gJ o.dst v s).rows=s.rows∧(gJ o.dst v s).next=s.next∧(gJ o.dst v s).n=s.n:=by
  unfold gJ;cases o.dst<;>exact ⟨rfl,rfl,rfl⟩
 have conv:∀ {h h':rW},QS P w0 T0 ops o s.n s.get h h' v→QS P w0 T0 ops o s0.n (pJ ops s0 (vs.set i v) V) h h' ((vs.set i v).getD i .dead):=by
  intro h h' hh
  rw [nH (by rw [hv.vlen];exact hilt),←hv.n]
  exact hh.congr fun r _=>by rw [rJ hV];exact (hv.sget r).symm
 refine ⟨by simpa using hv.vsize,by simpa using hv.vlen,hv.cl.set ho hd,by rw [hrows.2.2];exact hv.n,?_,?_,?_⟩
 ·exact Iy hok (R:=s.rows) (N:=s.next) ho hv.vsize hv.vlen hV hv.sget
 ·intro j hj
  rcases List.mem_cons.1 hj with rfl|hj
  ·refine ⟨hVs,fun o' ho'=>?_⟩
   rw [ho] at ho';cases ho'
   refine ⟨V,hv.vsize,hv.cl,hup,hd,hV,?_,?_⟩
   ·rw [hrows.1,hrows.2.1];exact conv hq
   ·rcases hr with h|⟨x,hx,h⟩
    ·exact .inl fun h'=>conv (h h')
    ·exact .inr ⟨x,hx,fun h' hc=>conv (h h' (by rw [hv.n];exact hc))⟩
  ·obtain ⟨h1,h2⟩:=hv.pd j hj
   have hne:i≠j:=by rintro rfl;rw [hV] at h1;cases h1
   refine ⟨hup j h1,fun o' ho'=>?_⟩
   obtain ⟨U,u1,u2,u3,u4,u5,u6,u7⟩:=h2 o' ho'
   have hUi:U.getD i false=false:=by
    cases hu:U.getD i false with
    | false=>rfl
    | true=>have:=u3 i hu;rw [hV] at this;cases this
   have cv:∀ {h h':rW},QS P w0 T0 ops o' s0.n (pJ ops s0 vs U) h h' (vs.getD j .dead)→QS P w0 T0 ops o' s0.n (pJ ops s0 (vs.set i v) U) h h' ((vs.set i v).getD j .dead):=by
    intro h h' hh
    rw [yB hne]
    exact hh.congr fun r _=>rJ hUi r
   refine ⟨U,u1,u2,fun k hk=>hup k (u3 k hk),u4,u5,?_,?_⟩
   ·rw [hrows.1,hrows.2.1];exact cv u6
   ·rcases u7 with h|⟨x,hx,h⟩
    ·exact .inl fun h'=>cv (h h')
    ·exact .inr ⟨x,hsub _ hx,fun h' hc=>cv (h h' hc)⟩
 ·intro j oj d hj hoj hdj
  by_cases e:i=j
  ·subst e
   rw [ho] at hoj;cases hoj
   rw [hdj] at hdst
   rw [←hv.n];exact hdst
  ·rw [getD_set_ne false e] at hj
   exact hv.put j oj d hj hoj hdj
theorem BO.eff (hok:iT ops [] [] T) {s0 s:S} {vs:List AV} {V:Array Bool} {Pd ks:List Nat} {acc:List (Nat × Acc)} {i:Nat} {o:Oper} {v:AV} {R:List (Nat × Item)} {N:Nat} (hv:BO P w0 T0 ops s0 vs V Pd acc s) (ho:ops[i]?=some o) (hd:Dp V o) (hV:V.getD i false=false)
  (hks:∀ j,j∈ks→j∈Pd) (hre:sH P w0 T0 s.n R N (fE ks acc)) (hdst:gX o.dst s.n):BO P w0 T0 ops s0 (vs.set i v) (V.setIfInBounds i true) ks (fE ks acc) (gJ o.dst v ⟨s.n,s.env,R,N⟩):=by
 have hilt:=(Array.getElem?_eq_some_iff.1 ho).1
 have hup:∀ j,V.getD j false=true→(V.setIfInBounds i true).getD j false=true:=fun j hj=>getD_set_true hj
 have hrows:(gJ o.dst v ⟨s.n,s.env,R,N⟩).rows=R∧(gJ o.dst v ⟨s.n,s.env,R,N⟩).next=N∧(gJ o.dst v ⟨s.n,s.env,R,N⟩).n=s.n:=by
  unfold gJ;cases o.dst<;>exact ⟨rfl,rfl,rfl⟩
 refine ⟨by simpa using hv.vsize,by simpa using hv.vlen,hv.cl.set ho hd,by rw [hrows.2.2];exact hv.n,?_,?_,?_⟩
 ·exact Iy hok ho hv.vsize hv.vlen hV hv.sget
 ·intro j hj
  obtain ⟨h1,h2⟩:=hv.pd j (hks j hj)
  have hne:i≠j:=by rintro rfl;rw [hV] at h1;cases h1
  refine ⟨hup j h1,fun o' ho'=>?_⟩
  obtain ⟨U,u1,u2,u3,u4,u5,u6,u7⟩:=h2 o' ho'
  have hUi:U.getD i false=false:=by
   cases hu:U.getD i false with
   | false=>rfl
   | true=>have:=u3 i hu;rw [hV] at this;cases this
  have cv:∀ {h h':rW},QS P w0 T0 ops o' s0.n (pJ ops s0 vs U) h h' (vs.getD j .dead)→QS P w0 T0 ops o' s0.n (pJ ops s0 (vs.set i v) U) h h' ((vs.set i v).getD j .dead):=by
   intro h h' hh
   rw [yB hne]
   exact hh.congr fun r _=>rJ hUi r
  refine ⟨U,u1,u2,fun k hk=>hup k (u3 k hk),u4,u5,?_,?_⟩
  ·rw [hrows.1,hrows.2.1]
   rcases u7 with h|⟨x,hx,h⟩
   ·exact cv (h _)
   ·have:=Ol hre (mZ (x:=(j,x)) (wL.2 hj) hx)
    rw [hv.n] at this
    exact cv (h _ this)
  ·rcases u7 with h|⟨x,hx,h⟩
   ·exact .inl fun h'=>cv (h h')
   ·exact .inr ⟨x,mZ (x:=(j,x)) (wL.2 hj) hx,fun h' hc=>cv (h h' hc)⟩
 ·intro j oj d hj hoj hdj
  by_cases e:i=j
  ·subst e
   rw [ho] at hoj;cases hoj
   rw [hdj] at hdst
   rw [←hv.n];exact hdst
  ·rw [getD_set_ne false e] at hj
   exact hv.put j oj d hj hoj hdj
theorem quiet_of (hok:iT ops [] [] T) {s:S} {i:Nat} {o:Oper} {t:uj} {acc:List (Nat × Acc)} {Q:S→Prop} (ho:ops[i]?=some o) (h:fB P w0 T0 ops (.quiet i t) acc s Q) :
  ∃ v acc',QS P w0 T0 ops o s.n s.get (s.rows,s.next) (s.rows,s.next) v∧((∀ h,QS P w0 T0 ops o s.n s.get h h v)∨∃ x,(i,x)∈acc'∧∀ h,mg P w0 T0 s.n x h→QS P w0 T0 ops o s.n s.get h h v) ∧
   (∀ x,x∈acc→x∈acc')∧gX o.dst s.n∧fB P w0 T0 ops t acc' (gJ o.dst v s) Q:=by
 have hrd:=hok.reads i o ho
 unfold fB at h
 rw [ho] at h
 dsimp only at h
 cases hg:gd ops s o with
 | none=>rw [hg] at h;exact h.elim
 | some g=>
  rw [hg] at h
  simp only [Vm] at h
  have gen:∀ v,AL P w0 T0 o g s v→gX o.dst s.n→fB P w0 T0 ops t ((i,⟨o,g,nU g s (eY o.op),v,[]⟩)::acc) (gJ o.dst (yj g v) s) Q→∃ v acc',QS P w0 T0 ops o s.n s.get (s.rows,s.next) (s.rows,s.next) v∧((∀ h,QS P w0 T0 ops o s.n s.get h h v)∨∃ x,(i,x)∈acc'∧∀ h,mg P w0 T0 s.n x h→QS P w0 T0 ops o s.n s.get h h v) ∧
   (∀ x,x∈acc→x∈acc')∧gX o.dst s.n∧fB P w0 T0 ops t acc' (gJ o.dst v s) Q:=by
   intro v hA hds hk
   cases g with
   | none=>
    refine ⟨v,_,QS.plain (h:=(s.rows,s.next)) (h':=(s.rows,s.next)) (kZ hg) (oP (h:=(s.rows,s.next)) hrd hA),.inr ⟨_,.head _,fun h hc=>QS.plain (h:=h) (h':=h) (kZ hg) (oP (h:=h) hrd ?_)⟩,fun x hx=>.tail _ hx,hds,hk⟩
    simp only [mg,Oj] at hc
    exact hc
   | some c=>
    refine ⟨.opt c v,_,QS.guarded (h:=(s.rows,s.next)) (h':=(s.rows,s.next)) hg (fun e=>rD (h:=(s.rows,s.next)) hrd (hA.2 e).1 (hA.2 e).2) (fun _=>⟨rfl,hA.1⟩),.inr ⟨_,.head _,fun h hc=>?_⟩,fun x hx=>.tail _ hx,hds,hk⟩
    simp only [mg,Oj] at hc
    exact QS.guarded (h:=h) (h':=h) hg (fun e=>rD (h:=h) hrd (hA.2 e).1 (hc.2 e)) (fun _=>⟨rfl,hc.1⟩)
  unfold Q9 at h
  cases hp:su ⟨s.n,dY s (eY o.op),s.rows,s.next⟩ o.op with
  | some pb=>
   obtain ⟨pre,b⟩:=pb
   rw [hp] at h
   cases g with
   | none=>
    obtain ⟨⟨h1,h2⟩,h3,h4⟩:=h
    have hall:∀ h:rW,QS P w0 T0 ops o s.n s.get h h (.bool b):=fun h=>QS.plain (kZ hg) (uS hrd hp h1 h2)
    exact ⟨_,acc,hall _,.inl hall,fun _ h=>h,h3,h4⟩
   | some c=>
    obtain ⟨h1,h3,h4⟩:=h
    have hall:∀ h:rW,QS P w0 T0 ops o s.n s.get h h (.opt c (.bool b)):=fun h=>QS.guarded hg (fun e=>uS hrd hp (h1 e).1 (h1 e).2) (fun _=>⟨rfl,rfl⟩)
    exact ⟨_,acc,hall _,.inl hall,fun _ h=>h,h3,h4⟩
  | none=>
   rw [hp] at h
   dsimp only at h
   cases hv:PO P ⟨s.n,nU g s (eY o.op),s.rows,s.next⟩ o.op with
   | some v=>
    rw [hv] at h
    obtain ⟨h1,h3,h4⟩:=h
    exact gen v h1 h3 h4
   | none=>
    rw [hv] at h
    cases g with
    | some c=>
     obtain ⟨v,h1,h3,h4⟩:=(h:@QV ⟨_,_⟩)
     exact gen v h1 h3 h4
    | none=>
     cases hl:sF o.op with
     | false=>
      rw [hl] at h
      obtain ⟨v,h1,h3,h4⟩:=(h:@QV ⟨_,_⟩)
      exact gen v h1 h3 h4
     | true=>
      rw [hl] at h
      obtain ⟨v,t,⟨⟨hr,hx⟩,h3,h4⟩,hall⟩:=EP hl _ h
      exact gen v (hall _ ⟨rfl,hr,hx⟩) h3 h4
theorem Vh (hok:iT ops [] [] T) {s:S} {i:Nat} {o:Oper} {ks:List Nat} {t r:uj} {acc:List (Nat × Acc)} {Q:S→Prop} (ho:ops[i]?=some o) (h:fB P w0 T0 ops (.eff i ks t r) acc s Q) :
  (∃ v R N,QS P w0 T0 ops o s.n s.get (s.rows,s.next) (R,N) v∧sH P w0 T0 s.n R N (fE ks acc)∧gX o.dst s.n∧fB P w0 T0 ops t (fE ks acc) (gJ o.dst v ⟨s.n,s.env,R,N⟩) Q)∧fB P w0 T0 ops r acc s Q:=by
 have hrd:=hok.reads i o ho
 unfold fB at h
 rw [ho] at h
 dsimp only at h
 refine ⟨?_,h.2⟩
 have h:=h.1
 cases hg:gd ops s o with
 | none=>rw [hg] at h;exact h.elim
 | some g=>
  rw [hg] at h
  simp only [Vm] at h
  cases g with
  | none=>
   dsimp only at h
   cases hl:sF o.op with
   | false=>
    rw [hl] at h
    obtain ⟨v,R,N,h1,h2,h3,h4⟩:=(h:@QE ⟨_,_⟩)
    exact ⟨v,R,N,QS.plain (h:=(s.rows,s.next)) (h':=(R,N)) (kZ hg) (oP (h:=(s.rows,s.next)) hrd h1),h2,h3,h4⟩
   | true=>
    rw [hl] at h
    obtain ⟨v,t',⟨h2,h3,h4⟩,hall⟩:=EP hl _ h
    exact ⟨v,t'.rows,t'.next,QS.plain (h:=(s.rows,s.next)) (h':=(t'.rows,t'.next)) (kZ hg) (oP (h:=(s.rows,s.next)) hrd (hall _ ⟨rfl,rfl,rfl⟩)),h2,h3,h4⟩
  | some c=>
   dsimp only at h
   cases c with
   | true=>
    obtain ⟨v,R,N,⟨hpc,hA⟩,h2,h3,h4⟩:=h.1 rfl
    exact ⟨.opt true v,R,N,QS.guarded (h:=(s.rows,s.next)) (h':=(R,N)) hg (fun _=>rD (h:=(s.rows,s.next)) hrd hpc hA) (fun e=>by cases e),h2,h3,h4⟩
   | false=>
    obtain ⟨h2,h3,h4⟩:=h.2 rfl
    exact ⟨.opt false (.bool false),s.rows,s.next,QS.guarded (h:=(s.rows,s.next)) (h':=(s.rows,s.next)) hg (fun e=>by cases e) (fun _=>⟨rfl,rfl⟩),h2,h3,h4⟩
theorem JB (hok:iT ops [] [] T) {s0:S} {Q:S→Prop}:∀ t:uj,
  (∀ V Pd acc s vs,gW ops T t true V Pd=true→BO P w0 T0 ops s0 vs V Pd acc s→fB P w0 T0 ops t acc s Q→∀ fuel L env a w,kN L ops.size=fuel→RInv w0 T0 H ops s0 vs V Pd s L env a w→wpAny P .any ops (fun e a' w'=>e=.normal∧∃ s',Q s'∧Rep w0 T0 H s' a' w') fuel L a w) ∧
  (∀ V Pd acc s vs,gW ops T t false V Pd=true→BO P w0 T0 ops s0 vs V Pd acc s→fB P w0 T0 ops t acc s Q→∀ i,i∈altIds t→∀ fuel L env a w,RInv w0 T0 H ops s0 vs V Pd s L env a w→∀ o,ops[i]?=some o→Dp L o→kN L ops.size=fuel+1→wpOp P ops (fun e a' w'=>e=.normal∧∃ s',Q s'∧Rep w0 T0 H s' a' w') i (wpAny P .any ops (fun e a' w'=>e=.normal∧∃ s',Q s'∧Rep w0 T0 H s' a' w') fuel (L.setIfInBounds i true)) a w):=by
 have inL:∀ {V L:Array Bool} {Pd:List Nat} {s:S} {vs:List AV} {env:List (Nat × AV)} {a:Act} {w:World},RInv w0 T0 H ops s0 vs V Pd s L env a w→∀ {o:Oper},Dp L o→Dp V o:=fun inv o hd e he hb=>inv.sub _ (hd e he hb)
 have notL:∀ {V L:Array Bool} {Pd:List Nat} {s:S} {vs:List AV} {env:List (Nat × AV)} {a:Act} {w:World},RInv w0 T0 H ops s0 vs V Pd s L env a w→∀ {i:Nat},V.getD i false=false→L.getD i false=false:=by
  intro V L Pd s vs env a w inv i hi
  cases hL:L.getD i false with
  | false=>rfl
  | true=>have:=inv.sub i hL;rw [hi] at this;cases this
 intro t
 induction t with
 | done=>
  refine ⟨?_,fun V Pd acc s vs hf=>by simp [gW] at hf⟩
  intro V Pd acc s vs hf hv h
  simp only [gW,Bool.true_and] at hf
  have hall:∀ i,i<ops.size→V.getD i false=true:=fun i hi=>List.all_eq_true.1 hf i (List.mem_range.2 hi)
  refine G5 hok hv (fun _=>h) fun fuel L env a w inv i o ho hd hV=>?_
  rw [hall i (Array.getElem?_eq_some_iff.1 ho).1] at hV;cases hV
 | none=>
  exact ⟨fun V Pd acc s vs hf=>by simp [gW] at hf,fun V Pd acc s vs hf hv h i hi=>by cases hi⟩
 | quiet i t ih=>
  refine ⟨?_,fun V Pd acc s vs hf=>by simp [gW] at hf⟩
  intro V Pd acc s vs hf hv h fuel L env a w hfu inv
  simp only [gW,Bool.true_and,Bool.and_eq_true,decide_eq_true_eq,Bool.not_eq_true'] at hf
  obtain ⟨⟨⟨hi,hV⟩,hdp⟩,hf⟩:=hf
  obtain ⟨o,ho⟩:∃ o,ops[i]?=some o:=⟨ops[i],Array.getElem?_eq_getElem hi⟩
  have hd:=(zM ho).1 hdp
  obtain ⟨v,acc',h1,h2,h3,h4,h5⟩:=quiet_of hok ho h
  have hL:=notL inv hV
  refine ih.1 _ _ _ _ _ hf (hv.quiet hok ho hd hV h1 h2 h3 h4) h5 fuel L env a w hfu ?_
  have hrows:(gJ o.dst v s).rows=s.rows∧(gJ o.dst v s).next=s.next:=by unfold gJ;cases o.dst<;>exact ⟨rfl,rfl⟩
  refine ⟨inv.size,inv.cl,fun j hj=>getD_set_true (inv.sub j hj),fun r=>by rw [rJ hL];exact inv.get r,by rw [hrows.1,hrows.2];exact inv.rep,fun j hj hj'=>?_⟩
  by_cases e:i=j
  ·subst e;exact .head _
  ·rw [getD_set_ne false e] at hj
   exact .tail _ (inv.pd j hj hj')
 | eff i ks t r iht ihr=>
  have alt:∀ V Pd acc s vs,gW ops T (.eff i ks t r) false V Pd=true→BO P w0 T0 ops s0 vs V Pd acc s→fB P w0 T0 ops (.eff i ks t r) acc s Q→∀ j,j∈altIds (.eff i ks t r)→∀ fuel L env a w,RInv w0 T0 H ops s0 vs V Pd s L env a w→∀ o,ops[j]?=some o→Dp L o→kN L ops.size=fuel+1→wpOp P ops (fun e a' w'=>e=.normal∧∃ s',Q s'∧Rep w0 T0 H s' a' w') j (wpAny P .any ops (fun e a' w'=>e=.normal∧∃ s',Q s'∧Rep w0 T0 H s' a' w') fuel (L.setIfInBounds j true)) a w:=by
   intro V Pd acc s vs hf hv h j hj fuel L env a w inv o ho hd hfu
   simp only [gW,Bool.not_false,Bool.true_or,Bool.true_and,Bool.and_eq_true,decide_eq_true_eq,Bool.not_eq_true'] at hf
   obtain ⟨⟨⟨⟨⟨⟨hi,hV⟩,hdp⟩,hPd⟩,hks⟩,hft⟩,hfr⟩:=hf
   rcases List.mem_cons.1 (show j∈i::altIds r from hj) with rfl|hj
   ·obtain ⟨⟨v,R,N,hqs,hre,hds,hk⟩,_⟩:=Vh hok ho h
    have hdV:=inL inv hd
    have hL:=notL inv hV
    have hksP:∀ k,k∈ks→k∈Pd:=fun k hk=>by simpa using List.all_eq_true.1 hks k hk
    have hv':=hv.eff (v:=v) (R:=R) (N:=N) hok ho hdV hV hksP hre hds
    unfold wpOp
    rw [ho]
    dsimp only
    have wrap:∀ {A B:Prop} {b:Bool} {C:Prop},(if b=true then A else B)→(if b=true then A∨C else B):=by
     intro A B b C h
     cases b with
     | true=>simpa using Or.inl h
     | false=>simpa using h
    apply wrap
    rw [hv.n] at hqs
    refine hqs env (fun q hq=>?_) H a w _ _ inv.rep fun val w' hr'=>?_
    ·rw [inv.get q,hv.sget q]
     exact agree hok ho inv.size hv.vsize inv.cl hv.cl hd hdV hL hV q hq
    ·have hput:∀ d,o.dst=some d→d<s0.n:=fun d hdd=>by rw [hdd] at hds;rw [←hv.n];exact hds
     have hr2:Rep w0 T0 (((vs.set j v).getD j .dead,val)::H) ⟨s0.n,env,R,N⟩ a w':=by
      rw [nH (by rw [hv.vlen];exact hi)];exact hr'
     obtain ⟨env',hg',hrep'⟩:=RInv.more hok (s0:=s0) (vs:=vs.set j v) ho inv.size (fun r=>by rw [rJ hL];exact inv.get r) hput hr2
     have hop:=rC (by rw [inv.size];exact hi) hL ops.size
     rw [if_pos hi] at hop
     have hrows:(gJ o.dst v ⟨s.n,s.env,R,N⟩).rows=R∧(gJ o.dst v ⟨s.n,s.env,R,N⟩).next=N:=by unfold gJ;cases o.dst<;>exact ⟨rfl,rfl⟩
     refine iht.1 _ _ _ _ _ hft hv' hk fuel _ env' _ w' (by omega) ⟨by simpa using inv.size,inv.cl.set ho hd,fun k hk=>?_,hg',by rw [hrows.1,hrows.2];exact hrep',fun k h1 h2=>?_⟩
     ·by_cases e:j=k
      ·subst e
       have:j<V.size:=by rw [hv.vsize];exact hi
       simp [this]
      ·rw [getD_set_ne false e] at hk ⊢;exact inv.sub k hk
     ·by_cases e:j=k
      ·subst e
       have:j<L.size:=by rw [inv.size];exact hi
       simp [this] at h2
      ·rw [getD_set_ne false e] at h1 h2
       have hkP:=inv.pd k h1 h2
       have:=List.all_eq_true.1 hPd k hkP
       rw [Bool.or_eq_true] at this
       rcases this with hb|hm
       ·have hklt:k<ops.size:=by have:=EJ h1;rw [hv.vsize] at this;exact this
        have:=iZ hok inv.size inv.cl j o ho hd k hklt hb
        rw [h2] at this;cases this
       ·exact wL.1 hm
   ·exact ihr.2 V Pd acc s vs hfr hv h.2 j hj fuel L env a w inv o ho hd hfu
  refine ⟨?_,alt⟩
  intro V Pd acc s vs hf hv h
  have hf':gW ops T (.eff i ks t r) false V Pd=true:=by
   simp only [gW,Bool.not_false,Bool.true_or,Bool.true_and,Bool.and_eq_true] at hf ⊢
   exact ⟨⟨⟨⟨⟨⟨hf.1.1.1.1.1.1.2,hf.1.1.1.1.1.2⟩,hf.1.1.1.1.2⟩,hf.1.1.1.2⟩,hf.1.1.2⟩,hf.1.2⟩,hf.2⟩
  have hcov:∀ j o,ops[j]?=some o→V.getD j false=false→Dp V o→j∈altIds (.eff i ks t r):=by
   intro j o ho hV hd
   simp only [gW,Bool.not_true,Bool.false_or,Bool.and_eq_true] at hf
   have h1:=List.all_eq_true.1 hf.1.1.1.1.1.1.1 j (List.mem_range.2 (Array.getElem?_eq_some_iff.1 ho).1)
   rw [hV,(zM ho).2 hd] at h1
   simpa [altIds] using h1
  have hVi:V.getD i false=false:=by
   simp only [gW,Bool.not_false,Bool.true_or,Bool.true_and,Bool.and_eq_true,decide_eq_true_eq,Bool.not_eq_true'] at hf'
   exact hf'.1.1.1.1.1.2
  have hilt:i<ops.size:=by
   simp only [gW,Bool.not_false,Bool.true_or,Bool.true_and,Bool.and_eq_true,decide_eq_true_eq,Bool.not_eq_true'] at hf'
   exact hf'.1.1.1.1.1.1
  refine G5 hok hv (fun hall=>?_) fun fuel L env a w inv j o ho hd hV hfu=>?_
  ·rw [hall i hilt] at hVi;cases hVi
  ·exact alt V Pd acc s vs hf' hv h j (hcov j o ho hV (inL inv hd)) fuel L env a w inv o ho hd hfu
theorem bC.fork {id:Nat} {s:S} {Q:S→Prop} (t:uj) (hm:P.follows .mixedOrders=true) (hok:Md ops [] [] (Qm ops)=true) (ht:gW ops (Qm ops) t true (Array.replicate ops.size false) []=true)
  (h:fB P w0 T0 ops t [] s Q):@bC P w0 T0 b0 id ops s ⟨Q⟩:=by
 intro H a w _ hr
 refine wp_region_any hm ?_
 have hr':Rep w0 T0 H s a { w with drawn:=w.drawn+1 }:=by
  obtain ⟨m,hm⟩:=hr
  exact ⟨m,hm.drawn⟩
 have ok:=iT.of hok
 have hL:∀ j,(Array.replicate ops.size false).getD j false=false:=fun j=>zX _ j
 have hop:kN (Array.replicate ops.size false) ops.size=ops.size:=by
  unfold kN
  have:(List.range ops.size).countP (fun j=>!(Array.replicate ops.size false).getD j false)=(List.range ops.size).length:=by
   apply List.countP_eq_length.2
   intro j _
   rw [hL j];rfl
  rw [this,List.length_range]
 have hcl:Cl ops (Array.replicate ops.size false):=fun i o _ h=>by rw [hL] at h;cases h
 refine (JB ok (s0:=s) t).1 _ _ _ _ (List.replicate ops.size .dead) ht ⟨by simp,by simp,hcl,rfl,fun r=>(vP _ _ r).symm,(by intro j hj;cases hj),(by intro j o d h;rw [hL] at h;cases h)⟩ h ops.size _ s.env a _ hop
  ⟨by simp,hcl,(by intro i h;rw [hL] at h;cases h),(by intro r;rw [vP];rfl),hr',(by intro i h;rw [hL] at h;cases h)⟩
end
end Go.Fv
/-
 Families of rows: as many owned rows as a list tells, with names one behind the other.
-/
namespace Go.Fv
section
variable {w0:World} {T0:Bs} {b0:Nat}
theorem aK.Yw (p:Nat→Nat) {s s':S} (hn:s'.n=s.n) (hb:b0≤s'.next) (hlow:∀ i,i<b0→p i=i) (he:xU p s s'.next s'.env)
  (hr:∀ i it,lk s'.rows i=some it→i<s'.next∧lk s.rows (p i)=some (it.ren p)∧it.below s'.next=true)
  (hinj:∀ i j it jt,lk s'.rows i=some it→lk s'.rows j=some jt→p i=p j→i=j):aK w0 T0 b0 s s':=by
 rintro H a w hH ⟨m,hm⟩
 have hren:kH p (au T0 w0.heap.size m s w) (au T0 w0.heap.size (fun i=>m (p i)) s' w):=
  {m:=fun _ _=>rfl,
   t:=by
    intro b ⟨h1,h2⟩ _
    refine ⟨⟨h1,fun i it hi e=>?_⟩,rfl⟩
    obtain ⟨_,h3,_⟩:=hr i it hi
    exact h2 _ _ h3 e }
 refine ⟨fun i=>m (p i),{ size:=by rw [hn];exact hm.size,nodef:=hm.nodef,below:=hm.below,env:=?_,held:=?_,rows:=?_,sep:=?_ }⟩
 ·intro r v hv
  obtain ⟨h1,h2⟩:=wJ he r v (dQ hv)
  refine Rv.ren hren v h2 ?_
  have:Rv (au T0 w0.heap.size m s w) (s.get r) (a.tmps.getD r undef):=by
   simp only [S.get]
   cases hq:lk s.env r with
   | none=>exact .dead _
   | some y=>exact hm.env r y hq
  rw [←h1];exact this
 ·intro q hq
  have h1:=hH q hq
  refine Rv.ren hren q.1 (below_le hb _ h1) ?_
  rw [jT hlow _ h1];exact hm.held q hq
 ·intro i it hi
  obtain ⟨h1,h2,h3⟩:=hr i it hi
  exact ⟨h1,aV.ren hren rfl h3 (hm.rows _ _ h2).2⟩
 ·intro i j it jt b hi hj hbi hbj
  obtain ⟨_,h2,_⟩:=hr i it hi
  obtain ⟨_,h2',_⟩:=hr j jt hj
  exact hinj i j it jt hi hj (hm.sep _ _ _ _ b h2 h2' hbi hbj)
end
/-! ### Renamings by hand -/
def p1 (a K x:Nat):Nat:=if x=a then K else x
def p2 (a K a' K' x:Nat):Nat:=if x=a then K else if x=a' then K' else x
end Go.Fv
