/-
  A part of the proof of the claim: walks over the program's functions and the plain laws that these need. No condition of its own.
-/
import Derived.Test.YtodlgmmbfbiilaaGreatDoorFvPart9
import Derived.Test.YtodlgmmbfbiilaaGreatDoorFvPart8
set_option linter.unusedSectionVars false
set_option linter.unusedVariables false
set_option linter.unusedSimpArgs false
set_option linter.unnecessarySimpa false
/-
 Calls whose results are only read by the caller: they stand as data, and the caller's state stays as it is.
-/
namespace Go.Fv
open Go.RowKit
def fK (rows:List (Nat × Item)) (x y:AV):Prop:=match x with
 | .tup l=>∃ l',aU rows l l'∧y=.tup l'
 | x=>dO rows x y
section
variable {P:Program} {w0:World} {T0:Bs}
theorem qB.ro {T:Nat→Prop} {B:Nat} {w:World} {out out':AV} {rows:List (Nat × Item)} {v:Value} (h:qB T B w out rows v) (ho:fK rows out out'):qB T B w out' [] v:=by
 obtain ⟨m,N,hr,hrows,hsep⟩:=h
 have hblk:∀ i it,lk rows i=some it→∀ b,blk (m i)=some b→B≤b:=fun i it hi b hb=>((hrows i it hi).2.blk b hb).1
 have hl:Dq w (⟨w,allow (bs T) B m rows,m,N⟩:Ctx) rows (allow (bs T) B (fun _=>undef) []):=
  {hw:=rfl,t:=fun b hb=>⟨hb.1,fun i it hi=>by simp [lk] at hi⟩,
   own:=fun i e r hi=>by
    obtain ⟨n,cells,hc,hn,hq,_⟩:=(hrows i _ hi).2
    exact ⟨fun b hb=>⟨.inl (hblk i _ hi b hb),fun i it hi=>by simp [lk] at hi⟩,n,cells,hc,hn,hq⟩,
   box:=fun i e cs hi=>by
    obtain ⟨g,vs,hv,hg,hl,hh⟩:=(hrows i _ hi).2
    exact ⟨g,vs,hv,⟨.inl hg,fun i it hi=>by simp [lk] at hi⟩,hl,hh⟩,
   map:=fun i ks vs hi=>by
    obtain ⟨g,es,clock,hv,hg,h1,h2,h3,h4,hh⟩:=(hrows i _ hi).2
    exact ⟨g,es,clock,hv,⟨.inl hg,fun i it hi=>by simp [lk] at hi⟩,h1,h2,h3,h4,hh⟩ }
 refine ⟨fun _=>undef,0,?_,fun i it hi=>by simp [lk] at hi,fun i j it jt b hi=>by simp [lk] at hi⟩
 unfold fK at ho
 split at ho
 ·obtain ⟨l',ha,rfl⟩:=ho
  cases hr with
  | tup _ vs hv=>exact .tup _ _ (nY hl _ ha hv)
 ·exact xA hl 6 _ ho hr
theorem qB.dR {T:Nat→Prop} {B:Nat} {w:World} {out:AV} {v:Value} (h:qB T B w out [] v):qB T B w out [] v:=h
theorem ah.ro [hG:rQ P w0 T0] {f:Nat} {args args':List AV} {out:AV} (out':AV) {rows:List (Nat × Item)} {s:S} {K:AV→S→Prop} (h:dG P f args' out rows) (ha:aU s.rows args args') (ho:fK rows out out') (hn:cu out'=true)
  (hk:K out' s):@ah P w0 T0 f args s ⟨K⟩:=by
 have h':dG P f args' out' []:=⟨h.1,fun w T vals hgl hv=>(h.2 w T vals hgl hv).mono fun e w' ⟨v,he,hb,hq⟩=>⟨v,he,hb,hq.ro ho⟩⟩
 refine ah.fr h' ha 0 (mD 0 _ hn) trivial ?_
 rw [wB _ _ hn]
 exact hk
theorem aC.ro {f:Nat} {args:List AV} {out out':AV} {rows:List (Nat × Item)} (h:aC P f args out rows) (ho:fK rows out out'):aC P f args out' []:=
 ⟨h.1,fun w T vals hgl hv=>(h.2 w T vals hgl hv).mono fun e w' ⟨v,he,hb,hq⟩=>⟨v,he,hb,hq.ro ho⟩⟩
theorem ah.YO [hG:rQ P w0 T0] {f:Nat} {args args':List AV} {out:AV} (out':AV) {rows:List (Nat × Item)} {s:S} {K:AV→S→Prop} (h:aC P f args' out rows) (ha:aU [] args args') (ho:fK rows out out') (hn:cu out'=true)
  (hk:K out' s):@ah P w0 T0 f args s ⟨K⟩:=by
 refine ah.sh s.rows (h.ro ho) [] ha (fun _ _ h=>h) (fun i it hi=>by simp [lk] at hi) 0 (mD 0 _ hn) trivial ?_
 rw [wB _ _ hn]
 exact hk
theorem ah.shr [hG:rQ P w0 T0] {f:Nat} {args args':List AV} {out:AV} {rows:List (Nat × Item)} {s:S} {K:AV→S→Prop} (h:aC P f args' out rows) (ha:aU [] args args') (N:Nat) (hN:Fv.below N out=true) (hNr:iq N rows)
  (hk:K (ren (fun j=>s.next+j) out) (s.after s.rows N rows)):@ah P w0 T0 f args s ⟨K⟩:=
 ah.sh s.rows h [] ha (fun _ _ h=>h) (fun i it hi=>by simp [lk] at hi) N hN hNr hk
end
end Go.Fv
/-
 A nil slice in a box, as an owned row without elements.
-/
namespace Go.Fv
open Go.RowKit
section
variable {P:Program} {w0:World} {T0:Bs} {b0:Nat}
theorem bJ.UJ {c:Ctx} {x:AV} (hx:Rv c x (.slice none 0 0)):∀ {cs:List AV} {vs:List Value} {j:Nat},bJ c cs vs→cs[j]?=some .nilS→bJ c (cs.set j x) vs
 | _,_,j,.nil,h=>by simp at h
 | _,_,0,.cons y v l vs hy h1 ht,h=>by
  simp at h;subst h
  cases hy
  exact .cons _ _ _ _ hx h1 ht
 | _,_,j+1,.cons y v l vs hy h1 ht,h=>by
  simp at h
  exact .cons _ _ _ _ hy h1 (ht.UJ hx h)
theorem aO.jS {s:S} (i:Nat) {t:TypeId} {cs:List AV} (j:Nat) (e:TypeId) {z:Value} (hz:aX P e z) (hi:lk s.rows i=some (.box t cs)) (hj:cs[j]?=some .nilS) :
  aO w0 T0 b0 s { s with rows:=put ((s.next,.row e (kY z 0))::s.rows) i (.box t (cs.set j (.own s.next))),next:=s.next+1 }:=by
 rintro H a w hH ⟨m,hm⟩
 have hlt:=(hm.rows i _ hi).1
 have h1:=Gq hm hz
 have hi':lk (s.add (.row e (kY z 0))).rows i=some (.box t cs):=by
  simp only [S.add,lk]
  rw [if_neg (by omega)];exact hi
 have h0:=(h1.rows i _ hi').2
 have h2:=h1.upd h1.below hi' (fun _ _ _=>rfl) (.box t (cs.set j (.own s.next))) (fun c hle hw hmm hN=>?_)
 ·exact ⟨_,h2.nX⟩
 ·obtain ⟨g,vs,hv,hg,hl,hh⟩:=h0
  refine ⟨g,vs,hv,hg,?_,by rw [hw];exact hh⟩
  exact (hl.mono hle).UJ ((h1.held _ (.head _)).mono hle) hj
theorem aO.pre {s:S} (r i:Nat) {e:TypeId} {rv:aF} (hr:lk s.env r=some (.own i)) (hi:lk s.rows i=some (.row e rv)):aO w0 T0 b0 s (s.set r (.pre i rv.len)):=by
 rintro H a w hH ⟨m,hm⟩
 refine ⟨m,hm.Tf ?_⟩
 have hx:=hm.env r _ hr
 obtain ⟨k,cells,hrc,hk,how,hO⟩:=(hm.rows i _ hi).2
 generalize a.tmps.getD r undef=v at hx
 cases hx with
 | own _ hi2 h1=>
  rcases how.2 with ⟨hv2,hq⟩|⟨g,cap,cur,fz,hv2,_⟩
  ·have hv:(au T0 w0.heap.size m s w).m i=.slice none 0 0:=hv2
   have h0:rv.len=0:=by omega
   rw [hv,h0]
   exact .pre i 0 0 0 none hi2 hv (Nat.le_refl _)
  ·have hv:(au T0 w0.heap.size m s w).m i=.slice (some ⟨g,0,none⟩) k cap:=hv2
   rw [hv,hk]
   exact .pre i k k cap _ hi2 hv (Nat.le_refl _)
end
end Go.Fv
/-
 What a function value has captured, where nothing of it is the caller's own memory.
-/
namespace Go.Fv
open Go.RowKit
def oH:Nat→AV→Bool
 | 0,_=>false
 | n+1,x=>match x with
  | .agg cs=>cs.all (oH n)
  | .fn _ cs=>cs.all (oH n)
  | .ro _=>true
  | .bool _=>true
  | .int _ _=>true
  | .str _=>true
  | .raw _=>true
  | .cell _=>true
  | .nilS=>true
  | .mp _ _=>true
  | _=>false
theorem sO:∀ {l:List AV},(∀ x,x∈l→cu x=true)→bM l=true
 | [],_=>rfl
 | x::l,h=>by simp only [bM,Bool.and_eq_true];exact ⟨h x (.head _),sO fun y hy=>h y (.tail _ hy)⟩
theorem uF:∀ (n:Nat) (x:AV),oH n x=true→cu x=true
 | 0,x,h=>by simp [oH] at h
 | n+1,x,h=>by
  cases x<;>simp only [oH] at h<;>first|rfl|(cases h;done)|skip
  ·simp only [cu];exact sO fun y hy=>uF n y (List.all_eq_true.1 h y hy)
  ·simp only [cu];exact sO fun y hy=>uF n y (List.all_eq_true.1 h y hy)
theorem uo {R:AV→AV→Prop}:∀ {l:List AV},(∀ x,x∈l→R x x)→bD R l l
 | [],_=>rfl
 | x::l,h=>⟨x,l,h x (.head _),uo fun y hy=>h y (.tail _ hy),rfl⟩
theorem Jl (rows:List (Nat × Item)):∀ (n:Nat) (x:AV),oH n x=true→aH rows n x x
 | 0,x,h=>by simp [oH] at h
 | n+1,x,h=>by
  cases x<;>simp only [oH] at h<;>first|(cases h;done)|skip
  all_goals first|(simp only [aH];done)|(simp only [aH];exact .inl trivial)|(simp only [aH];exact ⟨_,uo fun y hy=>Jl rows n y (List.all_eq_true.1 h y hy),rfl⟩)|skip
class qA (caps:List AV):Prop where
 ok:caps.all (oH 5)=true
section
variable {caps:List AV} [h:qA caps]
theorem xE:bM caps=true:=sO fun x hx=>uF 5 x (List.all_eq_true.1 h.ok x hx)
theorem Bh:∀ (n:Nat) (x:AV),oH n x=true→oH (n+1) x=true
 | 0,x,h=>by simp [oH] at h
 | n+1,x,h=>by
  cases x<;>simp only [oH] at h ⊢<;>first|(cases h;done)|rfl|skip
  ·exact List.all_eq_true.2 fun y hy=>Bh n y (List.all_eq_true.1 h y hy)
  ·exact List.all_eq_true.2 fun y hy=>Bh n y (List.all_eq_true.1 h y hy)
theorem QA (p:Nat→Nat):gG p caps=caps:=jT p caps xE
theorem Iq (n:Nat):aK n caps=true:=gX n caps xE
theorem Ah (rows:List (Nat × Item)):bD (aH rows 6) caps caps:=uo fun x hx=>Jl rows 6 x (Bh 5 x (List.all_eq_true.1 h.ok x hx))
end
mutual
theorem JA:∀ (x y:AV),cu x=true→mkV x y=[]
 | .own _,_,h=>by simp [cu] at h
 | .ptr _ _,_,h=>by simp [cu] at h
 | .elt _ _ _ _,_,h=>by simp [cu] at h
 | .pre _ _,_,h=>by simp [cu] at h
 | .agg l,y,h=>by simp only [mkV];split<;>first|exact kM l _ (by simpa [cu] using h)|rfl
 | .tup l,y,h=>by simp only [mkV];split<;>first|exact kM l _ (by simpa [cu] using h)|rfl
 | .fn _ l,y,h=>by simp only [mkV];split<;>first|exact kM l _ (by simpa [cu] using h)|rfl
 | .dead,_,_=>rfl
 | .nilS,_,_=>rfl
 | .bool _,_,_=>rfl
 | .int _ _,_,_=>rfl
 | .str _,_,_=>rfl
 | .ro _,_,_=>rfl
 | .cell _,_,_=>rfl
 | .raw _,_,_=>rfl
 | .mp _ _,_,_=>rfl
 | .opt _ x,y,h=>by simp only [mkV];split<;>first|exact JA x _ (by simpa [cu] using h)|rfl
theorem kM:∀ (x y:List AV),bM x=true→zM x y=[]
 | [],_,_=>rfl
 | x::l,y,h=>by
  simp only [bM,Bool.and_eq_true] at h
  simp only [zM];split
  ·rw [JA x _ h.1,kM l _ h.2];rfl
  ·rfl
end
theorem EG:∀ (x y:List (List AV)),x.all bM=true→Ws x y=[]
 | [],_,_=>rfl
 | x::l,y,h=>by
  simp only [List.all_cons,Bool.and_eq_true] at h
  simp only [Ws];split
  ·rw [kM x _ h.1,EG l _ h.2];rfl
  ·rfl
theorem TR (r r':aF) [h:ni r]:mkR r r'=[]:=by
 have:=h.ok
 cases r<;>cases r'<;>first|rfl|exact EG _ _ this
theorem TN {caps:List AV} [h:qA caps] (y:List AV):zM caps y=[]:=kM caps y xE
end Go.Fv
/-
 The walk of drawn regions, in the set.
-/
namespace Go.Fv
attribute [go_sem] tu Rt rM OJ oP oU oQ PV jW tC H6 zW List.getLast?_concat mapOf Xn D7 ZN Bool.false_eq_true true_implies XB lq SV Rx Po X0 WL WJ Us Ju y5 oq mY JU Yl ig Xq eX jK gd Ut ES redo nP oG fA vO A8 Option.toList_some Option.toList_none QA Iq
end Go.Fv
/-
 Maps whose keys and values are told by lists of plain data.
-/
namespace Go.Fv
def vY {α:Type} [DecidableEq α]:List α→α→Option Nat
 | [],_=>none
 | x::l,k=>if x=k then some 0 else (vY l k).map (·+1)
theorem mg {α:Type} [DecidableEq α] {f:α→AV} (hf:∀ a b,kG (f a) (f b)=decide (a=b)) (x:α):∀ l:List α,dA (l.map f) (f x)=vY l x
 | []=>rfl
 | y::l=>by simp only [List.map_cons,dA,vY,hf,mg hf x l,decide_eq_true_eq]
theorem Ji (l:List (List UInt8)) (n:List UInt8):dA (l.map .str) (.str n)=vY l n:=mg (fun a b=>by simp [kG]) n l
theorem lQ {α:Type} [DecidableEq α]:∀ {l:List α} {x:α} {j:Nat},vY l x=some j→l[j]?=some x
 | y::l,x,j,h=>by
  simp only [vY] at h
  split at h
  ·rename_i e;cases h;simp [e]
  ·simp only [Option.map_eq_some_iff] at h
   obtain ⟨i,hi,rfl⟩:=h
   simpa using lQ hi
theorem oD {α:Type} [DecidableEq α]:∀ {l:List α} {x:α},vY l x=none↔x∉l
 | [],x=>by simp [vY]
 | y::l,x=>by
  simp only [vY]
  split
  ·rename_i e;simp [e]
  ·rename_i e
   rw [Option.map_eq_none_iff,oD,List.mem_cons,not_or]
   exact ⟨fun h=>⟨fun e'=>e e'.symm,h⟩,fun h=>h.2⟩
theorem Jh {α:Type} [DecidableEq α] (l:List α) (x:α):(vY l x).isSome=decide (x∈l):=by
 cases h:vY l x with
 | none=>simp [oD.1 h]
 | some j=>simp [List.mem_of_getElem? (lQ h)]
theorem SY {α:Type} [DecidableEq α] {f:α→AV} (hf:∀ a b,kG (f a) (f b)=decide (a=b)) (l:List α) (x:α):zu (l.map f) (l.map fun _=>.bool true) (f x)=decide (x∈l):=by
 unfold zu pJ
 rw [mg hf]
 cases h:vY l x with
 | none=>simp [oD.1 h]
 | some j=>simp [List.mem_of_getElem? (lQ h),lQ h]
theorem sJ (l:List (List UInt8)) (n:List UInt8):zu (l.map .str) (l.map fun _=>.bool true) (.str n)=decide (n∈l):=by
 rw [SY (f:=AV.str) (fun a b=>by simp [kG]) l n];congr
def DC {α:Type} [DecidableEq α] (l:List α) (x:α):List α:=if x∈l then l else l++[x]
theorem QZ {α:Type} [DecidableEq α] {f:α→AV} (hf:∀ a b,kG (f a) (f b)=decide (a=b)) (l:List α) (x:α):qo (l.map f) (f x)=(DC l x).map f:=by
 unfold qo DC
 rw [mg hf]
 cases h:vY l x with
 | none=>simp [oD.1 h]
 | some j=>simp [List.mem_of_getElem? (lQ h)]
theorem Fa {α β:Type} (c:β):∀ (l:List α) (j:Nat),(l.map fun _=>c).set j c=l.map fun _=>c
 | [],_=>rfl
 | _::l,0=>rfl
 | _::l,j+1=>by simp [Fa c l j]
theorem Q5 {α:Type} [DecidableEq α] {f:α→AV} (hf:∀ a b,kG (f a) (f b)=decide (a=b)) (l:List α) (x:α):Fg (l.map f) (l.map fun _=>.bool true) (f x) (.bool true)=(DC l x).map fun _=>.bool true:=by
 unfold Fg DC
 rw [mg hf]
 cases h:vY l x with
 | none=>simp [oD.1 h]
 | some j=>simp [List.mem_of_getElem? (lQ h),Fa]
theorem Nv (l:List (List UInt8)) (n:List UInt8):qo (l.map .str) (.str n)=(DC l n).map .str:=QZ (fun a b=>by simp [kG]) l n
theorem Nw (l:List (List UInt8)) (n:List UInt8):Fg (l.map .str) (l.map fun _=>.bool true) (.str n) (.bool true)=(DC l n).map fun _=>.bool true:=Q5 (fun a b=>by simp [kG]) l n
theorem Vl {α:Type} (l:List α) (f:α→Bool):(l.map fun x=>AV.bool (f x)).all YJ=true:=by simp [YJ]
theorem EU {α:Type} (p:Nat→Nat) {f:α→AV} (hf:∀ a,cu (f a)=true) (l:List α):gG p (l.map f)=l.map f:=by
 refine jT p _ ?_
 induction l with
 | nil=>rfl
 | cons x l ih=>simp [bM,hf,ih]
theorem yN {α:Type} (n:Nat) {f:α→AV} (hf:∀ a,cu (f a)=true) (l:List α):aK n (l.map f)=true:=by
 refine gX n _ ?_
 induction l with
 | nil=>rfl
 | cons x l ih=>simp [bM,hf,ih]
theorem MB {α:Type} {f:α→AV} (hf:∀ a,cu (f a)=true) (l:List α):bM (l.map f)=true:=by
 induction l with
 | nil=>rfl
 | cons x l ih=>simp [bM,hf,ih]
theorem Jw {α:Type} {f:α→AV} (hf:∀ a,cu (f a)=true) (l:List α) (y:List AV):zM (l.map f) y=[]:=kM _ y (MB hf l)
theorem yc (p:Nat→Nat) (l:List (List UInt8)):gG p (l.map .str)=l.map .str:=EU p (fun _=>rfl) l
theorem qF (n:Nat) (l:List (List UInt8)):aK n (l.map .str)=true:=yN n (fun _=>rfl) l
theorem Jy (l:List (List UInt8)) (y:List AV):zM (l.map .str) y=[]:=Jw (fun _=>rfl) l y
theorem BP {α:Type} (p:Nat→Nat) (l:List α) (f:α→Bool):gG p (l.map fun x=>.bool (f x))=l.map fun x=>.bool (f x):=EU p (fun _=>rfl) l
theorem vC {α:Type} (n:Nat) (l:List α) (f:α→Bool):aK n (l.map fun x=>.bool (f x))=true:=yN n (fun _=>rfl) l
theorem EH {α:Type} (l:List α) (f:α→Bool) (y:List AV):zM (l.map fun x=>.bool (f x)) y=[]:=Jw (fun _=>rfl) l y
attribute [simp] yc qF Jy BP vC EH
attribute [go_sem] yc qF BP vC Vl sJ Nv Nw Ji Jh
end Go.Fv
/-
 Small facts about lists.
-/
namespace Go.Fv
theorem getD_lt {α:Type} {l:List α} {i:Nat} {d:α} (h:i<l.length):l.getD i d=l[i]:=by simp [List.getD,h]
theorem Ov {l:List Int} {A B:Int} (h:∀ x,x∈l→A≤x∧x≤B) (hA:A≤0) (hB:0≤B) (j:Nat):A≤l.getD j 0∧l.getD j 0≤B:=by
 rw [List.getD_eq_getElem?_getD]
 cases hq:l[j]? with
 | none=>exact ⟨hA,hB⟩
 | some y=>exact h y (List.mem_of_getElem? hq)
theorem BQ (p:Nat→Nat):∀ l:List Bool,gG p (l.map .bool)=l.map .bool
 | []=>rfl
 | b::l=>by simp only [List.map_cons,gG,ren];rw [BQ p l]
theorem ET (p:Nat→Nat) (k:IntKind):∀ l:List Int,gG p (l.map (.int k))=l.map (.int k)
 | []=>rfl
 | b::l=>by simp only [List.map_cons,gG,ren];rw [ET p k l]
theorem oZ (n:Nat):∀ l:List Bool,aK n (l.map .bool)=true
 | []=>rfl
 | b::l=>by simp only [List.map_cons,aK,below,Bool.true_and];exact oZ n l
theorem yM (n:Nat) (k:IntKind):∀ l:List Int,aK n (l.map (.int k))=true
 | []=>rfl
 | b::l=>by simp only [List.map_cons,aK,below,Bool.true_and];exact yM n k l
theorem EI:∀ (l:List Bool) (y:List AV),zM (l.map .bool) y=[]
 | [],_=>by simp [zM]
 | b::l,y=>by
  simp only [List.map_cons,zM]
  split
  ·simp only [mkV,List.nil_append];exact EI l _
  ·rfl
theorem Jv (k:IntKind):∀ (l:List Int) (y:List AV),zM (l.map (.int k)) y=[]
 | [],_=>by simp [zM]
 | b::l,y=>by
  simp only [List.map_cons,zM]
  split
  ·simp only [mkV,List.nil_append];exact Jv k l _
  ·rfl
theorem qE (rows:List (Nat × Item)) (n:Nat):∀ l:List Bool,bD (aH rows (n+1)) (l.map .bool) (l.map .bool)
 | []=>rfl
 | b::l=>⟨.bool b,l.map .bool,by simp [aH],qE rows n l,rfl⟩
theorem QM (l:List Bool) (i:Nat) (b:Bool):(l.map AV.bool).set i (.bool b)=(l.set i b).map .bool:=by rw [List.map_set]
theorem UL (l:List Int) (k:IntKind) (i:Nat) (b:Int):(l.map (AV.int k)).set i (.int k b)=(l.set i b).map (.int k):=by rw [List.map_set]
theorem y9:∀ l:List Bool,jA (l.map .bool)=true
 | []=>rfl
 | b::l=>by simp only [List.map_cons,jA,oK,Bool.true_and];exact y9 l
theorem UO:∀ (cs bs:List AV) (off:Nat),off+cs.length≤bs.length→spl bs off cs=bs.take off++cs++bs.drop (off+cs.length)
 | [],bs,off,_=>by simp [spl]
 | c::cs,bs,off,h=>by
  simp only [List.length_cons] at h
  rw [spl,UO cs _ _ (by simp;omega),List.take_set,List.drop_set,if_pos (by omega)]
  rw [List.take_succ_eq_append_getElem (by omega),List.set_append_right _ _ (by simp;omega)]
  have e:off - (List.take off bs).length=0:=by simp;omega
  rw [e]
  simp only [List.set_cons_zero,List.length_cons,List.append_assoc,List.cons_append,List.nil_append]
  have e2:off+1+cs.length=off+(cs.length+1):=by omega
  rw [e2]
theorem O5 {bs cs:List AV} (h:cs.length=bs.length):spl bs 0 cs=cs:=by
 rw [UO _ _ _ (by omega)];simp [h]
attribute [simp] aT zO iU TR
attribute [go_sem] zq aT zO iU BQ ET oZ yM List.length_map Nat.mul_one QM UL
theorem up_add (a b:Nat):(a:Int)+(b:Int)=((a+b:Nat):Int):=rfl
theorem up_mul (a b:Nat):(a:Int)*(b:Int)=((a*b:Nat):Int):=(Int.natCast_mul a b).symm
theorem up_tmod (a b:Nat):(a:Int).tmod (b:Int)=((a%b:Nat):Int):=(Int.ofNat_tmod a b).symm
theorem up_tdiv (a b:Nat):(a:Int).tdiv (b:Int)=((a / b:Nat):Int):=(Int.ofNat_tdiv a b).symm
end Go.Fv
/-! Regions whose order is drawn, where operations that change the state may change places: a tree of these; the others are walked once, and shown again where the heap changes. -/
namespace Go.Fv
open Go.RowKit
def oV (ks:List Nat):List (Nat × Acc)→List (Nat × Acc)
 | []=>[]
 | x::l=>bif vO ks x.1 then x::oV ks l else oV ks l
def OZ (P:Program) (w0:World) (T0:Bs) (n:Nat) (o:Oper) (g:Option Bool) (env:List (Nat × AV)) (v:AV) (R:List (Nat × Item)) (N:Nat):Prop:=match g with
 | .none=>Ut P w0 T0 o ⟨n,env,R,N⟩ v
 | .some c=>Fv.below N v=true∧(c=true→Ut P w0 T0 o ⟨n,env,R,N⟩ v)
def J6 (P:Program) (w0:World) (T0:Bs) (n:Nat) (R:List (Nat × Item)) (N:Nat):List (Nat × Acc)→Prop
 | []=>True
 |(_,⟨o,g,env,v,_⟩)::l=>OZ P w0 T0 n o g env v R N∧J6 P w0 T0 n R N l
section
variable {P:Program} {w0:World} {T0:Bs} {b0:Nat} {ops:Array Oper} {T:List Nat} {H:List (AV × Value)} [hG:rQ P w0 T0]
def Cl (ops:Array Oper) (V:Array Bool):Prop:=∀ (i:Nat) (o:Oper),ops[i]?=some o→V.getD i false=true→∀ e,e∈o.after→Region.binds .any e=true→V.getD e.on false=true
def Dp (V:Array Bool) (o:Oper):Prop:=∀ e,e∈o.after→Region.binds .any e=true→V.getD e.on false=true
theorem zT {s0:S} {vs:List AV} {V:Array Bool} {i:Nat} {v:AV} (h:V.getD i false=false) (r:Nat):uX ops s0 (vs.set i v) V r=uX ops s0 vs V r:=by
 unfold uX
 split
 ·rename_i j _
  by_cases e:i=j
  ·subst e;rw [h];rfl
  ·simp [List.getD_eq_getElem?_getD,List.getElem?_set,e]
 ·rfl
structure Pm (P:Program) (w0:World) (T0:Bs) (ops:Array Oper) (s0:S) (vs:List AV) (V:Array Bool) (Pd:List Nat) (acc:List (Nat × Acc)) (s:S):Prop where
 vsize:V.size=ops.size
 vlen:vs.length=ops.size
 cl:Cl ops V
 n:s.n=s0.n
 sget:∀ r,s.get r=uX ops s0 vs V r
 pd:∀ j,j∈Pd→V.getD j false=true∧∀ o,ops[j]?=some o→∃ U:Array Bool,U.size=ops.size∧Cl ops U∧(∀ i,U.getD i false=true→V.getD i false=true)∧Dp U o∧U.getD j false=false ∧
  QS P w0 T0 ops o s0.n (uX ops s0 vs U) (s.rows,s.next) (s.rows,s.next) (vs.getD j .dead) ∧
  ((∀ h,QS P w0 T0 ops o s0.n (uX ops s0 vs U) h h (vs.getD j .dead))∨∃ x,(j,x)∈acc∧∀ h,rD P w0 T0 s0.n x h→QS P w0 T0 ops o s0.n (uX ops s0 vs U) h h (vs.getD j .dead))
 put:∀ j o d,V.getD j false=true→ops[j]?=some o→o.dst=some d→d<s0.n
structure RInv (w0:World) (T0:Bs) (H:List (AV × Value)) (ops:Array Oper) (s0:S) (vs:List AV) (V:Array Bool) (Pd:List Nat) (s:S) (L:Array Bool) (env:List (Nat × AV)) (a:Act) (w:World):Prop where
 size:L.size=ops.size
 cl:Cl ops L
 sub:∀ i,L.getD i false=true→V.getD i false=true
 get:∀ r,S.get ⟨s0.n,env,[],0⟩ r=uX ops s0 vs L r
 rep:Rep w0 T0 H ⟨s0.n,env,s.rows,s.next⟩ a w
 pd:∀ i,V.getD i false=true→L.getD i false=false→i∈Pd
theorem Cl.set {V:Array Bool} {i:Nat} {o:Oper} (h:Cl ops V) (ho:ops[i]?=some o) (hd:Dp V o):Cl ops (V.setIfInBounds i true):=by
 intro j oj hj hLj e he hb
 by_cases hij:i=j
 ·subst hij
  rw [ho] at hj;cases hj
  exact getD_set_true (hd e he hb)
 ·rw [getD_set_ne false hij] at hLj
  exact getD_set_true (h j oj hj hLj e he hb)
theorem O6 (hok:mZ ops [] [] T) {s0:S} {vs:List AV} {V:Array Bool} {i:Nat} {o:Oper} {g:Nat→AV} (ho:ops[i]?=some o) (hs:V.size=ops.size) (hg:∀ r,g r=uX ops s0 vs V r) :
  ∀ r,(match o.dst with|some d=>if d=r then vs.getD i .dead else g r|none=>g r)=uX ops s0 vs (V.setIfInBounds i true) r:=by
 intro r
 have hilt:=(Array.getElem?_eq_some_iff.1 ho).1
 have hV:(V.setIfInBounds i true).getD i false=true:=by
  have:i<V.size:=by rw [hs];exact hilt
  simp [this]
 have old:o.dst≠some r→g r=uX ops s0 vs (V.setIfInBounds i true) r:=by
  intro hne
  rw [hg r]
  unfold uX
  cases hx:Oe ops r with
  | none=>rfl
  | some j=>
   dsimp only
   have hij:i≠j:=by
    rintro rfl
    obtain ⟨oj,hj,hdj⟩:=og hx
    rw [ho] at hj;cases hj
    exact hne hdj
   rw [getD_set_ne false hij]
 cases hd:o.dst with
 | none=>exact old (by rw [hd];simp)
 | some d=>
  dsimp only
  by_cases e:d=r
  ·subst e
   rw [if_pos rfl]
   unfold uX
   rw [hok.Oe ho hd]
   dsimp only
   rw [hV];rfl
  ·rw [if_neg e]
   exact old (by rw [hd];simpa using e)
theorem Je {n d r:Nat} {v:AV} {env:List (Nat × AV)} {R:List (Nat × Item)} {N:Nat}:S.get ⟨n,(d,v)::env,R,N⟩ r=if d=r then v else S.get ⟨n,env,R,N⟩ r:=by
 by_cases e:d=r
 ·subst e;simp [S.get,lk]
 ·simp [S.get,lk,e]
theorem RInv.more (hok:mZ ops [] [] T) {s0:S} {vs:List AV} {L:Array Bool} {env:List (Nat × AV)} {a:Act} {w':World} {i:Nat} {o:Oper} {R:List (Nat × Item)} {N:Nat} {val:Value}
  (ho:ops[i]?=some o) (hs:L.size=ops.size) (hg:∀ r,S.get ⟨s0.n,env,[],0⟩ r=uX ops s0 vs L r) (hput:∀ d,o.dst=some d→d<s0.n)
  (hr:Rep w0 T0 ((vs.getD i .dead,val)::H) ⟨s0.n,env,R,N⟩ a w') :
  ∃ env',(∀ r,S.get ⟨s0.n,env',[],0⟩ r=uX ops s0 vs (L.setIfInBounds i true) r)∧Rep w0 T0 H ⟨s0.n,env',R,N⟩ (a.put o.dst val) w':=by
 obtain ⟨m',hm'⟩:=hr
 have hst:=O6 hok (s0:=s0) (vs:=vs) ho hs hg
 cases hd:o.dst with
 | none=>
  rw [hd] at hst
  exact ⟨env,hst,m',hm'.nX⟩
 | some d=>
  rw [hd] at hst
  have h2:=hm'.nX.Yk (hm'.held _ (.head _)) (d:=d) (hput d hd)
  exact ⟨(d,vs.getD i .dead)::env,fun r=>by rw [Je];exact hst r,m',h2⟩
end
theorem nG {ks:List Nat} {x:Nat × Acc} (hk:vO ks x.1=true):∀ {l:List (Nat × Acc)},x∈l→x∈oV ks l
 | y::l,h=>by
  unfold oV
  rcases List.mem_cons.1 h with rfl|h
  ·rw [hk];exact .head _
  ·cases vO ks y.1 with
   | true=>exact .tail _ (nG hk h)
   | false=>exact nG hk h
theorem Et {l:List Nat} {i:Nat}:vO l i=true↔i∈l:=by
 rw [AB];simp
section
variable {P:Program} {w0:World} {T0:Bs} {b0:Nat} {ops:Array Oper} {T:List Nat} {H:List (AV × Value)} [hG:rQ P w0 T0]
theorem Qw {n:Nat} {R:List (Nat × Item)} {N:Nat} {x:Nat × Acc} {l:List (Nat × Acc)} (h:J6 P w0 T0 n R N l) (hx:x∈l):rD P w0 T0 n x.2 (R,N):=by
 induction l with
 | nil=>cases hx
 | cons y l ih=>
  obtain ⟨j,o,g,env,v,ks⟩:=y
  have h1:OZ P w0 T0 n o g env v R N:=h.1
  have h2:J6 P w0 T0 n R N l:=h.2
  rcases List.mem_cons.1 hx with rfl|hx
  ·unfold OZ at h1;unfold rD
   cases g with
   | none=>exact h1
   | some c=>exact h1
  ·exact ih h2 hx
theorem uf {vs:List AV} {i:Nat} {v:AV} (h:i<vs.length):(vs.set i v).getD i .dead=v:=by
 simp [List.getD_eq_getElem?_getD,h]
theorem zk {vs:List AV} {i j:Nat} {v:AV} (h:i≠j):(vs.set i v).getD j .dead=vs.getD j .dead:=by
 simp [List.getD_eq_getElem?_getD,List.getElem?_set,h]
theorem JR (hok:mZ ops [] [] T) {s0 s:S} {vs:List AV} {V:Array Bool} {i:Nat} {o:Oper} {v:AV} {R:List (Nat × Item)} {N:Nat} (ho:ops[i]?=some o) (hs:V.size=ops.size) (hl:vs.length=ops.size) (hV:V.getD i false=false) (hg:∀ r,s.get r=uX ops s0 vs V r) :
  ∀ r,(mY o.dst v ⟨s.n,s.env,R,N⟩).get r=uX ops s0 (vs.set i v) (V.setIfInBounds i true) r:=by
 intro r
 have hilt:=(Array.getElem?_eq_some_iff.1 ho).1
 have h:=O6 hok (s0:=s0) (vs:=vs.set i v) (g:=s.get) ho hs (fun r=>(hg r).trans (zT hV r).symm) r
 rw [uf (by omega)] at h
 rw [←h]
 unfold mY
 cases o.dst with
 | none=>rfl
 | some d=>exact Je
theorem Pm.quiet (hok:mZ ops [] [] T) {s0 s:S} {vs:List AV} {V:Array Bool} {Pd:List Nat} {acc acc':List (Nat × Acc)} {i:Nat} {o:Oper} {v:AV} (hv:Pm P w0 T0 ops s0 vs V Pd acc s) (ho:ops[i]?=some o) (hd:Dp V o) (hV:V.getD i false=false)
  (hq:QS P w0 T0 ops o s.n s.get (s.rows,s.next) (s.rows,s.next) v) (hr:(∀ h,QS P w0 T0 ops o s.n s.get h h v)∨∃ x,(i,x)∈acc'∧∀ h,rD P w0 T0 s.n x h→QS P w0 T0 ops o s.n s.get h h v)
  (hsub:∀ x,x∈acc→x∈acc') (hdst:oq o.dst s.n):Pm P w0 T0 ops s0 (vs.set i v) (V.setIfInBounds i true) (i::Pd) acc' (mY o.dst v s):=by
 have hilt:=(Array.getElem?_eq_some_iff.1 ho).1
 have hVs:(V.setIfInBounds i true).getD i false=true:=by
  have:i<V.size:=by rw [hv.vsize];exact hilt
  simp [this]
 have hup:∀ j,V.getD j false=true→(V.setIfInBounds i true).getD j false=true:=fun j hj=>getD_set_true hj
 have hrows:(mY o.dst v s).rows=s.rows∧(mY o.dst v s).next=s.next∧(mY o.dst v s).n=s.n:=by
  unfold mY;cases o.dst<;>exact ⟨rfl,rfl,rfl⟩
 have conv:∀ {h h':uj},QS P w0 T0 ops o s.n s.get h h' v→QS P w0 T0 ops o s0.n (uX ops s0 (vs.set i v) V) h h' ((vs.set i v).getD i .dead):=by
  intro h h' hh
  rw [uf (by rw [hv.vlen];exact hilt),←hv.n]
  exact hh.congr fun r _=>by rw [zT hV];exact (hv.sget r).symm
 refine ⟨by simpa using hv.vsize,by simpa using hv.vlen,hv.cl.set ho hd,by rw [hrows.2.2];exact hv.n,?_,?_,?_⟩
 ·exact JR hok (R:=s.rows) (N:=s.next) ho hv.vsize hv.vlen hV hv.sget
 ·intro j hj
  rcases List.mem_cons.1 hj with rfl|hj
  ·refine ⟨hVs,fun o' ho'=>?_⟩
   rw [ho] at ho';cases ho'
   refine ⟨V,hv.vsize,hv.cl,hup,hd,hV,?_,?_⟩
   ·rw [hrows.1,hrows.2.1];exact conv hq
   ·rcases hr with h|⟨x,hx,h⟩
    ·exact .inl fun h'=>conv (h h')
    ·exact .inr ⟨x,hx,fun h' hc=>conv (h h' (by rw [hv.n];exact hc))⟩
  ·obtain ⟨h1,h2⟩:=hv.pd j hj
   have hne:i≠j:=by rintro rfl;rw [hV] at h1;cases h1
   refine ⟨hup j h1,fun o' ho'=>?_⟩
   obtain ⟨U,u1,u2,u3,u4,u5,u6,u7⟩:=h2 o' ho'
   have hUi:U.getD i false=false:=by
    cases hu:U.getD i false with
    | false=>rfl
    | true=>have:=u3 i hu;rw [hV] at this;cases this
   have cv:∀ {h h':uj},QS P w0 T0 ops o' s0.n (uX ops s0 vs U) h h' (vs.getD j .dead)→QS P w0 T0 ops o' s0.n (uX ops s0 (vs.set i v) U) h h' ((vs.set i v).getD j .dead):=by
    intro h h' hh
    rw [zk hne]
    exact hh.congr fun r _=>zT hUi r
   refine ⟨U,u1,u2,fun k hk=>hup k (u3 k hk),u4,u5,?_,?_⟩
   ·rw [hrows.1,hrows.2.1];exact cv u6
   ·rcases u7 with h|⟨x,hx,h⟩
    ·exact .inl fun h'=>cv (h h')
    ·exact .inr ⟨x,hsub _ hx,fun h' hc=>cv (h h' hc)⟩
 ·intro j oj d hj hoj hdj
  by_cases e:i=j
  ·subst e
   rw [ho] at hoj;cases hoj
   rw [hdj] at hdst
   rw [←hv.n];exact hdst
  ·rw [getD_set_ne false e] at hj
   exact hv.put j oj d hj hoj hdj
theorem Pm.eff (hok:mZ ops [] [] T) {s0 s:S} {vs:List AV} {V:Array Bool} {Pd ks:List Nat} {acc:List (Nat × Acc)} {i:Nat} {o:Oper} {v:AV} {R:List (Nat × Item)} {N:Nat} (hv:Pm P w0 T0 ops s0 vs V Pd acc s) (ho:ops[i]?=some o) (hd:Dp V o) (hV:V.getD i false=false)
  (hks:∀ j,j∈ks→j∈Pd) (hre:J6 P w0 T0 s.n R N (oV ks acc)) (hdst:oq o.dst s.n):Pm P w0 T0 ops s0 (vs.set i v) (V.setIfInBounds i true) ks (oV ks acc) (mY o.dst v ⟨s.n,s.env,R,N⟩):=by
 have hilt:=(Array.getElem?_eq_some_iff.1 ho).1
 have hup:∀ j,V.getD j false=true→(V.setIfInBounds i true).getD j false=true:=fun j hj=>getD_set_true hj
 have hrows:(mY o.dst v ⟨s.n,s.env,R,N⟩).rows=R∧(mY o.dst v ⟨s.n,s.env,R,N⟩).next=N∧(mY o.dst v ⟨s.n,s.env,R,N⟩).n=s.n:=by
  unfold mY;cases o.dst<;>exact ⟨rfl,rfl,rfl⟩
 refine ⟨by simpa using hv.vsize,by simpa using hv.vlen,hv.cl.set ho hd,by rw [hrows.2.2];exact hv.n,?_,?_,?_⟩
 ·exact JR hok ho hv.vsize hv.vlen hV hv.sget
 ·intro j hj
  obtain ⟨h1,h2⟩:=hv.pd j (hks j hj)
  have hne:i≠j:=by rintro rfl;rw [hV] at h1;cases h1
  refine ⟨hup j h1,fun o' ho'=>?_⟩
  obtain ⟨U,u1,u2,u3,u4,u5,u6,u7⟩:=h2 o' ho'
  have hUi:U.getD i false=false:=by
   cases hu:U.getD i false with
   | false=>rfl
   | true=>have:=u3 i hu;rw [hV] at this;cases this
  have cv:∀ {h h':uj},QS P w0 T0 ops o' s0.n (uX ops s0 vs U) h h' (vs.getD j .dead)→QS P w0 T0 ops o' s0.n (uX ops s0 (vs.set i v) U) h h' ((vs.set i v).getD j .dead):=by
   intro h h' hh
   rw [zk hne]
   exact hh.congr fun r _=>zT hUi r
  refine ⟨U,u1,u2,fun k hk=>hup k (u3 k hk),u4,u5,?_,?_⟩
  ·rw [hrows.1,hrows.2.1]
   rcases u7 with h|⟨x,hx,h⟩
   ·exact cv (h _)
   ·have:=Qw hre (nG (x:=(j,x)) (Et.2 hj) hx)
    rw [hv.n] at this
    exact cv (h _ this)
  ·rcases u7 with h|⟨x,hx,h⟩
   ·exact .inl fun h'=>cv (h h')
   ·exact .inr ⟨x,nG (x:=(j,x)) (Et.2 hj) hx,fun h' hc=>cv (h h' hc)⟩
 ·intro j oj d hj hoj hdj
  by_cases e:i=j
  ·subst e
   rw [ho] at hoj;cases hoj
   rw [hdj] at hdst
   rw [←hv.n];exact hdst
  ·rw [getD_set_ne false e] at hj
   exact hv.put j oj d hj hoj hdj
end
end Go.Fv
/-
 Families of rows: as many owned rows as a list tells, with names one behind the other.
-/
namespace Go.Fv
section
variable {w0:World} {T0:Bs} {b0:Nat}
theorem aO.ofF (p:Nat→Nat) {s s':S} (hn:s'.n=s.n) (hb:b0≤s'.next) (hlow:∀ i,i<b0→p i=i) (he:yQ p s s'.next s'.env)
  (hr:∀ i it,lk s'.rows i=some it→i<s'.next∧lk s.rows (p i)=some (it.ren p)∧it.below s'.next=true)
  (hinj:∀ i j it jt,lk s'.rows i=some it→lk s'.rows j=some jt→p i=p j→i=j):aO w0 T0 b0 s s':=by
 rintro H a w hH ⟨m,hm⟩
 have hren:kS p (au T0 w0.heap.size m s w) (au T0 w0.heap.size (fun i=>m (p i)) s' w):=
  {m:=fun _ _=>rfl,
   t:=by
    intro b ⟨h1,h2⟩ _
    refine ⟨⟨h1,fun i it hi e=>?_⟩,rfl⟩
    obtain ⟨_,h3,_⟩:=hr i it hi
    exact h2 _ _ h3 e }
 refine ⟨fun i=>m (p i),{ size:=by rw [hn];exact hm.size,nodef:=hm.nodef,below:=hm.below,env:=?_,held:=?_,rows:=?_,sep:=?_ }⟩
 ·intro r v hv
  obtain ⟨h1,h2⟩:=xK he r v (dI hv)
  refine Rv.ren hren v h2 ?_
  have:Rv (au T0 w0.heap.size m s w) (s.get r) (a.tmps.getD r undef):=by
   simp only [S.get]
   cases hq:lk s.env r with
   | none=>exact .dead _
   | some y=>exact hm.env r y hq
  rw [←h1];exact this
 ·intro q hq
  have h1:=hH q hq
  refine Rv.ren hren q.1 (below_le hb _ h1) ?_
  rw [kE hlow _ h1];exact hm.held q hq
 ·intro i it hi
  obtain ⟨h1,h2,h3⟩:=hr i it hi
  exact ⟨h1,aS.ren hren rfl h3 (hm.rows _ _ h2).2⟩
 ·intro i j it jt b hi hj hbi hbj
  obtain ⟨_,h2,_⟩:=hr i it hi
  obtain ⟨_,h2',_⟩:=hr j jt hj
  exact hinj i j it jt hi hj (hm.sep _ _ _ _ b h2 h2' hbi hbj)
end
/-! ### Renamings by hand -/
def p1 (a K x:Nat):Nat:=if x=a then K else x
def p2 (a K a' K' x:Nat):Nat:=if x=a then K else if x=a' then K' else x
end Go.Fv
/-
 An owned row becomes data, wherever the state speaks of it.
-/
namespace Go.Fv
open Go.RowKit
mutual
def fz (k:Nat) (r:aF):AV→AV
 | .own i=>if i=k then .ro r else .own i
 | .ptr i o=>.ptr i o
 | .elt i a b c=>.elt i a b c
 | .pre i n=>.pre i n
 | .agg cs=>.agg (KN k r cs)
 | .tup cs=>.tup (KN k r cs)
 | .fn f cs=>.fn f (KN k r cs)
 | .cell cs=>.cell cs
 | .dead=>.dead
 | .nilS=>.nilS
 | .bool b=>.bool b
 | .int q n=>.int q n
 | .str s=>.str s
 | .ro r=>.ro r
 | .raw v=>.raw v
 | .opt b v=>.opt b (fz k r v)
 | .mp ks vs=>.mp ks vs
def KN (k:Nat) (r:aF):List AV→List AV
 | []=>[]
 | x::l=>fz k r x::KN k r l
end
def YI (k:Nat) (q:aF):aF→aF
 | .objs sz l=>.objs sz (l.map (KN k q))
 | .bools l=>.bools l
 | .ints k l=>.ints k l
 | .strs l=>.strs l
def Y0 (k:Nat) (q:aF):Item→Item
 | .row e r=>.row e (YI k q r)
 | .box e cs=>.box e (KN k q cs)
 | .map ks vs=>.map (KN k q ks) (KN k q vs)
 | .iter mp since seen=>.iter mp since seen
 | .siter t pos=>.siter t pos
def YZ (k:Nat) (q:aF):List (Nat × AV)→List (Nat × AV)
 | []=>[]
 |(i,v)::l=>(i,fz k q v)::YZ k q l
def uD (k:Nat) (q:aF):List (Nat × Item)→List (Nat × Item)
 | []=>[]
 |(i,it)::l=>if i=k then uD k q l else (i,Y0 k q it)::uD k q l
def S.fz (s:S) (k:Nat) (r:aF):S:={ s with env:=YZ k r s.env,rows:=uD k r s.rows }
theorem TF (k:Nat) (q:aF):∀ (l:List (Nat × AV)) (i:Nat),lk (YZ k q l) i=(lk l i).map (fz k q)
 | [],i=>rfl
 |(j,v)::l,i=>by
  simp only [YZ,lk]
  split
  ·rfl
  ·exact TF k q l i
theorem xW (k:Nat) (q:aF):∀ (l:List (Nat × Item)) (i:Nat),lk (uD k q l) i=if i=k then none else (lk l i).map (Y0 k q)
 | [],i=>by simp [uD,lk]
 |(j,v)::l,i=>by
  simp only [uD]
  split
  ·rename_i e;subst e
   rw [xW]
   by_cases h:i=j
   ·simp [h]
   ·simp only [if_neg h,lk];rw [if_neg (fun e=>h e.symm)]
  ·rename_i e
   simp only [lk]
   split
   ·rename_i e2;subst e2;rw [if_neg e];rfl
   ·exact xW k q l i
mutual
theorem AU {k:Nat} {r:aF} (n:Nat):∀ x:AV,below n x=true→below n (fz k r x)=true
 | .own i,h=>by
  simp only [fz];split
  ·rfl
  ·exact h
 | .ptr i o,h=>h
 | .elt i a b c,h=>h
 | .pre i n,h=>h
 | .agg cs,h=>by simp only [fz,below] at *;exact sH n cs h
 | .tup cs,h=>by simp only [fz,below] at *;exact sH n cs h
 | .fn f cs,h=>by simp only [fz,below] at *;exact sH n cs h
 | .cell cs,_=>rfl
 | .dead,_=>rfl
 | .nilS,_=>rfl
 | .bool _,_=>rfl
 | .int _ _,_=>rfl
 | .str _,_=>rfl
 | .ro _,_=>rfl
 | .raw _,_=>rfl
 | .opt _ v,h=>by simp only [fz,below] at *;exact AU n v h
 | .mp _ _,_=>rfl
theorem sH {k:Nat} {r:aF} (n:Nat):∀ x:List AV,aK n x=true→aK n (KN k r x)=true
 | [],_=>rfl
 | x::l,h=>by
  simp only [aK,Bool.and_eq_true] at h
  simp [KN,aK,AU n x h.1,sH n l h.2]
end
mutual
theorem LK (k:Nat) (r:aF) (b0:Nat) (hb:b0≤k):∀ x:AV,below b0 x=true→fz k r x=x
 | .own i,h=>by
  simp only [below,decide_eq_true_eq] at h
  simp only [fz];rw [if_neg (by omega)]
 | .ptr i o,h=>rfl
 | .elt i a b c,h=>rfl
 | .pre i n,h=>rfl
 | .agg cs,h=>by simp only [fz];rw [zI k r b0 hb cs (by simpa [below] using h)]
 | .tup cs,h=>by simp only [fz];rw [zI k r b0 hb cs (by simpa [below] using h)]
 | .fn f cs,h=>by simp only [fz];rw [zI k r b0 hb cs (by simpa [below] using h)]
 | .cell cs,_=>rfl
 | .dead,_=>rfl
 | .nilS,_=>rfl
 | .bool _,_=>rfl
 | .int _ _,_=>rfl
 | .str _,_=>rfl
 | .ro _,_=>rfl
 | .raw _,_=>rfl
 | .mp _ _,_=>rfl
 | .opt b v,h=>by simp only [fz];rw [LK k r b0 hb v (by simpa [below] using h)]
theorem zI (k:Nat) (r:aF) (b0:Nat) (hb:b0≤k):∀ x:List AV,aK b0 x=true→KN k r x=x
 | [],_=>rfl
 | x::l,h=>by
  simp only [aK,Bool.and_eq_true] at h
  simp only [KN];rw [LK k r b0 hb x h.1,zI k r b0 hb l h.2]
end
structure zZ (k:Nat) (r:aF) (c c':Ctx):Prop where
 n:c'.N=c.N
 m:c'.m=c.m
 t:∀ b,c.T b→b<c.w.heap.size→c'.T b∧c'.w.heap[b]?=c.w.heap[b]?
 ro:Rv c' (.ro r) (c.m k)
mutual
theorem Rv.fz {k:Nat} {r:aF} {c c':Ctx} (h:zZ k r c c'):∀ {x:AV} {v:Value},Rv c x v→Rv c' (Fv.fz k r x) v
 | _,_,.dead v=>.dead v
 | _,_,.nilS=>.nilS
 | _,_,.bool b=>.bool b
 | _,_,.int q n hk=>.int q n hk
 | _,_,.str s hs=>.str s hs
 | _,_,.roNil r hr hi=>.roNil r (bn.dR h.t hr hi) hi
 | _,_,.ro r a len cap cells hr hl hc hm hs hi=>.ro r a len cap cells (bn.dR h.t hr hi) hl hc hm (hs.mono' h.t) hi
 | _,_,.mp ks vs g es clock hk hv hb hc hT hh hi hi2=>.mp ks vs g es clock (cO.dR h.t hk hi) (cO.dR h.t hv hi2) hb hc (h.t g hT (Array.getElem?_eq_some_iff.1 hh).1).1 (by rw [(h.t g hT (Array.getElem?_eq_some_iff.1 hh).1).2];exact hh) hi hi2
 | _,_,.own i hi h1=>by
  simp only [Fv.fz]
  split
  ·rename_i e;subst e;exact h.ro
  ·rw [←h.m];exact .own i (by rw [h.n];exact hi) (by rw [h.m];exact h1)
 | _,_,.cell cs vs a hl hi hs=>.cell cs vs a (bJ.dR h.t hl hi) hi (hs.mono' h.t)
 | _,_,.ptr i off g hi hg=>.ptr i off g (by rw [h.n];exact hi) (by rw [h.m];exact hg)
 | _,_,.elt i a b d g hi hg=>.elt i a b d g (by rw [h.n];exact hi) (by rw [h.m];exact hg)
 | _,_,.pre i n l cap a hi hv hn=>.pre i n l cap a (by rw [h.n];exact hi) (by rw [h.m];exact hv) hn
 | _,_,.agg cs vs hl=>.agg _ vs (bJ.fz h hl)
 | _,_,.tup cs vs hl=>.tup _ vs (cO.fz h hl)
 | _,_,.fn f cs vs hl=>.fn f _ vs (cO.fz h hl)
 | _,_,.raw v=>.raw v
 | _,_,.opt b x v hb hx h2=>.opt b _ v (by rw [h.n];exact AU _ _ hb) (fun e=>Rv.fz h (hx e)) h2
theorem bJ.fz {k:Nat} {r:aF} {c c':Ctx} (h:zZ k r c c'):∀ {x:List AV} {v:List Value},bJ c x v→bJ c' (KN k r x) v
 | _,_,.nil=>.nil
 | _,_,.cons x v l vs hx h1 ht=>.cons _ v _ vs (Rv.fz h hx) h1 (bJ.fz h ht)
theorem cO.fz {k:Nat} {r:aF} {c c':Ctx} (h:zZ k r c c'):∀ {x:List AV} {v:List Value},cO c x v→cO c' (KN k r x) v
 | _,_,.nil=>.nil
 | _,_,.cons x v l vs hx ht=>.cons _ v _ vs (Rv.fz h hx) (cO.fz h ht)
end
theorem aY.fz {k:Nat} {r:aF} {c c':Ctx} (h:zZ k r c c'):∀ {sz:Nat} {x:List (List AV)} {v:List Value},aY c sz x v→aY c' sz (x.map (KN k r)) v
 | _,_,_,.nil sz=>.nil sz
 | _,_,_,.cons sz o vs l cells ho hl ht=>.cons sz _ vs _ cells (ho.fz h) hl (ht.fz h)
theorem bn.fz {k:Nat} {q:aF} {c c':Ctx} (h:zZ k q c c') {x:aF} {v:List Value} (hr:bn c x v):bn c' (YI k q x) v:=by
 cases hr with
 | bools l=>exact .bools l
 | ints k l hk=>exact .ints k l hk
 | strs l hs=>exact .strs l hs
 | objs sz l cells hz ho=>exact .objs sz _ _ hz (ho.fz h)
theorem VX (k:Nat) (q r:aF):(YI k q r).len=r.len:=by cases r<;>simp [YI,aF.len]
theorem X5 (k:Nat) (q r:aF):(YI k q r).sz=r.sz:=by cases r<;>rfl
theorem aS.fz {k:Nat} {q:aF} {c c':Ctx} (h:zZ k q c c') (hw:c'.w=c.w) {O:Nat→Prop} {v:Value} {it:Item} (hi:aS c O v it):aS c' O v (Y0 k q it):=by
 cases it with
 | row e r=>
  obtain ⟨n,cells,hr,hn,ho,hO⟩:=hi
  exact ⟨n,cells,hr.fz h,by rw [VX];exact hn,by rw [X5,hw];exact ho,hO⟩
 | box e cs=>obtain ⟨g,vs,rfl,hg,hl,hh⟩:=hi;exact ⟨g,vs,rfl,hg,hl.fz h,by rw [hw];exact hh⟩
 | map ks vs=>obtain ⟨g,es,clock,rfl,hg,h1,h2,h3,h4,hh⟩:=hi;exact ⟨g,es,clock,rfl,hg,h1.fz h,h2.fz h,h3,h4,by rw [hw];exact hh⟩
 | iter mp since seen=>obtain ⟨g,p,sn,last,rfl,hg,h1,h2,h3,h4,hh⟩:=hi;exact ⟨g,p,sn,last,rfl,hg,by rw [h.n];exact h1,by rw [h.m];exact h2,h3,h4,by rw [hw];exact hh⟩
 | siter t pos=>obtain ⟨g,rfl,hg,hh⟩:=hi;exact ⟨g,rfl,hg,by rw [hw];exact hh⟩
section
variable {w0:World} {T0:Bs} {b0:Nat}
theorem aO.fz (k:Nat) {s:S} {e:TypeId} {r:aF} (hk:lk s.rows k=some (.row e r)) (hid:fJ r=true) (hb:b0≤k):aO w0 T0 b0 s (s.fz k r):=by
 rintro H a w hH ⟨m,hm⟩
 have hsub:∀ i it,lk (s.fz k r).rows i=some it→i≠k∧∃ jt,lk s.rows i=some jt∧it=Y0 k r jt:=by
  intro i it hi
  simp only [S.fz,xW] at hi
  split at hi
  ·cases hi
  ·rename_i hne
   cases hq:lk s.rows i with
   | none=>rw [hq] at hi;cases hi
   | some jt=>rw [hq] at hi;cases hi;exact ⟨hne,jt,rfl,rfl⟩
 have hdel:∀ i it,lk (del s.rows k) i=some it→lk s.rows i=some it:=ku _ _
 have hro:=MG hm hk hdel (by rw [pW,if_pos rfl]) hid
 have hT:∀ b,allow T0 w0.heap.size m (del s.rows k) b→allow T0 w0.heap.size m (s.fz k r).rows b:=by
  rintro b ⟨h1,h2⟩
  refine ⟨h1,fun i it hi e=>?_⟩
  obtain ⟨hne,jt,hj,_⟩:=hsub i it hi
  exact h2 i jt (by rw [pW,if_neg hne];exact hj) e
 have hc:zZ k r (au T0 w0.heap.size m s w) (au T0 w0.heap.size m (s.fz k r) w):=
  {n:=rfl,m:=rfl,
   t:=by
    intro b ⟨h1,h2⟩ _
    exact ⟨hT b ⟨h1,fun i it hi=>h2 i it (hdel i it hi)⟩,rfl⟩,
   ro:=by
    refine Rv.dR (c:=au T0 w0.heap.size m { s with rows:=del s.rows k } w) ?_ hro rfl
    intro b hb _
    exact ⟨hT b hb,rfl⟩ }
 refine ⟨m,{ size:=hm.size,nodef:=hm.nodef,below:=hm.below,env:=?_,held:=?_,rows:=?_,sep:=?_ }⟩
 ·intro q v hv
  simp only [S.fz,TF] at hv
  cases hq:lk s.env q with
  | none=>rw [hq] at hv;cases hv
  | some y=>rw [hq] at hv;cases hv;exact (hm.env q y hq).fz hc
 ·intro p hp
  have h1:=(hm.held p hp).fz hc
  have h2:Fv.fz k r p.1=p.1:=by
   have hlow:=hH p hp
   exact LK k r b0 hb p.1 hlow
  rwa [h2] at h1
 ·intro i it hi
  obtain ⟨hne,jt,hj,rfl⟩:=hsub i it hi
  exact ⟨(hm.rows i jt hj).1,(hm.rows i jt hj).2.fz hc rfl⟩
 ·intro i j it jt b hi hj hbi hbj
  obtain ⟨_,it',hi',_⟩:=hsub i it hi
  obtain ⟨_,jt',hj',_⟩:=hsub j jt hj
  exact hm.sep i j it' jt' b hi' hj' hbi hbj
end
attribute [go_sem] fz KN YI Y0 YZ uD S.fz
end Go.Fv
/-
 The set by which states are held against one another.
-/
namespace Go.Fv
theorem J7 (p:Nat→Nat) (x:AV):∀ n:Nat,gG p (List.replicate n x)=List.replicate n (ren p x)
 | 0=>rfl
 | n+1=>by simp only [List.replicate_succ,gG];rw [J7 p x n]
theorem uw {N:Nat} {x:AV} (h:below N x=true):∀ n:Nat,aK N (List.replicate n x)=true
 | 0=>rfl
 | n+1=>by simp only [List.replicate_succ,aK,h,Bool.true_and];exact uw h n
theorem EK {x:AV} (h:cu x=true):∀ n:Nat,bM (List.replicate n x)=true
 | 0=>rfl
 | n+1=>by simp only [List.replicate_succ,bM,h,Bool.true_and];exact EK h n
theorem OQ {x:AV} (h:cu x=true) (n:Nat) (y:List AV):zM (List.replicate n x) y=[]:=kM _ y (EK h n)
theorem Ir (N n:Nat) (b:Bool):aK N (List.replicate n (AV.bool b))=true:=uw rfl n
theorem Iu (N n:Nat) (k:IntKind) (i:Int):aK N (List.replicate n (AV.int k i))=true:=uw rfl n
theorem TP (n:Nat) (b:Bool) (y:List AV):zM (List.replicate n (AV.bool b)) y=[]:=OQ rfl n y
theorem TQ (n:Nat) (k:IntKind) (i:Int) (y:List AV):zM (List.replicate n (AV.int k i)) y=[]:=OQ rfl n y
attribute [go_sem] TR TN EI Jv yg Uy Yn Jz lg yQ mQ EJ OO Gp mkItem mkV zM pm Item.below AV.own.injEq AV.str.injEq AV.ro.injEq AV.agg.injEq AV.tup.injEq List.cons.injEq Option.some.injEq Item.row.injEq Item.box.injEq aF.ints.injEq aF.bools.injEq aF.strs.injEq aF.objs.injEq Nat.succ_ne_self J7 Ir Iu TP TQ Jy yc qF EH
attribute [go_sem] oV J6 OZ
end Go.Fv
/-
 Calls into the callee's code: what it writes into memory that the caller owns is seen by the caller.
-/
namespace Go.Fv
open Go.RowKit
def Vb (P:Program) (res:List ResultVar) (s:S) (K:AV→S→Prop):Exit→S→Prop
 | .normal,s1=>yg P s1 res (fun vs=>K (lg vs) { s with rows:=s1.rows,next:=s1.next })
 | .ret,s1=>yg P s1 res (fun vs=>K (lg vs) { s with rows:=s1.rows,next:=s1.next })
 | _,_=>False
section
variable {P:Program} {w0:World} {T0:Bs}
theorem ah.inl {f:Nat} {fn:Func} {c:Code} {args:List AV} {s:S} {K:AV→S→Prop} (hf:P.funcs[f]?=some fn) (hb:fn.body=some c)
  (hnm:(fn.name == "runtime.NumGoroutine")=false) (hn:args.length≤fn.ntmps) (res:List ResultVar) (hres:fn.results=res.toArray)
  (h:jh P w0 T0 s.next c ⟨fn.ntmps,aB 0 args,s.rows,s.next⟩ (Vb P res s K)):@ah P w0 T0 f args s ⟨K⟩:=by
 refine ⟨⟨fn,hf,by rw [hb];rfl,hnm⟩,fun H a w m vals hm hv=>?_⟩
 refine calls_of_wp hf hb ?_
 have hlen:=hv.length
 have hE:∀ p,p∈(s.env.map fun p=>(s.get p.1,a.tmps.getD p.1 undef))++H→Rv (au T0 w0.heap.size m s w) p.1 p.2:=by
  intro p hp
  rcases List.mem_append.1 hp with hp|hp
  ·obtain ⟨q,_,rfl⟩:=List.mem_map.1 hp
   show Rv _ (s.get q.1) _
   unfold S.get
   cases hl:lk s.env q.1 with
   | none=>exact .dead _
   | some y=>exact hm.env q.1 y hl
  ·exact hm.held p hp
 have hrep:aV w0 T0 ((s.env.map fun p=>(s.get p.1,a.tmps.getD p.1 undef))++H) ⟨fn.ntmps,aB 0 args,s.rows,s.next⟩ { tmps:=vals.toArray++Array.replicate (fn.ntmps - vals.toArray.size) undef,defers:=[] } w m:=
  {size:=by simp;omega,nodef:=rfl,below:=hm.below,
   env:=by
    intro r v hr
    obtain ⟨u,h1,h2⟩:=rW 0 [] rfl hv r v hr
    have e:((vals.toArray++Array.replicate (fn.ntmps - vals.toArray.size) undef).getD r undef)=u:=by
     have h1':vals[r]?=some u:=by simpa using h1
     have hlt:r<vals.length:=(List.getElem?_eq_some_iff.1 h1').1
     rw [Array.getD_eq_getD_getElem?,Array.getElem?_append_left (by simpa using hlt)]
     simp [h1']
    rw [e];exact h2,
   held:=hE,rows:=hm.rows,sep:=hm.sep }
 refine wp_mono (h _ _ w (fun p hp=>(hE p hp).ids) ⟨m,hrep⟩) ?_
 rintro e a1 w1 ⟨s1,hq,m1,hm1⟩
 have fin:yg P s1 res (fun vs=>K (lg vs) { s with rows:=s1.rows,next:=s1.next })→a1.defers=[]∧∃ v,(results fn a1.tmps).run P w1=.ok v w1∧∃ v',Ending.returned v=.returned v'∧∃ r s',K r s'∧Rep w0 T0 ((r,v')::H) s' a w1:=by
  intro hk
  obtain ⟨l,vs,hk,hr,hvs⟩:=rE hm1 hk
  have hrv:Rv (au T0 w0.heap.size m1 s1 w1) (lg l) (Ns vs):=by
   cases hvs with
   | nil=>exact .tup _ _ .nil
   | cons x v l us hx ht=>
    cases ht with
    | nil=>exact hx
    | cons x' v' l' us' hx' ht'=>exact .tup _ _ (.cons _ _ _ _ hx (.cons _ _ _ _ hx' ht'))
  refine ⟨hm1.nodef,_,lJ hres a1.tmps hr,_,rfl,_,_,hk,m1,?_⟩
  exact
     {size:=hm.size,nodef:=hm.nodef,below:=hm1.below,
      env:=by
       intro r v hv
       have hmem:(s.get r,a.tmps.getD r undef)∈(s.env.map fun p=>(s.get p.1,a.tmps.getD p.1 undef))++H:=
        List.mem_append.2 (.inl (List.mem_map.2 ⟨(r,v),dI hv,rfl⟩))
       have:=hm1.held _ hmem
       have e:s.get r=v:=by unfold S.get;rw [show lk s.env r=some v from hv]
       rw [e] at this;exact this,
      held:=by
       intro p hp
       cases List.mem_cons.1 hp with
       | inl e=>subst e;exact hrv
       | inr e=>exact hm1.held p (List.mem_append.2 (.inr e)),
      rows:=hm1.rows,sep:=hm1.sep }
 cases e with
 | normal=>exact fin hq
 | ret=>exact fin hq
 | _=>exact hq.elim
end
end Go.Fv
