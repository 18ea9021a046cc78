/-
  A part of the proof of the claim: walks over the program's functions and the plain laws that these need. No condition of its own.
-/
import Derived.Test.YtodlgmmbfbiilaaGreatDoorFvPart9
import Derived.Test.YtodlgmmbfbiilaaGreatDoorFvPart8
set_option linter.unusedSectionVars false
set_option linter.unusedVariables false
set_option linter.unusedSimpArgs false
set_option linter.unnecessarySimpa false
/-
 Calls whose results are only read by the caller: they stand as data, and the caller's state stays as it is.
-/
namespace Go.Fv
open Go.RowKit
def dJ (rows:List (Nat × Item)) (x y:AV):Prop:=match x with
 | .tup l=>∃ l',aS rows l l'∧y=.tup l'
 | x=>bH rows x y
section
variable {P:Program} {w0:World} {T0:Bs}
theorem sZ.ro {T:Nat→Prop} {B:Nat} {w:World} {out out':AV} {rows:List (Nat × Item)} {v:Value} (h:sZ T B w out rows v) (ho:dJ rows out out'):sZ T B w out' [] v:=by
 obtain ⟨m,N,hr,hrows,hsep⟩:=h
 have hblk:∀ i it,lk rows i=some it→∀ b,blk (m i)=some b→B≤b:=fun i it hi b hb=>((hrows i it hi).2.blk b hb).1
 have hl:Gs w (⟨w,allow (bs T) B m rows,m,N⟩:Ctx) rows (allow (bs T) B (fun _=>undef) []):=
  {hw:=rfl,t:=fun b hb=>⟨hb.1,fun i it hi=>by simp [lk] at hi⟩,
   own:=fun i e r hi=>by
    obtain ⟨n,cells,hc,hn,hq,_⟩:=(hrows i _ hi).2
    exact ⟨fun b hb=>⟨.inl (hblk i _ hi b hb),fun i it hi=>by simp [lk] at hi⟩,n,cells,hc,hn,hq⟩,
   box:=fun i e cs hi=>by
    obtain ⟨g,vs,hv,hg,hl,hh⟩:=(hrows i _ hi).2
    exact ⟨g,vs,hv,⟨.inl hg,fun i it hi=>by simp [lk] at hi⟩,hl,hh⟩,
   map:=fun i ks vs hi=>by
    obtain ⟨g,es,clock,hv,hg,h1,h2,h3,h4,hh⟩:=(hrows i _ hi).2
    exact ⟨g,es,clock,hv,⟨.inl hg,fun i it hi=>by simp [lk] at hi⟩,h1,h2,h3,h4,hh⟩ }
 refine ⟨fun _=>undef,0,?_,fun i it hi=>by simp [lk] at hi,fun i j it jt b hi=>by simp [lk] at hi⟩
 unfold dJ at ho
 split at ho
 ·obtain ⟨l',ha,rfl⟩:=ho
  cases hr with
  | tup _ vs hv=>exact .tup _ _ (qy hl _ ha hv)
 ·exact zJ hl 6 _ ho hr
theorem sZ.gK {T:Nat→Prop} {B:Nat} {w:World} {out:AV} {v:Value} (h:sZ T B w out [] v):sZ T B w out [] v:=h
theorem ah.ro [hG:uO P w0 T0] {f:Nat} {args args':List AV} {out:AV} (out':AV) {rows:List (Nat × Item)} {s:S} {K:AV→S→Prop} (h:cO P f args' out rows) (ha:aS s.rows args args') (ho:dJ rows out out') (hn:dZ out'=true)
  (hk:K out' s):@ah P w0 T0 f args s ⟨K⟩:=by
 have h':cO P f args' out' []:=⟨h.1,fun w T vals hgl hv=>(h.2 w T vals hgl hv).mono fun e w' ⟨v,he,hb,hq⟩=>⟨v,he,hb,hq.ro ho⟩⟩
 refine ah.fr h' ha 0 (oQ 0 _ hn) trivial ?_
 rw [yS _ _ hn]
 exact hk
theorem aA.ro {f:Nat} {args:List AV} {out out':AV} {rows:List (Nat × Item)} (h:aA P f args out rows) (ho:dJ rows out out'):aA P f args out' []:=
 ⟨h.1,fun w T vals hgl hv=>(h.2 w T vals hgl hv).mono fun e w' ⟨v,he,hb,hq⟩=>⟨v,he,hb,hq.ro ho⟩⟩
theorem ah.UE [hG:uO P w0 T0] {f:Nat} {args args':List AV} {out:AV} (out':AV) {rows:List (Nat × Item)} {s:S} {K:AV→S→Prop} (h:aA P f args' out rows) (ha:aS [] args args') (ho:dJ rows out out') (hn:dZ out'=true)
  (hk:K out' s):@ah P w0 T0 f args s ⟨K⟩:=by
 refine ah.sh s.rows (h.ro ho) [] ha (fun _ _ h=>h) (fun i it hi=>by simp [lk] at hi) 0 (oQ 0 _ hn) trivial ?_
 rw [yS _ _ hn]
 exact hk
theorem ah.shr [hG:uO P w0 T0] {f:Nat} {args args':List AV} {out:AV} {rows:List (Nat × Item)} {s:S} {K:AV→S→Prop} (h:aA P f args' out rows) (ha:aS [] args args') (N:Nat) (hN:Fv.below N out=true) (hNr:jd N rows)
  (hk:K (ren (fun j=>s.next+j) out) (s.after s.rows N rows)):@ah P w0 T0 f args s ⟨K⟩:=
 ah.sh s.rows h [] ha (fun _ _ h=>h) (fun i it hi=>by simp [lk] at hi) N hN hNr hk
end
end Go.Fv
/-
 A nil slice in a box, as an owned row without elements.
-/
namespace Go.Fv
open Go.RowKit
section
variable {P:Program} {w0:World} {T0:Bs} {b0:Nat}
theorem bW.Xq {c:Ctx} {x:AV} (hx:Rv c x (.slice none 0 0)):∀ {cs:List AV} {vs:List Value} {j:Nat},bW c cs vs→cs[j]?=some .nilS→bW c (cs.set j x) vs
 | _,_,j,.nil,h=>by simp at h
 | _,_,0,.cons y v l vs hy h1 ht,h=>by
  simp at h;subst h
  cases hy
  exact .cons _ _ _ _ hx h1 ht
 | _,_,j+1,.cons y v l vs hy h1 ht,h=>by
  simp at h
  exact .cons _ _ _ _ hy h1 (ht.Xq hx h)
theorem aK.jH {s:S} (i:Nat) {t:TypeId} {cs:List AV} (j:Nat) (e:TypeId) {z:Value} (hz:bK P e z) (hi:lk s.rows i=some (.box t cs)) (hj:cs[j]?=some .nilS) :
  aK w0 T0 b0 s { s with rows:=put ((s.next,.row e (nC z 0))::s.rows) i (.box t (cs.set j (.own s.next))),next:=s.next+1 }:=by
 rintro H a w hH ⟨m,hm⟩
 have hlt:=(hm.rows i _ hi).1
 have h1:=JD hm hz
 have hi':lk (s.add (.row e (nC z 0))).rows i=some (.box t cs):=by
  simp only [S.add,lk]
  rw [if_neg (by omega)];exact hi
 have h0:=(h1.rows i _ hi').2
 have h2:=h1.upd h1.below hi' (fun _ _ _=>rfl) (.box t (cs.set j (.own s.next))) (fun c hle hw hmm hN=>?_)
 ·exact ⟨_,h2.qx⟩
 ·obtain ⟨g,vs,hv,hg,hl,hh⟩:=h0
  refine ⟨g,vs,hv,hg,?_,by rw [hw];exact hh⟩
  exact (hl.mono hle).Xq ((h1.held _ (.head _)).mono hle) hj
end
end Go.Fv
/-
 What a function value has captured, where nothing of it is the caller's own memory.
-/
namespace Go.Fv
open Go.RowKit
def qJ:Nat→AV→Bool
 | 0,_=>false
 | n+1,x=>match x with
  | .agg cs=>cs.all (qJ n)
  | .fn _ cs=>cs.all (qJ n)
  | .ro _=>true
  | .bool _=>true
  | .int _ _=>true
  | .str _=>true
  | .raw _=>true
  | .cell _=>true
  | .nilS=>true
  | .mp _ _=>true
  | _=>false
theorem vH:∀ {l:List AV},(∀ x,x∈l→dZ x=true)→dh l=true
 | [],_=>rfl
 | x::l,h=>by simp only [dh,Bool.and_eq_true];exact ⟨h x (.head _),vH fun y hy=>h y (.tail _ hy)⟩
theorem wW:∀ (n:Nat) (x:AV),qJ n x=true→dZ x=true
 | 0,x,h=>by simp [qJ] at h
 | n+1,x,h=>by
  cases x<;>simp only [qJ] at h<;>first|rfl|(cases h;done)|skip
  ·simp only [dZ];exact vH fun y hy=>wW n y (List.all_eq_true.1 h y hy)
  ·simp only [dZ];exact vH fun y hy=>wW n y (List.all_eq_true.1 h y hy)
theorem wL {R:AV→AV→Prop}:∀ {l:List AV},(∀ x,x∈l→R x x)→aV R l l
 | [],_=>rfl
 | x::l,h=>⟨x,l,h x (.head _),wL fun y hy=>h y (.tail _ hy),rfl⟩
theorem MI (rows:List (Nat × Item)):∀ (n:Nat) (x:AV),qJ n x=true→aH rows n x x
 | 0,x,h=>by simp [qJ] at h
 | n+1,x,h=>by
  cases x<;>simp only [qJ] at h<;>first|(cases h;done)|skip
  all_goals first|(simp only [aH];done)|(simp only [aH];exact .inl trivial)|(simp only [aH];exact ⟨_,wL fun y hy=>MI rows n y (List.all_eq_true.1 h y hy),rfl⟩)|skip
class I7 (caps:List AV):Prop where
 ok:caps.all (qJ 5)=true
section
variable {caps:List AV} [h:I7 caps]
theorem zN:dh caps=true:=vH fun x hx=>wW 5 x (List.all_eq_true.1 h.ok x hx)
theorem Ey:∀ (n:Nat) (x:AV),qJ n x=true→qJ (n+1) x=true
 | 0,x,h=>by simp [qJ] at h
 | n+1,x,h=>by
  cases x<;>simp only [qJ] at h ⊢<;>first|(cases h;done)|rfl|skip
  ·exact List.all_eq_true.2 fun y hy=>Ey n y (List.all_eq_true.1 h y hy)
  ·exact List.all_eq_true.2 fun y hy=>Ey n y (List.all_eq_true.1 h y hy)
theorem Uz (p:Nat→Nat):iW p caps=caps:=lF p caps zN
theorem Ld (n:Nat):aX n caps=true:=jq n caps zN
theorem OT (rows:List (Nat × Item)):aV (aH rows 6) caps caps:=wL fun x hx=>MI rows 6 x (Ey 5 x (List.all_eq_true.1 h.ok x hx))
end
mutual
theorem MZ:∀ (x y:AV),dZ x=true→mkV x y=[]
 | .own _,_,h=>by simp [dZ] at h
 | .ptr _ _,_,h=>by simp [dZ] at h
 | .elt _ _ _ _,_,h=>by simp [dZ] at h
 | .pre _ _,_,h=>by simp [dZ] at h
 | .agg l,y,h=>by simp only [mkV];split<;>first|exact mg l _ (by simpa [dZ] using h)|rfl
 | .tup l,y,h=>by simp only [mkV];split<;>first|exact mg l _ (by simpa [dZ] using h)|rfl
 | .fn _ l,y,h=>by simp only [mkV];split<;>first|exact mg l _ (by simpa [dZ] using h)|rfl
 | .dead,_,_=>rfl
 | .nilS,_,_=>rfl
 | .bool _,_,_=>rfl
 | .int _ _,_,_=>rfl
 | .str _,_,_=>rfl
 | .ro _,_,_=>rfl
 | .cell _,_,_=>rfl
 | .raw _,_,_=>rfl
 | .mp _ _,_,_=>rfl
 | .opt _ x,y,h=>by simp only [mkV];split<;>first|exact MZ x _ (by simpa [dZ] using h)|rfl
theorem mg:∀ (x y:List AV),dh x=true→C9 x y=[]
 | [],_,_=>rfl
 | x::l,y,h=>by
  simp only [dh,Bool.and_eq_true] at h
  simp only [C9];split
  ·rw [MZ x _ h.1,mg l _ h.2];rfl
  ·rfl
end
theorem Ii:∀ (x y:List (List AV)),x.all dh=true→Yy x y=[]
 | [],_,_=>rfl
 | x::l,y,h=>by
  simp only [List.all_cons,Bool.and_eq_true] at h
  simp only [Yy];split
  ·rw [mg x _ h.1,Ii l _ h.2];rfl
  ·rfl
theorem Ws (r r':aP) [h:pJ r]:mkR r r'=[]:=by
 have:=h.ok
 cases r<;>cases r'<;>first|rfl|exact Ii _ _ this
theorem Wn {caps:List AV} [h:I7 caps] (y:List AV):C9 caps y=[]:=mg caps y zN
end Go.Fv
/-
 The walk of drawn regions, in the set.
-/
namespace Go.Fv
attribute [go_sem] vX U9 uK Sj qV qX qW TR lK vY KI Dt List.getLast?_concat mapOf Y9 He gMM Bool.false_eq_true true_implies Zl nH VI Vd Tv ZI YM YL Xb MQ Bv qB pF Ny Z9 jy Za ig kZ gd Xc Iz redo qj qI iG yE Eo Option.toList_some Option.toList_none Uz Ld
end Go.Fv
/-
 Maps whose keys and values are told by lists of plain data.
-/
namespace Go.Fv
def yN {α:Type} [DecidableEq α]:List α→α→Option Nat
 | [],_=>none
 | x::l,k=>if x=k then some 0 else (yN l k).map (·+1)
theorem oO {α:Type} [DecidableEq α] {f:α→AV} (hf:∀ a b,lY (f a) (f b)=decide (a=b)) (x:α):∀ l:List α,fD (l.map f) (f x)=yN l x
 | []=>rfl
 | y::l=>by simp only [List.map_cons,fD,yN,hf,oO hf x l,decide_eq_true_eq]
theorem MC (l:List (List UInt8)) (n:List UInt8):fD (l.map .str) (.str n)=yN l n:=oO (fun a b=>by simp [lY]) n l
theorem oh {α:Type} [DecidableEq α]:∀ {l:List α} {x:α} {j:Nat},yN l x=some j→l[j]?=some x
 | y::l,x,j,h=>by
  simp only [yN] at h
  split at h
  ·rename_i e;cases h;simp [e]
  ·simp only [Option.map_eq_some_iff] at h
   obtain ⟨i,hi,rfl⟩:=h
   simpa using oh hi
theorem qH {α:Type} [DecidableEq α]:∀ {l:List α} {x:α},yN l x=none↔x∉l
 | [],x=>by simp [yN]
 | y::l,x=>by
  simp only [yN]
  split
  ·rename_i e;simp [e]
  ·rename_i e
   rw [Option.map_eq_none_iff,qH,List.mem_cons,not_or]
   exact ⟨fun h=>⟨fun e'=>e e'.symm,h⟩,fun h=>h.2⟩
theorem MB {α:Type} [DecidableEq α] (l:List α) (x:α):(yN l x).isSome=decide (x∈l):=by
 cases h:yN l x with
 | none=>simp [qH.1 h]
 | some j=>simp [List.mem_of_getElem? (oh h)]
theorem VK {α:Type} [DecidableEq α] {f:α→AV} (hf:∀ a b,lY (f a) (f b)=decide (a=b)) (l:List α) (x:α):BX (l.map f) (l.map fun _=>.bool true) (f x)=decide (x∈l):=by
 unfold BX rM
 rw [oO hf]
 cases h:yN l x with
 | none=>simp [qH.1 h]
 | some j=>simp [List.mem_of_getElem? (oh h),oh h]
theorem qE (l:List (List UInt8)) (n:List UInt8):BX (l.map .str) (l.map fun _=>.bool true) (.str n)=decide (n∈l):=by
 rw [VK (f:=AV.str) (fun a b=>by simp [lY]) l n];congr
def BZ {α:Type} [DecidableEq α] (l:List α) (x:α):List α:=if x∈l then l else l++[x]
theorem UR {α:Type} [DecidableEq α] {f:α→AV} (hf:∀ a b,lY (f a) (f b)=decide (a=b)) (l:List α) (x:α):sN (l.map f) (f x)=(BZ l x).map f:=by
 unfold sN BZ
 rw [oO hf]
 cases h:yN l x with
 | none=>simp [qH.1 h]
 | some j=>simp [List.mem_of_getElem? (oh h)]
theorem IQ {α β:Type} (c:β):∀ (l:List α) (j:Nat),(l.map fun _=>c).set j c=l.map fun _=>c
 | [],_=>rfl
 | _::l,0=>rfl
 | _::l,j+1=>by simp [IQ c l j]
theorem UU {α:Type} [DecidableEq α] {f:α→AV} (hf:∀ a b,lY (f a) (f b)=decide (a=b)) (l:List α) (x:α):IX (l.map f) (l.map fun _=>.bool true) (f x) (.bool true)=(BZ l x).map fun _=>.bool true:=by
 unfold IX BZ
 rw [oO hf]
 cases h:yN l x with
 | none=>simp [qH.1 h]
 | some j=>simp [List.mem_of_getElem? (oh h),IQ]
theorem QI (l:List (List UInt8)) (n:List UInt8):sN (l.map .str) (.str n)=(BZ l n).map .str:=UR (fun a b=>by simp [lY]) l n
theorem QJ (l:List (List UInt8)) (n:List UInt8):IX (l.map .str) (l.map fun _=>.bool true) (.str n) (.bool true)=(BZ l n).map fun _=>.bool true:=UU (fun a b=>by simp [lY]) l n
theorem XU {α:Type} (l:List α) (f:α→Bool):(l.map fun x=>AV.bool (f x)).all isB=true:=by simp [isB]
theorem IE {α:Type} (p:Nat→Nat) {f:α→AV} (hf:∀ a,dZ (f a)=true) (l:List α):iW p (l.map f)=l.map f:=by
 refine lF p _ ?_
 induction l with
 | nil=>rfl
 | cons x l ih=>simp [dh,hf,ih]
theorem A8 {α:Type} (n:Nat) {f:α→AV} (hf:∀ a,dZ (f a)=true) (l:List α):aX n (l.map f)=true:=by
 refine jq n _ ?_
 induction l with
 | nil=>rfl
 | cons x l ih=>simp [dh,hf,ih]
theorem PY {α:Type} {f:α→AV} (hf:∀ a,dZ (f a)=true) (l:List α):dh (l.map f)=true:=by
 induction l with
 | nil=>rfl
 | cons x l ih=>simp [dh,hf,ih]
theorem MV {α:Type} {f:α→AV} (hf:∀ a,dZ (f a)=true) (l:List α) (y:List AV):C9 (l.map f) y=[]:=mg _ y (PY hf l)
theorem Am (p:Nat→Nat) (l:List (List UInt8)):iW p (l.map .str)=l.map .str:=IE p (fun _=>rfl) l
theorem tu (n:Nat) (l:List (List UInt8)):aX n (l.map .str)=true:=A8 n (fun _=>rfl) l
theorem MW (l:List (List UInt8)) (y:List AV):C9 (l.map .str) y=[]:=MV (fun _=>rfl) l y
theorem Fh {α:Type} (p:Nat→Nat) (l:List α) (f:α→Bool):iW p (l.map fun x=>.bool (f x))=l.map fun x=>.bool (f x):=IE p (fun _=>rfl) l
theorem xZ {α:Type} (n:Nat) (l:List α) (f:α→Bool):aX n (l.map fun x=>.bool (f x))=true:=A8 n (fun _=>rfl) l
theorem Ij {α:Type} (l:List α) (f:α→Bool) (y:List AV):C9 (l.map fun x=>.bool (f x)) y=[]:=MV (fun _=>rfl) l y
attribute [simp] Am tu MW Fh xZ Ij
attribute [go_sem] Am tu Fh xZ XU qE QI QJ MC MB
end Go.Fv
/-
 Small facts about lists.
-/
namespace Go.Fv
theorem getD_lt {α:Type} {l:List α} {i:Nat} {d:α} (h:i<l.length):l.getD i d=l[i]:=by simp [List.getD,h]
theorem BM {α:Type} [DecidableEq α] {a b:List α} (d:α) (h:a.length=b.length):∀ {i:Nat},i≤a.length→((∀ j,j<i→a.getD j d=b.getD j d)↔a.take i=b.take i)
 | 0,_=>by simp
 | i+1,hi=>by
  have ih:=BM d h (i:=i) (by omega)
  rw [List.take_succ_eq_append_getElem (by omega),List.take_succ_eq_append_getElem (by omega)]
  constructor
  ·intro hh
   have h1:=ih.1 fun j hj=>hh j (by omega)
   have h2:=hh i (by omega)
   rw [getD_lt (by omega),getD_lt (by omega)] at h2
   rw [h1,h2]
  ·intro hh j hj
   have:=List.append_inj hh (by simp;omega)
   by_cases e:j=i
   ·subst e
    rw [getD_lt (by omega),getD_lt (by omega)]
    simpa using this.2
   ·exact ih.2 this.1 j (by omega)
theorem Pn {α:Type} [DecidableEq α] {a b:List α} (d:α) (h:a.length=b.length) (hh:∀ j,j<a.length→a.getD j d=b.getD j d):a=b:=by
 have:=(BM d h (Nat.le_refl _)).1 hh
 rwa [List.take_length,h,List.take_length] at this
theorem Jp {l:List Int} {A B:Int} (h:∀ x,x∈l→A≤x∧x≤B) (hA:A≤0) (hB:0≤B) (j:Nat):A≤l.getD j 0∧l.getD j 0≤B:=by
 rw [List.getD_eq_getElem?_getD]
 cases hq:l[j]? with
 | none=>exact ⟨hA,hB⟩
 | some y=>exact h y (List.mem_of_getElem? hq)
theorem Fj (p:Nat→Nat):∀ l:List Bool,iW p (l.map .bool)=l.map .bool
 | []=>rfl
 | b::l=>by simp only [List.map_cons,iW,ren];rw [Fj p l]
theorem IC (p:Nat→Nat) (k:IntKind):∀ l:List Int,iW p (l.map (.int k))=l.map (.int k)
 | []=>rfl
 | b::l=>by simp only [List.map_cons,iW,ren];rw [IC p k l]
theorem rC (n:Nat):∀ l:List Bool,aX n (l.map .bool)=true
 | []=>rfl
 | b::l=>by simp only [List.map_cons,aX,below,Bool.true_and];exact rC n l
theorem AZ (n:Nat) (k:IntKind):∀ l:List Int,aX n (l.map (.int k))=true
 | []=>rfl
 | b::l=>by simp only [List.map_cons,aX,below,Bool.true_and];exact AZ n k l
theorem Ik:∀ (l:List Bool) (y:List AV),C9 (l.map .bool) y=[]
 | [],_=>by simp [C9]
 | b::l,y=>by
  simp only [List.map_cons,C9]
  split
  ·simp only [mkV,List.nil_append];exact Ik l _
  ·rfl
theorem MS (k:IntKind):∀ (l:List Int) (y:List AV),C9 (l.map (.int k)) y=[]
 | [],_=>by simp [C9]
 | b::l,y=>by
  simp only [List.map_cons,C9]
  split
  ·simp only [mkV,List.nil_append];exact MS k l _
  ·rfl
theorem tq (rows:List (Nat × Item)) (n:Nat):∀ l:List Bool,aV (aH rows (n+1)) (l.map .bool) (l.map .bool)
 | []=>rfl
 | b::l=>⟨.bool b,l.map .bool,by simp [aH],tq rows n l,rfl⟩
theorem UL (l:List Bool) (i:Nat) (b:Bool):(l.map AV.bool).set i (.bool b)=(l.set i b).map .bool:=by rw [List.map_set]
theorem Xr (l:List Int) (k:IntKind) (i:Nat) (b:Int):(l.map (AV.int k)).set i (.int k b)=(l.set i b).map (.int k):=by rw [List.map_set]
theorem BD:∀ l:List Bool,iQ (l.map .bool)=true
 | []=>rfl
 | b::l=>by simp only [List.map_cons,iQ,lG,Bool.true_and];exact BD l
theorem Xu:∀ (cs bs:List AV) (off:Nat),off+cs.length≤bs.length→spl bs off cs=bs.take off++cs++bs.drop (off+cs.length)
 | [],bs,off,_=>by simp [spl]
 | c::cs,bs,off,h=>by
  simp only [List.length_cons] at h
  rw [spl,Xu cs _ _ (by simp;omega),List.take_set,List.drop_set,if_pos (by omega)]
  rw [List.take_succ_eq_append_getElem (by omega),List.set_append_right _ _ (by simp;omega)]
  have e:off - (List.take off bs).length=0:=by simp;omega
  rw [e]
  simp only [List.set_cons_zero,List.length_cons,List.append_assoc,List.cons_append,List.nil_append]
  have e2:off+1+cs.length=off+(cs.length+1):=by omega
  rw [e2]
theorem SS {bs cs:List AV} (h:cs.length=bs.length):spl bs 0 cs=cs:=by
 rw [Xu _ _ _ (by omega)];simp [h]
attribute [simp] aI Dk jS Ws
attribute [go_sem] BR aI Dk jS Fj IC rC AZ List.length_map Nat.mul_one UL Xr
theorem up_add (a b:Nat):(a:Int)+(b:Int)=((a+b:Nat):Int):=rfl
theorem up_mul (a b:Nat):(a:Int)*(b:Int)=((a*b:Nat):Int):=(Int.natCast_mul a b).symm
theorem up_tmod (a b:Nat):(a:Int).tmod (b:Int)=((a%b:Nat):Int):=(Int.ofNat_tmod a b).symm
end Go.Fv
/-! Regions whose order is drawn, where operations that change the state may change places: a tree of these; the others are walked once, and shown again where the heap changes. -/
namespace Go.Fv
open Go.RowKit
def qZ (ks:List Nat):List (Nat × Acc)→List (Nat × Acc)
 | []=>[]
 | x::l=>bif yE ks x.1 then x::qZ ks l else qZ ks l
def SL (P:Program) (w0:World) (T0:Bs) (n:Nat) (o:Oper) (g:Option Bool) (env:List (Nat × AV)) (v:AV) (R:List (Nat × Item)) (N:Nat):Prop:=match g with
 | .none=>Xc P w0 T0 o ⟨n,env,R,N⟩ v
 | .some c=>Fv.below N v=true∧(c=true→Xc P w0 T0 o ⟨n,env,R,N⟩ v)
def NR (P:Program) (w0:World) (T0:Bs) (n:Nat) (R:List (Nat × Item)) (N:Nat):List (Nat × Acc)→Prop
 | []=>True
 |(_,⟨o,g,env,v,_⟩)::l=>SL P w0 T0 n o g env v R N∧NR P w0 T0 n R N l
section
variable {P:Program} {w0:World} {T0:Bs} {b0:Nat} {ops:Array Oper} {T:List Nat} {H:List (AV × Value)} [hG:uO P w0 T0]
def Cl (ops:Array Oper) (V:Array Bool):Prop:=∀ (i:Nat) (o:Oper),ops[i]?=some o→V.getD i false=true→∀ e,e∈o.after→Region.binds .any e=true→V.getD e.on false=true
def Dp (V:Array Bool) (o:Oper):Prop:=∀ e,e∈o.after→Region.binds .any e=true→V.getD e.on false=true
theorem Dl {s0:S} {vs:List AV} {V:Array Bool} {i:Nat} {v:AV} (h:V.getD i false=false) (r:Nat):xQ ops s0 (vs.set i v) V r=xQ ops s0 vs V r:=by
 unfold xQ
 split
 ·rename_i j _
  by_cases e:i=j
  ·subst e;rw [h];rfl
  ·simp [List.getD_eq_getElem?_getD,List.getElem?_set,e]
 ·rfl
structure Tn (P:Program) (w0:World) (T0:Bs) (ops:Array Oper) (s0:S) (vs:List AV) (V:Array Bool) (Pd:List Nat) (acc:List (Nat × Acc)) (s:S):Prop where
 vsize:V.size=ops.size
 vlen:vs.length=ops.size
 cl:Cl ops V
 n:s.n=s0.n
 sget:∀ r,s.get r=xQ ops s0 vs V r
 pd:∀ j,j∈Pd→V.getD j false=true∧∀ o,ops[j]?=some o→∃ U:Array Bool,U.size=ops.size∧Cl ops U∧(∀ i,U.getD i false=true→V.getD i false=true)∧Dp U o∧U.getD j false=false ∧
  QS P w0 T0 ops o s0.n (xQ ops s0 vs U) (s.rows,s.next) (s.rows,s.next) (vs.getD j .dead) ∧
  ((∀ h,QS P w0 T0 ops o s0.n (xQ ops s0 vs U) h h (vs.getD j .dead))∨∃ x,(j,x)∈acc∧∀ h,uF P w0 T0 s0.n x h→QS P w0 T0 ops o s0.n (xQ ops s0 vs U) h h (vs.getD j .dead))
 put:∀ j o d,V.getD j false=true→ops[j]?=some o→o.dst=some d→d<s0.n
structure RInv (w0:World) (T0:Bs) (H:List (AV × Value)) (ops:Array Oper) (s0:S) (vs:List AV) (V:Array Bool) (Pd:List Nat) (s:S) (L:Array Bool) (env:List (Nat × AV)) (a:Act) (w:World):Prop where
 size:L.size=ops.size
 cl:Cl ops L
 sub:∀ i,L.getD i false=true→V.getD i false=true
 get:∀ r,S.get ⟨s0.n,env,[],0⟩ r=xQ ops s0 vs L r
 rep:Rep w0 T0 H ⟨s0.n,env,s.rows,s.next⟩ a w
 pd:∀ i,V.getD i false=true→L.getD i false=false→i∈Pd
theorem Cl.set {V:Array Bool} {i:Nat} {o:Oper} (h:Cl ops V) (ho:ops[i]?=some o) (hd:Dp V o):Cl ops (V.setIfInBounds i true):=by
 intro j oj hj hLj e he hb
 by_cases hij:i=j
 ·subst hij
  rw [ho] at hj;cases hj
  exact getD_set_true (hd e he hb)
 ·rw [getD_set_ne false hij] at hLj
  exact getD_set_true (h j oj hj hLj e he hb)
theorem SV (hok:pI ops [] [] T) {s0:S} {vs:List AV} {V:Array Bool} {i:Nat} {o:Oper} {g:Nat→AV} (ho:ops[i]?=some o) (hs:V.size=ops.size) (hg:∀ r,g r=xQ ops s0 vs V r) :
  ∀ r,(match o.dst with|some d=>if d=r then vs.getD i .dead else g r|none=>g r)=xQ ops s0 vs (V.setIfInBounds i true) r:=by
 intro r
 have hilt:=(Array.getElem?_eq_some_iff.1 ho).1
 have hV:(V.setIfInBounds i true).getD i false=true:=by
  have:i<V.size:=by rw [hs];exact hilt
  simp [this]
 have old:o.dst≠some r→g r=xQ ops s0 vs (V.setIfInBounds i true) r:=by
  intro hne
  rw [hg r]
  unfold xQ
  cases hx:Ru ops r with
  | none=>rfl
  | some j=>
   dsimp only
   have hij:i≠j:=by
    rintro rfl
    obtain ⟨oj,hj,hdj⟩:=qA hx
    rw [ho] at hj;cases hj
    exact hne hdj
   rw [getD_set_ne false hij]
 cases hd:o.dst with
 | none=>exact old (by rw [hd];simp)
 | some d=>
  dsimp only
  by_cases e:d=r
  ·subst e
   rw [if_pos rfl]
   unfold xQ
   rw [hok.Ru ho hd]
   dsimp only
   rw [hV];rfl
  ·rw [if_neg e]
   exact old (by rw [hd];simpa using e)
theorem Mc {n d r:Nat} {v:AV} {env:List (Nat × AV)} {R:List (Nat × Item)} {N:Nat}:S.get ⟨n,(d,v)::env,R,N⟩ r=if d=r then v else S.get ⟨n,env,R,N⟩ r:=by
 by_cases e:d=r
 ·subst e;simp [S.get,lk]
 ·simp [S.get,lk,e]
theorem RInv.more (hok:pI ops [] [] T) {s0:S} {vs:List AV} {L:Array Bool} {env:List (Nat × AV)} {a:Act} {w':World} {i:Nat} {o:Oper} {R:List (Nat × Item)} {N:Nat} {val:Value}
  (ho:ops[i]?=some o) (hs:L.size=ops.size) (hg:∀ r,S.get ⟨s0.n,env,[],0⟩ r=xQ ops s0 vs L r) (hput:∀ d,o.dst=some d→d<s0.n)
  (hr:Rep w0 T0 ((vs.getD i .dead,val)::H) ⟨s0.n,env,R,N⟩ a w') :
  ∃ env',(∀ r,S.get ⟨s0.n,env',[],0⟩ r=xQ ops s0 vs (L.setIfInBounds i true) r)∧Rep w0 T0 H ⟨s0.n,env',R,N⟩ (a.put o.dst val) w':=by
 obtain ⟨m',hm'⟩:=hr
 have hst:=SV hok (s0:=s0) (vs:=vs) ho hs hg
 cases hd:o.dst with
 | none=>
  rw [hd] at hst
  exact ⟨env,hst,m',hm'.qx⟩
 | some d=>
  rw [hd] at hst
  have h2:=hm'.qx.Z8 (hm'.held _ (.head _)) (d:=d) (hput d hd)
  exact ⟨(d,vs.getD i .dead)::env,fun r=>by rw [Mc];exact hst r,m',h2⟩
end
theorem pY {ks:List Nat} {x:Nat × Acc} (hk:yE ks x.1=true):∀ {l:List (Nat × Acc)},x∈l→x∈qZ ks l
 | y::l,h=>by
  unfold qZ
  rcases List.mem_cons.1 h with rfl|h
  ·rw [hk];exact .head _
  ·cases yE ks y.1 with
   | true=>exact .tail _ (pY hk h)
   | false=>exact pY hk h
theorem HY {l:List Nat} {i:Nat}:yE l i=true↔i∈l:=by
 rw [Ec];simp
section
variable {P:Program} {w0:World} {T0:Bs} {b0:Nat} {ops:Array Oper} {T:List Nat} {H:List (AV × Value)} [hG:uO P w0 T0]
theorem Ux {n:Nat} {R:List (Nat × Item)} {N:Nat} {x:Nat × Acc} {l:List (Nat × Acc)} (h:NR P w0 T0 n R N l) (hx:x∈l):uF P w0 T0 n x.2 (R,N):=by
 induction l with
 | nil=>cases hx
 | cons y l ih=>
  obtain ⟨j,o,g,env,v,ks⟩:=y
  have h1:SL P w0 T0 n o g env v R N:=h.1
  have h2:NR P w0 T0 n R N l:=h.2
  rcases List.mem_cons.1 hx with rfl|hx
  ·unfold SL at h1;unfold uF
   cases g with
   | none=>exact h1
   | some c=>exact h1
  ·exact ih h2 hx
theorem wH {vs:List AV} {i:Nat} {v:AV} (h:i<vs.length):(vs.set i v).getD i .dead=v:=by
 simp [List.getD_eq_getElem?_getD,h]
theorem BL {vs:List AV} {i j:Nat} {v:AV} (h:i≠j):(vs.set i v).getD j .dead=vs.getD j .dead:=by
 simp [List.getD_eq_getElem?_getD,List.getElem?_set,h]
theorem Nw (hok:pI ops [] [] T) {s0 s:S} {vs:List AV} {V:Array Bool} {i:Nat} {o:Oper} {v:AV} {R:List (Nat × Item)} {N:Nat} (ho:ops[i]?=some o) (hs:V.size=ops.size) (hl:vs.length=ops.size) (hV:V.getD i false=false) (hg:∀ r,s.get r=xQ ops s0 vs V r) :
  ∀ r,(pF o.dst v ⟨s.n,s.env,R,N⟩).get r=xQ ops s0 (vs.set i v) (V.setIfInBounds i true) r:=by
 intro r
 have hilt:=(Array.getElem?_eq_some_iff.1 ho).1
 have h:=SV hok (s0:=s0) (vs:=vs.set i v) (g:=s.get) ho hs (fun r=>(hg r).trans (Dl hV r).symm) r
 rw [wH (by omega)] at h
 rw [←h]
 unfold pF
 cases o.dst with
 | none=>rfl
 | some d=>exact Mc
theorem Tn.quiet (hok:pI ops [] [] T) {s0 s:S} {vs:List AV} {V:Array Bool} {Pd:List Nat} {acc acc':List (Nat × Acc)} {i:Nat} {o:Oper} {v:AV} (hv:Tn P w0 T0 ops s0 vs V Pd acc s) (ho:ops[i]?=some o) (hd:Dp V o) (hV:V.getD i false=false)
  (hq:QS P w0 T0 ops o s.n s.get (s.rows,s.next) (s.rows,s.next) v) (hr:(∀ h,QS P w0 T0 ops o s.n s.get h h v)∨∃ x,(i,x)∈acc'∧∀ h,uF P w0 T0 s.n x h→QS P w0 T0 ops o s.n s.get h h v)
  (hsub:∀ x,x∈acc→x∈acc') (hdst:qB o.dst s.n):Tn P w0 T0 ops s0 (vs.set i v) (V.setIfInBounds i true) (i::Pd) acc' (pF o.dst v s):=by
 have hilt:=(Array.getElem?_eq_some_iff.1 ho).1
 have hVs:(V.setIfInBounds i true).getD i false=true:=by
  have:i<V.size:=by rw [hv.vsize];exact hilt
  simp [this]
 have hup:∀ j,V.getD j false=true→(V.setIfInBounds i true).getD j false=true:=fun j hj=>getD_set_true hj
 have hrows:(pF o.dst v s).rows=s.rows∧(pF o.dst v s).next=s.next∧(pF o.dst v s).n=s.n:=by
  unfold pF;cases o.dst<;>exact ⟨rfl,rfl,rfl⟩
 have conv:∀ {h h':wK},QS P w0 T0 ops o s.n s.get h h' v→QS P w0 T0 ops o s0.n (xQ ops s0 (vs.set i v) V) h h' ((vs.set i v).getD i .dead):=by
  intro h h' hh
  rw [wH (by rw [hv.vlen];exact hilt),←hv.n]
  exact hh.congr fun r _=>by rw [Dl hV];exact (hv.sget r).symm
 refine ⟨by simpa using hv.vsize,by simpa using hv.vlen,hv.cl.set ho hd,by rw [hrows.2.2];exact hv.n,?_,?_,?_⟩
 ·exact Nw hok (R:=s.rows) (N:=s.next) ho hv.vsize hv.vlen hV hv.sget
 ·intro j hj
  rcases List.mem_cons.1 hj with rfl|hj
  ·refine ⟨hVs,fun o' ho'=>?_⟩
   rw [ho] at ho';cases ho'
   refine ⟨V,hv.vsize,hv.cl,hup,hd,hV,?_,?_⟩
   ·rw [hrows.1,hrows.2.1];exact conv hq
   ·rcases hr with h|⟨x,hx,h⟩
    ·exact .inl fun h'=>conv (h h')
    ·exact .inr ⟨x,hx,fun h' hc=>conv (h h' (by rw [hv.n];exact hc))⟩
  ·obtain ⟨h1,h2⟩:=hv.pd j hj
   have hne:i≠j:=by rintro rfl;rw [hV] at h1;cases h1
   refine ⟨hup j h1,fun o' ho'=>?_⟩
   obtain ⟨U,u1,u2,u3,u4,u5,u6,u7⟩:=h2 o' ho'
   have hUi:U.getD i false=false:=by
    cases hu:U.getD i false with
    | false=>rfl
    | true=>have:=u3 i hu;rw [hV] at this;cases this
   have cv:∀ {h h':wK},QS P w0 T0 ops o' s0.n (xQ ops s0 vs U) h h' (vs.getD j .dead)→QS P w0 T0 ops o' s0.n (xQ ops s0 (vs.set i v) U) h h' ((vs.set i v).getD j .dead):=by
    intro h h' hh
    rw [BL hne]
    exact hh.congr fun r _=>Dl hUi r
   refine ⟨U,u1,u2,fun k hk=>hup k (u3 k hk),u4,u5,?_,?_⟩
   ·rw [hrows.1,hrows.2.1];exact cv u6
   ·rcases u7 with h|⟨x,hx,h⟩
    ·exact .inl fun h'=>cv (h h')
    ·exact .inr ⟨x,hsub _ hx,fun h' hc=>cv (h h' hc)⟩
 ·intro j oj d hj hoj hdj
  by_cases e:i=j
  ·subst e
   rw [ho] at hoj;cases hoj
   rw [hdj] at hdst
   rw [←hv.n];exact hdst
  ·rw [getD_set_ne false e] at hj
   exact hv.put j oj d hj hoj hdj
theorem Tn.eff (hok:pI ops [] [] T) {s0 s:S} {vs:List AV} {V:Array Bool} {Pd ks:List Nat} {acc:List (Nat × Acc)} {i:Nat} {o:Oper} {v:AV} {R:List (Nat × Item)} {N:Nat} (hv:Tn P w0 T0 ops s0 vs V Pd acc s) (ho:ops[i]?=some o) (hd:Dp V o) (hV:V.getD i false=false)
  (hks:∀ j,j∈ks→j∈Pd) (hre:NR P w0 T0 s.n R N (qZ ks acc)) (hdst:qB o.dst s.n):Tn P w0 T0 ops s0 (vs.set i v) (V.setIfInBounds i true) ks (qZ ks acc) (pF o.dst v ⟨s.n,s.env,R,N⟩):=by
 have hilt:=(Array.getElem?_eq_some_iff.1 ho).1
 have hup:∀ j,V.getD j false=true→(V.setIfInBounds i true).getD j false=true:=fun j hj=>getD_set_true hj
 have hrows:(pF o.dst v ⟨s.n,s.env,R,N⟩).rows=R∧(pF o.dst v ⟨s.n,s.env,R,N⟩).next=N∧(pF o.dst v ⟨s.n,s.env,R,N⟩).n=s.n:=by
  unfold pF;cases o.dst<;>exact ⟨rfl,rfl,rfl⟩
 refine ⟨by simpa using hv.vsize,by simpa using hv.vlen,hv.cl.set ho hd,by rw [hrows.2.2];exact hv.n,?_,?_,?_⟩
 ·exact Nw hok ho hv.vsize hv.vlen hV hv.sget
 ·intro j hj
  obtain ⟨h1,h2⟩:=hv.pd j (hks j hj)
  have hne:i≠j:=by rintro rfl;rw [hV] at h1;cases h1
  refine ⟨hup j h1,fun o' ho'=>?_⟩
  obtain ⟨U,u1,u2,u3,u4,u5,u6,u7⟩:=h2 o' ho'
  have hUi:U.getD i false=false:=by
   cases hu:U.getD i false with
   | false=>rfl
   | true=>have:=u3 i hu;rw [hV] at this;cases this
  have cv:∀ {h h':wK},QS P w0 T0 ops o' s0.n (xQ ops s0 vs U) h h' (vs.getD j .dead)→QS P w0 T0 ops o' s0.n (xQ ops s0 (vs.set i v) U) h h' ((vs.set i v).getD j .dead):=by
   intro h h' hh
   rw [BL hne]
   exact hh.congr fun r _=>Dl hUi r
  refine ⟨U,u1,u2,fun k hk=>hup k (u3 k hk),u4,u5,?_,?_⟩
  ·rw [hrows.1,hrows.2.1]
   rcases u7 with h|⟨x,hx,h⟩
   ·exact cv (h _)
   ·have:=Ux hre (pY (x:=(j,x)) (HY.2 hj) hx)
    rw [hv.n] at this
    exact cv (h _ this)
  ·rcases u7 with h|⟨x,hx,h⟩
   ·exact .inl fun h'=>cv (h h')
   ·exact .inr ⟨x,pY (x:=(j,x)) (HY.2 hj) hx,fun h' hc=>cv (h h' hc)⟩
 ·intro j oj d hj hoj hdj
  by_cases e:i=j
  ·subst e
   rw [ho] at hoj;cases hoj
   rw [hdj] at hdst
   rw [←hv.n];exact hdst
  ·rw [getD_set_ne false e] at hj
   exact hv.put j oj d hj hoj hdj
end
end Go.Fv
/-
 Families of rows: as many owned rows as a list tells, with names one behind the other.
-/
namespace Go.Fv
section
variable {w0:World} {T0:Bs} {b0:Nat}
theorem aK.ofF (p:Nat→Nat) {s s':S} (hn:s'.n=s.n) (hb:b0≤s'.next) (hlow:∀ i,i<b0→p i=i) (he:Bf p s s'.next s'.env)
  (hr:∀ i it,lk s'.rows i=some it→i<s'.next∧lk s.rows (p i)=some (it.ren p)∧it.below s'.next=true)
  (hinj:∀ i j it jt,lk s'.rows i=some it→lk s'.rows j=some jt→p i=p j→i=j):aK w0 T0 b0 s s':=by
 rintro H a w hH ⟨m,hm⟩
 have hren:mV p (aB T0 w0.heap.size m s w) (aB T0 w0.heap.size (fun i=>m (p i)) s' w):=
  {m:=fun _ _=>rfl,
   t:=by
    intro b ⟨h1,h2⟩ _
    refine ⟨⟨h1,fun i it hi e=>?_⟩,rfl⟩
    obtain ⟨_,h3,_⟩:=hr i it hi
    exact h2 _ _ h3 e }
 refine ⟨fun i=>m (p i),{ size:=by rw [hn];exact hm.size,nodef:=hm.nodef,below:=hm.below,env:=?_,held:=?_,rows:=?_,sep:=?_ }⟩
 ·intro r v hv
  obtain ⟨h1,h2⟩:=zS he r v (fG hv)
  refine Rv.ren hren v h2 ?_
  have:Rv (aB T0 w0.heap.size m s w) (s.get r) (a.tmps.getD r undef):=by
   simp only [S.get]
   cases hq:lk s.env r with
   | none=>exact .dead _
   | some y=>exact hm.env r y hq
  rw [←h1];exact this
 ·intro q hq
  have h1:=hH q hq
  refine Rv.ren hren q.1 (below_le hb _ h1) ?_
  rw [lU hlow _ h1];exact hm.held q hq
 ·intro i it hi
  obtain ⟨h1,h2,h3⟩:=hr i it hi
  exact ⟨h1,bg.ren hren rfl h3 (hm.rows _ _ h2).2⟩
 ·intro i j it jt b hi hj hbi hbj
  obtain ⟨_,h2,_⟩:=hr i it hi
  obtain ⟨_,h2',_⟩:=hr j jt hj
  exact hinj i j it jt hi hj (hm.sep _ _ _ _ b h2 h2' hbi hbj)
end
/-! ### Renamings by hand -/
def p1 (a K x:Nat):Nat:=if x=a then K else x
def p2 (a K a' K' x:Nat):Nat:=if x=a then K else if x=a' then K' else x
end Go.Fv
/-
 An owned row becomes data, wherever the state speaks of it.
-/
namespace Go.Fv
open Go.RowKit
mutual
def fz (k:Nat) (r:aP):AV→AV
 | .own i=>if i=k then .ro r else .own i
 | .ptr i o=>.ptr i o
 | .elt i a b c=>.elt i a b c
 | .pre i n=>.pre i n
 | .agg cs=>.agg (OH k r cs)
 | .tup cs=>.tup (OH k r cs)
 | .fn f cs=>.fn f (OH k r cs)
 | .cell cs=>.cell cs
 | .dead=>.dead
 | .nilS=>.nilS
 | .bool b=>.bool b
 | .int q n=>.int q n
 | .str s=>.str s
 | .ro r=>.ro r
 | .raw v=>.raw v
 | .opt b v=>.opt b (fz k r v)
 | .mp ks vs=>.mp ks vs
def OH (k:Nat) (r:aP):List AV→List AV
 | []=>[]
 | x::l=>fz k r x::OH k r l
end
def fzR (k:Nat) (q:aP):aP→aP
 | .objs sz l=>.objs sz (l.map (OH k q))
 | .bools l=>.bools l
 | .ints k l=>.ints k l
 | .strs l=>.strs l
def fzI (k:Nat) (q:aP):Item→Item
 | .row e r=>.row e (fzR k q r)
 | .box e cs=>.box e (OH k q cs)
 | .map ks vs=>.map (OH k q ks) (OH k q vs)
 | .iter mp since seen=>.iter mp since seen
 | .siter t pos=>.siter t pos
def fzE (k:Nat) (q:aP):List (Nat × AV)→List (Nat × AV)
 | []=>[]
 |(i,v)::l=>(i,fz k q v)::fzE k q l
def wV (k:Nat) (q:aP):List (Nat × Item)→List (Nat × Item)
 | []=>[]
 |(i,it)::l=>if i=k then wV k q l else (i,fzI k q it)::wV k q l
def S.fz (s:S) (k:Nat) (r:aP):S:={ s with env:=fzE k r s.env,rows:=wV k r s.rows }
theorem V5 (k:Nat) (q:aP):∀ (l:List (Nat × AV)) (i:Nat),lk (fzE k q l) i=(lk l i).map (fz k q)
 | [],i=>rfl
 |(j,v)::l,i=>by
  simp only [fzE,lk]
  split
  ·rfl
  ·exact V5 k q l i
theorem Aa (k:Nat) (q:aP):∀ (l:List (Nat × Item)) (i:Nat),lk (wV k q l) i=if i=k then none else (lk l i).map (fzI k q)
 | [],i=>by simp [wV,lk]
 |(j,v)::l,i=>by
  simp only [wV]
  split
  ·rename_i e;subst e
   rw [Aa]
   by_cases h:i=j
   ·simp [h]
   ·simp only [if_neg h,lk];rw [if_neg (fun e=>h e.symm)]
  ·rename_i e
   simp only [lk]
   split
   ·rename_i e2;subst e2;rw [if_neg e];rfl
   ·exact Aa k q l i
mutual
theorem Eh {k:Nat} {r:aP} (n:Nat):∀ x:AV,below n x=true→below n (fz k r x)=true
 | .own i,h=>by
  simp only [fz];split
  ·rfl
  ·exact h
 | .ptr i o,h=>h
 | .elt i a b c,h=>h
 | .pre i n,h=>h
 | .agg cs,h=>by simp only [fz,below] at *;exact vw n cs h
 | .tup cs,h=>by simp only [fz,below] at *;exact vw n cs h
 | .fn f cs,h=>by simp only [fz,below] at *;exact vw n cs h
 | .cell cs,_=>rfl
 | .dead,_=>rfl
 | .nilS,_=>rfl
 | .bool _,_=>rfl
 | .int _ _,_=>rfl
 | .str _,_=>rfl
 | .ro _,_=>rfl
 | .raw _,_=>rfl
 | .opt _ v,h=>by simp only [fz,below] at *;exact Eh n v h
 | .mp _ _,_=>rfl
theorem vw {k:Nat} {r:aP} (n:Nat):∀ x:List AV,aX n x=true→aX n (OH k r x)=true
 | [],_=>rfl
 | x::l,h=>by
  simp only [aX,Bool.and_eq_true] at h
  simp [OH,aX,Eh n x h.1,vw n l h.2]
end
mutual
theorem Pz (k:Nat) (r:aP) (b0:Nat) (hb:b0≤k):∀ x:AV,below b0 x=true→fz k r x=x
 | .own i,h=>by
  simp only [below,decide_eq_true_eq] at h
  simp only [fz];rw [if_neg (by omega)]
 | .ptr i o,h=>rfl
 | .elt i a b c,h=>rfl
 | .pre i n,h=>rfl
 | .agg cs,h=>by simp only [fz];rw [CU k r b0 hb cs (by simpa [below] using h)]
 | .tup cs,h=>by simp only [fz];rw [CU k r b0 hb cs (by simpa [below] using h)]
 | .fn f cs,h=>by simp only [fz];rw [CU k r b0 hb cs (by simpa [below] using h)]
 | .cell cs,_=>rfl
 | .dead,_=>rfl
 | .nilS,_=>rfl
 | .bool _,_=>rfl
 | .int _ _,_=>rfl
 | .str _,_=>rfl
 | .ro _,_=>rfl
 | .raw _,_=>rfl
 | .mp _ _,_=>rfl
 | .opt b v,h=>by simp only [fz];rw [Pz k r b0 hb v (by simpa [below] using h)]
theorem CU (k:Nat) (r:aP) (b0:Nat) (hb:b0≤k):∀ x:List AV,aX b0 x=true→OH k r x=x
 | [],_=>rfl
 | x::l,h=>by
  simp only [aX,Bool.and_eq_true] at h
  simp only [OH];rw [Pz k r b0 hb x h.1,CU k r b0 hb l h.2]
end
structure Dw (k:Nat) (r:aP) (c c':Ctx):Prop where
 n:c'.N=c.N
 m:c'.m=c.m
 t:∀ b,c.T b→b<c.w.heap.size→c'.T b∧c'.w.heap[b]?=c.w.heap[b]?
 ro:Rv c' (.ro r) (c.m k)
mutual
theorem Rv.fz {k:Nat} {r:aP} {c c':Ctx} (h:Dw k r c c'):∀ {x:AV} {v:Value},Rv c x v→Rv c' (Fv.fz k r x) v
 | _,_,.dead v=>.dead v
 | _,_,.nilS=>.nilS
 | _,_,.bool b=>.bool b
 | _,_,.int q n hk=>.int q n hk
 | _,_,.str s hs=>.str s hs
 | _,_,.roNil r hr hi=>.roNil r (bT.gK h.t hr hi) hi
 | _,_,.ro r a len cap cells hr hl hc hm hs hi=>.ro r a len cap cells (bT.gK h.t hr hi) hl hc hm (hs.mono' h.t) hi
 | _,_,.mp ks vs g es clock hk hv hb hc hT hh hi hi2=>.mp ks vs g es clock (eG.gK h.t hk hi) (eG.gK h.t hv hi2) hb hc (h.t g hT (Array.getElem?_eq_some_iff.1 hh).1).1 (by rw [(h.t g hT (Array.getElem?_eq_some_iff.1 hh).1).2];exact hh) hi hi2
 | _,_,.own i hi h1=>by
  simp only [Fv.fz]
  split
  ·rename_i e;subst e;exact h.ro
  ·rw [←h.m];exact .own i (by rw [h.n];exact hi) (by rw [h.m];exact h1)
 | _,_,.cell cs vs a hl hi hs=>.cell cs vs a (bW.gK h.t hl hi) hi (hs.mono' h.t)
 | _,_,.ptr i off g hi hg=>.ptr i off g (by rw [h.n];exact hi) (by rw [h.m];exact hg)
 | _,_,.elt i a b d g hi hg=>.elt i a b d g (by rw [h.n];exact hi) (by rw [h.m];exact hg)
 | _,_,.pre i n l cap a hi hv hn=>.pre i n l cap a (by rw [h.n];exact hi) (by rw [h.m];exact hv) hn
 | _,_,.agg cs vs hl=>.agg _ vs (bW.fz h hl)
 | _,_,.tup cs vs hl=>.tup _ vs (eG.fz h hl)
 | _,_,.fn f cs vs hl=>.fn f _ vs (eG.fz h hl)
 | _,_,.raw v=>.raw v
 | _,_,.opt b x v hb hx h2=>.opt b _ v (by rw [h.n];exact Eh _ _ hb) (fun e=>Rv.fz h (hx e)) h2
theorem bW.fz {k:Nat} {r:aP} {c c':Ctx} (h:Dw k r c c'):∀ {x:List AV} {v:List Value},bW c x v→bW c' (OH k r x) v
 | _,_,.nil=>.nil
 | _,_,.cons x v l vs hx h1 ht=>.cons _ v _ vs (Rv.fz h hx) h1 (bW.fz h ht)
theorem eG.fz {k:Nat} {r:aP} {c c':Ctx} (h:Dw k r c c'):∀ {x:List AV} {v:List Value},eG c x v→eG c' (OH k r x) v
 | _,_,.nil=>.nil
 | _,_,.cons x v l vs hx ht=>.cons _ v _ vs (Rv.fz h hx) (eG.fz h ht)
end
theorem bM.fz {k:Nat} {r:aP} {c c':Ctx} (h:Dw k r c c'):∀ {sz:Nat} {x:List (List AV)} {v:List Value},bM c sz x v→bM c' sz (x.map (OH k r)) v
 | _,_,_,.nil sz=>.nil sz
 | _,_,_,.cons sz o vs l cells ho hl ht=>.cons sz _ vs _ cells (ho.fz h) hl (ht.fz h)
theorem bT.fz {k:Nat} {q:aP} {c c':Ctx} (h:Dw k q c c') {x:aP} {v:List Value} (hr:bT c x v):bT c' (fzR k q x) v:=by
 cases hr with
 | bools l=>exact .bools l
 | ints k l hk=>exact .ints k l hk
 | strs l hs=>exact .strs l hs
 | objs sz l cells hz ho=>exact .objs sz _ _ hz (ho.fz h)
theorem Yh (k:Nat) (q r:aP):(fzR k q r).len=r.len:=by cases r<;>simp [fzR,aP.len]
theorem ZN (k:Nat) (q r:aP):(fzR k q r).sz=r.sz:=by cases r<;>rfl
theorem bg.fz {k:Nat} {q:aP} {c c':Ctx} (h:Dw k q c c') (hw:c'.w=c.w) {O:Nat→Prop} {v:Value} {it:Item} (hi:bg c O v it):bg c' O v (fzI k q it):=by
 cases it with
 | row e r=>
  obtain ⟨n,cells,hr,hn,ho,hO⟩:=hi
  exact ⟨n,cells,hr.fz h,by rw [Yh];exact hn,by rw [ZN,hw];exact ho,hO⟩
 | box e cs=>obtain ⟨g,vs,rfl,hg,hl,hh⟩:=hi;exact ⟨g,vs,rfl,hg,hl.fz h,by rw [hw];exact hh⟩
 | map ks vs=>obtain ⟨g,es,clock,rfl,hg,h1,h2,h3,h4,hh⟩:=hi;exact ⟨g,es,clock,rfl,hg,h1.fz h,h2.fz h,h3,h4,by rw [hw];exact hh⟩
 | iter mp since seen=>obtain ⟨g,p,sn,last,rfl,hg,h1,h2,h3,h4,hh⟩:=hi;exact ⟨g,p,sn,last,rfl,hg,by rw [h.n];exact h1,by rw [h.m];exact h2,h3,h4,by rw [hw];exact hh⟩
 | siter t pos=>obtain ⟨g,rfl,hg,hh⟩:=hi;exact ⟨g,rfl,hg,by rw [hw];exact hh⟩
section
variable {w0:World} {T0:Bs} {b0:Nat}
theorem aK.fz (k:Nat) {s:S} {e:TypeId} {r:aP} (hk:lk s.rows k=some (.row e r)) (hid:iP r=true) (hb:b0≤k):aK w0 T0 b0 s (s.fz k r):=by
 rintro H a w hH ⟨m,hm⟩
 have hsub:∀ i it,lk (s.fz k r).rows i=some it→i≠k∧∃ jt,lk s.rows i=some jt∧it=fzI k r jt:=by
  intro i it hi
  simp only [S.fz,Aa] at hi
  split at hi
  ·cases hi
  ·rename_i hne
   cases hq:lk s.rows i with
   | none=>rw [hq] at hi;cases hi
   | some jt=>rw [hq] at hi;cases hi;exact ⟨hne,jt,rfl,rfl⟩
 have hdel:∀ i it,lk (del s.rows k) i=some it→lk s.rows i=some it:=lQ _ _
 have hro:=P7 hm hk hdel (by rw [rU,if_pos rfl]) hid
 have hT:∀ b,allow T0 w0.heap.size m (del s.rows k) b→allow T0 w0.heap.size m (s.fz k r).rows b:=by
  rintro b ⟨h1,h2⟩
  refine ⟨h1,fun i it hi e=>?_⟩
  obtain ⟨hne,jt,hj,_⟩:=hsub i it hi
  exact h2 i jt (by rw [rU,if_neg hne];exact hj) e
 have hc:Dw k r (aB T0 w0.heap.size m s w) (aB T0 w0.heap.size m (s.fz k r) w):=
  {n:=rfl,m:=rfl,
   t:=by
    intro b ⟨h1,h2⟩ _
    exact ⟨hT b ⟨h1,fun i it hi=>h2 i it (hdel i it hi)⟩,rfl⟩,
   ro:=by
    refine Rv.gK (c:=aB T0 w0.heap.size m { s with rows:=del s.rows k } w) ?_ hro rfl
    intro b hb _
    exact ⟨hT b hb,rfl⟩ }
 refine ⟨m,{ size:=hm.size,nodef:=hm.nodef,below:=hm.below,env:=?_,held:=?_,rows:=?_,sep:=?_ }⟩
 ·intro q v hv
  simp only [S.fz,V5] at hv
  cases hq:lk s.env q with
  | none=>rw [hq] at hv;cases hv
  | some y=>rw [hq] at hv;cases hv;exact (hm.env q y hq).fz hc
 ·intro p hp
  have h1:=(hm.held p hp).fz hc
  have h2:Fv.fz k r p.1=p.1:=by
   have hlow:=hH p hp
   exact Pz k r b0 hb p.1 hlow
  rwa [h2] at h1
 ·intro i it hi
  obtain ⟨hne,jt,hj,rfl⟩:=hsub i it hi
  exact ⟨(hm.rows i jt hj).1,(hm.rows i jt hj).2.fz hc rfl⟩
 ·intro i j it jt b hi hj hbi hbj
  obtain ⟨_,it',hi',_⟩:=hsub i it hi
  obtain ⟨_,jt',hj',_⟩:=hsub j jt hj
  exact hm.sep i j it' jt' b hi' hj' hbi hbj
end
attribute [go_sem] fz OH fzR fzI fzE wV S.fz
end Go.Fv
/-
 The set by which states are held against one another.
-/
namespace Go.Fv
theorem NU (p:Nat→Nat) (x:AV):∀ n:Nat,iW p (List.replicate n x)=List.replicate n (ren p x)
 | 0=>rfl
 | n+1=>by simp only [List.replicate_succ,iW];rw [NU p x n]
theorem wO {N:Nat} {x:AV} (h:below N x=true):∀ n:Nat,aX N (List.replicate n x)=true
 | 0=>rfl
 | n+1=>by simp only [List.replicate_succ,aX,h,Bool.true_and];exact wO h n
theorem Ip {x:AV} (h:dZ x=true):∀ n:Nat,dh (List.replicate n x)=true
 | 0=>rfl
 | n+1=>by simp only [List.replicate_succ,dh,h,Bool.true_and];exact Ip h n
theorem Sz {x:AV} (h:dZ x=true) (n:Nat) (y:List AV):C9 (List.replicate n x) y=[]:=mg _ y (Ip h n)
theorem Le (N n:Nat) (b:Bool):aX N (List.replicate n (AV.bool b))=true:=wO rfl n
theorem Lh (N n:Nat) (k:IntKind) (i:Int):aX N (List.replicate n (AV.int k i))=true:=wO rfl n
theorem Wp (n:Nat) (b:Bool) (y:List AV):C9 (List.replicate n (AV.bool b)) y=[]:=Sz rfl n y
theorem Wq (n:Nat) (k:IntKind) (i:Int) (y:List AV):C9 (List.replicate n (AV.int k i)) y=[]:=Sz rfl n y
attribute [go_sem] Ws Wn Ik MS Ap Xj aac MX nG Bf lg Il Sv JC mkItem mkV C9 pm Item.below AV.own.injEq AV.str.injEq AV.ro.injEq AV.agg.injEq AV.tup.injEq List.cons.injEq Option.some.injEq Item.row.injEq Item.box.injEq aP.ints.injEq aP.bools.injEq aP.strs.injEq aP.objs.injEq Nat.succ_ne_self NU Le Lh Wp Wq MW Am tu Ij
attribute [go_sem] qZ NR SL
end Go.Fv
/-
 Calls into the callee's code: what it writes into memory that the caller owns is seen by the caller.
-/
namespace Go.Fv
open Go.RowKit
def XL (P:Program) (res:List ResultVar) (s:S) (K:AV→S→Prop):Exit→S→Prop
 | .normal,s1=>Ap P s1 res (fun vs=>K (nG vs) { s with rows:=s1.rows,next:=s1.next })
 | .ret,s1=>Ap P s1 res (fun vs=>K (nG vs) { s with rows:=s1.rows,next:=s1.next })
 | _,_=>False
section
variable {P:Program} {w0:World} {T0:Bs}
theorem ah.inl {f:Nat} {fn:Func} {c:Code} {args:List AV} {s:S} {K:AV→S→Prop} (hf:P.funcs[f]?=some fn) (hb:fn.body=some c)
  (hnm:(fn.name == "runtime.NumGoroutine")=false) (hn:args.length≤fn.ntmps) (res:List ResultVar) (hres:fn.results=res.toArray)
  (h:kD P w0 T0 s.next c ⟨fn.ntmps,au 0 args,s.rows,s.next⟩ (XL P res s K)):@ah P w0 T0 f args s ⟨K⟩:=by
 refine ⟨⟨fn,hf,by rw [hb];rfl,hnm⟩,fun H a w m vals hm hv=>?_⟩
 refine calls_of_wp hf hb ?_
 have hlen:=hv.length
 have hE:∀ p,p∈(s.env.map fun p=>(s.get p.1,a.tmps.getD p.1 undef))++H→Rv (aB T0 w0.heap.size m s w) p.1 p.2:=by
  intro p hp
  rcases List.mem_append.1 hp with hp|hp
  ·obtain ⟨q,_,rfl⟩:=List.mem_map.1 hp
   show Rv _ (s.get q.1) _
   unfold S.get
   cases hl:lk s.env q.1 with
   | none=>exact .dead _
   | some y=>exact hm.env q.1 y hl
  ·exact hm.held p hp
 have hrep:bG w0 T0 ((s.env.map fun p=>(s.get p.1,a.tmps.getD p.1 undef))++H) ⟨fn.ntmps,au 0 args,s.rows,s.next⟩ { tmps:=vals.toArray++Array.replicate (fn.ntmps - vals.toArray.size) undef,defers:=[] } w m:=
  {size:=by simp;omega,nodef:=rfl,below:=hm.below,
   env:=by
    intro r v hr
    obtain ⟨u,h1,h2⟩:=uS 0 [] rfl hv r v hr
    have e:((vals.toArray++Array.replicate (fn.ntmps - vals.toArray.size) undef).getD r undef)=u:=by
     have h1':vals[r]?=some u:=by simpa using h1
     have hlt:r<vals.length:=(List.getElem?_eq_some_iff.1 h1').1
     rw [Array.getD_eq_getD_getElem?,Array.getElem?_append_left (by simpa using hlt)]
     simp [h1']
    rw [e];exact h2,
   held:=hE,rows:=hm.rows,sep:=hm.sep }
 refine wp_mono (h _ _ w (fun p hp=>(hE p hp).ids) ⟨m,hrep⟩) ?_
 rintro e a1 w1 ⟨s1,hq,m1,hm1⟩
 have fin:Ap P s1 res (fun vs=>K (nG vs) { s with rows:=s1.rows,next:=s1.next })→a1.defers=[]∧∃ v,(results fn a1.tmps).run P w1=.ok v w1∧∃ v',Ending.returned v=.returned v'∧∃ r s',K r s'∧Rep w0 T0 ((r,v')::H) s' a w1:=by
  intro hk
  obtain ⟨l,vs,hk,hr,hvs⟩:=uH hm1 hk
  have hrv:Rv (aB T0 w0.heap.size m1 s1 w1) (nG l) (QG vs):=by
   cases hvs with
   | nil=>exact .tup _ _ .nil
   | cons x v l us hx ht=>
    cases ht with
    | nil=>exact hx
    | cons x' v' l' us' hx' ht'=>exact .tup _ _ (.cons _ _ _ _ hx (.cons _ _ _ _ hx' ht'))
  refine ⟨hm1.nodef,_,nT hres a1.tmps hr,_,rfl,_,_,hk,m1,?_⟩
  exact
     {size:=hm.size,nodef:=hm.nodef,below:=hm1.below,
      env:=by
       intro r v hv
       have hmem:(s.get r,a.tmps.getD r undef)∈(s.env.map fun p=>(s.get p.1,a.tmps.getD p.1 undef))++H:=
        List.mem_append.2 (.inl (List.mem_map.2 ⟨(r,v),fG hv,rfl⟩))
       have:=hm1.held _ hmem
       have e:s.get r=v:=by unfold S.get;rw [show lk s.env r=some v from hv]
       rw [e] at this;exact this,
      held:=by
       intro p hp
       cases List.mem_cons.1 hp with
       | inl e=>subst e;exact hrv
       | inr e=>exact hm1.held p (List.mem_append.2 (.inr e)),
      rows:=hm1.rows,sep:=hm1.sep }
 cases e with
 | normal=>exact fin hq
 | ret=>exact fin hq
 | _=>exact hq.elim
end
end Go.Fv
