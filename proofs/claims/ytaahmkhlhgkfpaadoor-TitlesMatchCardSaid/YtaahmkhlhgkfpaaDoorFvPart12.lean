/-
  A part of the proof of the claim: walks over the program's functions and the plain laws that these need. No condition of its own.
-/
import Derived.Test.YtaahmkhlhgkfpaaDoorFvPart11
import GoSem.ClaimJoined
set_option linter.unusedSectionVars false
set_option linter.unusedVariables false
set_option linter.unusedSimpArgs false
/-
 What arrives: rows of texts and of structs.
-/
namespace Go.Fv
open Go.RowKit
section
variable {H:Type} {enc:TypeId × Value→H} {P:Program} {w:World} {t:TypeId} {cs:List Value} {x:DataW H × List MemPlace}
theorem aS.str1 {c:Ctx} {s:List UInt8} {vs:List Value} (h:aS c [.str s] vs):vs=[.string ⟨s.toArray⟩]∧s.length≤maxLen:=by
 cases h with
 | cons _ v _ _ hv _ ht=>
  cases ht
  cases hv with
  | str _ h=>exact ⟨rfl,h⟩
theorem Rd.strs {e:TypeId} (ht:P.underlying t=some (.slice e)) (he:P.underlying e=some .string) (h:Rd enc P w t cs x):∃ l:List (List UInt8),(∀ s,s∈l→s.length≤maxLen)∧aS (qK w) [.ro (.strs l)] cs:=by
 obtain ⟨l,h1,h2⟩:=Rd.row (β:=List UInt8) ht .strs (fun _=>rfl) (.strs [] (fun x hx=>by cases hx)) (fun b vs=>aS (qK w) [.str b] vs) (fun l vss hv=>by
  have:vss.flatten=l.map (fun s=>Value.string ⟨s.toArray⟩)∧∀ s,s∈l→s.length≤maxLen:=by
   induction hv with
   | nil=>exact ⟨rfl,fun s hs=>by cases hs⟩
   | cons h _ ih=>
    obtain ⟨rfl,hl⟩:=h.str1
    refine ⟨by simp [ih.1],fun s hs=>?_⟩
    cases List.mem_cons.1 hs with
    | inl e=>subst e;exact hl
    | inr e=>exact ih.2 s e
  rw [this.1];exact .strs l this.2) (fun _ _=>True) (fun vs y hy=>by
   obtain ⟨s,_,hs⟩:=hy.str he
   exact ⟨s,hs,trivial⟩) h
 refine ⟨l,?_,h1⟩
 cases h1 with
 | cons _ v _ _ hv _ _=>
  have go:∀ {cells:List Value},aQ (qK w) (.strs l) cells→∀ s,s∈l→s.length≤maxLen:=by
   intro cells hr
   generalize hq:au.strs l=r at hr
   cases hr<;>cases hq
   assumption
  cases hv with
  | roNil _ hr=>exact go hr
  | ro _ _ _ _ _ hr=>exact go hr
theorem Rd.objs {e:TypeId} {β:Type} (ht:P.underlying t=some (.slice e)) (n:Nat) (hn:0<n) (av:β→List AV) (hid:∀ b,aU (av b)=true) (hlen:∀ b,(av b).length=n) (I:β→Prop)
  (hel:∀ vs y,Rd enc P w e vs y→∃ b,aS (qK w) (av b) vs∧I b) (h:Rd enc P w t cs x):∃ l:List β,(∀ b,b∈l→I b)∧aS (qK w) [.ro (.objs n (l.map av))] cs:=by
 obtain ⟨l,h1,h2⟩:=Rd.row (β:={ b:β // I b }) ht (fun l=>.objs n (l.map fun b=>av b.1)) (fun l=>by simp [au.len]) (.objs n [] [] hn (.nil n)) (fun b vs=>aS (qK w) (av b.1) vs) (fun l vss hv=>by
  refine .objs n _ _ hn ?_
  induction hv with
  | nil=>exact .nil n
  | cons h _ ih=>exact .cons n _ _ _ _ h (by rw [h.length];exact hlen _) ih) (fun _ _=>True) (fun vs y hy=>by
   obtain ⟨b,hb,hI⟩:=hel vs y hy
   exact ⟨⟨b,hI⟩,hb,trivial⟩) h
 refine ⟨l.map (·.1),fun b hb=>?_,?_⟩
 ·obtain ⟨y,_,rfl⟩:=List.mem_map.1 hb;exact y.2
 ·rw [List.map_map];exact h1
theorem FN {base:Nat} {v:Value} {d:DataW H} {ps:List MemPlace} {e:TypeId} {β:Type} (ht:P.underlying t=some (.slice e)) (n:Nat) (hn:0<n) (av:β→List AV) (hid:∀ b,aU (av b)=true) (hlen:∀ b,(av b).length=n) (I:β→Prop)
  (hel:∀ vs y,Rd enc P w e vs y→∃ b,aS (qK w) (av b) vs∧I b) (hv:Value.okWide P w .any base t v) (h:DataW.Trod enc P w 0 (fun _=>true) true t v d ps) :
  ∃ l:List β,(∀ b,b∈l→I b)∧Rv (qK w) (.ro (.objs n (l.map av))) v:=by
 obtain ⟨b,hb,hk⟩:=(Trod.rd h).objs ht n hn av hid hlen I hel
 rw [xU ht (.inr (.inr (.inr ⟨e,rfl⟩))) hv] at hk
 exact ⟨b,hb,hk.hd⟩
end
end Go.Fv
/-
 What arrives: structs, field by field.
-/
namespace Go.Fv
open Go.RowKit
section
variable {H:Type} {enc:TypeId × Value→H} {P:Program} {w:World} {t:TypeId} {cs:List Value} {x:DataW H × List MemPlace}
theorem Rd.at {fs:Array Field} (ht:P.underlying t=some (.struct fs)) (h:Rd enc P w t cs x) (i:Nat) (f:Field) (hf:fs[i]?=some f) (o n:Nat) (ho:f.offset=o) (hn:P.cellsOf f.type=n):∃ y,Rd enc P w f.type ((cs.drop o).take n) y:=by
 obtain ⟨_,xs,_,_,hx⟩:=h.fields ht
 obtain ⟨y,_,hy⟩:=hx i f hf
 rw [ho,hn] at hy
 exact ⟨y,hy⟩
theorem Rd.len {fs:Array Field} (ht:P.underlying t=some (.struct fs)) (h:Rd enc P w t cs x):cs.length=P.cellsOf t:=(h.fields ht).1
theorem KL {α:Type} (l:List α) (a b:Nat) (h:l.length=a+b):l=(l.drop 0).take a++(l.drop a).take b:=by
 rw [List.drop_zero]
 have:(l.drop a).take b=l.drop a:=List.take_of_length_le (by simp;omega)
 rw [this,List.take_append_drop]
theorem Rd.s2 {f0 f1:Field} (ht:P.underlying t=some (.struct #[f0,f1])) (a b:Nat) (hc:P.cellsOf t=a+b) (o:f0.offset=0∧f1.offset=a) (c:P.cellsOf f0.type=a∧P.cellsOf f1.type=b)
  {α β:Type} {av:α→List AV} {bv:β→List AV} (h0:∀ cs x,Rd enc P w f0.type cs x→∃ l,aS (qK w) (av l) cs) (h1:∀ cs x,Rd enc P w f1.type cs x→∃ l,aS (qK w) (bv l) cs) (h:Rd enc P w t cs x) :
  ∃ l m,aS (qK w) (av l++bv m) cs:=by
 obtain ⟨y0,r0⟩:=h.at ht 0 f0 rfl _ _ o.1 c.1
 obtain ⟨y1,r1⟩:=h.at ht 1 f1 rfl _ _ o.2 c.2
 obtain ⟨l,v0⟩:=h0 _ _ r0
 obtain ⟨m,v1⟩:=h1 _ _ r1
 refine ⟨l,m,?_⟩
 rw [KL cs a b (by rw [h.len ht,hc])]
 exact v0.app v1
theorem Rd.str' (ht:P.underlying t=some .string) (h:Rd enc P w t cs x):∃ n:List UInt8,aS (qK w) [.str n] cs:=by obtain ⟨n,_,h⟩:=h.str ht;exact ⟨n,h⟩
end
end Go.Fv
/-
 What arrives, with a bound: 'B' tells how much a reading holds; what it says of the whole it says of each part.
-/
namespace Go.Fv
open Go.RowKit
structure Fz (H:Type) (B:DataW H→Nat) (BA:List (DataW H)→Nat):Prop where
 str:∀ s,B (.lit (.string s))=s.length+1
 sl:∀ l m,B (.slice l m)=BA l+BA m+1
 ag:∀ l,B (.agg l)=BA l+1
 nil:BA []=0
 cons:∀ d r,BA (d::r)=B d+BA r
 pos:∀ d,1≤B d
theorem Fz.mem {H:Type} {B:DataW H→Nat} {BA:List (DataW H)→Nat} (hB:Fz H B BA):∀ {l:List (DataW H)} {d:DataW H},d∈l→B d≤BA l
 | e::l,d,h=>by
  rw [hB.cons]
  cases List.mem_cons.1 h with
  | inl h=>subst h;omega
  | inr h=>have:=hB.mem h;omega
theorem Fz.len {H:Type} {B:DataW H→Nat} {BA:List (DataW H)→Nat} (hB:Fz H B BA):∀ {l:List (DataW H)},l.length≤BA l
 | []=>Nat.zero_le _
 | e::l=>by
  rw [hB.cons,List.length_cons]
  have:=hB.len (l:=l)
  have:=hB.pos e
  omega
section
variable {H:Type} {B:DataW H→Nat} {BA:List (DataW H)→Nat} (hB:Fz H B BA) (N:Nat) {enc:TypeId × Value→H} {P:Program} {w:World} {t:TypeId} {cs:List Value} {x:DataW H × List MemPlace}
include hB
omit hB in
theorem mP.mem {α β:Type} {R:α→β→Prop} {l:List α} {m:List β} (h:mP R l m):∀ a,a∈l→∃ b,b∈m∧R a b:=by
 induction h with
 | nil=>intro a ha;cases ha
 | cons h _ ih=>
  intro a ha
  cases List.mem_cons.1 ha with
  | inl e=>subst e;exact ⟨_,.head _,h⟩
  | inr e=>obtain ⟨b,hb,hr⟩:=ih a e;exact ⟨b,.tail _ hb,hr⟩
end
end Go.Fv
/-
 Texts that arrive, with what their sizes allow.
-/
namespace Go.Fv
open Go.RowKit
section
variable {H:Type} {enc:TypeId × Value→H} {P:Program} {w:World} {t:TypeId} {cs:List Value} {x:DataW H × List MemPlace}
theorem zD {e:TypeId} {N:Nat} {l:List (List UInt8)} {ds:List (DataW H)} (h:mP (fun (b:List UInt8) d=>d=.lit (.string b)) l ds) (hw:(DataW.weightsAll P e ds).all (·≤N)=true):∀ s,s∈l→s.length≤N:=by
 induction h with
 | nil=>intro s hs;cases hs
 | cons h _ ih=>
  subst h
  simp only [DataW.weightsAll,DataW.weights,List.all_append,Bool.and_eq_true] at hw
  intro s hs
  rcases List.mem_cons.1 hs with e|e
  ·subst e;simpa using hw.1
  ·exact ih hw.2 s e
theorem mP.len2 {α β:Type} {R:α→β→Prop} {l:List α} {ds:List β} (h:mP R l ds):l.length=ds.length:=by
 induction h with
 | nil=>rfl
 | cons _ _ ih=>simp [ih]
theorem Rd.KC {e:TypeId} (ht:P.underlying t=some (.slice e)) (he:P.underlying e=some .string) (h:Rd enc P w t cs x) :
  ∃ l:List (List UInt8),aS (qK w) [.ro (.strs l)] cs∧∀ N,(x.1.weights P t).all (·≤N)=true→l.length*P.bytesOf e≤N∧∀ s,s∈l→s.length≤N:=by
 obtain ⟨l,h1,h2⟩:=Rd.row (β:=List UInt8) ht .strs (fun _=>rfl) (.strs [] (fun x hx=>by cases hx)) (fun b vs=>aS (qK w) [.str b] vs) (fun l vss hv=>by
  have:vss.flatten=l.map (fun s=>Value.string ⟨s.toArray⟩)∧∀ s,s∈l→s.length≤maxLen:=by
   induction hv with
   | nil=>exact ⟨rfl,fun s hs=>by cases hs⟩
   | cons h _ ih=>
    obtain ⟨rfl,hl⟩:=h.str1
    refine ⟨by simp [ih.1],fun s hs=>?_⟩
    cases List.mem_cons.1 hs with
    | inl e=>subst e;exact hl
    | inr e=>exact ih.2 s e
  rw [this.1];exact .strs l this.2) (fun b d=>d=.lit (.string b)) (fun vs y hy=>by
   obtain ⟨s,hx,hv⟩:=hy.str he
   exact ⟨s,hv,hx⟩) h
 refine ⟨l,h1,fun N hb=>?_⟩
 rcases h2 with ⟨_,rfl⟩|⟨ds,sp,e2,h3⟩
 ·simp
 ·rw [e2] at hb
  unfold DataW.weights at hb
  rw [ht] at hb
  dsimp only at hb
  rw [List.all_cons,Bool.and_eq_true,List.all_append,Bool.and_eq_true] at hb
  have hlen:=mP.len2 h3
  refine ⟨?_,zD h3 hb.2.1⟩
  have h4:(ds.length+sp.length)*P.bytesOf e≤N:=of_decide_eq_true hb.1
  rw [hlen]
  exact Nat.le_trans (Nat.mul_le_mul_right _ (Nat.le_add_right _ _)) h4
theorem Eu {base:Nat} {v:Value} {d:DataW H} {ps:List MemPlace} {e:TypeId} (ht:P.underlying t=some (.slice e)) (he:P.underlying e=some .string) (hv:Value.okWide P w .any base t v) (h:DataW.Trod enc P w 0 (fun _=>true) true t v d ps) :
  ∃ l:List (List UInt8),(∀ N,(d.weights P t).all (·≤N)=true→l.length*P.bytesOf e≤N∧∀ s,s∈l→s.length≤N)∧Rv (qK w) (.ro (.strs l)) v:=by
 obtain ⟨b,hk,h2⟩:=(Trod.rd h).KC ht he
 rw [xU ht (.inr (.inr (.inr ⟨e,rfl⟩))) hv] at hk
 exact ⟨b,h2,hk.hd⟩
end
end Go.Fv
