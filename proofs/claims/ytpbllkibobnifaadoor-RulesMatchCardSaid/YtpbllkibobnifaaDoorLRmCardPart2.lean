/-
  A part of the proof of the claim: walks over the program's functions and the plain laws that these need. No condition of its own.
-/
import Derived.Test.YtpbllkibobnifaaDoorLRmCardPart1
import Derived.Test.YtpbllkibobnifaaDoorFvPart12
import Derived.Test.YtpbllkibobnifaaDoorFvPart11
import Derived.Lib.Bytealg
set_option linter.unusedSimpArgs false
set_option linter.unusedVariables false
set_option linter.unnecessarySimpa false
/- Lines of runs: which runs are next to each other. -/
namespace Go.Fv.L
open Go Go.Proofs
abbrev rg (l:List Rn) (i:Nat):Rn:=l.getD i Rn.zero
def Xj (a b:Rn):Prop:=a.y+1=b.y∧a.f<b.t∧b.f<a.t
instance (a b:Rn):Decidable (Xj a b):=by unfold Xj;infer_instance
def fZ (l:List Rn) (x y:Nat):Prop:=x<y∧y<l.length∧Xj (rg l x) (rg l y)
theorem fZ.lt {l:List Rn} {x y:Nat} (h:fZ l x y):x<l.length∧y<l.length:=⟨Nat.lt_trans h.1 h.2.1,h.2.1⟩
def Up (l:List Rn):Prop:=∀ x y,x≤y→y<l.length→(rg l x).y≤(rg l y).y
theorem zJ {l:List Rn} (h:l.Pairwise Pv):Up l:=fun x y hxy hy=>by
 rcases Nat.lt_or_eq_of_le hxy with h1|rfl
 ·have:=List.pairwise_iff_getElem.1 h x y (by omega) hy h1
  unfold rg
  rw [getD_lt (by omega),getD_lt hy]
  rcases this with h|h<;>omega
 ·exact Nat.le_refl _
def Ed (l:List Rn) (i k x y:Nat):Prop:=fZ l x y∧(y<i∨(y=i∧x<k))
theorem Ed.lt {l:List Rn} {i k x y:Nat} (h:Ed l i k x y):x<l.length∧y<l.length:=h.1.lt
theorem MH (l:List Rn) (x y:Nat):¬Ed l 0 0 x y:=fun h=>by
 rcases h.2 with h|h<;>omega
theorem TL {l:List Rn} {i b:Nat} (hb:∀ x,b≤x→x<i→¬fZ l x i) {x y:Nat}:Ed l i b x y↔Ed l (i+1) 0 x y:=by
 unfold Ed
 constructor
 ·rintro ⟨h1,h2⟩;exact ⟨h1,.inl (by omega)⟩
 ·rintro ⟨h1,h2⟩
  refine ⟨h1,?_⟩
  rcases h2 with h2|h2
  ·by_cases e:y=i
   ·subst e
    by_cases hx:x<b
    ·exact .inr ⟨rfl,hx⟩
    ·exact absurd h1 (hb x (by omega) h1.1)
   ·exact .inl (by omega)
  ·omega
theorem Qm {l:List Rn} {i b:Nat} (hb:∀ x,x<b→¬fZ l x i) {x y:Nat}:Ed l i 0 x y↔Ed l i b x y:=by
 unfold Ed
 constructor
 ·rintro ⟨h1,h2⟩;exact ⟨h1,by omega⟩
 ·rintro ⟨h1,h2⟩
  refine ⟨h1,?_⟩
  rcases h2 with h2|⟨rfl,h2⟩
  ·exact .inl h2
  ·exact absurd h1 (hb x h2)
theorem WR {l:List Rn} {i k:Nat} (h:¬fZ l k i) {x y:Nat}:Ed l i k x y↔Ed l i (k+1) x y:=by
 unfold Ed
 constructor
 ·rintro ⟨h1,h2⟩;exact ⟨h1,by omega⟩
 ·rintro ⟨h1,h2⟩
  refine ⟨h1,?_⟩
  rcases h2 with h2|⟨rfl,h2⟩
  ·exact .inl h2
  ·by_cases e:x=k
   ·subst e;exact absurd h1 h
   ·exact .inr ⟨rfl,by omega⟩
theorem VI {l:List Rn} {i k:Nat} (h:fZ l k i) {x y:Nat}:Ed l i (k+1) x y↔Ed l i k x y∨(x=k∧y=i):=by
 unfold Ed
 constructor
 ·rintro ⟨h1,h2⟩
  rcases h2 with h2|⟨rfl,h2⟩
  ·exact .inl ⟨h1,.inl h2⟩
  ·by_cases e:x=k
   ·exact .inr ⟨e,rfl⟩
   ·exact .inl ⟨h1,.inr ⟨rfl,by omega⟩⟩
 ·rintro (⟨h1,h2⟩|⟨rfl,rfl⟩)
  ·exact ⟨h1,by omega⟩
  ·exact ⟨h,.inr ⟨rfl,by omega⟩⟩
theorem VH {l:List Rn} {x y:Nat}:Ed l l.length 0 x y↔fZ l x y:=by
 unfold Ed
 constructor
 ·exact fun h=>h.1
 ·exact fun h=>⟨h,.inl h.2.1⟩
theorem mY.congr {E F:Nat→Nat→Prop} (h:∀ x y,E x y↔F x y) {x y:Nat}:mY E x y↔mY F x y:=
 ⟨mY.mono fun x y e=>(h x y).1 e,mY.mono fun x y e=>(h x y).2 e⟩
structure yY (l:List Rn) (i k:Nat) (o:List Int):Prop where
 len:o.length=l.length
 ex:∃ c,UF o c∧∀ x y,x<l.length→y<l.length→(c x=c y↔mY (Ed l i k) x y)
theorem yY.congr {l:List Rn} {i k i' k':Nat} {o:List Int} (h:yY l i k o) (he:∀ x y,Ed l i k x y↔Ed l i' k' x y):yY l i' k' o:=by
 obtain ⟨hl,c,hu,hc⟩:=h
 exact ⟨hl,c,hu,fun x y hx hy=>(hc x y hx hy).trans (mY.congr he)⟩
theorem yY.cls {l:List Rn} {o:List Int} (h:yY l l.length 0 o) {c:Nat→Nat} (hc:fG l.length (fZ l) c):UF o c:=by
 obtain ⟨hl,c',hu,hc'⟩:=h
 have h2:fG l.length (fZ l) c':=⟨fun x hx=>hu.le x (by omega),fun x hx=>hu.idem x (by omega),fun x y hx hy=>(hc' x y hx hy).trans (mY.congr fun x y=>VH)⟩
 have e:∀ x,x<l.length→c' x=c x:=fun x hx=>h2.uniq hc hx
 refine ⟨fun x hx=>?_,fun x hx=>by rw [←e x (by omega)];exact hu.le x hx,fun x hx=>?_⟩
 ·obtain ⟨p,p1,p2,p3,p4⟩:=hu.par x hx
  exact ⟨p,p1,p2,by rw [←e p (by omega),←e x (by omega)];exact p3,by rw [←e x (by omega)];exact p4⟩
 ·have:=hu.le x hx
  rw [←e x (by omega),←e _ (by omega)];exact hu.idem x hx
def Py (n i:Nat):List Int:=(List.range i).map (fun k:Nat=>(k:Int))++List.replicate (n - i) 0
theorem Fa {n i:Nat} (h:i≤n):(Py n i).length=n:=by unfold Py;simp;omega
theorem QJ (n:Nat):Py n 0=List.replicate n 0:=by unfold Py;simp
theorem Uf {n i:Nat} (h:i<n):(Py n i).set i (i:Int)=Py n (i+1):=by
 unfold Py
 rw [List.set_append_right _ _ (by simp),List.length_map,List.length_range,Nat.sub_self,show n - i=(n - (i+1))+1 by omega,List.replicate_succ,List.set_cons_zero,List.range_succ,List.map_append,List.append_assoc]
 rfl
theorem Ue {n x:Nat} (h:x<n):(Py n n).getD x 0=(x:Int):=by
 unfold Py
 rw [Nat.sub_self,List.replicate_zero,List.append_nil,getD_lt (by simpa using h)];simp
theorem Po (l:List Rn):yY l 0 0 (Py l.length l.length):=by
 refine ⟨Fa (Nat.le_refl _),fun x=>x,⟨fun x hx=>?_,fun x _=>Nat.le_refl x,fun x _=>rfl⟩,fun x y hx hy=>?_⟩
 ·rw [Fa (Nat.le_refl _)] at hx
  exact ⟨x,Ue hx,Nat.le_refl _,rfl,Iff.rfl⟩
 ·constructor
  ·intro e;dsimp only at e;subst e;exact .refl
  ·intro e
   induction e with
   | refl=>rfl
   | step _ e _=>exact absurd e (fun e=>e.elim (MH l _ _) (MH l _ _))
end Go.Fv.L
/- Two lines of runs that reach as far to each side have a run in common. -/
namespace Go.Fv.L
open Go Go.Proofs
def Xp (a r:Rn):Prop:=(a.y+1=r.y∨r.y+1=a.y)∧r.f<a.t∧a.f<r.t
def CB (a r:Rn):Bool:=decide (r.t≤a.f)
inductive SY:List Rn→Prop
 | one (r:Rn):SY [r]
 | cons (r s:Rn) (l:List Rn) (h:Xp r s) (k:SY (s::l)):SY (r::s::l)
def Ol (y:Nat) (f:Rn→Bool):List Rn→Bool
 | r::s::l=>xor ((decide (r.y=y∧s.y=y+1) && f r) || (decide (s.y=y∧r.y=y+1) && f s)) (Ol y f (s::l))
 | _=>false
def TA (y:Nat) (f:Rn→Bool):List Rn→Bool
 | r::s::l=>xor ((decide (r.y=y∧s.y+1=y) && f r) || (decide (s.y=y∧r.y+1=y) && f s)) (TA y f (s::l))
 | _=>false
def iK:List Rn→Rn
 | []=>Rn.zero
 | [r]=>r
 | _::s::l=>iK (s::l)
def MP (y:Nat) (f:Rn→Bool) (r:Rn):Bool:=decide (r.y=y) && f r
theorem U0 (y:Nat) (f:Rn→Bool):∀ (r:Rn) (l:List Rn),SY (r::l)→xor (Ol y f (r::l)) (TA y f (r::l))=xor (MP y f r) (MP y f (iK (r::l)))
 | r,[],_=>by simp [Ol,TA,iK]
 | r,s::l,.cons _ _ _ h k=>by
  have ih:=U0 y f s l k
  simp only [Ol,TA,iK]
  generalize Ol y f (s::l)=A at *
  generalize TA y f (s::l)=B at *
  generalize MP y f (iK (s::l))=Z at *
  unfold MP at *
  obtain ⟨hn,_,_⟩:=h
  have key:xor ((decide (r.y=y∧s.y=y+1) && f r) || (decide (s.y=y∧r.y=y+1) && f s)) ((decide (r.y=y∧s.y+1=y) && f r) || (decide (s.y=y∧r.y+1=y) && f s))=xor (decide (r.y=y) && f r) (decide (s.y=y) && f s):=by
   by_cases h1:r.y=y
   ·have h2:¬s.y=y:=by omega
    have h3:¬(s.y=y∧r.y=y+1):=by omega
    have h4:¬(s.y=y∧r.y+1=y):=by omega
    rcases hn with hn|hn
    ·have h5:r.y=y∧s.y=y+1:=⟨h1,by omega⟩
     have h6:¬(r.y=y∧s.y+1=y):=by omega
     simp [h5,h6,h3,h4,h2,h1,decide_eq_true,decide_eq_false]
     try (cases f r<;>simp<;>omega)
    ·have h5:¬(r.y=y∧s.y=y+1):=by omega
     have h6:r.y=y∧s.y+1=y:=⟨h1,by omega⟩
     rw [decide_eq_false h5,decide_eq_true h6,decide_eq_false h3,decide_eq_false h4,decide_eq_true h1,decide_eq_false h2]
     cases f r<;>rfl
   ·have h3:¬(r.y=y∧s.y=y+1):=by omega
    have h4:¬(r.y=y∧s.y+1=y):=by omega
    by_cases h2:s.y=y
    ·rcases hn with hn|hn
     ·have h5:¬(s.y=y∧r.y=y+1):=by omega
      have h6:s.y=y∧r.y+1=y:=⟨h2,by omega⟩
      rw [decide_eq_false h5,decide_eq_true h6,decide_eq_false h3,decide_eq_false h4,decide_eq_false h1,decide_eq_true h2]
      cases f s<;>rfl
     ·have h5:s.y=y∧r.y=y+1:=⟨h2,by omega⟩
      have h6:¬(s.y=y∧r.y+1=y):=by omega
      rw [decide_eq_true h5,decide_eq_false h6,decide_eq_false h3,decide_eq_false h4,decide_eq_false h1,decide_eq_true h2]
      cases f s<;>rfl
    ·have h5:¬(s.y=y∧r.y=y+1):=by omega
     have h6:¬(s.y=y∧r.y+1=y):=by omega
     rw [decide_eq_false h5,decide_eq_false h6,decide_eq_false h3,decide_eq_false h4,decide_eq_false h1,decide_eq_false h2];rfl
  generalize ((decide (r.y=y∧s.y=y+1) && f r) || (decide (s.y=y∧r.y=y+1) && f s))=C at *
  generalize ((decide (r.y=y∧s.y+1=y) && f r) || (decide (s.y=y∧r.y+1=y) && f s))=D at *
  generalize (decide (r.y=y) && f r)=E at *
  generalize (decide (s.y=y) && f s)=G at *
  revert ih key
  cases A<;>cases B<;>cases C<;>cases D<;>cases E<;>cases G<;>cases Z<;>simp
theorem NW {a a' r s:Rn} (h1:a.f<a'.t) (h2:a'.f<a.t) (h3:r.f<s.t) (h4:s.f<r.t) (d1:a.t≤r.f∨r.t≤a.f) (d2:a'.t≤s.f∨s.t≤a'.f):CB a r=CB a' s:=by
 unfold CB
 rw [decide_eq_decide]
 omega
def Dz (a r:Rn):Prop:=a.y=r.y→a.t≤r.f∨r.t≤a.f
theorem Me {a a':Rn} {y:Nat} (ha:a.y=y) (ha':a'.y=y+1) (h1:a.f<a'.t) (h2:a'.f<a.t):∀ (r:Rn) (l:List Rn),SY (r::l)→(∀ q,q∈r::l→Dz a q∧Dz a' q)→Ol y (CB a) (r::l)=TA (y+1) (CB a') (r::l)
 | r,[],_,_=>rfl
 | r,s::l,.cons _ _ _ h k,hd=>by
  have ih:=Me ha ha' h1 h2 s l k fun q hq=>hd q (.tail _ hq)
  obtain ⟨hn,h3,h4⟩:=h
  have dr:=hd r (.head _)
  have ds:=hd s (.tail _ (.head _))
  simp only [Ol,TA]
  rw [ih]
  congr 1
  by_cases e1:r.y=y∧s.y=y+1
  ·have e2:¬(s.y=y∧r.y=y+1):=by omega
   have e3:¬(r.y=y+1∧s.y+1=y+1):=by omega
   have e4:s.y=y+1∧r.y+1=y+1:=by omega
   rw [decide_eq_true e1,decide_eq_false e2,decide_eq_false e3,decide_eq_true e4,NW h1 h2 h4 h3 (dr.1 (by omega)) (ds.2 (by omega))]
   cases CB a' s<;>rfl
  ·by_cases e2:s.y=y∧r.y=y+1
   ·have e3:r.y=y+1∧s.y+1=y+1:=by omega
    have e4:¬(s.y=y+1∧r.y+1=y+1):=by omega
    rw [decide_eq_false e1,decide_eq_true e2,decide_eq_true e3,decide_eq_false e4,NW h1 h2 h3 h4 (ds.1 (by omega)) (dr.2 (by omega))]
    cases CB a' r<;>rfl
   ·have e3:¬(r.y=y+1∧s.y+1=y+1):=by omega
    have e4:¬(s.y=y+1∧r.y+1=y+1):=by omega
    rw [decide_eq_false e1,decide_eq_false e2,decide_eq_false e3,decide_eq_false e4];rfl
theorem Qi {y:Nat}:∀ (r:Rn) (l:List Rn) (f:Rn→Bool),SY (r::l)→(∀ q,q∈r::l→q.y=y→f q=true)→Ol y f (r::l)=xor (decide (r.y≤y)) (decide ((iK (r::l)).y≤y))
 | r,[],_,_,_=>(Bool.xor_self _).symm
 | r,s::l,f,.cons _ _ _ h k,hf=>by
  have ih:=Qi s l f k fun q hq=>hf q (.tail _ hq)
  obtain ⟨hn,_,_⟩:=h
  have fr:=hf r (.head _)
  have fs:=hf s (.tail _ (.head _))
  show xor ((decide (r.y=y∧s.y=y+1) && f r) || (decide (s.y=y∧r.y=y+1) && f s)) (Ol y f (s::l))=xor (decide (r.y≤y)) (decide ((iK (s::l)).y≤y))
  rw [ih]
  generalize decide ((iK (s::l)).y≤y)=Z
  by_cases e1:r.y=y∧s.y=y+1
  ·have e2:¬(s.y=y∧r.y=y+1):=by omega
   rw [decide_eq_true e1,decide_eq_false e2,fr e1.1,decide_eq_true (by omega:r.y≤y),decide_eq_false (by omega:¬s.y≤y)]
   cases Z<;>cases f s<;>rfl
  ·by_cases e2:s.y=y∧r.y=y+1
   ·rw [decide_eq_false e1,decide_eq_true e2,fs e2.1,decide_eq_false (by omega:¬r.y≤y),decide_eq_true (by omega:s.y≤y)]
    cases Z<;>cases f r<;>rfl
   ·rw [decide_eq_false e1,decide_eq_false e2]
    have e3:decide (r.y≤y)=decide (s.y≤y):=by rw [decide_eq_decide];omega
    rw [e3]
    cases Z<;>cases decide (s.y≤y)<;>rfl
theorem MB {y:Nat}:∀ (r:Rn) (l:List Rn) (f:Rn→Bool),(∀ q,q∈r::l→q.y=y→f q=false)→Ol y f (r::l)=false
 | r,[],_,_=>rfl
 | r,s::l,f,hf=>by
  have ih:=MB s l f fun q hq=>hf q (.tail _ hq)
  have fr:=hf r (.head _)
  have fs:=hf s (.tail _ (.head _))
  simp only [Ol]
  rw [ih]
  by_cases e1:r.y=y∧s.y=y+1
  ·have e2:¬(s.y=y∧r.y=y+1):=by omega
   rw [decide_eq_true e1,decide_eq_false e2,fr e1.1];rfl
  ·by_cases e2:s.y=y∧r.y=y+1
   ·rw [decide_eq_false e1,decide_eq_true e2,fs e2.1];rfl
   ·rw [decide_eq_false e1,decide_eq_false e2];rfl
theorem DZ:∀ (r:Rn) (l:List Rn),iK (r::l)∈r::l
 | r,[]=>by simp [iK]
 | r,s::l=>by
  have:=DZ s l
  simp only [iK]
  exact .tail _ this
def sees (P:List Rn) (a:Rn):Bool:=xor (Ol a.y (CB a) P) (MP a.y (CB a) (iK P))
theorem Ph {r:Rn} {l:List Rn} (hP:SY (r::l)) (a:Rn):sees (r::l) a=xor (TA a.y (CB a) (r::l)) (MP a.y (CB a) r):=by
 have:=U0 a.y (CB a) r l hP
 unfold sees
 revert this
 cases Ol a.y (CB a) (r::l)<;>cases TA a.y (CB a) (r::l)<;>cases MP a.y (CB a) r<;>cases MP a.y (CB a) (iK (r::l))<;>simp
theorem Eo {r:Rn} {l:List Rn} (hP:SY (r::l)) {a a':Rn} (h:a.y+1=a'.y) (h1:a.f<a'.t) (h2:a'.f<a.t) (hd:∀ q,q∈r::l→Dz a q∧Dz a' q) (hr:r.y≤a.y) (hl:a'.y≤(iK (r::l)).y):sees (r::l) a=sees (r::l) a':=by
 rw [Ph hP a']
 unfold sees
 rw [Me rfl h.symm h1 h2 r l hP hd,h]
 have g1:MP a.y (CB a) (iK (r::l))=false:=by unfold MP;rw [decide_eq_false (by omega)];rfl
 have g2:MP a'.y (CB a') r=false:=by unfold MP;rw [decide_eq_false (by omega)];rfl
 rw [g1,g2]
theorem VX {l:List Rn} {x y:Nat} (h:fZ l x y∨fZ l y x):Xp (rg l y) (rg l x):=by
 unfold Xp
 rcases h with ⟨_,_,h1,h2,h3⟩|⟨_,_,h1,h2,h3⟩
 ·exact ⟨.inr h1,h2,h3⟩
 ·exact ⟨.inl h1,h3,h2⟩
theorem Us {l:List Rn} {x y:Nat} (h:mY (fZ l) x y) (hx:x<l.length):y<l.length∧∃ tl,SY (rg l y::tl)∧iK (rg l y::tl)=rg l x∧∀ q,q∈rg l y::tl→∃ k,k<l.length∧mY (fZ l) x k∧q=rg l k:=by
 induction h with
 | refl=>exact ⟨hx,[],.one _,rfl,fun q hq=>⟨x,hx,.refl,List.mem_singleton.1 hq⟩⟩
 | @step y z hxy e ih=>
  obtain ⟨hy,tl,h1,h2,h3⟩:=ih
  have hz:z<l.length:=e.elim (fun e=>e.lt.2) fun e=>e.lt.1
  refine ⟨hz,rg l y::tl,.cons _ _ _ (VX e) h1,h2,fun q hq=>?_⟩
  rcases List.mem_cons.1 hq with rfl|hq
  ·exact ⟨z,hz,.step hxy e,rfl⟩
  ·exact h3 q hq
theorem PW {l:List Rn} (hb:l.Pairwise Pv) {x y:Nat} (hx:x<l.length) (hy:y<l.length) (hne:x≠y):Dz (rg l x) (rg l y):=by
 have key:∀ a b,a<b→b<l.length→(rg l a).y=(rg l b).y→(rg l a).t<(rg l b).f:=fun a b hab hbl e=>by
  have:=List.pairwise_iff_getElem.1 hb a b (by omega) hbl hab
  unfold rg at e ⊢
  rw [getD_lt (by omega),getD_lt hbl] at *
  rcases this with h|h<;>omega
 intro e
 rcases Nat.lt_or_gt_of_ne hne with h|h
 ·have:=key x y h hy e;exact .inl (by omega)
 ·have:=key y x h hx e.symm;exact .inr (by omega)
theorem cross {l:List Rn} {c:Nat→Nat} (hb:l.Pairwise Pv) (hc:fG l.length (fZ l) c) (hpos:∀ k,k<l.length→(rg l k).f<(rg l k).t) {i j:Nat} (hij:i≠j) {x0 x1 y0 y1:Nat}
  (bd:∀ k,k<l.length→c k=i∨c k=j→y0≤(rg l k).y∧(rg l k).y≤y1∧x0≤(rg l k).f∧(rg l k).t≤x1)
  {p q r s:Nat} (hp:p<l.length∧c p=i∧(rg l p).f=x0) (hq:q<l.length∧c q=i∧(rg l q).t=x1) (hr:r<l.length∧c r=j∧(rg l r).y=y0) (hs:s<l.length∧c s=j∧(rg l s).y=y1):False:=by
 obtain ⟨_,tl,h1,h2,h3⟩:=Us ((hc.eq s r hs.1 hr.1).1 (by rw [hs.2.1,hr.2.1])) hs.1
 have hmem:∀ z,z∈rg l r::tl→∃ k,k<l.length∧c k=j∧z=rg l k:=fun z hz=>by
  obtain ⟨k,k1,k2,k3⟩:=h3 z hz
  exact ⟨k,k1,by rw [←hs.2.1];exact ((hc.eq s k hs.1 k1).2 k2).symm,k3⟩
 have hap:∀ x,x<l.length→c x=i→∀ z,z∈rg l r::tl→Dz (rg l x) z:=fun x hx hcx z hz=>by
  obtain ⟨k,k1,k2,rfl⟩:=hmem z hz
  exact PW hb hx k1 (fun e=>by subst e;omega)
 have same:∀ z,mY (fZ l) p z→z<l.length∧c z=i∧sees (rg l r::tl) (rg l p)=sees (rg l r::tl) (rg l z):=by
  intro z hz
  induction hz with
  | refl=>exact ⟨hp.1,hp.2.1,rfl⟩
  | @step y z _ e ih=>
   obtain ⟨hy,hcy,ih⟩:=ih
   have hz:z<l.length:=e.elim (fun e=>e.lt.2) fun e=>e.lt.1
   have hcz:c z=i:=by rw [←hcy];exact ((hc.eq y z hy hz).2 (.one e)).symm
   have by1:=bd y hy (.inl hcy)
   have bz:=bd z hz (.inl hcz)
   refine ⟨hz,hcz,ih.trans ?_⟩
   rcases e with ⟨_,_,e1,e2,e3⟩|⟨_,_,e1,e2,e3⟩
   ·exact Eo h1 e1 e2 e3 (fun w hw=>⟨hap y hy hcy w hw,hap z hz hcz w hw⟩) (by rw [hr.2.2];exact by1.1) (by rw [h2,hs.2.2];exact bz.2.1)
   ·exact (Eo h1 e1 e2 e3 (fun w hw=>⟨hap z hz hcz w hw,hap y hy hcy w hw⟩) (by rw [hr.2.2];exact bz.1) (by rw [h2,hs.2.2];exact by1.2.1)).symm
 have hpq:=(same q ((hc.eq p q hp.1 hq.1).1 (by rw [hp.2.1,hq.2.1]))).2.2
 have lm:=DZ (rg l r) tl
 have up0:∀ z,z∈rg l r::tl→CB (rg l p) z=false:=fun z hz=>by
  obtain ⟨k,k1,k2,rfl⟩:=hmem z hz
  have b1:=bd k k1 (.inr k2)
  have b2:=hpos k k1
  unfold CB
  exact decide_eq_false (by rw [hp.2.2];omega)
 have up1:∀ z,z∈rg l r::tl→z.y=(rg l q).y→CB (rg l q) z=true:=fun z hz hy=>by
  have ha:=hap q hq.1 hq.2.1 z hz hy.symm
  obtain ⟨k,k1,k2,rfl⟩:=hmem z hz
  have b1:=bd k k1 (.inr k2)
  have b2:=hpos k k1
  unfold CB
  exact decide_eq_true (by rcases ha with ha|ha<;>omega)
 have s0:sees (rg l r::tl) (rg l p)=false:=by
  unfold sees
  rw [MB _ _ _ fun z hz _=>up0 z hz]
  unfold MP
  rw [up0 _ lm];simp
 have s1:sees (rg l r::tl) (rg l q)=true:=by
  unfold sees
  rw [Qi _ _ _ h1 up1]
  have bq:=bd q hq.1 (.inl hq.2.1)
  have hl:(iK (rg l r::tl)).y=y1:=by rw [h2];exact hs.2.2
  rw [decide_eq_true (by rw [hr.2.2];exact bq.1)]
  unfold MP
  by_cases e:(rg l q).y=y1
  ·rw [up1 _ lm (by omega),decide_eq_true (by omega:(iK (rg l r::tl)).y≤(rg l q).y),decide_eq_true (by omega:(iK (rg l r::tl)).y=(rg l q).y)];rfl
  ·rw [decide_eq_false (by omega:¬(iK (rg l r::tl)).y≤(rg l q).y),decide_eq_false (by omega:¬(iK (rg l r::tl)).y=(rg l q).y)];rfl
 rw [s0,s1] at hpq
 cases hpq
end Go.Fv.L
/- Runs by their class's least number: the map that lined makes. -/
namespace Go.Fv.L
open Go Go.Proofs
abbrev KR:=List (Nat × List Rn)
def yJ (kg:KR):List Nat:=kg.map (·.1)
def yI (kg:KR) (k:Nat) (r:Rn):KR:=match kM (yJ kg) k with
 | some j=>kg.set j (k,(kg.getD j (0,[])).2++[r])
 | none=>kg++[(k,[r])]
def xM (c:Nat→Nat) (l:List Rn):Nat→KR
 | 0=>[]
 | i+1=>yI (xM c l i) (c i) (rg l i)
def fQ (c:Nat→Nat) (l:List Rn) (i k:Nat):List Rn:=((List.range i).filter fun j=>decide (c j=k)).map (rg l)
theorem oP (c:Nat→Nat) (l:List Rn) (i k:Nat):fQ c l (i+1) k=if c i=k then fQ c l i k++[rg l i] else fQ c l i k:=by
 unfold fQ
 rw [List.range_succ,List.filter_append]
 split<;>simp_all
structure Vr (kg:KR) (c:Nat→Nat) (l:List Rn) (i:Nat):Prop where
 some:∀ k j,kM (yJ kg) k=some j→∃ h:j<kg.length,kg[j].2=fQ c l i k
 none:∀ k,kM (yJ kg) k=none→fQ c l i k=[]
 len:kg.length≤i
theorem vY (kg:KR):(yJ kg).length=kg.length:=by simp [yJ]
theorem Fg {α:Type} [DecidableEq α] {l:List α} {x:α} {j:Nat} (h:kM l x=some j):j<l.length:=(List.getElem?_eq_some_iff.1 (lM h)).1
theorem AL {α:Type} [DecidableEq α] (x y:α):∀ l:List α,kM (l++[y]) x=match kM l x with|some j=>some j|none=>if y=x then some l.length else none
 | []=>by simp [kM]
 | z::l=>by
  simp only [List.cons_append,kM,AL x y l]
  split
  ·rfl
  ·cases h:kM l x with
   | some j=>simp
   | none=>
    simp only [Option.map_none]
    split
    ·simp
    ·simp
theorem Na (kg:KR) (j:Nat) (k:Nat) (r:List Rn) (h:(yJ kg)[j]?=some k):yJ (kg.set j (k,r))=yJ kg:=by
 unfold yJ at *
 rw [List.map_set]
 obtain ⟨hj,he⟩:=List.getElem?_eq_some_iff.1 h
 conv=>rhs;rw [←List.set_getElem_self hj]
 rw [he]
theorem W9 {kg:KR} {c:Nat→Nat} {l:List Rn} {i:Nat} (h:Vr kg c l i):Vr (yI kg (c i) (rg l i)) c l (i+1):=by
 unfold yI
 cases hx:kM (yJ kg) (c i) with
 | some j=>
  obtain ⟨hj,he⟩:=h.some _ _ hx
  have hk:=Na kg j (c i) ((kg.getD j (0,[])).2++[rg l i]) (lM hx)
  refine ⟨fun k m hi=>?_,fun k hc=>?_,by simp;have:=h.len;omega⟩
  ·rw [hk] at hi
   obtain ⟨h1,h2⟩:=h.some k m hi
   refine ⟨by simpa using h1,?_⟩
   rw [oP,List.getElem_set]
   by_cases e:j=m
   ·subst e
    have hc:c i=k:=by
     have e1:=lM hx
     have e2:=lM hi
     rw [e1] at e2;exact Option.some.inj e2
    rw [if_pos rfl,if_pos hc,getD_lt hj,he,hc]
   ·rw [if_neg e,if_neg,h2]
    intro hc
    rw [hc] at hx
    rw [hx] at hi
    exact e (Option.some.inj hi)
  ·rw [hk] at hc
   rw [oP,if_neg,h.none k hc]
   intro e;rw [e] at hx;rw [hx] at hc;cases hc
 | none=>
  have hk:yJ (kg++[(c i,[rg l i])])=yJ kg++[c i]:=by simp [yJ]
  refine ⟨fun k m hi=>?_,fun k hc=>?_,by simp;exact h.len⟩
  ·rw [hk,AL] at hi
   cases hq:kM (yJ kg) k with
   | some j=>
    rw [hq] at hi;cases hi
    obtain ⟨h1,h2⟩:=h.some k _ hq
    refine ⟨by simp;omega,?_⟩
    rw [oP,if_neg,List.getElem_append_left h1,h2]
    intro e;rw [e,hq] at hx;cases hx
   | none=>
    rw [hq] at hi
    dsimp only at hi
    split at hi
    ·rename_i e
     cases hi
     refine ⟨by simp [vY],?_⟩
     rw [oP,if_pos e,h.none k hq]
     simp [vY]
    ·cases hi
  ·rw [hk,AL] at hc
   cases hq:kM (yJ kg) k with
   | some j=>rw [hq] at hc;cases hc
   | none=>
    rw [hq] at hc
    dsimp only at hc
    split at hc
    ·cases hc
    ·rename_i e;rw [oP,if_neg e,h.none k hq]
theorem QO (c:Nat→Nat) (l:List Rn):∀ i,Vr (xM c l i) c l i
 | 0=>⟨fun k j h=>by simp [xM,yJ,kM] at h,fun k _=>rfl,Nat.le_refl _⟩
 | i+1=>W9 (QO c l i)
/-! The map's keys, its values while they are owned, and when they are data. -/
def kN (k:Nat):AV:=.int .i64 k
theorem EX (a b:Nat):qg (kN a) (kN b)=decide (a=b):=by
 simp only [kN,qg,true_and]
 congr 1
 apply propext
 omega
def iP (kg:KR):List AV:=(yJ kg).map kN
def nP (kg:KR):List aF:=kg.map fun p=>uQ p.2
def Ui (e:TypeId) (kg:KR):List Item:=(nP kg).map (Item.row e)
def CQ (kg:KR):List AV:=(nP kg).map AV.ro
theorem gu (kg:KR):(nP kg).length=kg.length:=by simp [nP]
theorem MZ (e:TypeId) (kg:KR):(Ui e kg).length=kg.length:=by simp [Ui,nP]
theorem qV (kg:KR):∀ r,r∈nP kg→eG r=true:=by
 intro r hr
 obtain ⟨p,_,rfl⟩:=List.mem_map.1 hr
 exact aG _
theorem zC (e:TypeId) (kg:KR) {j:Nat} (h:j<(nP kg).length):(Ui e kg)[j]?=some (.row e (nP kg)[j]):=by simp [Ui,h]
theorem oG (p:Nat→Nat) (kg:KR):bZ p (iP kg)=iP kg:=O5 p (fun _=>rfl) _
theorem iQ (n:Nat) (kg:KR):aQ n (iP kg)=true:=Hw n (fun _=>rfl) _
theorem Uj (kg:KR) (b:Nat) (k:Nat):mW (iP kg) (gI b kg.length) (kN k)=match kM (yJ kg) k with|some j=>some (.own (j+b))|none=>none:=by
 unfold mW iP
 rw [l9 EX]
 cases h:kM (yJ kg) k with
 | none=>rfl
 | some j=>
  have:=Fg h
  rw [vY] at this
  simp [Qq this]
theorem VR (kg:KR) (k:Nat):mW (iP kg) (CQ kg) (kN k)=match kM (yJ kg) k with|some j=>some (.ro (uQ (kg.getD j (0,[])).2))|none=>none:=by
 unfold mW iP CQ nP
 rw [l9 EX]
 cases h:kM (yJ kg) k with
 | none=>rfl
 | some j=>
  have:=Fg h
  rw [vY] at this
  simp [getD_lt this,this]
theorem Nw {b n:Nat} {L:List Item} (h:L.length=n) {q:Nat} (hq:n+b≤q) (x:Item):put (jG b L) q x=jG b L:=yS L b q x (by omega)
theorem Ut:∀ (L:List Item) (b i:Nat) (x:Item),i<b→put (jG b L) i x=jG b L
 | [],_,_,_,_=>rfl
 | y::L,b,i,x,h=>by
  simp only [jG,put]
  rw [if_neg (by omega),Ut L (b+1) i x (by omega)]
theorem zo:∀ (L:List Item) (b i:Nat),i<b→del (jG b L) i=jG b L
 | [],_,_,_=>rfl
 | y::L,b,i,h=>by
  simp only [jG,del]
  rw [if_neg (by omega),zo L (b+1) i (by omega)]
theorem uw (b n N:Nat) (h:n+b≤N):aQ N (gI b n)=true:=by
 have:∀ (f:Nat→AV) (l:List Nat),(∀ i,i∈l→Fv.below N (f i)=true)→aQ N (l.map f)=true:=by
  intro f l
  induction l with
  | nil=>intro _;rfl
  | cons x l ih=>intro hf;simp only [List.map_cons,aQ,hf x (.head _),Bool.true_and];exact ih fun i hi=>hf i (.tail _ hi)
 refine this _ _ fun i hi=>?_
 have:=List.mem_range.1 hi
 simp [Fv.below];omega
theorem Bq (p:Nat→Nat) (b n:Nat):bZ p (gI b n)=(List.range n).map fun i=>.own (p (i+b)):=by
 unfold gI
 have:∀ l:List Nat,bZ p (l.map fun i=>.own (i+b))=l.map fun i=>.own (p (i+b)):=by
  intro l
  induction l with
  | nil=>rfl
  | cons x l ih=>simp only [List.map_cons,bZ,ren,ih]
 exact this _
theorem FT {p:Nat→Nat} {b n:Nat} (h:∀ i,i<n→p (i+b)=i+b):bZ p (gI b n)=gI b n:=by
 rw [Bq]
 exact List.map_congr_left fun i hi=>by rw [h i (List.mem_range.1 hi)]
theorem FU {b n t K:Nat} (h:t<n):bZ (p1 (t+b) K) (gI b n)=(gI b n).set t (.own K):=by
 rw [Bq]
 refine List.ext_getElem (by simp [gI]) fun i h1 h2=>?_
 simp only [List.getElem_map,List.getElem_range,List.getElem_set]
 split
 ·rename_i e;subst e;rw [Ef]
 ·rename_i e
  rw [kU (by omega)];simp [gI]
theorem CW {b n K:Nat}:bZ (p1 (n+b) K) (gI b (n+1))=gI b n++[.own K]:=by
 rw [Bq,List.range_succ,List.map_append]
 simp only [List.map_cons,List.map_nil,Ef]
 congr 1
 exact List.map_congr_left fun i hi=>by rw [kU (by have:=List.mem_range.1 hi;omega)]
def dG (c:Nat→Nat) (l:List Rn) (i:Nat):List (List Rn):=((List.range i).filter fun j=>decide (c j=j)).map fun j=>fQ c l l.length j
theorem OV (c:Nat→Nat) (l:List Rn) (i:Nat):dG c l (i+1)=if c i=i then dG c l i++[fQ c l l.length i] else dG c l i:=by
 unfold dG
 rw [List.range_succ,List.filter_append]
 split<;>simp_all
theorem jq (c:Nat→Nat) (l:List Rn) (i:Nat):(dG c l i).length≤i:=by
 unfold dG
 rw [List.length_map]
 have:=List.length_filter_le (fun j=>decide (c j=j)) (List.range i)
 rw [List.length_range] at this;exact this
theorem Pq {c:Nat→Nat} {l:List Rn} {i:Nat} (hi:i<l.length) (h:c i=i):0<(fQ c l l.length i).length:=by
 unfold fQ
 rw [List.length_map,List.length_pos_iff]
 intro e
 have:=List.filter_eq_nil_iff.1 e i (List.mem_range.2 hi)
 simp [h] at this
theorem SC {c:Nat→Nat} {l:List Rn} {i:Nat} (hid:∀ x,x<l.length→c (c x)=c x) (h:c i≠i):fQ c l l.length i=[]:=by
 unfold fQ
 rw [List.map_eq_nil_iff,List.filter_eq_nil_iff]
 intro j hj
 have:=hid j (List.mem_range.1 hj)
 intro e
 have e:c j=i:=by simpa using e
 rw [e] at this;exact h this
theorem UL (c:Nat→Nat) (l:List Rn) (i k:Nat):(fQ c l i k).length≤i:=by
 unfold fQ
 rw [List.length_map]
 have:=List.length_filter_le (fun j=>decide (c j=k)) (List.range i)
 rw [List.length_range] at this;exact this
def XD (g:List Rn):List AV:=[.ro (uQ g)]
instance:pY XD:=⟨fun _=>rfl⟩
abbrev SL (gs:List (List Rn)):List (List AV):=gs.map XD
theorem DY (kg:KR):bT (CQ kg)=true:=lS fun x hx=>by obtain ⟨_,_,rfl⟩:=List.mem_map.1 hx;rfl
theorem AQ (p:Nat→Nat) (kg:KR):bZ p (CQ kg)=CQ kg:=iV p _ (DY kg)
theorem uH (n:Nat) (kg:KR):aQ n (CQ kg)=true:=dY n _ (DY kg)
end Go.Fv.L
/- Lines of runs by search: what the reference does, in plain words. -/
namespace Go.Fv.L
open Go Go.Proofs
abbrev St:=List Bool × List Rn
def og (a r:Rn):Prop:=(a.y+1=r.y∨r.y+1=a.y)∧r.f<a.t∧a.f<r.t
instance (a r:Rn):Decidable (og a r):=by unfold og;infer_instance
def vW (l:List Rn) (a:Rn) (j:Nat) (s:St):St:=if s.1.getD j false=false∧og a (rg l j) then (s.1.set j true,s.2++[rg l j]) else s
def yF (l:List Rn) (a:Rn):Nat→Nat→St→St
 | 0,_,s=>s
 | m+1,j,s=>yF l a m (j+1) (vW l a j s)
def G9 (l:List Rn):Nat→Nat→St→St
 | 0,_,s=>s
 | m+1,k,s=>if k<s.2.length then G9 l m (k+1) (yF l (rg s.2 k) l.length 0 s) else s
def G8 (l:List Rn) (i:Nat) (seen:List Bool):St:=G9 l (l.length+1) 0 (seen.set i true,[rg l i])
def FW (l:List Rn):Nat→Nat→List Bool→List (Nat × List Rn)
 | 0,_,_=>[]
 | m+1,i,seen=>if seen.getD i false=true then FW l m (i+1) seen else (i,(G8 l i seen).2)::FW l m (i+1) (G8 l i seen).1
theorem jH {l:List Bool} {i j:Nat} (hi:i<l.length):(l.set i true).getD j false=if i=j then true else l.getD j false:=by
 simp only [List.getD_eq_getElem?_getD,List.getElem?_set]
 by_cases h:i=j
 ·subst h;simp [hi]
 ·simp [h]
theorem Ag:∀ {l:List Bool} {i:Nat},i<l.length→l.getD i false=false→(l.set i true).count true=l.count true+1
 | [],i,h,_=>by simp at h
 | b::l,0,_,h=>by
  have:b=false:=by simpa using h
  subst this;simp
 | b::l,i+1,h,hb=>by
  have:=Ag (l:=l) (i:=i) (by simpa using h) (by simpa using hb)
  simp only [List.set_cons_succ,List.count_cons,this];omega
structure Cm (n:Nat) (s:St):Prop where
 len:s.1.length=n
 cnt:s.2.length≤s.1.count true
theorem Cm.le {n:Nat} {s:St} (h:Cm n s):s.2.length≤n:=by
 have h1:=h.cnt
 have h2:=List.count_le_length (a:=true) (l:=s.1)
 have h3:=h.len
 omega
theorem Cm.vW {l:List Rn} {a:Rn} {j:Nat} {s:St} (hj:j<l.length) (h:Cm l.length s):Cm l.length (vW l a j s):=by
 unfold Go.Fv.L.vW
 split
 ·rename_i hc
  have hj':j<s.1.length:=by rw [h.len];exact hj
  refine ⟨by simp [h.len],?_⟩
  dsimp only
  rw [Ag hj' hc.1,List.length_append,List.length_singleton]
  have:=h.cnt;omega
 ·exact h
theorem Cm.yF {l:List Rn} {a:Rn}:∀ (m j:Nat) {s:St},j+m≤l.length→Cm l.length s→Cm l.length (yF l a m j s)
 | 0,_,_,_,h=>h
 | m+1,j,s,hj,h=>Cm.yF m (j+1) (by omega) (h.vW (by omega))
theorem Cm.G9 {l:List Rn}:∀ (m k:Nat) {s:St},Cm l.length s→Cm l.length (G9 l m k s)
 | 0,_,_,h=>h
 | m+1,k,s,h=>by
  unfold Go.Fv.L.G9
  split
  ·exact Cm.G9 m (k+1) (h.yF _ _ (by omega))
  ·exact h
theorem Ir (l:List Rn) (a:Rn) (j:Nat) (s:St):∃ e,(vW l a j s).2=s.2++e:=by
 unfold vW;split
 ·exact ⟨_,rfl⟩
 ·exact ⟨[],(List.append_nil _).symm⟩
theorem Iq (l:List Rn) (a:Rn):∀ (m j:Nat) (s:St),∃ e,(yF l a m j s).2=s.2++e
 | 0,_,s=>⟨[],(List.append_nil _).symm⟩
 | m+1,j,s=>by
  obtain ⟨e1,h1⟩:=Ir l a j s
  obtain ⟨e2,h2⟩:=Iq l a m (j+1) (vW l a j s)
  exact ⟨e1++e2,by show (yF l a m (j+1) (vW l a j s)).2=_;rw [h2,h1,List.append_assoc]⟩
/-! ### What the search finds -/
structure UW (l:List Rn) (c:Nat→Nat) (i:Nat) (s:St):Prop where
 len:s.1.length=l.length
 old:∀ j,j<l.length→c j<i→s.1.getD j false=true
 seen:∀ j,j<l.length→s.1.getD j false=true→c j<i∨(c j=i∧rg l j∈s.2)
 mem:∀ r,r∈s.2→∃ j,j<l.length∧c j=i∧r=rg l j
theorem Ht {l:List Rn} (hup:Up l) {x y:Nat} (hx:x<l.length) (hy:y<l.length):og (rg l x) (rg l y)↔fZ l x y∨fZ l y x:=by
 unfold og fZ Xj
 constructor
 ·rintro ⟨h1|h1,h2,h3⟩
  ·left
   refine ⟨?_,hy,h1,h3,h2⟩
   rcases Nat.lt_or_ge x y with h|h
   ·exact h
   ·have:=hup y x h hx;omega
  ·right
   refine ⟨?_,hx,h1,h2,h3⟩
   rcases Nat.lt_or_ge y x with h|h
   ·exact h
   ·have:=hup x y h hy;omega
 ·rintro (⟨_,_,h1,h2,h3⟩|⟨_,_,h1,h2,h3⟩)
  ·exact ⟨.inl h1,h3,h2⟩
  ·exact ⟨.inr h1,h2,h3⟩
theorem UW.vW {l:List Rn} {c:Nat→Nat} {i:Nat} {s:St} (hup:Up l) (hc:fG l.length (fZ l) c) (h:UW l c i s) {a:Rn} (ha:a∈s.2) {j:Nat} (hj:j<l.length):UW l c i (vW l a j s):=by
 unfold Go.Fv.L.vW
 split
 case isFalse=>exact h
 rename_i hh
 obtain ⟨h1,h2⟩:=hh
 obtain ⟨x,hx,hcx,rfl⟩:=h.mem a ha
 have hcj:c j=i:=by
  rw [←hcx]
  exact ((hc.eq x j hx hj).2 (.one ((Ht hup hx hj).1 h2))).symm
 have hjl:j<s.1.length:=by rw [h.len];exact hj
 refine ⟨by simp [h.len],fun q hq hcq=>?_,fun q hq hs=>?_,fun r hr=>?_⟩
 ·dsimp only;rw [jH hjl,h.old q hq hcq];split<;>rfl
 ·dsimp only at hs ⊢
  rw [jH hjl] at hs
  by_cases e:j=q
  ·subst e
   exact .inr ⟨hcj,List.mem_append_right _ (by simp)⟩
  ·rw [if_neg e] at hs
   rcases h.seen q hq hs with h3|⟨h3,h4⟩
   ·exact .inl h3
   ·exact .inr ⟨h3,List.mem_append_left _ h4⟩
 ·rcases List.mem_append.1 hr with hr|hr
  ·exact h.mem r hr
  ·exact ⟨j,hj,hcj,List.mem_singleton.1 hr⟩
theorem QL {l:List Rn} {a:Rn} {j q:Nat} {s:St} (hj:j<s.1.length) (h:s.1.getD q false=true):(vW l a j s).1.getD q false=true:=by
 unfold vW
 split
 ·dsimp only;rw [jH hj,h];split<;>rfl
 ·exact h
theorem QK {l:List Rn} {c:Nat→Nat} {i:Nat} (hup:Up l) (hc:fG l.length (fZ l) c) {a:Rn}:∀ (m j:Nat) {s:St},UW l c i s→a∈s.2→j+m≤l.length →
  UW l c i (yF l a m j s)∧(∀ q,s.1.getD q false=true→(yF l a m j s).1.getD q false=true)∧∀ q,j≤q→q<j+m→og a (rg l q)→(yF l a m j s).1.getD q false=true
 | 0,j,s,h,_,_=>⟨h,fun q hq=>hq,fun q h1 h2=>by omega⟩
 | m+1,j,s,h,ha,hj=>by
  have hjl:j<s.1.length:=by rw [h.len];omega
  have h1:=h.vW hup hc ha (j:=j) (by omega)
  have ha':a∈(vW l a j s).2:=by
   obtain ⟨e,he⟩:=Ir l a j s
   rw [he];exact List.mem_append_left _ ha
  obtain ⟨k1,k2,k3⟩:=QK hup hc m (j+1) h1 ha' (by omega)
  refine ⟨k1,fun q hq=>k2 q (QL hjl hq),fun q h2 h3 hadj=>?_⟩
  by_cases e:q=j
  ·subst e
   refine k2 q ?_
   unfold vW
   by_cases hs:s.1.getD q false=false
   ·rw [if_pos ⟨hs,hadj⟩]
    dsimp only;rw [jH hjl,if_pos rfl]
   ·rw [if_neg fun h=>hs h.1];simpa using hs
  ·exact k3 q (by omega) (by omega) hadj
theorem Qa {l:List Rn} {c:Nat→Nat} {i:Nat} (hup:Up l) (hc:fG l.length (fZ l) c):∀ (m k:Nat) {s:St},UW l c i s→Cm l.length s→l.length+1≤m+k→(∀ p,p<k→p<s.2.length→∀ q,q<l.length→og (rg s.2 p) (rg l q)→s.1.getD q false=true) →
  UW l c i (G9 l m k s)∧(∀ q,s.1.getD q false=true→(G9 l m k s).1.getD q false=true)∧∀ r,r∈(G9 l m k s).2→∀ q,q<l.length→og r (rg l q)→(G9 l m k s).1.getD q false=true
 | 0,k,s,h,hs,hm,hcl=>by
  refine ⟨h,fun q hq=>hq,fun r hr q hq ha=>?_⟩
  have hr:r∈s.2:=hr
  obtain ⟨p,hp,rfl⟩:=List.getElem_of_mem hr
  have:=hs.le
  refine hcl p (by omega) hp q hq ?_
  unfold rg
  rw [getD_lt hp];exact ha
 | m+1,k,s,h,hs,hm,hcl=>by
  unfold Go.Fv.L.G9
  by_cases hk:k<s.2.length
  ·rw [if_pos hk]
   have ha:rg s.2 k∈s.2:=by unfold rg;rw [getD_lt hk];exact List.getElem_mem hk
   obtain ⟨k1,k2,k3⟩:=QK hup hc l.length 0 h ha (by omega)
   obtain ⟨e,he⟩:=Iq l (rg s.2 k) l.length 0 s
   have hs':Cm l.length (yF l (rg s.2 k) l.length 0 s):=hs.yF _ _ (by omega)
   have hget:∀ p,p<s.2.length→rg (yF l (rg s.2 k) l.length 0 s).2 p=rg s.2 p:=fun p hp=>by
    unfold rg
    rw [he]
    simp [List.getD_eq_getElem?_getD,List.getElem?_append_left hp]
   obtain ⟨r1,r2,r3⟩:=Qa hup hc m (k+1) k1 hs' (by omega) (fun p hp hpl q hq hadj=>by
    by_cases e2:p=k
    ·subst e2
     rw [hget p hk] at hadj
     exact k3 q (Nat.zero_le _) (by omega) hadj
    ·have hpk:p<k:=by omega
     rw [hget p (by omega)] at hadj
     exact k2 q (hcl p hpk (by omega) q hq hadj))
   exact ⟨r1,fun q hq=>r2 q (k2 q hq),r3⟩
  ·rw [if_neg hk]
   refine ⟨h,fun q hq=>hq,fun r hr q hq ha=>?_⟩
   obtain ⟨p,hp,rfl⟩:=List.getElem_of_mem hr
   refine hcl p (by omega) hp q hq ?_
   unfold rg
   rw [getD_lt hp];exact ha
theorem VB {l:List Rn} {c:Nat→Nat} {i:Nat} {seen:List Bool} (hup:Up l) (hc:fG l.length (fZ l) c) (hi:i<l.length) (hci:c i=i) (hlen:seen.length=l.length) (hold:∀ j,j<l.length→(seen.getD j false=true↔c j<i)) :
  (G8 l i seen).1.length=l.length∧(∀ j,j<l.length→((G8 l i seen).1.getD j false=true↔c j<i+1))∧∀ r,r∈(G8 l i seen).2↔∃ j,j<l.length∧c j=i∧r=rg l j:=by
 have his:i<seen.length:=by omega
 have hsi:seen.getD i false=false:=by
  cases h:seen.getD i false with
  | false=>rfl
  | true=>have:=(hold i hi).1 h;omega
 have h0:UW l c i (seen.set i true,[rg l i]):=by
  refine ⟨by simpa using hlen,fun j hj hcj=>?_,fun j hj hs=>?_,fun r hr=>⟨i,hi,hci,List.mem_singleton.1 hr⟩⟩
  ·dsimp only;rw [jH his,(hold j hj).2 hcj];split<;>rfl
  ·dsimp only at hs
   rw [jH his] at hs
   by_cases e:i=j
   ·subst e;exact .inr ⟨hci,by simp⟩
   ·rw [if_neg e] at hs;exact .inl ((hold j hj).1 hs)
 have s0:Cm l.length (seen.set i true,[rg l i]):=by
  refine ⟨by simpa using hlen,?_⟩
  dsimp only
  rw [Ag his hsi];simp
 obtain ⟨r1,r2,r3⟩:=Qa hup hc (l.length+1) 0 h0 s0 (by omega) (fun p hp=>absurd hp (by omega))
 have hdef:G8 l i seen=G9 l (l.length+1) 0 (seen.set i true,[rg l i]):=rfl
 rw [←hdef] at r1 r2 r3
 have hi':(G8 l i seen).1.getD i false=true:=r2 i (by dsimp only;rw [jH his,if_pos rfl])
 have cl:∀ j,mY (fZ l) i j→j<l.length→(G8 l i seen).1.getD j false=true:=by
  intro j hj
  have key:j<l.length∧c j=i∧(G8 l i seen).1.getD j false=true:=by
   induction hj with
   | refl=>exact ⟨hi,hci,hi'⟩
   | @step y z _ e ih=>
    obtain ⟨hy,hcy,hsy⟩:=ih
    have hz:z<l.length:=e.elim (fun e=>e.lt.2) fun e=>e.lt.1
    have hcz:c z=i:=by rw [←hcy];exact ((hc.eq y z hy hz).2 (.one e)).symm
    refine ⟨hz,hcz,?_⟩
    rcases r1.seen y hy hsy with h|⟨_,h⟩
    ·omega
    ·exact r3 _ h z hz ((Ht hup hy hz).2 (e.elim .inl .inr))
  exact fun _=>key.2.2
 have all:∀ j,j<l.length→c j=i→(G8 l i seen).1.getD j false=true:=fun j hj hcj=>cl j ((hc.eq i j hi hj).1 (by rw [hci,hcj])) hj
 refine ⟨r1.len,fun j hj=>⟨fun h=>?_,fun h=>?_⟩,fun r=>⟨r1.mem r,?_⟩⟩
 ·rcases r1.seen j hj h with h|⟨h,_⟩<;>omega
 ·rcases Nat.lt_or_eq_of_le (Nat.le_of_lt_succ h) with h|h
  ·exact r1.old j hj h
  ·exact all j hj h
 ·rintro ⟨j,hj,hcj,rfl⟩
  rcases r1.seen j hj (all j hj hcj) with h|⟨_,h⟩
  ·omega
  ·exact h
theorem mF {c:Nat→Nat} {l:List Rn} {i:Nat} {r:Rn}:r∈fQ c l l.length i↔∃ j,j<l.length∧c j=i∧r=rg l j:=by
 unfold fQ
 rw [List.mem_map]
 constructor
 ·rintro ⟨j,hj,rfl⟩
  obtain ⟨h1,h2⟩:=List.mem_filter.1 hj
  exact ⟨j,List.mem_range.1 h1,by simpa using h2,rfl⟩
 ·rintro ⟨j,hj,hcj,rfl⟩
  exact ⟨j,List.mem_filter.2 ⟨List.mem_range.2 hj,by simpa using hcj⟩,rfl⟩
inductive tq (l:List Rn) (c:Nat→Nat):List (Nat × List Rn)→List (List Rn)→Prop
 | nil:tq l c [] []
 | cons {i:Nat} {g u:List Rn} {G:List (Nat × List Rn)} {U:List (List Rn)} (hi:i<l.length) (hc:c i=i) (hu:u=fQ c l l.length i) (hm:∀ r,r∈g↔r∈u) (h:tq l c G U):tq l c ((i,g)::G) (u::U)
def Ur (c:Nat→Nat) (l:List Rn) (i m:Nat):List (List Rn):=(((List.range' i m).filter fun j=>decide (c j=j)).map fun j=>fQ c l l.length j)
theorem La {l:List Rn} {c:Nat→Nat} (hup:Up l) (hc:fG l.length (fZ l) c):∀ (m i:Nat) (seen:List Bool),i+m=l.length→seen.length=l.length→(∀ j,j<l.length→(seen.getD j false=true↔c j<i))→tq l c (FW l m i seen) (Ur c l i m)
 | 0,i,seen,_,_,_=>.nil
 | m+1,i,seen,him,hlen,hold=>by
  have hi:i<l.length:=by omega
  unfold FW Ur
  rw [List.range'_succ,List.filter_cons]
  by_cases hs:seen.getD i false=true
  ·have hci:=(hold i hi).1 hs
   rw [if_pos hs,if_neg (by simp;omega)]
   refine La hup hc m (i+1) seen (by omega) hlen fun j hj=>(hold j hj).trans ⟨fun h=>by omega,fun h=>?_⟩
   rcases Nat.lt_or_eq_of_le (Nat.le_of_lt_succ h) with h|h
   ·exact h
   ·have:=hc.idem j hj
    rw [h] at this;omega
  ·have hci:c i=i:=by
    have h1:=hc.le i hi
    have h2:¬c i<i:=fun h=>hs ((hold i hi).2 h)
    omega
   obtain ⟨b1,b2,b3⟩:=VB hup hc hi hci hlen hold
   rw [if_neg hs,if_pos (by simpa using hci),List.map_cons]
   exact .cons hi hci rfl (fun r=>(b3 r).trans mF.symm) (La hup hc m (i+1) _ (by omega) b1 b2)
theorem Rl (c:Nat→Nat) (l:List Rn):Ur c l 0 l.length=dG c l l.length:=by
 unfold Ur dG
 rw [List.range_eq_range']
theorem Jh {l:List Rn} {c:Nat→Nat} (hup:Up l) (hc:fG l.length (fZ l) c):tq l c (FW l l.length 0 (List.replicate l.length false)) (dG c l l.length):=by
 rw [←Rl]
 refine La hup hc l.length 0 _ (by omega) (by simp) fun j hj=>?_
 simp [List.getD_eq_getElem?_getD,hj]
end Go.Fv.L
/- Two lines do not have one box. -/
namespace Go.Fv.L
open Go Go.Proofs
theorem Kz {l:List Rn} {c:Nat→Nat} (hb:l.Pairwise Pv) (hc:fG l.length (fZ l) c) (hpos:∀ k,k<l.length→(rg l k).f<(rg l k).t) {i j:Nat} (hi:i<l.length) (hci:c i=i) (hj:j<l.length) (hcj:c j=j) (hij:i≠j):iE true (fQ c l l.length i)≠iE true (fQ c l l.length j):=fun he=>by
 have ni:fQ c l l.length i≠[]:=List.ne_nil_of_mem (mF.2 ⟨i,hi,hci,rfl⟩)
 have nj:fQ c l l.length j≠[]:=List.ne_nil_of_mem (mF.2 ⟨j,hj,hcj,rfl⟩)
 obtain ⟨a1,a2,a3,a4⟩:=RH true ni
 obtain ⟨b1,b2,b3,b4⟩:=RH true nj
 rw [he] at a1 a2 a3 a4
 generalize iE true (fQ c l l.length j)=B at *
 have key:∀ {z:Nat} {b:Bx},b∈(fQ c l l.length z).map (kL true)→∃ k,k<l.length∧c k=z∧b=⟨(rg l k).y,(rg l k).f,1,((rg l k).t:Int) - (rg l k).f⟩:=fun {z b} h=>by
  obtain ⟨r,hr,rfl⟩:=List.mem_map.1 h
  obtain ⟨k,h1,h2,rfl⟩:=mF.1 hr
  exact ⟨k,h1,h2,rfl⟩
 have mem:∀ {z k:Nat},k<l.length→c k=z→(⟨(rg l k).y,(rg l k).f,1,((rg l k).t:Int) - (rg l k).f⟩:Bx)∈(fQ c l l.length z).map (kL true):=fun {z k} h1 h2=>List.mem_map.2 ⟨rg l k,mF.2 ⟨k,h1,h2,rfl⟩,rfl⟩
 obtain ⟨p0,hp0,ep⟩:=P6 a2
 obtain ⟨q0,hq0,eq⟩:=P5 a4
 obtain ⟨r0,hr0,er⟩:=P6 b1
 obtain ⟨s0,hs0,es⟩:=P5 b3
 obtain ⟨p,p1,p2,rfl⟩:=key hp0
 obtain ⟨q,q1,q2,rfl⟩:=key hq0
 obtain ⟨r,r1,r2,rfl⟩:=key hr0
 obtain ⟨s,s1,s2,rfl⟩:=key hs0
 dsimp only at ep eq er es
 refine cross hb hc hpos hij (fun k hk h=>?_) ⟨p1,p2,rfl⟩ ⟨q1,q2,rfl⟩ ⟨r1,r2,rfl⟩ ⟨s1,s2,rfl⟩
 have m1:B.x≤(rg l k).y:=h.elim (fun h=>(a1 B.x).1 (Int.le_refl _) _ (mem hk h)) fun h=>(b1 B.x).1 (Int.le_refl _) _ (mem hk h)
 have m2:B.y≤(rg l k).f:=h.elim (fun h=>(a2 B.y).1 (Int.le_refl _) _ (mem hk h)) fun h=>(b2 B.y).1 (Int.le_refl _) _ (mem hk h)
 have m3:((rg l k).y:Int)+1≤B.x+B.w:=h.elim (fun h=>(a3 _).1 (Int.le_refl _) _ (mem hk h)) fun h=>(b3 _).1 (Int.le_refl _) _ (mem hk h)
 have m4:((rg l k).f:Int)+(((rg l k).t:Int) - (rg l k).f)≤B.y+B.h:=h.elim (fun h=>(a4 _).1 (Int.le_refl _) _ (mem hk h)) fun h=>(b4 _).1 (Int.le_refl _) _ (mem hk h)
 omega
end Go.Fv.L
/- A first pixel goes by what is there alone. -/
namespace Go.Fv.L
open Go Go.Proofs
theorem Pt.lt_asymm {p q:Pt} (h:p.lt q):¬q.lt p:=by unfold Pt.lt at *;omega
theorem Pt.eq_of {p q:Pt} (h1:¬p.lt q) (h2:¬q.lt p):p=q:=by
 unfold Pt.lt at h1 h2
 cases p;cases q
 dsimp only at h1 h2
 congr 1<;>omega
theorem Pt.gB {p q r:Pt} (h1:¬p.lt q) (h2:¬q.lt r):¬p.lt r:=by unfold Pt.lt at *;omega
theorem Pt.lt_irrefl (p:Pt):¬p.lt p:=by unfold Pt.lt;omega
theorem Ot (p:Pt):jX p p=p:=by unfold jX;split<;>rfl
theorem zu:∀ (l:List Pt) (a:Pt),(l.foldl jX a=a∨l.foldl jX a∈l)∧¬a.lt (l.foldl jX a)∧∀ p,p∈l→¬p.lt (l.foldl jX a)
 | [],a=>⟨.inl rfl,Pt.lt_irrefl a,fun p h=>by cases h⟩
 | q::l,a=>by
  obtain ⟨h1,h2,h3⟩:=zu l (jX a q)
  rw [List.foldl_cons]
  have hc:jX a q=q∧q.lt a∨jX a q=a∧¬q.lt a:=by
   unfold jX
   by_cases h:q.lt a
   ·rw [if_pos h];exact .inl ⟨rfl,h⟩
   ·rw [if_neg h];exact .inr ⟨rfl,h⟩
  rcases hc with ⟨e,hl⟩|⟨e,hl⟩
  ·rw [e] at h1 h2 h3 ⊢
   refine ⟨h1.elim (fun h=>.inr (by rw [h];exact .head _)) fun h=>.inr (.tail _ h),Pt.gB (Pt.lt_asymm hl) h2,fun p hp=>?_⟩
   rcases List.mem_cons.1 hp with rfl|hp
   ·exact h2
   ·exact h3 p hp
  ·rw [e] at h1 h2 h3 ⊢
   refine ⟨h1.elim .inl fun h=>.inr (.tail _ h),h2,fun p hp=>?_⟩
   rcases List.mem_cons.1 hp with rfl|hp
   ·exact Pt.gB hl h2
   ·exact h3 p hp
theorem TS {A B:List Pt} {a b:Pt} (ha:a∈A) (hb:b∈B) (h:∀ c,c∈A↔c∈B):A.foldl jX a=B.foldl jX b:=by
 obtain ⟨h1,h2,h3⟩:=zu A a
 obtain ⟨k1,k2,k3⟩:=zu B b
 have mA:A.foldl jX a∈A:=h1.elim (fun e=>by rw [e];exact ha) id
 have mB:B.foldl jX b∈B:=k1.elim (fun e=>by rw [e];exact hb) id
 exact Pt.eq_of (k3 _ ((h _).1 mA)) (h3 _ ((h _).2 mB))
theorem Ou {a:Pt} {l:List Pt}:EY (a::l)=(a::l).foldl jX a:=by
 unfold EY
 rw [List.foldl_cons,Ot]
theorem U6 {g u:List Rn} (d:Bool) {a:Pt} (ha:a∈g.map (CU d)) (h:∀ r,r∈g↔r∈u):(g.map (CU d)).foldl jX a=nX d u:=by
 unfold nX
 have hm:∀ c,c∈g.map (CU d)↔c∈u.map (CU d):=fun c=>by
  rw [List.mem_map,List.mem_map]
  exact ⟨fun ⟨x,hx,e⟩=>⟨x,(h x).1 hx,e⟩,fun ⟨x,hx,e⟩=>⟨x,(h x).2 hx,e⟩⟩
 cases u with
 | nil=>exact absurd ((hm a).1 ha) (by simp)
 | cons r u=>
  rw [List.map_cons,Ou]
  exact TS ha (.head _) fun c=>by rw [←List.map_cons];exact hm c
end Go.Fv.L
/- Runs of a line, found by counting. -/
namespace Go.Fv.L
open Go Go.Proofs
def pG (least y f t n:Nat):List Rn:=if least≤n then [⟨y,f,t⟩] else []
def mV (is:Nat→Bool) (least y:Nat):Nat→Nat→Nat→List Rn
 | 0,x,n=>pG least y (x - n) x n
 | m+1,x,n=>if is x=true then mV is least y m (x+1) (n+1) else pG least y (x - n) x n++mV is least y m (x+1) 0
theorem NH (is:Nat→Bool) (least y:Nat):∀ (m x n:Nat),mV is least y m x n=pG least y (x - n) (fU is m x) (n+(fU is m x - x))++if fU is m x=x+m then [] else mV is least y (m - (fU is m x - x) - 1) (fU is m x+1) 0
 | 0,x,n=>by simp [mV,fU]
 | m+1,x,n=>by
  have q1:mV is least y (m+1) x n=if is x=true then mV is least y m (x+1) (n+1) else pG least y (x - n) x n++mV is least y m (x+1) 0:=rfl
  have q2:fU is (m+1) x=if is x=true then fU is m (x+1) else x:=rfl
  rw [q1,q2]
  by_cases h:is x=true
  ·rw [if_pos h,if_pos h,NH is least y m (x+1) (n+1)]
   have hb:=pR is m (x+1)
   generalize fU is m (x+1)=e at *
   rw [show x+1 - (n+1)=x - n by omega,show n+1+(e - (x+1))=n+(e - x) by omega,show m - (e - (x+1)) - 1=m+1 - (e - x) - 1 by omega]
   congr 1
   by_cases he:e=x+1+m
   ·rw [if_pos he,if_pos (by omega)]
   ·rw [if_neg he,if_neg (by omega)]
  ·rw [if_neg h,if_neg h,if_neg (by omega)]
   simp
theorem RV (is:Nat→Bool) {least:Nat} (hl:1≤least) (y:Nat):∀ (m x:Nat),mV is least y m x 0=Em least y (strs is m x):=by
 intro m
 induction m using Nat.strongRecOn with
 | ind m ih=>
  intro x
  match m,ih with
  | 0,_=>unfold mV pG strs Em;rw [if_neg (by omega)];rfl
  | m+1,ih=>
   unfold strs
   by_cases h:is x=true
   ·rw [if_pos h,NH]
    have hb:=pR is (m+1) x
    have hr:fU is (m+1) x=fU is m (x+1):=by
     conv=>lhs;unfold fU
     rw [if_pos h]
    have hb2:=pR is m (x+1)
    rw [←hr] at hb2
    generalize fU is (m+1) x=e at *
    have key:(if e=x+(m+1) then [] else mV is least y (m+1 - (e - x) - 1) (e+1) 0)=Em least y (strs is (m - (e - x)) (e+1)):=by
     by_cases he:e=x+(m+1)
     ·rw [if_pos he,show m - (e - x)=0 by omega]
      unfold strs Em;rfl
     ·rw [if_neg he,show m+1 - (e - x) - 1=m - (e - x) by omega]
      exact ih _ (by omega) _
    rw [key]
    unfold Em pG
    rw [List.filter_cons]
    by_cases hle:least≤e - x
    ·rw [if_pos (by omega),if_pos (by simpa using hle),List.map_cons]
     dsimp only
     rw [show x - 0=x by omega,show x+(e - x)=e by omega];rfl
    ·rw [if_neg (by omega),if_neg (by simpa using hle)];rfl
   ·rw [if_neg h]
    unfold mV pG
    rw [if_neg h,if_neg (by omega),List.nil_append]
    exact ih m (by omega) (x+1)
theorem oN (is:Nat→Nat→Bool) {least:Nat} (hl:1≤least) (long y:Nat):mV (is y) least y long 0 0=SQ is long least y:=RV (is y) hl y long 0
def FV (r:Rn):List AV:=[.int .i64 r.f,.int .i64 r.y,.int .i64 (r.t - r.f:Nat)]
instance:pY FV:=⟨fun _=>rfl⟩
abbrev Uz (l:List Rn):aF:=.objs 3 (l.map FV)
end Go.Fv.L
/- Rails with their first pixels, and their order: by the row, then the column, then what else they bear. -/
namespace Go.Fv.L
open Go
structure Pl where
 t:List Int
 d':Fin 5000
 c':Fin 5000
def Pl.d (x:Pl):Int:=(x.d'.val:Int)
def Pl.c (x:Pl):Int:=(x.c'.val:Int)
def Pl.a1 (x:Pl):Int:=x.t.getD 1 0
def Pl.a2 (x:Pl):Int:=x.t.getD 2 0
def Pl.a3 (x:Pl):Int:=x.t.getD 3 0
def Pl.a4 (x:Pl):Int:=x.t.getD 4 0
def Pl.dn (x:Pl):Bool:=decide (x.t.getD 5 0=1)
theorem Pl.bd (x:Pl):0≤x.d∧x.d<5000∧0≤x.c∧x.c<5000:=by
 have h1:=x.d'.isLt
 have h2:=x.c'.isLt
 unfold Pl.d Pl.c;omega
def Pl.av (x:Pl):List AV:=[.int .i64 x.a1,.int .i64 x.a2,.int .i64 x.a3,.int .i64 x.a4,.bool x.dn,.int .i64 x.c,.int .i64 x.d]
def Pl.zero:Pl:=⟨[],0,0⟩
instance:Inhabited Pl:=⟨Pl.zero⟩
instance:pY Pl.av:=⟨fun _=>rfl⟩
def aC (l:List Pl):aF:=.objs 7 (l.map Pl.av)
def dS (x y:Pl):Prop:=x.d<y.d∨(x.d=y.d∧x.c<y.c)
def ke (x y:Pl):Prop:=x.d=y.d∧x.c=y.c
theorem xP {x y:Pl} (h:dS x y):¬dS y x:=by unfold dS at *;omega
theorem KJ (x:Pl):¬dS x x:=by unfold dS;omega
theorem FC {x y:Pl} (h:dS x y):¬ke x y∧¬ke y x:=by unfold dS at h;unfold ke;omega
theorem gB {x y z:Pl} (h1:¬dS y x) (h2:¬dS z y):¬dS z x:=by unfold dS at *;omega
theorem VY {x y:Pl} (h:¬dS y x):dS x y∨ke x y:=by unfold dS at *;unfold ke;omega
instance (x y:Pl):Decidable (dS x y):=by unfold dS;infer_instance
instance (x y:Pl):Decidable (ke x y):=by unfold ke;infer_instance
def Hg (x y:Pl):Bool:=decide (dS x y) || (decide (ke x y) && decide (x.t≤y.t))
def aO (l:List Pl):List Pl:=l.mergeSort Hg
theorem nD {x y:Pl}:Hg x y=true↔dS x y∨(ke x y∧x.t≤y.t):=by
 unfold Hg;simp
theorem OE (a b c:Pl) (h1:Hg a b=true) (h2:Hg b c=true):Hg a c=true:=by
 rw [nD] at *
 rcases h1 with h1|⟨k1,t1⟩<;>rcases h2 with h2|⟨k2,t2⟩
 ·left;unfold dS at *;omega
 ·left;unfold dS ke at *;omega
 ·left;unfold dS ke at *;omega
 ·right;exact ⟨by unfold ke at *;omega,List.le_trans t1 t2⟩
theorem OD (a b:Pl):(Hg a b || Hg b a)=true:=by
 rw [Bool.or_eq_true,nD,nD]
 by_cases h1:dS a b
 ·exact .inl (.inl h1)
 by_cases h2:dS b a
 ·exact .inr (.inl h2)
 have hk:ke a b∧ke b a:=by unfold dS at *;unfold ke;omega
 rcases List.le_total a.t b.t with h|h
 ·exact .inl (.inr ⟨hk.1,h⟩)
 ·exact .inr (.inr ⟨hk.2,h⟩)
theorem QU {a b:Pl} (h1:Hg a b=true) (h2:Hg b a=true):a=b:=by
 rw [nD] at *
 rcases h1 with h1|⟨k1,t1⟩<;>rcases h2 with h2|⟨k2,t2⟩
 ·exact absurd h2 (xP h1)
 ·exact absurd k2 (FC h1).2
 ·exact absurd k1 (FC h2).2
 ·obtain ⟨at',ad,ac⟩:=a
  obtain ⟨bt,bd,bc⟩:=b
  have:=List.le_antisymm t1 t2
  obtain ⟨e1,e2⟩:=k1
  have f1:ad=bd:=Fin.ext (by unfold Pl.d at e1;dsimp only at e1;omega)
  have f2:ac=bc:=Fin.ext (by unfold Pl.c at e2;dsimp only at e2;omega)
  dsimp only at this
  subst this f1 f2;rfl
theorem dV (l:List Pl):(aO l).Perm l:=List.mergeSort_perm _ _
theorem dB (l:List Pl):(aO l).length=l.length:=(dV l).length_eq
theorem oO (l:List Pl):(aO l).Pairwise fun x y=>Hg x y=true:=List.pairwise_mergeSort OE OD l
theorem rJ {l l':List Pl} (hp:l'.Perm l) (hs:l'.Pairwise fun x y=>Hg x y=true):l'=aO l:=
 List.Perm.eq_of_pairwise (fun a b _ _ h1 h2=>QU h1 h2) hs (oO l) (hp.trans (dV l).symm)
def eF (l:List Pl):Prop:=l.Pairwise fun x y=>ke x y→x.t<y.t
def o7 (l:List Pl):Prop:=l.Pairwise fun x y=>¬dS y x
theorem Fj {x y:Pl} (h1:¬dS y x) (h2:ke x y→x.t<y.t):Hg x y=true:=by
 rw [nD]
 rcases VY h1 with h|h
 ·exact .inl h
 ·exact .inr ⟨h,List.le_of_lt (h2 h)⟩
theorem both_le {l:List Pl} (h1:o7 l) (h2:eF l):l.Pairwise fun x y=>Hg x y=true:=
 (h1.and h2).imp fun h=>Fj h.1 h.2
theorem Lm {l l':List Pl} (hp:l'.Perm l) (h1:o7 l') (h2:eF l'):l'=aO l:=rJ hp (both_le h1 h2)
theorem OQ {x y:Pl} (h:Hg x y=true):¬dS y x:=by
 rw [nD] at h
 rcases h with h|⟨h,_⟩
 ·exact xP h
 ·unfold dS ke at *;omega
theorem jc (l:List Pl):o7 (aO l):=(oO l).imp fun h=>OQ h
theorem Ep {l:List Pl} (h:eF l):eF (aO l):=by
 have hd:l.Pairwise fun x y=>ke x y→x.t≠y.t:=h.imp fun h k e=>by
  have:=h k
  rw [e] at this
  exact List.lt_irrefl _ this
 have hd2:(aO l).Pairwise fun x y=>ke x y→x.t≠y.t:=((dV l).symm.pairwise_iff (fun {x y} h k e=>h ⟨k.1.symm,k.2.symm⟩ e.symm)).1 hd
 refine ((oO l).and hd2).imp fun {x y} hh k=>?_
 obtain ⟨h1,h2⟩:=hh
 rw [nD] at h1
 rcases h1 with h1|⟨_,h1⟩
 ·exact absurd k (FC h1).1
 ·rcases Std.Trichotomous.rel_or_eq_or_rel_swap (r:=fun a b:List Int=>a<b) (a:=x.t) (b:=y.t) with h3|h3|h3
  ·exact h3
  ·exact absurd h3 (h2 k)
  ·exact absurd (List.le_antisymm h1 (List.le_of_lt h3)) (h2 k)
theorem gZ {l:List Pl} (h1:o7 l) (h2:eF l):aO l=l:=(Lm (List.Perm.refl l) h1 h2).symm
theorem fA (l:List Pl) {i:Nat} (h:i<l.length):(l.map Pl.av).getD i []=[.int .i64 (l.getD i Pl.zero).a1,.int .i64 (l.getD i Pl.zero).a2,.int .i64 (l.getD i Pl.zero).a3,.int .i64 (l.getD i Pl.zero).a4,.bool (l.getD i Pl.zero).dn,.int .i64 (l.getD i Pl.zero).c,.int .i64 (l.getD i Pl.zero).d]:=by
 rw [List.getD_eq_getElem?_getD,List.getElem?_map,List.getElem?_eq_getElem h,getD_lt h];rfl
end Go.Fv.L
/- Rails with their first pixels, as what is sorted. -/
namespace Go.Fv.L
open Go Go.Proofs
def y5 (i:Nat) (B:Bx) (d:Bool) (P:Pt):Pl:=⟨[(i:Int),B.x,B.y,B.w,B.h,if d=true then 1 else 0],Fin.ofNat 5000 P.y.toNat,Fin.ofNat 5000 P.x.toNat⟩
def Px (P:Pt):Prop:=0≤P.x∧P.x≤1000∧0≤P.y∧P.y≤1000
theorem VW {i:Nat} {B:Bx} {d:Bool} {P:Pt} (h:Px P):(y5 i B d P).d=P.y∧(y5 i B d P).c=P.x:=by
 unfold Px at h
 unfold y5 Pl.d Pl.c
 simp only [Fin.val_ofNat]
 constructor<;>omega
theorem zF {i:Nat} {B:Bx} {d:Bool} {P:Pt} (h:Px P):(y5 i B d P).av=[.int .i64 B.x,.int .i64 B.y,.int .i64 B.w,.int .i64 B.h,.bool d,.int .i64 P.x,.int .i64 P.y]:=by
 obtain ⟨h1,h2⟩:=VW (i:=i) (B:=B) (d:=d) h
 unfold Pl.av
 rw [h1,h2]
 unfold y5 Pl.a1 Pl.a2 Pl.a3 Pl.a4 Pl.dn
 cases d<;>rfl
def oL (d:Bool):Nat→List (List Rn)→List Pl
 | _,[]=>[]
 | i,g::gs=>y5 i (iE d g) d (nX d g)::oL d (i+1) gs
theorem jS (d:Bool):∀ (gs:List (List Rn)) (i:Nat),(oL d i gs).length=gs.length
 | [],_=>rfl
 | g::gs,i=>by simp only [oL,List.length_cons,jS d gs]
theorem IY (d:Bool):∀ (gs:List (List Rn)) (i:Nat) (g:List Rn),oL d i (gs++[g])=oL d i gs++[y5 (i+gs.length) (iE d g) d (nX d g)]
 | [],i,g=>rfl
 | h::gs,i,g=>by
  simp only [List.cons_append,oL,IY d gs,List.length_cons]
  rw [show i+1+gs.length=i+(gs.length+1) by omega]
theorem wF (d:Bool) (gs:List (List Rn)) (i:Nat) {k:Nat} (h:k<gs.length):oL d i (gs.take (k+1))=oL d i (gs.take k)++[y5 (i+k) (iE d (gs.getD k [])) d (nX d (gs.getD k []))]:=by
 rw [List.take_succ_eq_append_getElem h,IY,getD_lt h,List.length_take,Nat.min_eq_left (by omega)]
theorem Vb (d:Bool) {r:Rn} (h:zi r):Px (CU d r):=by
 unfold zi at h
 unfold CU Px
 cases d<;>simp<;>omega
theorem VN {p q:Pt} (hp:Px p) (hq:Px q):Px (jX q p):=by
 unfold jX;split<;>assumption
theorem NC (d:Bool) {g:List Rn} (h:∀ r,r∈g→zi r):Px (nX d g):=by
 have key:∀ (l:List Rn) (a:Pt),Px a→(∀ r,r∈l→zi r)→Px ((l.map (CU d)).foldl jX a):=by
  intro l
  induction l with
  | nil=>intro a ha _;exact ha
  | cons r l ih=>intro a ha hl;exact ih _ (VN (Vb d (hl r (.head _))) ha) fun q hq=>hl q (.tail _ hq)
 unfold nX
 cases g with
 | nil=>unfold EY Px;simp
 | cons r g=>exact key g _ (Vb d (h r (.head _))) fun q hq=>h q (.tail _ hq)
theorem SB {c:Nat→Nat} {l:List Rn} {i k:Nat} (hi:i≤l.length) {r:Rn} (h:r∈fQ c l i k):r∈l:=by
 unfold fQ at h
 obtain ⟨j,hj,rfl⟩:=List.mem_map.1 h
 have:=List.mem_range.1 (List.mem_filter.1 hj).1
 unfold rg
 rw [getD_lt (by omega)];exact List.getElem_mem _
theorem wE {c:Nat→Nat} {l:List Rn} {i:Nat} {g:List Rn} (h:g∈dG c l i):∀ r,r∈g→r∈l:=by
 unfold dG at h
 obtain ⟨j,_,rfl⟩:=List.mem_map.1 h
 exact fun r hr=>SB (Nat.le_refl _) hr
theorem MS (gs:List (List Rn)) {k:Nat} (h:k<gs.length):(SL gs).getD k []=[.ro (uQ (gs.getD k []))]:=by
 unfold SL
 rw [getD_lt (by simpa using h),getD_lt h,List.getElem_map];rfl
end Go.Fv.L
