/-
  A part of the proof of the claim: walks over the program's functions and the plain laws that these need. No condition of its own.
-/
import Derived.Test.YtpbllkibobnifaaDoorLRmCardPart2
import Derived.Test.YtpbllkibobnifaaDoorLRmCardPart1
import Derived.Test.YtpbllkibobnifaaDoorFvPart11
set_option linter.unusedSimpArgs false
set_option linter.unusedVariables false
set_option linter.unnecessarySimpa false
set_option maxRecDepth 8000
set_option linter.unusedSectionVars false
/- The stable sort of rails: swaps of ranges. -/
namespace Go.Fv.L
open Go Go.Proofs
theorem bQ {a:Item}:∀ j,j<1→∃ it,lk [(0,a)] j=some it:=fun j hj=>by
 have:j=0:=by omega
 subst this;exact ⟨a,rfl⟩
theorem vT {α:Type} (A C:List α) (u z:α) {p:Nat} (hp:p=A.length):(A++u::C).getD p z=u:=by
 subst hp
 rw [List.getD_eq_getElem?_getD,List.getElem?_append_right (Nat.le_refl _),Nat.sub_self];rfl
theorem set_mid {α:Type} (A C:List α) (u v:α) {p:Nat} (hp:p=A.length):(A++u::C).set p v=A++v::C:=by
 subst hp
 rw [List.set_append,if_neg (Nat.lt_irrefl _),Nat.sub_self];rfl
structure zU (M M':List (List AV)) (p q:Nat) (u v:Pl):Prop where
 l:p<q∧q<M.length
 l':M'.length=M.length
 e1:M.getD p []=[.int .i64 u.a1,.int .i64 u.a2,.int .i64 u.a3,.int .i64 u.a4,.bool u.dn,.int .i64 u.c,.int .i64 u.d]
 e2:M.getD q []=[.int .i64 v.a1,.int .i64 v.a2,.int .i64 v.a3,.int .i64 v.a4,.bool v.dn,.int .i64 v.c,.int .i64 v.d]
 s1:(M.set p [.int .i64 v.a1,.int .i64 v.a2,.int .i64 v.a3,.int .i64 v.a4,.bool v.dn,.int .i64 v.c,.int .i64 v.d]).getD q []=[.int .i64 v.a1,.int .i64 v.a2,.int .i64 v.a3,.int .i64 v.a4,.bool v.dn,.int .i64 v.c,.int .i64 v.d]
 s2:(M.set q [.int .i64 u.a1,.int .i64 u.a2,.int .i64 u.a3,.int .i64 u.a4,.bool u.dn,.int .i64 u.c,.int .i64 u.d]).getD p []=[.int .i64 u.a1,.int .i64 u.a2,.int .i64 u.a3,.int .i64 u.a4,.bool u.dn,.int .i64 u.c,.int .i64 u.d]
 t1:(M.set p [.int .i64 v.a1,.int .i64 v.a2,.int .i64 v.a3,.int .i64 v.a4,.bool v.dn,.int .i64 v.c,.int .i64 v.d]).set q [.int .i64 u.a1,.int .i64 u.a2,.int .i64 u.a3,.int .i64 u.a4,.bool u.dn,.int .i64 u.c,.int .i64 u.d]=M'
 t2:(M.set q [.int .i64 u.a1,.int .i64 u.a2,.int .i64 u.a3,.int .i64 u.a4,.bool u.dn,.int .i64 u.c,.int .i64 u.d]).set p [.int .i64 v.a1,.int .i64 v.a2,.int .i64 v.a3,.int .i64 v.a4,.bool v.dn,.int .i64 v.c,.int .i64 v.d]=M'
theorem Eu {A B C L L':List Pl} {u v:Pl} {p q:Nat} (hL:L=A++u::(B++v::C)) (hL':L'=A++v::(B++u::C)) (hp:p=A.length) (hq:q=A.length+1+B.length):zU (L.map Pl.av) (L'.map Pl.av) p q u v:=by
 have hm:L.map Pl.av=A.map Pl.av++u.av::(B.map Pl.av++v.av::C.map Pl.av):=by rw [hL];simp
 have hm':L'.map Pl.av=A.map Pl.av++v.av::(B.map Pl.av++u.av::C.map Pl.av):=by rw [hL'];simp
 have hp':p=(A.map Pl.av).length:=by rw [List.length_map];exact hp
 have h2:∀ x:List AV,∀ D:List (List AV),A.map Pl.av++x::(B.map Pl.av++D)=(A.map Pl.av++x::B.map Pl.av)++D:=fun x D=>by simp
 have hq':∀ x:List AV,q=(A.map Pl.av++x::B.map Pl.av).length:=fun x=>by simp;omega
 refine ⟨⟨by omega,by rw [hm];simp;omega⟩,by rw [hm,hm'];simp,?_,?_,?_,?_,?_,?_⟩
 ·rw [hm,vT _ _ _ _ hp'];rfl
 ·rw [hm,h2,vT _ _ _ _ (hq' _)];rfl
 ·rw [hm,set_mid _ _ _ _ hp',h2,vT _ _ _ _ (hq' _)];rfl
 ·rw [hm,h2,set_mid _ _ _ _ (hq' _),←h2,vT _ _ _ _ hp'];rfl
 ·rw [hm,hm',set_mid _ _ _ _ hp',h2,set_mid _ _ _ _ (hq' _),h2];rfl
 ·rw [hm,hm',h2,set_mid _ _ _ _ (hq' _),←h2,set_mid _ _ _ _ hp'];rfl
def PI (P U M V Q:List Pl) (i:Nat):List Pl:=P++((V.take i++U.drop i)++(M++((U.take i++V.drop i)++Q)))
theorem Jo {P U M V Q:List Pl} {n i:Nat} (hU:U.length=n) (hV:V.length=n) (hi:i<n) :
  zU ((PI P U M V Q i).map Pl.av) ((PI P U M V Q (i+1)).map Pl.av) (P.length+i) (P.length+n+M.length+i) (U.getD i Pl.zero) (V.getD i Pl.zero):=by
 have eu:U.drop i=U.getD i Pl.zero::U.drop (i+1):=by rw [List.drop_eq_getElem_cons (by omega),getD_lt (by omega)]
 have ev:V.drop i=V.getD i Pl.zero::V.drop (i+1):=by rw [List.drop_eq_getElem_cons (by omega),getD_lt (by omega)]
 have fu:U.take (i+1)=U.take i++[U.getD i Pl.zero]:=by rw [List.take_succ_eq_append_getElem (by omega),getD_lt (by omega)]
 have fv:V.take (i+1)=V.take i++[V.getD i Pl.zero]:=by rw [List.take_succ_eq_append_getElem (by omega),getD_lt (by omega)]
 refine Eu (A:=P++V.take i) (B:=U.drop (i+1)++M++U.take i) (C:=V.drop (i+1)++Q) ?_ ?_ ?_ ?_
 ·unfold PI;rw [eu,ev];simp
 ·unfold PI;rw [fu,fv];simp
 ·simp;omega
 ·simp;omega
theorem NS (P U M V Q:List Pl) {n i:Nat} (hU:U.length=n) (hV:V.length=n) (hi:i≤n):(PI P U M V Q i).length=P.length+n+M.length+n+Q.length:=by
 unfold PI;simp;omega
theorem Jp (P U M V Q:List Pl):PI P U M V Q 0=P++(U++(M++(V++Q))):=by unfold PI;simp
theorem NR (P U M V Q:List Pl) {n:Nat} (hU:U.length=n) (hV:V.length=n):PI P U M V Q n=P++(V++(M++(U++Q))):=by
 unfold PI
 rw [List.take_of_length_le (by omega),List.take_of_length_le (by omega),List.drop_of_length_le (by omega),List.drop_of_length_le (by omega)];simp
end Go.Fv.L
/- The stable sort of rails: what insertion does. -/
namespace Go.Fv.L
open Go Go.Proofs
abbrev gd (Y:List Pl) (i:Nat):Pl:=Y.getD i Pl.zero
def qc (Y:List Pl):Prop:=∀ p q,p<q→q<Y.length→ke (gd Y p) (gd Y q)→(gd Y p).t<(gd Y q).t
theorem fJ {Y:List Pl} {i:Nat} (h:i<Y.length):gd Y i=Y[i]:=getD_lt h
theorem Jl {Y:List Pl} (h:eF Y):qc Y:=fun p q hpq hq hk=>by
 have:=List.pairwise_iff_getElem.1 h p q (by omega) hq hpq
 rw [fJ (by omega),fJ hq] at *
 exact this hk
theorem Jm {Y:List Pl} (h:qc Y):eF Y:=List.pairwise_iff_getElem.2 fun p q hp hq hpq hk=>by
 have:=h p q hpq hq
 rw [fJ hp,fJ hq] at this
 exact this hk
theorem NJ {Y:List Pl} (h:∀ p q,p<q→q<Y.length→¬dS (gd Y q) (gd Y p)):o7 Y:=List.pairwise_iff_getElem.2 fun p q hp hq hpq=>by
 have:=h p q hpq hq
 rw [fJ hp,fJ hq] at this
 exact this
theorem UE {Y:List Pl} (h:o7 Y):∀ p q,p<q→q<Y.length→¬dS (gd Y q) (gd Y p):=fun p q hpq hq=>by
 have:=List.pairwise_iff_getElem.1 h p q (by omega) hq hpq
 rw [fJ (i:=p) (by omega),fJ (i:=q) hq]
 exact this
def swp (Y:List Pl) (j:Nat):List Pl:=Y.take j++gd Y (j+1)::([]++gd Y j::Y.drop (j+2))
theorem NT {Y:List Pl} {j:Nat} (h:j+1<Y.length):Y=Y.take j++gd Y j::([]++gd Y (j+1)::Y.drop (j+2)):=by
 have e1:Y.drop j=gd Y j::Y.drop (j+1):=by rw [List.drop_eq_getElem_cons (by omega),fJ (by omega)]
 have e2:Y.drop (j+1)=gd Y (j+1)::Y.drop (j+2):=by rw [List.drop_eq_getElem_cons h,fJ h]
 conv=>lhs;rw [←List.take_append_drop j Y,e1,e2]
 rfl
theorem BH {Y:List Pl} {j:Nat} (h:j+1<Y.length):(swp Y j).Perm Y:=by
 conv=>rhs;rw [NT h]
 unfold swp
 exact List.Perm.append_left _ (List.Perm.swap _ _ _)
theorem Gj {Y:List Pl} {j:Nat} (h:j+1<Y.length):(swp Y j).length=Y.length:=(BH h).length_eq
theorem swp_get {Y:List Pl} {j:Nat} (h:j+1<Y.length) (i:Nat):gd (swp Y j) i=if i=j then gd Y (j+1) else if i=j+1 then gd Y j else gd Y i:=by
 have hl:(Y.take j).length=j:=by rw [List.length_take];omega
 unfold swp gd
 rw [List.nil_append]
 simp only [List.getD_eq_getElem?_getD]
 by_cases h1:i<j
 ·rw [List.getElem?_append_left (by omega),List.getElem?_take_of_lt h1,if_neg (by omega),if_neg (by omega)]
 rw [List.getElem?_append_right (by omega),hl]
 by_cases h2:i=j
 ·subst h2;rw [Nat.sub_self,if_pos rfl];rfl
 by_cases h3:i=j+1
 ·subst h3;rw [if_neg h2,if_pos rfl,show j+1 - j=1 by omega];rfl
 rw [if_neg h2,if_neg h3,show i - j=(i - j - 2)+2 by omega]
 simp only [List.getElem?_cons_succ]
 rw [List.getElem?_drop,show j+2+(i - j - 2)=i by omega]
theorem Jr {Y:List Pl} {j:Nat} (h:j+1<Y.length) (hl:dS (gd Y (j+1)) (gd Y j)) (hs:qc Y):qc (swp Y j):=fun p q hpq hq hk=>by
 rw [Gj h] at hq
 rw [swp_get h,swp_get h] at *
 by_cases p1:p=j
 ·by_cases q2:q=j+1
  ·rw [if_pos p1,if_neg (by omega),if_pos q2] at hk
   exact absurd hk (FC hl).1
  ·rw [if_pos p1,if_neg (by omega),if_neg q2] at *
   exact hs _ _ (by omega) hq hk
 rw [if_neg p1] at *
 by_cases p2:p=j+1
 ·rw [if_pos p2,if_neg (by omega),if_neg (by omega)] at *
  exact hs _ _ (by omega) hq hk
 rw [if_neg p2] at *
 by_cases q1:q=j
 ·rw [if_pos q1] at *
  exact hs _ _ (by omega) h hk
 rw [if_neg q1] at *
 by_cases q2:q=j+1
 ·rw [if_pos q2] at *
  exact hs _ _ (by omega) (by omega) hk
 rw [if_neg q2] at *
 exact hs _ _ hpq hq hk
def JW (Y:List Pl) (k j:Nat):Prop:=∀ p q,p<q→q≤k→q≠j→¬dS (gd Y q) (gd Y p)
theorem DX {Y:List Pl} {k j:Nat} (hk:k<Y.length) (hj:j+1≤k) (h:JW Y k (j+1)) (hl:dS (gd Y (j+1)) (gd Y j)):JW (swp Y j) k j:=fun p q hpq hq hne=>by
 have hb:j+1<Y.length:=by omega
 rw [swp_get hb,swp_get hb,if_neg hne]
 by_cases q2:q=j+1
 ·rw [if_pos q2]
  by_cases p1:p=j
  ·rw [if_pos p1];exact xP hl
  ·rw [if_neg p1,if_neg (by omega)]
   exact h _ _ (by omega) (by omega) (by omega)
 rw [if_neg q2]
 by_cases p1:p=j
 ·rw [if_pos p1];exact h _ _ (by omega) hq q2
 rw [if_neg p1]
 by_cases p2:p=j+1
 ·rw [if_pos p2];exact h _ _ (by omega) hq q2
 rw [if_neg p2];exact h _ _ hpq hq q2
theorem Iu {Y:List Pl} {k j:Nat} (hj:j≤k) (h:JW Y k j) (he:0<j→¬dS (gd Y j) (gd Y (j - 1))):∀ p q,p<q→q≤k→¬dS (gd Y q) (gd Y p):=fun p q hpq hq=>by
 by_cases e:q=j
 ·subst e
  by_cases e2:p=q - 1
  ·subst e2;exact he (by omega)
  ·exact gB (h p (q - 1) (by omega) (by omega) (by omega)) (he (by omega))
 ·exact h p q hpq hq e
theorem Ew {P Y Q:List Pl} {j:Nat} (h:j+1<Y.length):zU ((P++(Y++Q)).map Pl.av) ((P++(swp Y j++Q)).map Pl.av) (P.length+j) (P.length+(j+1)) (gd Y j) (gd Y (j+1)):=by
 refine Eu (A:=P++Y.take j) (B:=[]) (C:=Y.drop (j+2)++Q) ?_ ?_ ?_ ?_
 ·conv=>lhs;rw [NT h]
  simp
 ·unfold swp;simp
 ·simp;omega
 ·simp;omega
end Go.Fv.L
/- The stable sort of rails: what a merge does, in plain words. -/
namespace Go.Fv.L
open Go
theorem nI {Y:List Pl} {k:Nat} {y:Pl} (h:y∈Y.take k):∃ i,i<k∧i<Y.length∧y=gd Y i:=by
 obtain ⟨i,hi,e⟩:=List.getElem_of_mem h
 rw [List.length_take] at hi
 rw [List.getElem_take] at e
 exact ⟨i,by omega,by omega,by rw [fJ (by omega)];exact e.symm⟩
theorem nH {Y:List Pl} {k:Nat} {y:Pl} (h:y∈Y.drop k):∃ i,k≤i∧i<Y.length∧y=gd Y i:=by
 obtain ⟨i,hi,e⟩:=List.getElem_of_mem h
 rw [List.length_drop] at hi
 rw [List.getElem_drop] at e
 exact ⟨k+i,by omega,by omega,by rw [fJ (by omega)];exact e.symm⟩
theorem QW {x y:Pl} (h:dS x y):Hg x y=true:=nD.2 (.inl h)
theorem wJ {Y:List Pl} (h:Y.Pairwise fun x y=>Hg x y=true) (k:Nat):∀ x,x∈Y.take k→∀ y,y∈Y.drop k→Hg x y=true:=by
 have:=h
 rw [←List.take_append_drop k Y,List.pairwise_append] at this
 exact this.2.2
theorem yP {x:Pl} {V:List Pl} {k:Nat} (hV:o7 V) (hs:eF (x::V)) (h1:∀ i,i<k→i<V.length→dS (gd V i) x) (h2:∀ i,k≤i→i<V.length→¬dS (gd V i) x):V.take k++x::V.drop k=aO (x::V):=by
 obtain ⟨hx,hsV⟩:=List.pairwise_cons.1 hs
 have hle:=both_le hV hsV
 refine rJ ?_ (List.pairwise_append.2 ⟨hle.sublist (List.take_sublist _ _),List.pairwise_cons.2 ⟨fun y hy=>?_,hle.sublist (List.drop_sublist _ _)⟩,fun y hy z hz=>?_⟩)
 ·refine List.perm_middle.trans ?_
  rw [List.take_append_drop]
 ·obtain ⟨i,hi,hl,rfl⟩:=nH hy
  exact Fj (h2 i hi hl) (hx _ (List.mem_of_mem_drop hy))
 ·rcases List.mem_cons.1 hz with rfl|hz
  ·obtain ⟨i,hi,hl,rfl⟩:=nI hy
   exact QW (h1 i hi hl)
  ·exact wJ hle k y hy z hz
theorem Bc {y:Pl} {U:List Pl} {k:Nat} (hU:o7 U) (hs:eF (U++[y])) (h1:∀ i,i<k→i<U.length→¬dS y (gd U i)) (h2:∀ i,k≤i→i<U.length→dS y (gd U i)):U.take k++y::U.drop k=aO (U++[y]):=by
 obtain ⟨hsU,_,hx⟩:=List.pairwise_append.1 hs
 have hle:=both_le hU hsU
 refine rJ ?_ (List.pairwise_append.2 ⟨hle.sublist (List.take_sublist _ _),List.pairwise_cons.2 ⟨fun z hz=>?_,hle.sublist (List.drop_sublist _ _)⟩,fun z hz w hw=>?_⟩)
 ·refine List.perm_middle.trans ?_
  rw [List.take_append_drop]
  exact (List.perm_append_comm (l₁:=U) (l₂:=[y])).symm
 ·obtain ⟨i,hi,hl,rfl⟩:=nH hz
  exact QW (h2 i hi hl)
 ·rcases List.mem_cons.1 hw with rfl|hw
  ·obtain ⟨i,hi,hl,e⟩:=nI hz
   exact Fj (by rw [e];exact h1 i hi hl) (hx _ (List.mem_of_mem_take hz) _ List.mem_cons_self)
  ·exact wJ hle k z hz w hw
theorem OM {U1 U2 V1 V2:List Pl} (hU:o7 (U1++U2)) (hV:o7 (V1++V2)) (hs:eF ((U1++U2)++(V1++V2))) (h1:∀ u,u∈U1→∀ v,v∈V2→¬dS v u) (h2:∀ v,v∈V1→∀ u,u∈U2→dS v u) :
  aO (U1++V1)++aO (U2++V2)=aO ((U1++U2)++(V1++V2)):=by
 obtain ⟨hsU,hsV,hx⟩:=List.pairwise_append.1 hs
 have leU:=(List.pairwise_append.1 (both_le hU hsU)).2.2
 have leV:=(List.pairwise_append.1 (both_le hV hsV)).2.2
 refine rJ ?_ (List.pairwise_append.2 ⟨oO _,oO _,fun x hx1 y hy1=>?_⟩)
 ·refine ((dV _).append (dV _)).trans ?_
  rw [List.append_assoc,List.append_assoc]
  refine List.Perm.append_left _ ?_
  rw [←List.append_assoc,←List.append_assoc]
  exact List.Perm.append_right _ List.perm_append_comm
 ·have hx1:=(dV _).mem_iff.1 hx1
  have hy1:=(dV _).mem_iff.1 hy1
  rcases List.mem_append.1 hx1 with hx1|hx1<;>rcases List.mem_append.1 hy1 with hy1|hy1
  ·exact leU _ hx1 _ hy1
  ·exact Fj (h1 _ hx1 _ hy1) (hx _ (List.mem_append_left _ hx1) _ (List.mem_append_right _ hy1))
  ·exact QW (h2 _ hx1 _ hy1)
  ·exact leV _ hx1 _ hy1
theorem eX {Y:List Pl} (h:o7 Y) {i j:Nat} (hij:i≤j) (hj:j<Y.length):¬dS (gd Y j) (gd Y i):=by
 by_cases e:i=j
 ·subst e;exact KJ _
 ·exact UE h i j (by omega) hj
theorem VU {x y z w:Pl} (h1:¬dS y x) (h2:dS y z) (h3:¬dS w z):dS x w:=by unfold dS at *;omega
structure N8 (U V:List Pl) (s e:Nat):Prop where
 hs:s≤U.length
 he:e≤V.length
 a:0<s→e<V.length→¬dS (gd V e) (gd U (s - 1))
 b:s<U.length→0<e→dS (gd V (e - 1)) (gd U s)
theorem N8.merge {U V:List Pl} {s e:Nat} (c:N8 U V s e) (hU:o7 U) (hV:o7 V) (hst:eF (U++V)):aO (U.take s++V.take e)++aO (U.drop s++V.drop e)=aO (U++V):=by
 have e1:=List.take_append_drop s U
 have e2:=List.take_append_drop e V
 have:=OM (U1:=U.take s) (U2:=U.drop s) (V1:=V.take e) (V2:=V.drop e) (by rw [e1];exact hU) (by rw [e2];exact hV) (by rw [e1,e2];exact hst) (fun u hu v hv=>?_) (fun v hv u hu=>?_)
 ·rw [this,e1,e2]
 ·obtain ⟨i,hi,hil,rfl⟩:=nI hu
  obtain ⟨j,hj,hjl,rfl⟩:=nH hv
  have h0:=c.a (by omega) (by omega)
  have hs:=c.hs
  exact gB (gB (eX hU (i:=i) (j:=s - 1) (by omega) (by omega)) h0) (eX hV hj hjl)
 ·obtain ⟨j,hj,hjl,rfl⟩:=nI hv
  obtain ⟨i,hi,hil,rfl⟩:=nH hu
  have h0:=c.b (by omega) (by omega)
  have he:=c.he
  exact VU (eX hV (i:=j) (j:=e - 1) (by omega) (by omega)) h0 (eX hU hi hil)
theorem o7.take {Y:List Pl} (h:o7 Y) (k:Nat):o7 (Y.take k):=List.Pairwise.sublist (List.take_sublist _ _) h
theorem o7.drop {Y:List Pl} (h:o7 Y) (k:Nat):o7 (Y.drop k):=List.Pairwise.sublist (List.drop_sublist _ _) h
theorem BF {U V:List Pl} (h:eF (U++V)) (s e:Nat):eF (U.take s++V.take e):=List.Pairwise.sublist ((List.take_sublist _ _).append (List.take_sublist _ _)) h
theorem BD {U V:List Pl} (h:eF (U++V)) (s e:Nat):eF (U.drop s++V.drop e):=List.Pairwise.sublist ((List.drop_sublist _ _).append (List.drop_sublist _ _)) h
theorem lD {P:List Pl} (R:List Pl) {U:List Pl} {i k:Nat} (hk:k=P.length+i) (hi:i<U.length):gd (P++(U++R)) k=gd U i:=by
 subst hk
 unfold gd
 rw [List.getD_eq_getElem?_getD,List.getElem?_append_right (by omega),Nat.add_sub_cancel_left,List.getElem?_append_left hi,←List.getD_eq_getElem?_getD]
theorem jY {P U:List Pl} (Q:List Pl) {V:List Pl} {i k:Nat} (hk:k=P.length+U.length+i) (hi:i<V.length):gd (P++(U++(V++Q))) k=gd V i:=by
 rw [←List.append_assoc]
 exact lD (P:=P++U) Q (by rw [List.length_append];exact hk) hi
end Go.Fv.L
/- A list whose blocks are ordered. -/
namespace Go.Fv.L
open Go
def TB:Nat→Nat→List Pl→List Pl
 | 0,_,l=>aO l
 | f+1,n,l=>if l.length≤n then aO l else aO (l.take n)++TB f n (l.drop n)
def cs (n:Nat) (l:List Pl):List Pl:=TB l.length n l
theorem H9 {n:Nat} (hn:0<n):∀ (f g:Nat) (l:List Pl),l.length≤f→l.length≤g→TB f n l=TB g n l
 | 0,0,_,_,_=>rfl
 | 0,g+1,l,h,_=>by
  have:l=[]:=List.eq_nil_of_length_eq_zero (by omega)
  subst this
  show aO []=if _ then _ else _
  rw [if_pos (by simp)]
 | f+1,0,l,_,h=>by
  have:l=[]:=List.eq_nil_of_length_eq_zero (by omega)
  subst this
  show (if _ then _ else _)=aO []
  rw [if_pos (by simp)]
 | f+1,g+1,l,h1,h2=>by
  unfold TB
  by_cases h:l.length≤n
  ·rw [if_pos h,if_pos h]
  ·rw [if_neg h,if_neg h,H9 hn f g (l.drop n) (by rw [List.length_drop];omega) (by rw [List.length_drop];omega)]
theorem fH {n:Nat} {l:List Pl} (h:l.length≤n):cs n l=aO l:=by
 unfold cs
 cases hl:l.length with
 | zero=>rfl
 | succ k=>
  unfold TB
  rw [if_pos h]
theorem vI {n:Nat} (hn:0<n) {l:List Pl} (h:n<l.length):cs n l=aO (l.take n)++cs n (l.drop n):=by
 unfold cs
 obtain ⟨k,hk⟩:∃ k,l.length=k+1:=⟨l.length - 1,by omega⟩
 rw [hk]
 conv=>lhs;unfold TB
 rw [if_neg (by omega),H9 hn k (l.drop n).length (l.drop n) (by rw [List.length_drop];omega) (Nat.le_refl _)]
theorem Pn:aO []=[]:=List.eq_nil_of_length_eq_zero (by rw [dB];rfl)
theorem qJ (n:Nat):cs n []=[]:=by rw [fH (by simp),Pn]
theorem J7 {n:Nat} (hn:0<n):∀ (m:Nat) (A B:List Pl),A.length=m*n→cs n (A++B)=cs n A++cs n B
 | 0,A,B,h=>by
  have:A=[]:=List.eq_nil_of_length_eq_zero (by simpa using h)
  subst this
  rw [qJ];rfl
 | m+1,A,B,h=>by
  rw [Nat.succ_mul] at h
  have ih:=J7 hn m (A.drop n) B (by rw [List.length_drop];omega)
  have ht:(A++B).take n=A.take n:=List.take_append_of_le_length (by omega)
  have hd:(A++B).drop n=A.drop n++B:=List.drop_append_of_le_length (by omega)
  by_cases hAB:n<(A++B).length
  ·rw [vI hn hAB,ht,hd,ih]
   by_cases hA:n<A.length
   ·rw [vI hn hA,List.append_assoc]
   ·have e:A.drop n=[]:=List.drop_eq_nil_of_le (by omega)
    rw [e,qJ,List.nil_append,List.take_of_length_le (by omega),fH (l:=A) (by omega)]
  ·have hB:B=[]:=List.eq_nil_of_length_eq_zero (by rw [List.length_append] at hAB;omega)
   subst hB
   rw [qJ,List.append_nil,List.append_nil]
theorem MC (n:Nat):∀ (f:Nat) (l:List Pl),(TB f n l).length=l.length
 | 0,l=>dB l
 | f+1,l=>by
  unfold TB
  split
  ·exact dB l
  ·rw [List.length_append,dB,MC n f,List.length_take,List.length_drop];omega
theorem xA (n:Nat) (l:List Pl):(cs n l).length=l.length:=MC n _ l
theorem nK {A B:List Pl}:aO (aO A++aO B)=aO (A++B):=
 rJ ((dV _).trans ((dV A).append (dV B))) (oO _)
theorem pU {A B:List Pl} (h:eF (A++B)):eF (aO A++aO B):=by
 obtain ⟨h1,h2,h3⟩:=List.pairwise_append.1 h
 exact List.pairwise_append.2 ⟨Ep h1,Ep h2,fun x hx y hy=>h3 x ((dV A).mem_iff.1 hx) y ((dV B).mem_iff.1 hy)⟩
theorem eF.sub {l m:List Pl} (h:eF l) (hs:m.Sublist l):eF m:=List.Pairwise.sublist hs h
theorem zn {n:Nat} (hn:0<n) {l:List Pl} {a m:Nat} (ha:a=m*n) (hl:a≤l.length):cs n (l.take a)++cs n (l.drop a)=cs n l:=by
 rw [←J7 hn m _ _ (by rw [List.length_take];omega),List.take_append_drop]
theorem zl {n:Nat} (hn:0<n) {l:List Pl} {a m:Nat} (ha:a=m*n) (hl:a+n≤l.length):cs n (l.take (a+n))=cs n (l.take a)++aO ((l.drop a).take n):=by
 rw [List.take_add,J7 hn m _ _ (by rw [List.length_take];omega),fH (l:=(l.drop a).take n) (by rw [List.length_take];omega)]
theorem Qj {n:Nat} (hn:0<n) {l:List Pl} (h1:n<l.length) (h2:l.length≤2*n):cs n l=aO (l.take n)++aO (l.drop n):=by
 rw [vI hn h1,fH (l:=l.drop n) (by rw [List.length_drop];omega)]
theorem yC {n:Nat} (hn:0<n) {l:List Pl} (h:2*n≤l.length):cs n l=aO (l.take n)++aO ((l.drop n).take n)++cs n (l.drop (2*n)):=by
 rw [vI hn (by omega)]
 have e:l.drop (2*n)=(l.drop n).drop n:=by rw [List.drop_drop];congr 1;omega
 rw [e]
 by_cases hx:n<(l.drop n).length
 ·rw [vI hn hx,List.append_assoc]
 ·have h3:(l.drop n).length≤n:=by omega
  rw [fH h3,List.take_of_length_le h3,List.drop_eq_nil_of_le h3,qJ,List.append_nil]
end Go.Fv.L
/- The rails of a page, in plain words. -/
namespace Go.Fv.L
open Go Go.Proofs
def nV (p:List Bool) (w:Nat) (y x:Nat):Bool:=p.getD (y*w+x) false
def isC (p:List Bool) (w:Nat) (x y:Nat):Bool:=p.getD (y*w+x) false
def nZ (p:List Bool) (w h least:Nat):List Rn:=runs (nV p w) h w least
def nY (p:List Bool) (w h least:Nat):List Rn:=runs (isC p w) w h least
def jr (a b:List (List Rn)):List Pl:=oL false 0 a++oL true a.length b
theorem xR (a b:List (List Rn)):(jr a b).length=a.length+b.length:=by
 unfold jr
 rw [List.length_append,jS,jS]
theorem Bh (d:Bool):∀ (gs:List (List Rn)) (i k:Nat) (h:k<(oL d i gs).length),∃ r,((oL d i gs)[k]).t=((i+k:Nat):Int)::r
 | [],i,k,h=>by simp [oL] at h
 | g::gs,i,0,h=>⟨_,rfl⟩
 | g::gs,i,k+1,h=>by
  simp only [oL,List.getElem_cons_succ]
  have:=Bh d gs (i+1) k (by simpa [oL] using h)
  rw [show i+1+k=i+(k+1) by omega] at this
  exact this
theorem Bg (a b:List (List Rn)):eF (jr a b):=by
 have hh:∀ k (h:k<(jr a b).length),∃ r,((jr a b)[k]).t=(k:Int)::r:=fun k h=>by
  unfold jr at h ⊢
  by_cases hk:k<(oL false 0 a).length
  ·rw [List.getElem_append_left hk]
   have:=Bh false a 0 k hk
   rwa [Nat.zero_add] at this
  ·rw [List.getElem_append_right (by omega)]
   have e:=jS false a 0
   have:=Bh true b a.length (k - (oL false 0 a).length) (by rw [List.length_append] at h;omega)
   rwa [show a.length+(k - (oL false 0 a).length)=k by omega] at this
 refine List.pairwise_iff_getElem.2 fun p q hp hq hpq _=>?_
 obtain ⟨r,hr⟩:=hh p hp
 obtain ⟨s,hs⟩:=hh q hq
 rw [hr,hs]
 exact List.cons_lt_cons_iff.2 (.inl (by omega))
def uP (x:Pl):List AV:=[.int .i64 x.a1,.int .i64 x.a2,.int .i64 x.a3,.int .i64 x.a4,.bool x.dn]
instance:pY uP:=⟨fun _=>rfl⟩
abbrev rls (l:List Pl):aF:=.objs 5 (l.map uP)
theorem Nv (l:List Pl) {i:Nat} (h:i<l.length):(l.map Pl.av).getD i []=[.int .i64 (l.getD i Pl.zero).a1,.int .i64 (l.getD i Pl.zero).a2,.int .i64 (l.getD i Pl.zero).a3,.int .i64 (l.getD i Pl.zero).a4,.bool (l.getD i Pl.zero).dn,.int .i64 (l.getD i Pl.zero).c,.int .i64 (l.getD i Pl.zero).d]:=fA l h
theorem Jc (l:List Pl) {i:Nat} (h:i<l.length):(l.take (i+1)).map uP=(l.take i).map uP++[uP (l.getD i Pl.zero)]:=by
 rw [List.take_succ_eq_append_getElem h,List.map_append,getD_lt h];rfl
theorem Vf {p:List Bool} {w h least:Nat} (hw:w≤1000) (hh:h≤1000):∀ r,r∈nZ p w h least→zi r:=fun r hr=>by
 have:=kE hr
 unfold zi;omega
theorem Ve {p:List Bool} {w h least:Nat} (hw:w≤1000) (hh:h≤1000):∀ r,r∈nY p w h least→zi r:=fun r hr=>by
 have:=kE hr
 unfold zi;omega
end Go.Fv.L
/- The reference's Hull: the walk. -/
namespace Go.Fv.L
open Go Go.Proofs
def LW (b:Bx):Prop:=-1000000000≤b.x∧b.x≤1000000000∧-1000000000≤b.y∧b.y≤1000000000∧-1000000000≤b.x+b.w∧b.x+b.w≤1000000000∧-1000000000≤b.y+b.h∧b.y+b.h≤1000000000
theorem QG {a b:Bx} (ha:LW a) (hb:LW b):LW (cu a b):=by
 unfold LW cu at *
 dsimp only
 omega
theorem Ip:∀ (l:List Bx) (a:Bx),LW a→(∀ b,b∈l→LW b)→LW (l.foldl cu a)
 | [],a,ha,_=>ha
 | b::l,a,ha,h=>Ip l (cu a b) (QG ha (h b List.mem_cons_self)) fun c hc=>h c (List.mem_cons_of_mem _ hc)
theorem Tt {l:List Bx} {k:Nat} (h:k<l.length):l.take (k+1)=l.take k++[l.getD k Bx.zero]:=by
 rw [List.take_succ_eq_append_getElem h,getD_lt h]
theorem Qe {l:List Bx} {k:Nat} (h:k<l.length):l.getD k Bx.zero∈l:=by rw [getD_lt h];exact List.getElem_mem h
set_option maxHeartbeats 4000000 in
theorem Bl (l:List Bx) (h0:0<l.length) (hb:∀ b,b∈l→LW b) :
  aU Tryd.prog 51 [.ro (SI l)] (.agg (kT l).av) []:=by
 have hB:∀ k,LW ((l.take k).foldl cu (l.getD 0 Bx.zero)):=fun k=>Ip _ _ (hb _ (Qe h0)) fun b hm=>hb b (List.mem_of_mem_take hm)
 have he0:=Mc l h0
 refine aU.aY Tryd.func51 rfl (by decide) (by simp [Tryd.f51]) [.cell 2 33] rfl fun w0 T0 _=>?_
 simp only [Tryd.f51,aK]
 (repeat' with_reducible first|intro _|refine rz ?_|refine ra ?_ ?_|omega|simp only [go_sem,List.length_map,aN,he0,Int.toNat_zero])
 refine aJ.intro (fun k:Nat=>⟨58,[(13,.int .i64 k),(12,.int .i64 l.length),(11,.ro (SI l)),(3,.ptr 1 0),(2,.ptr 0 0)],[(0,.box 33 [.int .i64 0,.int .i64 0,.int .i64 0,.int .i64 0]),(1,.box 33 ((l.take k).foldl cu (l.getD 0 Bx.zero)).av)],2⟩) (fun k=>k≤l.length) (fun k=>l.length - k) 0 ?_ (Nat.zero_le _) fun k hk=>?_
 ·refine aS.aB rfl ?_ ?_<;>simp only [go_sem,Int.natCast_succ,List.foldl_nil,Bx.av]
 have hBk:=hB k
 by_cases hlt:k<l.length
 ·have he:=Mc l hlt
  have hbk:=hb _ (Qe hlt)
  have hts:(l.take (k+1)).foldl cu (l.getD 0 Bx.zero)=cu ((l.take k).foldl cu (l.getD 0 Bx.zero)) (l.getD k Bx.zero):=by
   rw [Tt hlt,List.foldl_append];rfl
  generalize (l.take k).foldl cu (l.getD 0 Bx.zero)=A at *
  generalize l.getD k Bx.zero=B at *
  unfold LW at hBk hbk
  unfold Bx.av
  (repeat' with_reducible first|intro _|refine rz ?_|refine ra ?_ ?_|omega|simp only [go_sem,List.length_map,aN,he,Int.toNat_natCast])
  refine aP.lex [] [] (by kernel_rfl) (by kernel_rfl) ?_
  (repeat' with_reducible first|intro _|refine rz ?_|refine ra ?_ ?_|omega|simp only [go_sem,FH])
  refine ⟨k+1,aS.aB rfl ?_ ?_,by omega,by omega⟩<;>simp only [go_sem,Int.natCast_succ,hts,cu]
 ·have e:k=l.length:=by omega
  subst e
  rw [List.take_length]
  have eh:l.foldl cu (l.getD 0 Bx.zero)=kT l:=rfl
  rw [eh]
  generalize kT l=A at *
  unfold Bx.av
  (repeat' with_reducible first|intro _|exact dn|refine rn ?_|refine ra ?_ ?_)
  refine eP.auto 0 ?_ rfl ?_<;>simp only [go_sem,Int.natCast_succ,Post]
end Go.Fv.L
/- A drawn region in which two operations that change the state may stand in either order: each order is walked. -/
namespace Go.Fv.L
open Go Go.Fv Go.RowKit
def J3 (a b:Nat):List Nat→Bool
 | []=>true
 | x::l=>if x=b then false else if x=a then true else J3 a b l
theorem ER {a b:Nat} (h:a≠b):∀ l,J3 a b l=true∨J3 b a l=true
 | []=>.inl rfl
 | x::l=>by
  unfold J3
  by_cases h1:x=b
  ·rw [if_pos h1]
   right
   rw [if_neg (by omega),if_pos h1]
  ·rw [if_neg h1]
   by_cases h2:x=a
   ·rw [if_pos h2];exact .inl rfl
   ·rw [if_neg h2,if_neg h2,if_neg h1];exact ER h l
structure Turned (ops ops':Array Oper) (σ:Nat→Nat) (a b:Nat):Prop where
 size:ops'.size=ops.size
 lt:∀ i,i<ops.size→σ i<ops.size
 inj:∀ i j,i<ops.size→j<ops.size→σ i=σ j→i=j
 sur:∀ j,j<ops.size→∃ i,i<ops.size∧σ i=j
 op:∀ (i:Nat) (o:Oper),ops[i]?=some o→o.guard=none∧∃ x,ops'[σ i]?=some { o with after:=x }∧∀ L L':Array Bool,(∀ j,L'.getD (σ j) false=L.getD j false) →
  (x.all fun e=>!Region.binds .any e || L'.getD e.on false)=((o.after.all fun e=>!Region.binds .any e || L.getD e.on false) && (i != b || L.getD a false))
def Like (ops:Array Oper) (σ:Nat→Nat) (L L':Array Bool):Prop:=L.size=ops.size∧L'.size=ops.size∧∀ j,L'.getD (σ j) false=L.getD j false
theorem MR {L:Array Bool} {i:Nat} (h:i<L.size):L.getD i true=L.getD i false:=by simp [Array.getD,h]
theorem mem_ready {ops:Array Oper} {L:Array Bool} (hL:L.size=ops.size) {i:Nat}:i∈Region.ready .any ops L↔L.getD i false=false∧∃ o,ops[i]?=some o∧(o.after.all fun e=>!Region.binds .any e || L.getD e.on false)=true:=by
 unfold Region.ready
 rw [List.mem_filter,List.mem_range]
 constructor
 ·rintro ⟨h1,h2⟩
  rw [Bool.and_eq_true] at h2
  obtain ⟨h2,h3⟩:=h2
  rw [MR (by omega)] at h2
  refine ⟨by simpa using h2,ops[i],by simp [h1],?_⟩
  simpa [h1] using h3
 ·rintro ⟨h1,o,h2,h3⟩
  have hlt:=(Array.getElem?_eq_some_iff.1 h2).1
  refine ⟨hlt,?_⟩
  rw [Bool.and_eq_true,MR (by omega),h1,h2]
  exact ⟨rfl,h3⟩
theorem Turned.ready {ops ops':Array Oper} {σ:Nat→Nat} {a b:Nat} (h:Turned ops ops' σ a b) {L L':Array Bool} (hr:Like ops σ L L') {i:Nat} (hi:i<ops.size) :
  σ i∈Region.ready .any ops' L'↔i∈Region.ready .any ops L∧(i=b→L.getD a false=true):=by
 obtain ⟨h1,h2,h3⟩:=hr
 rw [mem_ready (by rw [h.size];exact h2),mem_ready h1,h3]
 obtain ⟨_,x,hx,hall⟩:=h.op i ops[i] (by simp [hi])
 have hall:=hall L L' h3
 constructor
 ·rintro ⟨k1,o',k2,k3⟩
  rw [hx] at k2;cases k2
  dsimp only at k3
  rw [hall,Bool.and_eq_true] at k3
  refine ⟨⟨k1,_,by simp [hi],k3.1⟩,fun e=>?_⟩
  have:=k3.2
  rw [e] at this
  simpa using this
 ·rintro ⟨⟨k1,o,k2,k3⟩,k4⟩
  have:o=ops[i]:=by simpa [hi] using k2.symm
  subst this
  refine ⟨k1,_,hx,?_⟩
  dsimp only
  rw [hall,k3,Bool.true_and,Bool.or_eq_true]
  by_cases e:i=b
  ·exact .inr (k4 e)
  ·exact .inl (by simpa using e)
theorem Like.set {ops:Array Oper} {σ:Nat→Nat} {L L':Array Bool} (hr:Like ops σ L L') (hinj:∀ i j,i<ops.size→j<ops.size→σ i=σ j→i=j) (hlt:∀ i,i<ops.size→σ i<ops.size) (hout:∀ j,ops.size≤j→ops.size≤σ j) {i:Nat} (hi:i<ops.size):Like ops σ (L.setIfInBounds i true) (L'.setIfInBounds (σ i) true):=by
 obtain ⟨h1,h2,h3⟩:=hr
 have g:∀ (A:Array Bool) (p q:Nat),p<A.size→(A.setIfInBounds p true).getD q false=if p=q then true else A.getD q false:=fun A p q hp=>by
  by_cases e:p=q
  ·subst e;rw [if_pos rfl];simp [Array.getD,hp]
  ·rw [if_neg e]
   simp only [Array.getD_eq_getD_getElem?,Array.getElem?_setIfInBounds,if_neg e]
 refine ⟨by simpa using h1,by simpa using h2,fun j=>?_⟩
 rw [g _ _ _ (by rw [h2];exact hlt i hi),g _ _ _ (by rw [h1];exact hi)]
 by_cases e:i=j
 ·rw [if_pos e,if_pos (by rw [e])]
 ·rw [if_neg e,h3]
  by_cases hj:j<ops.size
  ·rw [if_neg fun k=>e (hinj i j hi hj k)]
  ·rw [if_neg fun k=>by have:=hlt i hi;have:=hout j (by omega);omega]
theorem Ci {P:Program} {ops ops':Array Oper} {Q:Exit→Act→World→Prop} {i j:Nat} {o:Oper} {x:Array Edge} (h1:ops[i]?=some o) (h2:ops'[j]?=some { o with after:=x }) (hg:o.guard=none) {K:Act→World→Prop} {a:Act} {w:World} (h:wpOp P ops' Q j K a w):wpOp P ops Q i K a w:=by
 unfold wpOp at *
 rw [h1]
 rw [h2] at h
 dsimp only at *
 have w1:∀ y,Region.wanted o y=true:=fun y=>by simp [Region.wanted,hg]
 have w2:∀ y,Region.wanted { o with after:=x } y=true:=fun y=>by simp [Region.wanted,hg]
 rw [w1,if_pos rfl]
 rw [w2,if_pos rfl] at h
 exact h
theorem yV {P:Program} {ops ops':Array Oper} {σ:Nat→Nat} {a b:Nat} (h:Turned ops ops' σ a b) (hab:a≠b) (ha:a<ops.size) (hout:∀ j,ops.size≤j→ops.size≤σ j) {Q:Exit→Act→World→Prop}:∀ (fuel t:Nat) (L L':Array Bool) (act:Act) (w:World),Like ops σ L L' →
  (L.getD a false=true∨J3 a b (Region.linearise.go .any ops fuel t L [])=true)→wpAny P .any ops' Q fuel L' act w→wpOps P ops Q (Region.linearise.go .any ops fuel t L []) act w:=by
 intro fuel
 induction fuel with
 | zero=>intro t L L' act w hr hb hw;simpa [Region.linearise.go,wpOps] using hw.2
 | succ fuel ih=>
  intro t L L' act w hr hb hw
  obtain ⟨h₀,h₁⟩:=hw
  simp only [Region.linearise.go] at hb ⊢
  change wpOps P ops Q (match (Region.ready .any ops L)[t%(Region.ready .any ops L).length]? with
   | some i=>Region.linearise.go .any ops fuel (t / (Region.ready .any ops L).length) (L.setIfInBounds i true) [i]
   | none=>[].reverse) act w
  change _∨J3 a b (match (Region.ready .any ops L)[t%(Region.ready .any ops L).length]? with
   | some i=>Region.linearise.go .any ops fuel (t / (Region.ready .any ops L).length) (L.setIfInBounds i true) [i]
   | none=>[].reverse)=true at hb
  cases hi:(Region.ready .any ops L)[t%(Region.ready .any ops L).length]? with
  | none=>
   have hnil:Region.ready .any ops L=[]:=by
    cases hrr:Region.ready .any ops L with
    | nil=>rfl
    | cons x xs=>
     rw [hrr] at hi
     have hlt:t%(x::xs).length<(x::xs).length:=Nat.mod_lt _ (by simp)
     simp at hi
     simp at hlt
     omega
   have hnil':Region.ready .any ops' L'=[]:=by
    rw [List.eq_nil_iff_forall_not_mem]
    intro j hj
    have hjl:j<ops.size:=by
     obtain ⟨_,o,ho,_⟩:=(mem_ready (by rw [h.size];exact hr.2.1)).1 hj
     have:=(Array.getElem?_eq_some_iff.1 ho).1
     rw [h.size] at this;exact this
    obtain ⟨i,hil,rfl⟩:=h.sur j hjl
    have:=((h.ready hr hil).1 hj).1
    rw [hnil] at this;cases this
   simpa [wpOps] using h₀ hnil'
  | some i=>
   rw [hi] at hb
   simp only [] at hb ⊢
   rw [linearise_go_acc,List.reverse_singleton,List.singleton_append] at hb ⊢
   have him:=List.mem_of_getElem? hi
   have hil:i<ops.size:=by
    obtain ⟨_,o,ho,_⟩:=(mem_ready hr.1).1 him
    exact (Array.getElem?_eq_some_iff.1 ho).1
   have hib:i=b→L.getD a false=true:=fun e=>by
    rcases hb with hb|hb
    ·exact hb
    ·unfold J3 at hb;rw [if_pos e] at hb;cases hb
   have hr':=hr.set h.inj h.lt hout hil
   have hnext:(L.setIfInBounds i true).getD a false=true∨J3 a b (Region.linearise.go .any ops fuel (t / (Region.ready .any ops L).length) (L.setIfInBounds i true) [])=true:=by
    have g:(L.setIfInBounds i true).getD a false=if i=a then true else L.getD a false:=by
     by_cases e:i=a
     ·subst e;rw [if_pos rfl];simp [Array.getD,hr.1,hil]
     ·rw [if_neg e]
      simp only [Array.getD_eq_getD_getElem?,Array.getElem?_setIfInBounds,if_neg e]
    rcases hb with hb|hb
    ·left;rw [g,hb];split<;>rfl
    ·unfold J3 at hb
     by_cases e1:i=b
     ·rw [if_pos e1] at hb;cases hb
     ·rw [if_neg e1] at hb
      by_cases e2:i=a
      ·left;rw [g,if_pos e2]
      ·rw [if_neg e2] at hb;exact .inr hb
   rw [wpOps_cons]
   obtain ⟨hg,x,hx,_⟩:=h.op i ops[i] (by simp [hil])
   refine Ci (o:=ops[i]) (by simp [hil]) hx hg (wpOp_mono (fun act w hw=>ih _ _ _ act w hr' hnext hw) (h₁ (σ i) ((h.ready hr hil).2 ⟨him,hib⟩)))
/-! ### The two rows of operations -/
def o9 (e:Edge):Nat→List Oper→List Oper
 | _,[]=>[]
 | 0,o::l=>{ o with after:=o.after.push e }::l
 | n+1,o::l=>o::o9 e n l
def y7:Nat→List Oper→List Oper
 | 0,x::y::l=>y::x::l
 | n+1,x::l=>x::y7 n l
 | _,l=>l
def wZ (k i:Nat):Nat:=if i=k then k+1 else if i=k+1 then k else i
def PE (k:Nat) (o:Oper):Oper:={ o with after:=o.after.map fun e=>{ e with on:=wZ k e.on } }
def sW (k:Nat) (ops:Array Oper):List Oper:=o9 ⟨k,.data⟩ (k+1) ops.toList
def sZ (k:Nat) (ops:Array Oper):List Oper:=o9 ⟨k,.data⟩ (k+1) (y7 k (ops.toList.map (PE k)))
theorem zX (e:Edge):∀ (n:Nat) (l:List Oper),(o9 e n l).length=l.length
 | _,[]=>by cases ‹Nat›<;>rfl
 | 0,o::l=>rfl
 | n+1,o::l=>by simp only [o9,List.length_cons,zX e n l]
theorem qF (e:Edge):∀ (n:Nat) (l:List Oper) (i:Nat),(o9 e n l)[i]?=if i=n then (l[i]?).map fun o=>{ o with after:=o.after.push e } else l[i]?
 | n,[],i=>by cases n<;>simp [o9]
 | 0,o::l,0=>by simp [o9]
 | 0,o::l,i+1=>by simp [o9]
 | n+1,o::l,0=>by simp [o9]
 | n+1,o::l,i+1=>by simp only [o9,List.getElem?_cons_succ,qF e n l i];simp
theorem BG:∀ (n:Nat) (l:List Oper),(y7 n l).length=l.length
 | 0,[]=>rfl
 | 0,[x]=>rfl
 | 0,x::y::l=>rfl
 | n+1,[]=>rfl
 | n+1,x::l=>by simp only [y7,List.length_cons,BG n l]
theorem RI (k i:Nat):wZ (k+1) (i+1)=wZ k i+1:=by
 unfold wZ;split<;>split<;>(try split)<;>(try split)<;>omega
theorem Jq:∀ (k:Nat) (l:List Oper) (i:Nat),k+1<l.length→(y7 k l)[wZ k i]?=l[i]?
 | 0,x::y::l,0,_=>rfl
 | 0,x::y::l,1,_=>rfl
 | 0,x::y::l,i+2,_=>by
  have:wZ 0 (i+2)=i+2:=by unfold wZ;rw [if_neg (by omega),if_neg (by omega)]
  rw [this];rfl
 | k+1,x::l,0,_=>by
  have:wZ (k+1) 0=0:=by unfold wZ;rw [if_neg (by omega),if_neg (by omega)]
  rw [this];rfl
 | k+1,x::l,i+1,h=>by
  rw [RI]
  simp only [y7,List.getElem?_cons_succ]
  exact Jq k l i (by simpa using h)
 | 0,[],_,h=>by simp at h
 | 0,[x],_,h=>by simp at h
 | k+1,[],_,h=>by simp at h
theorem zH (k i:Nat):wZ k (wZ k i)=i:=by
 unfold wZ;split<;>(try split)<;>(try split)<;>(try split)<;>omega
theorem uz (k:Nat):Region.binds .any ⟨k,.data⟩=true:=rfl
theorem UH {ops:Array Oper} {k:Nat} (hk:k+1<ops.size) (hg:∀ (i:Nat) (o:Oper),ops[i]?=some o→o.guard=none):Turned ops (sW k ops).toArray (fun i=>i) k (k+1):=by
 refine ⟨by simp [sW,zX],fun i h=>h,fun i j _ _ h=>h,fun j h=>⟨j,h,rfl⟩,fun i o ho=>⟨hg i o ho,?_⟩⟩
 have ho':ops.toList[i]?=some o:=by simpa using ho
 by_cases e:i=k+1
 ·refine ⟨o.after.push ⟨k,.data⟩,?_,fun L L' hL=>?_⟩
  ·simp only [sW,List.getElem?_toArray]
   rw [qF,if_pos e,ho'];rfl
  ·rw [Array.all_push,uz]
   simp only [hL,Bool.not_true,Bool.false_or]
   rw [e];simp
 ·refine ⟨o.after,?_,fun L L' hL=>?_⟩
  ·simp only [sW,List.getElem?_toArray]
   rw [qF,if_neg e,ho']
  ·simp only [hL]
   have:(i != k+1)=true:=by simpa using e
   rw [this,Bool.true_or,Bool.and_true]
theorem UJ {ops:Array Oper} {k:Nat} (hk:k+1<ops.size) (hg:∀ (i:Nat) (o:Oper),ops[i]?=some o→o.guard=none):Turned ops (sZ k ops).toArray (wZ k) (k+1) k:=by
 have hlen:(y7 k (ops.toList.map (PE k))).length=ops.size:=by rw [BG];simp
 refine ⟨by simp [sZ,zX,BG],fun i h=>?_,fun i j _ _ h=>?_,fun j h=>⟨wZ k j,?_,zH k j⟩,fun i o ho=>⟨hg i o ho,?_⟩⟩
 ·unfold wZ;split<;>(try split)<;>omega
 ·have:=congrArg (wZ k) h;rwa [zH,zH] at this
 ·unfold wZ;split<;>(try split)<;>omega
 have ho':ops.toList[i]?=some o:=by simpa using ho
 have hsw:(y7 k (ops.toList.map (PE k)))[wZ k i]?=some (PE k o):=by
  rw [Jq k _ i (by simpa using hk),List.getElem?_map,ho'];rfl
 have hmap:∀ L L':Array Bool,(∀ j,L'.getD (wZ k j) false=L.getD j false)→((PE k o).after.all fun e=>!Region.binds .any e || L'.getD e.on false)=o.after.all fun e=>!Region.binds .any e || L.getD e.on false:=fun L L' hL=>by
  unfold PE
  rw [Array.all_map]
  congr 1
  funext e
  show (!Region.binds .any _ || L'.getD (wZ k e.on) false)=_
  rw [hL]
  rfl
 by_cases e:i=k
 ·have er:wZ k i=k+1:=by unfold wZ;rw [if_pos e]
  refine ⟨(PE k o).after.push ⟨k,.data⟩,?_,fun L L' hL=>?_⟩
  ·simp only [sZ,List.getElem?_toArray]
   rw [qF,if_pos er,hsw];rfl
  ·rw [Array.all_push,uz,hmap L L' hL]
   have h1:L'.getD k false=L.getD (k+1) false:=by
    have:=hL (k+1)
    rwa [show wZ k (k+1)=k by unfold wZ;rw [if_neg (by omega),if_pos rfl]] at this
   simp only [h1,Bool.not_true,Bool.false_or]
   rw [e];simp
 ·have er:wZ k i≠k+1:=fun h=>e (by
   have:=congrArg (wZ k) h
   rw [zH] at this
   rw [this];unfold wZ;rw [if_neg (by omega),if_pos rfl])
  refine ⟨(PE k o).after,?_,fun L L' hL=>?_⟩
  ·simp only [sZ,List.getElem?_toArray]
   rw [qF,if_neg er,hsw];rfl
  ·rw [hmap L L' hL]
   have:(i != k)=true:=by simpa using e
   rw [this,Bool.true_or,Bool.and_true]
section
variable {P:Program} {w0:World} {T0:Bs} {b0:Nat} [hG:qB P w0 T0] {ops:Array Oper}
theorem KF {H:List (AV × Value)} {s:S} {Q:S→Prop} {a:Act} {w:World} (es:List Nat) (tb:List (Nat × List Nat)) (hok:vZ ops es tb (Bd ops)=true)
  (h:iH P w0 T0 ops es tb ops.toList 0 [] [(s.rows,s.next)] s Q) (hr:Rep w0 T0 H s a w) :
  wpAny P .any ops (fun e a' w'=>e=.normal∧∃ s',Q s'∧Rep w0 T0 H s' a' w') ops.size (Array.replicate ops.size false) a { w with drawn:=w.drawn+1 }:=by
 have hr':Rep w0 T0 H s a { w with drawn:=w.drawn+1 }:=by
  obtain ⟨m,hm⟩:=hr
  exact ⟨m,hm.drawn⟩
 have ok:=lW.of hok
 have hg0:∀ r,s.get r=jo ops s [] 0 r:=by
  intro r;unfold jo;split<;>simp
 obtain ⟨vs,hs,sf,hend⟩:=EG ok ops.toList 0 [] [(s.rows,s.next)] s [] Q rfl (Nat.zero_le _) rfl rfl rfl rfl hg0
  ⟨fun j o h=>absurd h (by omega),fun j o h=>absurd h (by omega),fun j o d h=>absurd h (by omega)⟩ (fun j o h=>absurd h (by omega)) h
 have hL:∀ j,(Array.replicate ops.size false).getD j false=false:=fun j=>oC _ j
 have hop:rC (Array.replicate ops.size false) ops.size=ops.size:=by
  unfold rC
  have:(List.range ops.size).countP (fun j=>!(Array.replicate ops.size false).getD j false)=(List.range ops.size).length:=by
   apply List.countP_eq_length.2
   intro j _
   rw [hL j];rfl
  rw [this,List.length_range]
 refine Nc ok hend ops.size (Array.replicate ops.size false) 0 s.env a _ hop ?_
 refine { size:=by simp,closed:=fun i o _ h=>(by rw [hL] at h;cases h),kle:=Nat.zero_le _,es:=fun q i _=>(by rw [hL];simp),get:=fun r=>?_,rep:=⟨_,hend.pre 0 _ rfl,hr'⟩ }
 unfold uV
 split
 ·rw [hL];rfl
 ·rfl
theorem aP.Xc {id:Nat} {s:S} {Q:S→Prop} (k:Nat) (es1:List Nat) (tb1:List (Nat × List Nat)) (es2:List Nat) (tb2:List (Nat × List Nat)) (hm:P.follows .mixedOrders=true) (hk:(decide (k+1<ops.size) && ops.toList.all fun o:Oper=>o.guard.isNone)=true)
  (hok1:vZ (sW k ops).toArray es1 tb1 (Bd (sW k ops).toArray)=true) (hok2:vZ (sZ k ops).toArray es2 tb2 (Bd (sZ k ops).toArray)=true)
  (h1:iH P w0 T0 (sW k ops).toArray es1 tb1 (sW k ops) 0 [] [(s.rows,s.next)] s Q) (h2:iH P w0 T0 (sZ k ops).toArray es2 tb2 (sZ k ops) 0 [] [(s.rows,s.next)] s Q):@aP P w0 T0 b0 id ops s ⟨Q⟩:=by
 intro H a w _ hr
 rw [Bool.and_eq_true,decide_eq_true_eq] at hk
 obtain ⟨hk,hgs⟩:=hk
 have hg:∀ (i:Nat) (o:Oper),ops[i]?=some o→o.guard=none:=fun i o ho=>by
  have:=List.all_eq_true.1 hgs o (by
   have:=(Array.getElem?_eq_some_iff.1 ho)
   obtain ⟨h,rfl⟩:=this
   simp)
  simpa using this
 have A:=KF (w:=w) es1 tb1 hok1 (by simpa using h1) hr
 have B:=KF (w:=w) es2 tb2 hok2 (by simpa using h2) hr
 have tA:=UH hk hg
 have tB:=UJ hk hg
 rw [tA.size] at A
 rw [tB.size] at B
 have like:∀ σ:Nat→Nat,Like ops σ (Array.replicate ops.size false) (Array.replicate ops.size false):=fun σ=>⟨by simp,by simp,fun j=>by rw [oC,oC]⟩
 refine wp_region_draw fun t=>?_
 simp only [Region.schedule,hm,Bool.true_or,if_true]
 rcases ER (show k≠k+1 by omega) (Region.linearise.go .any ops ops.size t (Array.replicate ops.size false) []) with hb|hb
 ·exact yV tA (by omega) (by omega) (fun j h=>h) ops.size t _ _ a _ (like _) (.inr hb) A
 ·exact yV tB (by omega) (by omega) (fun j h=>by unfold wZ;rw [if_neg (by omega),if_neg (by omega)];exact h) ops.size t _ _ a _ (like _) (.inr hb) B
theorem aP.wo {id:Nat} {s:S} {Q:S→Prop} (k:Nat) (es1:List Nat) (tb1:List (Nat × List Nat)) (es2:List Nat) (tb2:List (Nat × List Nat)) (hm:P.follows .mixedOrders=true) (hk:(decide (k+1<ops.size) && ops.toList.all fun o:Oper=>o.guard.isNone)=true)
  (hok1:vZ (sW k ops).toArray es1 tb1 (Bd (sW k ops).toArray)=true) (hok2:vZ (sZ k ops).toArray es2 tb2 (Bd (sZ k ops).toArray)=true) (shape:S)
  (h1:iH P w0 T0 (sW k ops).toArray es1 tb1 (sW k ops) 0 [] [(s.rows,s.next)] s (fun s'=>aS w0 T0 b0 s' shape)) (h2:iH P w0 T0 (sZ k ops).toArray es2 tb2 (sZ k ops) 0 [] [(s.rows,s.next)] s (fun s'=>aS w0 T0 b0 s' shape)) (hq:Q shape):@aP P w0 T0 b0 id ops s ⟨Q⟩:=by
 intro H a w hH hr
 refine wp_mono (aP.Xc (b0:=b0) (id:=id) k es1 tb1 es2 tb2 hm hk hok1 hok2 h1 h2 H a w hH hr) ?_
 rintro e a' w' ⟨he,s',hq',hr'⟩
 exact ⟨he,shape,hq,hq' H a' w' hH hr'⟩
end
end Go.Fv.L
/- A drawn region in which operation c stands anywhere about a and b (a ahead of b): three orders, each walked. -/
namespace Go.Fv.L
open Go Go.Fv Go.RowKit
structure zk (ops ops':Array Oper) (σ:Nat→Nat) (E:List (Nat × Nat)):Prop where
 size:ops'.size=ops.size
 lt:∀ i,i<ops.size→σ i<ops.size
 inj:∀ i j,i<ops.size→j<ops.size→σ i=σ j→i=j
 sur:∀ j,j<ops.size→∃ i,i<ops.size∧σ i=j
 op:∀ (i:Nat) (o:Oper),ops[i]?=some o→o.guard=none∧∃ x,ops'[σ i]?=some { o with after:=x }∧∀ L L':Array Bool,(∀ j,L'.getD (σ j) false=L.getD j false) →
  (x.all fun e=>!Region.binds .any e || L'.getD e.on false)=((o.after.all fun e=>!Region.binds .any e || L.getD e.on false) && E.all fun e=>i != e.2 || L.getD e.1 false)
theorem zk.ready {ops ops':Array Oper} {σ:Nat→Nat} {E:List (Nat × Nat)} (h:zk ops ops' σ E) {L L':Array Bool} (hr:Like ops σ L L') {i:Nat} (hi:i<ops.size) :
  σ i∈Region.ready .any ops' L'↔i∈Region.ready .any ops L∧∀ e,e∈E→i=e.2→L.getD e.1 false=true:=by
 obtain ⟨h1,h2,h3⟩:=hr
 rw [mem_ready (by rw [h.size];exact h2),mem_ready h1,h3]
 obtain ⟨_,x,hx,hall⟩:=h.op i ops[i] (by simp [hi])
 have hall:=hall L L' h3
 constructor
 ·rintro ⟨k1,o',k2,k3⟩
  rw [hx] at k2;cases k2
  dsimp only at k3
  rw [hall,Bool.and_eq_true] at k3
  refine ⟨⟨k1,_,by simp [hi],k3.1⟩,fun e he h4=>?_⟩
  have:=List.all_eq_true.1 k3.2 e he
  rw [h4] at this
  simpa using this
 ·rintro ⟨⟨k1,o,k2,k3⟩,k4⟩
  have:o=ops[i]:=by simpa [hi] using k2.symm
  subst this
  refine ⟨k1,_,hx,?_⟩
  dsimp only
  rw [hall,k3,Bool.true_and,List.all_eq_true]
  intro e he
  rw [Bool.or_eq_true]
  by_cases h4:i=e.2
  ·exact .inr (k4 e he h4)
  ·exact .inl (by simpa using h4)
theorem Gn {P:Program} {ops ops':Array Oper} {σ:Nat→Nat} {E:List (Nat × Nat)} (h:zk ops ops' σ E) (hout:∀ j,ops.size≤j→ops.size≤σ j) {Q:Exit→Act→World→Prop}:∀ (fuel t:Nat) (L L':Array Bool) (act:Act) (w:World),Like ops σ L L' →
  (∀ e,e∈E→L.getD e.1 false=true∨J3 e.1 e.2 (Region.linearise.go .any ops fuel t L [])=true)→wpAny P .any ops' Q fuel L' act w→wpOps P ops Q (Region.linearise.go .any ops fuel t L []) act w:=by
 intro fuel
 induction fuel with
 | zero=>intro t L L' act w hr hb hw;simpa [Region.linearise.go,wpOps] using hw.2
 | succ fuel ih=>
  intro t L L' act w hr hb hw
  obtain ⟨h₀,h₁⟩:=hw
  simp only [Region.linearise.go] at hb ⊢
  change wpOps P ops Q (match (Region.ready .any ops L)[t%(Region.ready .any ops L).length]? with
   | some i=>Region.linearise.go .any ops fuel (t / (Region.ready .any ops L).length) (L.setIfInBounds i true) [i]
   | none=>[].reverse) act w
  change ∀ e,e∈E→_∨J3 e.1 e.2 (match (Region.ready .any ops L)[t%(Region.ready .any ops L).length]? with
   | some i=>Region.linearise.go .any ops fuel (t / (Region.ready .any ops L).length) (L.setIfInBounds i true) [i]
   | none=>[].reverse)=true at hb
  cases hi:(Region.ready .any ops L)[t%(Region.ready .any ops L).length]? with
  | none=>
   have hnil:Region.ready .any ops L=[]:=by
    cases hrr:Region.ready .any ops L with
    | nil=>rfl
    | cons x xs=>
     rw [hrr] at hi
     have hlt:t%(x::xs).length<(x::xs).length:=Nat.mod_lt _ (by simp)
     simp at hi
     simp at hlt
     omega
   have hnil':Region.ready .any ops' L'=[]:=by
    rw [List.eq_nil_iff_forall_not_mem]
    intro j hj
    have hjl:j<ops.size:=by
     obtain ⟨_,o,ho,_⟩:=(mem_ready (by rw [h.size];exact hr.2.1)).1 hj
     have:=(Array.getElem?_eq_some_iff.1 ho).1
     rw [h.size] at this;exact this
    obtain ⟨i,hil,rfl⟩:=h.sur j hjl
    have:=((h.ready hr hil).1 hj).1
    rw [hnil] at this;cases this
   simpa [wpOps] using h₀ hnil'
  | some i=>
   rw [hi] at hb
   simp only [] at hb ⊢
   rw [linearise_go_acc,List.reverse_singleton,List.singleton_append] at hb ⊢
   have him:=List.mem_of_getElem? hi
   have hil:i<ops.size:=by
    obtain ⟨_,o,ho,_⟩:=(mem_ready hr.1).1 him
    exact (Array.getElem?_eq_some_iff.1 ho).1
   have hib:∀ e,e∈E→i=e.2→L.getD e.1 false=true:=fun e he h4=>by
    rcases hb e he with hb|hb
    ·exact hb
    ·unfold J3 at hb;rw [if_pos h4] at hb;cases hb
   have hr':=hr.set h.inj h.lt hout hil
   have hnext:∀ e,e∈E→(L.setIfInBounds i true).getD e.1 false=true∨J3 e.1 e.2 (Region.linearise.go .any ops fuel (t / (Region.ready .any ops L).length) (L.setIfInBounds i true) [])=true:=by
    intro e he
    have g:(L.setIfInBounds i true).getD e.1 false=if i=e.1 then true else L.getD e.1 false:=by
     by_cases e2:i=e.1
     ·subst e2;rw [if_pos rfl];simp [Array.getD,hr.1,hil]
     ·rw [if_neg e2]
      simp only [Array.getD_eq_getD_getElem?,Array.getElem?_setIfInBounds,if_neg e2]
    rcases hb e he with hb|hb
    ·left;rw [g,hb];split<;>rfl
    ·unfold J3 at hb
     by_cases e1:i=e.2
     ·rw [if_pos e1] at hb;cases hb
     ·rw [if_neg e1] at hb
      by_cases e2:i=e.1
      ·left;rw [g,if_pos e2]
      ·rw [if_neg e2] at hb;exact .inr hb
   rw [wpOps_cons]
   obtain ⟨hg,x,hx,_⟩:=h.op i ops[i] (by simp [hil])
   refine Ci (o:=ops[i]) (by simp [hil]) hx hg (wpOp_mono (fun act w hw=>ih _ _ _ act w hr' hnext hw) (h₁ (σ i) ((h.ready hr hil).2 ⟨him,hib⟩)))
/-! ### The operations in another row -/
def Lc (inv:List Nat) (i:Nat):Nat:=inv.getD i i
def U3 (inv:List Nat) (i:Nat):List (Nat × Nat)→List Edge
 | []=>[]
 | e::E=>if i == e.2 then ⟨Lc inv e.1,.data⟩::U3 inv i E else U3 inv i E
def Wy (inv:List Nat) (E:List (Nat × Nat)) (i:Nat) (o:Oper):Oper:=⟨o.dst,o.op,o.type,o.pos,(o.after.toList.map (fun e=>Edge.mk (Lc inv e.on) e.ground)++U3 inv i E).toArray,o.guard⟩
def CS (ord inv:List Nat) (E:List (Nat × Nat)) (ops:Array Oper):List Oper:=ord.map fun i=>Wy inv E i (ops.toList.getD i default)
def X7 (ord inv:List Nat) (ops:Array Oper):Bool:=ord.length == ops.size && inv.length == ops.size && ((List.range ops.size).all fun i=>ord.getD (inv.getD i i) i == i && inv.getD (ord.getD i i) i == i && decide (ord.getD i i<ops.size) && decide (inv.getD i i<ops.size)) && ops.toList.all fun o:Oper=>o.guard.isNone
theorem EW (inv:List Nat) (i:Nat) {L L':Array Bool} (hL:∀ j,L'.getD (Lc inv j) false=L.getD j false):∀ E:List (Nat × Nat),((U3 inv i E).all fun e=>!Region.binds .any e || L'.getD e.on false)=E.all fun e=>i != e.2 || L.getD e.1 false
 | []=>rfl
 | e::E=>by
  unfold U3
  by_cases h:i=e.2
  ·rw [if_pos (by simpa using h),List.all_cons,List.all_cons,EW inv i hL E]
   congr 1
   have:(i != e.2)=false:=by simpa using h
   rw [this]
   simp only [hL,uz,Bool.not_true,Bool.false_or]
  ·rw [if_neg (by simpa using h),List.all_cons,EW inv i hL E]
   have:(i != e.2)=true:=by simpa using h
   rw [this,Bool.true_or,Bool.true_and]
theorem UK {ops:Array Oper} {ord inv:List Nat} (E:List (Nat × Nat)) (hk:X7 ord inv ops=true):zk ops (CS ord inv E ops).toArray (Lc inv) E∧∀ j,ops.size≤j→ops.size≤Lc inv j:=by
 unfold X7 at hk
 simp only [Bool.and_eq_true,beq_iff_eq,List.all_eq_true,List.mem_range,decide_eq_true_eq] at hk
 obtain ⟨⟨⟨h1,h2⟩,h3⟩,h4⟩:=hk
 have hg:∀ (i:Nat) (o:Oper),ops[i]?=some o→o.guard=none:=fun i o ho=>by
  have:=h4 o (by
   obtain ⟨h,rfl⟩:=Array.getElem?_eq_some_iff.1 ho
   simp)
  simpa using this
 refine ⟨⟨by simp [CS,h1],fun i hi=>(h3 i hi).2,fun i j hi hj he=>?_,fun j hj=>⟨ord.getD j j,(h3 j hj).1.2,?_⟩,fun i o ho=>⟨hg i o ho,(Wy inv E i o).after,?_,fun L L' hL=>?_⟩⟩,fun j hj=>?_⟩
 ·have e1:=(h3 i hi).1.1.1
  have e2:=(h3 j hj).1.1.1
  unfold Lc at he
  have:∀ (p q d1 d2:Nat),p<ord.length→p=q→ord.getD p d1=ord.getD q d2:=fun p q d1 d2 hp h=>by
   subst h
   simp [List.getD_eq_getElem?_getD,hp]
  rw [←e1,←e2]
  exact this _ _ _ _ (by rw [h1];exact (h3 i hi).2) he
 ·have e1:=(h3 j hj).1.1.2
  have hlt:=(h3 j hj).1.2
  unfold Lc
  have:∀ (p d1 d2:Nat),p<inv.length→inv.getD p d1=inv.getD p d2:=fun p d1 d2 hp=>by simp [List.getD_eq_getElem?_getD,hp]
  rw [this _ _ j (by rw [h2];exact hlt)]
  exact e1
 ·have hi:i<ops.size:=(Array.getElem?_eq_some_iff.1 ho).1
  have e1:=(h3 i hi).1.1.1
  have hlt:=(h3 i hi).2
  simp only [CS,List.getElem?_toArray,List.getElem?_map]
  have:ord[Lc inv i]?=some i:=by
   have hlt':Lc inv i<ord.length:=by rw [h1];exact hlt
   rw [List.getElem?_eq_getElem hlt']
   congr 1
   have e1':ord.getD (Lc inv i) i=i:=e1
   rwa [List.getD_eq_getElem?_getD,List.getElem?_eq_getElem hlt',Option.getD_some] at e1'
  rw [this,Option.map_some]
  have ho':ops.toList.getD i default=o:=by
   have h5:ops.toList[i]?=some o:=by simpa using ho
   rw [List.getD_eq_getElem?_getD,h5,Option.getD_some]
  rw [ho']
  rfl
 ·unfold Wy
  rw [List.all_toArray,List.all_append,EW inv i hL,List.all_map]
  congr 1
  rw [←Array.all_toList]
  congr 1
  funext e
  show (!Region.binds .any _ || L'.getD (Lc inv e.on) false)=_
  rw [hL]
  rfl
 ·unfold Lc
  rw [List.getD_eq_getElem?_getD,List.getElem?_eq_none (by omega),Option.getD_none]
  exact hj
section
variable {P:Program} {w0:World} {T0:Bs} {b0:Nat} [hG:qB P w0 T0] {ops:Array Oper}
def zW (P:Program) (w0:World) (T0:Bs) (ops:Array Oper) (ord inv:List Nat) (E:List (Nat × Nat)) (es:List Nat) (tb:List (Nat × List Nat)) (s:S) (Q:S→Prop):Prop:=
 X7 ord inv ops=true∧vZ (CS ord inv E ops).toArray es tb (Bd (CS ord inv E ops).toArray)=true∧iH P w0 T0 (CS ord inv E ops).toArray es tb (CS ord inv E ops) 0 [] [(s.rows,s.next)] s Q
theorem Bf {H:List (AV × Value)} {s:S} {Q:S→Prop} {a:Act} {w:World} {ord inv:List Nat} {E:List (Nat × Nat)} {es:List Nat} {tb:List (Nat × List Nat)} (h:zW P w0 T0 ops ord inv E es tb s Q) (hr:Rep w0 T0 H s a w) (t:Nat)
  (hb:∀ e,e∈E→J3 e.1 e.2 (Region.linearise.go .any ops ops.size t (Array.replicate ops.size false) [])=true) :
  wpOps P ops (fun e a' w'=>e=.normal∧∃ s',Q s'∧Rep w0 T0 H s' a' w') (Region.linearise.go .any ops ops.size t (Array.replicate ops.size false) []) a { w with drawn:=w.drawn+1 }:=by
 obtain ⟨h1,h2,h3⟩:=h
 have A:=KF (w:=w) es tb h2 (by simpa using h3) hr
 obtain ⟨tA,hout⟩:=UK E h1
 rw [tA.size] at A
 exact Gn tA hout ops.size t _ _ a _ ⟨by simp,by simp,fun j=>by rw [oC,oC]⟩ (fun e he=>.inr (hb e he)) A
theorem aP.X6 {id:Nat} {s:S} {Q:S→Prop} (a b c:Nat) (hm:P.follows .mixedOrders=true) (hac:c≠a) (hbc:c≠b) (KT inv1 es1:List Nat) (tb1:List (Nat × List Nat)) (KU inv2 es2:List Nat) (tb2:List (Nat × List Nat)) (KW KC es3:List Nat) (tb3:List (Nat × List Nat))
  (h1:zW P w0 T0 ops KT inv1 [(c,a)] es1 tb1 s Q) (h2:zW P w0 T0 ops KU inv2 [(a,c),(c,b)] es2 tb2 s Q) (h3:zW P w0 T0 ops KW KC [(b,c)] es3 tb3 s Q):@aP P w0 T0 b0 id ops s ⟨Q⟩:=by
 intro H A w _ hr
 refine wp_region_draw fun t=>?_
 simp only [Region.schedule,hm,Bool.true_or,if_true]
 rcases ER hac (Region.linearise.go .any ops ops.size t (Array.replicate ops.size false) []) with hb|hb
 ·exact Bf h1 hr t fun e he=>by rw [List.mem_singleton.1 he];exact hb
 ·rcases ER hbc (Region.linearise.go .any ops ops.size t (Array.replicate ops.size false) []) with hb2|hb2
  ·refine Bf h2 hr t fun e he=>?_
   rcases List.mem_cons.1 he with rfl|he
   ·exact hb
   ·rw [List.mem_singleton.1 he];exact hb2
  ·exact Bf h3 hr t fun e he=>by rw [List.mem_singleton.1 he];exact hb2
theorem aP.Uk {id:Nat} {s:S} {Q:S→Prop} (a b c:Nat) (hm:P.follows .mixedOrders=true) (hac:c≠a) (hbc:c≠b) (KT inv1 es1:List Nat) (tb1:List (Nat × List Nat)) (KU inv2 es2:List Nat) (tb2:List (Nat × List Nat)) (KW KC es3:List Nat) (tb3:List (Nat × List Nat)) (shape:S)
  (h1:zW P w0 T0 ops KT inv1 [(c,a)] es1 tb1 s (fun s'=>aS w0 T0 b0 s' shape)) (h2:zW P w0 T0 ops KU inv2 [(a,c),(c,b)] es2 tb2 s (fun s'=>aS w0 T0 b0 s' shape)) (h3:zW P w0 T0 ops KW KC [(b,c)] es3 tb3 s (fun s'=>aS w0 T0 b0 s' shape)) (hq:Q shape):@aP P w0 T0 b0 id ops s ⟨Q⟩:=by
 intro H a w hH hr
 refine wp_mono (aP.X6 (b0:=b0) (id:=id) _ _ _ hm hac hbc KT inv1 es1 tb1 KU inv2 es2 tb2 KW KC es3 tb3 h1 h2 h3 H a w hH hr) ?_
 rintro e a' w' ⟨he,s',hq',hr'⟩
 exact ⟨he,shape,hq,hq' H a' w' hH hr'⟩
end
end Go.Fv.L
