/-
  A part of the proof of the claim: walks over the program's functions and the plain laws that these need. No condition of its own.
-/
import Derived.Test.YtaahmkhlhgkfpaaDoorNTitCardPart2
import Derived.Test.YtaahmkhlhgkfpaaDoorNTitCardPart1
import Derived.Test.YtaahmkhlhgkfpaaDoorFvPart10
import Derived.Test.YtaahmkhlhgkfpaaDoorFvPart11
import Derived.Shelf.Strconv.Itoa3
import Derived.Lib.ItoaLen
import Derived.Test.YtaahmkhlhgkfpaaDoorFvPart6
set_option linter.unusedSimpArgs false
set_option linter.unusedVariables false
set_option linter.unnecessarySimpa false
set_option maxRecDepth 8000
/- The reference's way through a template, in plain words. -/
namespace Go.Fv.N
open Go Go.Proofs
theorem o9 {p:UInt8→Bool}:∀ {u:Bytes} {d:UInt8} {v:Bytes},u.all p=true→p d=false→(u++d::v).takeWhile p=u∧(u++d::v).dropWhile p=d::v
 | [],d,v,_,h=>by simp [List.takeWhile_cons,List.dropWhile_cons,h]
 | c::u,d,v,h1,h=>by
  rw [List.all_cons,Bool.and_eq_true] at h1
  obtain ⟨a,b⟩:=o9 (v:=v) h1.2 h
  rw [List.cons_append,List.takeWhile_cons,List.dropWhile_cons,if_pos h1.1,if_pos h1.1,a,b]
  exact ⟨rfl,rfl⟩
theorem uQ (p:UInt8→Bool):∀ s:Bytes,(s.all p=true∧s.takeWhile p=s∧s.dropWhile p=[])∨∃ u d v,s=u++d::v∧u.all p=true∧p d=false
 | []=>.inl ⟨rfl,rfl,rfl⟩
 | c::s=>by
  cases hc:p c with
  | false=>exact .inr ⟨[],c,s,rfl,rfl,hc⟩
  | true=>
   rcases uQ p s with ⟨h1,h2,h3⟩|⟨u,d,v,rfl,h2,h3⟩
   ·exact .inl ⟨by rw [List.all_cons,hc,h1];rfl,by rw [List.takeWhile_cons,if_pos hc,h2],by rw [List.dropWhile_cons,if_pos hc,h3]⟩
   ·exact .inr ⟨c::u,d,v,rfl,by rw [List.all_cons,hc,h2];rfl,h3⟩
theorem BU:∀ {s:Bytes} (i:Nat),s.all nb=true→fB s i=-1
 | [],_,_=>rfl
 | c::s,i,h=>by
  rw [List.all_cons,Bool.and_eq_true] at h
  show (if nb c=true then _ else _)=_
  rw [if_pos h.1];exact BU _ h.2
theorem F8:∀ {u:Bytes} {d:UInt8} {v:Bytes} (i:Nat),u.all nb=true→nb d=false→fB (u++d::v) i=((i+u.length:Nat):Int)
 | [],d,v,i,_,h=>by
  show (if nb d=true then _ else _)=_
  rw [if_neg (by rw [h];decide)];rfl
 | c::u,d,v,i,h1,h=>by
  rw [List.all_cons,Bool.and_eq_true] at h1
  show (if nb c=true then _ else _)=_
  rw [if_pos h1.1]
  show fB (u++d::v) (i+1)=_
  rw [F8 (i+1) h1.2 h,List.length_cons]
  omega
def n125 (c:UInt8):Bool:=!decide (c.toNat=125)
theorem yH (c:UInt8):(c == 125)=!n125 c:=by
 unfold n125
 rw [Bool.not_not,Bool.eq_iff_iff,beq_iff_eq,decide_eq_true_eq,←UInt8.toNat_inj]
 exact Iff.rfl
theorem yx:∀ {s:Bytes},s.all n125=true→Lib.indexByte s 125=-1
 | [],_=>rfl
 | c::s,h=>by
  rw [List.all_cons,Bool.and_eq_true] at h
  unfold Lib.indexByte
  rw [yH,h.1,yx h.2];rfl
theorem Cj:∀ {u:Bytes} {d:UInt8} {v:Bytes},u.all n125=true→n125 d=false→Lib.indexByte (u++d::v) 125=(u.length:Int)
 | [],d,v,_,h=>by
  show Lib.indexByte (d::v) 125=_
  unfold Lib.indexByte
  rw [yH,h];rfl
 | c::u,d,v,h1,h=>by
  rw [List.all_cons,Bool.and_eq_true] at h1
  show Lib.indexByte (c::(u++d::v)) 125=_
  unfold Lib.indexByte
  rw [yH,h1.1,Cj h1.2 h]
  have e:((u.length:Int) == -1)=false:=by simp
  rw [e,List.length_cons]
  simp
def J5 (t:Bytes):Bytes:=(t.drop ((fB t 0).toNat+1)).take ((Lib.indexByte t 125).toNat - ((fB t 0).toNat+1))
def stepT (t:Bytes):Option (Option (Bytes × Bytes × Bytes)):=
 if fB t 0<0 then some none
 else if (t.getD (fB t 0).toNat 0).toNat=125 then none
 else if Lib.indexByte t 125<fB t 0∨aX (J5 t)=false then none
 else some (some (t.take (fB t 0).toNat,J5 t,t.drop ((Lib.indexByte t 125).toNat+1)))
theorem IY {c:UInt8} (h:nb c=true):n125 c=true:=by
 unfold nb at h;unfold n125
 simp only [Bool.and_eq_true] at h
 exact h.2
theorem sO {s:Bytes} (h:s.all nb=true):s.all n125=true:=List.all_eq_true.2 fun c hc=>IY (List.all_eq_true.1 h c hc)
theorem Ee {s:Bytes} (h:aX s=true):s.all nb=true:=by
 have:=(uz s).1 h
 unfold aX at h
 simp only [Bool.and_eq_true] at h
 refine List.all_eq_true.2 fun c hc=>?_
 have h2:=(l9 c).1 (List.all_eq_true.1 h.2 c hc)
 unfold nb
 rw [decide_eq_false (by omega),decide_eq_false (by omega)];rfl
theorem uN (n:Nat) (t:Bytes):spl (n+1) t=(match t.dropWhile nb with
  | []=>some ([],t)
  | c::r=>if c.toNat=125 then none else
   match r.dropWhile nb with
   | []=>none
   | d::r2=>if d.toNat=125∧aX (r.takeWhile nb)=true then
     match spl n r2 with
     | none=>none
     | some (l,z)=>some ((t.takeWhile nb,r.takeWhile nb)::l,z)
    else none):=rfl
theorem Hw (n:Nat) (t:Bytes):spl (n+1) t=(match stepT t with
  | none=>none
  | some none=>some ([],t)
  | some (some (a,b,t'))=>match spl n t' with
   | none=>none
   | some (l,z)=>some ((a,b)::l,z)):=by
 rcases uQ nb t with ⟨h1,h2,h3⟩|⟨u,c,r,rfl,hu,hc⟩
 ·have hf:=BU 0 h1
  have hs:stepT t=some none:=by unfold stepT;rw [if_pos (by rw [hf];decide)]
  rw [hs,uN,h3]
 ·have hf:=F8 (v:=r) 0 hu hc
  rw [Nat.zero_add] at hf
  obtain ⟨w1,w2⟩:=o9 (v:=r) hu hc
  have hget:(u++c::r).getD u.length 0=c:=by simp [List.getD_eq_getElem?_getD]
  have hc2:c.toNat=123∨c.toNat=125:=by unfold nb at hc;simp at hc;omega
  rw [uN,w2,w1]
  dsimp only
  by_cases h125:c.toNat=125
  ·have hs:stepT (u++c::r)=none:=by
    unfold stepT
    rw [hf,Int.toNat_natCast,if_neg (by omega),hget,if_pos h125]
   rw [hs,if_pos h125]
  ·rw [if_neg h125]
   have hcn:n125 c=true:=by unfold n125;rw [decide_eq_false h125];rfl
   have huc:(u++[c]).all n125=true:=by rw [List.all_append,sO hu];simp [hcn]
   rcases uQ n125 r with ⟨h1,h2,h3⟩|⟨q,d,v,rfl,hq,hd⟩
   ·have hk:Lib.indexByte (u++c::r) 125=-1:=yx (by rw [List.all_append,sO hu,List.all_cons,hcn,h1];rfl)
    have hs:stepT (u++c::r)=none:=by
     unfold stepT
     rw [hf,Int.toNat_natCast,if_neg (by omega),hget,if_neg h125,hk,if_pos (.inl (by omega))]
    rw [hs]
    cases h4:r.dropWhile nb with
    | nil=>rfl
    | cons d v=>
     dsimp only
     have hm:d∈r:=by
      have:d∈r.dropWhile nb:=by rw [h4];exact List.mem_cons_self
      exact (List.dropWhile_sublist _).subset this
     have:=List.all_eq_true.1 h1 d hm
     unfold n125 at this
     rw [if_neg (fun h=>by rw [decide_eq_true h.1] at this;cases this)]
   ·have hk:Lib.indexByte (u++c::(q++d::v)) 125=((u.length+1+q.length:Nat):Int):=by
     have:=Cj (u:=(u++[c])++q) (v:=v) (by rw [List.all_append,huc,hq];rfl) hd
     simp only [List.append_assoc,List.singleton_append,List.length_append,List.length_singleton] at this
     rw [List.cons_append] at this
     rw [this]
     simp only [List.length_cons,List.length_append,List.length_nil]
     omega
    have hd2:d.toNat=125:=by unfold n125 at hd;simpa using hd
    have hdn:nb d=false:=by unfold nb;rw [decide_eq_true hd2];simp
    have e1:(u++c::(q++d::v)).drop (u.length+1)=q++d::v:=by
     rw [show u++c::(q++d::v)=(u++[c])++(q++d::v) by simp,List.drop_left' (by simp)]
    have hnm:J5 (u++c::(q++d::v))=q:=by
     unfold J5
     rw [hf,hk,Int.toNat_natCast,Int.toNat_natCast,e1,show u.length+1+q.length - (u.length+1)=q.length by omega,List.take_left' rfl]
    have e2:(u++c::(q++d::v)).drop (u.length+1+q.length+1)=v:=by
     rw [show u++c::(q++d::v)=(u++c::(q++[d]))++v by simp,List.drop_left' (by simp;omega)]
    have e3:(u++c::(q++d::v)).take u.length=u:=List.take_left' rfl
    cases hok:aX q with
    | true=>
     have hs:stepT (u++c::(q++d::v))=some (some (u,q,v)):=by
      unfold stepT
      rw [hf,Int.toNat_natCast,if_neg (by omega),hget,if_neg h125,hnm,hk,if_neg (by rw [hok];simp;omega),Int.toNat_natCast,e2,e3]
     obtain ⟨w3,w4⟩:=o9 (v:=v) (Ee hok) hdn
     rw [hs,w4]
     dsimp only
     rw [w3,if_pos ⟨hd2,hok⟩]
    | false=>
     have hs:stepT (u++c::(q++d::v))=none:=by
      unfold stepT
      rw [hf,Int.toNat_natCast,if_neg (by omega),hget,if_neg h125,hnm,hk,if_pos (.inr hok)]
     rw [hs]
     cases h4:(q++d::v).dropWhile nb with
     | nil=>rfl
     | cons d2 v2=>
      dsimp only
      rw [if_neg]
      rintro ⟨h5,h6⟩
      have h7:=Ee h6
      have h8:=Dj (q++d::v)
      rw [h4] at h8
      have h9:=o9 (v:=v) hq hd
      have h10:=o9 (v:=v2) (sO h7) (d:=d2) (by unfold n125;rw [decide_eq_true h5];rfl)
      rw [h8] at h10
      rw [h10.1.symm.trans h9.1] at h6
      rw [h6] at hok
      cases hok
def uH (F:List Fc):Nat→Bytes→Bytes→Bool→Option (Bytes × Bool)
 | 0,_,_,_=>none
 | n+1,t,out,no=>match stepT t with
  | none=>none
  | some none=>some (out++t,no)
  | some (some (a,b,t'))=>match dV F b with
   | none=>uH F n t' (out++a) true
   | some x=>uH F n t' (out++a++x) no
def tt (F:List Fc):Bool→Bytes→List Bytes→Option Bytes
 | _,s,[]=>some s
 | false,s,p::P=>tt F true (s++p) P
 | true,s,p::P=>match dV F p with
  | none=>none
  | some x=>tt F false (s++x) P
theorem HY (F:List Fc) (P:List Bytes):∀ (k i:Nat),i+k=P.length→ttl F P P.length=match ttl F P i with|none=>none|some s=>tt F (decide (i%2=1)) s (P.drop i)
 | 0,i,h=>by
  have e:i=P.length:=by omega
  subst e
  rw [List.drop_length]
  cases ttl F P P.length<;>rfl
 | k+1,i,h=>by
  have ih:=HY F P k (i+1) (by omega)
  have hlt:i<P.length:=by omega
  have hst:ttl F P (i+1)=(match ttl F P i with|none=>none|some s=>if i%2=1 then (match dV F (P.getD i []) with|none=>none|some t=>some (s++t)) else some (s++P.getD i [])):=rfl
  rw [ih,hst,List.drop_eq_getElem_cons hlt,getD_lt hlt]
  cases ttl F P i with
  | none=>rfl
  | some s=>
   dsimp only
   by_cases h2:i%2=1
   ·rw [if_pos h2,decide_eq_true h2,decide_eq_false (by omega:¬(i+1)%2=1)]
    show _=(match dV F P[i] with|none=>none|some x=>tt F false (s++x) (P.drop (i+1)))
    cases dV F P[i]<;>rfl
   ·rw [if_neg h2,decide_eq_false h2,decide_eq_true (by omega:(i+1)%2=1)]
    rfl
def flat (l:List (Bytes × Bytes)):List Bytes:=l.flatMap fun p=>[p.1,p.2]
theorem uI (F:List Fc):∀ (n:Nat) (t out:Bytes) (no:Bool),match spl n t with
  | none=>uH F n t out no=none
  | some (l,z)=>∃ x,uH F n t out no=some x∧(x.2=false↔no=false∧(tt F false out (flat l++[z])).isSome=true)∧(x.2=false→tt F false out (flat l++[z])=some x.1)
 | 0,t,out,no=>rfl
 | n+1,t,out,no=>by
  rw [Hw]
  unfold uH
  cases hs:stepT t with
  | none=>rfl
  | some o=>
   cases o with
   | none=>
    dsimp only
    refine ⟨_,rfl,?_,fun _=>rfl⟩
    show no=false↔no=false∧(some (out++t)).isSome=true
    simp
   | some x=>
    obtain ⟨a,b,t'⟩:=x
    dsimp only
    have ihN:=uI F n t' (out++a) true
    have ihS:=fun x=>uI F n t' (out++a++x) no
    cases h:spl n t' with
    | none=>
     rw [h] at ihN
     simp only [h] at ihS
     dsimp only at ihN ⊢
     cases dV F b with
     | none=>exact ihN
     | some x=>exact ihS x
    | some q=>
     obtain ⟨l,z⟩:=q
     rw [h] at ihN
     simp only [h] at ihS
     dsimp only at ihN ⊢
     have e:tt F false out (flat ((a,b)::l)++[z])=match dV F b with|none=>none|some x=>tt F false (out++a++x) (flat l++[z]):=rfl
     rw [e]
     cases dV F b with
     | none=>
      obtain ⟨y,h1,h2,h3⟩:=ihN
      refine ⟨y,h1,?_,fun h=>?_⟩
      ·rw [h2];simp
      ·have:=h2.1 h;simp at this
     | some x=>exact ihS x
theorem Gh (l:List (Bytes × Bytes)):(flat l).length%2=0:=by
 induction l with
 | nil=>rfl
 | cons p l ih=>
  show (p.1::p.2::flat l).length%2=0
  simp only [List.length_cons];omega
def jI (t:Bytes) (F:List Fc):Bytes × Int:=
 if vO t F≠0 then ([],vO t F)
 else match uH F (t.length+1) t [] false with
  | none=>([],8)
  | some (s,true)=>([],10)
  | some (s,false)=>if iO s=[] then ([],9) else (iO s,0)
theorem Ba (t:Bytes) (F:List Fc):jI t F=jZ t F:=by
 unfold jI jZ vO
 by_cases h0:50<F.length∨200<t.length
 ·rw [if_pos h0,if_pos h0,if_pos (by decide)]
 rw [if_neg h0,if_neg h0]
 by_cases h1:oD F F.length≠0
 ·rw [if_pos h1,if_pos h1]
 rw [if_neg h1,if_neg h1]
 have hp:=CS (t.length+1) t [] [] (Nat.lt_succ_self _) rfl
 have hr:=uI F (t.length+1) t [] false
 cases hs:spl (t.length+1) t with
 | none=>
  rw [hs] at hp hr
  dsimp only at hp hr
  have e:(nP t).2=false:=by
   unfold nP
   rw [List.nil_append] at hp
   cases hf:pF [[]] t with
   | none=>rfl
   | some out=>
    rw [hf] at hp
    dsimp only at hp ⊢
    rw [decide_eq_false (by omega)]
  rw [hr,if_pos e]
 | some q=>
  obtain ⟨l,z⟩:=q
  rw [hs] at hp hr
  dsimp only at hp hr
  have e:nP t=(flat l++[z],true):=by
   unfold nP
   rw [List.nil_append] at hp
   have e2:pF [[]] t=some (flat l++[z]):=by
    cases l with
    | nil=>exact hp
    | cons p l'=>
     obtain ⟨a,b⟩:=p
     exact hp.1
   rw [e2]
   dsimp only
   have:=Gh l
   rw [decide_eq_true (by rw [List.length_append,List.length_singleton];omega)]
  rw [e]
  dsimp only
  rw [if_neg (by decide),HY F (flat l++[z]) (flat l++[z]).length 0 (Nat.zero_add _)]
  show _=(match (tt F false [] (flat l++[z])) with|none=>_|some s=>_)
  obtain ⟨⟨s,no⟩,h2,h3,h4⟩:=hr
  rw [h2]
  cases no with
  | true=>
   dsimp only at h3 ⊢
   cases ht:tt F false [] (flat l++[z]) with
   | none=>rfl
   | some x=>rw [ht] at h3;simp at h3
  | false=>
   rw [h4 rfl]
def firstAt {α:Type} (q:α→Bool):List α→Nat→Int
 | [],_=>-1
 | x::l,i=>if q x=true then i else firstAt q l (i+1)
theorem qM {α:Type} (q:α→Bool):∀ (l:List α) (i:Nat),(0≤firstAt q l i)↔l.any q=true
 | [],i=>by simp [firstAt]
 | x::l,i=>by
  simp only [firstAt,List.any_cons]
  split
  ·rename_i h;simp [h]
  ·rename_i h;simp [h,qM q l (i+1)]
theorem FZ {α:Type} (l:List α) (d:α) {i:Nat} (h:i<l.length):l.drop i=l.getD i d::l.drop (i+1):=by
 rw [List.drop_eq_getElem_cons h,getD_lt h]
end Go.Fv.N
/- The reference's closure, and slices.IndexFunc of facts. -/
namespace Go.Fv.N
open Go Go.Proofs
theorem Hy (x:Fc) (t:Bytes) (i k:Nat) (h1:i+1≤k) (h2:k≤t.length) (ht:t.length≤1000):aP Tryd.prog 20 [.agg x.av,.cell [.str t],.cell [.int .i64 i],.cell [.int .i64 k]] (.bool (decide (x.n=(t.drop (i+1)).take (k - (i+1))))) []:=by
 unfold Fc.av
 obtain ⟨xn,xt⟩:=x
 refine aP.bH Tryd.func20 rfl (by decide) (by simp [Tryd.f20]) [.tmp 5] rfl fun w0 T0 _=>?_
 simp only [Tryd.f20,aI]
 have e1:((i:Int)+1)=((i+1:Nat):Int):=by omega
 have f1:((k:Int)≤(t.length:Int))=True:=eq_true (by omega)
 have f2:(((i+1:Nat):Int)≤(k:Int))=True:=eq_true (by omega)
 (repeat' with_reducible first|intro _|exact dn|refine rn ?_|refine ra ?_ ?_)
 refine dW.lex [] [] (by kernel_rfl) (by kernel_rfl) ?_
 (repeat' with_reducible first|intro _|refine rz ?_|refine ra ?_ ?_|omega|simp only [go_sem,e1,f1,f2])
 refine bW.auto 0 ?_ rfl ?_<;>simp only [go_sem,Int.natCast_succ,Post,e1]
theorem drop_at {α:Type} (l:List α) (d:α) {i:Nat} (h:i<l.length):l.drop i=l.getD i d::l.drop (i+1):=by
 rw [List.drop_eq_getElem_cons h,getD_lt h]
set_option maxHeartbeats 1000000 in
theorem vT (l:List Fc) (f:Nat) (caps:List AV) [xJ caps] (q:Fc→Bool) (hq:∀ x:Fc,x∈l→gJ Tryd.prog f ([.agg x.av]++caps) (.bool (q x)) []) :
  aP Tryd.prog 19 [.ro (.objs 2 (l.map Fc.av)),.fn f caps] (.int .i64 (firstAt q l 0)) []:=by
 refine aP.bH Tryd.func19 rfl (by decide) (by simp [Tryd.f19]) [.tmp 4] rfl fun w0 T0 _=>?_
 simp only [Tryd.f19,aI]
 (repeat' with_reducible first|intro _|refine rz ?_|refine ra ?_ ?_|omega|simp only [go_sem,List.length_map])
 refine aT.intro (fun i:Nat=>⟨19,[(0,.ro (.objs 2 (l.map Fc.av))),(1,.fn f caps),(7,.int .i64 l.length),(8,.int .i64 i)],[],0⟩) (fun i=>i≤l.length∧firstAt q (l.drop i) i=firstAt q l 0) (fun i=>l.length - i) 0 ?_ ⟨Nat.zero_le _,rfl⟩ fun i hI=>?_
 ·refine bQ.aC rfl ?_ ?_<;>simp only [go_sem,Int.natCast_succ]
 obtain ⟨hl,hI⟩:=hI
 by_cases hlt:i<l.length
 ·have he:=rO l hlt
  have hd:=drop_at l Fc.zero hlt
  rw [hd,firstAt] at hI
  (repeat' with_reducible first|intro _|refine rz ?_|refine ra ?_ ?_|omega|simp only [go_sem,List.length_map,dU,he])
  refine ak.fr (args':=[.agg [.str (l.getD i Fc.zero).n,.str (l.getD i Fc.zero).t]]++caps) (hq _ (by rw [getD_lt hlt];exact List.getElem_mem hlt)) (by simp [bD,bG,aF,BI]) 0 rfl (by simp [dG]) ?_
  (repeat' with_reducible first|intro _|exact dn|refine rn ?_|refine ra ?_ ?_)
  ·rename_i h2
   rw [if_pos h2] at hI
   refine bW.auto 0 ?_ rfl ?_<;>simp only [go_sem,Int.natCast_succ,Post]
   rw [←hI]
  ·rename_i h2
   rw [if_neg (by rw [h2];exact Bool.false_ne_true)] at hI
   refine ⟨i+1,bQ.aC rfl ?_ ?_,⟨by omega,hI⟩,by omega⟩<;>simp only [go_sem,Int.natCast_succ]
   all_goals rfl
 ·have e:i=l.length:=by omega
  subst e
  rw [List.drop_length] at hI
  (repeat' with_reducible first|intro _|refine rz ?_|refine ra ?_ ?_|omega|simp only [go_sem,List.length_map])
  refine bW.auto 0 ?_ rfl ?_<;>simp only [go_sem,Int.natCast_succ,Post]
  rw [←hI];rfl
theorem qN (q:Fc→Bool):∀ (l:List Fc) (i:Nat),(firstAt q l i=-1∧l.find? q=none)∨∃ j:Nat,j<l.length∧firstAt q l i=((i+j:Nat):Int)∧l.find? q=some (l.getD j Fc.zero)
 | [],_=>.inl ⟨rfl,rfl⟩
 | x::l,i=>by
  rw [List.find?_cons]
  cases hq:q x with
  | true=>exact .inr ⟨0,by simp,by simp [firstAt,hq],rfl⟩
  | false=>
   have e:firstAt q (x::l) i=firstAt q l (i+1):=by simp [firstAt,hq]
   rw [e]
   rcases qN q l (i+1) with ⟨h1,h2⟩|⟨j,h0,h1,h2⟩
   ·exact .inl ⟨h1,h2⟩
   ·exact .inr ⟨j+1,by rw [List.length_cons];omega,by rw [h1];omega,h2⟩
theorem Gf (F:List Fc) (p:Bytes):(firstAt (fun x=>decide (x.n=p)) F 0=-1∧dV F p=none)∨∃ j:Nat,j<F.length∧firstAt (fun x=>decide (x.n=p)) F 0=(j:Int)∧dV F p=some (F.getD j Fc.zero).t:=by
 unfold dV
 rcases qN (fun x=>decide (x.n=p)) F 0 with ⟨h1,h2⟩|⟨j,h0,h1,h2⟩
 ·exact .inl ⟨h1,by rw [h2];rfl⟩
 ·exact .inr ⟨j,h0,by rw [h1];omega,by rw [h2];rfl⟩
end Go.Fv.N
/- The reference's TitleOf. -/
namespace Go.Fv.N
open Go Go.Proofs
theorem Kq (t:Bytes):fB t 0=-1∨∃ j:Nat,j<t.length∧fB t 0=(j:Int):=by
 rcases uQ nb t with ⟨h1,_,_⟩|⟨u,d,v,rfl,h2,h3⟩
 ·exact .inl (BU 0 h1)
 ·exact .inr ⟨u.length,by simp,by rw [F8 0 h2 h3,Nat.zero_add]⟩
theorem IL (t:Bytes):Lib.indexByte t 125=-1∨∃ k:Nat,k<t.length∧Lib.indexByte t 125=(k:Int)∧(t.getD k 0).toNat=125:=by
 rcases uQ n125 t with ⟨h1,_,_⟩|⟨u,d,v,rfl,h2,h3⟩
 ·exact .inl (yx h1)
 ·refine .inr ⟨u.length,by simp,Cj h2 h3,?_⟩
  have e:(u++d::v).getD u.length 0=d:=by simp [List.getD_eq_getElem?_getD]
  rw [e]
  unfold n125 at h3
  simpa using h3
theorem C9 (s:Bytes) {i:Nat} (h:i<s.length):(bK s).getD i 0=iU (s.getD i 0):=by
 unfold bK
 simp [List.getD_eq_getElem?_getD,h]
theorem qc (c:UInt8):jo c=true↔(97≤(c.toNat:Int)∧(c.toNat:Int)≤122∨48≤(c.toNat:Int)∧(c.toNat:Int)≤57):=by
 unfold jo
 simp only [Bool.or_eq_true,Bool.and_eq_true,decide_eq_true_eq]
 omega
theorem F6 (b:Bytes):decide (1≤b.length∧b.drop (b.length - 1)=[45])=decide (b≠[]∧sU b=45):=by
 rw [Bool.eq_iff_iff,decide_eq_true_eq,decide_eq_true_eq]
 by_cases h0:b=[]
 ·subst h0;simp
 have hp:0<b.length:=List.length_pos_iff.2 h0
 have hlt:b.length - 1<b.length:=by omega
 have e:b.drop (b.length - 1)=[b.getD (b.length - 1) 0]:=by
  rw [List.drop_eq_getElem_cons hlt,getD_lt hlt,show b.length - 1+1=b.length by omega,List.drop_length]
 rw [e]
 unfold sU
 constructor
 ·rintro ⟨_,h⟩;exact ⟨h0,by simpa using h⟩
 ·rintro ⟨_,h⟩;exact ⟨hp,by rw [h]⟩
set_option maxHeartbeats 16000000 in
theorem AU (t:Bytes) (F:List Fc):aP Tryd.prog 6 [.str t,.ro (JB F)] (.tup [.str (jI t F).1,.int .i64 (jI t F).2]) []:=by
 obtain ⟨R,hR⟩:∃ R,jI t F=R:=⟨_,rfl⟩
 rw [hR]
 unfold jI at hR
 have kf:=AP t F
 refine aP.bH Tryd.func6 rfl (by decide) (by simp [Tryd.f6]) [.tmp 4,.tmp 5] rfl fun w0 T0 _=>?_
 simp only [Tryd.f6,aI]
 by_cases h0:vO t F=0
 rotate_left
 ·rw [if_pos h0] at hR
  generalize vO t F=e at *
  have g0:(e=0)=False:=eq_false h0
  rw [←hR]
  (repeat' with_reducible first|intro _|exact dn|refine rn ?_|refine ra ?_ ?_)
  refine ak.k kf ?_
  (repeat' with_reducible first|intro _|refine rz ?_|refine ra ?_ ?_|omega|simp only [go_sem,g0])
  refine bW.auto 0 ?_ rfl ?_<;>simp only [go_sem,Int.natCast_succ,Post]
 rw [if_neg (by rw [h0];simp)] at hR
 have h1:¬(50<F.length∨200<t.length):=fun h=>by unfold vO at h0;rw [if_pos h] at h0;cases h0
 have htx:∀ x,x∈F→x.t.length≤1000:=by
  unfold vO at h0
  rw [if_neg h1] at h0
  exact fun x hx=>sZ F.length (Nat.le_refl _) h0 x (by rw [List.take_length];exact hx)
 rw [h0] at kf
 obtain ⟨Q,hQ⟩:∃ Q,uH F (t.length+1) t [] false=Q:=⟨_,rfl⟩
 rw [hQ] at hR
 (repeat' with_reducible first|intro _|exact dn|refine rn ?_|refine ra ?_ ?_)
 refine ak.k kf ?_
 (repeat' with_reducible first|intro _|exact dn|refine rn ?_|refine ra ?_ ?_)
 refine aT.intro (fun x:Nat × Bytes × Bytes × Bool=>⟨124,[(9,.ptr 0 0),(8,.str x.2.2.1),(7,.bool x.2.2.2),(1,.ro (JB F))],[(0,.box 9 [.str x.2.1])],1⟩) (fun x=>x.2.1.length<x.1∧x.2.1.length≤200∧x.2.2.1.length+1300*x.1≤1300*202∧uH F x.1 x.2.1 x.2.2.1 x.2.2.2=Q) (fun x=>x.1) (t.length+1,t,[],false) ?_ ⟨Nat.lt_succ_self _,by dsimp only;omega,by dsimp only;simp;omega,hQ⟩ fun x hx=>?_
 ·refine bQ.aC rfl ?_ ?_<;>simp only [go_sem,Int.natCast_succ]
  all_goals trace_state
 clear hQ h1 h0 kf
 obtain ⟨n,t,out,no⟩:=x
 obtain ⟨hn,ht,hlen,hT⟩:=hx
 dsimp only at hn ht hlen hT
 obtain ⟨m,rfl⟩:∃ m,n=m+1:=⟨n - 1,by omega⟩
 have hst:uH F (m+1) t out no=(match stepT t with
  | none=>none
  | some none=>some (out++t,no)
  | some (some (a,b,t'))=>match dV F b with
   | none=>uH F m t' (out++a) true
   | some x=>uH F m t' (out++a++x) no):=rfl
 rw [hT] at hst
 have kx:=zV t (by omega)
 have ki:=jR t 125 (by omega)
 rw [show ((125:UInt8).toNat:Int)=125 from rfl] at ki
 unfold stepT at hst
 have hfb:=Kq t
 have hib:=IL t
 by_cases hE:t=[]∨(t≠[]∧fB t 0=-1)
 ·obtain ⟨O,hO⟩:∃ O,out++t=O:=⟨_,rfl⟩
  have hfb:fB t 0=-1:=by
   rcases hE with h|h
   ·subst h;rfl
   ·exact h.2
  have hOl:O.length≤1000000:=by rw [←hO,List.length_append];omega
  rw [hfb,if_pos (by decide)] at hst
  dsimp only at hst
  rw [hO] at hst
  rw [hst] at hR
  rw [hfb] at kx
  cases no with
  | true=>
   dsimp only at hR
   rw [←hR]
   rcases hE with h2|⟨h2,_⟩
   ·(repeat' with_reducible first|intro _|refine rz ?_|refine ra ?_ ?_|omega|simp only [go_sem,h2])
    refine bW.auto 0 ?_ rfl ?_<;>simp only [go_sem,Int.natCast_succ,Post]
   ·(repeat' with_reducible first|intro _|refine rz ?_|refine ra ?_ ?_|omega|simp only [go_sem,h2])
    refine ak.k kx ?_
    (repeat' with_reducible first|intro _|exact dn|refine rn ?_|refine ra ?_ ?_)
    refine bW.auto 0 ?_ rfl ?_<;>simp only [go_sem,Int.natCast_succ,Post]
  | false=>
   dsimp only at hR
   rcases hE with h2|⟨h2,_⟩
   case' inl=>
    have hO2:out=O:=by rw [←hO,h2,List.append_nil]
    (repeat' with_reducible first|intro _|refine rz ?_|refine ra ?_ ?_|omega|simp only [go_sem,h2,hO2])
   case' inr=>
    (repeat' with_reducible first|intro _|refine rz ?_|refine ra ?_ ?_|omega|simp only [go_sem,h2])
    refine ak.k kx ?_
    (repeat' with_reducible first|intro _|refine rz ?_|refine ra ?_ ?_|omega|simp only [go_sem,hO])
   all_goals
    refine aT.intro (fun i:Nat=>⟨124,[(75,.int .i64 i),(74,.int .i64 O.length),(13,.str (gK (bK O) i)),(8,.str O)],[],0⟩) (fun i=>i≤O.length) (fun i=>O.length - i) 0 ?_ (Nat.zero_le _) fun i hi=>?_
    ·refine bQ.aC rfl ?_ ?_<;>simp only [go_sem,Int.natCast_succ,gK]
    by_cases hlt:i<O.length
    ·have f1:((i:Int)<(O.length:Int))=True:=eq_true (by omega)
     have e1:((i:Int)+1)=((i+1:Nat):Int):=by omega
     have e2:(O.drop i).take (i+1 - i)=[O.getD i 0]:=by
      rw [show i+1 - i=1 by omega,List.drop_eq_getElem_cons hlt,getD_lt hlt];rfl
     have f2:(((i+1:Nat):Int)≤(O.length:Int))=True:=eq_true (by omega)
     have ks:=AQ [O.getD i 0]
     have e3:bK [O.getD i 0]=[iU (O.getD i 0)]:=rfl
     have hcs:gK (bK O) (i+1)=Ia (gK (bK O) i) (iU (O.getD i 0)):=by
      rw [←C9 O hlt];rfl
     have hcl:=oz (bK O) i
     rw [e3] at ks
     generalize iU (O.getD i 0)=c at *
     generalize O.getD i 0=c0 at *
     generalize gK (bK O) i=b at *
     have hc0:[c].getD 0 0=c:=rfl
     (repeat' with_reducible first|intro _|refine rz ?_|refine ra ?_ ?_|omega|simp only [go_sem,f1,e1,e2,f2,hc0])
     refine ak.k ks ?_
     (repeat' with_reducible first|intro _|refine rz ?_|refine ra ?_ ?_|omega|simp only [go_sem,hc0])
     ·rename_i g
      have hAl:jo c=true:=(qc c).2 g
      have hcs2:gK (bK O) (i+1)=b++[c]:=by rw [hcs];unfold Ia;rw [if_pos hAl]
      refine ⟨i+1,bQ.aC rfl ?_ ?_,by omega,by omega⟩<;>simp only [go_sem,Int.natCast_succ,hcs2]
     ·rename_i g2 g
      have hAl:¬jo c=true:=fun h=>g2 ((qc c).1 h)
      have kh:=yu b [45]
      rw [show decide (([45]:Bytes).length≤b.length∧b.drop (b.length - ([45]:Bytes).length)=[45])=decide (b≠[]∧sU b=45) from F6 b] at kh
      by_cases hz:sU b=45
      ·rw [decide_eq_true ⟨g,hz⟩] at kh
       have hcs2:gK (bK O) (i+1)=b:=by rw [hcs];unfold Ia;rw [if_neg hAl,if_neg (fun h=>h.2 hz)]
       refine ak.k kh ?_
       (repeat' with_reducible first|intro _|refine rz ?_|refine ra ?_ ?_|omega|simp only [go_sem,hc0])
       refine ⟨i+1,bQ.aC rfl ?_ ?_,by omega,by omega⟩<;>simp only [go_sem,Int.natCast_succ,hcs2]
      ·rw [decide_eq_false (fun h=>hz h.2)] at kh
       have hcs2:gK (bK O) (i+1)=b++[45]:=by rw [hcs];unfold Ia;rw [if_neg hAl,if_pos ⟨g,hz⟩]
       refine ak.k kh ?_
       (repeat' with_reducible first|intro _|refine rz ?_|refine ra ?_ ?_|omega|simp only [go_sem,hc0])
       refine ⟨i+1,bQ.aC rfl ?_ ?_,by omega,by omega⟩<;>simp only [go_sem,Int.natCast_succ,hcs2]
     ·rename_i g2 g
      have hAl:¬jo c=true:=fun h=>g2 ((qc c).1 h)
      have hb0:b=[]:=Classical.byContradiction fun h=>g h
      have hcs2:gK (bK O) (i+1)=b:=by rw [hcs];unfold Ia;rw [if_neg hAl,if_neg (fun h=>h.1 hb0)]
      refine ⟨i+1,bQ.aC rfl ?_ ?_,by omega,by omega⟩<;>simp only [go_sem,Int.natCast_succ,hcs2]
    ·have e:i=O.length:=by omega
     subst e
     have f1:((O.length:Int)<(O.length:Int))=False:=eq_false (by omega)
     have hcl:=oz (bK O) O.length
     have hCl:iO O=lM ((gK (bK O) O.length).take 80):=rfl
     rw [hCl] at hR
     generalize gK (bK O) O.length=C at *
     have kt:=o8 (C.take 80) (by rw [List.length_take];omega)
     have e5:C.take ((min (C.length:Int) 80).toNat - 0)=C.take 80:=by
      rw [show (min (C.length:Int) 80).toNat - 0=min 80 C.length by omega,←List.take_take,List.take_length]
     generalize lM (C.take 80)=D at *
     (repeat' with_reducible first|intro _|refine rz ?_|refine ra ?_ ?_|omega|simp only [go_sem,f1,e5])
     refine ak.k kt ?_
     by_cases hD:D=[]
     ·rw [if_pos hD] at hR
      have g1:(D=[])=True:=eq_true hD
      rw [←hR]
      (repeat' with_reducible first|intro _|refine rz ?_|refine ra ?_ ?_|omega|simp only [go_sem,g1])
      refine bW.auto 0 ?_ rfl ?_<;>simp only [go_sem,Int.natCast_succ,Post]
     ·rw [if_neg hD] at hR
      have g1:(D=[])=False:=eq_false hD
      rw [←hR]
      (repeat' with_reducible first|intro _|refine rz ?_|refine ra ?_ ?_|omega|simp only [go_sem,g1])
      refine bW.auto 0 ?_ rfl ?_<;>simp only [go_sem,Int.natCast_succ,Post]
 have h2:t≠[]:=fun h=>hE (.inl h)
 obtain ⟨j,hj,hfb⟩:∃ j:Nat,j<t.length∧fB t 0=(j:Int):=by
  rcases hfb with h|h
  ·exact absurd (.inr ⟨h2,h⟩) hE
  ·exact h
 rw [hfb,Int.toNat_natCast,if_neg (by omega)] at hst
 rw [hfb] at kx
 by_cases h3:(t.getD j 0).toNat=125
 ·rw [if_pos h3] at hst
  dsimp only at hst
  rw [hst] at hR
  dsimp only at hR
  rw [←hR]
  have g3:(((t.getD j 0).toNat:Int)=125)=True:=eq_true (by omega)
  (repeat' with_reducible first|intro _|refine rz ?_|refine ra ?_ ?_|omega|simp only [go_sem,h2])
  refine ak.k kx ?_
  (repeat' with_reducible first|intro _|refine rz ?_|refine ra ?_ ?_|omega|simp only [go_sem,g3])
  refine bW.auto 0 ?_ rfl ?_<;>simp only [go_sem,Int.natCast_succ,Post]
 rw [if_neg h3] at hst
 have g3:(((t.getD j 0).toNat:Int)=125)=False:=eq_false (by omega)
 by_cases h4:Lib.indexByte t 125<(j:Int)
 ·rw [if_pos (.inl h4)] at hst
  dsimp only at hst
  rw [hst] at hR
  dsimp only at hR
  rw [←hR]
  have g4:(Lib.indexByte t 125<(j:Int))=True:=eq_true h4
  (repeat' with_reducible first|intro _|refine rz ?_|refine ra ?_ ?_|omega|simp only [go_sem,h2])
  refine ak.k kx ?_
  (repeat' with_reducible first|intro _|refine rz ?_|refine ra ?_ ?_|omega|simp only [go_sem,g3])
  refine ak.k ki ?_
  (repeat' with_reducible first|intro _|refine rz ?_|refine ra ?_ ?_|omega|simp only [go_sem,g4])
  refine bW.auto 0 ?_ rfl ?_<;>simp only [go_sem,Int.natCast_succ,Post]
 have hk:∃ k:Nat,j+1≤k∧k<t.length∧Lib.indexByte t 125=(k:Int):=by
  rcases hib with hib|⟨k,h5,h6,h7⟩
  ·omega
  ·refine ⟨k,?_,h5,h6⟩
   have:k≠j:=fun e=>by subst e;exact h3 h7
   omega
 obtain ⟨k,hk1,hk2,hk3⟩:=hk
 have hnm:J5 t=(t.drop (j+1)).take (k - (j+1)):=by unfold J5;rw [hfb,hk3];rfl
 rw [hk3] at hst ki
 rw [hnm,Int.toNat_natCast] at hst
 have kn:=wY ((t.drop (j+1)).take (k - (j+1)))
 have g4:((k:Int)<(j:Int))=False:=eq_false (by omega)
 have e1:((j:Int)+1)=((j+1:Nat):Int):=by omega
 have e2:((k:Int)+1)=((k+1:Nat):Int):=by omega
 have f1:((k:Int)≤(t.length:Int))=True:=eq_true (by omega)
 have f2:(((j+1:Nat):Int)≤(k:Int))=True:=eq_true (by omega)
 cases h5:aX ((t.drop (j+1)).take (k - (j+1))) with
 | false=>
  rw [h5,if_pos (.inr rfl)] at hst
  dsimp only at hst
  rw [hst] at hR
  dsimp only at hR
  rw [←hR]
  rw [h5] at kn
  (repeat' with_reducible first|intro _|refine rz ?_|refine ra ?_ ?_|omega|simp only [go_sem,h2])
  refine ak.k kx ?_
  (repeat' with_reducible first|intro _|refine rz ?_|refine ra ?_ ?_|omega|simp only [go_sem,g3])
  refine ak.k ki ?_
  (repeat' with_reducible first|intro _|refine rz ?_|refine ra ?_ ?_|omega|simp only [go_sem,g4,e1,f1,f2])
  refine ak.k kn ?_
  (repeat' with_reducible first|intro _|exact dn|refine rn ?_|refine ra ?_ ?_)
  refine bW.auto 0 ?_ rfl ?_<;>simp only [go_sem,Int.natCast_succ,Post]
 | true=>
  rw [h5,if_neg (by simp;omega)] at hst
  dsimp only at hst
  rw [h5] at kn
  have hfa:=Gf F ((t.drop (j+1)).take (k - (j+1)))
  haveI cc:xJ [.cell [.str t],.cell [.int .i64 j],.cell [.int .i64 k]]:=⟨rfl⟩
  have kI:=vT F 20 [.cell [.str t],.cell [.int .i64 j],.cell [.int .i64 k]] (fun x=>decide (x.n=(t.drop (j+1)).take (k - (j+1)))) fun x hx=>gJ.gX (Hy x t j k hk1 (by omega) (by omega)) rfl rfl
  have f3:((j:Int)≤(t.length:Int))=True:=eq_true (by omega)
  have f4:(((k+1:Nat):Int)≤(t.length:Int))=True:=eq_true (by omega)
  rcases hfa with ⟨ha,hb⟩|⟨q,hq,ha,hb⟩
  ·rw [hb] at hst
   rw [ha] at kI
   dsimp only at hst
   (repeat' with_reducible first|intro _|refine rz ?_|refine ra ?_ ?_|omega|simp only [go_sem,h2])
   refine ak.k kx ?_
   (repeat' with_reducible first|intro _|refine rz ?_|refine ra ?_ ?_|omega|simp only [go_sem,g3])
   refine ak.k ki ?_
   (repeat' with_reducible first|intro _|refine rz ?_|refine ra ?_ ?_|omega|simp only [go_sem,g4,e1,f1,f2])
   refine ak.k kn ?_
   (repeat' with_reducible first|intro _|exact dn|refine rn ?_|refine ra ?_ ?_)
   refine ak.k kI ?_
   (repeat' with_reducible first|intro _|refine rz ?_|refine ra ?_ ?_|omega|simp only [go_sem,f3,f4,e2])
   have e6:(t.drop (k+1)).take (t.length - (k+1))=t.drop (k+1):=List.take_of_length_le (by rw [List.length_drop];exact Nat.le_refl _)
   refine ⟨(m,t.drop (k+1),out++t.take j,true),bQ.aC rfl ?_ ?_,⟨?_,?_,?_,?_⟩,?_⟩
   ·simp only [go_sem,Int.natCast_succ,e6,Nat.sub_zero]
   ·simp only [go_sem,Int.natCast_succ,e6,Nat.sub_zero]
   ·dsimp only;rw [List.length_drop];omega
   ·dsimp only;rw [List.length_drop];omega
   ·dsimp only;rw [List.length_append,List.length_take];omega
   ·exact hst.symm
   ·dsimp only;omega
  ·rw [hb] at hst
   rw [ha] at kI
   dsimp only at hst
   have hee:=rO F hq
   have hxl:(F.getD q Fc.zero).t.length≤1000:=htx _ (by rw [getD_lt hq];exact List.getElem_mem hq)
   generalize F.getD q Fc.zero=y at *
   (repeat' with_reducible first|intro _|refine rz ?_|refine ra ?_ ?_|omega|simp only [go_sem,h2])
   refine ak.k kx ?_
   (repeat' with_reducible first|intro _|refine rz ?_|refine ra ?_ ?_|omega|simp only [go_sem,g3])
   refine ak.k ki ?_
   (repeat' with_reducible first|intro _|refine rz ?_|refine ra ?_ ?_|omega|simp only [go_sem,g4,e1,f1,f2])
   refine ak.k kn ?_
   (repeat' with_reducible first|intro _|exact dn|refine rn ?_|refine ra ?_ ?_)
   refine ak.k kI ?_
   (repeat' with_reducible first|intro _|refine rz ?_|refine ra ?_ ?_|omega|simp only [go_sem,f3,f4,e2,hee,dU,List.length_map])
   have e6:(t.drop (k+1)).take (t.length - (k+1))=t.drop (k+1):=List.take_of_length_le (by rw [List.length_drop];exact Nat.le_refl _)
   refine ⟨(m,t.drop (k+1),out++t.take j++y.t,no),bQ.aC rfl ?_ ?_,⟨?_,?_,?_,?_⟩,?_⟩
   ·simp only [go_sem,Int.natCast_succ,e6,Nat.sub_zero]
   ·simp only [go_sem,Int.natCast_succ,e6,Nat.sub_zero]
   ·dsimp only;rw [List.length_drop];omega
   ·dsimp only;rw [List.length_drop];omega
   ·dsimp only;rw [List.length_append,List.length_append,List.length_take];omega
   ·exact hst.symm
   ·dsimp only;omega
end Go.Fv.N
/- strconv.Itoa of any number, by the contract of the shelf. -/
namespace Go.Proofs
open Go.Shelf
def Tryd.yB:Go.Shelf.Ren:=⟨fun|171=>25|243=>43|246=>51|283=>54|284=>55|285=>56|286=>57|129=>59|317=>58|318=>60|319=>61|320=>62|337=>63|338=>64|n=>n,fun|3=>3|9=>9|2=>2|4=>4|171=>73|0=>0|53=>74|37=>52|5=>5|173=>77|212=>84|51=>85|20=>20|213=>86|46=>68|232=>89|233=>90|n=>n,fun|17=>3|18=>4|19=>5|n=>n⟩
theorem Tryd.laysM171:Go.Proofs.LaysM.n171 Tryd.prog Tryd.yB:={
 mixed:=by kernel_rfl
 f129:=Tryd.func59.trans (congrArg some (by kernel_rfl))
 f171:=Tryd.func25.trans (congrArg some (by kernel_rfl))
 f243:=Tryd.func43.trans (congrArg some (by kernel_rfl))
 f246:=Tryd.func51.trans (congrArg some (by kernel_rfl))
 f283:=Tryd.func54.trans (congrArg some (by kernel_rfl))
 f284:=Tryd.func55.trans (congrArg some (by kernel_rfl))
 f285:=Tryd.func56.trans (congrArg some (by kernel_rfl))
 f286:=Tryd.func57.trans (congrArg some (by kernel_rfl))
 f317:=Tryd.func58.trans (congrArg some (by kernel_rfl))
 f318:=Tryd.func60.trans (congrArg some (by kernel_rfl))
 f319:=Tryd.func61.trans (congrArg some (by kernel_rfl))
 f320:=Tryd.func62.trans (congrArg some (by kernel_rfl))
 f337:=Tryd.func63.trans (congrArg some (by kernel_rfl))
 f338:=Tryd.func64.trans (congrArg some (by kernel_rfl))
 t0:=Tryd.underlying0
 a0:=Tryd.isAgg0
 z0:=Tryd.sizeOf0
 v0:=Tryd.zeroValue0
 t2:=Tryd.underlying2
 a2:=Tryd.isAgg2
 z2:=Tryd.sizeOf2
 v2:=Tryd.zeroValue2
 t3:=Tryd.underlying3
 a3:=Tryd.isAgg3
 z3:=Tryd.sizeOf3
 v3:=Tryd.zeroValue3
 t4:=Tryd.underlying4
 a4:=Tryd.isAgg4
 z4:=Tryd.sizeOf4
 v4:=Tryd.zeroValue4
 t5:=Tryd.underlying5
 a5:=Tryd.isAgg5
 z5:=Tryd.sizeOf5
 v5:=Tryd.zeroValue5
 t9:=Tryd.underlying9
 a9:=Tryd.isAgg9
 z9:=Tryd.sizeOf9
 v9:=Tryd.zeroValue9
 t20:=Tryd.underlying20
 a20:=Tryd.isAgg20
 z20:=Tryd.sizeOf20
 v20:=Tryd.zeroValue20
 t37:=Tryd.underlying52
 a37:=Tryd.isAgg52
 z37:=Tryd.sizeOf52
 v37:=Tryd.zeroValue52
 t46:=Tryd.underlying68
 a46:=Tryd.isAgg68
 z46:=Tryd.sizeOf68
 v46:=Tryd.zeroValue68
 t51:=Tryd.underlying85
 a51:=Tryd.isAgg85
 z51:=Tryd.sizeOf85
 v51:=Tryd.zeroValue85
 t53:=Tryd.underlying74
 a53:=Tryd.isAgg74
 z53:=Tryd.sizeOf74
 v53:=Tryd.zeroValue74
 t171:=Tryd.underlying73
 a171:=Tryd.isAgg73
 z171:=Tryd.sizeOf73
 v171:=Tryd.zeroValue73
 t173:=Tryd.underlying77
 a173:=Tryd.isAgg77
 z173:=Tryd.sizeOf77
 v173:=Tryd.zeroValue77
 t212:=Tryd.underlying84
 a212:=Tryd.isAgg84
 z212:=Tryd.sizeOf84
 v212:=Tryd.zeroValue84
 t213:=Tryd.underlying86
 a213:=Tryd.isAgg86
 z213:=Tryd.sizeOf86
 t232:=Tryd.underlying89
 a232:=Tryd.isAgg89
 z232:=Tryd.sizeOf89
 v232:=Tryd.zeroValue89
 t233:=Tryd.underlying90
 a233:=Tryd.isAgg90
 z233:=Tryd.sizeOf90
 v233:=Tryd.zeroValue90
 g17:=by kernel_rfl
 g18:=by kernel_rfl
 g19:=by kernel_rfl
 i0:=by kernel_rfl
 i2:=by kernel_rfl
 i3:=by kernel_rfl
 i4:=by kernel_rfl
 i5:=by kernel_rfl
 i9:=by kernel_rfl
 i20:=by kernel_rfl
 i37:=by kernel_rfl
 i46:=by kernel_rfl
 i51:=by kernel_rfl
 i53:=by kernel_rfl
 i171:=by kernel_rfl
 i173:=by kernel_rfl
 i212:=by kernel_rfl
 i232:=by kernel_rfl
 i233:=by kernel_rfl
 m17:=by kernel_rfl
 m18:=by kernel_rfl
 m19:=by kernel_rfl }
end Go.Proofs
namespace Go.Fv.N
open Go Go.Proofs
theorem G7 {P:Program} {w:World} {g:Nat} (hw:mV P w) (hg:Ib P g=some .pow) (hn:P.globalNamed "internal/strconv.uint64pow10" = some g):Lib.TabIs P w "internal/strconv.uint64pow10" .u64 Lib.pow10Tab:=by
 obtain ⟨ob,hh,t,rfl⟩:=hw g _ hg
 unfold Lib.TabIs World.var?
 rw [hn]
 simp only [Option.bind_some,hh]
theorem DZ (n:Int) (h0:-9223372036854775808≤n) (h1:n≤9223372036854775807):aP Tryd.prog 25 [.int .i64 n] (.str (Lib.itoa n)) []:=by
 refine ⟨⟨_,Tryd.func25,by kernel_rfl,by kernel_rfl⟩,fun w T vals hg hv=>?_⟩
 cases hv with
 | cons _ _ _ _ h1 hv=>
  cases hv
  cases h1 with
  | int _ _ e1=>
   have L:=Tryd.laysM171
   have htab:=G7 hg (g:=3) (by kernel_rfl) (by kernel_rfl)
   refine (Any.strconv_Itoa L n h0 (by assumption) w htab).mono ?_
   rintro e w' ⟨rfl,k,os,rfl⟩
   refine ⟨_,rfl,?_,fun _=>undef,0,?_,?_,?_⟩
   ·refine ⟨rfl,rfl,rfl,?_,trivial,fun b hb=>?_⟩
    ·show w.heap.size≤(w.heap++os).size
     rw [Array.size_append];omega
    ·show (w.heap++os)[b]?=_
     exact Array.getElem?_append_left hb
   ·refine .str _ ?_
    have:=Lib.itoa_length_le n h0 (by assumption)
    have e:maxLen=9223372036854775807:=rfl
    omega
   ·intro i it h;cases h
   ·intro i j it jt b h;cases h
end Go.Fv.N
/- Titles that are different, in plain words. -/
namespace Go.Fv.N
open Go Go.Proofs
theorem x9 {a b:Nat} (ha:a<10) (hb:b<10) (h:UInt8.ofNat (48+a)=UInt8.ofNat (48+b)):a=b:=by
 have:=congrArg UInt8.toNat h
 simp at this
 omega
theorem FY (n:Nat):Lib.decDigits n≠[]:=by
 rw [Lib.decDigits]
 split<;>simp
theorem Jz:∀ (n a b:Nat),a≤n→Lib.decDigits a=Lib.decDigits b→a=b:=by
 intro n
 induction n with
 | zero=>
  intro a b ha h
  have:a=0:=by omega
  subst this
  rw [Lib.decDigits,dif_pos (by decide)] at h
  by_cases hb:b<10
  ·rw [Lib.decDigits,dif_pos hb] at h
   exact x9 (by omega) hb (by simpa using h)
  ·rw [Lib.decDigits.eq_def b,dif_neg hb] at h
   have h1:=congrArg List.length h
   have h2:=FY (b / 10)
   have h3:=List.length_pos_iff.2 h2
   simp only [List.length_append,List.length_cons,List.length_nil] at h1
   omega
 | succ n ih=>
  intro a b ha h
  by_cases h1:a<10
  ·rw [Lib.decDigits.eq_def a,dif_pos h1] at h
   by_cases hb:b<10
   ·rw [Lib.decDigits,dif_pos hb] at h
    exact x9 (by omega) hb (by simpa using h)
   ·rw [Lib.decDigits.eq_def b,dif_neg hb] at h
    have h4:=congrArg List.length h
    have h3:=List.length_pos_iff.2 (FY (b / 10))
    simp only [List.length_append,List.length_cons,List.length_nil] at h4
    omega
  ·rw [Lib.decDigits.eq_def a,dif_neg h1] at h
   by_cases hb:b<10
   ·rw [Lib.decDigits.eq_def b,dif_pos hb] at h
    have h4:=congrArg List.length h
    have h3:=List.length_pos_iff.2 (FY (a / 10))
    simp only [List.length_append,List.length_cons,List.length_nil] at h4
    omega
   ·rw [Lib.decDigits.eq_def b,dif_neg hb] at h
    obtain ⟨h5,h6⟩:=List.append_inj' h rfl
    have h7:=ih (a / 10) (b / 10) (by omega) h5
    have h8:=x9 (a:=a%10) (b:=b%10) (by omega) (by omega) (by simpa using h6)
    omega
def cand (s:Bytes) (n:Nat):Bytes:=s++[45]++Lib.itoa (n:Int)
theorem FV {s:Bytes} {a b:Nat} (h:cand s a=cand s b):a=b:=by
 unfold cand at h
 have h2:=List.append_cancel_left h
 unfold Lib.itoa at h2
 rw [if_neg (by omega),if_neg (by omega),Int.toNat_natCast,Int.toNat_natCast] at h2
 exact Jz a a b (Nat.le_refl _) h2
theorem yL:∀ (k:Nat) (H:List Bytes) (s:Bytes) (a:Nat),(∀ m,a≤m→m<a+k→cand s m∈H)→k≤H.length
 | 0,_,_,_,_=>Nat.zero_le _
 | k+1,H,s,a,h=>by
  have h1:=h (a+k) (by omega) (by omega)
  have ih:=yL k (H.erase (cand s (a+k))) s a fun m h2 h3=>by
   have h4:=h m h2 (by omega)
   exact (List.mem_erase_of_ne fun e=>by have:=FV e;omega).2 h4
  rw [List.length_erase_of_mem h1] at ih
  have:=List.length_pos_of_mem h1
  omega
def nx (H:List Bytes) (s:Bytes):Nat→Nat→Bytes
 | 0,n=>cand s n
 | f+1,n=>if cand s n∈H then nx H s f (n+1) else cand s n
theorem Jl (H:List Bytes) (s:Bytes):∀ (f n m:Nat),n≤m→m≤n+f→(∀ k,n≤k→k<m→cand s k∈H)→cand s m∉H→nx H s f n=cand s m
 | 0,n,m,h1,h2,_,_=>by
  have:m=n:=by omega
  subst this;rfl
 | f+1,n,m,h1,h2,h3,h4=>by
  show (if cand s n∈H then nx H s f (n+1) else cand s n)=_
  by_cases e:m=n
  ·subst e;rw [if_neg h4]
  ·rw [if_pos (h3 n (Nat.le_refl _) (by omega))]
   exact Jl H s f (n+1) m (by omega) (by omega) (fun k h5 h6=>h3 k (by omega) h6) h4
def pick (H:List Bytes) (s:Bytes):Bytes:=if s∈H then nx H s (H.length+2) 2 else s
theorem JI {H:List Bytes} {s:Bytes} (h:s∉H):pick H s=s:=by unfold pick;rw [if_neg h]
theorem JH {H:List Bytes} {s:Bytes} {m:Nat} (h:s∈H) (h2:2≤m) (h3:∀ k,2≤k→k<m→cand s k∈H) (h4:cand s m∉H):pick H s=cand s m:=by
 unfold pick
 rw [if_pos h]
 have:=yL (m - 2) H s 2 fun k a b=>h3 k a (by omega)
 exact Jl H s _ 2 m h2 (by omega) h3 h4
def outs (l:List Bytes):Nat→List Bytes
 | 0=>[]
 | i+1=>outs l i++[pick (outs l i) (l.getD i [])]
theorem lD (l:List Bytes):∀ i,(outs l i).length=i
 | 0=>rfl
 | i+1=>by
  show (outs l i++[_]).length=_
  rw [List.length_append,lD l i];rfl
theorem GY (H:List Bytes) (s:Bytes):∀ (f n:Nat),(∀ m,2≤m→m<n→cand s m∈H)→2≤n→n+f=H.length+4→nx H s f n∉H
 | 0,n,h1,h2,h3=>by
  intro _
  have:=yL (n - 2) H s 2 fun k a b=>h1 k a (by omega)
  omega
 | f+1,n,h1,h2,h3=>by
  show (if cand s n∈H then nx H s f (n+1) else cand s n)∉H
  split
  ·rename_i h
   refine GY H s f (n+1) (fun m a b=>?_) (by omega) (by omega)
   by_cases e:m=n
   ·subst e;exact h
   ·exact h1 m a (by omega)
  ·assumption
theorem uF (H:List Bytes) (s:Bytes):pick H s∉H:=by
 unfold pick
 split
 ·exact GY H s _ 2 (fun m a b=>by omega) (Nat.le_refl _) (by omega)
 ·assumption
theorem xk (l:List Bytes):∀ (i j:Nat),j<i→(outs l i).getD j []∉(outs l i).take j
 | 0,j,h=>by omega
 | i+1,j,h=>by
  have hl:=lD l i
  show (outs l i++[pick (outs l i) (l.getD i [])]).getD j []∉(outs l i++[pick (outs l i) (l.getD i [])]).take j
  by_cases e:j=i
  ·subst e
   rw [List.take_left' hl]
   have e2:(outs l j++[pick (outs l j) (l.getD j [])]).getD j []=pick (outs l j) (l.getD j []):=by
    simp [List.getD_eq_getElem?_getD,hl]
   rw [e2]
   exact uF _ _
  ·rw [List.take_append_of_le_length (by omega)]
   have e2:(outs l i++[pick (outs l i) (l.getD i [])]).getD j []=(outs l i).getD j []:=by
    simp [List.getD_eq_getElem?_getD,List.getElem?_append_left (by omega:j<(outs l i).length)]
   rw [e2]
   exact xk l i j (by omega)
theorem Gs {H:List Bytes} {s:Bytes}:jD (jD H s) (pick H s)=H++[pick H s]:=by
 unfold pick
 by_cases h:s∈H
 ·have e:jD H s=H:=by unfold jD;rw [if_pos h]
  rw [e]
  have:=uF H s
  unfold pick at this
  unfold jD
  rw [if_neg this]
 ·rw [if_neg h]
  have e:jD H s=H++[s]:=by unfold jD;rw [if_neg h]
  rw [e]
  unfold jD
  rw [if_pos (by simp)]
theorem Gq {H:List Bytes} {s:Bytes}:jD H (pick H s)=H++[pick H s]:=by
 unfold jD;rw [if_neg (uF H s)]
def EW (s:Bytes):Bool:=decide (s≠[]) && s.all nameB
def jl (l:List Bytes):List Bytes × Int:=
 if 1000<l.length then ([],4) else if l.all EW=true then (outs l l.length,0) else ([],2)
theorem og {p:Bytes→Bool} {l:List Bytes} {i:Nat} (h:i<l.length) (h1:(l.take i).all p=true) (h2:p (l.getD i [])=true):(l.take (i+1)).all p=true:=by
 rw [List.take_succ_eq_append_getElem h,List.all_append,h1]
 rw [getD_lt h] at h2
 simp [h2]
theorem sN {p:Bytes→Bool} {l:List Bytes} {i:Nat} (h:i<l.length) (h2:p (l.getD i [])=false):¬l.all p=true:=fun hl=>by
 have:=List.all_eq_true.1 hl _ (List.getElem_mem h)
 rw [getD_lt h] at h2
 rw [h2] at this;cases this
structure jr (H:List Bytes) (s:Bytes) (n:Nat) (t:Bytes):Prop where
 two:2≤n
 t:(n=2∧t=s)∨(3≤n∧t=cand s (n - 1)∧s∈H)
 all:∀ k,2≤k→k+1<n→cand s k∈H
theorem jr.start (H:List Bytes) (s:Bytes):jr H s 2 s:=⟨Nat.le_refl _,.inl ⟨rfl,rfl⟩,fun k a b=>by omega⟩
theorem jr.bound {H:List Bytes} {s:Bytes} {n:Nat} {t:Bytes} (h:jr H s n t):n≤H.length+3:=by
 have:=yL (n - 3) H s 2 fun k a b=>h.all k a (by omega)
 omega
theorem jr.next {H:List Bytes} {s:Bytes} {n:Nat} {t:Bytes} (h:jr H s n t) (ht:t∈H):jr H s (n+1) (cand s n):=by
 have h2:=h.two
 refine ⟨by omega,.inr ⟨by omega,rfl,?_⟩,fun k a b=>?_⟩
 ·rcases h.t with ⟨_,e⟩|⟨_,_,e⟩
  ·rw [e] at ht;exact ht
  ·exact e
 ·by_cases e:k+1<n
  ·exact h.all k a e
  ·have:k=n - 1:=by omega
   subst this
   rcases h.t with ⟨e,_⟩|⟨_,e,_⟩
   ·omega
   ·rw [e] at ht;exact ht
theorem jr.done {H:List Bytes} {s:Bytes} {n:Nat} {t:Bytes} (h:jr H s n t) (ht:t∉H):t=pick H s:=by
 rcases h.t with ⟨_,e⟩|⟨h3,e,hs⟩
 ·subst e;exact (JI ht).symm
 ·subst e
  exact (JH hs (by omega) (fun k a b=>h.all k a (by omega)) ht).symm
end Go.Fv.N
/- sort.Titles. -/
namespace Go.Fv.N
open Go Go.Proofs
set_option maxHeartbeats 8000000 in
theorem xC (l:List Bytes) (hl:∀ x,x∈l→x.length≤300000000000000):aP Tryd.prog 8 [.ro (.strs l)] (.tup [.own 0,.int .i64 (jl l).2]) [(0,.row 9 (.strs (jl l).1))]:=by
 obtain ⟨R,hR⟩:∃ R,jl l=R:=⟨_,rfl⟩
 rw [hR]
 unfold jl at hR
 refine aP.bH Tryd.func8 rfl (by decide) (by simp [Tryd.f8]) [.tmp 2,.tmp 3] rfl fun w0 T0 _=>?_
 simp only [Tryd.f8,aI]
 by_cases h1:1000<l.length
 ·have f1:((1000:Int)<(l.length:Int))=True:=eq_true (by omega)
  rw [if_pos h1] at hR
  rw [←hR]
  (repeat' with_reducible first|intro _|refine rz ?_|refine ra ?_ ?_|omega|simp only [go_sem,f1])
  refine bW.auto 1 ?_ rfl ?_<;>simp only [go_sem,Int.natCast_succ,Post]
 have f1:((1000:Int)<(l.length:Int))=False:=eq_false (by omega)
 rw [if_neg h1] at hR
 (repeat' with_reducible first|intro _|refine rz ?_|refine ra ?_ ?_|omega|simp only [go_sem,f1])
 refine aT.intro (fun i:Nat=>⟨57,[(17,.int .i64 i),(16,.int .i64 l.length),(15,.ro (.strs l)),(0,.ro (.strs l))],[],0⟩) (fun i=>i≤l.length∧(l.take i).all EW=true) (fun i=>l.length - i) 0 ?_ ⟨Nat.zero_le _,rfl⟩ fun i hi=>?_
 ·refine bQ.aC rfl ?_ ?_<;>simp only [go_sem,Int.natCast_succ]
 obtain ⟨hi,hI⟩:=hi
 by_cases hlt:i<l.length
 ·have f2:((i:Int)<(l.length:Int))=True:=eq_true (by omega)
  have hno:=@sN EW l i hlt
  have hye:=@og EW l i hlt hI
  generalize hs:l.getD i []=s at *
  have k:=Bc s cutset cut_small (by decide)
  rw [tK] at k
  have ht:=Bd nameB s
  generalize (dD nameB s).dropWhile nameB=u at *
  by_cases h0:s=[]
  ·rw [if_neg (hno (by unfold EW;rw [h0];rfl))] at hR
   rw [←hR]
   (repeat' with_reducible first|intro _|refine rz ?_|refine ra ?_ ?_|omega|simp only [go_sem,f2,hs,h0])
   refine bW.auto 1 ?_ rfl ?_<;>simp only [go_sem,Int.natCast_succ,Post]
  by_cases hu:u=[]
  ·have g1:(u=[])=True:=eq_true hu
   have hok:=hye (by unfold EW;rw [decide_eq_true h0,ht.1 hu];rfl)
   (repeat' with_reducible first|intro _|refine rz ?_|refine ra ?_ ?_|omega|simp only [go_sem,f2,hs,h0])
   refine ak.fr (args':=[.str s,.str cutset]) (gJ.gX k rfl rfl) (by simp [bD,bG,aF,cutset]) 0 rfl (by simp [dG]) ?_
   (repeat' with_reducible first|intro _|refine rz ?_|refine ra ?_ ?_|omega|simp only [go_sem,g1])
   refine ⟨i+1,bQ.aC rfl ?_ ?_,⟨by omega,hok⟩,by omega⟩<;>simp only [go_sem,Int.natCast_succ]
  ·have g1:(u=[])=False:=eq_false hu
   rw [if_neg (hno (by unfold EW;rw [Bool.and_eq_false_iff];exact .inr (Bool.eq_false_iff.2 fun h=>hu (ht.2 h))))] at hR
   rw [←hR]
   (repeat' with_reducible first|intro _|refine rz ?_|refine ra ?_ ?_|omega|simp only [go_sem,f2,hs,h0])
   refine ak.fr (args':=[.str s,.str cutset]) (gJ.gX k rfl rfl) (by simp [bD,bG,aF,cutset]) 0 rfl (by simp [dG]) ?_
   (repeat' with_reducible first|intro _|refine rz ?_|refine ra ?_ ?_|omega|simp only [go_sem,g1])
   refine bW.auto 1 ?_ rfl ?_<;>simp only [go_sem,Int.natCast_succ,Post]
 have e:i=l.length:=by omega
 subst e
 rw [List.take_length] at hI
 rw [if_pos hI] at hR
 rw [←hR]
 have f2:((l.length:Int)<(l.length:Int))=False:=eq_false (by omega)
 (repeat' with_reducible first|intro _|refine rz ?_|refine ra ?_ ?_|omega|simp only [go_sem,f2])
 refine aT.intro (fun i:Nat=>⟨57,[(32,.int .i64 i),(31,.int .i64 l.length),(30,.ro (.strs l)),(6,.own 0),(7,.own 1)],[(0,.map ((outs l i).map .str) ((outs l i).map fun _=>.bool true)),(1,.row 9 (.strs (outs l i)))],2⟩) (fun i=>i≤l.length) (fun i=>l.length - i) 0 ?_ (Nat.zero_le _) fun i hi=>?_
 ·refine bQ.aC rfl ?_ ?_<;>simp only [go_sem,Int.natCast_succ,outs]
  all_goals first|rfl|exact ⟨rfl,rfl⟩|trace_state
 have hol:=lD l i
 by_cases hlt:i<l.length
 ·have f3:((i:Int)<(l.length:Int))=True:=eq_true (by omega)
  have hst:outs l (i+1)=outs l i++[pick (outs l i) (l.getD i [])]:=rfl
  have hin:=@Gs (outs l i) (l.getD i [])
  generalize hH1:outs l (i+1)=H1 at *
  generalize outs l i=H at *
  have hsl:(l.getD i []).length≤300000000000000:=hl _ (by rw [getD_lt hlt];exact List.getElem_mem hlt)
  generalize hs:l.getD i []=s at *
  rw [←hst] at hin
  (repeat' with_reducible first|intro _|refine rz ?_|refine ra ?_ ?_|omega|simp only [go_sem,f3,hs])
  refine aT.intro (fun x:Nat × Bytes=>⟨57,[(11,.int .i64 x.1),(10,.str x.2),(9,.str s),(32,.int .i64 i),(31,.int .i64 l.length),(30,.ro (.strs l)),(6,.own 0),(7,.own 1)],[(0,.map (H.map .str) (H.map fun _=>.bool true)),(1,.row 9 (.strs H))],2⟩) (fun x=>jr H s x.1 x.2) (fun x=>H.length+4 - x.1) (2,s) ?_ (jr.start H s) fun x hx=>?_
  ·refine bQ.aC rfl ?_ ?_<;>simp only [go_sem,Int.natCast_succ,hs]
  obtain ⟨n,t⟩:=x
  dsimp only at hx
  have hb:=hx.bound
  have hb2:=hx.two
  by_cases ht:t∈H
  ·have g2:(t∈H)=True:=eq_true ht
   have ki:=DZ (n:Int) (by omega) (by omega)
   have hc:s++[45]++Lib.itoa (n:Int)=cand s n:=rfl
   have hli:=Lib.itoa_length_le (n:Int) (by omega) (by omega)
   generalize Lib.itoa (n:Int)=z at *
   (repeat' with_reducible first|intro _|refine rz ?_|refine ra ?_ ?_|omega|simp only [go_sem,g2])
   refine ak.k ki ?_
   (repeat' with_reducible first|intro _|refine rz ?_|refine ra ?_ ?_|omega|simp only [go_sem,hc])
   refine ⟨(n+1,cand s n),bQ.aC rfl ?_ ?_,hx.next ht,by dsimp only;omega⟩<;>simp only [go_sem,Int.natCast_succ,hc]
   all_goals trace_state
  ·have g2:(t∈H)=False:=eq_false ht
   have hd:=hx.done ht
   rw [←hd] at hst hin
   (repeat' with_reducible first|intro _|refine rz ?_|refine ra ?_ ?_|omega|simp only [go_sem,g2])
   refine ⟨i+1,bQ.aC rfl ?_ ?_,by omega,by omega⟩<;>simp only [go_sem,Int.natCast_succ,hin,hH1,←hst]
   all_goals trace_state
 have e:i=l.length:=by omega
 subst e
 (repeat' with_reducible first|intro _|refine rz ?_|refine ra ?_ ?_|omega|simp only [go_sem,f2])
 refine bW.auto 1 ?_ rfl ?_<;>simp only [go_sem,Int.natCast_succ,Post]
end Go.Fv.N
/- The reference's TitlesOf. -/
namespace Go.Fv.N
open Go Go.Proofs
def xW (s:Bytes) (j:Nat):Bool:=!(decide (s≠[]) && (s.take j).all nameB)
theorem Ez (s:Bytes):xW s 0=decide (s=[]):=by unfold xW;by_cases h:s=[]<;>simp [h]
theorem Ey {s:Bytes} {j:Nat} (h:j<s.length):xW s (j+1)=(xW s j || !nameB (s.getD j 0)):=by
 unfold xW
 rw [List.take_succ_eq_append_getElem h,List.all_append,getD_lt h]
 cases decide (s≠[])<;>cases (s.take j).all nameB<;>simp
theorem FQ (s:Bytes):xW s s.length=!EW s:=by unfold xW EW;rw [List.take_length]
theorem CJ (c:UInt8):(!nameB c)=decide ((((c.toNat:Int)<97∨122<(c.toNat:Int))∧((c.toNat:Int)<48∨57<(c.toNat:Int)))∧¬(c.toNat:Int)=45):=by
 have h:=l9 c
 cases hb:nameB c with
 | true=>
  rw [hb] at h
  symm
  rw [Bool.not_true,decide_eq_false_iff_not]
  have:=h.1 rfl
  omega
 | false=>
  rw [hb] at h
  symm
  rw [Bool.not_false,decide_eq_true_eq]
  have:¬((97≤c.toNat∧c.toNat≤122)∨(48≤c.toNat∧c.toNat≤57)∨c.toNat=45):=fun h2=>by have:=h.2 h2;cases this
  omega
set_option maxHeartbeats 8000000 in
theorem qZ (l:List Bytes) (hl:∀ x,x∈l→x.length≤300000000000000):aP Tryd.prog 9 [.ro (.strs l)] (.tup [.own 0,.int .i64 (jl l).2]) [(0,.row 9 (.strs (jl l).1))]:=by
 obtain ⟨R,hR⟩:∃ R,jl l=R:=⟨_,rfl⟩
 rw [hR]
 unfold jl at hR
 refine aP.bH Tryd.func9 rfl (by decide) (by simp [Tryd.f9]) [.tmp 2,.tmp 3] rfl fun w0 T0 _=>?_
 simp only [Tryd.f9,aI]
 by_cases h1:1000<l.length
 ·have f1:((1000:Int)<(l.length:Int))=True:=eq_true (by omega)
  rw [if_pos h1] at hR
  rw [←hR]
  (repeat' with_reducible first|intro _|refine rz ?_|refine ra ?_ ?_|omega|simp only [go_sem,f1])
  refine bW.auto 1 ?_ rfl ?_<;>simp only [go_sem,Int.natCast_succ,Post]
 have f1:((1000:Int)<(l.length:Int))=False:=eq_false (by omega)
 rw [if_neg h1] at hR
 (repeat' with_reducible first|intro _|refine rz ?_|refine ra ?_ ?_|omega|simp only [go_sem,f1])
 refine aT.intro (fun i:Nat=>⟨84,[(21,.int .i64 i),(20,.int .i64 l.length),(19,.ro (.strs l)),(0,.ro (.strs l)),(4,.own 0),(5,.own 1)],[(0,.map [] []),(1,.row 9 (.strs []))],2⟩) (fun i=>i≤l.length∧(l.take i).all EW=true) (fun i=>l.length - i) 0 ?_ ⟨Nat.zero_le _,rfl⟩ fun i hi=>?_
 ·refine bQ.aC rfl ?_ ?_<;>simp only [go_sem,Int.natCast_succ]
  all_goals first|rfl|exact ⟨rfl,rfl⟩|trace_state
 obtain ⟨hi,hI⟩:=hi
 by_cases hlt:i<l.length
 ·have f2:((i:Int)<(l.length:Int))=True:=eq_true (by omega)
  have hno:=@sN EW l i hlt
  have hye:=@og EW l i hlt hI
  generalize hs:l.getD i []=s at *
  (repeat' with_reducible first|intro _|refine rz ?_|refine ra ?_ ?_|omega|simp only [go_sem,f2,hs])
  refine aT.intro (fun j:Nat=>⟨84,[(29,.int .i64 j),(28,.int .i64 s.length),(8,.bool (xW s j)),(7,.str s),(21,.int .i64 i),(20,.int .i64 l.length),(19,.ro (.strs l)),(0,.ro (.strs l)),(4,.own 0),(5,.own 1)],[(0,.map [] []),(1,.row 9 (.strs []))],2⟩) (fun j=>j≤s.length) (fun j=>s.length - j) 0 ?_ (Nat.zero_le _) fun j hj=>?_
  ·refine bQ.aC rfl ?_ ?_<;>simp only [go_sem,Int.natCast_succ,hs,Ez]
  by_cases hjl:j<s.length
  ·have f3:((j:Int)<(s.length:Int))=True:=eq_true (by omega)
   have hsu:=Ey hjl
   cases hb:xW s j with
   | true=>
    rw [hb,Bool.true_or] at hsu
    (repeat' with_reducible first|intro _|refine rz ?_|refine ra ?_ ?_|omega|simp only [go_sem,f3])
    refine ⟨j+1,bQ.aC rfl ?_ ?_,by omega,by omega⟩<;>simp only [go_sem,Int.natCast_succ,hsu]
   | false=>
    rw [hb,Bool.false_or,CJ] at hsu
    (repeat' with_reducible first|intro _|refine rz ?_|refine ra ?_ ?_|omega|simp only [go_sem,f3])
    refine ⟨j+1,bQ.aC rfl ?_ ?_,by omega,by omega⟩<;>simp only [go_sem,Int.natCast_succ,hsu]
  ·have e:j=s.length:=by omega
   subst e
   rw [FQ]
   have f3:((s.length:Int)<(s.length:Int))=False:=eq_false (by omega)
   cases hk:EW s with
   | true=>
    have hok2:=hye hk
    (repeat' with_reducible first|intro _|refine rz ?_|refine ra ?_ ?_|omega|simp only [go_sem,f3])
    refine ⟨i+1,bQ.aC rfl ?_ ?_,⟨by omega,hok2⟩,by omega⟩<;>simp only [go_sem,Int.natCast_succ]
    all_goals first|rfl|exact ⟨rfl,rfl⟩|trace_state
   | false=>
    rw [if_neg (hno hk)] at hR
    rw [←hR]
    (repeat' with_reducible first|intro _|refine rz ?_|refine ra ?_ ?_|omega|simp only [go_sem,f3])
    refine bW.auto 1 ?_ rfl ?_<;>simp only [go_sem,Int.natCast_succ,Post]
 have e:i=l.length:=by omega
 subst e
 rw [List.take_length] at hI
 rw [if_pos hI] at hR
 rw [←hR]
 have f2:((l.length:Int)<(l.length:Int))=False:=eq_false (by omega)
 (repeat' with_reducible first|intro _|refine rz ?_|refine ra ?_ ?_|omega|simp only [go_sem,f2])
 refine aT.intro (fun i:Nat=>⟨84,[(61,.int .i64 i),(60,.int .i64 l.length),(59,.ro (.strs l)),(4,.own 0),(5,.own 1)],[(0,.map ((outs l i).map .str) ((outs l i).map fun _=>.bool true)),(1,.row 9 (.strs (outs l i)))],2⟩) (fun i=>i≤l.length) (fun i=>l.length - i) 0 ?_ (Nat.zero_le _) fun i hi=>?_
 ·refine bQ.aC rfl ?_ ?_<;>simp only [go_sem,Int.natCast_succ,outs]
  all_goals first|rfl|exact ⟨rfl,rfl⟩|trace_state
 have hol:=lD l i
 by_cases hlt:i<l.length
 ·have f3:((i:Int)<(l.length:Int))=True:=eq_true (by omega)
  have hst:outs l (i+1)=outs l i++[pick (outs l i) (l.getD i [])]:=rfl
  have hin:=@Gq (outs l i) (l.getD i [])
  generalize hH1:outs l (i+1)=H1 at *
  generalize outs l i=H at *
  have hsl:(l.getD i []).length≤300000000000000:=hl _ (by rw [getD_lt hlt];exact List.getElem_mem hlt)
  generalize hs:l.getD i []=s at *
  rw [←hst] at hin
  (repeat' with_reducible first|intro _|refine rz ?_|refine ra ?_ ?_|omega|simp only [go_sem,f3,hs])
  refine aT.intro (fun x:Nat × Bytes=>⟨84,[(14,.int .i64 x.1),(13,.str x.2),(12,.str s),(61,.int .i64 i),(60,.int .i64 l.length),(59,.ro (.strs l)),(4,.own 0),(5,.own 1)],[(0,.map (H.map .str) (H.map fun _=>.bool true)),(1,.row 9 (.strs H))],2⟩) (fun x=>jr H s x.1 x.2) (fun x=>H.length+4 - x.1) (2,s) ?_ (jr.start H s) fun x hx=>?_
  ·refine bQ.aC rfl ?_ ?_<;>simp only [go_sem,Int.natCast_succ,hs]
  obtain ⟨n,t⟩:=x
  dsimp only at hx
  have hb:=hx.bound
  have hb2:=hx.two
  by_cases ht:t∈H
  ·have g2:(t∈H)=True:=eq_true ht
   have ki:=DZ (n:Int) (by omega) (by omega)
   have hc:s++[45]++Lib.itoa (n:Int)=cand s n:=rfl
   have hli:=Lib.itoa_length_le (n:Int) (by omega) (by omega)
   generalize Lib.itoa (n:Int)=z at *
   (repeat' with_reducible first|intro _|refine rz ?_|refine ra ?_ ?_|omega|simp only [go_sem,g2])
   refine ak.k ki ?_
   (repeat' with_reducible first|intro _|refine rz ?_|refine ra ?_ ?_|omega|simp only [go_sem,hc])
   refine ⟨(n+1,cand s n),bQ.aC rfl ?_ ?_,hx.next ht,by dsimp only;omega⟩<;>simp only [go_sem,Int.natCast_succ,hc]
   all_goals trace_state
  ·have g2:(t∈H)=False:=eq_false ht
   have hd:=hx.done ht
   rw [←hd] at hst hin
   (repeat' with_reducible first|intro _|refine rz ?_|refine ra ?_ ?_|omega|simp only [go_sem,g2])
   refine ⟨i+1,bQ.aC rfl ?_ ?_,by omega,by omega⟩<;>simp only [go_sem,Int.natCast_succ,hin,hH1,←hst]
   all_goals trace_state
 have e:i=l.length:=by omega
 subst e
 (repeat' with_reducible first|intro _|refine rz ?_|refine ra ?_ ?_|omega|simp only [go_sem,f2])
 refine bW.auto 1 ?_ rfl ?_<;>simp only [go_sem,Int.natCast_succ,Post]
end Go.Fv.N
