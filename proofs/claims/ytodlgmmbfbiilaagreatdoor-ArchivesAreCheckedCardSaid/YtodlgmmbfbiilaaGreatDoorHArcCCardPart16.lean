/-
  A part of the proof of the claim: walks over the program's functions and the plain laws that these need. No condition of its own.
-/
import Derived.Test.YtodlgmmbfbiilaaGreatDoorHArcCCardPart13
import Derived.Test.YtodlgmmbfbiilaaGreatDoorHArcCCardPart15
set_option linter.unusedSimpArgs false
set_option linter.unusedVariables false
set_option linter.unnecessarySimpa false
set_option maxRecDepth 8000
/- An archive with another byte at one place: what is told of it. -/
namespace Go.Fv.H
open Go Go.Proofs
def Gn (u:Bytes):Option ((Bytes × Nat) × Bytes):=
 if u.length<1 then none
 else if (u.drop 1).length<aT (u.take 1)+4 then none
 else some (((u.drop 1).take (aT (u.take 1)),aT (((u.drop 1).drop (aT (u.take 1))).take 4)),(u.drop 1).drop (aT (u.take 1)+4))
def EY:Nat→Bytes→Option (List (Bytes × Nat) × Bytes)
 | 0,u=>some ([],u)
 | k+1,u=>match Gn u with
  | none=>none
  | some (e,v)=>match EY k v with
   | none=>none
   | some (l,w)=>some (e::l,w)
theorem Nu:∀ (k:Nat) (u:Bytes) (l:List (Bytes × Nat)) (v:Bytes) (e:Bytes × Nat) (w:Bytes),EY k u=some (l,v)→Gn v=some (e,w)→EY (k+1) u=some (l++[e],w)
 | 0,u,l,v,e,w,h1,h2=>by
  cases h1
  show (match Gn u with|none=>none|some (e,v)=>_)=_
  rw [h2];rfl
 | k+1,u,l,v,e,w,h1,h2=>by
  have h1':(match Gn u with|none=>none|some (e,v)=>match EY k v with|none=>none|some (l,w)=>some (e::l,w))=some (l,v):=h1
  cases hp:Gn u with
  | none=>rw [hp] at h1';cases h1'
  | some z=>
   obtain ⟨e0,v0⟩:=z
   rw [hp] at h1'
   dsimp only at h1'
   cases hq:EY k v0 with
   | none=>rw [hq] at h1';cases h1'
   | some z2=>
    obtain ⟨l0,w0⟩:=z2
    rw [hq] at h1'
    cases h1'
    have ih:=Nu k v0 l0 v e w hq h2
    show (match Gn u with|none=>none|some (e,v)=>match EY (k+1) v with|none=>none|some (l,w)=>some (e::l,w))=_
    rw [hp]
    dsimp only
    rw [ih];rfl
theorem y5 {k:Nat} {u:Bytes} {l:List (Bytes × Nat)} {w:Bytes} (h:EY (k+1) u=some (l,w)):∃ e v l0,Gn u=some (e,v)∧EY k v=some (l0,w)∧l=e::l0:=by
 have h1':(match Gn u with|none=>none|some (e,v)=>match EY k v with|none=>none|some (l,w)=>some (e::l,w))=some (l,w):=h
 cases hp:Gn u with
 | none=>rw [hp] at h1';cases h1'
 | some z=>
  obtain ⟨e0,v0⟩:=z
  rw [hp] at h1'
  dsimp only at h1'
  cases hq:EY k v0 with
  | none=>rw [hq] at h1';cases h1'
  | some z2=>
   obtain ⟨l0,w0⟩:=z2
   rw [hq] at h1'
   cases h1'
   exact ⟨e0,v0,l0,rfl,hq,rfl⟩
theorem ZJ {s:Bytes} {a:Nat} (ha:a≤s.length) (h:(qC s a false).sh=false):Gn (s.drop a)=some (((qC s a false).n,(qC s a false).k),s.drop (qC s a false).a):=by
 unfold qC at h ⊢
 dsimp only at h ⊢
 by_cases h1:s.length<a+1
 ·have e:tk s a false 1=⟨[],a,true⟩:=by unfold tk;rw [if_pos (.inr h1)]
  rw [e] at h
  simp only [FV] at h
  cases h
 have e:tk s a false 1=⟨(s.drop a).take 1,a+1,false⟩:=by unfold tk;rw [if_neg (by simp;omega)]
 rw [e] at h ⊢
 dsimp only at h ⊢
 generalize hn:aT ((s.drop a).take 1)=n at *
 by_cases h2:s.length<a+1+n
 ·have e:tk s (a+1) false n=⟨[],a+1,true⟩:=by unfold tk;rw [if_pos (.inr h2)]
  rw [e] at h
  simp only [FV] at h
  cases h
 have e:tk s (a+1) false n=⟨(s.drop (a+1)).take n,a+1+n,false⟩:=by unfold tk;rw [if_neg (by simp;omega)]
 rw [e] at h ⊢
 dsimp only at h ⊢
 by_cases h3:s.length<a+1+n+4
 ·have e:tk s (a+1+n) false 4=⟨[],a+1+n,true⟩:=by unfold tk;rw [if_pos (.inr h3)]
  rw [e] at h
  cases h
 have e:tk s (a+1+n) false 4=⟨(s.drop (a+1+n)).take 4,a+1+n+4,false⟩:=by unfold tk;rw [if_neg (by simp;omega)]
 rw [e]
 dsimp only
 unfold Gn
 rw [hn,if_neg (by rw [List.length_drop];omega),if_neg (by rw [List.drop_drop,List.length_drop];omega)]
 simp only [List.drop_drop]
 rw [show a+1+(n+4)=a+1+n+4 by omega]
theorem V7 {s:Bytes} (h6:6≤s.length):∀ i,(ls s i).sh=false→EY i (s.drop 6)=some ((ls s i).l,s.drop (ls s i).a)
 | 0,_=>rfl
 | i+1,h=>by
  have hb:(ls s i).sh=false:=by
   cases hs:(ls s i).sh with
   | false=>rfl
   | true=>
    have:=Sl hs 1
    rw [this] at h;cases h
  have ih:=V7 h6 i hb
  have ho:=(Ih h6 i).a1
  have hx:(qC s (ls s i).a (ls s i).sh).sh=false:=h
  rw [hb] at hx
  have hp:=ZJ ho hx
  have:=Nu i _ _ _ _ _ ih hp
  rw [this]
  show _=some ((ls s i).l++[((qC s (ls s i).a (ls s i).sh).n,(qC s (ls s i).a (ls s i).sh).k)],s.drop (qC s (ls s i).a (ls s i).sh).a)
  rw [hb]
theorem be1 (n:Nat):bV 1 n=[UInt8.ofNat n]:=by
 have:=gY 0 n
 rw [oH] at this
 exact this
theorem SH {n q:Bytes} (t:Bytes) (hn:n.length<256) (hq:q.length=4):Gn (bV 1 n.length++(n++(q++t)))=some ((n,aT q),t):=by
 have n1:aT (bV 1 n.length)=n.length:=by rw [ji,Nat.mod_eq_of_lt (by omega)]
 have b1:=aQ 1 n.length
 unfold Gn
 rw [take_len b1,kM b1,n1,List.take_left,←List.drop_drop,List.drop_left,take_len hq,kM hq,if_neg (by simp only [List.length_append,b1];omega),if_neg (by simp only [List.length_append,hq];omega)]
theorem Di {x:Bytes × Bytes} (t:Bytes) (hn:x.1.length<256) (hk:x.2.length<4294967296):Gn (fB x++t)=some ((x.1,x.2.length),t):=by
 have n3:aT (bV 4 x.2.length)=x.2.length:=by rw [ji,Nat.mod_eq_of_lt (by omega)]
 have:=SH t hn (aQ 4 x.2.length)
 rw [n3] at this
 unfold fB
 rw [List.append_assoc,List.append_assoc]
 exact this
theorem JH:∀ (l:List (Bytes × Bytes)) (t:Bytes),(∀ x,x∈l→x.1.length<256∧x.2.length<4294967296)→EY l.length (l.flatMap fB++t)=some (l.map (fun x=>(x.1,x.2.length)),t)
 | [],t,_=>rfl
 | x::l,t,h=>by
  have hx:=h x List.mem_cons_self
  have ih:=JH l t fun y hy=>h y (List.mem_cons_of_mem _ hy)
  rw [List.flatMap_cons,List.append_assoc]
  show (match Gn _ with|none=>none|some (e,v)=>match EY l.length v with|none=>none|some (l,w)=>some (e::l,w))=_
  rw [Di _ hx.1 hx.2]
  dsimp only
  rw [ih];rfl
theorem YK (l:List (Bytes × Bytes)) (t:Bytes) (h:∀ x,x∈l→x.1.length<256∧x.2.length<4294967296) (j:Nat):EY (l.length+j) (l.flatMap fB++t)=(EY j t).map fun z=>(l.map (fun x=>(x.1,x.2.length))++z.1,z.2):=by
 induction l with
 | nil=>
  rw [List.length_nil,Nat.zero_add]
  show EY j t=_
  cases EY j t<;>rfl
 | cons x l ih=>
  have hx:=h x List.mem_cons_self
  have ih:=ih fun y hy=>h y (List.mem_cons_of_mem _ hy)
  rw [List.flatMap_cons,List.append_assoc,List.length_cons,show l.length+1+j=(l.length+j)+1 by omega]
  show (match Gn _ with|none=>none|some (e,v)=>match EY (l.length+j) v with|none=>none|some (l,w)=>some (e::l,w))=_
  rw [Di _ hx.1 hx.2]
  dsimp only
  rw [ih]
  cases EY j t<;>rfl
theorem YJ {u:Bytes} {e:Bytes × Nat} {v:Bytes} (h:Gn u=some (e,v)):v.length≤u.length:=by
 unfold Gn at h
 split at h
 ·cases h
 ·split at h
  ·cases h
  ·cases h
   rw [List.length_drop,List.length_drop];omega
theorem SI:∀ (k:Nat) (u:Bytes) (l:List (Bytes × Nat)) (v:Bytes),EY k u=some (l,v)→v.length≤u.length
 | 0,u,l,v,h=>by cases h;exact Nat.le_refl _
 | k+1,u,l,v,h=>by
  obtain ⟨e,w,l0,h1,h2,_⟩:=y5 h
  exact Nat.le_trans (SI k w l0 v h2) (YJ h1)
theorem IV (x:Bytes × Nat) (l:List (Bytes × Nat)):dO (x::l)=x.2+dO l:=by unfold dO;simp
theorem SE (c:UInt8):aT [c]=c.toNat:=by unfold aT;simp
theorem Wu {c:UInt8} (h:nameB c=true):45≤c.toNat:=by
 unfold nameB at h
 simp only [Bool.or_eq_true,Bool.and_eq_true,decide_eq_true_eq] at h
 first|omega|(rcases h with h|h<;>first|omega|(subst h;decide))
theorem EN {n:Bytes} (h:dA n=true):∀ c,c∈n→45≤c.toNat:=by
 intro c hc
 unfold dA at h
 simp only [Bool.and_eq_true] at h
 exact Wu (List.all_eq_true.1 h.2 c hc)
theorem ER:∀ (b:Bytes) (n:Nat),b.foldl (fun n c=>n*256+c.toNat) n=n*256 ^ b.length+aT b
 | [],n=>by simp [aT]
 | c::b,n=>by
  have h1:=ER b (n*256+c.toNat)
  have h2:=ER b (0*256+c.toNat)
  have e:aT (c::b)=b.foldl (fun n c=>n*256+c.toNat) (0*256+c.toNat):=rfl
  rw [e,h2,List.foldl_cons,h1,List.length_cons,Nat.zero_mul,Nat.zero_add,Nat.pow_succ,Nat.add_mul,Nat.mul_comm (256 ^ b.length) 256,←Nat.mul_assoc,Nat.add_assoc]
theorem Af (c:UInt8) (b:Bytes):aT (c::b)=c.toNat*256 ^ b.length+aT b:=by
 have h:=ER b (0*256+c.toNat)
 have e:aT (c::b)=b.foldl (fun n c=>n*256+c.toNat) (0*256+c.toNat):=rfl
 rw [e,h,Nat.zero_mul,Nat.zero_add]
theorem gdl {a b:Bytes} {k:Nat} (h:k<a.length):(a++b).getD k 0=a.getD k 0:=by
 rw [List.getD_eq_getElem?_getD,List.getD_eq_getElem?_getD,List.getElem?_append_left h]
theorem gdr {a b:Bytes} {k:Nat} (h:a.length≤k):(a++b).getD k 0=b.getD (k - a.length) 0:=by
 rw [List.getD_eq_getElem?_getD,List.getD_eq_getElem?_getD,List.getElem?_append_right h]
theorem YC {c:UInt8} {r:Bytes} (hr:r.length=3) (hc:45≤c.toNat):754974720≤aT (c::r):=by
 rw [Af,hr]
 omega
theorem Tz {n:Nat} (h:n<16777216):∃ r:Bytes,bV 4 n=0::r∧r.length=3:=by
 have e:=CJ 1 3 n
 rw [show 1+3=4 from rfl,be1,Nat.div_eq_of_lt (by simpa using h)] at e
 exact ⟨bV 3 n,e,aQ _ _⟩
theorem Lu:∀ (l:List (Bytes × Bytes)) (T:Bytes) (k:Nat) (c:UInt8) (d:Nat) (l':List (Bytes × Nat)) (V:Bytes),
  (∀ x,x∈l→dA x.1=true∧x.2.length<16777216)→k<(l.flatMap fB).length→c≠(l.flatMap fB).getD k 0 →
  (l.flatMap fB).length+T.length≤4194304→EY l.length ((l.flatMap fB).set k c++T)=some (l',V) →
  (∀ x,x∈l'→dA x.1=true)→V.length=dO l'+d→V=T
 | [],T,k,c,d,l',V,_,hk,_,_,_,_,_=>by cases hk
 | x::l,T,k,c,d,l',V,hx,hk,hne,hlen,hp,hnm,hV=>by
  obtain ⟨x1,x2⟩:=hx x List.mem_cons_self
  have hxl:=fun y hy=>hx y (List.mem_cons_of_mem x hy)
  obtain ⟨xn0,xn⟩:=oP x1
  have hVl:=SI _ _ _ _ hp
  rw [List.length_append,List.length_set] at hVl
  rw [List.flatMap_cons] at hk hne hlen hp
  have hpe:=JH l T fun y hy=>⟨by have:=oP (hxl y hy).1;omega,by have:=(hxl y hy).2;omega⟩
  have hel:=yD x
  by_cases hin:k<(fB x).length
  rotate_left
  ·rw [List.set_append_right _ _ (by omega),List.append_assoc] at hp
   obtain ⟨e,v,l0,h1,h2,h3⟩:=y5 hp
   rw [Di _ (by omega) (by omega)] at h1
   cases h1
   subst h3
   rw [List.length_append] at hk hlen
   rw [gdr (by omega)] at hne
   rw [IV] at hV
   refine Lu l T _ c (d+x.2.length) l0 V hxl (by omega) hne (by omega) h2 (fun y hy=>hnm y (List.mem_cons_of_mem _ hy)) ?_
   dsimp only at hV
   omega
  rw [List.set_append_left _ _ hin,List.append_assoc] at hp
  rw [gdl hin] at hne
  obtain ⟨e,v,l0,h1,h2,h3⟩:=y5 hp
  have hen:=hnm e (by rw [h3];exact List.mem_cons_self)
  by_cases hk0:k=0
  ·subst hk0
   exfalso
   have b1:=be1 x.1.length
   obtain ⟨r,hr,hr3⟩:=Tz x2
   have es:(fB x).set 0 c=c::(x.1++bV 4 x.2.length):=by unfold fB;rw [b1];rfl
   have e0:(fB x).getD 0 0=UInt8.ofNat x.1.length:=by unfold fB;rw [b1];rfl
   rw [e0] at hne
   rw [es,List.cons_append,List.append_assoc,hr] at h1
   have hc:c.toNat≠x.1.length:=by
    intro h
    apply hne
    rw [←h];simp
   have tk1:∀ W:Bytes,(c::W).take 1=[c]:=fun W=>rfl
   have dr1:∀ W:Bytes,(c::W).drop 1=W:=fun W=>rfl
   unfold Gn at h1
   rw [tk1,dr1,SE] at h1
   generalize hW:x.1++(0::r++(l.flatMap fB++T))=W at h1
   split at h1
   ·cases h1
   split at h1
   ·cases h1
   rename_i hsh
   cases h1
   dsimp only at hen
   rcases Nat.lt_or_gt_of_ne hc with hlt|hgt
   ·have hbig:754974720≤aT ((W.drop c.toNat).take 4):=by
     have hcw:c.toNat<W.length:=by omega
     rw [List.drop_eq_getElem_cons hcw,List.take_succ_cons]
     refine YC (by rw [List.length_take,List.length_drop];omega) ?_
     have hxe:W[c.toNat]∈x.1:=by
      have:W[c.toNat]=x.1[c.toNat]:=by
       simp only [←hW]
       exact List.getElem_append_left hlt
      rw [this]
      exact List.getElem_mem hlt
     exact EN x1 _ hxe
    have hsk:dO l'=aT ((W.drop c.toNat).take 4)+dO l0:=by rw [h3,IV]
    rw [List.flatMap_cons] at hVl
    omega
   ·have hm:(0:UInt8)∈W.take c.toNat:=by
     have hxw:x.1.length<W.length:=by rw [←hW];simp
     have he:W[x.1.length]=0:=by
      simp only [←hW]
      rw [List.getElem_append_right (Nat.le_refl _)]
      simp
     rw [←he]
     exact List.mem_take_iff_getElem.2 ⟨x.1.length,by omega,rfl⟩
    exact absurd (EN hen 0 hm) (by decide)
  by_cases hkn:k≤x.1.length
  ·have es:(fB x).set k c=fB (x.1.set (k - 1) c,x.2):=by
    unfold fB
    dsimp only
    rw [List.length_set,List.set_append_right _ _ (by rw [aQ];omega),aQ,List.set_append_left _ _ (by omega)]
   rw [es,Di _ (by dsimp only;rw [List.length_set];omega) (by dsimp only;omega)] at h1
   cases h1
   rw [hpe] at h2
   cases h2
   rfl
  ·have es:(fB x).set k c=bV 1 x.1.length++(x.1++(bV 4 x.2.length).set (k - 1 - x.1.length) c):=by
    unfold fB
    rw [List.set_append_right _ _ (by rw [aQ];omega),aQ,List.set_append_right _ _ (by omega)]
   rw [es,List.append_assoc,List.append_assoc,SH _ (by omega) (by rw [List.length_set,aQ])] at h1
   cases h1
   rw [hpe] at h2
   cases h2
   rfl
theorem Nc:∀ (s t:Bytes),s.length=t.length→aT s=aT t→s=t
 | [],t,hl,_=>(List.eq_nil_of_length_eq_zero hl.symm).symm
 | x::s,[],hl,_=>by cases hl
 | x::s,y::t,hl,h=>by
  have hl2:s.length=t.length:=by simpa using hl
  rw [Af,Af,hl2] at h
  have h1:=kS s
  have h2:=kS t
  rw [hl2] at h1
  generalize 256 ^ t.length=P at *
  have hxy:x.toNat=y.toNat:=by
   rcases Nat.lt_trichotomy x.toNat y.toNat with hq|hq|hq
   ·have:=Nat.mul_le_mul_right P (show x.toNat+1≤y.toNat from hq)
    rw [Nat.succ_mul] at this
    omega
   ·exact hq
   ·have:=Nat.mul_le_mul_right P (show y.toNat+1≤x.toNat from hq)
    rw [Nat.succ_mul] at this
    omega
  rw [hxy] at h
  rw [UInt8.toNat_inj.1 hxy,Nc s t hl2 (by omega)]
theorem SC {l:List Bytes}:∀ i,i≤l.length→xP l i=0→∀ x,x∈l.take i→dA x=true
 | 0,_,_,x,hx=>by cases hx
 | i+1,hi,h,x,hx=>by
  have h0:xP l i=0:=Classical.byContradiction fun h2=>h2 ((PX h2 (Nat.le_succ i)).symm.trans h)
  have hs:xP l (i+1)=if xP l i≠0 then xP l i else if dA (l.getD i [])=true then (if l.getD i []∈l.take i then 6 else 0) else 5:=rfl
  have hil:i<l.length:=by omega
  rw [List.take_succ_eq_append_getElem hil] at hx
  rcases List.mem_append.1 hx with hx|hx
  ·exact SC i (by omega) h0 x hx
  ·rw [List.mem_singleton.1 hx]
   rw [h0,if_neg (by simp),h] at hs
   split at hs
   ·rename_i h1
    simpa [List.getD_eq_getElem?_getD,hil] using h1
   ·cases hs
structure Zg (l:List (Bytes × Bytes)):Prop where
 long:∀ x,x∈l→2≤x.2.length∧x.2.length<16777216
 one:∀ x,x∈l→1≤(x.2.getD 0 0).toNat∧(x.2.getD 1 0).toNat<97
theorem FM {l:Bytes} {k:Nat} {c:UInt8} (hk:k<l.length) (h:l.set k c=l):c=l.getD k 0:=by
 have:=congrArg (fun x=>x[k]?) h
 rw [getD_lt hk]
 simpa [hk] using this
theorem WY {l:List (Bytes × Bytes)} (h:Zg l) {e:Bytes × Nat} {v:Bytes} (hp:Gn (jD l++bY (hdB l))=some (e,v)):dA e.1=false:=by
 cases l with
 | nil=>
  exfalso
  have:Gn (jD []++bY (hdB []))=none:=by decide +kernel
  rw [this] at hp;cases hp
 | cons x l=>
  obtain ⟨h1,_⟩:=h.long x List.mem_cons_self
  obtain ⟨h2,h3⟩:=h.one x List.mem_cons_self
  obtain ⟨b0,b1,r,hr⟩:∃ b0 b1 r,x.2=b0::b1::r:=by
   cases hx:x.2 with
   | nil=>rw [hx] at h1;simp at h1
   | cons a r=>
    cases r with
    | nil=>rw [hx] at h1;simp at h1
    | cons b r=>exact ⟨a,b,r,rfl⟩
  rw [hr] at h2 h3
  replace h2:1≤b0.toNat:=h2
  replace h3:b1.toNat<97:=h3
  have ec:jD (x::l)++bY (hdB (x::l))=b0::b1::(r++(jD l++bY (hdB (x::l)))):=by
   unfold jD
   rw [List.flatMap_cons,hr];simp
  rw [ec] at hp
  unfold Gn at hp
  have tk1:∀ W:Bytes,(b0::W).take 1=[b0]:=fun W=>rfl
  have dr1:∀ W:Bytes,(b0::W).drop 1=W:=fun W=>rfl
  rw [tk1,dr1,SE] at hp
  split at hp
  ·cases hp
  split at hp
  ·cases hp
  cases hp
  dsimp only
  obtain ⟨n,hn⟩:∃ n,b0.toNat=n+1:=⟨b0.toNat - 1,by omega⟩
  rw [hn,List.take_succ_cons]
  have:decide (97≤b1.toNat)=false:=decide_eq_false (by omega)
  unfold dA
  rw [List.getD_cons_zero,this]
  simp
theorem XV {m:List (Bytes × Bytes)} (h:UZ m) (hc:Zg m) {k:Nat} (hk:k<(iM m).length) {c:UInt8} (hne:c≠(iM m).getD k 0) (hL:Jd ((iM m).set k c)) :
  (hdB m).length≤k∧k<(hdB m).length+(jD m).length∧aZ ((iM m).set k c)=(fO (m.map fun x=>(x.1,x.2.length)) (hdB m).length,0):=by
 have hal:=DN m
 have hhl:=Jr m
 have hall:=h.long
 have hmm:∀ x,x∈m→x.1.length<256∧x.2.length<4294967296:=fun x hx=>⟨by have:=oP (h.name x hx);omega,by have:=(hc.long x hx).2;omega⟩
 obtain ⟨T,hT⟩:∃ T,jD m++bY (hdB m)=T:=⟨_,rfl⟩
 have hTl:T.length=dO (m.map fun x=>(x.1,x.2.length))+8:=by rw [←hT,List.length_append,mJ,Lr]
 have hs:iM m=hdB m++T:=by rw [←hT];rfl
 have hcs:=Lr m
 have key:∀ T':Bytes,T'.length=T.length→(iM m).set k c=hdB m++T'→qY ((iM m).set k c)=⟨m.map (fun x=>(x.1,x.2.length)),(hdB m).length,false⟩:=by
  intro T' hl he
  rw [he]
  have hN:MP (hdB m++T')=m.length:=by
   unfold MP hdB
   have e:mY++(bV 2 m.length++m.flatMap fB)++T'=mY++(bV 2 m.length++(m.flatMap fB++T')):=by simp only [List.append_assoc]
   rw [e,show (4:Nat)=mY.length from rfl,List.drop_left,take_len (aQ _ _),ji,Nat.mod_eq_of_lt (by have:=h.many;omega)]
  have hk:=(V6 h T' m.length (Nat.le_refl _)).1
  rw [List.take_length] at hk
  unfold qY
  rw [hN,Jr]
  exact hk
 by_cases hin:(hdB m).length≤k
 ·have he:(iM m).set k c=hdB m++T.set (k - (hdB m).length) c:=by rw [hs,List.set_append_right _ _ hin]
  have hO:=key _ (by rw [List.length_set]) he
  refine ⟨hin,?_,by rw [vG hL,hO]⟩
  refine Classical.byContradiction fun hge=>?_
  have hchk:=hL.chk
  rw [hO] at hchk
  dsimp only at hchk
  rw [he,List.take_left,←List.drop_drop,List.drop_left,←hcs,←hT,List.set_append_right _ _ (by omega),List.drop_left] at hchk
  have:=FM (by rw [mJ];omega) hchk.symm
  apply hne
  rw [this]
  unfold iM
  rw [gdr (by omega),gdr (by omega)]
 exfalso
 have hin:k<(hdB m).length:=by omega
 have he:(iM m).set k c=(hdB m).set k c++T:=by rw [hs,List.set_append_left _ _ hin]
 have hk2:(iM m).getD k 0=(hdB m).getD k 0:=by unfold iM;rw [gdl hin]
 rw [hk2] at hne
 have hd6:(hdB m)=(mY++bV 2 m.length)++m.flatMap fB:=by unfold hdB;rw [List.append_assoc]
 have h6l:(mY++bV 2 m.length).length=6:=by rw [List.length_append,aQ];rfl
 have hpr:=V7 hL.six (MP ((iM m).set k c)) hL.sh
 have hnm:∀ x,x∈(qY ((iM m).set k c)).l→dA x.1=true:=by
  intro x hx
  have:=SC _ (by simp) hL.nm x.1
  rw [List.take_of_length_le (by simp)] at this
  exact this (List.mem_map.2 ⟨x,hx,rfl⟩)
 have hsum:=hL.sum
 have hchk:=hL.chk
 have hA:=(Ih hL.six (MP ((iM m).set k c))).a1
 replace hA:(qY ((iM m).set k c)).a≤((iM m).set k c).length:=hA
 replace hpr:EY (MP ((iM m).set k c)) (((iM m).set k c).drop 6)=some ((qY ((iM m).set k c)).l,((iM m).set k c).drop (qY ((iM m).set k c)).a):=hpr
 have hVl:(((iM m).set k c).drop (qY ((iM m).set k c)).a).length=dO (qY ((iM m).set k c)).l+8:=by rw [List.length_drop];omega
 have hmg:=hL.mag
 have hdl:((hdB m).set k c).length=(hdB m).length:=List.length_set
 rw [he] at *
 by_cases h6:k<6
 ·have e6:(hdB m).set k c=(mY++bV 2 m.length).set k c++m.flatMap fB:=by rw [hd6,List.set_append_left _ _ (by omega)]
  have hdr:((hdB m).set k c++T).drop 6=m.flatMap fB++T:=by
   rw [e6,List.append_assoc]
   exact kM (by rw [List.length_set];exact h6l)
  rw [hdr] at hpr
  have hk3:(hdB m).getD k 0=(mY++bV 2 m.length).getD k 0:=by rw [hd6,gdl (by omega)]
  by_cases h4:k<4
  ·apply hne
   rw [hk3,gdl (show k<mY.length from h4)]
   refine FM h4 ?_
   rw [e6,List.append_assoc,List.set_append_left _ _ (show k<mY.length from h4),List.append_assoc] at hmg
   have:((mY.set k c)++(bV 2 m.length++(m.flatMap fB++T))).take 4=mY.set k c:=take_len (by rw [List.length_set];rfl)
   rw [this] at hmg
   exact hmg
  have hbk:(bV 2 m.length).length=2:=aQ _ _
  have hN:MP ((hdB m).set k c++T)=aT ((bV 2 m.length).set (k - 4) c):=by
   unfold MP
   rw [e6,List.append_assoc,List.set_append_right _ _ (show mY.length≤k from by show 4≤k;omega),List.append_assoc,show (4:Nat)=mY.length from rfl,List.drop_left,take_len (by rw [List.length_set];exact hbk)]
  have hNe:MP ((hdB m).set k c++T)≠m.length:=by
   intro hh
   rw [hN] at hh
   have e2:aT (bV 2 m.length)=m.length:=by rw [ji,Nat.mod_eq_of_lt (by have:=h.many;omega)]
   have:=Nc _ _ (by rw [List.length_set]) (hh.trans e2.symm)
   have:=FM (by omega) this
   apply hne
   rw [hk3,gdr (show mY.length≤k from by show 4≤k;omega)]
   exact this
  generalize MP ((hdB m).set k c++T)=N at *
  rcases Nat.lt_or_gt_of_ne hNe with hlt|hgt
  ·have hsp:m.flatMap fB++T=(m.take N).flatMap fB++((m.drop N).flatMap fB++T):=by
    conv=>lhs;rw [←List.take_append_drop N m,List.flatMap_append,List.append_assoc]
   have hp:=JH (m.take N) ((m.drop N).flatMap fB++T) fun x hx=>hmm x (List.mem_of_mem_take hx)
   rw [List.length_take,Nat.min_eq_left (by omega)] at hp
   rw [hsp,hp] at hpr
   have qC:=congrArg Prod.fst (Option.some.inj hpr)
   have e2:=congrArg Prod.snd (Option.some.inj hpr)
   dsimp only at qC e2
   rw [←e2,←qC,List.length_append,hTl] at hVl
   have hsk:dO ((m.take N).map fun x=>(x.1,x.2.length))≤dO (m.map fun x=>(x.1,x.2.length)):=by
    conv=>rhs;rw [←List.take_append_drop N m]
    unfold dO
    rw [List.map_append,List.map_append,List.sum_append];omega
   have hne2:0<((m.drop N).flatMap fB).length:=by
    rw [List.drop_eq_getElem_cons hlt,List.flatMap_cons,List.length_append,yD];omega
   omega
  ·obtain ⟨j,hj⟩:∃ j,N=m.length+(j+1):=⟨N - m.length - 1,by omega⟩
   rw [hj,YK m T hmm (j+1)] at hpr
   cases hq:EY (j+1) T with
   | none=>rw [hq] at hpr;cases hpr
   | some z=>
    obtain ⟨l2,w⟩:=z
    obtain ⟨e,v,l0,h1,_,h3⟩:=y5 hq
    rw [hq] at hpr
    have qC:=congrArg Prod.fst (Option.some.inj hpr)
    dsimp only at qC
    rw [←hT] at h1
    have:=WY hc h1
    rw [hnm e (by rw [←qC,h3];simp)] at this
    cases this
 ·have e6:(hdB m).set k c=(mY++bV 2 m.length)++(m.flatMap fB).set (k - 6) c:=by
   rw [hd6,List.set_append_right _ _ (by omega),h6l]
  have hN:MP ((hdB m).set k c++T)=m.length:=by
   unfold MP
   rw [e6,List.append_assoc,List.append_assoc,show (4:Nat)=mY.length from rfl,List.drop_left,take_len (aQ _ _),ji,Nat.mod_eq_of_lt (by have:=h.many;omega)]
  have hdr:((hdB m).set k c++T).drop 6=(m.flatMap fB).set (k - 6) c++T:=by
   rw [e6,List.append_assoc]
   exact kM h6l
  rw [hN,hdr] at hpr
  have hk3:(hdB m).getD k 0=(m.flatMap fB).getD (k - 6) 0:=by rw [hd6,gdr (by omega),h6l]
  rw [hk3] at hne
  have hV:=Lu m T (k - 6) c 8 _ _ (fun x hx=>⟨h.name x hx,(hc.long x hx).2⟩) (by omega) hne (by rw [hs,List.length_append] at hall;omega) hpr hnm hVl
  have hAl:(qY ((hdB m).set k c++T)).a=(hdB m).length:=by
   have:=congrArg List.length hV
   rw [List.length_drop,List.length_append,hdl] at this
   rw [List.length_append,hdl] at hA
   omega
  rw [hV] at hVl
  rw [hAl] at hchk
  have hsk:dO (qY ((hdB m).set k c++T)).l=(jD m).length:=by omega
  rw [hsk,take_len hdl,oJ hdl,←hT,List.drop_left] at hchk
  have hsp:hdB m=(hdB m).take k++(hdB m).getD k 0::(hdB m).drop (k+1):=by
   have:=List.take_append_drop k (hdB m)
   rw [List.drop_eq_getElem_cons hin,←getD_lt (d:=0) hin] at this
   exact this.symm
  have hset:(hdB m).set k c=(hdB m).take k++c::(hdB m).drop (k+1):=by rw [List.set_eq_take_append_cons_drop,if_pos hin]
  rw [hset] at hchk
  conv at hchk=>rhs;rw [hsp]
  have:=Oe _ _ hchk
  rw [hk3] at this
  exact hne this
end Go.Fv.H
/- ArchivesAreChecked: the law. -/
namespace Go.Fv.H
open Go Go.Proofs
theorem UN {s:Bytes} {k a n:Nat} {c:UInt8} (h:k<a∨a+n≤k):((s.set k c).drop a).take n=(s.drop a).take n:=by
 rw [List.drop_set]
 rcases h with h|h
 ·rw [if_pos h]
 ·by_cases h2:k<a
  ·rw [if_pos h2]
  ·rw [if_neg h2,List.take_set,List.set_eq_of_length_le (by rw [List.length_take];omega)]
theorem Xt {s:Bytes} {k a n:Nat} {c:UInt8} (h:a≤k):((s.set k c).drop a).take n=((s.drop a).take n).set (k - a) c:=by
 rw [List.drop_set,if_neg (by omega),List.take_set]
theorem Zx {l:List NP} {kind:Int} (hk:1≤kind∧kind≤5) (h:xW l):Zg (qo kind l):=by
 refine ⟨fun x hx=>?_,fun x hx=>?_⟩
 ·obtain ⟨y,hy,rfl⟩:=List.mem_map.1 hx
  have:=DY hk (h.ok y hy)
  dsimp only;omega
 ·obtain ⟨y,hy,rfl⟩:=List.mem_map.1 hx
  obtain ⟨k,k1,k2,e⟩:=yj kind hk y
  have hy2:=h.ok y hy
  have hw:=DF.w1 hy2
  dsimp only
  rw [e,nZ,be1,gY,gY,oH,List.nil_append]
  generalize y.W.toNat=w at *
  have e0:k.toNat%256=k.toNat:=Nat.mod_eq_of_lt (by omega)
  have e1:w / 256%256=w / 256:=Nat.mod_eq_of_lt (by omega)
  refine ⟨?_,?_⟩
  ·show 1≤(UInt8.ofNat k.toNat).toNat
   rw [UInt8.toNat_ofNat'];omega
  ·show (UInt8.ofNat (w / 256)).toNat<97
   rw [UInt8.toNat_ofNat'];omega
theorem Xx {l:List NP} {kind:Int} (h:(iq l kind).2=0) {k:Nat} (hk:k<(iq l kind).1.length) {c:UInt8} (hne:c≠(iq l kind).1.getD k 0) (hL:(aZ ((iq l kind).1.set k c)).2=0) :
  (aZ ((iq l kind).1.set k c)).1.length=l.length∧∀ i,i<l.length →
   ((((aZ ((iq l kind).1.set k c)).1.getD i En.zero).a≤k∧k<((aZ ((iq l kind).1.set k c)).1.getD i En.zero).a+((aZ ((iq l kind).1.set k c)).1.getD i En.zero).k)→(fU ((iq l kind).1.set k c) ((aZ ((iq l kind).1.set k c)).1.getD i En.zero).n).e≠0) ∧
   (¬(((aZ ((iq l kind).1.set k c)).1.getD i En.zero).a≤k∧k<((aZ ((iq l kind).1.set k c)).1.getD i En.zero).a+((aZ ((iq l kind).1.set k c)).1.getD i En.zero).k)→fU ((iq l kind).1.set k c) ((aZ ((iq l kind).1.set k c)).1.getD i En.zero).n=⟨(l.getD i NP.zero).W.toNat,(l.getD i NP.zero).H.toNat,(l.getD i NP.zero).p,0⟩):=by
 obtain ⟨e,hA,hP,hl,hkd⟩:=Jh h
 rw [e] at hk hne hL ⊢
 dsimp only at hk hne hL ⊢
 obtain ⟨c1,c2,c3⟩:=XV hA (Zx hkd hP) hk hne (EC hL)
 have hT:∀ name x,dA name=true→(fO ((qo kind l).map fun x=>(x.1,x.2.length)) (hdB (qo kind l)).length).find? (fun x=>decide (x.n=name))=some x→fU ((iM (qo kind l)).set k c) name=jc ((((iM (qo kind l)).set k c).drop x.a).take x.k):=by
  intro name x h1 h2
  unfold fU
  rw [c3]
  dsimp only
  rw [if_neg (by simp),if_pos h1,h2]
 rw [c3]
 dsimp only
 have hlen:(fO ((qo kind l).map fun x=>(x.1,x.2.length)) (hdB (qo kind l)).length).length=l.length:=by rw [fF,List.length_map,yg]
 refine ⟨hlen,fun i hi=>?_⟩
 have hic:i<(qo kind l).length:=by rw [yg];exact hi
 have hx:l.getD i NP.zero∈l:=by rw [getD_lt hi];exact List.getElem_mem hi
 have hci:=X3 kind hi
 obtain ⟨a1,a2⟩:=Va hic
 rw [hci] at a1 a2
 dsimp only at a1 a2
 have hnd:((fO ((qo kind l).map fun x=>(x.1,x.2.length)) (hdB (qo kind l)).length).map En.n).Nodup:=by
  rw [zQ,List.map_map]
  exact hA.nodup
 generalize fO ((qo kind l).map fun x=>(x.1,x.2.length)) (hdB (qo kind l)).length=M at *
 have hm:M.getD i En.zero∈M:=by rw [getD_lt (by omega)];exact List.getElem_mem (by omega)
 have hf:=Pv hnd hm
 rw [a1] at hf ⊢
 dsimp only at hf ⊢
 rw [hT _ _ (hP.name _ hx) hf]
 dsimp only
 clear hT
 generalize (hdB (qo kind l)).length+(jD ((qo kind l).take i)).length=a at *
 have hd:=Vo hkd (hP.ok _ hx)
 refine ⟨fun hit=>?_,fun hit=>?_⟩
 ·rw [Xt hit.1,a2]
  obtain ⟨k2,_,_,e2⟩:=yj kind hkd (l.getD i NP.zero)
  have hlt:k - a<(yh kind (l.getD i NP.zero)).length:=by omega
  have hg:(iM (qo kind l)).getD k 0=(yh kind (l.getD i NP.zero)).getD (k - a) 0:=by
   conv=>rhs;rw [←a2]
   rw [List.getD_eq_getElem?_getD,List.getD_eq_getElem?_getD,List.getElem?_take_of_lt hlt,List.getElem?_drop,show a+(k - a)=k by omega]
  rw [hg,e2] at hne
  rw [e2] at hlt ⊢
  exact LP k2 hlt hne
 ·rw [UN (by omega),a2]
  exact hd
set_option maxHeartbeats 32000000 in
theorem DT (l0:List NP) (kind0 at_ cut:Int) (c:UInt8):aA Tryz.prog 8 [.ro (OI l0),.int .i64 kind0,.int .i64 at_,.int .i64 cut,.int .u8 c.toNat] (.bool true) []:=by
 have kn:=named_ok l0
 obtain ⟨L,hL⟩:∃ L,nmd l0=L:=⟨_,rfl⟩
 rw [hL] at kn
 obtain ⟨n1,n2,n3⟩:=Jl kind0 3 (by decide)
 replace n3:1+gJ .and .i64 kind0 3=((pq kind0 3:Nat):Int):=n3
 generalize pq kind0 3=kk at *
 have kq:=P8 L kk
 have hpl:(iq L kk).2=0→(iq L kk).1.length≤4194304∧14≤(iq L kk).1.length:=fun h=>by
  obtain ⟨e,hA,_⟩:=Jh h
  rw [e]
  have h1:=DN (qo kk L)
  have h2:=Jr (qo kk L)
  exact ⟨hA.long,by dsimp only;omega⟩
 have hchg:=fun (h:(iq L kk).2=0) k (hk:k<(iq L kk).1.length) c=>Xx h hk (c:=c)
 have hok:(iq L kk).2=0→xW L:=fun h=>(Jh h).2.2.1
 generalize iq L kk=R at *
 obtain ⟨E,e⟩:=R
 dsimp only at kq hpl hchg hok
 refine aA.aG Tryz.func8 rfl (by decide) (by simp [Tryz.f8]) [.tmp 10] rfl fun w0 T0 _=>?_
 simp only [Tryz.f8,au]
 (repeat' with_reducible first|intro _|exact dn|refine rn ?_|refine ra ?_ ?_)
 refine ah.k Uc ?_
 (repeat' with_reducible first|intro _|exact dn|refine rn ?_|refine ra ?_ ?_)
 refine ah.UE (.ro (OI L)) kn (by simp only [aI,aS,bH,aV,aH,List.drop_zero,lk,reduceIte,reduceCtorEq,Nat.reduceEqDiff,Option.some.injEq,Item.row.injEq,Item.box.injEq,AV.ro.injEq,exists_eq_left,exists_and_left,exists_eq_left',exists_eq_right,and_assoc,and_true,true_and,List.cons.injEq,exists_eq',exists_eq]) (by simp [dJ,aS,aV,bH,aH,lk,aI]) (by simp [dZ,dh,aI]) ?_
 (repeat' with_reducible first|intro _|refine rz ?_|refine ra ?_ ?_|omega|simp only [go_sem,n3])
 refine ah.k kq ?_
 by_cases he:e=0
 rotate_left
 ·have f1:(e=0)=False:=eq_false he
  (repeat' with_reducible first|intro _|refine rz ?_|refine ra ?_ ?_|omega|simp only [go_sem,f1])
  refine aU.auto 0 ?_ rfl ?_<;>simp only [go_sem,Int.natCast_succ,Post]
 obtain ⟨hEl,hEp⟩:=hpl he
 have hP:=hok he
 have hchg2:=hchg he
 subst he
 clear hchg hpl hok
 have hbl:=cZ E
 obtain ⟨M,hM⟩:∃ M,E.length=M:=⟨_,rfl⟩
 rw [hM] at hEl hEp hbl hchg2
 obtain ⟨a1,a2,a3,a4⟩:=WX at_ (n:=M) (by omega)
 have hMne:¬(M:Int)=0:=by omega
 obtain ⟨k,hk⟩:∃ k:Nat,((at_.tmod M+M).tmod M:Int)=k:=⟨((at_.tmod M+M).tmod M).toNat,by omega⟩
 rw [hk] at a1 a2
 have hkl:k<M:=by omega
 have hg:(aj E).getD k 0=((E.getD k 0).toNat:Int):=bytes_at (by omega)
 have hx:=abN (E.getD k 0) c
 have hset:=O4 E k (E.getD k 0 ^^^ c)
 obtain ⟨m,hmm⟩:∃ m:Nat,min (max cut 0) (M:Int)=m:=⟨(min (max cut 0) (M:Int)).toNat,by omega⟩
 have hmL:m≤M:=by omega
 have hch2:=fun (hc:c.toNat≠0)=>hchg2 k hkl (E.getD k 0 ^^^ c) (aaq (fun e=>hc (by rw [e];rfl)))
 clear hchg2
 have hE'l:(E.set k (E.getD k 0 ^^^ c)).length=M:=by rw [List.length_set,hM]
 generalize E.set k (E.getD k 0 ^^^ c)=E' at *
 have hbl2:=cZ E'
 rw [hE'l] at hbl2
 have hLm:(M:Int) - (m:Int)=((M - m:Nat):Int):=by omega
 have hbk:((aj E').take (M - m)).map (fun n=>UInt8.ofNat n.toNat)=E'.take (M - m):=by
  have:=iV (E'.take (M - m))
  unfold aj at this ⊢
  rw [←List.map_take]
  exact this
 obtain ⟨T,hT⟩:∃ T,E'.take (M - m)=T:=⟨_,rfl⟩
 have hTl:T.length≤4194304:=by rw [←hT,List.length_take,hE'l];omega
 have hsame:cut≤0→E'=T:=fun h1=>by
  have hm0:m=0:=by omega
  rw [←hT,hm0,Nat.sub_zero,List.take_of_length_le (by omega)]
 have cl:(c.toNat:Int)<256:=by have:=c.toNat_lt;omega
 have hTl2:((aj E').take (M - m)).length=M - m:=by rw [List.length_take,hbl2];omega
 have kl:=Jy T (by omega)
 have kr:=xu T (by omega)
 have kc:=Vp T (by omega)
 have kc2:=NT T (by omega)
 have kE:=Po (aZ T).1
 generalize Jj T=C at *
 (repeat' with_reducible first|intro _|refine rz ?_|refine ra ?_ ?_|omega|simp only [go_sem,hbl,hk,hg,hx,hset,hMne,hbl2,hmm,hLm,hbk,hT,Nat.sub_zero])
 refine ah.f kl 0 ?_
 (repeat' with_reducible first|intro _|exact dn|refine rn ?_|refine ra ?_ ?_)
 refine ah.f kr 0 ?_
 (repeat' with_reducible first|intro _|exact dn|refine rn ?_|refine ra ?_ ?_)
 refine ah.k kc ?_
 (repeat' with_reducible first|intro _|exact dn|refine rn ?_|refine ra ?_ ?_)
 refine ah.k kc2 ?_
 (repeat' with_reducible first|intro _|exact dn|refine rn ?_|refine ra ?_ ?_)
 refine ah.k kE ?_
 (repeat' with_reducible first|intro _|refine rz ?_|refine ra ?_ ?_|omega|simp only [go_sem,List.length_map])
 refine aF.intro (fun j:Nat=>⟨210,[(119,.int .i64 j),(118,.int .i64 L.length),(117,.ro (OI L)),(15,.str T),(4,.int .u8 c.toNat),(3,.int .i64 cut),(12,.int .i64 (aZ T).2),(16,.ro (CP (aZ T).1)),(14,.int .i64 k),(0,.ro (OI L))],[],0⟩) (fun j=>j≤L.length) (fun j=>L.length - j) 0 ?_ (Nat.zero_le _) fun j hj=>?_
 ·refine aK.ak rfl ?_ ?_<;>simp only [go_sem,Int.natCast_succ]
 by_cases hlt:j<L.length
 ·have f7:((j:Int)<(L.length:Int))=True:=eq_true (by omega)
  have hee:=yU L hlt
  generalize L.getD j NP.zero=x at *
  obtain ⟨xn,xw,xh,xp⟩:=x
  dsimp only at hee
  have k1:=SY T xn (by omega)
  have k2:=Qo T xn (by omega)
  have k3:=OQ T xn
  unfold TQ at k1 k2
  generalize fU T xn=Z at *
  (repeat' with_reducible first|intro _|refine rz ?_|refine ra ?_ ?_|omega|simp only [go_sem,f7,hee,bZ,List.length_map])
  refine ah.f k1 0 ?_
  (repeat' with_reducible first|intro _|exact dn|refine rn ?_|refine ra ?_ ?_)
  refine ah.f k2 0 ?_
  (repeat' with_reducible first|intro _|exact dn|refine rn ?_|refine ra ?_ ?_)
  refine ah.k k3 ?_
  (repeat' with_reducible first|intro _|exact dn|refine rn ?_|refine ra ?_ ?_)
  refine ⟨j+1,aK.ak rfl ?_ ?_,by omega,by omega⟩<;>simp only [go_sem,Int.natCast_succ]
 have f7:((j:Int)<(L.length:Int))=False:=eq_false (by omega)
 by_cases z1:(c.toNat:Int)=0
 ·have y1:((c.toNat:Int)=0)=True:=eq_true z1
  (repeat' with_reducible first|intro _|refine rz ?_|refine ra ?_ ?_|omega|simp only [go_sem,f7,y1])
  refine aU.auto 0 ?_ rfl ?_<;>simp only [go_sem,Int.natCast_succ,Post]
 have y1:((c.toNat:Int)=0)=False:=eq_false z1
 by_cases z2:0<cut
 ·have y2:(0<cut)=True:=eq_true z2
  (repeat' with_reducible first|intro _|refine rz ?_|refine ra ?_ ?_|omega|simp only [go_sem,f7,y1,y2])
  all_goals (refine aU.auto 0 ?_ rfl ?_<;>simp only [go_sem,Int.natCast_succ,Post,Bool.or_true])
 have y2:(0<cut)=False:=eq_false z2
 by_cases z3:(aZ T).2=0
 rotate_left
 ·have y3:((aZ T).2=0)=False:=eq_false z3
  (repeat' with_reducible first|intro _|refine rz ?_|refine ra ?_ ?_|omega|simp only [go_sem,f7,y1,y2,y3])
  refine aU.auto 0 ?_ rfl ?_<;>simp only [go_sem,Int.natCast_succ,Post]
 have y3:((aZ T).2=0)=True:=eq_true z3
 have hE:=hsame (by omega)
 have hch3:=hch2 (by omega)
 rw [hE] at hch3
 obtain ⟨hQl,hch4⟩:=hch3 z3
 have hin:=fun x hx=>um (s:=T) (x:=x) hx
 generalize (aZ T).1=Q at *
 (repeat' with_reducible first|intro _|refine rz ?_|refine ra ?_ ?_|omega|simp only [go_sem,f7,y1,y2,y3,List.length_map])
 refine aF.intro (fun j:Nat=>⟨210,[(166,.int .i64 j),(165,.int .i64 L.length),(164,.ro (CP Q)),(15,.str T),(14,.int .i64 k),(0,.ro (OI L))],[],0⟩) (fun j=>j≤L.length) (fun j=>L.length - j) 0 ?_ (Nat.zero_le _) fun j hj=>?_
 ·refine aK.ak rfl ?_ ?_<;>simp only [go_sem,Int.natCast_succ,hQl]
 by_cases hlt:j<L.length
 ·have f8:((j:Int)<(L.length:Int))=True:=eq_true (by omega)
  have hee:=yU L hlt
  have heq:=lS Q (i:=j) (by omega)
  obtain ⟨h1,h2⟩:=hch4 j hlt
  have hx:=hP.ok (L.getD j NP.zero) (by rw [getD_lt hlt];exact List.getElem_mem hlt)
  have hxw:=hx.w
  have hi:=hin (Q.getD j En.zero) (by rw [getD_lt (by omega)];exact List.getElem_mem (by omega))
  generalize L.getD j NP.zero=x at *
  generalize Q.getD j En.zero=z at *
  obtain ⟨xn,xw,xh,xp⟩:=x
  obtain ⟨zn,za,zk⟩:=z
  dsimp only at hee heq h1 h2 hxw hi
  have k1:=SY T zn (by omega)
  unfold TQ at k1
  have ezk:(za:Int)+(zk:Int)=((za+zk:Nat):Int):=by omega
  by_cases hit:za≤k∧k<za+zk
  ·have h3:=h1 hit
   generalize fU T zn=Z at *
   have g1:((za:Int)≤(k:Int))=True:=eq_true (by omega)
   have g2:((k:Int)<((za+zk:Nat):Int))=True:=eq_true (by omega)
   have g3:(Z.e=0)=False:=eq_false h3
   (repeat' with_reducible first|intro _|refine rz ?_|refine ra ?_ ?_|omega|simp only [go_sem,f8,heq,bZ,List.length_map,hQl])
   refine ah.f k1 0 ?_
   (repeat' with_reducible first|intro _|refine rz ?_|refine ra ?_ ?_|omega|simp only [go_sem,g1,g2,ezk])
   refine aN.lex [] [] (by kernel_rfl) (by kernel_rfl) ?_
   (repeat' with_reducible first|intro _|refine rz ?_|refine ra ?_ ?_|omega|simp only [go_sem,g3,hee,bZ,List.length_map])
   refine QV.intro (.bool false) ?_ ?_
   ·(repeat' with_reducible first|intro _|refine rz ?_|refine ra ?_ ?_|omega|simp only [go_sem,g3])
   (repeat' with_reducible first|intro _|refine rz ?_|refine ra ?_ ?_|omega|simp only [go_sem,g3,hee,bZ,List.length_map])
   refine ⟨j+1,aK.ak rfl ?_ ?_,by omega,by omega⟩<;>simp only [go_sem,Int.natCast_succ]
  ·have h3:=h2 hit
   rw [h3] at k1
   dsimp only at k1
   rw [hxw.1,hxw.2] at k1
   have ks:=BK xw xh xw xh xp xp
   rw [decide_eq_true ⟨rfl,rfl,rfl⟩] at ks
   by_cases hz:za≤k
   ·have g1:((za:Int)≤(k:Int))=True:=eq_true (by omega)
    have g2:((k:Int)<((za+zk:Nat):Int))=False:=eq_false (by omega)
    (repeat' with_reducible first|intro _|refine rz ?_|refine ra ?_ ?_|omega|simp only [go_sem,f8,heq,bZ,List.length_map,hQl])
    refine ah.f k1 0 ?_
    (repeat' with_reducible first|intro _|refine rz ?_|refine ra ?_ ?_|omega|simp only [go_sem,g1,g2,ezk])
    refine aN.lex [] [] (by kernel_rfl) (by kernel_rfl) ?_
    (repeat' with_reducible first|intro _|refine rz ?_|refine ra ?_ ?_|omega|simp only [go_sem,hee,bZ,List.length_map])
    refine QV.intro (.bool true) ?_ ?_
    ·(repeat' with_reducible first|intro _|exact dn|refine rn ?_|refine ra ?_ ?_)
     refine ah.k ks ?_
     (repeat' with_reducible first|intro _|exact dn|refine rn ?_|refine ra ?_ ?_)
    (repeat' with_reducible first|intro _|refine rz ?_|refine ra ?_ ?_|omega|simp only [go_sem,hee,bZ,List.length_map])
    refine ⟨j+1,aK.ak rfl ?_ ?_,by omega,by omega⟩<;>simp only [go_sem,Int.natCast_succ]
   ·have g1:((za:Int)≤(k:Int))=False:=eq_false (by omega)
    (repeat' with_reducible first|intro _|refine rz ?_|refine ra ?_ ?_|omega|simp only [go_sem,f8,heq,bZ,List.length_map,hQl])
    refine ah.f k1 0 ?_
    (repeat' with_reducible first|intro _|refine rz ?_|refine ra ?_ ?_|omega|simp only [go_sem,g1,ezk])
    refine aN.lex [] [] (by kernel_rfl) (by kernel_rfl) ?_
    (repeat' with_reducible first|intro _|refine rz ?_|refine ra ?_ ?_|omega|simp only [go_sem,hee,bZ,List.length_map])
    refine QV.intro (.bool true) ?_ ?_
    ·(repeat' with_reducible first|intro _|exact dn|refine rn ?_|refine ra ?_ ?_)
     refine ah.k ks ?_
     (repeat' with_reducible first|intro _|exact dn|refine rn ?_|refine ra ?_ ?_)
    (repeat' with_reducible first|intro _|refine rz ?_|refine ra ?_ ?_|omega|simp only [go_sem,hee,bZ,List.length_map])
    refine ⟨j+1,aK.ak rfl ?_ ?_,by omega,by omega⟩<;>simp only [go_sem,Int.natCast_succ]
 ·have f8:((j:Int)<(L.length:Int))=False:=eq_false (by omega)
  (repeat' with_reducible first|intro _|refine rz ?_|refine ra ?_ ?_|omega|simp only [go_sem,f8])
  refine aU.auto 0 ?_ rfl ?_<;>simp only [go_sem,Int.natCast_succ,Post]
end Go.Fv.H
