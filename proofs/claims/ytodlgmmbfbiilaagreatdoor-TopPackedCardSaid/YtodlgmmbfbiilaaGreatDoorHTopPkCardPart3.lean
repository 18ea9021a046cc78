/-
  A part of the proof of the claim: walks over the program's functions and the plain laws that these need. No condition of its own.
-/
import Derived.Test.YtodlgmmbfbiilaaGreatDoorHTopPkCardPart2
import Derived.Test.YtodlgmmbfbiilaaGreatDoorHTopPkCardPart1
import Derived.Test.YtodlgmmbfbiilaaGreatDoorFvPart10
set_option linter.unusedSimpArgs false
set_option linter.unusedVariables false
set_option linter.unnecessarySimpa false
set_option maxRecDepth 8000
/- The data of a page, in plain words. -/
namespace Go.Fv.H
open Go Go.Proofs
def rowP (w:Nat) (p:List Bool) (y:Nat):List Bool:=(p.drop (y*w)).take w
theorem gu {w h:Nat} {p:List Bool} (hp:p.length=w*h) {y:Nat} (hy:y<h):(rowP w p y).length=w:=by
 unfold rowP
 have h1:y*w+w≤h*w:=by rw [←Nat.succ_mul];exact Nat.mul_le_mul_right _ hy
 rw [List.length_take,List.length_drop,hp,Nat.mul_comm w h];omega
def yC (w:Nat) (p:List Bool) (y:Nat):List Bool:=if y=0 then List.replicate w false else rowP w p (y - 1)
def dB (l:List Int):Bytes:=l.flatMap fun n=>gq (n+1).toNat
def iw (r:List Bool):List Int:=(bP r r.length).1
def jD (w:Nat) (p:List Bool) (y:Nat):Bytes:=(List.range y).flatMap fun j=>dB (iw (rowP w p j))
def fE (w:Nat) (p:List Bool) (y:Nat):Bytes:=(List.range y).flatMap fun j=>dZ (rowP w p j) (yC w p j)
def dw (w h:Nat) (p:List Bool) (kind:Int):Bytes:=
 if kind=1 then mF (iV p) else if kind=4 then Ie w h p else if kind=2 then mF (jD w p h) else mF (fE w p h)
def headB (w h:Nat) (p:List Bool) (kind:Int):Bytes:=dV 1 kind.toNat++dV 2 w++dV 2 h++dV 4 (dw w h p kind).length++dw w h p kind
def dN (w h:Nat) (p:List Bool) (kind:Int):Bytes:=headB w h p kind++dX (headB w h p kind)
theorem UD (w h:Nat) (hw:w≤4000) (hh:h≤4000) (p:List Bool) (hp:p.length=w*h) (y:Nat) (hy:y<h) :
  aC Tryz.prog 156 [.agg [.int .i64 w,.int .i64 h,.ro (.bools p)],.int .i64 y] (.ro (.bools (rowP w p y))) []:=by
 have h1:y*w+w≤h*w:=by rw [←Nat.succ_mul];exact Nat.mul_le_mul_right _ hy
 have h2:h*w≤4000*4000:=Nat.mul_le_mul hh hw
 have h3:w*h=h*w:=Nat.mul_comm _ _
 have e1:(y:Int)*(w:Int)=((y*w:Nat):Int):=(Int.natCast_mul y w).symm
 have e2:((y:Int)+1)*(w:Int)=((y*w+w:Nat):Int):=by rw [Int.add_mul,Int.one_mul,e1];omega
 have e3:y*w+w - y*w=w:=by omega
 generalize hyw:y*w=a at *
 refine aC.aJ Tryz.func156 rfl (by decide) (by simp [Tryz.f156]) [.tmp 4] rfl fun w0 T0 _=>?_
 simp only [Tryz.f156,aB]
 (repeat' with_reducible first|intro _|refine rz ?_|refine ra ?_ ?_|omega|simp only [go_sem,e1,e2])
 refine bf.auto 0 ?_ rfl ?_<;>simp only [go_sem,Int.natCast_succ,Post,rowP,hyw,e3]
end Go.Fv.H
/- Reading a number, step by step. -/
namespace Go.Fv.H
open Go
theorem xR (c:UInt8) (s:Bytes):aG (c::s)=if c=48 then aG s+1 else 0:=by
 unfold aG
 rw [List.takeWhile_cons]
 by_cases h:c=48
 ·rw [if_pos h,if_pos (by simp [U6,h]),List.length_cons]
 ·rw [if_neg h,if_neg (by simp [U6,h])];rfl
theorem OC:∀ s:Bytes,aG s≤s.length
 | []=>Nat.le_refl _
 | c::s=>by
  have:=OC s
  rw [xR,List.length_cons];split<;>omega
theorem OB:∀ (s:Bytes) (i:Nat),i<aG s→s.getD i 0=48
 | [],i,h=>by cases h
 | c::s,i,h=>by
  rw [xR] at h
  split at h
  ·rename_i hc
   cases i with
   | zero=>simpa using hc
   | succ i=>simpa using OB s i (by omega)
  ·omega
theorem ED:∀ s:Bytes,aG s<s.length→s.getD (aG s) 0≠48
 | [],h=>by cases h
 | c::s,h=>by
  rw [xR] at h ⊢
  split
  ·rename_i hc
   rw [if_pos hc,List.length_cons] at h
   simpa using ED s (by omega)
  ·rename_i hc
   simpa using hc
theorem Tj {s:Bytes} (h:2*aG s+1≤s.length):((s.drop (aG s)).take (aG s+1)).length=aG s+1∧((s.drop (aG s)).take (aG s+1)).getD 0 0=s.getD (aG s) 0:=by
 refine ⟨by rw [List.length_take,List.length_drop];omega,?_⟩
 rw [List.getD_eq_getElem?_getD,List.getElem?_take,if_pos (by omega),List.getElem?_drop,List.getD_eq_getElem?_getD,Nat.add_zero]
theorem d01 {c:UInt8} (h:iL c=true):c.toNat - 48≤1:=by
 have h3:c=48∨c=49:=by simpa [iL] using h
 rcases h3 with rfl|rfl<;>decide
theorem O9:∀ (l:Bytes) (a:Nat),l.all iL=true→l.foldl (fun a c=>2*a+(c.toNat - 48)) a+1≤(a+1)*2 ^ l.length
 | [],a,_=>by simp
 | c::l,a,h=>by
  rw [List.all_cons,Bool.and_eq_true] at h
  have h1:=d01 h.1
  have h2:=O9 l (2*a+(c.toNat - 48)) h.2
  rw [List.foldl_cons,List.length_cons,Nat.pow_succ]
  have h3:(2*a+(c.toNat - 48)+1)*2 ^ l.length≤(2*(a+1))*2 ^ l.length:=Nat.mul_le_mul_right _ (by omega)
  have h4:2*(a+1)*2 ^ l.length=(a+1)*(2 ^ l.length*2):=by rw [Nat.mul_comm 2,Nat.mul_assoc,Nat.mul_comm 2]
  omega
theorem He (l:Bytes) (h:l.all iL=true):kX l<2 ^ l.length:=by
 have:=O9 l 0 h
 unfold kX
 omega
theorem Q7 {l:Bytes} {p:Nat} (h:p<l.length):kX (l.take (p+1))=2*kX (l.take p)+((l.getD p 0).toNat - 48):=by
 rw [List.take_succ_eq_append_getElem h,Fj]
 simp [List.getD,h]
theorem KU {l:Bytes} {p:Nat} (h:p<l.length) (ha:l.all iL=true):l.getD p 0=48∨l.getD p 0=49:=by
 have:=List.all_eq_true.1 ha (l.getD p 0) (by simp [List.getD,h])
 simpa [iL] using this
theorem wG {s:Bytes} (h:¬(aG s≤20∧2*aG s+1≤s.length∧((s.drop (aG s)).take (aG s+1)).all iL=true∧kX ((s.drop (aG s)).take (aG s+1))≤1048576)):oM s=none:=by
 unfold oM;rw [if_neg h]
theorem Uu {s:Bytes} (h:aG s≤20∧2*aG s+1≤s.length∧((s.drop (aG s)).take (aG s+1)).all iL=true∧kX ((s.drop (aG s)).take (aG s+1))≤1048576) :
  oM s=some (kX ((s.drop (aG s)).take (aG s+1)),2*aG s+1):=by
 unfold oM;rw [if_pos h]
def ER (s:Bytes):Int:=match oM s with|some (n,_)=>n|none=>0
def EP (s:Bytes):Int:=match oM s with|some (_,m)=>m|none=>0
def JV (e:Int) (s:Bytes):Int:=match oM s with|some _=>0|none=>e
end Go.Fv.H
/- strconv.ParseInt in base 2. -/
namespace Go.Fv.H
open Go Go.Proofs
theorem Vq (l:Bytes):(aj l).length=l.length:=by unfold aj;rw [List.length_map]
theorem Vp {b:Bytes} {i:Nat} (h:i<b.length):(aj b).getD i 0=((b.getD i 0).toNat:Int):=by
 unfold aj
 simp [List.getD,h]
set_option maxHeartbeats 4000000 in
theorem Qq (l:Bytes) (h1:l.all iL=true) (h0:l≠[]) (hl:l.length≤21) :
  aC Tryz.prog 136 [.str l,.int .i64 2,.int .i64 64] (.tup [.int .u64 (kX l),.raw .nilIface]) []:=by
 have hv:=He l h1
 refine aC.aJ Tryz.func136 rfl (by decide) (by simp [Tryz.f136]) [.tmp 6,.tmp 7] rfl fun w0 T0 _=>?_
 simp only [Tryz.f136,aB]
 (repeat' with_reducible first|intro _|refine rz ?_|refine ra ?_ ?_|omega|simp only [go_sem,h0])
 refine bZ.at 0 (by decide) ?_
 refine bZ.at 18446744073709551615 (by decide) ?_
 (repeat' with_reducible first|intro _|exact dn|refine rn ?_|refine ra ?_ ?_)
 have hbl:=Vq l
 refine aI.intro (fun i:Nat=>⟨172,[(101,.int .i64 i),(100,.int .i64 l.length),(99,.own 0),(13,.int .u64 (kX (l.take i))),(12,.bool false),(11,.int .u64 18446744073709551615),(10,.int .u64 9223372036854775808),(9,.str l),(8,.bool false),(0,.str l),(1,.int .i64 2),(2,.int .i64 64)],[(0,.row 5 (.ints .u8 (aj l)))],1⟩) (fun i=>i≤l.length) (fun i=>l.length - i) 0 ?_ (Nat.zero_le _) fun i hi=>?_
 ·refine aO.ak rfl ?_ ?_<;>simp only [go_sem,Int.natCast_succ,hbl]
  rfl
 have hcut:l.take l.length=l:=List.take_length
 by_cases hlt:i<l.length
 ·have hb:(aj l).getD i 0=((l.getD i 0).toNat:Int):=Vp hlt
  have hs:=Q7 hlt
  have ha:=KU hlt h1
  have hv2:=He (l.take (i+1)) (by rw [List.all_eq_true] at h1 ⊢;intro x hx;exact h1 x (List.mem_of_mem_take hx))
  have hp:(2:Nat) ^ (l.take (i+1)).length≤2 ^ 21:=Nat.pow_le_pow_right (by decide) (by rw [List.length_take];omega)
  rw [show (2:Nat) ^ 21=2097152 from rfl] at hp
  have hc:(l.getD i 0).toNat=48∨(l.getD i 0).toNat=49:=by rcases ha with e|e<;>rw [e]<;>decide
  generalize l.getD i 0=c at *
  generalize kX (l.take i)=v at *
  have hcc:((c.toNat:Nat):Int) - 48=((c.toNat - 48:Nat):Int):=by omega
  generalize c.toNat=cn at *
  have f1:((cn:Int)=95)=False:=eq_false (by omega)
  have f2:(48≤(cn:Int))=True:=eq_true (by omega)
  have f3:((cn:Int)≤57)=True:=eq_true (by omega)
  (repeat' with_reducible first|intro _|refine rz ?_|refine ra ?_ ?_|omega|simp only [go_sem,hb,hbl,f1,f2,f3])
  refine ⟨i+1,aO.ak rfl ?_ ?_,by omega,by omega⟩<;>simp only [go_sem,Int.natCast_succ,hs]
  all_goals omega
 ·have e:i=l.length:=by omega
  subst e
  rw [hcut]
  (repeat' with_reducible first|intro _|refine rz ?_|refine ra ?_ ?_|omega|simp only [go_sem,hbl])
  refine bf.auto 0 ?_ rfl ?_<;>simp only [go_sem,Int.natCast_succ,Post]
theorem Qo (l:Bytes) (h1:l.all iL=true) (h0:l≠[]) (hl:l.length≤21) :
  aC Tryz.prog 183 [.str l,.int .i64 2,.int .i64 64] (.tup [.int .i64 (kX l),.raw .nilIface]) []:=by
 have k:=Qq l h1 h0 hl
 have hv:=He l h1
 have hp:(2:Nat) ^ l.length≤2 ^ 21:=Nat.pow_le_pow_right (by decide) hl
 rw [show (2:Nat) ^ 21=2097152 from rfl] at hp
 have hlen:0<l.length:=List.length_pos_iff.2 h0
 have ha:=KU hlen h1
 have hc:(l.getD 0 0).toNat=48∨(l.getD 0 0).toNat=49:=by rcases ha with e|e<;>rw [e]<;>decide
 generalize kX l=v at *
 have f1:(((l.getD 0 0).toNat:Int)=43)=False:=eq_false (by omega)
 have f2:(((l.getD 0 0).toNat:Int)=45)=False:=eq_false (by omega)
 refine aC.aJ Tryz.func183 rfl (by decide) (by simp [Tryz.f183]) [.tmp 6,.tmp 7] rfl fun w0 T0 _=>?_
 simp only [Tryz.f183,aB]
 (repeat' with_reducible first|intro _|refine rz ?_|refine ra ?_ ?_|omega|simp only [go_sem,h0,f1,f2])
 refine ah.k k ?_
 (repeat' with_reducible first|intro _|exact dn|refine rn ?_|refine ra ?_ ?_)
 refine bZ.at 9223372036854775808 (by decide) ?_
 (repeat' with_reducible first|intro _|exact dn|refine rn ?_|refine ra ?_ ?_)
 refine bf.auto 0 ?_ rfl ?_<;>simp only [go_sem,Int.natCast_succ,Post]
theorem Qp (l:Bytes) (h1:l.all iL=true) (h0:l≠[]) (hl:l.length≤21) :
  aC Tryz.prog 143 [.str l,.int .i64 2,.int .i64 64] (.tup [.int .i64 (kX l),.raw .nilIface]) []:=by
 have k:=Qo l h1 h0 hl
 refine aC.aJ Tryz.func143 rfl (by decide) (by simp [Tryz.f143]) [.tmp 6,.tmp 7] rfl fun w0 T0 _=>?_
 simp only [Tryz.f143,aB]
 (repeat' with_reducible first|intro _|exact dn|refine rn ?_|refine ra ?_ ?_)
 refine ah.k k ?_
 (repeat' with_reducible first|intro _|exact dn|refine rn ?_|refine ra ?_ ?_)
 refine bf.auto 0 ?_ rfl ?_<;>simp only [go_sem,Int.natCast_succ,Post]
end Go.Fv.H
/- The reference's packBits: the walk. -/
namespace Go.Fv.H
open Go Go.Proofs
end Go.Fv.H
/- The reference's rowOf and bit: the walk; codes are made of "0" and "1". -/
namespace Go.Fv.H
open Go Go.Proofs
theorem LP (n:Nat):(gq n).all iL=true:=by
 unfold gq
 rw [List.all_append,KZ,Bool.and_true,List.all_eq_true]
 intro x hx;rw [(List.mem_replicate.1 hx).2];decide
theorem UG (l:List Int):(dB l).all iL=true:=by
 unfold dB
 rw [List.all_flatMap,List.all_eq_true]
 exact fun x _=>LP _
theorem UF (w:Nat) (p:List Bool) (y:Nat):(jD w p y).all iL=true:=by
 unfold jD
 rw [List.all_flatMap,List.all_eq_true]
 exact fun x _=>UG _
theorem Wy (k:Nat):(aQ.getD k []).all iL=true:=by
 by_cases h:k<7
 ·have hc:k=0∨k=1∨k=2∨k=3∨k=4∨k=5∨k=6:=by omega
  rcases hc with rfl|rfl|rfl|rfl|rfl|rfl|rfl<;>rfl
 ·rw [List.getD_eq_getElem?_getD,List.getElem?_eq_none (show aQ.length≤k by show 7≤k;omega)];rfl
theorem WW (row above:List Bool) (p:Nat) (ink:Bool):(bK row above p ink).c.all iL=true:=by
 unfold bK
 split
 ·exact (by decide:gZ.all iL=true)
 ·split
  ·exact Wy _
  ·dsimp only
   rw [List.all_append,List.all_append,LP,LP]
   decide
theorem OI {row above:List Bool} (hw:above.length=row.length):∀ (f p:Nat) (ink:Bool),row.length+1 - p≤f→(kU row above p ink).all iL=true
 | 0,p,ink,h=>by rw [jv (by omega)];rfl
 | f+1,p,ink,h=>by
  by_cases hp:p≤row.length
  ·have hs:=jR hw hp ink
   rw [lS hw hp,List.all_append,WW,Bool.true_and]
   exact OI hw f _ _ (by omega)
  ·rw [jv hp];rfl
theorem TB {row above:List Bool} (hw:above.length=row.length):(dZ row above).all iL=true:=by
 unfold dZ
 split
 ·rfl
 ·exact OI hw (row.length+1) 0 false (by omega)
theorem Qh (w h:Nat) (p:List Bool) (hp:p.length=w*h) (y:Nat) (hy:y≤h):(fE w p y).all iL=true:=by
 unfold fE
 rw [List.all_flatMap,List.all_eq_true]
 intro j hj
 rw [List.mem_range] at hj
 have hl:=gu hp (y:=j) (by omega)
 refine TB ?_
 rw [hl]
 unfold yC
 split
 ·exact List.length_replicate
 ·exact gu hp (by omega)
theorem RG (p:List Bool):(iV p).all iL=true:=by
 unfold iV
 rw [List.all_map,List.all_eq_true]
 intro x _
 cases x<;>rfl
end Go.Fv.H
/- Rows coded by the row above: what is coded is read. -/
namespace Go.Fv.H
open Go
theorem nJ {s:Bytes} {n l:Nat} (h:oM s=some (n,l)):l≤s.length∧1≤n∧l≤41:=by
 unfold oM at h
 split at h
 ·rename_i hc
  obtain ⟨h1,h2,h3,h4⟩:=hc
  have e:=Option.some.inj h
  have e1:kX ((s.drop (aG s)).take (aG s+1))=n:=congrArg Prod.fst e
  have e2:2*aG s+1=l:=congrArg Prod.snd e
  refine ⟨by omega,?_,by omega⟩
  have hd:(s.drop (aG s)).length=s.length - aG s:=List.length_drop
  have hz:s.drop (aG s)=s.dropWhile U6:=by
   unfold aG
   conv=>lhs;rw [←List.takeWhile_append_dropWhile (p:=U6) (l:=s)]
   rw [List.drop_left' (by rw [List.takeWhile_append_dropWhile])]
  cases hq:s.dropWhile U6 with
  | nil=>
   rw [hz,hq] at hd
   simp only [List.length_nil] at hd
   omega
  | cons c r=>
   have hc:U6 c=false:=by
    have:=List.head?_dropWhile_not U6 s
    rw [hq] at this
    simpa using this
   rw [hz,hq,List.take_succ_cons] at h3 e1
   rw [List.all_cons,Bool.and_eq_true] at h3
   have h49:c=49:=by
    have:=h3.1
    unfold iL at this
    unfold U6 at hc
    rw [decide_eq_true_eq] at this
    rw [decide_eq_false_iff_not] at hc
    rcases this with h|h
    ·exact absurd h hc
    ·exact h
   subst h49
   have key:∀ (l:Bytes) (a:Nat),1≤a→1≤l.foldl (fun a c=>2*a+(c.toNat - 48)) a:=by
    intro l
    induction l with
    | nil=>intro a h;exact h
    | cons x l ih=>intro a h;exact ih (2*a+(x.toNat - 48)) (by omega)
   rw [←e1]
   unfold kX
   rw [List.foldl_cons]
   exact key _ _ (by decide)
 ·cases h
theorem JX (s:Bytes) (k:Nat) (hk:64≤k):oM (s.take k)=oM s:=by
 have hl:aG (s.take k)=min (aG s) k:=by
  unfold aG
  clear hk
  induction s generalizing k with
  | nil=>simp
  | cons c s ih=>
   cases k with
   | zero=>simp
   | succ k=>
    rw [List.take_succ_cons,List.takeWhile_cons,List.takeWhile_cons]
    cases U6 c with
    | true=>simp only [if_true,List.length_cons];rw [ih];omega
    | false=>simp
 unfold oM
 rw [hl]
 by_cases h:aG s≤20
 ·have e:min (aG s) k=aG s:=by omega
  have e2:((s.take k).drop (aG s)).take (aG s+1)=(s.drop (aG s)).take (aG s+1):=by
   rw [List.drop_take,List.take_take]
   congr 1
   omega
  have e3:(2*aG s+1≤(s.take k).length)↔(2*aG s+1≤s.length):=by rw [List.length_take];omega
  rw [e,e2]
  simp only [e3]
 ·rw [if_neg (by omega),if_neg (by omega)]
theorem Aq {s:Bytes} (h:codeOf s≤8):(codeOf s=0→4≤s.length)∧(codeOf s=8→3≤s.length)∧(1≤codeOf s→codeOf s≤7→(aQ.getD (codeOf s - 1) []).length≤s.length):=by
 have key:∀ c:Bytes,c.isPrefixOf s=true→c.length≤s.length:=fun c hc=>(List.isPrefixOf_iff_prefix.1 hc).length_le
 unfold codeOf
 repeat' split
 all_goals rename_i hx
 all_goals first
  | exact ⟨fun _=>key _ hx,fun h=>by omega,fun h=>by omega⟩
  | exact ⟨fun h=>by omega,fun h=>by omega,fun _ _=>key _ hx⟩
  | exact ⟨fun h=>by omega,fun _=>key _ hx,fun _ h=>by omega⟩
  | exact ⟨fun h=>by omega,fun h=>by omega,fun _ h=>by omega⟩
theorem LD {strict:Bool} {w:Nat} {s:Bytes} {p:Nat} {ink:Bool} {x:XD} (h:yR strict w s p ink=some x):p<x.p∧x.p≤w+1∧x.px.length=x.p - 1 - (p - 1)∧(3≤s.length→x.n≤s.length):=by
 unfold yR at h
 cases h1:oM (s.drop 3) with
 | none=>rw [h1] at h;cases h
 | some y=>
  obtain ⟨m1,l1⟩:=y
  rw [h1] at h
  dsimp only at h
  cases h2:oM (s.drop (3+l1)) with
  | none=>rw [h2] at h;cases h
  | some z=>
   obtain ⟨m2,l2⟩:=z
   rw [h2] at h
   dsimp only at h
   split at h
   ·rename_i hc
    cases h
    have g1:=(nJ h1).1
    have g2:=(nJ h2).1
    rw [List.length_drop] at g1 g2
    refine ⟨by dsimp only;omega,by dsimp only;omega,by simp;omega,by dsimp only;omega⟩
   ·cases h
theorem nK {strict:Bool} {above:List Bool} {s:Bytes} {p:Nat} {ink:Bool} {x:XD} (hp:p≤above.length) (h:rdStep strict above s p ink=some x):p<x.p∧x.p≤above.length+1∧x.px.length=x.p - 1 - (p - 1)∧x.n≤s.length:=by
 have hcl:=@Aq s
 obtain ⟨b1,b2⟩:=vM (r:=above) (i:=p) hp (!ink)
 have b3:=gU above (gy above p (!ink)+1)
 have b4:p≤dQ above (gy above p (!ink)+1):=by
  by_cases h:gy above p (!ink)<above.length
  ·have:=jl (r:=above) (i:=gy above p (!ink)+1) (by omega);omega
  ·rw [iP (r:=above) (i:=gy above p (!ink)+1) (by omega)];omega
 unfold rdStep at h
 split at h
 ·rename_i h0
  cases h
  have:=(hcl (by omega)).1 h0
  refine ⟨by dsimp only;omega,by dsimp only;omega,by simp,this⟩
 ·split at h
  ·rename_i h0 h7
   split at h
   ·cases h
    have:=(hcl (by omega)).2.2 (by omega) h7
    refine ⟨by dsimp only;omega,by dsimp only;omega,by simp,this⟩
   ·cases h
  ·split at h
   ·rename_i h8
    have:=LD h
    exact ⟨this.1,this.2.1,this.2.2.1,this.2.2.2 ((hcl (by omega)).2.1 h8)⟩
   ·cases h
def oN (strict:Bool) (above:List Bool) (s:Bytes) (p:Nat) (ink:Bool):Option (List Bool × Nat):=
 if hp:p≤above.length then
  match h:rdStep strict above s p ink with
  | none=>none
  | some x=>match oN strict above (s.drop x.n) x.p x.k with
   | none=>none
   | some (l,n)=>some (x.px++l,x.n+n)
 else some ([],0)
termination_by above.length+1 - p
decreasing_by have:=(nK hp h).1;omega
theorem oO {strict:Bool} {above:List Bool} {s:Bytes} {p:Nat} (hp:¬p≤above.length) (ink:Bool):oN strict above s p ink=some ([],0):=by rw [oN,dif_neg hp]
theorem x9 {strict:Bool} {above:List Bool} {s:Bytes} {p:Nat} {ink:Bool} (hp:p≤above.length) (h:rdStep strict above s p ink=none):oN strict above s p ink=none:=by
 rw [oN,dif_pos hp]
 split
 ·rfl
 ·rename_i x hx;rw [h] at hx;cases hx
theorem lT {strict:Bool} {above:List Bool} {s:Bytes} {p:Nat} {ink:Bool} {x:XD} (hp:p≤above.length) (h:rdStep strict above s p ink=some x) :
  oN strict above s p ink=match oN strict above (s.drop x.n) x.p x.k with|none=>none|some (l,n)=>some (x.px++l,x.n+n):=by
 conv=>lhs;rw [oN]
 rw [dif_pos hp]
 split
 ·rename_i hx;rw [h] at hx;cases hx
 ·rename_i y hx;rw [h] at hx;cases hx;rfl
theorem JY {strict:Bool} {above:List Bool}:∀ (f:Nat) (s:Bytes) (p:Nat) (ink:Bool) (l:List Bool) (n:Nat),above.length+1 - p≤f→p≤above.length+1→oN strict above s p ink=some (l,n)→l.length=above.length - (p - 1)∧n≤s.length
 | 0,s,p,ink,l,n,hf,hp,h=>by
  rw [oO (by omega)] at h
  cases h
  exact ⟨by simp;omega,Nat.zero_le _⟩
 | f+1,s,p,ink,l,n,hf,hp,h=>by
  by_cases hq:p≤above.length
  ·cases hx:rdStep strict above s p ink with
   | none=>rw [x9 hq hx] at h;cases h
   | some x=>
    obtain ⟨x1,x2,x3,x4⟩:=nK hq hx
    rw [lT hq hx] at h
    cases hy:oN strict above (s.drop x.n) x.p x.k with
    | none=>rw [hy] at h;cases h
    | some y=>
     obtain ⟨l2,n2⟩:=y
     rw [hy] at h
     cases h
     obtain ⟨i1,i2⟩:=JY f _ _ _ _ _ (by omega) x2 hy
     rw [List.length_drop] at i2
     exact ⟨by rw [List.length_append];omega,by omega⟩
  ·rw [oO hq] at h
   cases h
   exact ⟨by simp;omega,Nat.zero_le _⟩
theorem GL {r:List Bool} {a b:Nat} {c:Bool} (hb:b≤r.length) (h:∀ j,a≤j→j<b→r.getD j false=c):List.replicate (b - a) c=(r.drop a).take (b - a):=by
 apply List.ext_getElem
 ·simp;omega
 ·intro j h1 h2
  rw [List.getElem_replicate,List.getElem_take,List.getElem_drop]
  have:=h (a+j) (by omega) (by simp at h1;omega)
  rw [←this,List.getD_eq_getElem?_getD,List.getElem?_eq_getElem (by simp at h1;omega)]
  rfl
theorem take_split {r:List Bool} {a b c:Nat} (h1:a≤b):r.drop a=(r.drop a).take (b - a)++r.drop b:=by
 conv=>lhs;rw [←List.take_append_drop (b - a) (r.drop a)]
 rw [List.drop_drop,Nat.add_sub_cancel' h1]
theorem sQ (strict:Bool) {row above:List Bool} (hw:above.length=row.length) (hm:row.length≤4000) (r:Bytes):∀ (f p:Nat) (ink:Bool),row.length+1 - p≤f→p≤row.length+1→(p≤row.length→OY row p=ink) →
  oN strict above (kU row above p ink++r) p ink=some (row.drop (p - 1),(kU row above p ink).length)
 | 0,p,ink,hf,hp,hi=>by
  rw [jv (by omega),oO (by omega),List.drop_of_length_le (by omega)];rfl
 | f+1,p,ink,hf,hp,hi=>by
  by_cases hq:p≤row.length
  ·have hi:=hi hq
   have hst:=jR hw hq ink
   have hga:∀ j,p - 1≤j→j<dQ row p→j<row.length→row.getD j false=ink:=fun j h1 h2 h3=>by
    by_cases e:p≤j
    ·rw [Ap e h2,hi]
    ·have:p=j+1:=by omega
     subst this
     rw [jC] at hi;exact hi
   have g1:=jl hq
   have g2:=gU row p
   obtain ⟨b1,b2⟩:=vM (r:=above) (i:=p) (by omega) (!ink)
   have b3:=gU above (gy above p (!ink)+1)
   rw [lS hw hq]
   unfold bK at hst ⊢
   split
   ·rename_i hc
    rw [if_pos hc] at hst
    dsimp only at hst ⊢
    generalize hB:dQ above (gy above p (!ink)+1)=b at *
    have hs:rdStep strict above ((gZ++kU row above (b+1) ink)++r) p ink=some ⟨b+1,ink,List.replicate (b - (p - 1)) ink,4⟩:=by
     unfold rdStep
     rw [List.append_assoc,IU,if_pos rfl,hB]
    rw [lT (by omega) hs]
    dsimp only
    have e:(gZ++kU row above (b+1) ink++r).drop 4=kU row above (b+1) ink++r:=by rw [List.append_assoc];rfl
    rw [e,sQ strict hw hm r f (b+1) ink (by omega) (by omega) (fun _=>by rw [jC];exact hga b (by omega) hc (by omega))]
    dsimp only
    rw [GL (r:=row) (a:=p - 1) (b:=b) (by omega) (fun j h1 h2=>hga j h1 (by omega) (by omega)),Nat.add_sub_cancel,←take_split (c:=0) (by omega),List.length_append]
    rfl
   ·rename_i hc
    split
    ·rename_i hn
     rw [if_neg hc,if_pos hn] at hst
     dsimp only at hst ⊢
     generalize hA:dQ row p=a at *
     generalize hB:gy above p (!ink)=b at *
     have hk:a+3 - b≤6:=by omega
     have hs:rdStep strict above ((aQ.getD (a+3 - b) []++kU row above (a+1) (!ink))++r) p ink=some ⟨a+1,!ink,List.replicate (a - (p - 1)) ink,(aQ.getD (a+3 - b) []).length⟩:=by
      unfold rdStep
      rw [List.append_assoc,IQ _ hk,if_neg (by omega),if_pos (by omega),hB,if_pos (by omega)]
      have e1:b+(a+3 - b+1) - 4=a:=by omega
      rw [e1]
      rfl
     rw [lT (by omega) hs]
     dsimp only
     have e:(aQ.getD (a+3 - b) []++kU row above (a+1) (!ink)++r).drop (aQ.getD (a+3 - b) []).length=kU row above (a+1) (!ink)++r:=by rw [List.append_assoc,List.drop_left]
     rw [e,sQ strict hw hm r f (a+1) (!ink) (by omega) (by omega) (fun h=>by
      rw [jC,←hA,nZ (by omega),hi])]
     dsimp only
     rw [GL (r:=row) (a:=p - 1) (b:=a) (by omega) (fun j h1 h2=>hga j h1 (by omega) (by omega)),Nat.add_sub_cancel,←take_split (c:=0) (by omega),List.length_append]
    ·rename_i hn
     rw [if_neg hc,if_neg hn] at hst
     dsimp only at hst ⊢
     have g3:=gU row (dQ row p+1)
     have hga2:∀ j,dQ row p≤j→j<dQ row (dQ row p+1)→row.getD j false=!ink:=fun j h1 h2=>by
      by_cases e:j=dQ row p
      ·subst e;rw [nZ (by omega),hi]
      ·rw [Ap (i:=dQ row p+1) (by omega) h2,jC,nZ (by omega),hi]
     have g4:dQ row p≤dQ row (dQ row p+1):=by
      by_cases h:dQ row p<row.length
      ·have:=jl (r:=row) (i:=dQ row p+1) (by omega);omega
      ·rw [iP (r:=row) (i:=dQ row p+1) (by omega)];omega
     have hnk:dQ row (dQ row p+1)+1≤row.length→OY row (dQ row (dQ row p+1)+1)=ink:=fun h=>by
      rw [jC,nZ (by omega),jC,nZ (by omega),hi,Bool.not_not]
     generalize hA2:dQ row (dQ row p+1)=a2 at *
     generalize hA:dQ row p=a at *
     clear hn hc
     have m1:=Gy (n:=a - (p - 1)+1) (by omega) (by omega) (gq (a2 - a+1)++(kU row above (a2+1) ink++r))
     have m2:=Gy (n:=a2 - a+1) (by omega) (by omega) (kU row above (a2+1) ink++r)
     generalize gq (a - (p - 1)+1)=G1 at *
     generalize gq (a2 - a+1)=G2 at *
     generalize hT:kU row above (a2+1) ink=T at *
     have e1:(fP++(G1++G2)++T++r).drop 3=G1++(G2++(T++r)):=by
      rw [show fP++(G1++G2)++T++r=fP++(G1++(G2++(T++r))) by simp only [List.append_assoc]];rfl
     have e2:(fP++(G1++G2)++T++r).drop (3+G1.length)=G2++(T++r):=by
      rw [←List.drop_drop,e1,List.drop_left]
     have e3:(fP++(G1++G2)++T++r).drop (3+G1.length+G2.length)=T++r:=by
      rw [←List.drop_drop,e2,List.drop_left]
     have hs:rdStep strict above (fP++(G1++G2)++T++r) p ink=some ⟨a2+1,ink,List.replicate (a - (p - 1)) ink++List.replicate (a2 - a) (!ink),3+G1.length+G2.length⟩:=by
      unfold rdStep
      have e0:codeOf (fP++(G1++G2)++T++r)=8:=by
       rw [show fP++(G1++G2)++T++r=fP++(G1++(G2++(T++r))) by simp only [List.append_assoc]];exact Ll _
      rw [e0,if_neg (by omega),if_neg (by omega),if_pos rfl]
      unfold yR
      rw [e1,m1]
      dsimp only
      rw [e2,m2]
      dsimp only
      rw [if_pos ⟨fun _=>by omega,by omega,by omega⟩]
      have q1:p - 1+(a - (p - 1)+1 - 1)+(a2 - a+1 - 1)+1=a2+1:=by omega
      rw [q1,Nat.add_sub_cancel,Nat.add_sub_cancel]
     rw [lT (by omega) hs]
     dsimp only
     rw [e3,←hT,sQ strict hw hm r f (a2+1) ink (by omega) (by omega) hnk]
     dsimp only
     rw [GL (r:=row) (a:=p - 1) (b:=a) (by omega) (fun j h1 h2=>hga j h1 (by omega) (by omega)),GL (r:=row) (a:=a) (b:=a2) (by omega) hga2,Nat.add_sub_cancel,List.append_assoc,←take_split (c:=0) (by omega),←take_split (c:=0) (by omega)]
     rw [show fP++(G1++G2)++kU row above (a2+1) ink=fP++(G1++(G2++kU row above (a2+1) ink)) by simp only [List.append_assoc],List.length_append,List.length_append,List.length_append]
     congr 2
     have:fP.length=3:=rfl
     omega
  ·rw [jv hq,oO (by omega),List.drop_of_length_le (by omega)];rfl
def kN (strict:Bool) (above:List Bool) (s:Bytes):Option (List Bool × Nat):=if above.length=0 then some ([],0) else oN strict above s 0 false
def gB (strict:Bool) (above:List Bool) (s:Bytes):Option (List Bool × Nat):=
 match kN strict above s with
 | none=>none
 | some (l,n)=>if dZ l above=s.take n then some (l,n) else none
theorem MQ (strict:Bool) {row above:List Bool} (hw:above.length=row.length) (hm:row.length≤4000) (r:Bytes):kN strict above (dZ row above++r)=some (row,(dZ row above).length):=by
 unfold kN dZ
 by_cases h:row.length=0
 ·rw [if_pos (by omega),if_pos h,List.eq_nil_of_length_eq_zero h];rfl
 ·rw [if_neg (by omega),if_neg h]
  have:=sQ strict hw hm r (row.length+1) 0 false (by omega) (by omega) (fun _=>rfl)
  rw [this];rfl
theorem JZ (strict:Bool) {row above:List Bool} (hw:above.length=row.length) (hm:row.length≤4000) (r:Bytes):gB strict above (dZ row above++r)=some (row,(dZ row above).length):=by
 unfold gB
 rw [MQ strict hw hm r]
 dsimp only
 rw [List.take_left,if_pos rfl]
theorem EO {strict:Bool} {above:List Bool} {s:Bytes} {l:List Bool} {n:Nat} (h:kN strict above s=some (l,n)):l.length=above.length∧n≤s.length:=by
 unfold kN at h
 split at h
 ·cases h;exact ⟨by simp;omega,Nat.zero_le _⟩
 ·have:=JY (above.length+1) s 0 false l n (by omega) (by omega) h
  exact ⟨by omega,this.2⟩
theorem J3 {strict:Bool} {above:List Bool} {s:Bytes} {l:List Bool} {n:Nat} (h:gB strict above s=some (l,n)):l.length=above.length∧n≤s.length∧dZ l above=s.take n:=by
 unfold gB at h
 cases ha:kN strict above s with
 | none=>rw [ha] at h;cases h
 | some x=>
  obtain ⟨l2,n2⟩:=x
  rw [ha] at h
  dsimp only at h
  split at h
  ·rename_i hc
   cases h
   have:=EO ha
   exact ⟨this.1,this.2,hc⟩
  ·cases h
end Go.Fv.H
/- Pages out of data, in plain words: what is written is read. -/
namespace Go.Fv.H
open Go
theorem Gz {s:Bytes} {n l:Nat} (h:oM s=some (n,l)):1≤l∧n≤1048576:=by
 unfold oM at h
 split at h
 ·rename_i hc;cases h;exact ⟨by omega,hc.2.2.2⟩
 ·cases h
def fB (w n:Nat) (ink:Bool) (s:Bytes):List Bool × Option Bytes:=
 if n<w then
  match h:oM s with
  | none=>([],none)
  | some (m,l)=>if w - n<m - 1 then ([],none) else (List.replicate (m - 1) ink++(fB w (n+(m - 1)) (!ink) (s.drop l)).1,(fB w (n+(m - 1)) (!ink) (s.drop l)).2)
 else ([],some s)
termination_by s.length
decreasing_by
 all_goals
  have h2:=nJ h
  have h3:=Gz h
  rw [List.length_drop];omega
def pY (f:Bytes→List Bool × Bool) (q:List Bool × Option Bytes):List Bool × Bool:=
 match q.2 with
 | none=>(q.1,false)
 | some t=>(q.1++(f t).1,(f t).2)
def eG (w:Nat):Nat→Bytes→List Bool × Bool
 | 0,_=>([],true)
 | h+1,s=>pY (eG w h) (fB w 0 false s)
def dJ:Nat→List Bool→Bytes→List Bool × Bool
 | 0,_,_=>([],true)
 | h+1,ab,s=>
  match gB true ab s with
  | none=>([],false)
  | some (r,n)=>(r++(dJ h r (s.drop n)).1,(dJ h r (s.drop n)).2)
def rC (s:Bytes):List Bool:=s.map fun c=>decide (c=49)
def nU (n:Nat) (s:Bytes):List Bool × Bool:=if s.length<n then ([],false) else (rC (s.take n),true)
def mJ (kind:Int) (w h:Nat) (d:Bytes):List Bool × Bool:=
 if kind=4 then ((jf w h d (w*h) (w*h)).P,true) else if kind=1 then nU (w*h) (qx d) else if kind=2 then eG w h (qx d) else dJ h (List.replicate w false) (qx d)
theorem Yj (s:Bytes) (j:Nat) {t:Nat} (ht:t<8):pk s j / 2 ^ (7 - t)%2=bt s (8*j+t):=by
 have h0:=bt_le s (8*j)
 have h1:=bt_le s (8*j+1)
 have h2:=bt_le s (8*j+2)
 have h3:=bt_le s (8*j+3)
 have h4:=bt_le s (8*j+4)
 have h5:=bt_le s (8*j+5)
 have h6:=bt_le s (8*j+6)
 have h7:=bt_le s (8*j+7)
 have hc:t=0∨t=1∨t=2∨t=3∨t=4∨t=5∨t=6∨t=7:=by omega
 unfold pk
 rcases hc with rfl|rfl|rfl|rfl|rfl|rfl|rfl|rfl
 all_goals simp only [Nat.add_zero,Nat.reduceSub,Nat.reducePow,Nat.sub_self,Nat.sub_zero]
 all_goals omega
theorem G9 {s:Bytes} (h1:s.all iL=true):∃ z,qx (mF s)=s++List.replicate z 48:=by
 refine ⟨8*((s.length+7) / 8) - s.length,?_⟩
 have hpl:(mF s).length=(s.length+7) / 8:=zN _ _
 apply List.ext_getElem?
 intro i
 unfold qx
 rw [List.getElem?_map,hpl]
 by_cases hi:i<8*((s.length+7) / 8)
 ·rw [List.getElem?_range hi]
  have hj:i / 8<(s.length+7) / 8:=by omega
  have e1:((mF s).getD (i / 8) 0).toNat=pk s (i / 8):=Ui s hj
  rw [Option.map_some,e1,Yj s (i / 8) (Nat.mod_lt _ (by decide)),show 8*(i / 8)+i%8=i by omega]
  by_cases hs:i<s.length
  ·rw [List.getElem?_append_left hs]
   have ha:s.getD i 0=48∨s.getD i 0=49:=by
    have:=(List.all_eq_true.1 h1) (s.getD i 0) (by rw [getD_lt hs];exact List.getElem_mem hs)
    simpa [iL] using this
   have e:s[i]?=some (s.getD i 0):=by rw [getD_lt hs,List.getElem?_eq_getElem hs]
   rw [e]
   unfold bt
   rcases ha with ha|ha<;>rw [ha]<;>rfl
  ·rw [List.getElem?_append_right (by omega),List.getElem?_replicate,if_pos (by omega)]
   have e:s.getD i 0=0:=by rw [List.getD_eq_getElem?_getD,List.getElem?_eq_none (by omega)];rfl
   unfold bt
   rw [e];rfl
 ·rw [List.getElem?_eq_none (by simp;omega),List.getElem?_eq_none (by rw [List.length_append,List.length_replicate];omega)];rfl
theorem JO (p:List Bool) (t:Bytes):nU p.length (iV p++t)=(p,true):=by
 unfold nU
 have hl:(iV p).length=p.length:=jL p
 rw [if_neg (by rw [List.length_append];omega),←hl,List.take_left]
 congr 1
 unfold rC iV
 rw [List.map_map]
 conv=>rhs;rw [←List.map_id p]
 apply List.map_congr_left
 intro b _
 cases b<;>rfl
theorem yh {w n:Nat} (h:¬n<w) (ink:Bool) (s:Bytes):fB w n ink s=([],some s):=by rw [fB,if_neg h]
theorem BZ {w n:Nat} (h:n<w) (ink:Bool) {s:Bytes} (hs:oM s=none):fB w n ink s=([],none):=by
 rw [fB,if_pos h]
 split
 ·rfl
 ·rename_i h2;rw [hs] at h2;cases h2
theorem Cb {w n m l:Nat} (h:n<w) (ink:Bool) {s:Bytes} (hs:oM s=some (m,l)) (hm:w - n<m - 1):fB w n ink s=([],none):=by
 rw [fB,if_pos h]
 split
 ·rfl
 ·rename_i h2;rw [hs] at h2;cases h2;rw [if_pos hm]
theorem uM {w n m l:Nat} (h:n<w) (ink:Bool) {s:Bytes} (hs:oM s=some (m,l)) (hm:¬w - n<m - 1) :
  fB w n ink s=(List.replicate (m - 1) ink++(fB w (n+(m - 1)) (!ink) (s.drop l)).1,(fB w (n+(m - 1)) (!ink) (s.drop l)).2):=by
 conv=>lhs;rw [fB]
 rw [if_pos h]
 split
 ·rename_i h2;rw [hs] at h2;cases h2
 ·rename_i h2;rw [hs] at h2;cases h2;rw [if_neg hm]
def Dw:Bool→List Int→List Bool
 | _,[]=>[]
 | ink,n::l=>List.replicate n.toNat ink++Dw (!ink) l
def rJ (l:List Int):Int:=l.foldr (·+·) 0
theorem WX {l:List Int} (h:∀ y,y∈l→1≤y):(l.length:Int)≤rJ l:=by
 induction l with
 | nil=>exact Int.le_refl _
 | cons x l ih=>
  have h1:=ih fun y hy=>h y (.tail _ hy)
  have h2:=h x (.head _)
  show ((l.length+1:Nat):Int)≤x+rJ l
  omega
theorem Cc (w:Nat) (hw:w≤4000) (t:Bytes):∀ (l:List Int) (n:Nat) (ink:Bool),(∀ x,x∈l→0≤x)→(∀ y,y∈l.drop 1→1≤y)→(l≠[]→1≤rJ l)→(n:Int)+rJ l=w →
  fB w n ink (dB l++t)=(Dw ink l,some t)
 | [],n,ink,_,_,_,hs=>by
  have:n=w:=by have:(n:Int)+0=w:=hs;omega
  rw [yh (by omega)];rfl
 | x::l,n,ink,h0,h1,hp,hs=>by
  have hx:=h0 x (.head _)
  have hp2:1≤rJ (x::l):=hp (by simp)
  have e:rJ (x::l)=x+rJ l:=rfl
  have hl1:∀ y,y∈l→1≤y:=fun y hy=>h1 y hy
  have hsl:=WX hl1
  have hn:n<w:=by omega
  have hg:oM (dB (x::l)++t)=some ((x+1).toNat,(gq (x+1).toNat).length):=by
   show oM (gq (x+1).toNat++dB l++t)=_
   rw [List.append_assoc]
   exact Gy (by omega) (by omega) _
  have hd:(dB (x::l)++t).drop (gq (x+1).toNat).length=dB l++t:=by
   show (gq (x+1).toNat++dB l++t).drop _=_
   rw [List.append_assoc,List.drop_left]
  have e2:(x+1).toNat - 1=x.toNat:=by omega
  rw [uM hn ink hg (by omega),hd,e2]
  have ih:=Cc w hw t l (n+x.toNat) (!ink) (fun y hy=>by have:=hl1 y hy;omega) (fun y hy=>hl1 y (List.mem_of_mem_drop hy)) (fun hne=>by
   have:0<l.length:=List.length_pos_iff.2 hne
   omega) (by omega)
  rw [ih];rfl
theorem vP:∀ (l:List Int) (ink:Bool) (x:Int),Dw ink (l++[x])=Dw ink l++List.replicate x.toNat (xor ink (decide (l.length%2=1)))
 | [],ink,x=>by cases ink<;>simp [Dw]
 | y::l,ink,x=>by
  show List.replicate y.toNat ink++Dw (!ink) (l++[x])=List.replicate y.toNat ink++Dw (!ink) l++_
  rw [vP l (!ink) x,List.append_assoc]
  congr 3
  have e:(y::l).length=l.length+1:=rfl
  rw [e]
  by_cases h:l.length%2=1
  ·rw [decide_eq_true h,decide_eq_false (by omega)];cases ink<;>rfl
  ·rw [decide_eq_false h,decide_eq_true (by omega)];cases ink<;>rfl
theorem wL (l:List Int) (x:Int):rJ (l++[x])=rJ l+x:=by
 induction l with
 | nil=>show x+0=0+x;omega
 | cons y l ih=>show y+rJ (l++[x])=y+rJ l+x;rw [ih];omega
structure Xi (row:List Bool) (i:Nat) (l0:List Int) (x:Int) (ink:Bool):Prop where
 ink:ink=decide (l0.length%2=1)
 ex:Dw false (l0++[x])=row.take i
 x1:1≤x
 nn:∀ y,y∈l0→0≤y
 pos:∀ y,y∈l0.drop 1→1≤y
 sum:rJ l0+x=i
theorem take_snoc {row:List Bool} {i:Nat} (h:i<row.length):row.take (i+1)=row.take i++[row.getD i false]:=by
 rw [List.take_succ_eq_append_getElem h,getD_lt h]
theorem Ko (l0:List Int) (x y:Int):(l0++[x]).set ((l0++[x]).length - 1) y=l0++[y]:=by
 have e:(l0++[x]).length - 1=l0.length:=by simp
 rw [e,List.set_append_right _ _ (Nat.le_refl _),Nat.sub_self];rfl
theorem Ez (l0:List Int) (x:Int):(l0++[x]).getD ((l0++[x]).length - 1) 0=x:=by
 have e:(l0++[x]).length - 1=l0.length:=by simp
 rw [e,List.getD_eq_getElem?_getD,List.getElem?_append_right (Nat.le_refl _),Nat.sub_self];rfl
theorem sW {row:List Bool} {i:Nat} (h:i<row.length) {l0:List Int} {x:Int} {p ink:Bool} (hp:row.getD i false=p) (hi:ink=decide (l0.length%2=1)) (hx:0≤x) (hpi:p=ink)
  (he:Dw false (l0++[x])=row.take i) (nn:∀ y,y∈l0→0≤y) (pos:∀ y,y∈l0.drop 1→1≤y) (hs:rJ l0+x=i):Xi row (i+1) l0 (x+1) p:=by
 refine ⟨by rw [hpi,hi],?_,by omega,nn,pos,by omega⟩
 rw [take_snoc h,←he,vP,vP,List.append_assoc,hp,hpi,hi]
 congr 1
 have e:(x+1).toNat=x.toNat+1:=by omega
 rw [e,List.replicate_succ',Bool.false_xor]
theorem yx (row:List Bool):∀ i,i<row.length→∃ l0 x,(bP row (i+1)).1=l0++[x]∧Xi row (i+1) l0 x (bP row (i+1)).2
 | 0,h=>by
  have e:bP row 1=kQ [] false 0 (row.getD 0 false):=rfl
  rw [e]
  cases hp:row.getD 0 false with
  | false=>
   refine ⟨[],1,rfl,?_⟩
   exact sW (ink:=false) h hp rfl (Int.le_refl 0) rfl (by rfl) (by simp) (by simp) (by rfl)
  | true=>
   refine ⟨[0],1,rfl,?_⟩
   exact sW (ink:=true) h hp rfl (Int.le_refl 0) rfl (by rfl) (by simp) (by simp) (by rfl)
 | i+1,h=>by
  obtain ⟨l0,x,h1,h2⟩:=yx row i (by omega)
  have e:bP row (i+1+1)=kQ (bP row (i+1)).1 (bP row (i+1)).2 (i+1) (row.getD (i+1) false):=rfl
  rw [e,h1]
  generalize (bP row (i+1)).2=ink at h2 ⊢
  cases hp:row.getD (i+1) false with
  | _=>
   unfold kQ
   simp only [if_neg (show ¬(i+1=0) by omega)]
   split
   ·rename_i hq
    refine ⟨l0,x+1,?_,?_⟩
    ·rw [Ez,Ko]
    ·exact sW (ink:=ink) h hp h2.ink (by have:=h2.x1;omega) hq h2.ex h2.nn h2.pos h2.sum
   ·rename_i hq
    refine ⟨l0++[x],0+1,?_,?_⟩
    ·rw [Ez,Ko]
    ·have hlen:(l0++[x]).length=l0.length+1:=by simp
     have hx:=h2.x1
     refine sW (ink:=!ink) h hp ?_ (Int.le_refl 0) ?_ ?_ (fun y hy=>?_) (fun y hy=>?_) ?_
     ·rw [hlen,h2.ink]
      by_cases hq:l0.length%2=1
      ·rw [decide_eq_true hq,decide_eq_false (by omega)];rfl
      ·rw [decide_eq_false hq,decide_eq_true (by omega)];rfl
     ·revert hq;cases ink<;>simp
     ·rw [vP,h2.ex];simp
     ·rcases List.mem_append.1 hy with hy|hy
      ·exact h2.nn y hy
      ·rw [List.mem_singleton.1 hy];omega
     ·rw [List.drop_append] at hy
      rcases List.mem_append.1 hy with hy|hy
      ·exact h2.pos y hy
      ·have:=List.mem_of_mem_drop hy
       rw [List.mem_singleton.1 this];omega
     ·rw [wL];have:=h2.sum;omega
theorem QG {r:List Bool} (h0:0<r.length) (hw:r.length≤4000) (t:Bytes):fB r.length 0 false (dB (iw r)++t)=(r,some t):=by
 obtain ⟨l0,x,h1,h2⟩:=yx r (r.length - 1) (by omega)
 have e:r.length - 1+1=r.length:=by omega
 rw [e] at h1 h2
 have hr:iw r=l0++[x]:=h1
 have hx:=h2.x1
 have key:fB r.length 0 false (dB (l0++[x])++t)=(Dw false (l0++[x]),some t):=by
  refine Cc r.length hw t (l0++[x]) 0 false (fun y hy=>?_) (fun y hy=>?_) (fun _=>?_) ?_
  ·rcases List.mem_append.1 hy with hy|hy
   ·exact h2.nn y hy
   ·rw [List.mem_singleton.1 hy];omega
  ·rw [List.drop_append] at hy
   rcases List.mem_append.1 hy with hy|hy
   ·exact h2.pos y hy
   ·have:=List.mem_of_mem_drop hy
    rw [List.mem_singleton.1 this];omega
  ·rw [wL];have:=h2.sum;omega
  ·rw [wL];have:=h2.sum;omega
 rw [hr,key,h2.ex,List.take_length]
theorem row_drop {w h:Nat} {p:List Bool} (hp:p.length=w*h) {j:Nat} (hj:j<h):rowP w p j++p.drop ((j+1)*w)=p.drop (j*w):=by
 unfold rowP
 rw [Nat.succ_mul,←List.drop_drop]
 exact List.take_append_drop w _
theorem I4 {w h:Nat} {p:List Bool} (hp:p.length=w*h):p.drop (h*w)=[]:=List.drop_of_length_le (by rw [hp,Nat.mul_comm];exact Nat.le_refl _)
theorem zi {w h:Nat} (hw0:0<w) (hw:w≤4000) {p:List Bool} (hp:p.length=w*h) (t:Bytes):∀ (k j:Nat),j+k=h→eG w k ((List.range' j k).flatMap (fun j=>dB (iw (rowP w p j)))++t)=(p.drop (j*w),true)
 | 0,j,e=>by
  have:j=h:=by omega
  subst this
  rw [I4 hp];rfl
 | k+1,j,e=>by
  rw [List.range'_succ,List.flatMap_cons,List.append_assoc]
  have hl:=gu hp (y:=j) (by omega)
  have h1:=QG (r:=rowP w p j) (by omega) (by omega) ((List.range' (j+1) k).flatMap (fun j=>dB (iw (rowP w p j)))++t)
  rw [hl] at h1
  show pY (eG w k) (fB w 0 false _)=_
  rw [h1]
  show (rowP w p j++(eG w k _).1,(eG w k _).2)=_
  rw [zi hw0 hw hp t k (j+1) (by omega),row_drop hp (by omega)]
theorem Kz (w:Nat) (p:List Bool) (j:Nat):yC w p (j+1)=rowP w p j:=by unfold yC;rw [if_neg (by omega)];rfl
theorem U2 {w h:Nat} {p:List Bool} (hp:p.length=w*h) {y:Nat} (hy:y<h):(yC w p y).length=w:=by
 unfold yC
 split
 ·exact List.length_replicate
 ·exact gu hp (by omega)
theorem yZ {w h:Nat} (hw0:0<w) (hw:w≤4000) {p:List Bool} (hp:p.length=w*h) (t:Bytes):∀ (k j:Nat),j+k=h→dJ k (yC w p j) ((List.range' j k).flatMap (fun j=>dZ (rowP w p j) (yC w p j))++t)=(p.drop (j*w),true)
 | 0,j,e=>by
  have:j=h:=by omega
  subst this
  rw [I4 hp];rfl
 | k+1,j,e=>by
  rw [List.range'_succ,List.flatMap_cons,List.append_assoc]
  have hl:=gu hp (y:=j) (by omega)
  have hu:=U2 hp (y:=j) (by omega)
  have h1:=JZ true (row:=rowP w p j) (above:=yC w p j) (by omega) (by omega) ((List.range' (j+1) k).flatMap (fun j=>dZ (rowP w p j) (yC w p j))++t)
  show (match gB true _ _ with|none=>_|some (r,n)=>_)=_
  rw [h1]
  show (rowP w p j++(dJ k (rowP w p j) _).1,(dJ k (rowP w p j) _).2)=_
  rw [List.drop_left,←Kz w p j,yZ hw0 hw hp t k (j+1) (by omega),Kz,row_drop hp (by omega)]
theorem QJ {w h:Nat} {p:List Bool}:jD w p h=(List.range' 0 h).flatMap (fun j=>dB (iw (rowP w p j))):=by unfold jD;rw [List.range_eq_range']
theorem L9 {w h:Nat} {p:List Bool}:fE w p h=(List.range' 0 h).flatMap (fun j=>dZ (rowP w p j) (yC w p j)):=by unfold fE;rw [List.range_eq_range']
theorem Qr {w h:Nat} (hw0:0<w) (hw:w≤4000) {p:List Bool} (hp:p.length=w*h) {kind:Int} (hk:1≤kind∧kind≤4):mJ kind w h (dw w h p kind)=(p,true):=by
 have hc:kind=4∨kind=1∨kind=2∨kind=3:=by omega
 rcases hc with rfl|rfl|rfl|rfl
 ·have e:dw w h p 4=Ie w h p:=rfl
  unfold mJ
  rw [if_pos rfl,e,←hp,Rq w h p hw0]
 ·have e:dw w h p 1=mF (iV p):=rfl
  unfold mJ
  rw [if_neg (by decide),if_pos rfl,e]
  obtain ⟨z,hz⟩:=G9 (RG p)
  rw [hz,←hp]
  exact JO p _
 ·have e:dw w h p 2=mF (jD w p h):=rfl
  unfold mJ
  rw [if_neg (by decide),if_neg (by decide),if_pos rfl,e]
  obtain ⟨z,hz⟩:=G9 (UF w p h)
  rw [hz,QJ,zi hw0 hw hp _ h 0 (by omega),Nat.zero_mul,List.drop_zero]
 ·have e:dw w h p 3=mF (fE w p h):=rfl
  unfold mJ
  rw [if_neg (by decide),if_neg (by decide),if_neg (by decide),e]
  obtain ⟨z,hz⟩:=G9 (Qh w h p hp h (Nat.le_refl _))
  have hu:List.replicate w false=yC w p 0:=by unfold yC;rw [if_pos rfl]
  rw [hz,L9,hu,yZ hw0 hw hp _ h 0 (by omega),Nat.zero_mul,List.drop_zero]
end Go.Fv.H
/- The reference's reader of adaptive data, in plain words: what it reads is what the other one reads; what is written it reads. -/
namespace Go.Fv.H
open Go
def Nu (W H:Nat):Nat→AD→Nat→List Bool × Bool
 | 0,s,_=>(s.P,decide (s.data=[]))
 | k+1,s,i=>
  if (s.mid (s.c W H i) i).span≤(s.mid (s.c W H i) i).code then ((s.mid (s.c W H i) i).P,false)
  else if (s.mid (s.c W H i) i).span<16777216 then
   (if (s.mid (s.c W H i) i).data=[] then ((s.mid (s.c W H i) i).P,false) else Nu W H k (s.mid (s.c W H i) i).norm (i+1))
  else Nu W H k (s.mid (s.c W H i) i) (i+1)
def Zi (W H:Nat) (d:Bytes) (n:Nat):List Bool × Bool:=if d.length<4 then (List.replicate n false,false) else Nu W H n (AD.init d n) 0
open Go Go.Proofs
def bG (w h:Int):Int:=if w<1∨4000<w∨h<1∨4000<h then 3 else if 1048576<w*h then 4 else 0
set_option maxHeartbeats 1000000 in
theorem iE (w h:Int):aC Tryz.prog 67 [.int .i64 w,.int .i64 h] (.int .i64 (bG w h)) []:=by
 refine aC.aJ Tryz.func67 rfl (by decide) (by simp [Tryz.f67]) [.tmp 4] rfl fun w0 T0 _=>?_
 simp only [Tryz.f67,aB]
 simp only [go_sem]
 (repeat' first|(with_reducible refine yH.intro fun _=>?_)|((with_reducible refine aW.intro ?_ ?_);(· first|omega|(with_reducible refine aW.intro ?_ ?_<;>omega)|(simp;done)|(simp;omega)))|((with_reducible refine bZ.i64 ?_ ?_ ?_);(· omega);(· omega))|((with_reducible refine Ite.decide (fun _=>?_) (fun _=>?_))<;>first|(exfalso;omega)|simp only [go_sem])|((with_reducible refine Ite.bool (fun _=>?_) (fun _=>?_))<;>simp only [go_sem])|(with_reducible refine And.intro ?_ ?_))
 ·rename_i h1
  refine bf.auto 0 ?_ rfl ?_<;>simp only [go_sem,Int.natCast_succ,Post,bG]
  rw [if_pos (by omega)]
 ·rename_i h1
  have hm1:0≤w*h:=Int.mul_nonneg (by omega) (by omega)
  have hm2:w*h≤4000*4000:=Int.mul_le_mul (by omega) (by omega) (by omega) (by omega)
  refine bZ.i64 (by omega) (by omega) ?_
  (repeat' first|(with_reducible refine yH.intro fun _=>?_)|((with_reducible refine aW.intro ?_ ?_);(· first|omega|(with_reducible refine aW.intro ?_ ?_<;>omega)|(simp;done)|(simp;omega)))|((with_reducible refine bZ.i64 ?_ ?_ ?_);(· omega);(· omega))|((with_reducible refine Ite.decide (fun _=>?_) (fun _=>?_))<;>first|(exfalso;omega)|simp only [go_sem])|((with_reducible refine Ite.bool (fun _=>?_) (fun _=>?_))<;>simp only [go_sem])|(with_reducible refine And.intro ?_ ?_))
  ·refine bf.auto 0 ?_ rfl ?_<;>simp only [go_sem,Int.natCast_succ,Post,bG]
   rw [if_neg (by omega),if_pos (by omega)]
  ·refine bf.auto 0 ?_ rfl ?_<;>simp only [go_sem,Int.natCast_succ,Post,bG]
   rw [if_neg (by omega),if_neg (by omega)]
def jq (w h:Int) (n:Nat):Int:=if bG w h=0 then (if (n:Int)=w*h then 0 else 2) else bG w h
theorem iH {w h:Int} (e:bG w h=0):1≤w∧w≤4000∧1≤h∧h≤4000∧w*h≤1048576∧1≤w*h:=by
 unfold bG at e
 split at e
 ·omega
 ·split at e
  ·omega
  ·rename_i h1 h2
   have:1*1≤w*h:=Int.mul_le_mul (by omega) (by omega) (by omega) (by omega)
   omega
theorem qc {w h:Int} (h1:1≤w) (h2:w≤4000) (h3:1≤h) (h4:h≤4000) (hm2:w*h≤1048576):bG w h=0:=by
 unfold bG
 rw [if_neg (by omega),if_neg (by omega)]
set_option maxHeartbeats 1000000 in
theorem jk (w h:Int) (p:List Bool):aC Tryz.prog 74 [.agg [.int .i64 w,.int .i64 h,.ro (.bools p)]] (.int .i64 (jq w h p.length)) []:=by
 refine aC.aJ Tryz.func74 rfl (by decide) (by simp [Tryz.f74]) [.tmp 2] rfl fun w0 T0 _=>?_
 simp only [Tryz.f74,aB]
 simp only [go_sem]
 (repeat' first|(with_reducible refine yH.intro fun _=>?_)|((with_reducible refine aW.intro ?_ ?_);(· first|omega|(with_reducible refine aW.intro ?_ ?_<;>omega)|(simp;done)|(simp;omega)))|((with_reducible refine bZ.i64 ?_ ?_ ?_);(· omega);(· omega))|((with_reducible refine Ite.decide (fun _=>?_) (fun _=>?_))<;>first|(exfalso;omega)|simp only [go_sem])|((with_reducible refine Ite.bool (fun _=>?_) (fun _=>?_))<;>simp only [go_sem])|(with_reducible refine And.intro ?_ ?_))
 refine ah.fr (args':=[.int .i64 w,.int .i64 h]) (dG.gJ (iE w h) rfl rfl) (by simp [aU,bD,aH]) 0 rfl (by simp [iq]) ?_
 simp only [go_sem]
 (repeat' first|(with_reducible refine yH.intro fun _=>?_)|((with_reducible refine aW.intro ?_ ?_);(· first|omega|(with_reducible refine aW.intro ?_ ?_<;>omega)|(simp;done)|(simp;omega)))|((with_reducible refine bZ.i64 ?_ ?_ ?_);(· omega);(· omega))|((with_reducible refine Ite.decide (fun _=>?_) (fun _=>?_))<;>first|(exfalso;omega)|simp only [go_sem])|((with_reducible refine Ite.bool (fun _=>?_) (fun _=>?_))<;>simp only [go_sem])|(with_reducible refine And.intro ?_ ?_))
 ·rename_i h1
  refine bf.auto 0 ?_ rfl ?_<;>simp only [go_sem,Int.natCast_succ,Post,jq,h1,reduceIte]
 ·have h1:bG w h=0:=by omega
  have hs:=iH h1
  refine bZ.i64 (by omega) (by omega) ?_
  (repeat' first|(with_reducible refine yH.intro fun _=>?_)|((with_reducible refine aW.intro ?_ ?_);(· first|omega|(with_reducible refine aW.intro ?_ ?_<;>omega)|(simp;done)|(simp;omega)))|((with_reducible refine bZ.i64 ?_ ?_ ?_);(· omega);(· omega))|((with_reducible refine Ite.decide (fun _=>?_) (fun _=>?_))<;>first|(exfalso;omega)|simp only [go_sem])|((with_reducible refine Ite.bool (fun _=>?_) (fun _=>?_))<;>simp only [go_sem])|(with_reducible refine And.intro ?_ ?_))
  ·rename_i h2
   refine bf.auto 0 ?_ rfl ?_<;>simp only [go_sem,Int.natCast_succ,Post,jq,h1,h2,reduceIte]
  ·rename_i h2
   refine bf.auto 0 ?_ rfl ?_<;>simp only [go_sem,Int.natCast_succ,Post,jq,h1,reduceIte]
   rw [if_pos (by omega)]
def YS (p:List Bool) (w h:Nat) (i j:Int):Bool:=decide (0≤i∧i<w∧0≤j∧j<h) && p.getD (j*w+i).toNat false
theorem XG (p:List Bool) {w h i j:Nat} (hi:i<w) (hj:j<h):YS p w h i j=p.getD (j*w+i) false:=by
 unfold YS
 rw [decide_eq_true (show 0≤(i:Int)∧(i:Int)<w∧0≤(j:Int)∧(j:Int)<h by omega),Bool.true_and,up_mul,up_add,Int.toNat_natCast]
theorem Vm (p:List Bool) {w h:Nat} {i j:Int} (h':¬(0≤i∧i<w∧0≤j∧j<h)):YS p w h i j=false:=by
 unfold YS;rw [decide_eq_false h',Bool.false_and]
end Go.Fv.H
/- shrink.at and shrink.context: the walk. -/
namespace Go.Fv.H
open Go Go.Proofs
theorem YT (w h:Nat) (p:List Bool) (x y:Int):tN w h p x y=YS p w h x y:=rfl
set_option maxHeartbeats 2000000 in
theorem WT (w h:Nat) (hw:w≤4000) (hh:h≤4000) (p:List Bool) (hp:p.length=w*h) (x y:Int):aC Tryz.prog 114 [.agg [.int .i64 w,.int .i64 h,.ro (.bools p)],.int .i64 x,.int .i64 y] (.bool (tN w h p x y)) []:=by
 rw [YT]
 refine aC.aJ Tryz.func114 rfl (by decide) (by simp [Tryz.f114]) [.tmp 6] rfl fun w0 T0 _=>?_
 simp only [Tryz.f114,aB]
 by_cases hin:0≤x∧x<w∧0≤y∧y<h
 ·obtain ⟨x,rfl⟩:∃ k:Nat,x=k:=⟨x.toNat,by omega⟩
  obtain ⟨y,rfl⟩:∃ k:Nat,y=k:=⟨y.toNat,by omega⟩
  rw [XG p (by omega) (by omega)]
  have b1:y*w+w≤h*w:=by rw [←Nat.succ_mul];exact Nat.mul_le_mul_right _ (by omega)
  have b2:h*w≤4000*4000:=Nat.mul_le_mul hh hw
  have b3:w*h=h*w:=Nat.mul_comm _ _
  have hd:decide (((0≤(x:Int)∧(x:Int)<(w:Int))∧0≤(y:Int))∧(y:Int)<(h:Int))=true:=decide_eq_true ⟨⟨⟨hin.1,hin.2.1⟩,hin.2.2.1⟩,hin.2.2.2⟩
  (repeat' with_reducible first|intro _|refine rz ?_|refine ra ?_ ?_|omega|simp only [go_sem,up_mul,up_add,Int.toNat_natCast])
  refine bf.auto 0 ?_ rfl ?_<;>simp only [go_sem,Int.natCast_succ,Post]
  rw [hd,Bool.true_and]
 ·rw [Vm p hin]
  have hd:decide (((0≤x∧x<(w:Int))∧0≤y)∧y<(h:Int))=false:=decide_eq_false fun q=>hin ⟨q.1.1.1,q.1.1.2,q.1.2,q.2⟩
  (repeat' with_reducible first|intro _|exact dn|refine rn ?_|refine ra ?_ ?_)
  refine bf.auto 0 ?_ rfl ?_<;>simp only [go_sem,Int.natCast_succ,Post]
  rw [hd,Bool.false_and]
end Go.Fv.H
