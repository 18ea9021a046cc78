/-
  A part of the proof of the claim: walks over the program's functions and the plain laws that these need. No condition of its own.
-/
import Derived.Test.YtaahmkhlhgkfpaaDoorNTitCardPart1
import Derived.Test.YtaahmkhlhgkfpaaDoorFvPart10
import Derived.Shelf.Small.Strs
import Derived.Shelf.Strings.Trim
import Derived.Test.YtaahmkhlhgkfpaaDoorFvPart6
import Derived.Lib.MapLaws
import Derived.Lib.DecodeN
set_option linter.unusedSimpArgs false
set_option linter.unusedVariables false
set_option linter.unnecessarySimpa false
set_option maxRecDepth 8000
/- sort.isTitle, parted, cleaned: the walk. -/
namespace Go.Fv.N
open Go Go.Proofs
theorem Ci (c:UInt8):aP Tryd.prog 28 [.int .u8 c.toNat] (.bool (Dc c)) []:=by
 have e:Dc c=decide (((97:Int)≤c.toNat∧(c.toNat:Int)≤122)∨((48:Int)≤c.toNat∧(c.toNat:Int)≤57)∨(c.toNat:Int)=45):=by
  unfold Dc jo
  rw [Bool.eq_iff_iff]
  simp only [Bool.or_eq_true,Bool.and_eq_true,decide_eq_true_eq]
  omega
 rw [e]
 refine aP.bH Tryd.func28 rfl (by decide) (by simp [Tryd.f28]) [.tmp 2] rfl fun w0 T0 _=>?_
 simp only [Tryd.f28,aI]
 (repeat' with_reducible first|intro _|exact dn|refine rn ?_|refine ra ?_ ?_)
 refine bW.auto 0 ?_ rfl ?_<;>simp only [go_sem,Int.natCast_succ,Post]
 all_goals (rw [Bool.eq_iff_iff];simp only [decide_eq_true_eq];omega)
set_option maxHeartbeats 4000000 in
theorem EY (t:Bytes) (ht:t.length≤200):aP Tryd.prog 13 [.str t] (.tup [.own 0,.bool (nP t).2]) [(0,.row 9 (.strs (nP t).1))]:=by
 obtain ⟨R,hR⟩:∃ R,nP t=R:=⟨_,rfl⟩
 rw [hR]
 unfold nP at hR
 refine aP.bH Tryd.func13 rfl (by decide) (by simp [Tryd.f13]) [.tmp 2,.tmp 3] rfl fun w0 T0 _=>?_
 simp only [Tryd.f13,aI]
 (repeat' with_reducible first|intro _|exact dn|refine rn ?_|refine ra ?_ ?_)
 refine aT.intro (fun x:Nat × List Bytes=>⟨73,[(12,.int .i64 x.1),(11,.int .i64 t.length),(4,.own 0),(0,.str t)],[(0,.row 9 (.strs x.2))],1⟩) (fun x=>x.1≤t.length∧x.2≠[]∧x.2.length≤x.1+1∧pF x.2 (t.drop x.1)=pF [[]] t∧(lastB x.2).length≤x.1) (fun x=>t.length - x.1) (0,[[]]) ?_ ⟨Nat.zero_le _,by simp,Nat.le_refl _,rfl,Nat.le_refl _⟩ fun x hx=>?_
 ·refine bQ.aC rfl ?_ ?_<;>simp only [go_sem,Int.natCast_succ]
  all_goals first|rfl|exact ⟨rfl,rfl⟩|trace_state
 obtain ⟨i,out⟩:=x
 obtain ⟨hi,hne,hol,hp,hlb⟩:=hx
 dsimp only at hi hne hol hp hlb
 have ho0:0<out.length:=List.length_pos_iff.2 hne
 have e2:(out.length:Int).tmod 2=((out.length%2:Nat):Int):=by rw [Int.tmod_eq_emod_of_nonneg (by omega)];rfl
 have e8:(out.length:Int) - 1=((out.length - 1:Nat):Int):=by omega
 by_cases hlt:i<t.length
 rotate_left
 ·have f7:((i:Int)<(t.length:Int))=False:=eq_false (by omega)
  rw [List.drop_of_length_le (by omega)] at hp
  have hp2:pF [[]] t=some out:=hp.symm
  rw [hp2] at hR
  dsimp only at hR
  rw [←hR]
  have e3:decide ((((out.length%2:Nat):Int))=1)=decide (out.length%2=1):=by rw [decide_eq_decide];omega
  (repeat' with_reducible first|intro _|refine rz ?_|refine ra ?_ ?_|omega|simp only [go_sem,f7,e2,e3])
  refine bW.auto 1 ?_ rfl ?_<;>simp only [go_sem,Int.natCast_succ,Post]
 have f7:((i:Int)<(t.length:Int))=True:=eq_true (by omega)
 rw [List.drop_eq_getElem_cons hlt,←getD_lt (d:=0) hlt] at hp
 have hp2:(match pS out (t.getD i 0) with|none=>none|some out=>pF out (t.drop (i+1)))=pF [[]] t:=hp
 clear hp
 have hc:=(t.getD i 0).toNat_lt
 generalize hcd:t.getD i 0=c at *
 have hlast:out.getD (out.length - 1) []=lastB out:=rfl
 have kn:=qm (lastB out)
 cases hS:pS out c with
 | some out2=>
  rw [hS] at hp2
  dsimp only at hp2
  have hl2:=G5 hS hne
  unfold pS at hS
  by_cases h1:c.toNat=123∧inB out=false
  ·rw [if_pos h1] at hS
   cases hS
   have h12:¬out.length%2=0:=by have:=h1.2;unfold inB at this;simpa using this
   have g1:((c.toNat:Int)=123)=True:=eq_true (by omega)
   have g2:(((out.length%2:Nat):Int)=0)=False:=eq_false (by omega)
   (repeat' with_reducible first|intro _|refine rz ?_|refine ra ?_ ?_|omega|simp only [go_sem,f7,Int.toNat_natCast,hcd,e2,e8,g1,g2])
   refine ⟨(i+1,out++[[]]),bQ.aC rfl ?_ ?_,⟨by dsimp only;omega,hl2.2,by dsimp only;omega,hp2,by dsimp only;rw [ug];exact Nat.zero_le _⟩,by dsimp only;omega⟩<;>simp only [go_sem,Int.natCast_succ]
  rw [if_neg h1] at hS
  by_cases h2:c.toNat=125∧inB out=true∧aX (lastB out)=true
  ·rw [if_pos h2] at hS
   cases hS
   have h22:out.length%2=0:=by have:=h2.2.1;unfold inB at this;simpa using this
   have g1:((c.toNat:Int)=123)=False:=eq_false (by omega)
   have g2:(((out.length%2:Nat):Int)=0)=True:=eq_true (by omega)
   have g3:((c.toNat:Int)=125)=True:=eq_true (by omega)
   rw [h2.2.2] at kn
   (repeat' with_reducible first|intro _|refine rz ?_|refine ra ?_ ?_|omega|simp only [go_sem,f7,Int.toNat_natCast,hcd,e2,e8,g1,g2,g3,dU,hlast])
   refine ak.k kn ?_
   (repeat' with_reducible first|intro _|exact dn|refine rn ?_|refine ra ?_ ?_)
   refine ⟨(i+1,out++[[]]),bQ.aC rfl ?_ ?_,⟨by dsimp only;omega,hl2.2,by dsimp only;omega,hp2,by dsimp only;rw [ug];exact Nat.zero_le _⟩,by dsimp only;omega⟩<;>simp only [go_sem,Int.natCast_succ]
  rw [if_neg h2] at hS
  by_cases h3:c.toNat=123∨c.toNat=125
  ·rw [if_pos h3] at hS;cases hS
  rw [if_neg h3] at hS
  cases hS
  have g1:((c.toNat:Int)=123)=False:=eq_false (by omega)
  have g3:((c.toNat:Int)=125)=False:=eq_false (by omega)
  have hcc:UInt8.ofNat c.toNat=c:=by simp
  (repeat' with_reducible first|intro _|refine rz ?_|refine ra ?_ ?_|omega|simp only [go_sem,f7,Int.toNat_natCast,hcd,e2,e8,g1,g3])
  refine dW.lex [5,9] [(0,[1]),(1,[1]),(2,[1]),(3,[1])] (by kernel_rfl) (by kernel_rfl) ?_
  (repeat' with_reducible first|intro _|refine rz ?_|refine ra ?_ ?_|omega|simp only [go_sem,dU,hlast,e8,Int.toNat_natCast,hcc])
  refine ⟨(i+1,out.set (out.length - 1) (lastB out++[c])),bQ.aC rfl ?_ ?_,⟨by dsimp only;omega,hl2.2,by dsimp only;omega,hp2,?_⟩,by dsimp only;omega⟩
  ·simp only [go_sem,Int.natCast_succ]
  ·simp only [go_sem,Int.natCast_succ]
  ·dsimp only
   have:lastB (out.set (out.length - 1) (lastB out++[c]))=lastB out++[c]:=by
    show (out.set (out.length - 1) (lastB out++[c])).getD ((out.set (out.length - 1) (lastB out++[c])).length - 1) []=_
    rw [List.length_set,List.getD_eq_getElem?_getD,List.getElem?_set_self (by omega)];rfl
   rw [this,List.length_append];simp;omega
 | none=>
  rw [hS] at hp2
  dsimp only at hp2
  rw [←hp2] at hR
  dsimp only at hR
  rw [←hR]
  unfold pS at hS
  by_cases h1:c.toNat=123∧inB out=false
  ·rw [if_pos h1] at hS;cases hS
  rw [if_neg h1] at hS
  by_cases h2:c.toNat=125∧inB out=true∧aX (lastB out)=true
  ·rw [if_pos h2] at hS;cases hS
  rw [if_neg h2] at hS
  by_cases h3:c.toNat=123∨c.toNat=125
  rotate_left
  ·rw [if_neg h3] at hS;cases hS
  by_cases h4:c.toNat=123
  ·have h12:out.length%2=0:=by
    refine Classical.byContradiction fun h=>h1 ⟨h4,?_⟩
    unfold inB;simp;omega
   have g1:((c.toNat:Int)=123)=True:=eq_true (by omega)
   have g2:(((out.length%2:Nat):Int)=0)=True:=eq_true (by omega)
   have g3:((c.toNat:Int)=125)=False:=eq_false (by omega)
   (repeat' with_reducible first|intro _|refine rz ?_|refine ra ?_ ?_|omega|simp only [go_sem,f7,Int.toNat_natCast,hcd,e2,e8,g1,g2,g3])
   refine bW.auto 1 ?_ rfl ?_<;>simp only [go_sem,Int.natCast_succ,Post]
  ·have g1:((c.toNat:Int)=123)=False:=eq_false (by omega)
   have g3:((c.toNat:Int)=125)=True:=eq_true (by omega)
   by_cases h12:out.length%2=0
   ·have g2:(((out.length%2:Nat):Int)=0)=True:=eq_true (by omega)
    have hn:aX (lastB out)=false:=by
     rw [←Bool.not_eq_true]
     exact fun h=>h2 ⟨by omega,by unfold inB;simpa using h12,h⟩
    rw [hn] at kn
    (repeat' with_reducible first|intro _|refine rz ?_|refine ra ?_ ?_|omega|simp only [go_sem,f7,Int.toNat_natCast,hcd,e2,e8,g1,g2,g3,dU,hlast])
    refine ak.k kn ?_
    (repeat' with_reducible first|intro _|refine rz ?_|refine ra ?_ ?_|omega|simp only [go_sem,g1,g3])
    refine bW.auto 1 ?_ rfl ?_<;>simp only [go_sem,Int.natCast_succ,Post]
   ·have g2:(((out.length%2:Nat):Int)=0)=False:=eq_false (by omega)
    (repeat' with_reducible first|intro _|refine rz ?_|refine ra ?_ ?_|omega|simp only [go_sem,f7,Int.toNat_natCast,hcd,e2,e8,g1,g2,g3])
    refine bW.auto 1 ?_ rfl ?_<;>simp only [go_sem,Int.natCast_succ,Post]
set_option maxHeartbeats 4000000 in
theorem BO (s:Bytes) (hs:s.length≤1000000) (kt:∀ x:Bytes,x.length≤1000000→aP Tryd.prog 23 [.str x,.str [45]] (.str (lM x)) []):aP Tryd.prog 14 [.str s] (.str (iO s)) []:=by
 have k1:=Hu s
 have hsl:(bK s).length=s.length:=by unfold bK;rw [List.length_map]
 obtain ⟨R,hR⟩:∃ R,iO s=R:=⟨_,rfl⟩
 rw [hR]
 unfold iO at hR
 rw [←hsl] at hR hs
 generalize bK s=u at *
 have hbl:=iD u
 refine aP.bH Tryd.func14 rfl (by decide) (by simp [Tryd.f14]) [.tmp 2] rfl fun w0 T0 _=>?_
 simp only [Tryd.f14,aI]
 (repeat' with_reducible first|intro _|exact dn|refine rn ?_|refine ra ?_ ?_)
 refine ak.k k1 ?_
 (repeat' with_reducible first|intro _|refine rz ?_|refine ra ?_ ?_|omega|simp only [go_sem,hbl])
 refine aT.intro (fun i:Nat=>⟨47,[(11,.int .i64 i),(10,.int .i64 u.length),(9,.own 0),(3,.own 1)],[(0,.row 5 (.ints .u8 (aK u))),(1,.row 5 (.ints .u8 (aK (gK u i))))],2⟩) (fun i=>i≤u.length) (fun i=>u.length - i) 0 ?_ (Nat.zero_le _) fun i hi=>?_
 ·refine bQ.aC rfl ?_ ?_<;>simp only [go_sem,Int.natCast_succ]
  all_goals first|rfl|exact ⟨rfl,rfl⟩|trace_state
 have hcl:=oz u i
 have hbc:=iD (gK u i)
 by_cases hlt:i<u.length
 ·have f7:((i:Int)<(u.length:Int))=True:=eq_true (by omega)
  have hst:gK u (i+1)=Ia (gK u i) (u.getD i 0):=rfl
  have hg:(aK u).getD i 0=((u.getD i 0).toNat:Int):=by
   unfold aK
   rw [List.getD_eq_getElem?_getD,List.getElem?_map,List.getD_eq_getElem?_getD,List.getElem?_eq_getElem hlt];rfl
  have ki:=Ci (u.getD i 0)
  have hc:=(u.getD i 0).toNat_lt
  generalize u.getD i 0=c at *
  generalize gK u i=B at *
  have hgl:0<B.length→(aK B).getD (B.length - 1) 0=((sU B).toNat:Int):=fun h=>by
   unfold aK sU
   rw [List.getD_eq_getElem?_getD,List.getElem?_map,List.getD_eq_getElem?_getD,List.getElem?_eq_getElem (by omega)];rfl
  have happ:∀ d:UInt8,aK (B++[d])=aK B++[(d.toNat:Int)]:=fun d=>by unfold aK;rw [List.map_append];rfl
  unfold Ia at hst
  by_cases ha:jo c=true
  ·rw [if_pos ha] at hst
   have ht:Dc c=true:=by unfold Dc;rw [ha];rfl
   have h45:¬c.toNat=45:=by
    unfold jo at ha
    simp only [Bool.or_eq_true,Bool.and_eq_true,decide_eq_true_eq] at ha
    omega
   have g1:((c.toNat:Int)=45)=False:=eq_false (by omega)
   rw [ht] at ki
   (repeat' with_reducible first|intro _|refine rz ?_|refine ra ?_ ?_|omega|simp only [go_sem,f7,Int.toNat_natCast,hg,hbl])
   refine ak.k ki ?_
   (repeat' with_reducible first|intro _|refine rz ?_|refine ra ?_ ?_|omega|simp only [go_sem,g1,hbc])
   refine ⟨i+1,bQ.aC rfl ?_ ?_,by omega,by omega⟩<;>simp only [go_sem,Int.natCast_succ,hst,happ]
  rw [if_neg ha] at hst
  have hti:Dc c=decide (c.toNat=45):=by unfold Dc;rw [Bool.not_eq_true _ |>.mp ha];rfl
  rw [hti] at ki
  have tail:True:=trivial
  by_cases hB:B=[]
  ·have hb0:((0:Int)<(B.length:Int))=False:=eq_false (by rw [hB];simp)
   rw [if_neg (fun h=>h.1 hB)] at hst
   by_cases h45:c.toNat=45
   ·have g1:((c.toNat:Int)=45)=True:=eq_true (by omega)
    rw [decide_eq_true h45] at ki
    (repeat' with_reducible first|intro _|refine rz ?_|refine ra ?_ ?_|omega|simp only [go_sem,f7,Int.toNat_natCast,hg,hbl])
    refine ak.k ki ?_
    (repeat' with_reducible first|intro _|refine rz ?_|refine ra ?_ ?_|omega|simp only [go_sem,g1,hbc,hb0])
    refine ⟨i+1,bQ.aC rfl ?_ ?_,by omega,by omega⟩<;>simp only [go_sem,Int.natCast_succ,hst]
   ·rw [decide_eq_false h45] at ki
    (repeat' with_reducible first|intro _|refine rz ?_|refine ra ?_ ?_|omega|simp only [go_sem,f7,Int.toNat_natCast,hg,hbl])
    refine ak.k ki ?_
    (repeat' with_reducible first|intro _|refine rz ?_|refine ra ?_ ?_|omega|simp only [go_sem,hbc,hb0])
    refine ⟨i+1,bQ.aC rfl ?_ ?_,by omega,by omega⟩<;>simp only [go_sem,Int.natCast_succ,hst]
  have hBp:0<B.length:=List.length_pos_iff.2 hB
  have hgl:=hgl hBp
  have hb0:((0:Int)<(B.length:Int))=True:=eq_true (by omega)
  have e8:(B.length:Int) - 1=((B.length - 1:Nat):Int):=by omega
  by_cases hE:sU B=45
  ·rw [if_neg (fun h=>h.2 hE)] at hst
   have g2:(((sU B).toNat:Int)=45)=True:=eq_true (by rw [hE];rfl)
   by_cases h45:c.toNat=45
   ·have g1:((c.toNat:Int)=45)=True:=eq_true (by omega)
    rw [decide_eq_true h45] at ki
    (repeat' with_reducible first|intro _|refine rz ?_|refine ra ?_ ?_|omega|simp only [go_sem,f7,Int.toNat_natCast,hg,hbl])
    refine ak.k ki ?_
    (repeat' with_reducible first|intro _|refine rz ?_|refine ra ?_ ?_|omega|simp only [go_sem,g1,hbc,hb0,e8,hgl,g2,Int.toNat_natCast])
    refine ⟨i+1,bQ.aC rfl ?_ ?_,by omega,by omega⟩<;>simp only [go_sem,Int.natCast_succ,hst]
   ·rw [decide_eq_false h45] at ki
    (repeat' with_reducible first|intro _|refine rz ?_|refine ra ?_ ?_|omega|simp only [go_sem,f7,Int.toNat_natCast,hg,hbl])
    refine ak.k ki ?_
    (repeat' with_reducible first|intro _|refine rz ?_|refine ra ?_ ?_|omega|simp only [go_sem,hbc,hb0,e8,hgl,g2,Int.toNat_natCast])
    refine ⟨i+1,bQ.aC rfl ?_ ?_,by omega,by omega⟩<;>simp only [go_sem,Int.natCast_succ,hst]
  ·rw [if_pos ⟨hB,hE⟩] at hst
   have g2:(((sU B).toNat:Int)=45)=False:=eq_false (fun h=>hE (UInt8.toNat_inj.1 (show (sU B).toNat=(45:UInt8).toNat by have:(45:UInt8).toNat=45:=rfl;omega)))
   have happ45:aK (B++[45])=aK B++[45]:=happ 45
   by_cases h45:c.toNat=45
   ·have g1:((c.toNat:Int)=45)=True:=eq_true (by omega)
    have g3:(c.toNat:Int)=45:=by omega
    rw [decide_eq_true h45] at ki
    (repeat' with_reducible first|intro _|refine rz ?_|refine ra ?_ ?_|omega|simp only [go_sem,f7,Int.toNat_natCast,hg,hbl])
    refine ak.k ki ?_
    (repeat' with_reducible first|intro _|refine rz ?_|refine ra ?_ ?_|omega|simp only [go_sem,g1,hbc,hb0,e8,hgl,g2,Int.toNat_natCast])
    refine ⟨i+1,bQ.aC rfl ?_ ?_,by omega,by omega⟩<;>simp only [go_sem,Int.natCast_succ,hst,happ45,g3]
   ·rw [decide_eq_false h45] at ki
    (repeat' with_reducible first|intro _|refine rz ?_|refine ra ?_ ?_|omega|simp only [go_sem,f7,Int.toNat_natCast,hg,hbl])
    refine ak.k ki ?_
    (repeat' with_reducible first|intro _|refine rz ?_|refine ra ?_ ?_|omega|simp only [go_sem,hbc,hb0,e8,hgl,g2,Int.toNat_natCast])
    refine ⟨i+1,bQ.aC rfl ?_ ?_,by omega,by omega⟩<;>simp only [go_sem,Int.natCast_succ,hst,happ45]
 have e:i=u.length:=by omega
 subst e
 have f7:((u.length:Int)<(u.length:Int))=False:=eq_false (by omega)
 have hbb:=jy (gK u u.length)
 have hbb2:(aK (gK u u.length)).map (fun n=>UInt8.ofNat n.toNat)=gK u u.length:=hbb
 generalize gK u u.length=B at *
 have hmin:min (B.length:Int) 80=((min B.length 80:Nat):Int):=by omega
 have htk:List.take (min B.length 80 - 0) B=B.take 80:=by
  rw [Nat.sub_zero]
  rcases Nat.le_total B.length 80 with h|h
  ·rw [Nat.min_eq_left h,List.take_of_length_le (Nat.le_refl _),List.take_of_length_le h]
  ·rw [Nat.min_eq_right h]
 have kr:=kt (B.take 80) (by rw [List.length_take];omega)
 rw [hR] at kr
 (repeat' with_reducible first|intro _|refine rz ?_|refine ra ?_ ?_|omega|simp only [go_sem,f7,hbb2,GN,hmin,htk,Int.toNat_natCast])
 refine ak.k kr ?_
 (repeat' with_reducible first|intro _|exact dn|refine rn ?_|refine ra ?_ ?_)
 refine bW.auto 0 ?_ rfl ?_<;>simp only [go_sem,Int.natCast_succ,Post]
end Go.Fv.N
/- sort.Title: the walk. -/
namespace Go.Fv.N
open Go Go.Proofs
theorem KX (F:List Fc) {j:Nat} (hj:j<F.length) (h:(F.getD j Fc.zero).n∉(F.map Fc.n).take j) :
  rC (((F.map Fc.n).take j).map .str) (((F.map Fc.t).take j).map .str) (.str (F.getD j Fc.zero).n) (.str (F.getD j Fc.zero).t)=((F.map Fc.t).take (j+1)).map .str:=by
 unfold rC
 rw [ji,iH.2 h]
 dsimp only
 have hjl:j<(F.map Fc.t).length:=by rw [List.length_map];exact hj
 rw [List.take_succ_eq_append_getElem hjl,List.map_append,List.getElem_map,getD_lt hj];rfl
theorem Ko (l:List Bytes):(l.map AV.str).all isS=true:=by rw [List.all_map];exact List.all_eq_true.2 fun _ _=>rfl
set_option maxHeartbeats 8000000 in
theorem Hz (t:Bytes) (F:List Fc) (kt:∀ x:Bytes,x.length≤1000000→aP Tryd.prog 23 [.str x,.str [45]] (.str (lM x)) []):aP Tryd.prog 5 [.str t,.ro (JB F)] (.tup [.str (jZ t F).1,.int .i64 (jZ t F).2]) []:=by
 obtain ⟨R,hR⟩:∃ R,jZ t F=R:=⟨_,rfl⟩
 rw [hR]
 unfold jZ at hR
 refine aP.bH Tryd.func5 rfl (by decide) (by simp [Tryd.f5]) [.tmp 4,.tmp 5] rfl fun w0 T0 _=>?_
 simp only [Tryd.f5,aI]
 by_cases h1:50<F.length
 ·have f1:((50:Int)<(F.length:Int))=True:=eq_true (by omega)
  rw [if_pos (.inl h1)] at hR
  rw [←hR]
  (repeat' with_reducible first|intro _|refine rz ?_|refine ra ?_ ?_|omega|simp only [go_sem,List.length_map,f1])
  refine bW.auto 0 ?_ rfl ?_<;>simp only [go_sem,Int.natCast_succ,Post]
 have f1:((50:Int)<(F.length:Int))=False:=eq_false (by omega)
 by_cases h2:200<t.length
 ·have f2:((200:Int)<(t.length:Int))=True:=eq_true (by omega)
  rw [if_pos (.inr h2)] at hR
  rw [←hR]
  (repeat' with_reducible first|intro _|refine rz ?_|refine ra ?_ ?_|omega|simp only [go_sem,List.length_map,f1,f2])
  refine bW.auto 0 ?_ rfl ?_<;>simp only [go_sem,Int.natCast_succ,Post]
 have f2:((200:Int)<(t.length:Int))=False:=eq_false (by omega)
 rw [if_neg (by omega)] at hR
 (repeat' with_reducible first|intro _|refine rz ?_|refine ra ?_ ?_|omega|simp only [go_sem,List.length_map,f1,f2])
 refine aT.intro (fun j:Nat=>⟨91,[(28,.int .i64 j),(27,.int .i64 F.length),(26,.ro (JB F)),(6,.own 0),(0,.str t)],[(0,.map (((F.map Fc.n).take j).map .str) (((F.map Fc.t).take j).map .str))],1⟩) (fun j=>j≤F.length∧oD F j=0) (fun j=>F.length - j) 0 ?_ ⟨Nat.zero_le _,rfl⟩ fun j hj=>?_
 ·refine bQ.aC rfl ?_ ?_<;>simp only [go_sem,Int.natCast_succ]
  all_goals first|rfl|exact ⟨rfl,rfl⟩|trace_state
 obtain ⟨hj1,hj2⟩:=hj
 by_cases hlt:j<F.length
 ·have f7:((j:Int)<(F.length:Int))=True:=eq_true (by omega)
  have hst:oD F (j+1)=if oD F j≠0 then oD F j else if aX (F.getD j Fc.zero).n=true then (if (F.getD j Fc.zero).n∈(F.map Fc.n).take j then 6 else if 1000<(F.getD j Fc.zero).t.length then 4 else 0) else 5:=rfl
  have hle:=@BX F (j+1) F.length
  have hee:=rO F hlt
  have hup:=KX F hlt
  have htk:(F.map Fc.n).take (j+1)=(F.map Fc.n).take j++[(F.getD j Fc.zero).n]:=by
   have hjl:j<(F.map Fc.n).length:=by rw [List.length_map];exact hlt
   rw [List.take_succ_eq_append_getElem hjl,List.getElem_map,getD_lt hlt]
  rw [hj2,if_neg (by simp)] at hst
  generalize F.getD j Fc.zero=x at *
  obtain ⟨xn,xt⟩:=x
  dsimp only at hst hee htk hup
  have kn:=qm xn
  have g:=kW ((F.map Fc.n).take j) xn
  have hS:=Ko ((F.map Fc.t).take j)
  (repeat' with_reducible first|intro _|refine rz ?_|refine ra ?_ ?_|omega|simp only [go_sem,f7,hee,dU,List.length_map,hS])
  refine ak.k kn ?_
  cases hn:aX xn with
  | false=>
   rw [hn,if_neg (by decide)] at hst
   have h0:=hle (by rw [hst];decide) (by omega)
   rw [h0,hst,if_pos (by decide)] at hR
   rw [←hR]
   (repeat' with_reducible first|intro _|exact dn|refine rn ?_|refine ra ?_ ?_)
   refine bW.auto 0 ?_ rfl ?_<;>simp only [go_sem,Int.natCast_succ,Post]
  | true=>
   rw [hn,if_pos rfl] at hst
   by_cases hd:xn∈(F.map Fc.n).take j
   ·rw [if_pos hd] at hst
    have h0:=hle (by rw [hst];decide) (by omega)
    rw [h0,hst,if_pos (by decide)] at hR
    rw [←hR]
    have g2:=eq_true hd
    (repeat' with_reducible first|intro _|refine rz ?_|refine ra ?_ ?_|omega|simp only [go_sem,g2])
    refine bW.auto 0 ?_ rfl ?_<;>simp only [go_sem,Int.natCast_succ,Post]
   ·rw [if_neg hd] at hst
    have g2:=eq_false hd
    have hins:jD ((F.map Fc.n).take j) xn=(F.map Fc.n).take (j+1):=by unfold jD;rw [if_neg hd,htk]
    have hup2:=hup hd
    by_cases hl:1000<xt.length
    ·have f8:((1000:Int)<(xt.length:Int))=True:=eq_true (by omega)
     rw [if_pos hl] at hst
     have h0:=hle (by rw [hst];decide) (by omega)
     rw [h0,hst,if_pos (by decide)] at hR
     rw [←hR]
     (repeat' with_reducible first|intro _|refine rz ?_|refine ra ?_ ?_|omega|simp only [go_sem,g2,f8])
     refine bW.auto 0 ?_ rfl ?_<;>simp only [go_sem,Int.natCast_succ,Post]
    ·have f8:((1000:Int)<(xt.length:Int))=False:=eq_false (by omega)
     rw [if_neg hl] at hst
     (repeat' with_reducible first|intro _|refine rz ?_|refine ra ?_ ?_|omega|simp only [go_sem,g2,f8])
     refine ⟨j+1,bQ.aC rfl ?_ ?_,⟨by omega,hst⟩,by omega⟩<;>simp only [go_sem,Int.natCast_succ,hins,hup2]
     all_goals trace_state
 have e:j=F.length:=by omega
 subst e
 have f7:((F.length:Int)<(F.length:Int))=False:=eq_false (by omega)
 rw [if_neg (by rw [hj2];simp)] at hR
 have hnl:(F.map Fc.n).take F.length=F.map Fc.n:=List.take_of_length_le (by rw [List.length_map];exact Nat.le_refl _)
 have htl:(F.map Fc.t).take F.length=F.map Fc.t:=List.take_of_length_le (by rw [List.length_map];exact Nat.le_refl _)
 rw [hnl,htl]
 have hF:∀ x,x∈F→x.t.length≤1000:=fun x hx=>sZ F.length (Nat.le_refl _) hj2 x (by rw [List.take_length];exact hx)
 have kp:=EY t (by omega)
 obtain ⟨hb1,hb2⟩:=IZ t
 generalize nP t=Q at *
 obtain ⟨P,ok⟩:=Q
 dsimp only at kp hb1 hb2 hR
 cases ok with
 | false=>
  rw [if_pos rfl] at hR
  rw [←hR]
  (repeat' with_reducible first|intro _|refine rz ?_|refine ra ?_ ?_|omega|simp only [go_sem,f7])
  refine ak.o kp 1 ?_
  (repeat' with_reducible first|intro _|exact dn|refine rn ?_|refine ra ?_ ?_)
  refine bW.auto 0 ?_ rfl ?_<;>simp only [go_sem,Int.natCast_succ,Post]
 | true=>
 rw [if_neg (by decide)] at hR
 have hlen:=Em hF (fun p hp=>by have:=hb1 p hp;omega) (P:=P)
 (repeat' with_reducible first|intro _|refine rz ?_|refine ra ?_ ?_|omega|simp only [go_sem,f7])
 refine ak.o kp 1 ?_
 (repeat' with_reducible first|intro _|exact dn|refine rn ?_|refine ra ?_ ?_)
 refine aT.intro (fun x:Nat × Bytes=>⟨91,[(66,.int .i64 x.1),(65,.int .i64 P.length),(64,.own 1),(13,.str x.2),(6,.own 0)],[(0,.map ((F.map Fc.n).map .str) ((F.map Fc.t).map .str)),(1,.row 9 (.strs P))],2⟩) (fun x=>x.1≤P.length∧ttl F P x.1=some x.2) (fun x=>P.length - x.1) (0,[]) ?_ ⟨Nat.zero_le _,rfl⟩ fun x hx=>?_
 ·refine bQ.aC rfl ?_ ?_<;>simp only [go_sem,Int.natCast_succ]
  all_goals first|rfl|exact ⟨rfl,rfl⟩|trace_state
 obtain ⟨i,s⟩:=x
 obtain ⟨hi,hs⟩:=hx
 dsimp only at hi hs
 have hsl:=hlen i s hi hs
 by_cases hlt:i<P.length
 rotate_left
 ·have e:i=P.length:=by omega
  subst e
  have f8:((P.length:Int)<(P.length:Int))=False:=eq_false (by omega)
  rw [hs] at hR
  dsimp only at hR
  have kc:=BO s (by omega) kt
  generalize iO s=C at *
  by_cases hC:C=[]
  ·have g1:(C=[])=True:=eq_true hC
   rw [if_pos hC] at hR
   rw [←hR]
   (repeat' with_reducible first|intro _|refine rz ?_|refine ra ?_ ?_|omega|simp only [go_sem,f8])
   refine ak.k kc ?_
   (repeat' with_reducible first|intro _|refine rz ?_|refine ra ?_ ?_|omega|simp only [go_sem,g1])
   refine bW.auto 0 ?_ rfl ?_<;>simp only [go_sem,Int.natCast_succ,Post]
  ·have g1:(C=[])=False:=eq_false hC
   rw [if_neg hC] at hR
   rw [←hR]
   (repeat' with_reducible first|intro _|refine rz ?_|refine ra ?_ ?_|omega|simp only [go_sem,f8])
   refine ak.k kc ?_
   (repeat' with_reducible first|intro _|refine rz ?_|refine ra ?_ ?_|omega|simp only [go_sem,g1])
   refine bW.auto 0 ?_ rfl ?_<;>simp only [go_sem,Int.natCast_succ,Post]
 have f8:((i:Int)<(P.length:Int))=True:=eq_true (by omega)
 have hst:ttl F P (i+1)=(match ttl F P i with|none=>none|some s=>if i%2=1 then (match dV F (P.getD i []) with|none=>none|some t=>some (s++t)) else some (s++P.getD i [])):=rfl
 rw [hs] at hst
 dsimp only at hst
 have e2:(i:Int).tmod 2=((i%2:Nat):Int):=by rw [Int.tmod_eq_emod_of_nonneg (by omega)];rfl
 have hpl:(P.getD i []).length≤200:=by
  have:=hb1 (P.getD i []) (by rw [getD_lt hlt];exact List.getElem_mem hlt)
  omega
 have hle:=@JO F P (i+1) P.length
 by_cases h3:i%2=1
 ·rw [if_pos h3] at hst
  have g1:(((i%2:Nat):Int)=1)=True:=eq_true (by omega)
  obtain ⟨g2,g3⟩:=EF F (P.getD i [])
  have hft:=fun t h=>wQ hF (p:=P.getD i []) (t:=t) h
  have hS:=Ko (F.map Fc.t)
  have gm:=kW (F.map Fc.n) (P.getD i [])
  rw [ji,gm] at g3
  generalize hp:P.getD i []=p at *
  cases hf:dV F p with
  | none=>
   rw [hf] at hst g2 g3
   have h0:=hle hst (by omega)
   rw [h0] at hR
   have g4:(p∈F.map Fc.n)=False:=eq_false (by simpa using g3)
   dsimp only at hR g2 g3
   rw [←hR]
   (repeat' with_reducible first|intro _|refine rz ?_|refine ra ?_ ?_|omega|simp only [go_sem,f8,dU,e2,g1,hS,hp,g2,g4])
   refine bW.auto 0 ?_ rfl ?_<;>simp only [go_sem,Int.natCast_succ,Post]
  | some z=>
   rw [hf] at hst g2 g3
   have g4:(p∈F.map Fc.n)=True:=eq_true (by simpa using g3)
   dsimp only at hst g2 g3
   have g5:yt ((F.map Fc.n).map .str) ((F.map Fc.t).map .str) (.str p)=z:=g2
   have hz:=hft z hf
   have hl2:=hlen (i+1) (s++z) (by omega) hst
   (repeat' with_reducible first|intro _|refine rz ?_|refine ra ?_ ?_|omega|simp only [go_sem,f8,dU,e2,g1,hS,hp,g5,g4])
   refine ⟨(i+1,s++z),bQ.aC rfl ?_ ?_,⟨by dsimp only;omega,hst⟩,by dsimp only;omega⟩<;>simp only [go_sem,Int.natCast_succ]
 ·rw [if_neg h3] at hst
  have g1:(((i%2:Nat):Int)=1)=False:=eq_false (by omega)
  generalize hp:P.getD i []=p at *
  have hl2:=hlen (i+1) (s++p) (by omega) hst
  (repeat' with_reducible first|intro _|refine rz ?_|refine ra ?_ ?_|omega|simp only [go_sem,f8,dU,e2,g1,hp])
  refine ⟨(i+1,s++p),bQ.aC rfl ?_ ?_,⟨by dsimp only;omega,hst⟩,by dsimp only;omega⟩<;>simp only [go_sem,Int.natCast_succ]
end Go.Fv.N
/- strings.IndexByte, TrimRight of one byte by the shelf; HasSuffix. -/
namespace Go.Proofs
open Go.Shelf
def Tryd.zX:Go.Shelf.Ren:=⟨fun|137=>17|217=>35|266=>47|n=>n,fun|9=>9|5=>5|3=>3|n=>n,fun|n=>n⟩
theorem Tryd.lays137:Go.Proofs.Lays.n137 Tryd.prog Tryd.zX:={
 mixed:=by kernel_rfl
 f137:=Tryd.func17.trans (congrArg some (by kernel_rfl))
 f217:=Tryd.func35.trans (congrArg some (by kernel_rfl))
 f266:=Tryd.func47.trans (congrArg some (by kernel_rfl))
 t3:=Tryd.underlying3
 a3:=Tryd.isAgg3
 z3:=Tryd.sizeOf3
 v3:=Tryd.zeroValue3
 t5:=Tryd.underlying5
 a5:=Tryd.isAgg5
 z5:=Tryd.sizeOf5
 v5:=Tryd.zeroValue5
 t9:=Tryd.underlying9
 a9:=Tryd.isAgg9
 z9:=Tryd.sizeOf9
 v9:=Tryd.zeroValue9 }
def Tryd.zY:Go.Shelf.Ren:=⟨fun|162=>23|232=>37|227=>33|234=>38|236=>39|228=>34|271=>48|151=>49|120=>52|197=>50|152=>31|260=>53|137=>17|119=>44|224=>45|225=>46|217=>35|266=>47|n=>n,fun|9=>9|4=>4|3=>3|5=>5|117=>60|116=>59|0=>0|124=>64|21=>21|105=>69|46=>68|119=>79|139=>82|138=>81|n=>n,fun|3=>1|4=>2|n=>n⟩
theorem Tryd.lays162:Go.Proofs.Lays.n162 Tryd.prog Tryd.zY:={
 mixed:=by kernel_rfl
 f119:=Tryd.func44.trans (congrArg some (by kernel_rfl))
 f120:=Tryd.func52.trans (congrArg some (by kernel_rfl))
 f137:=Tryd.func17.trans (congrArg some (by kernel_rfl))
 f151:=Tryd.func49.trans (congrArg some (by kernel_rfl))
 f152:=Tryd.func31.trans (congrArg some (by kernel_rfl))
 f162:=Tryd.func23.trans (congrArg some (by kernel_rfl))
 f197:=Tryd.func50.trans (congrArg some (by kernel_rfl))
 f217:=Tryd.func35.trans (congrArg some (by kernel_rfl))
 f224:=Tryd.func45.trans (congrArg some (by kernel_rfl))
 f225:=Tryd.func46.trans (congrArg some (by kernel_rfl))
 f227:=Tryd.func33.trans (congrArg some (by kernel_rfl))
 f228:=Tryd.func34.trans (congrArg some (by kernel_rfl))
 f232:=Tryd.func37.trans (congrArg some (by kernel_rfl))
 f234:=Tryd.func38.trans (congrArg some (by kernel_rfl))
 f236:=Tryd.func39.trans (congrArg some (by kernel_rfl))
 f260:=Tryd.func53.trans (congrArg some (by kernel_rfl))
 f266:=Tryd.func47.trans (congrArg some (by kernel_rfl))
 f271:=Tryd.func48.trans (congrArg some (by kernel_rfl))
 t0:=Tryd.underlying0
 a0:=Tryd.isAgg0
 z0:=Tryd.sizeOf0
 v0:=Tryd.zeroValue0
 t3:=Tryd.underlying3
 a3:=Tryd.isAgg3
 z3:=Tryd.sizeOf3
 v3:=Tryd.zeroValue3
 t4:=Tryd.underlying4
 a4:=Tryd.isAgg4
 z4:=Tryd.sizeOf4
 v4:=Tryd.zeroValue4
 t5:=Tryd.underlying5
 a5:=Tryd.isAgg5
 z5:=Tryd.sizeOf5
 v5:=Tryd.zeroValue5
 t9:=Tryd.underlying9
 a9:=Tryd.isAgg9
 z9:=Tryd.sizeOf9
 v9:=Tryd.zeroValue9
 t21:=Tryd.underlying21
 a21:=Tryd.isAgg21
 z21:=Tryd.sizeOf21
 v21:=Tryd.zeroValue21
 t46:=Tryd.underlying68
 a46:=Tryd.isAgg68
 z46:=Tryd.sizeOf68
 v46:=Tryd.zeroValue68
 t105:=Tryd.underlying69
 a105:=Tryd.isAgg69
 z105:=Tryd.sizeOf69
 v105:=Tryd.zeroValue69
 t116:=Tryd.underlying59
 a116:=Tryd.isAgg59
 z116:=Tryd.sizeOf59
 t117:=Tryd.underlying60
 a117:=Tryd.isAgg60
 z117:=Tryd.sizeOf60
 v117:=Tryd.zeroValue60
 t119:=Tryd.underlying79
 a119:=Tryd.isAgg79
 z119:=Tryd.sizeOf79
 t124:=Tryd.underlying64
 a124:=Tryd.isAgg64
 z124:=Tryd.sizeOf64
 v124:=Tryd.zeroValue64
 t138:=Tryd.underlying81
 a138:=Tryd.isAgg81
 z138:=Tryd.sizeOf81
 v138:=Tryd.zeroValue81
 t139:=Tryd.underlying82
 a139:=Tryd.isAgg82
 z139:=Tryd.sizeOf82
 v139:=Tryd.zeroValue82
 g3:=by kernel_rfl
 g4:=by kernel_rfl }
end Go.Proofs
namespace Go.Fv.N
open Go Go.Proofs
theorem Gt (c:UInt8):∀ s:Bytes,-1≤Lib.indexByte s c∧Lib.indexByte s c<(s.length:Int)+1 - 1+(if s=[] then 1 else 0)
 | []=>⟨Int.le_refl _,by show (-1:Int)<_;simp⟩
 | b::l=>by
  have ih:=Gt c l
  unfold Lib.indexByte
  rw [if_neg (by simp:¬(b::l)=[])]
  have hl:((b::l).length:Int)=(l.length:Int)+1:=by simp
  split
  ·omega
  ·split
   ·omega
   ·rename_i h
    have h2:Lib.indexByte l c≠-1:=by simpa using h
    by_cases he:l=[]
    ·subst he;exact absurd rfl h2
    ·rw [if_neg he] at ih;omega
theorem xE (s:Bytes):(lM s).length≤s.length:=by
 unfold lM
 rw [List.length_reverse]
 have:=(List.dropWhile_sublist (fun c:UInt8=>decide (c=45)) (l:=s.reverse)).length_le
 rwa [List.length_reverse] at this
theorem jR (s:Bytes) (c:UInt8) (hs:s.length≤9223372036854775807):aP Tryd.prog 17 [.str s,.int .u8 c.toNat] (.int .i64 (Lib.indexByte s c)) []:=by
 refine ⟨⟨_,Tryd.func17,by kernel_rfl,by kernel_rfl⟩,fun w T vals hg hv=>?_⟩
 cases hv with
 | cons _ _ _ _ h1 hv=>cases hv with
  | cons _ _ _ _ h2 hv=>
   cases hv
   cases h1 with
   | str _ e1=>cases h2 with
    | int _ _ e2=>
     have L:=Tryd.lays137
     refine (Any.strings_IndexByte L ⟨s.toArray⟩ c.toNat w).mono ?_
     rintro e w' ⟨rfl,rfl⟩
     refine ⟨_,rfl,iJ.refl _ _,fun _=>undef,0,?_,?_,?_⟩
     ·have e3:(c.toNat:Int).toNat.toUInt8=c:=by simp
      rw [e3]
      have hb:=Gt c s
      have e1':s.length≤9223372036854775807:=hs
      refine .int _ _ (jd.2 ?_)
      split at hb<;>omega
     ·intro i it h;cases h
     ·intro i j it jt b h;cases h
theorem o8 (s:Bytes) (hs:s.length≤1000000):aP Tryd.prog 23 [.str s,.str [45]] (.str (lM s)) []:=by
 refine ⟨⟨_,Tryd.func23,by kernel_rfl,by kernel_rfl⟩,fun w T vals hg hv=>?_⟩
 cases hv with
 | cons _ _ _ _ h1 hv=>cases hv with
  | cons _ _ _ _ h2 hv=>
   cases hv
   cases h1 with
   | str _ e1=>cases h2 with
    | str _ e2=>
     have L:=Tryd.lays162
     refine (Any.strings_TrimRight_one L ⟨s.toArray⟩ 45 (by decide) w (by show s.toArray.size≤_;simp;omega)).mono ?_
     rintro e w' ⟨rfl,rfl⟩
     refine ⟨_,rfl,iJ.refl _ _,fun _=>undef,0,?_,?_,?_⟩
     ·have e3:Lib.trimRightB s 45=lM s:=by
       unfold Lib.trimRightB lM
       congr 2
      show Rv _ (.str (lM s)) (.string ⟨(Lib.trimRightB s 45).toArray⟩)
      rw [e3]
      refine .str _ ?_
      have:=xE s
      have e:maxLen=9223372036854775807:=rfl
      omega
     ·intro i it h;cases h
     ·intro i j it jt b h;cases h
theorem vS (s p:Bytes):aP Tryd.prog 36 [.str s,.str p] (.bool (decide (p.length≤s.length∧s.drop (s.length - p.length)=p))) []:=by
 refine aP.bH Tryd.func36 rfl (by decide) (by simp [Tryd.f36]) [.tmp 4] rfl fun w0 T0 _=>?_
 simp only [Tryd.f36,aI]
 by_cases h:p.length≤s.length
 ·have e1:((s.length:Int) - (p.length:Int))=((s.length - p.length:Nat):Int):=by omega
  have f1:((p.length:Int)≤(s.length:Int))=True:=eq_true (by omega)
  have e2:(s.drop (s.length - p.length)).take (s.length - (s.length - p.length))=s.drop (s.length - p.length):=List.take_of_length_le (by rw [List.length_drop];exact Nat.le_refl _)
  (repeat' with_reducible first|intro _|refine rz ?_|refine ra ?_ ?_|omega|simp only [go_sem,e1,f1])
  refine bW.auto 0 ?_ rfl ?_<;>simp only [go_sem,Int.natCast_succ,Post,h,e2]
 ·have f1:((p.length:Int)≤(s.length:Int))=False:=eq_false (by omega)
  (repeat' with_reducible first|intro _|refine rz ?_|refine ra ?_ ?_|omega|simp only [go_sem,f1])
  refine bW.auto 0 ?_ rfl ?_<;>simp only [go_sem,Int.natCast_succ,Post,h]
theorem yu (s p:Bytes):aP Tryd.prog 22 [.str s,.str p] (.bool (decide (p.length≤s.length∧s.drop (s.length - p.length)=p))) []:=by
 have k:=vS s p
 refine aP.bH Tryd.func22 rfl (by decide) (by simp [Tryd.f22]) [.tmp 4] rfl fun w0 T0 _=>?_
 simp only [Tryd.f22,aI]
 (repeat' with_reducible first|intro _|exact dn|refine rn ?_|refine ra ?_ ?_)
 refine ak.k k ?_
 (repeat' with_reducible first|intro _|exact dn|refine rn ?_|refine ra ?_ ?_)
 refine bW.auto 0 ?_ rfl ?_<;>simp only [go_sem,Int.natCast_succ,Post]
end Go.Fv.N
/- A walk through a string's runes: the first great letter. -/
namespace Go.Fv.N
open Go
theorem Jj (l:List UInt8) (j:Nat):(⟨l.toArray⟩:ByteArray).get! j=l.getD j 0:=by
 show (l.toArray)[j]! = _
 by_cases h:j<l.length
 ·simp [h,List.getD]
 ·simp [h,List.getD];rfl
theorem KD (c:UInt8):c.toNat<256:=c.toNat_lt
theorem CW {l:List UInt8} {p:Nat} (h:p<l.length):1≤gU l p∧p+gU l p≤l.length ∧
  ((((l.getD p 0).toNat:Int)=dM l p∧gU l p=1)∨(∀ j,p≤j→j<p+gU l p→128≤(l.getD j 0).toNat)):=by
 unfold gU dM
 rw [Lib.decode_at]
 have hs:(⟨l.toArray⟩:ByteArray).size=l.length:=rfl
 simp only [Jj,hs]
 have b0:=KD (l.getD p 0)
 by_cases ha:(l.getD p 0).toNat<128
 ·have e:Lib.decodeN (l.length - p) (l.getD p 0).toNat (l.getD (p+1) 0).toNat (l.getD (p+2) 0).toNat (l.getD (p+3) 0).toNat=((l.getD p 0).toNat,1):=by
   unfold Lib.decodeN;rw [if_pos ha]
  rw [e]
  exact ⟨Nat.le_refl _,by show p+1≤_;omega,.inl ⟨rfl,rfl⟩⟩
 rcases Lib.decodeN_shape (l.length - p) (l.getD p 0).toNat (l.getD (p+1) 0).toNat (l.getD (p+2) 0).toNat (l.getD (p+3) 0).toNat with ⟨c,e⟩|⟨c1,c2,c3,cv,e⟩|⟨c1,c2,c3,c4,cv,cs,e⟩|⟨c1,c2,c3,c4,c5,cv,cw,e⟩|e
 ·omega
 ·rw [e]
  refine ⟨by show 1≤2;omega,by show p+2≤_;omega,.inr fun j h1 h2=>?_⟩
  have h2:j<p+2:=h2
  have:j=p∨j=p+1:=by omega
  rcases this with rfl|rfl<;>omega
 ·rw [e]
  refine ⟨by show 1≤3;omega,by show p+3≤_;omega,.inr fun j h1 h2=>?_⟩
  have h2:j<p+3:=h2
  have:j=p∨j=p+1∨j=p+2:=by omega
  rcases this with rfl|rfl|rfl<;>omega
 ·rw [e]
  refine ⟨by show 1≤4;omega,by show p+4≤_;omega,.inr fun j h1 h2=>?_⟩
  have h2:j<p+4:=h2
  have:j=p∨j=p+1∨j=p+2∨j=p+3:=by omega
  rcases this with rfl|rfl|rfl|rfl<;>omega
 ·rw [e]
  refine ⟨by show 1≤1;omega,by show p+1≤_;omega,.inr fun j h1 h2=>?_⟩
  have h2:j<p+1:=h2
  have:j=p:=by omega
  subst this;omega
theorem Hq {l:List UInt8} {p:Nat}:0≤dM l p∧dM l p≤1114111:=by
 have:=Lib.rune_le ⟨l.toArray⟩ p
 unfold dM;omega
end Go.Fv.N
/- strings.IndexAny of the two braces, in any text. -/
namespace Go.Fv.N
open Go Go.Proofs
theorem IC {r:Int} (h1:128≤r) (h2:r≤1114111):2≤(yc r).length∧∀ j,j<(yc r).length→128≤((yc r).getD j 0).toNat:=by
 unfold yc Utf8.encode
 have hc:128≤(if Utf8.valid r=true then r.toNat else Utf8.runeError)∧(if Utf8.valid r=true then r.toNat else Utf8.runeError)≤1114111:=by
  split
  ·omega
  ·decide
 dsimp only
 generalize (if Utf8.valid r=true then r.toNat else Utf8.runeError)=c at *
 obtain ⟨c1,c2⟩:=hc
 rw [if_neg (by omega)]
 split
 ·refine ⟨by simp,fun j hj=>?_⟩
  have hj:j<2:=by simpa using hj
  rcases (by omega:j=0∨j=1) with rfl|rfl<;>simp<;>omega
 ·split
  ·refine ⟨by simp,fun j hj=>?_⟩
   have hj:j<3:=by simpa using hj
   rcases (by omega:j=0∨j=1∨j=2) with rfl|rfl|rfl<;>simp<;>omega
  ·refine ⟨by simp,fun j hj=>?_⟩
   have hj:j<4:=by simpa using hj
   rcases (by omega:j=0∨j=1∨j=2∨j=3) with rfl|rfl|rfl|rfl<;>simp<;>omega
def Ir (r:Int):Int:=if r=123 then 0 else if r=125 then 1 else -1
set_option maxHeartbeats 2000000 in
theorem yT (r:Int):aP Tryd.prog 44 [.int .i32 r] (.bool (decide ((0≤r∧r<55296)∨(57343<r∧r≤1114111)))) []:=by
 refine aP.bH Tryd.func44 rfl (by decide) (by simp [Tryd.f44]) [.tmp 2] rfl fun w0 T0 _=>?_
 simp only [Tryd.f44,aI]
 (repeat' with_reducible first|intro _|exact dn|refine rn ?_|refine ra ?_ ?_)
 all_goals (refine bW.auto 0 ?_ rfl ?_<;>simp only [go_sem,Int.natCast_succ,Post])
 all_goals
  symm
  first|(rw [decide_eq_true_eq];omega)|(rw [decide_eq_false_iff_not];omega)
set_option maxHeartbeats 4000000 in
theorem yw (r:Int) (hr:0≤r∧r≤1114111):aP Tryd.prog 31 [.str [123,125],.int .i32 r] (.int .i64 (Ir r)) []:=by
 refine aP.bH Tryd.func31 rfl (by decide) (by simp [Tryd.f31]) [.tmp 4] rfl fun w0 T0 _=>?_
 simp only [Tryd.f31,aI]
 have f0:(0≤r)=True:=eq_true hr.1
 by_cases h1:r<128
 ·have f1:(r<128)=True:=eq_true h1
  have k:=jR [123,125] (UInt8.ofNat r.toNat) (by simp)
  have e1:((UInt8.ofNat r.toNat).toNat:Int)=r:=by simp;omega
  have e2:Lib.indexByte [123,125] (UInt8.ofNat r.toNat)=Ir r:=by
   unfold Ir
   have hn:∀ m:Nat,m<128→(UInt8.ofNat m).toNat=m:=fun m h=>by simp;omega
   have h7:=hn r.toNat (by omega)
   generalize UInt8.ofNat r.toNat=c at *
   have h3:((123:UInt8) == c)=decide (r=123):=by
    rw [Bool.eq_iff_iff,beq_iff_eq,decide_eq_true_eq,←UInt8.toNat_inj]
    show 123=c.toNat↔_
    omega
   have h5:((125:UInt8) == c)=decide (r=125):=by
    rw [Bool.eq_iff_iff,beq_iff_eq,decide_eq_true_eq,←UInt8.toNat_inj]
    show 125=c.toNat↔_
    omega
   simp only [Lib.indexByte,h3,h5,decide_eq_true_eq]
   (repeat' split)<;>first|rfl|omega|simp_all
  rw [e1,e2] at k
  (repeat' with_reducible first|intro _|refine rz ?_|refine ra ?_ ?_|omega|simp only [go_sem,f0,f1])
  refine ak.k k ?_
  (repeat' with_reducible first|intro _|exact dn|refine rn ?_|refine ra ?_ ?_)
  refine bW.auto 0 ?_ rfl ?_<;>simp only [go_sem,Int.natCast_succ,Post]
 have f1:(r<128)=False:=eq_false h1
 have hb:Ir r=-1:=by unfold Ir;rw [if_neg (by omega),if_neg (by omega)]
 rw [hb]
 by_cases h2:r=65533
 ·subst h2
  (repeat' with_reducible first|intro _|exact dn|refine rn ?_|refine ra ?_ ?_)
  refine aT.intro (fun p:Nat=>⟨187,[(0,.str [123,125]),(175,.ptr 0 0)],[(0,.siter [123,125] p)],1⟩) (fun p=>p≤2) (fun p=>2 - p) 0 ?_ (Nat.zero_le _) fun p hp=>?_
  ·refine bQ.aC rfl ?_ ?_<;>simp only [go_sem,Int.natCast_succ]
  have a0:dM [123,125] 0=123:=by kernel_rfl
  have a1:dM [123,125] 1=125:=by kernel_rfl
  have w0':gU [123,125] 0=1:=by kernel_rfl
  have w1':gU [123,125] 1=1:=by kernel_rfl
  rcases (by omega:p=0∨p=1∨p=2) with rfl|rfl|rfl
  ·(repeat' with_reducible first|intro _|refine rz ?_|refine ra ?_ ?_|omega|simp only [go_sem,a0,w0'])
   refine ⟨1,bQ.aC rfl ?_ ?_,by omega,by omega⟩<;>simp only [go_sem,Int.natCast_succ,a0,w0']
  ·(repeat' with_reducible first|intro _|refine rz ?_|refine ra ?_ ?_|omega|simp only [go_sem,a1,w1'])
   refine ⟨2,bQ.aC rfl ?_ ?_,by omega,by omega⟩<;>simp only [go_sem,Int.natCast_succ,a1,w1']
  ·(repeat' with_reducible first|intro _|exact dn|refine rn ?_|refine ra ?_ ?_)
   refine bW.auto 0 ?_ rfl ?_<;>simp only [go_sem,Int.natCast_succ,Post]
 have f2:(r=65533)=False:=eq_false h2
 have kv:=yT r
 by_cases h3:(0≤r∧r<55296)∨(57343<r∧r≤1114111)
 ·rw [decide_eq_true h3] at kv
  obtain ⟨n2,hall⟩:=IC (r:=r) (by omega) (by omega)
  have n4:=zM r
  have f3:(0≤r∧r<128)=False:=eq_false (by omega)
  (repeat' with_reducible first|intro _|refine rz ?_|refine ra ?_ ?_|omega|simp only [go_sem,f0,f1,f2])
  refine ak.k kv ?_
  generalize hu:yc r=u at *
  (repeat' with_reducible first|intro _|refine rz ?_|refine ra ?_ ?_|omega|simp only [go_sem,f3,hu])
  obtain ⟨m,hm⟩:∃ m,u.length=m+2:=⟨u.length - 2,by omega⟩
  have el:((u.length:Int) - 1)=((m+1:Nat):Int):=by omega
  refine aT.intro (fun x:Unit=>⟨187,[(0,.str [123,125]),(1,.int .i32 r),(7,.str u),(8,.int .i64 (m+1:Nat)),(9,.int .i64 (m+1:Nat)),(10,.int .i64 0)],[],0⟩) (fun x=>True) (fun x=>0) () ?_ trivial fun x hx=>?_
  ·refine bQ.aC rfl ?_ ?_<;>simp only [go_sem,Int.natCast_succ,el]
  by_cases hm0:m=0
  ·subst hm0
   have k:=jR [] (u.getD 1 0) (by simp)
   have e1:Lib.indexByte [] (u.getD 1 0)=-1:=rfl
   rw [e1] at k
   have h7:=hall 1 (by omega)
   have f5:((([123,125]:List UInt8).getD 1 0).toNat:Int)=((u.getD 1 0).toNat:Int)↔False:=⟨fun h=>by
    have e:(([123,125]:List UInt8).getD 1 0).toNat=125:=rfl
    omega,False.elim⟩
   (repeat' with_reducible first|intro _|exact dn|refine rn ?_|refine ra ?_ ?_)
   refine dW.lex [] [] (by kernel_rfl) (by kernel_rfl) ?_
   (repeat' with_reducible first|intro _|refine rz ?_|refine ra ?_ ?_|omega|simp only [go_sem,f5])
   refine dW.lex [] [] (by kernel_rfl) (by kernel_rfl) ?_
   (repeat' with_reducible first|intro _|exact dn|refine rn ?_|refine ra ?_ ?_)
   (refine QV.intro (.int .i64 (-1)) ?_ ?_;focus ((repeat' with_reducible first|intro _|exact dn|refine rn ?_|refine ra ?_ ?_);refine ak.k (k) ?_;(repeat' with_reducible first|intro _|exact dn|refine rn ?_|refine ra ?_ ?_)))
   (repeat' with_reducible first|intro _|exact dn|refine rn ?_|refine ra ?_ ?_)
   refine bW.auto 0 ?_ rfl ?_<;>simp only [go_sem,Int.natCast_succ,Post]
  ·(repeat' with_reducible first|intro _|exact dn|refine rn ?_|refine ra ?_ ?_)
   refine bW.auto 0 ?_ rfl ?_<;>simp only [go_sem,Int.natCast_succ,Post]
 ·rw [decide_eq_false h3] at kv
  (repeat' with_reducible first|intro _|refine rz ?_|refine ra ?_ ?_|omega|simp only [go_sem,f0,f1,f2])
  refine ak.k kv ?_
  (repeat' with_reducible first|intro _|exact dn|refine rn ?_|refine ra ?_ ?_)
  refine bW.auto 0 ?_ rfl ?_<;>simp only [go_sem,Int.natCast_succ,Post]
def fB:Bytes→Nat→Int
 | [],_=>-1
 | c::t,i=>if nb c=true then fB t (i+1) else i
theorem DT {s:Bytes} {i:Nat} (n:Nat):i+n≤s.length→(∀ j,i≤j→j<i+n→nb (s.getD j 0)=true)→fB (s.drop (i+n)) (i+n)=fB (s.drop i) i:=by
 induction n with
 | zero=>intro _ _;rfl
 | succ n ih=>
  intro hl h
  rw [←ih (by omega) (fun j h1 h2=>h j h1 (by omega))]
  have hlt:i+n<s.length:=by omega
  rw [List.drop_eq_getElem_cons hlt]
  show _=if nb s[i+n]=true then _ else _
  rw [if_pos (by have:=h (i+n) (by omega) (by omega);rwa [getD_lt hlt] at this)]
  rfl
theorem DR {s:Bytes} {i:Nat} (hlt:i<s.length) (h:nb (s.getD i 0)=false):fB (s.drop i) i=i:=by
 rw [List.drop_eq_getElem_cons hlt]
 show (if nb s[i]=true then _ else _)=_
 rw [getD_lt hlt] at h
 rw [if_neg (by rw [h];decide)]
theorem Ja {l:Bytes} {p:Nat} (h:p<l.length) (h1:128≤(l.getD p 0).toNat):128≤dM l p:=by
 unfold dM
 rw [Lib.decode_at]
 simp only [Jj]
 generalize (⟨l.toArray⟩:ByteArray).size - p=n
 rcases Lib.decodeN_shape n (l.getD p 0).toNat (l.getD (p+1) 0).toNat (l.getD (p+2) 0).toNat (l.getD (p+3) 0).toNat with ⟨c,e⟩|⟨c1,c2,c3,cv,e⟩|⟨c1,c2,c3,c4,cv,cs,e⟩|⟨c1,c2,c3,c4,c5,cv,cw,e⟩|e
 ·omega
 ·rw [e];dsimp only;omega
 ·rw [e];dsimp only;omega
 ·rw [e];dsimp only;omega
 ·rw [e];decide
theorem JG (c:UInt8):decide (c∈([123,125]:List UInt8))=!nb c:=by
 have e1:(c=123)=(c.toNat=123):=propext ⟨fun h=>by rw [h];rfl,fun h=>UInt8.toNat_inj.1 h⟩
 have e2:(c=125)=(c.toNat=125):=propext ⟨fun h=>by rw [h];rfl,fun h=>UInt8.toNat_inj.1 h⟩
 unfold nb
 simp only [List.mem_cons,List.not_mem_nil,or_false,e1,e2,Bool.decide_or,Bool.not_and,Bool.not_not]
set_option maxHeartbeats 4000000 in
theorem zV (s:Bytes) (hs:s.length≤1000000):aP Tryd.prog 16 [.str s,.str [123,125]] (.int .i64 (fB s 0)) []:=by
 refine aP.bH Tryd.func16 rfl (by decide) (by simp [Tryd.f16]) [.tmp 4] rfl fun w0 T0 _=>?_
 simp only [Tryd.f16,aI]
 have kd:aP Tryd.prog 32 [.int .i64 s.length] (.bool (decide ((8:Int)<s.length))) []:=by
  refine aP.bH Tryd.func32 rfl (by decide) (by simp [Tryd.f32]) [.tmp 2] rfl fun w0 T0 _=>?_
  simp only [Tryd.f32,aI]
  (repeat' with_reducible first|intro _|exact dn|refine rn ?_|refine ra ?_ ?_)
  refine bW.auto 0 ?_ rfl ?_<;>simp only [go_sem,Int.natCast_succ,Post]
 by_cases h8:(8:Int)<s.length
 ·rw [decide_eq_true h8] at kd
  have hlen:=fV [123,125] 2
  have km:=oM [123,125] (by intro i hi;have:i<2:=hi;rcases (by omega:i=0∨i=1) with rfl|rfl<;>decide)
  have hg:∀ c:UInt8,(bM [123,125] 2).getD c.toNat false=!nb c:=fun c=>by
   rw [kM [123,125] c 2 (Nat.le_refl _)]
   have e3:([123,125]:List UInt8).take 2=[123,125]:=rfl
   rw [e3,JG]
  have e2:([123,125]:List UInt8).length=2:=rfl
  rw [e2] at km
  (repeat' with_reducible first|intro _|exact dn|refine rn ?_|refine ra ?_ ?_)
  refine ak.k kd ?_
  (repeat' with_reducible first|intro _|exact dn|refine rn ?_|refine ra ?_ ?_)
  refine ak.fr (args':=[.str [123,125]]) (gJ.gX km (by simp [kY,gW,lg]) rfl) (by simp [bD,bG,aF]) 0 (by simp [Fv.below,aB,iy]) (by simp [dG]) ?_
  generalize bM [123,125] 2=tab at hlen hg ⊢
  simp only [go_sem]
  have e1:Fv.spl (List.replicate 256 (AV.bool false)) 0 (tab.map .bool)=tab.map .bool:=yR (by simp [hlen])
  refine aN.intro (by omega) ?_
  refine aN.intro (by omega) ?_
  rw [e1]
  refine aT.intro (fun j:Nat=>⟨55,[(8,.int .i64 j),(6,.ptr 0 0),(0,.str s),(1,.str [123,125])],[(0,.box 59 (tab.map .bool))],1⟩) (fun j=>j≤s.length∧fB (s.drop j) j=fB s 0) (fun j=>s.length - j) 0 ?_ ⟨Nat.zero_le _,rfl⟩ fun j hj=>?_
  ·refine bQ.aC rfl ?_ ?_<;>simp only [go_sem,Int.natCast_succ]
   all_goals trace_state
  obtain ⟨hj,hI⟩:=hj
  by_cases hlt:j<s.length
  ·have f1:((j:Int)<(s.length:Int))=True:=eq_true (by omega)
   have k:=jQ tab hlen (s.getD j 0)
   rw [hg] at k
   (repeat' with_reducible first|intro _|refine rz ?_|refine ra ?_ ?_|omega|simp only [go_sem,f1])
   refine ak.fr (args':=[.cell (tab.map .bool),.int .u8 (s.getD j 0).toNat]) (gJ.gX k rfl rfl) ?_ 0 rfl (by simp [dG]) ?_
   ·exact ⟨_,_,⟨_,_,_,rfl,jg _ 4 _,rfl⟩,⟨_,_,rfl,rfl,rfl⟩,rfl⟩
   cases hn:nb (s.getD j 0) with
   | true=>
    (repeat' with_reducible first|intro _|exact dn|refine rn ?_|refine ra ?_ ?_)
    refine ⟨j+1,bQ.aC rfl ?_ ?_,⟨by omega,by rw [DT 1 (by omega) (fun i h1 h2=>by rw [show i=j by omega];exact hn)];exact hI⟩,by omega⟩<;>simp only [go_sem,Int.natCast_succ]
    all_goals trace_state
   | false=>
    rw [DR hlt hn] at hI
    (repeat' with_reducible first|intro _|exact dn|refine rn ?_|refine ra ?_ ?_)
    refine bW.auto 0 ?_ rfl ?_<;>simp only [go_sem,Int.natCast_succ,Post]
    all_goals exact hI
  ·have e:j=s.length:=by omega
   subst e
   rw [List.drop_length] at hI
   have f1:((s.length:Int)<(s.length:Int))=False:=eq_false (by omega)
   (repeat' with_reducible first|intro _|refine rz ?_|refine ra ?_ ?_|omega|simp only [go_sem,f1])
   refine bW.auto 0 ?_ rfl ?_<;>simp only [go_sem,Int.natCast_succ,Post]
   all_goals exact hI
 ·rw [decide_eq_false h8] at kd
  (repeat' with_reducible first|intro _|exact dn|refine rn ?_|refine ra ?_ ?_)
  refine ak.k kd ?_
  (repeat' with_reducible first|intro _|exact dn|refine rn ?_|refine ra ?_ ?_)
  refine aT.intro (fun p:Nat=>⟨55,[(0,.str s),(1,.str [123,125]),(45,.ptr 0 0)],[(0,.siter s p)],1⟩) (fun p=>p≤s.length∧fB (s.drop p) p=fB s 0) (fun p=>s.length - p) 0 ?_ ⟨Nat.zero_le _,rfl⟩ fun p hI=>?_
  ·refine bQ.aC rfl ?_ ?_<;>simp only [go_sem,Int.natCast_succ]
  obtain ⟨hp,hI⟩:=hI
  (repeat' with_reducible first|intro _|exact dn|refine rn ?_|refine ra ?_ ?_)
  ·have hlt:p<s.length:=by omega
   have hr:=@Hq s p
   obtain ⟨hw1,hw2,hc⟩:=CW hlt
   have k:=yw (dM s p) hr
   have h0:0≤Ir (dM s p)↔(dM s p=123∨dM s p=125):=by
    unfold Ir
    (repeat' split)<;>omega
   have hh:0≤Ir (dM s p)→nb (s.getD p 0)=false:=fun h=>by
    rw [h0] at h
    have h9:=Ja hlt
    have h10:(s.getD p 0).toNat=123∨(s.getD p 0).toNat=125:=by
     rcases hc with ⟨h3,h4⟩|h3
     ·omega
     ·have:=h9 (h3 p (Nat.le_refl _) (by omega));omega
    unfold nb
    rcases h10 with h|h<;>rw [h]<;>rfl
   have hsk:¬0≤Ir (dM s p)→∀ j,p≤j→j<p+gU s p→nb (s.getD j 0)=true:=fun h j h1 h2=>by
    rw [h0] at h
    rcases hc with ⟨h3,h4⟩|h3
    ·have:j=p:=by omega
     subst this
     unfold nb
     rw [decide_eq_false (by omega),decide_eq_false (by omega)];rfl
    ·have:=h3 j h1 h2
     unfold nb
     rw [decide_eq_false (by omega),decide_eq_false (by omega)];rfl
   refine ak.k k ?_
   (repeat' with_reducible first|intro _|exact dn|refine rn ?_|refine ra ?_ ?_)
   ·rename_i h2
    rw [DR hlt (hh h2)] at hI
    refine bW.auto 0 ?_ rfl ?_<;>simp only [go_sem,Int.natCast_succ,Post]
    exact hI
   ·rename_i h2
    refine ⟨p+gU s p,bQ.aC rfl ?_ ?_,⟨by omega,by rw [DT _ hw2 (hsk h2)];exact hI⟩,by omega⟩<;>simp only [go_sem,Int.natCast_succ]
  ·have e:p=s.length:=by omega
   subst e
   rw [List.drop_length] at hI
   refine bW.auto 0 ?_ rfl ?_<;>simp only [go_sem,Int.natCast_succ,Post]
   exact hI
theorem zx (b:Bool) (e:Int):aP Tryd.prog 30 [.bool b,.int .i64 e] (.int .i64 (if b=true then e else 0)) []:=by
 refine aP.bH Tryd.func30 rfl (by decide) (by simp [Tryd.f30]) [.tmp 4] rfl fun w0 T0 _=>?_
 simp only [Tryd.f30,aI]
 cases b<;>simp only [go_sem]<;>(refine bW.auto 0 ?_ rfl ?_<;>simp only [go_sem,Int.natCast_succ,Post])
def eY:List Int→Int
 | []=>0
 | e::l=>if e=0 then eY l else e
set_option maxHeartbeats 2000000 in
theorem Gg (l:List Int) (hl:l.length≤1000):aP Tryd.prog 29 [.ro (.ints .i64 l)] (.int .i64 (eY l)) []:=by
 refine aP.bH Tryd.func29 rfl (by decide) (by simp [Tryd.f29]) [.tmp 2] rfl fun w0 T0 _=>?_
 simp only [Tryd.f29,aI]
 (repeat' with_reducible first|intro _|exact dn|refine rn ?_|refine ra ?_ ?_)
 refine aT.intro (fun i:Nat=>⟨15,[(7,.int .i64 i),(6,.int .i64 l.length),(5,.ro (.ints .i64 l))],[],0⟩) (fun i=>i≤l.length∧eY (l.drop i)=eY l) (fun i=>l.length - i) 0 ?_ ⟨Nat.zero_le _,rfl⟩ fun i hi=>?_
 ·refine bQ.aC rfl ?_ ?_<;>simp only [go_sem,Int.natCast_succ]
 obtain ⟨hi,he⟩:=hi
 (repeat' with_reducible first|intro _|exact dn|refine rn ?_|refine ra ?_ ?_)
 ·have hlt:i<l.length:=by omega
  have hd:l.drop i=l.getD i 0::l.drop (i+1):=by rw [List.drop_eq_getElem_cons hlt,getD_lt hlt]
  rw [hd,eY,if_neg (by omega)] at he
  rw [←he]
  refine bW.auto 0 ?_ rfl ?_<;>simp only [go_sem,Int.natCast_succ,Post]
 ·have hlt:i<l.length:=by omega
  have hd:l.drop i=l.getD i 0::l.drop (i+1):=by rw [List.drop_eq_getElem_cons hlt,getD_lt hlt]
  rw [hd,eY,if_pos (by omega)] at he
  refine ⟨i+1,bQ.aC rfl ?_ ?_,⟨by omega,he⟩,by omega⟩<;>simp only [go_sem,Int.natCast_succ]
  all_goals rfl
 ·have e:i=l.length:=by omega
  subst e
  rw [List.drop_length] at he
  rw [←he]
  refine bW.auto 0 ?_ rfl ?_<;>simp only [go_sem,Int.natCast_succ,Post,eY]
end Go.Fv.N
/- The reference's FactsError. -/
namespace Go.Fv.N
open Go Go.Proofs
def vO (t:Bytes) (F:List Fc):Int:=if 50<F.length∨200<t.length then 4 else oD F F.length
set_option maxHeartbeats 8000000 in
theorem AP (t:Bytes) (F:List Fc):aP Tryd.prog 15 [.str t,.ro (JB F)] (.int .i64 (vO t F)) []:=by
 obtain ⟨R,hR⟩:∃ R,vO t F=R:=⟨_,rfl⟩
 rw [hR]
 unfold vO at hR
 refine aP.bH Tryd.func15 rfl (by decide) (by simp [Tryd.f15]) [.tmp 4] rfl fun w0 T0 _=>?_
 simp only [Tryd.f15,aI]
 by_cases h1:50<F.length
 ·have f1:((50:Int)<(F.length:Int))=True:=eq_true (by omega)
  rw [if_pos (.inl h1)] at hR
  rw [←hR]
  (repeat' with_reducible first|intro _|refine rz ?_|refine ra ?_ ?_|omega|simp only [go_sem,List.length_map,f1])
  refine bW.auto 0 ?_ rfl ?_<;>simp only [go_sem,Int.natCast_succ,Post]
 have f1:((50:Int)<(F.length:Int))=False:=eq_false (by omega)
 by_cases h2:200<t.length
 ·have f2:((200:Int)<(t.length:Int))=True:=eq_true (by omega)
  rw [if_pos (.inr h2)] at hR
  rw [←hR]
  (repeat' with_reducible first|intro _|refine rz ?_|refine ra ?_ ?_|omega|simp only [go_sem,List.length_map,f1,f2])
  refine bW.auto 0 ?_ rfl ?_<;>simp only [go_sem,Int.natCast_succ,Post]
 have f2:((200:Int)<(t.length:Int))=False:=eq_false (by omega)
 rw [if_neg (by omega)] at hR
 (repeat' with_reducible first|intro _|refine rz ?_|refine ra ?_ ?_|omega|simp only [go_sem,List.length_map,f1,f2])
 refine aT.intro (fun j:Nat=>⟨48,[(20,.int .i64 j),(19,.int .i64 F.length),(18,.ro (JB F)),(5,.own 0)],[(0,.map (((F.map Fc.n).take j).map .str) (((F.map Fc.n).take j).map fun _=>.bool true))],1⟩) (fun j=>j≤F.length∧oD F j=0) (fun j=>F.length - j) 0 ?_ ⟨Nat.zero_le _,rfl⟩ fun j hj=>?_
 ·refine bQ.aC rfl ?_ ?_<;>simp only [go_sem,Int.natCast_succ]
  all_goals first|rfl|exact ⟨rfl,rfl⟩|trace_state
 obtain ⟨hj1,hj2⟩:=hj
 by_cases hlt:j<F.length
 ·have f7:((j:Int)<(F.length:Int))=True:=eq_true (by omega)
  have hst:oD F (j+1)=if oD F j≠0 then oD F j else if aX (F.getD j Fc.zero).n=true then (if (F.getD j Fc.zero).n∈(F.map Fc.n).take j then 6 else if 1000<(F.getD j Fc.zero).t.length then 4 else 0) else 5:=rfl
  have hle:=@BX F (j+1) F.length
  have hee:=rO F hlt
  have htk:(F.map Fc.n).take (j+1)=(F.map Fc.n).take j++[(F.getD j Fc.zero).n]:=by
   have hjl:j<(F.map Fc.n).length:=by rw [List.length_map];exact hlt
   rw [List.take_succ_eq_append_getElem hjl,List.getElem_map,getD_lt hlt]
  rw [hj2,if_neg (by simp)] at hst
  generalize F.getD j Fc.zero=x at *
  obtain ⟨xn,xt⟩:=x
  dsimp only at hst hee htk
  generalize hK1:(F.map Fc.n).take (j+1)=K1 at *
  generalize (F.map Fc.n).take j=K0 at *
  have kn:=wY xn
  have w1:=zx (!aX xn) 5
  have w2:=zx (decide (xn∈K0)) 6
  have w3:=zx (decide ((1000:Int)<(xt.length:Int))) 4
  have e1:(if (!aX xn)=true then (5:Int) else 0)=if aX xn=true then 0 else 5:=by cases aX xn<;>rfl
  have e3:(if decide ((1000:Int)<(xt.length:Int))=true then (4:Int) else 0)=if 1000<xt.length then 4 else 0:=by
   have e:((1000:Int)<(xt.length:Int))=(1000<xt.length):=propext ⟨by omega,by omega⟩
   simp only [e,decide_eq_true_eq]
  rw [e1] at w1
  rw [e3] at w3
  simp only [decide_eq_true_eq] at w2
  have hE:eY [if aX xn=true then 0 else 5,if xn∈K0 then 6 else 0,if 1000<xt.length then 4 else 0]=oD F (j+1):=by
   rw [hst]
   simp only [eY];(repeat' split)<;>first|rfl|omega|(exfalso;simp_all)
  have kf:=Gg [if aX xn=true then 0 else 5,if xn∈K0 then 6 else 0,if 1000<xt.length then 4 else 0] (by simp)
  rw [hE] at kf
  have hins:xn∉K0→jD K0 xn=K1:=fun h=>by unfold jD;rw [if_neg h,htk]
  have hnd:oD F (j+1)=0→xn∉K0:=fun h hm=>by
   rw [hst,if_pos hm] at h
   split at h<;>omega
  generalize hr:oD F (j+1)=r at *
  generalize (if aX xn=true then (0:Int) else 5)=u1 at *
  generalize (if xn∈K0 then (6:Int) else 0)=u2 at *
  generalize (if 1000<xt.length then (4:Int) else 0)=u3 at *
  generalize aX xn=q at *
  (repeat' with_reducible first|intro _|refine rz ?_|refine ra ?_ ?_|omega|simp only [go_sem,f7,hee,dU,List.length_map])
  refine dW.lex [15] [] (by kernel_rfl) (by kernel_rfl) ?_
  (repeat' with_reducible first|intro _|exact dn|refine rn ?_|refine ra ?_ ?_)
  (refine QV.intro (.bool q) ?_ ?_;focus ((repeat' with_reducible first|intro _|exact dn|refine rn ?_|refine ra ?_ ?_);refine ak.k (kn) ?_;(repeat' with_reducible first|intro _|exact dn|refine rn ?_|refine ra ?_ ?_)))
  (repeat' with_reducible first|intro _|exact dn|refine rn ?_|refine ra ?_ ?_)
  (refine QV.intro (.int .i64 u1) ?_ ?_;focus ((repeat' with_reducible first|intro _|exact dn|refine rn ?_|refine ra ?_ ?_);refine ak.k (w1) ?_;(repeat' with_reducible first|intro _|exact dn|refine rn ?_|refine ra ?_ ?_)))
  (repeat' with_reducible first|intro _|exact dn|refine rn ?_|refine ra ?_ ?_)
  (refine QV.intro (.int .i64 u2) ?_ ?_;focus ((repeat' with_reducible first|intro _|exact dn|refine rn ?_|refine ra ?_ ?_);refine ak.k (w2) ?_;(repeat' with_reducible first|intro _|exact dn|refine rn ?_|refine ra ?_ ?_)))
  (repeat' with_reducible first|intro _|exact dn|refine rn ?_|refine ra ?_ ?_)
  (refine QV.intro (.int .i64 u3) ?_ ?_;focus ((repeat' with_reducible first|intro _|exact dn|refine rn ?_|refine ra ?_ ?_);refine ak.k (w3) ?_;(repeat' with_reducible first|intro _|exact dn|refine rn ?_|refine ra ?_ ?_)))
  (repeat' with_reducible first|intro _|exact dn|refine rn ?_|refine ra ?_ ?_)
  (refine QV.intro (.int .i64 r) ?_ ?_;focus ((repeat' with_reducible first|intro _|exact dn|refine rn ?_|refine ra ?_ ?_);refine ak.k (kf) ?_;(repeat' with_reducible first|intro _|exact dn|refine rn ?_|refine ra ?_ ?_)))
  by_cases h0:r=0
  ·have g0:(r=0)=True:=eq_true h0
   have hh:=hins (hnd h0)
   (repeat' with_reducible first|intro _|refine rz ?_|refine ra ?_ ?_|omega|simp only [go_sem,g0])
   refine ⟨j+1,bQ.aC rfl ?_ ?_,⟨by omega,by rw [hr];exact h0⟩,by omega⟩<;>simp only [go_sem,Int.natCast_succ,hh,hK1]
  ·have g0:(r=0)=False:=eq_false h0
   have hh:=hle h0 (by omega)
   rw [hh] at hR
   (repeat' with_reducible first|intro _|refine rz ?_|refine ra ?_ ?_|omega|simp only [go_sem,g0])
   refine bW.auto 0 ?_ rfl ?_<;>simp only [go_sem,Int.natCast_succ,Post,hR]
 have e:j=F.length:=by omega
 subst e
 have f7:((F.length:Int)<(F.length:Int))=False:=eq_false (by omega)
 rw [hj2] at hR
 rw [←hR]
 (repeat' with_reducible first|intro _|refine rz ?_|refine ra ?_ ?_|omega|simp only [go_sem,f7])
 refine bW.auto 0 ?_ rfl ?_<;>simp only [go_sem,Int.natCast_succ,Post]
end Go.Fv.N
