/-
  A part of the proof of the claim: walks over the program's functions and the plain laws that these need. No condition of its own.
-/
import Derived.Test.YtodlgmmbfbiilaaGreatDoorHArcMCardPart15
import Derived.Test.YtodlgmmbfbiilaaGreatDoorHArcMCardPart14
import Derived.Test.YtodlgmmbfbiilaaGreatDoorHArcMCardPart4
import Derived.Test.YtodlgmmbfbiilaaGreatDoorHArcMCardPart7
import Derived.Test.YtodlgmmbfbiilaaGreatDoorHArcMCardPart10
import Derived.Test.YtodlgmmbfbiilaaGreatDoorHArcMCardPart1
set_option linter.unusedSimpArgs false
set_option linter.unusedVariables false
set_option linter.unnecessarySimpa false
set_option maxRecDepth 8000
/- The reference's packed, encoded, PackAll: the walk. -/
namespace Go.Fv.H
open Go Go.Proofs
structure NQ where
 (n:Bytes) (q:Option (Int × Int × List Bool))
def NQ.av (x:NQ):List AV:=match x.q with
 | none=>[.str x.n,.int .i64 0,.int .i64 0,.nilS]
 | some (w,h,p)=>[.str x.n,.int .i64 w,.int .i64 h,.ro (.bools p)]
def NQ.zero:NQ:=⟨[],none⟩
abbrev nqs (l:List NQ):aO:=.objs 4 (l.map NQ.av)
instance:Gz NQ.av:=⟨fun x=>by unfold NQ.av;split<;>rfl⟩
def NP.toQ (x:NP):NQ:=⟨x.n,some (x.W,x.H,x.p)⟩
theorem X9 (l:List NP):nqs (l.map NP.toQ)=Kw l:=by unfold nqs Kw;rw [List.map_map];rfl
theorem Dx (l:List (Bytes × Bytes)):(l.map Prod.snd).flatten=fU l:=rfl
theorem Js (n k:Nat) (hn:n≤1000000000000) (hk:k≤8):aA Tryz.prog 64 [.int .i64 n,.int .i64 k] (.str (cZ k n)) []:=qN n n k (.inl rfl) (by omega) (by omega) hk
set_option maxHeartbeats 4000000 in
theorem Px (m:List (Bytes × Bytes)) (l:List NQ) (hq:l.map NQ.n=m.map Prod.fst) (h:YP m) (hp:2≤m.length→0<(fU m).length):aA Tryz.prog 82 [.ro (nqs l),.ro (.strs (m.map Prod.snd))] (.str (lS m)) []:=by
 have hm:=h.many
 have hlong:=h.long
 have hlm:l.length=m.length:=by have:=congrArg List.length hq;simpa using this
 have kb0:aA Tryz.prog 64 [.int .i64 l.length,.int .i64 2] (.str (cZ 2 l.length)) []:=Js l.length 2 (by omega) (by omega)
 have hP:=I9 h.name
 rw [hlm] at kb0
 have hb2:=aS 2 m.length
 have h00:LH m 0=70::66::65::49::cZ 2 m.length:=by unfold LH;rw [List.take_zero,List.flatMap_nil,List.append_nil];rfl
 refine aA.aG Tryz.func82 rfl (by decide) (by simp [Tryz.f82]) [.tmp 4] rfl fun w0 T0 _=>?_
 simp only [Tryz.f82,au]
 generalize hB2:cZ 2 m.length=B2 at *
 (repeat' with_reducible first|intro _|refine rz ?_|refine ra ?_ ?_|omega|simp only [go_sem,List.length_map,hlm])
 refine ah.k kb0 ?_
 (repeat' with_reducible first|intro _|refine rz ?_|refine ra ?_ ?_|omega|simp only [go_sem,List.length_map,hlm])
 refine aF.intro (fun i:Nat=>⟨43,[(14,.int .i64 i),(13,.int .i64 m.length),(12,.ro (nqs l)),(5,.str (LH m i)),(1,.ro (.strs (m.map Prod.snd)))],[],0⟩) (fun i=>i≤m.length) (fun i=>m.length - i) 0 ?_ (Nat.zero_le _) fun i hi=>?_
 ·refine aK.ak rfl ?_ ?_<;>simp only [go_sem,Int.natCast_succ,h00]
 have hPi:=hP i hi
 have hP2:(LH m i).length≤1000000000:=by have:i*(1000+5)≤70000*(1000+5):=Nat.mul_le_mul_right _ (by omega);omega
 by_cases hlt:i<m.length
 ·have f7:((i:Int)<(m.length:Int))=True:=eq_true (by omega)
  have hst:=DY m hlt
  have hn:=h.name (m.getD i ([],[])) (by rw [getD_lt hlt];exact List.getElem_mem hlt)
  have hc:=h.code (m.getD i ([],[])) (by rw [getD_lt hlt];exact List.getElem_mem hlt)
  have hcd:(m.map Prod.snd).getD i []=(m.getD i ([],[])).2:=by
   rw [List.getD_eq_getElem?_getD,List.getD_eq_getElem?_getD,List.getElem?_map]
   cases m[i]?<;>rfl
  have hnm:(l.getD i NQ.zero).n=(m.getD i ([],[])).1:=by
   have:=congrArg (fun z=>List.getD z i []) hq
   rw [List.getD_eq_getElem?_getD,List.getD_eq_getElem?_getD,List.getElem?_map,List.getElem?_map] at this
   rw [List.getD_eq_getElem?_getD,List.getD_eq_getElem?_getD]
   rw [List.getElem?_eq_getElem (show i<l.length by omega),List.getElem?_eq_getElem hlt] at this ⊢
   exact this
  have hee:(l.map NQ.av).getD i []=(l.getD i NQ.zero).av:=by
   rw [List.getD_eq_getElem?_getD,List.getD_eq_getElem?_getD,List.getElem?_map,List.getElem?_eq_getElem (show i<l.length by omega)];rfl
  generalize l.getD i NQ.zero=y at *
  generalize m.getD i ([],[])=x at *
  obtain ⟨xn,xd⟩:=x
  obtain ⟨yn,yq⟩:=y
  dsimp only at hst hn hc hcd hnm
  subst hnm
  have k1:aA Tryz.prog 64 [.int .i64 yn.length,.int .i64 1] (.str (cZ 1 yn.length)) []:=Js yn.length 1 (by omega) (by omega)
  have k4:aA Tryz.prog 64 [.int .i64 xd.length,.int .i64 4] (.str (cZ 4 xd.length)) []:=Js xd.length 4 (by omega) (by omega)
  have b1:=aS 1 yn.length
  have b4:=aS 4 xd.length
  generalize cZ 1 yn.length=B1 at *
  generalize cZ 4 xd.length=B4 at *
  generalize LH m i=P at *
  cases yq with
  | none=>
   replace hee:(l.map NQ.av).getD i []=[.str yn,.int .i64 0,.int .i64 0,.nilS]:=hee
   (repeat' with_reducible first|intro _|refine rz ?_|refine ra ?_ ?_|omega|simp only [go_sem,f7,hee,dw,List.length_map,hlm])
   refine aN.lex [] [] (by kernel_rfl) (by kernel_rfl) ?_
   (repeat' with_reducible first|intro _|exact dn|refine rn ?_|refine ra ?_ ?_)
   (refine QV.intro (.str B1) ?_ ?_;focus ((repeat' with_reducible first|intro _|exact dn|refine rn ?_|refine ra ?_ ?_);refine ah.k (k1) ?_;(repeat' with_reducible first|intro _|exact dn|refine rn ?_|refine ra ?_ ?_)))
   (repeat' with_reducible first|intro _|refine rz ?_|refine ra ?_ ?_|omega|simp only [go_sem,dw,hcd,List.length_map])
   (refine QV.intro (.str B4) ?_ ?_;focus ((repeat' with_reducible first|intro _|exact dn|refine rn ?_|refine ra ?_ ?_);refine ah.k (k4) ?_;(repeat' with_reducible first|intro _|exact dn|refine rn ?_|refine ra ?_ ?_)))
   (repeat' with_reducible first|intro _|exact dn|refine rn ?_|refine ra ?_ ?_)
   refine ⟨i+1,aK.ak rfl ?_ ?_,by omega,by omega⟩<;>simp only [go_sem,Int.natCast_succ,hst]
  | some z=>
   obtain ⟨w,hh,p⟩:=z
   replace hee:(l.map NQ.av).getD i []=[.str yn,.int .i64 w,.int .i64 hh,.ro (.bools p)]:=hee
   (repeat' with_reducible first|intro _|refine rz ?_|refine ra ?_ ?_|omega|simp only [go_sem,f7,hee,dw,List.length_map,hlm])
   refine aN.lex [] [] (by kernel_rfl) (by kernel_rfl) ?_
   (repeat' with_reducible first|intro _|exact dn|refine rn ?_|refine ra ?_ ?_)
   (refine QV.intro (.str B1) ?_ ?_;focus ((repeat' with_reducible first|intro _|exact dn|refine rn ?_|refine ra ?_ ?_);refine ah.k (k1) ?_;(repeat' with_reducible first|intro _|exact dn|refine rn ?_|refine ra ?_ ?_)))
   (repeat' with_reducible first|intro _|refine rz ?_|refine ra ?_ ?_|omega|simp only [go_sem,dw,hcd,List.length_map])
   (refine QV.intro (.str B4) ?_ ?_;focus ((repeat' with_reducible first|intro _|exact dn|refine rn ?_|refine ra ?_ ?_);refine ah.k (k4) ?_;(repeat' with_reducible first|intro _|exact dn|refine rn ?_|refine ra ?_ ?_)))
   (repeat' with_reducible first|intro _|exact dn|refine rn ?_|refine ra ?_ ?_)
   refine ⟨i+1,aK.ak rfl ?_ ?_,by omega,by omega⟩<;>simp only [go_sem,Int.natCast_succ,hst]
 have e:i=m.length:=by omega
 subst e
 have f7:((m.length:Int)<(m.length:Int))=False:=eq_false (by omega)
 rw [Ro] at hP2 ⊢
 have ks:=iy (hdB m) (by omega)
 have kj:=Vp (m.map Prod.snd) (by rw [Dx];omega) (by rw [Dx,List.length_map];exact hp)
 rw [Dx] at kj
 have hA:lS m=hdB m++fU m++cO (hdB m):=by unfold lS;rw [List.append_assoc]
 have hsl:=oQ (hdB m)
 rw [hA]
 generalize hdB m=P at *
 generalize cO P=S at *
 generalize fU m=C at *
 (repeat' with_reducible first|intro _|refine rz ?_|refine ra ?_ ?_|omega|simp only [go_sem,f7])
 refine ah.k kj ?_
 (repeat' with_reducible first|intro _|exact dn|refine rn ?_|refine ra ?_ ?_)
 refine ah.k ks ?_
 (repeat' with_reducible first|intro _|exact dn|refine rn ?_|refine ra ?_ ?_)
 refine aT.auto 0 ?_ rfl ?_<;>simp only [go_sem,Int.natCast_succ,Post]
theorem OL (x:NP) (h:x.Ok) (kind:Int) (hk:1≤kind∧kind≤5):aA Tryz.prog 81 [.agg [.int .i64 x.W,.int .i64 x.H,.ro (.bools x.p)],.int .i64 kind] (.str (vY kind x)) []:=by
 have kb:=NG _ _ _ h
 obtain ⟨w1,w2⟩:=h.w
 refine aA.aG Tryz.func81 rfl (by decide) (by simp [Tryz.f81]) [.tmp 4] rfl fun w0 T0 _=>?_
 simp only [Tryz.f81,au]
 unfold vY
 by_cases h5:kind=5
 ·have f9:(kind=5)=True:=eq_true h5
  rw [if_pos h5]
  rw [w1,w2] at kb
  generalize fF x.W.toNat x.H.toNat x.p 4=B at *
  (repeat' with_reducible first|intro _|refine rz ?_|refine ra ?_ ?_|omega|simp only [go_sem,f9])
  refine ah.k kb ?_
  (repeat' with_reducible first|intro _|exact dn|refine rn ?_|refine ra ?_ ?_)
  refine aT.auto 0 ?_ rfl ?_<;>simp only [go_sem,Int.natCast_succ,Post]
 ·have f9:(kind=5)=False:=eq_false h5
  have ke:=nO _ _ h.w0 h.w1 h.h1 h.wh x.p h.p kind (by omega)
  rw [if_neg h5]
  rw [w1,w2] at ke
  generalize eu x.W.toNat x.H.toNat x.p kind=B at *
  (repeat' with_reducible first|intro _|refine rz ?_|refine ra ?_ ?_|omega|simp only [go_sem,f9])
  refine ah.k ke ?_
  (repeat' with_reducible first|intro _|exact dn|refine rn ?_|refine ra ?_ ?_)
  refine aT.auto 0 ?_ rfl ?_<;>simp only [go_sem,Int.natCast_succ,Post]
theorem wU (x y:Int):dX [x,y]=if x=0 then y else x:=by
 unfold dX
 split
 ·unfold dX
  split
  ·rename_i h;rw [h];rfl
  ·rfl
 ·rfl
theorem Xy {l:List NP} {kind:Int} (h:Au l) (hk:1≤kind∧kind≤5):2≤(kC kind l).length→0<(fU (kC kind l)).length:=by
 intro hl
 cases l with
 | nil=>cases hl
 | cons x l=>
  have:=(KT hk (h.ok x List.mem_cons_self)).1
  show 0<(vY kind x++fU (kC kind l)).length
  rw [List.length_append];omega
set_option maxHeartbeats 8000000 in
theorem Pv (l:List NP) (kind:Int):aA Tryz.prog 34 [.ro (Kw l),.int .i64 kind] (.tup [.str (jT l kind).1,.int .i64 (jT l kind).2]) []:=by
 obtain ⟨R,hR⟩:∃ R,jT l kind=R:=⟨_,rfl⟩
 rw [hR]
 unfold jT at hR
 obtain ⟨E,hE⟩:∃ E,Uw l kind=E:=⟨_,rfl⟩
 rw [hE] at hR
 have hE0:=hE
 unfold Uw at hE
 refine aA.aG Tryz.func34 rfl (by decide) (by simp [Tryz.f34]) [.tmp 4,.tmp 5] rfl fun w0 T0 _=>?_
 simp only [Tryz.f34,au]
 by_cases h1:500<l.length
 ·have f1:((500:Int)<(l.length:Int))=True:=eq_true (by omega)
  rw [if_pos h1] at hE
  rw [if_pos (by omega)] at hR
  rw [←hR,←hE]
  (repeat' with_reducible first|intro _|refine rz ?_|refine ra ?_ ?_|omega|simp only [go_sem,List.length_map,f1])
  refine aT.auto 0 ?_ rfl ?_<;>simp only [go_sem,Int.natCast_succ,Post]
 have f1:((500:Int)<(l.length:Int))=False:=eq_false (by omega)
 rw [if_neg h1] at hE
 (repeat' with_reducible first|intro _|refine rz ?_|refine ra ?_ ?_|omega|simp only [go_sem,List.length_map,f1])
 refine aF.intro (fun j:Nat=>⟨77,[(20,.int .i64 j),(19,.int .i64 l.length),(18,.ro (Kw l)),(6,.own 0),(1,.int .i64 kind),(0,.ro (Kw l))],[(0,.map (((l.map NP.n).take j).map .str) (((l.map NP.n).take j).map fun _=>.bool true))],1⟩) (fun j=>j≤l.length∧Bj l j=0) (fun j=>l.length - j) 0 ?_ ⟨Nat.zero_le _,rfl⟩ fun j hj=>?_
 ·refine aK.ak rfl ?_ ?_<;>simp only [go_sem,Int.natCast_succ]
  all_goals first|rfl|exact ⟨rfl,rfl⟩|trace_state
 obtain ⟨hj1,hj2⟩:=hj
 by_cases hlt:j<l.length
 ·have f7:((j:Int)<(l.length:Int))=True:=eq_true (by omega)
  have hst:Bj l (j+1)=if Bj l j≠0 then Bj l j else if eU (l.getD j NP.zero).n=true then (if (l.getD j NP.zero).n∈(l.take j).map NP.n then 6 else VT (l.getD j NP.zero)) else 5:=rfl
  have hle:=@PI l (j+1) l.length
  have hee:=rP l hlt
  have htk:(l.map NP.n).take (j+1)=(l.map NP.n).take j++[(l.getD j NP.zero).n]:=by
   have hjl:j<(l.map NP.n).length:=by rw [List.length_map];exact hlt
   rw [List.take_succ_eq_append_getElem hjl,List.getElem_map,getD_lt hlt]
  rw [hj2,if_neg (by simp),List.map_take] at hst
  have kc:=EM (l.getD j NP.zero).W (l.getD j NP.zero).H (l.getD j NP.zero).p
  have hnp:VT (l.getD j NP.zero)=jy (l.getD j NP.zero).W (l.getD j NP.zero).H (l.getD j NP.zero).p.length:=rfl
  generalize l.getD j NP.zero=x at *
  obtain ⟨xn,xw,xh,xp⟩:=x
  dsimp only at hst hee htk kc hnp
  rw [←hnp] at kc
  generalize VT ⟨xn,xw,xh,xp⟩=B at *
  have kn:=zT xn
  (repeat' with_reducible first|intro _|refine rz ?_|refine ra ?_ ?_|omega|simp only [go_sem,f7,hee,dw,List.length_map])
  refine ah.k kn ?_
  cases hn:eU xn with
  | false=>
   rw [hn,if_neg (by decide)] at hst
   have h0:=hle (by rw [hst];decide) (by omega)
   rw [h0,hst,if_pos (by decide)] at hE
   rw [if_pos (by omega)] at hR
   rw [←hR,←hE]
   have kw:=nS true 5
   rw [if_pos rfl] at kw
   have kf:=oH [5,B] (by simp)
   rw [wU,if_neg (by decide)] at kf
   (repeat' with_reducible first|intro _|exact dn|refine rn ?_|refine ra ?_ ?_)
   refine ah.k kw ?_
   (repeat' with_reducible first|intro _|exact dn|refine rn ?_|refine ra ?_ ?_)
   refine ah.k kc ?_
   (repeat' with_reducible first|intro _|exact dn|refine rn ?_|refine ra ?_ ?_)
   refine ah.k kf ?_
   (repeat' with_reducible first|intro _|exact dn|refine rn ?_|refine ra ?_ ?_)
   refine aT.auto 0 ?_ rfl ?_<;>simp only [go_sem,Int.natCast_succ,Post]
  | true=>
   rw [hn,if_pos rfl] at hst
   have kw:=nS false 5
   rw [if_neg (by decide)] at kw
   have g:=nV ((l.map NP.n).take j) xn
   by_cases hd:xn∈(l.map NP.n).take j
   ·rw [if_pos hd] at hst
    have h0:=hle (by rw [hst];decide) (by omega)
    rw [h0,hst,if_pos (by decide)] at hE
    rw [if_pos (by omega)] at hR
    rw [←hR,←hE]
    rw [decide_eq_true hd] at g
    have kf:=oH [6,B] (by simp)
    rw [wU,if_neg (by decide)] at kf
    (repeat' with_reducible first|intro _|exact dn|refine rn ?_|refine ra ?_ ?_)
    refine ah.k kw ?_
    (repeat' with_reducible first|intro _|refine rz ?_|refine ra ?_ ?_|omega|simp only [go_sem,g])
    refine ah.k kc ?_
    (repeat' with_reducible first|intro _|exact dn|refine rn ?_|refine ra ?_ ?_)
    refine ah.k kf ?_
    (repeat' with_reducible first|intro _|exact dn|refine rn ?_|refine ra ?_ ?_)
    refine aT.auto 0 ?_ rfl ?_<;>simp only [go_sem,Int.natCast_succ,Post]
   ·rw [if_neg hd] at hst
    rw [decide_eq_false hd] at g
    have hins:yF ((l.map NP.n).take j) xn=(l.map NP.n).take (j+1):=by unfold yF;rw [if_neg hd,htk]
    have kf:=oH [0,B] (by simp)
    rw [wU,if_pos rfl] at kf
    (repeat' with_reducible first|intro _|exact dn|refine rn ?_|refine ra ?_ ?_)
    refine ah.k kw ?_
    (repeat' with_reducible first|intro _|refine rz ?_|refine ra ?_ ?_|omega|simp only [go_sem,g])
    refine ah.k kc ?_
    (repeat' with_reducible first|intro _|exact dn|refine rn ?_|refine ra ?_ ?_)
    refine ah.k kf ?_
    by_cases h0:B=0
    ·have f8:(B=0)=True:=eq_true h0
     (repeat' with_reducible first|intro _|refine rz ?_|refine ra ?_ ?_|omega|simp only [go_sem,f8])
     refine ⟨j+1,aK.ak rfl ?_ ?_,⟨by omega,by rw [hst];exact h0⟩,by omega⟩<;>simp only [go_sem,Int.natCast_succ,hins]
    ·have f8:(B=0)=False:=eq_false h0
     have h9:=hle (by rw [hst];exact h0) (by omega)
     rw [h9,hst,if_pos h0] at hE
     rw [if_pos (by omega)] at hR
     rw [←hR,←hE]
     (repeat' with_reducible first|intro _|refine rz ?_|refine ra ?_ ?_|omega|simp only [go_sem,f8])
     refine aT.auto 0 ?_ rfl ?_<;>simp only [go_sem,Int.natCast_succ,Post]
 have e:j=l.length:=by omega
 subst e
 have f7:((l.length:Int)<(l.length:Int))=False:=eq_false (by omega)
 rw [if_neg (by rw [hj2];simp)] at hE
 by_cases hk:1≤kind∧kind≤5
 rotate_left
 ·rw [if_neg hk] at hE
  rw [if_pos (by omega)] at hR
  rw [←hR,←hE]
  by_cases hk1:kind<1
  ·have f8:(kind<1)=True:=eq_true hk1
   (repeat' with_reducible first|intro _|refine rz ?_|refine ra ?_ ?_|omega|simp only [go_sem,f7,f8])
   refine aT.auto 0 ?_ rfl ?_<;>simp only [go_sem,Int.natCast_succ,Post]
  ·have f8:(kind<1)=False:=eq_false hk1
   have f9:(5<kind)=True:=eq_true (by omega)
   (repeat' with_reducible first|intro _|refine rz ?_|refine ra ?_ ?_|omega|simp only [go_sem,f7,f8,f9])
   refine aT.auto 0 ?_ rfl ?_<;>simp only [go_sem,Int.natCast_succ,Post]
 rw [if_pos hk] at hE
 rw [←hE] at hE0
 obtain ⟨hP,hl5,_⟩:=PL hE0
 rw [if_neg (by omega)] at hR
 have f8:(kind<1)=False:=eq_false (by omega)
 have f9:(5<kind)=False:=eq_false (by omega)
 (repeat' with_reducible first|intro _|refine rz ?_|refine ra ?_ ?_|omega|simp only [go_sem,f7,f8,f9,List.length_map])
 refine aF.intro (fun i:Nat=>⟨77,[(58,.int .i64 i),(57,.int .i64 l.length),(56,.ro (Kw l)),(10,.own 0),(1,.int .i64 kind),(0,.ro (Kw l))],[(0,.row 9 (.strs ((kC kind (l.take i)).map Prod.snd)))],1⟩) (fun i=>i≤l.length) (fun i=>l.length - i) 0 ?_ (Nat.zero_le _) fun i hi=>?_
 ·refine aK.ak rfl ?_ ?_<;>simp only [go_sem,Int.natCast_succ]
  all_goals first|rfl|exact ⟨rfl,rfl⟩|trace_state
 have hcl:((kC kind (l.take i)).map Prod.snd).length=i:=by rw [List.length_map,qZ,List.length_take];omega
 by_cases hlt:i<l.length
 ·have f7:((i:Int)<(l.length:Int))=True:=eq_true (by omega)
  have hee:=rP l hlt
  have hst:=congrArg (List.map Prod.snd) (KP kind hlt)
  rw [List.map_append] at hst
  have hxo:=hP.ok (l.getD i NP.zero) (by rw [getD_lt hlt];exact List.getElem_mem hlt)
  have kd:=OL (l.getD i NP.zero) hxo kind hk
  generalize hx:l.getD i NP.zero=x at *
  generalize hD:vY kind x=D at *
  obtain ⟨xn,xw,xh,xp⟩:=x
  dsimp only at hee kd
  replace hst:(kC kind (l.take (i+1))).map Prod.snd=(kC kind (l.take i)).map Prod.snd++[D]:=hst
  generalize (kC kind (l.take i)).map Prod.snd=A at *
  (repeat' with_reducible first|intro _|refine rz ?_|refine ra ?_ ?_|omega|simp only [go_sem,f7,hee,dw,List.length_map])
  refine ah.k kd ?_
  (repeat' with_reducible first|intro _|refine rz ?_|refine ra ?_ ?_|omega|simp only [go_sem,hcl])
  refine ⟨i+1,aK.ak rfl ?_ ?_,by omega,by omega⟩<;>simp only [go_sem,Int.natCast_succ,hst]
 have e:i=l.length:=by omega
 subst e
 have f7:((l.length:Int)<(l.length:Int))=False:=eq_false (by omega)
 rw [List.take_length]
 have kp:=Px (kC kind l) (l.map NP.toQ) (by unfold kC;rw [List.map_map,List.map_map];rfl) (UY hP hl5 hk) (Xy hP hk)
 rw [X9] at kp
 generalize lS (kC kind l)=A at *
 (repeat' with_reducible first|intro _|refine rz ?_|refine ra ?_ ?_|omega|simp only [go_sem,f7])
 refine ah.k kp ?_
 by_cases h4:4194304<A.length
 ·have f8:((4194304:Int)<(A.length:Int))=True:=eq_true (by omega)
  rw [if_pos h4] at hR
  rw [←hR]
  (repeat' with_reducible first|intro _|refine rz ?_|refine ra ?_ ?_|omega|simp only [go_sem,f8])
  refine aT.auto 0 ?_ rfl ?_<;>simp only [go_sem,Int.natCast_succ,Post]
 ·have f8:((4194304:Int)<(A.length:Int))=False:=eq_false (by omega)
  rw [if_neg h4] at hR
  rw [←hR]
  (repeat' with_reducible first|intro _|refine rz ?_|refine ra ?_ ?_|omega|simp only [go_sem,f8])
  refine aT.auto 0 ?_ rfl ?_<;>simp only [go_sem,Int.natCast_succ,Post]
end Go.Fv.H
/- The reference's ListOf: the walk. -/
namespace Go.Fv.H
open Go Go.Proofs
def en0 (l:List (Bytes × Nat)):List En:=l.map fun x=>⟨x.1,0,x.2⟩
theorem Cb (l:List (Bytes × Nat)):(en0 l).length=l.length:=List.length_map _
def xg (l:List (Bytes × Nat)) (a j:Nat):List En:=(fG l a).take j++(en0 l).drop j
theorem Mc (l:List (Bytes × Nat)) (a:Nat) {j:Nat} (h:j≤l.length):(xg l a j).length=l.length:=by
 unfold xg
 rw [List.length_append,List.length_take,List.length_drop,eX,Cb];omega
theorem Ll:∀ (l:List (Bytes × Nat)) (a j:Nat),j<l.length→(fG l a).getD j En.zero=⟨(l.getD j ([],0)).1,a+fE (l.take j),(l.getD j ([],0)).2⟩
 | x::l,a,0,_=>rfl
 | x::l,a,j+1,h=>by
  have ih:=Ll l (a+x.2) j (by simpa using h)
  show (fG l (a+x.2)).getD j En.zero=_
  rw [ih]
  have e:a+x.2+fE (l.take j)=a+fE ((x::l).take (j+1)):=by unfold fE;simp;omega
  rw [e];rfl
theorem X5 (l:List (Bytes × Nat)) (a:Nat) {j:Nat} (h:j<l.length):(xg l a j).getD j En.zero=⟨(l.getD j ([],0)).1,0,(l.getD j ([],0)).2⟩:=by
 unfold xg
 have h1:=eX l a
 rw [List.getD_eq_getElem?_getD,List.getElem?_append_right (by rw [List.length_take];omega),List.length_take,List.getElem?_drop,h1,Nat.min_eq_left (by omega),Nat.sub_self,Nat.add_zero]
 unfold en0
 rw [List.getElem?_map,List.getD_eq_getElem?_getD]
 simp [h]
theorem VI (l:List (Bytes × Nat)) (a:Nat) {j:Nat} (h:j<l.length):(xg l a j).set j ⟨(l.getD j ([],0)).1,a+fE (l.take j),(l.getD j ([],0)).2⟩=xg l a (j+1):=by
 have h1:=eX l a
 have h2:=Cb l
 rw [←Ll l a j h]
 have hj:j<(fG l a).length:=by omega
 have e2:(fG l a).getD j En.zero=(fG l a)[j]:=by simp [List.getD_eq_getElem?_getD,hj]
 rw [e2]
 unfold xg
 rw [List.set_append_right _ _ (by rw [List.length_take];omega),List.length_take,Nat.min_eq_left (by omega),Nat.sub_self,List.drop_eq_getElem_cons (show j<(en0 l).length by omega),List.set_cons_zero,List.take_succ_eq_append_getElem hj,List.append_assoc]
 rfl
theorem Uo (l:List (Bytes × Nat)) {j:Nat} (h:j<l.length):fE (l.take (j+1))=fE (l.take j)+(l.getD j ([],0)).2:=by
 rw [List.take_succ_eq_append_getElem h,Ah]
 simp [List.getD_eq_getElem?_getD,h]
theorem Yq (l:List (Bytes × Nat)) (j:Nat):fE (l.take j)≤fE l:=by
 conv=>rhs;rw [←List.take_append_drop j l]
 unfold fE
 rw [List.map_append,List.sum_append];omega
set_option maxHeartbeats 8000000 in
theorem PU (s:Bytes) (hs:s.length≤140737488351232):aA Tryz.prog 40 [.str s] (.tup [.own 0,.int .i64 (bU s).2]) [(0,.row 75 (GZ (bU s).1))]:=by
 refine aA.aG Tryz.func40 rfl (by decide) (by simp [Tryz.f40]) [.tmp 2,.tmp 3] rfl fun w0 T0 _=>?_
 simp only [Tryz.f40,au]
 by_cases h1:4194304<s.length
 ·have f1:((4194304:Int)<(s.length:Int))=True:=eq_true (by omega)
  have e:bU s=([],4):=by unfold bU;rw [if_pos h1]
  rw [e]
  (repeat' with_reducible first|intro _|refine rz ?_|refine ra ?_ ?_|omega|simp only [go_sem,f1])
  refine aT.auto 1 ?_ rfl ?_<;>simp only [go_sem,Int.natCast_succ,Post]
 have f1:((4194304:Int)<(s.length:Int))=False:=eq_false (by omega)
 have kt1:fA Tryz.prog 91 [.int .i64 4,.ptr 0 0,.ptr 1 0,.ptr 2 0] [(0,.box 9 [.str s]),(1,.box 3 [.int .i64 0]),(2,.box 4 [.bool false])] 3 (.str (iR s 0 false 4).t) [(0,.box 9 [.str s]),(1,.box 3 [.int .i64 (iR s 0 false 4).a]),(2,.box 4 [.bool (iR s 0 false 4).sh])]:=Fh s 0 false 4 (by omega) (by omega) (by omega)
 by_cases h2:s.length<4
 ·have e:bU s=([],8):=by unfold bU;rw [if_neg h1,if_pos (.inl (by omega))]
  have e4:iR s 0 false 4=⟨List.replicate 4 0,0,true⟩:=by unfold iR;rw [if_pos (by omega)]
  rw [e4] at kt1
  rw [e]
  have f3:((List.replicate 4 0:Bytes)=[70,66,65,49])=False:=eq_false (by decide)
  (repeat' with_reducible first|intro _|refine rz ?_|refine ra ?_ ?_|omega|simp only [go_sem,f1])
  refine ah.i [0,2,3] kt1 3 ?_
  (repeat' with_reducible first|intro _|refine rz ?_|refine ra ?_ ?_|omega|simp only [go_sem,f3])
  refine aT.auto 1 ?_ rfl ?_<;>simp only [go_sem,Int.natCast_succ,Post]
 have e4:iR s 0 false 4=⟨s.take 4,4,false⟩:=by unfold iR;rw [if_neg (by omega)];rfl
 rw [e4] at kt1
 by_cases h3:s.take 4=wZ
 rotate_left
 ·have e:bU s=([],8):=by unfold bU;rw [if_neg h1,if_pos (.inr h3)]
  have f3:(s.take 4=[70,66,65,49])=False:=eq_false h3
  rw [e]
  (repeat' with_reducible first|intro _|refine rz ?_|refine ra ?_ ?_|omega|simp only [go_sem,f1])
  refine ah.i [0,2,3] kt1 3 ?_
  (repeat' with_reducible first|intro _|refine rz ?_|refine ra ?_ ?_|omega|simp only [go_sem,f3])
  refine aT.auto 1 ?_ rfl ?_<;>simp only [go_sem,Int.natCast_succ,Post]
 have f3:(s.take 4=[70,66,65,49])=True:=eq_true h3
 have kt2:fA Tryz.prog 91 [.int .i64 2,.ptr 0 0,.ptr 1 0,.ptr 2 0] [(0,.box 9 [.str s]),(1,.box 3 [.int .i64 4]),(2,.box 4 [.bool false])] 3 (.str (iR s 4 false 2).t) [(0,.box 9 [.str s]),(1,.box 3 [.int .i64 (iR s 4 false 2).a]),(2,.box 4 [.bool (iR s 4 false 2).sh])]:=Fh s 4 false 2 (by omega) (by omega) (by omega)
 have kb:=bC (iR s 4 false 2).t (by have:=JL s 4 false 2;omega)
 by_cases h6:s.length<6
 ·have e:bU s=([],8):=by unfold bU;rw [if_neg h1,if_pos (.inl h6)]
  have e5:iR s 4 false 2=⟨List.replicate 2 0,4,true⟩:=by unfold iR;rw [if_pos (by omega)]
  rw [e5] at kt2 kb
  have e6:((aW (List.replicate 2 0):Nat):Int)=0:=by decide
  rw [e6] at kb
  rw [e]
  (repeat' with_reducible first|intro _|refine rz ?_|refine ra ?_ ?_|omega|simp only [go_sem,f1])
  refine ah.i [0,2,3] kt1 3 ?_
  (repeat' with_reducible first|intro _|refine rz ?_|refine ra ?_ ?_|omega|simp only [go_sem,f3])
  refine ah.i [0,2,3] kt2 3 ?_
  (repeat' with_reducible first|intro _|exact dn|refine rn ?_|refine ra ?_ ?_)
  refine ah.k kb ?_
  (repeat' with_reducible first|intro _|exact dn|refine rn ?_|refine ra ?_ ?_)
  refine aF.intro (fun _:Nat=>⟨104,[(24,.int .i64 0),(23,.int .i64 0),(7,.own 3),(6,.fn 91 [.ptr 0 0,.ptr 1 0,.ptr 2 0]),(5,.ptr 2 0),(4,.ptr 1 0),(1,.ptr 0 0)],[(0,.box 9 [.str s]),(1,.box 3 [.int .i64 4]),(2,.box 4 [.bool true]),(3,.row 75 (GZ []))],4⟩) (fun _=>True) (fun i=>i) 0 ?_ trivial fun i _=>?_
  ·refine aK.ak rfl ?_ ?_<;>simp only [go_sem,Int.natCast_succ]
   all_goals first|rfl|exact ⟨rfl,rfl⟩|trace_state
  (repeat' with_reducible first|intro _|exact dn|refine rn ?_|refine ra ?_ ?_)
  refine aT.auto 1 ?_ rfl ?_<;>simp only [go_sem,Int.natCast_succ,Post]
 have e5:iR s 4 false 2=⟨(s.drop 4).take 2,6,false⟩:=by unfold iR;rw [if_neg (by omega)]
 rw [e5] at kt2 kb
 have hm:=Zp (s:=(s.drop 4).take 2) (List.length_take_le _ _)
 obtain ⟨M,hM⟩:∃ M,aW ((s.drop 4).take 2)=M:=⟨_,rfl⟩
 dsimp only at kb
 rw [hM] at kb hm
 (repeat' with_reducible first|intro _|refine rz ?_|refine ra ?_ ?_|omega|simp only [go_sem,f1])
 refine ah.i [0,2,3] kt1 3 ?_
 (repeat' with_reducible first|intro _|refine rz ?_|refine ra ?_ ?_|omega|simp only [go_sem,f3])
 refine ah.i [0,2,3] kt2 3 ?_
 (repeat' with_reducible first|intro _|exact dn|refine rn ?_|refine ra ?_ ?_)
 refine ah.k kb ?_
 (repeat' with_reducible first|intro _|exact dn|refine rn ?_|refine ra ?_ ?_)
 have hls:=fun i=>RG (s:=s) (by omega) i
 have hN:YG s=M:=hM
 refine aF.intro (fun x:Nat × LS=>⟨104,[(24,.int .i64 x.1),(23,.int .i64 M),(7,.own 3),(6,.fn 91 [.ptr 0 0,.ptr 1 0,.ptr 2 0]),(5,.ptr 2 0),(4,.ptr 1 0),(1,.ptr 0 0)],[(0,.box 9 [.str s]),(1,.box 3 [.int .i64 x.2.a]),(2,.box 4 [.bool x.2.sh]),(3,.row 75 (GZ (en0 x.2.l)))],4⟩)
  (fun x=>x.1≤M∧x.2.a≤s.length∧x.2.l.length=x.1∧(x.2.sh=false→x.2=ls s x.1)∧(x.2.sh=true→(vZ s).sh=true)) (fun x=>M - x.1) (0,⟨[],6,false⟩) ?_ ⟨Nat.zero_le _,(show 6≤s.length by omega),rfl,fun _=>rfl,fun h=>by cases h⟩ fun x hi=>?_
 ·refine aK.ak rfl ?_ ?_<;>simp only [go_sem,Int.natCast_succ]
  all_goals first|rfl|exact ⟨rfl,rfl⟩|trace_state
 obtain ⟨i,l,a,sh⟩:=x
 obtain ⟨hiM,ha1,hlen,hno,hyes⟩:=hi
 dsimp only at hiM ha1 hlen hno hyes
 have hel:=Cb l
 by_cases hlt:i<M
 ·have f4:((i:Int)<(M:Int))=True:=eq_true (by omega)
  cases sh with
  | true=>
   have e:bU s=([],8):=by
    unfold bU
    rw [if_neg h1,if_neg (by rw [h3];simp;omega),if_pos (hyes rfl)]
   rw [e]
   (repeat' with_reducible first|intro _|refine rz ?_|refine ra ?_ ?_|omega|simp only [go_sem,f4])
   refine aT.auto 1 ?_ rfl ?_<;>simp only [go_sem,Int.natCast_succ,Post]
  | false=>
   have hq:=hno rfl
   have hst:ls s (i+1)=⟨(ls s i).l++[((AO s (ls s i).a (ls s i).sh).n,(AO s (ls s i).a (ls s i).sh).k)],(AO s (ls s i).a (ls s i).sh).a,(AO s (ls s i).a (ls s i).sh).sh⟩:=rfl
   have hsM:=@VD s (i+1)
   rw [←hq] at hst
   rw [hst] at hsM
   dsimp only at hst hsM
   have hR:=XG s a
   have hRd:U8 s a=⟨(iR s (iR s a false 1).a (iR s a false 1).sh (aW (iR s a false 1).t)).t,aW (iR s (iR s (iR s a false 1).a (iR s a false 1).sh (aW (iR s a false 1).t)).a (iR s (iR s a false 1).a (iR s a false 1).sh (aW (iR s a false 1).t)).sh 4).t,(iR s (iR s (iR s a false 1).a (iR s a false 1).sh (aW (iR s a false 1).t)).a (iR s (iR s a false 1).a (iR s a false 1).sh (aW (iR s a false 1).t)).sh 4).a,(iR s (iR s (iR s a false 1).a (iR s a false 1).sh (aW (iR s a false 1).t)).a (iR s (iR s a false 1).a (iR s a false 1).sh (aW (iR s a false 1).t)).sh 4).sh⟩:=rfl
   rw [hRd] at hR
   have kt1:fA Tryz.prog 91 [.int .i64 1,.ptr 0 0,.ptr 1 0,.ptr 2 0] [(0,.box 9 [.str s]),(1,.box 3 [.int .i64 a]),(2,.box 4 [.bool false])] 3 (.str (iR s a false 1).t) [(0,.box 9 [.str s]),(1,.box 3 [.int .i64 (iR s a false 1).a]),(2,.box 4 [.bool (iR s a false 1).sh])]:=Fh s a false 1 (by omega) ha1 (by omega)
   have b1:=WX (s:=s) false 1 ha1
   have l1:=JL s a false 1
   have n1:=num1 l1
   have kb1:=bC (iR s a false 1).t (by omega)
   generalize iR s a false 1=X at *
   have kt2:=Fh s X.a X.sh (aW X.t) (by omega) b1 (by omega)
   have b2:=WX (s:=s) X.sh (aW X.t) b1
   generalize iR s X.a X.sh (aW X.t)=Y at *
   have kt3:fA Tryz.prog 91 [.int .i64 4,.ptr 0 0,.ptr 1 0,.ptr 2 0] [(0,.box 9 [.str s]),(1,.box 3 [.int .i64 Y.a]),(2,.box 4 [.bool Y.sh])] 3 (.str (iR s Y.a Y.sh 4).t) [(0,.box 9 [.str s]),(1,.box 3 [.int .i64 (iR s Y.a Y.sh 4).a]),(2,.box 4 [.bool (iR s Y.a Y.sh 4).sh])]:=Fh s Y.a Y.sh 4 (by omega) b2 (by omega)
   have b3:=WX (s:=s) Y.sh 4 b2
   have l3:=JL s Y.a Y.sh 4
   have kb3:=bC (iR s Y.a Y.sh 4).t l3
   have n3:=aav l3
   generalize iR s Y.a Y.sh 4=Z at *
   dsimp only at hR
   (repeat' with_reducible first|intro _|refine rz ?_|refine ra ?_ ?_|omega|simp only [go_sem,f4])
   refine ah.i [0,1,2] kt1 3 ?_
   (repeat' with_reducible first|intro _|exact dn|refine rn ?_|refine ra ?_ ?_)
   refine ah.k kb1 ?_
   (repeat' with_reducible first|intro _|exact dn|refine rn ?_|refine ra ?_ ?_)
   refine ah.i [0,1,2] kt2 3 ?_
   (repeat' with_reducible first|intro _|exact dn|refine rn ?_|refine ra ?_ ?_)
   refine ah.i [0,1,2] kt3 3 ?_
   (repeat' with_reducible first|intro _|exact dn|refine rn ?_|refine ra ?_ ?_)
   refine ah.k kb3 ?_
   (repeat' with_reducible first|intro _|exact dn|refine rn ?_|refine ra ?_ ?_)
   refine ⟨(i+1,⟨l++[(Y.t,aW Z.t)],Z.a,Z.sh⟩),aK.ak rfl ?_ ?_,⟨by omega,b3,by simp [hlen],fun hz=>?_,fun hz=>?_⟩,by dsimp only;omega⟩
   ·simp only [go_sem,Int.natCast_succ]
   ·simp only [go_sem,Int.natCast_succ]
    all_goals first|rfl|(unfold en0;rw [List.map_append,List.map_append];rfl)
   ·dsimp only at hz ⊢
    rw [hst,←hR.2 hz]
   ·have hz2:Z.sh=true:=hz
    rw [hz2] at hR
    have h:=hsM hR.1.symm (M - (i+1))
    rw [show i+1+(M - (i+1))=M by omega] at h
    unfold vZ;rw [hN];exact h
 have e:i=M:=by omega
 subst e
 have f4:((i:Int)<(i:Int))=False:=eq_false (by omega)
 cases sh with
 | true=>
  have e:bU s=([],8):=by
   unfold bU
   rw [if_neg h1,if_neg (by rw [h3];simp;omega),if_pos (hyes rfl)]
  rw [e]
  (repeat' with_reducible first|intro _|refine rz ?_|refine ra ?_ ?_|omega|simp only [go_sem,f4])
  refine aT.auto 1 ?_ rfl ?_<;>simp only [go_sem,Int.natCast_succ,Post]
 | false=>
 have hq:=hno rfl
 have hO:vZ s=ls s i:=by unfold vZ;rw [hN]
 obtain ⟨_,hk,ha0,_⟩:=hls i
 have hL:bU s=if a+fE l+8≠s.length then ([],8) else if cO (s.take a)≠s.drop (a+fE l) then ([],14) else if zk (l.map Prod.fst) l.length≠0 then ([],zk (l.map Prod.fst) l.length) else (fG l a,0):=by
  unfold bU
  rw [if_neg h1,if_neg (by rw [h3];simp;omega),hO,←hq,if_neg (fun h=>by cases h)]
 rw [←hq] at hk ha0
 dsimp only at hk ha0
 clear hls hO hN hM hq hno hyes kt1 kt2 kb
 have htk0:List.take (a - 0) s=s.take a:=rfl
 (repeat' with_reducible first|intro _|refine rz ?_|refine ra ?_ ?_|omega|simp only [go_sem,f4,htk0])
 rw [hel]
 refine aF.intro (fun j:Nat=>⟨104,[(47,.int .i64 j),(46,.int .i64 l.length),(45,.own 2),(9,.str (s.take a)),(7,.own 2),(4,.ptr 1 0),(1,.ptr 0 0)],[(0,.box 9 [.str s]),(1,.box 3 [.int .i64 (a+fE (l.take j):Nat)]),(2,.row 75 (GZ (xg l a j)))],3⟩) (fun j=>j≤l.length∧a+fE (l.take j)≤s.length) (fun j=>l.length - j) 0 ?_ ⟨Nat.zero_le _,ha1⟩ fun j hj=>?_
 ·refine aK.ak rfl ?_ ?_<;>simp only [go_sem,Int.natCast_succ]
  all_goals first|rfl|exact ⟨rfl,rfl⟩|trace_state
 obtain ⟨hj1,hj2⟩:=hj
 have hml:=Mc l a hj1
 by_cases hlt:j<l.length
 ·have f7:((j:Int)<(l.length:Int))=True:=eq_true (by omega)
  have hml2:=Mc l a (show j+1≤l.length by omega)
  have hat:=X5 l a hlt
  have hset:=VI l a hlt
  have hee:=pJ (xg l a j) (i:=j) (by omega)
  have hee2:=pJ (xg l a (j+1)) (i:=j) (by omega)
  have hsk:=Uo l hlt
  have hsl:=Yq l (j+1)
  rw [hat] at hee
  rw [←hset,List.getD_eq_getElem?_getD (l:=(xg l a j).set _ _),List.getElem?_set_self (by omega)] at hee2
  generalize l.getD j ([],0)=x at *
  obtain ⟨xn,xk⟩:=x
  dsimp only [Option.getD_some] at hset hee hee2 hsk
  obtain ⟨z,hz⟩:∃ z,a+fE (l.take j)=z:=⟨_,rfl⟩
  have hrow:(List.map En.av (xg l a j)).set j [.str xn,.int .i64 (z:Int),.int .i64 xk]=(xg l a (j+1)).map En.av:=by rw [←hset,List.map_set,hz];rfl
  rw [hset,hz] at hee2
  have hz2:z+xk=a+fE (l.take (j+1)):=by omega
  rw [hz] at hj2 ⊢
  by_cases h5:s.length<z+xk
  ·have f8:((s.length:Int) - (z:Int)<(xk:Int))=True:=eq_true (by omega)
   rw [if_pos (by omega)] at hL
   rw [hL]
   (repeat' with_reducible first|intro _|refine rz ?_|refine ra ?_ ?_|omega|simp only [go_sem,f7,hee,hml,dw,hrow])
   refine aN.lex [] [] (by kernel_rfl) (by kernel_rfl) ?_
   (repeat' with_reducible first|intro _|refine rz ?_|refine ra ?_ ?_|omega|simp only [go_sem,hee2,hml2,dw,f8])
   refine aT.auto 1 ?_ rfl ?_<;>simp only [go_sem,Int.natCast_succ,Post]
  ·have f8:((s.length:Int) - (z:Int)<(xk:Int))=False:=eq_false (by omega)
   have e1:(z:Int)+(xk:Int)=((z+xk:Nat):Int):=by omega
   (repeat' with_reducible first|intro _|refine rz ?_|refine ra ?_ ?_|omega|simp only [go_sem,f7,hee,hml,dw,hrow])
   refine aN.lex [] [] (by kernel_rfl) (by kernel_rfl) ?_
   (repeat' with_reducible first|intro _|refine rz ?_|refine ra ?_ ?_|omega|simp only [go_sem,hee2,hml2,dw,f8])
   refine aN.lex [7] [] (by kernel_rfl) (by kernel_rfl) ?_
   (repeat' with_reducible first|intro _|refine rz ?_|refine ra ?_ ?_|omega|simp only [go_sem,hee2,hml2,dw,e1])
   refine ⟨j+1,aK.ak rfl ?_ ?_,⟨by omega,by omega⟩,by omega⟩<;>simp only [go_sem,Int.natCast_succ,hz2]
 have e:j=l.length:=by omega
 subst e
 rw [List.take_length] at hj2 ⊢
 have f7:((l.length:Int)<(l.length:Int))=False:=eq_false (by omega)
 have hmx:xg l a l.length=fG l a:=by
  unfold xg
  rw [List.take_of_length_le (by rw [eX];exact Nat.le_refl _),List.drop_of_length_le (by rw [Cb];exact Nat.le_refl _),List.append_nil]
 rw [hmx]
 by_cases h5:a+fE l+8=s.length
 rotate_left
 ·have f5:((s.length:Int) - ((a+fE l:Nat):Int)=8)=False:=eq_false (by omega)
  rw [if_pos h5] at hL
  rw [hL]
  (repeat' with_reducible first|intro _|refine rz ?_|refine ra ?_ ?_|omega|simp only [go_sem,f7,f5])
  refine aT.auto 1 ?_ rfl ?_<;>simp only [go_sem,Int.natCast_succ,Post]
 have f5:((s.length:Int) - ((a+fE l:Nat):Int)=8)=True:=eq_true (by omega)
 rw [if_neg (fun h=>h h5)] at hL
 have ks:=iy (s.take a) (by rw [List.length_take];omega)
 have e2:(s.drop (a+fE l)).take (s.length - (a+fE l))=s.drop (a+fE l):=List.take_of_length_le (by rw [List.length_drop];exact Nat.le_refl _)
 generalize hS:cO (s.take a)=S at *
 obtain ⟨D,hD⟩:∃ D,s.drop (a+fE l)=D:=⟨_,rfl⟩
 rw [hD] at hL e2
 (repeat' with_reducible first|intro _|refine rz ?_|refine ra ?_ ?_|omega|simp only [go_sem,f7,f5])
 refine aN.lex [] [] (by kernel_rfl) (by kernel_rfl) ?_
 (repeat' with_reducible first|intro _|refine rz ?_|refine ra ?_ ?_|omega|simp only [go_sem,e2,hD])
 (refine QV.intro (.str S) ?_ ?_;focus ((repeat' with_reducible first|intro _|exact dn|refine rn ?_|refine ra ?_ ?_);refine ah.k (ks) ?_;(repeat' with_reducible first|intro _|exact dn|refine rn ?_|refine ra ?_ ?_)))
 by_cases h6:S=D
 rotate_left
 ·have f6:(S=D)=False:=eq_false h6
  rw [if_pos h6] at hL
  rw [hL]
  (repeat' with_reducible first|intro _|refine rz ?_|refine ra ?_ ?_|omega|simp only [go_sem,e2,hD,f6])
  refine aT.auto 1 ?_ rfl ?_<;>simp only [go_sem,Int.natCast_succ,Post]
 have f6:(S=D)=True:=eq_true h6
 rw [if_neg (fun h=>h h6)] at hL
 (repeat' with_reducible first|intro _|refine rz ?_|refine ra ?_ ?_|omega|simp only [go_sem,e2,hD,f6])
 have hen:=eX l a
 rw [hen]
 have hnl:(l.map Prod.fst).length=l.length:=List.length_map _
 refine aF.intro (fun j:Nat=>⟨104,[(87,.int .i64 j),(86,.int .i64 l.length),(85,.own 0),(11,.own 1),(7,.own 0)],[(0,.row 75 (GZ (fG l a))),(1,.map (((l.map Prod.fst).take j).map .str) (((l.map Prod.fst).take j).map fun _=>.bool true))],2⟩) (fun j=>j≤l.length∧zk (l.map Prod.fst) j=0) (fun j=>l.length - j) 0 ?_ ⟨Nat.zero_le _,rfl⟩ fun j hj=>?_
 ·refine aK.ak rfl ?_ ?_<;>simp only [go_sem,Int.natCast_succ]
  all_goals first|rfl|exact ⟨rfl,rfl⟩|trace_state
 obtain ⟨hj1,hj3⟩:=hj
 by_cases hlt:j<l.length
 ·have f9:((j:Int)<(l.length:Int))=True:=eq_true (by omega)
  have hst:zk (l.map Prod.fst) (j+1)=if zk (l.map Prod.fst) j≠0 then zk (l.map Prod.fst) j else if eU ((l.map Prod.fst).getD j [])=true then (if (l.map Prod.fst).getD j []∈(l.map Prod.fst).take j then 6 else 0) else 5:=rfl
  have hle:=@VP (l.map Prod.fst) (j+1) l.length
  have hnm:=QX l a j
  have hee:=pJ (fG l a) (i:=j) (by omega)
  have htk:(l.map Prod.fst).take (j+1)=(l.map Prod.fst).take j++[(l.map Prod.fst).getD j []]:=by
   have hjl:j<(l.map Prod.fst).length:=by omega
   rw [List.take_succ_eq_append_getElem hjl,getD_lt hjl]
  rw [hj3,if_neg (by simp),←hnm] at hst
  rw [←hnm] at htk
  generalize (fG l a).getD j En.zero=x at *
  obtain ⟨xn,xa,xk⟩:=x
  dsimp only at hst hee htk
  have kn:=zT xn
  (repeat' with_reducible first|intro _|refine rz ?_|refine ra ?_ ?_|omega|simp only [go_sem,f9,hee,hen,dw])
  refine ah.k kn ?_
  cases hn:eU xn with
  | false=>
   rw [hn,if_neg (by decide)] at hst
   have h0:=hle (by rw [hst];decide) (by omega)
   rw [h0,hst,if_pos (by decide)] at hL
   rw [hL]
   (repeat' with_reducible first|intro _|exact dn|refine rn ?_|refine ra ?_ ?_)
   refine aT.auto 1 ?_ rfl ?_<;>simp only [go_sem,Int.natCast_succ,Post]
  | true=>
   rw [hn,if_pos rfl] at hst
   have g:=nV ((l.map Prod.fst).take j) xn
   by_cases hd:xn∈(l.map Prod.fst).take j
   ·rw [if_pos hd] at hst
    have h0:=hle (by rw [hst];decide) (by omega)
    rw [h0,hst,if_pos (by decide)] at hL
    rw [hL]
    rw [decide_eq_true hd] at g
    (repeat' with_reducible first|intro _|refine rz ?_|refine ra ?_ ?_|omega|simp only [go_sem,g])
    refine aT.auto 1 ?_ rfl ?_<;>simp only [go_sem,Int.natCast_succ,Post]
   ·rw [if_neg hd] at hst
    rw [decide_eq_false hd] at g
    have hins:yF ((l.map Prod.fst).take j) xn=(l.map Prod.fst).take (j+1):=by unfold yF;rw [if_neg hd,htk]
    (repeat' with_reducible first|intro _|refine rz ?_|refine ra ?_ ?_|omega|simp only [go_sem,g])
    refine ⟨j+1,aK.ak rfl ?_ ?_,⟨by omega,hst⟩,by omega⟩<;>simp only [go_sem,Int.natCast_succ,hins]
 ·have e:j=l.length:=by omega
  subst e
  rw [if_neg (by rw [hj3];simp)] at hL
  rw [hL]
  (repeat' with_reducible first|intro _|refine rz ?_|refine ra ?_ ?_|omega|simp only [go_sem,f7])
  refine aT.auto 1 ?_ rfl ?_<;>simp only [go_sem,Int.natCast_succ,Post]
theorem EO (s:Bytes) (hs:s.length≤140737488351232):bZ Tryz.prog 40 [.str s] (.tup [.ro (GZ (bU s).1),.int .i64 (bU s).2]) []:=
 bZ.yX (bZ.eH (PU s hs) rfl (by simp [fQ,fP,jd,iO,lC,GZ,En.av])) (by simp [dG,aQ,aU,bJ,aH,lk,aI])
end Go.Fv.H
/- shrink.Take and the reference's TakeOf: the walk. -/
namespace Go.Fv.H
open Go Go.Proofs
set_option maxHeartbeats 4000000 in
theorem Yu (s name:Bytes) (hs:s.length≤140737488351232):aA Tryz.prog 44 [.str s,.str name] (.tup [.agg [.int .i64 (gV s name).w,.int .i64 (gV s name).h,.own 0],.int .i64 (gV s name).e]) [(0,.row 4 (.bools (gV s name).p))]:=by
 have kl:=Jf s hs
 have kn:=vw name
 have hin:=fun x hx=>Ee (s:=s) (x:=x) hx
 have hlen:=zM s
 obtain ⟨R,hR⟩:∃ R,gV s name=R:=⟨_,rfl⟩
 rw [hR]
 unfold gV at hR
 generalize bU s=q at *
 obtain ⟨l,e⟩:=q
 dsimp only at hR kl hin hlen
 refine aA.aG Tryz.func44 rfl (by decide) (by simp [Tryz.f44]) [.cell 4 24,.tmp 5] rfl fun w0 T0 _=>?_
 simp only [Tryz.f44,au]
 by_cases he:e=0
 rotate_left
 ·have f1:(e=0)=False:=eq_false he
  rw [if_pos he] at hR
  rw [←hR]
  (repeat' with_reducible first|intro _|exact dn|refine rn ?_|refine ra ?_ ?_)
  refine ah.f kl 0 ?_
  (repeat' with_reducible first|intro _|refine rz ?_|refine ra ?_ ?_|omega|simp only [go_sem,f1,DF])
  refine aT.ent (aK.jD (P:=Tryz.prog) 0 2 4 e4 rfl rfl) ?_
  simp only [go_sem,Int.natCast_succ,put]
  refine aT.of [(0,1)] 1 ?_ (by rfl) ?_<;>simp only [go_sem,Int.natCast_succ,Post]
 have f1:(e=0)=True:=eq_true he
 rw [if_neg (by omega)] at hR
 cases hn:eU name with
 | false=>
  rw [hn,if_neg (by decide)] at hR
  rw [hn] at kn
  rw [←hR]
  (repeat' with_reducible first|intro _|exact dn|refine rn ?_|refine ra ?_ ?_)
  refine ah.f kl 0 ?_
  (repeat' with_reducible first|intro _|refine rz ?_|refine ra ?_ ?_|omega|simp only [go_sem,f1])
  refine ah.k kn ?_
  (repeat' with_reducible first|intro _|refine rz ?_|refine ra ?_ ?_|omega|simp only [go_sem,DF])
  refine aT.ent (aK.jD (P:=Tryz.prog) 0 2 4 e4 rfl rfl) ?_
  simp only [go_sem,Int.natCast_succ,put]
  refine aT.of [(0,1)] 1 ?_ (by rfl) ?_<;>simp only [go_sem,Int.natCast_succ,Post]
 | true=>
 rw [hn,if_pos rfl] at hR
 rw [hn] at kn
 (repeat' with_reducible first|intro _|exact dn|refine rn ?_|refine ra ?_ ?_)
 refine ah.f kl 0 ?_
 (repeat' with_reducible first|intro _|refine rz ?_|refine ra ?_ ?_|omega|simp only [go_sem,f1])
 refine ah.k kn ?_
 (repeat' with_reducible first|intro _|refine rz ?_|refine ra ?_ ?_|omega|simp only [go_sem,List.length_map])
 refine aF.intro (fun j:Nat=>⟨47,[(25,.int .i64 j),(24,.int .i64 l.length),(23,.ro (GZ l)),(4,.ptr 0 0),(1,.str name),(0,.str s)],[(0,.box 24 [.int .i64 0,.int .i64 0,.nilS])],1⟩) (fun j=>j≤l.length∧(match (l.drop j).find? (fun x=>decide (x.n=name)) with|some x=>qo ((s.drop x.a).take x.k)|none=>DF 10)=R) (fun j=>l.length - j) 0 ?_ ⟨Nat.zero_le _,hR⟩ fun j hj=>?_
 ·refine aK.ak rfl ?_ ?_<;>simp only [go_sem,Int.natCast_succ]
  all_goals first|rfl|exact ⟨rfl,rfl⟩|trace_state
 obtain ⟨hj1,hj2⟩:=hj
 by_cases hlt:j<l.length
 ·have f7:((j:Int)<(l.length:Int))=True:=eq_true (by omega)
  have hee:=pJ l hlt
  have hx:=hin (l.getD j En.zero) (by rw [getD_lt hlt];exact List.getElem_mem hlt)
  rw [List.drop_eq_getElem_cons hlt,List.find?_cons,←getD_lt (d:=En.zero) hlt] at hj2
  generalize l.getD j En.zero=x at *
  obtain ⟨xn,xa,xk⟩:=x
  dsimp only at hee hx hj2
  by_cases hq:xn=name
  ·have f8:(xn=name)=True:=eq_true hq
   rw [decide_eq_true hq] at hj2
   dsimp only at hj2
   have e1:(xa:Int)+(xk:Int)=((xa+xk:Nat):Int):=by omega
   have e2:(s.drop xa).take (xa+xk - xa)=(s.drop xa).take xk:=by rw [Nat.add_sub_cancel_left]
   have kd:=decode_two ((s.drop xa).take xk) (by rw [List.length_take];omega)
   rw [hj2] at kd
   generalize (s.drop xa).take xk=Z at *
   rcases kd with ⟨_,k⟩|⟨hd,_,k⟩
   ·(repeat' with_reducible first|intro _|refine rz ?_|refine ra ?_ ?_|omega|simp only [go_sem,f7,hee,dw,f8,e1,e2,List.length_map])
    refine ah.o k 1 ?_
    (repeat' with_reducible first|intro _|exact dn|refine rn ?_|refine ra ?_ ?_)
    refine aT.of [(0,2)] 1 ?_ (by rfl) ?_<;>simp only [go_sem,Int.natCast_succ,Post]
   ·(repeat' with_reducible first|intro _|refine rz ?_|refine ra ?_ ?_|omega|simp only [go_sem,f7,hee,dw,f8,e1,e2,List.length_map])
    refine ah.k k ?_
    (repeat' with_reducible first|intro _|exact dn|refine rn ?_|refine ra ?_ ?_)
    rw [hd]
    refine aT.ent (aK.jD (P:=Tryz.prog) 0 2 4 e4 rfl rfl) ?_
    simp only [go_sem,Int.natCast_succ,put,DF]
    refine aT.of [(0,2)] 1 ?_ (by rfl) ?_<;>simp only [go_sem,Int.natCast_succ,Post]
  ·have f8:(xn=name)=False:=eq_false hq
   rw [decide_eq_false hq] at hj2
   (repeat' with_reducible first|intro _|refine rz ?_|refine ra ?_ ?_|omega|simp only [go_sem,f7,hee,dw,f8,List.length_map])
   refine ⟨j+1,aK.ak rfl ?_ ?_,⟨by omega,hj2⟩,by omega⟩<;>simp only [go_sem,Int.natCast_succ]
 ·have e:j=l.length:=by omega
  subst e
  have f7:((l.length:Int)<(l.length:Int))=False:=eq_false (by omega)
  rw [List.drop_length] at hj2
  rw [←hj2]
  (repeat' with_reducible first|intro _|refine rz ?_|refine ra ?_ ?_|omega|simp only [go_sem,f7])
  refine aT.ent (aK.jD (P:=Tryz.prog) 0 2 4 e4 rfl rfl) ?_
  simp only [go_sem,Int.natCast_succ,put]
  refine aT.of [(0,1)] 1 ?_ (by rfl) ?_<;>simp only [go_sem,Int.natCast_succ,Post,DF,List.find?_nil]
theorem Sj (s name:Bytes) (hs:s.length≤140737488351232):bZ Tryz.prog 44 [.str s,.str name] (U7 (gV s name)) []:=
 bZ.yX (bZ.eH (Yu s name hs) rfl rfl) (by simp [U7,dG,aQ,aU,bJ,aH,lk,aI])
set_option maxHeartbeats 4000000 in
theorem PX (s name:Bytes) (hs:s.length≤140737488351232):aA Tryz.prog 45 [.str s,.str name] (.tup [.agg [.int .i64 (gV s name).w,.int .i64 (gV s name).h,.own 0],.int .i64 (gV s name).e]) [(0,.row 4 (.bools (gV s name).p))]:=by
 have kl:=EO s hs
 have kn:=zT name
 have hin:=fun x hx=>Ee (s:=s) (x:=x) hx
 have hlen:=zM s
 obtain ⟨R,hR⟩:∃ R,gV s name=R:=⟨_,rfl⟩
 rw [hR]
 unfold gV at hR
 generalize bU s=q at *
 obtain ⟨l,e⟩:=q
 dsimp only at hR kl hin hlen
 refine aA.aG Tryz.func45 rfl (by decide) (by simp [Tryz.f45]) [.cell 4 24,.tmp 5] rfl fun w0 T0 _=>?_
 simp only [Tryz.f45,au]
 by_cases he:e=0
 rotate_left
 ·have f1:(e=0)=False:=eq_false he
  rw [if_pos he] at hR
  rw [←hR]
  (repeat' with_reducible first|intro _|exact dn|refine rn ?_|refine ra ?_ ?_)
  refine ah.f kl 0 ?_
  (repeat' with_reducible first|intro _|refine rz ?_|refine ra ?_ ?_|omega|simp only [go_sem,f1,DF])
  refine aT.ent (aK.jD (P:=Tryz.prog) 0 2 4 e4 rfl rfl) ?_
  simp only [go_sem,Int.natCast_succ,put]
  refine aT.of [(0,1)] 1 ?_ (by rfl) ?_<;>simp only [go_sem,Int.natCast_succ,Post]
 have f1:(e=0)=True:=eq_true he
 rw [if_neg (by omega)] at hR
 cases hn:eU name with
 | false=>
  rw [hn,if_neg (by decide)] at hR
  rw [hn] at kn
  rw [←hR]
  (repeat' with_reducible first|intro _|exact dn|refine rn ?_|refine ra ?_ ?_)
  refine ah.f kl 0 ?_
  (repeat' with_reducible first|intro _|refine rz ?_|refine ra ?_ ?_|omega|simp only [go_sem,f1])
  refine ah.k kn ?_
  (repeat' with_reducible first|intro _|refine rz ?_|refine ra ?_ ?_|omega|simp only [go_sem,DF])
  refine aT.ent (aK.jD (P:=Tryz.prog) 0 2 4 e4 rfl rfl) ?_
  simp only [go_sem,Int.natCast_succ,put]
  refine aT.of [(0,1)] 1 ?_ (by rfl) ?_<;>simp only [go_sem,Int.natCast_succ,Post]
 | true=>
 rw [hn,if_pos rfl] at hR
 rw [hn] at kn
 (repeat' with_reducible first|intro _|exact dn|refine rn ?_|refine ra ?_ ?_)
 refine ah.f kl 0 ?_
 (repeat' with_reducible first|intro _|refine rz ?_|refine ra ?_ ?_|omega|simp only [go_sem,f1])
 refine ah.k kn ?_
 (repeat' with_reducible first|intro _|refine rz ?_|refine ra ?_ ?_|omega|simp only [go_sem,List.length_map])
 refine aF.intro (fun j:Nat=>⟨47,[(25,.int .i64 j),(24,.int .i64 l.length),(23,.ro (GZ l)),(4,.ptr 0 0),(1,.str name),(0,.str s)],[(0,.box 24 [.int .i64 0,.int .i64 0,.nilS])],1⟩) (fun j=>j≤l.length∧(match (l.drop j).find? (fun x=>decide (x.n=name)) with|some x=>qo ((s.drop x.a).take x.k)|none=>DF 10)=R) (fun j=>l.length - j) 0 ?_ ⟨Nat.zero_le _,hR⟩ fun j hj=>?_
 ·refine aK.ak rfl ?_ ?_<;>simp only [go_sem,Int.natCast_succ]
  all_goals first|rfl|exact ⟨rfl,rfl⟩|trace_state
 obtain ⟨hj1,hj2⟩:=hj
 by_cases hlt:j<l.length
 ·have f7:((j:Int)<(l.length:Int))=True:=eq_true (by omega)
  have hee:=pJ l hlt
  have hx:=hin (l.getD j En.zero) (by rw [getD_lt hlt];exact List.getElem_mem hlt)
  rw [List.drop_eq_getElem_cons hlt,List.find?_cons,←getD_lt (d:=En.zero) hlt] at hj2
  generalize l.getD j En.zero=x at *
  obtain ⟨xn,xa,xk⟩:=x
  dsimp only at hee hx hj2
  by_cases hq:xn=name
  ·have f8:(xn=name)=True:=eq_true hq
   rw [decide_eq_true hq] at hj2
   dsimp only at hj2
   have e1:(xa:Int)+(xk:Int)=((xa+xk:Nat):Int):=by omega
   have e2:(s.drop xa).take (xa+xk - xa)=(s.drop xa).take xk:=by rw [Nat.add_sub_cancel_left]
   have kd:=Gh ((s.drop xa).take xk) (by rw [List.length_take];omega)
   rw [hj2] at kd
   generalize (s.drop xa).take xk=Z at *
   rcases kd with ⟨_,k⟩|⟨hd,_,k⟩
   ·(repeat' with_reducible first|intro _|refine rz ?_|refine ra ?_ ?_|omega|simp only [go_sem,f7,hee,dw,f8,e1,e2,List.length_map])
    refine ah.o k 1 ?_
    (repeat' with_reducible first|intro _|exact dn|refine rn ?_|refine ra ?_ ?_)
    refine aT.of [(0,2)] 1 ?_ (by rfl) ?_<;>simp only [go_sem,Int.natCast_succ,Post]
   ·(repeat' with_reducible first|intro _|refine rz ?_|refine ra ?_ ?_|omega|simp only [go_sem,f7,hee,dw,f8,e1,e2,List.length_map])
    refine ah.k k ?_
    (repeat' with_reducible first|intro _|exact dn|refine rn ?_|refine ra ?_ ?_)
    rw [hd]
    refine aT.ent (aK.jD (P:=Tryz.prog) 0 2 4 e4 rfl rfl) ?_
    simp only [go_sem,Int.natCast_succ,put,DF]
    refine aT.of [(0,2)] 1 ?_ (by rfl) ?_<;>simp only [go_sem,Int.natCast_succ,Post]
  ·have f8:(xn=name)=False:=eq_false hq
   rw [decide_eq_false hq] at hj2
   (repeat' with_reducible first|intro _|refine rz ?_|refine ra ?_ ?_|omega|simp only [go_sem,f7,hee,dw,f8,List.length_map])
   refine ⟨j+1,aK.ak rfl ?_ ?_,⟨by omega,hj2⟩,by omega⟩<;>simp only [go_sem,Int.natCast_succ]
 ·have e:j=l.length:=by omega
  subst e
  have f7:((l.length:Int)<(l.length:Int))=False:=eq_false (by omega)
  rw [List.drop_length] at hj2
  rw [←hj2]
  (repeat' with_reducible first|intro _|refine rz ?_|refine ra ?_ ?_|omega|simp only [go_sem,f7])
  refine aT.ent (aK.jD (P:=Tryz.prog) 0 2 4 e4 rfl rfl) ?_
  simp only [go_sem,Int.natCast_succ,put]
  refine aT.of [(0,1)] 1 ?_ (by rfl) ?_<;>simp only [go_sem,Int.natCast_succ,Post,DF,List.find?_nil]
theorem PW (s name:Bytes) (hs:s.length≤140737488351232):bZ Tryz.prog 45 [.str s,.str name] (U7 (gV s name)) []:=
 bZ.yX (bZ.eH (PX s name hs) rfl rfl) (by simp [U7,dG,aQ,aU,bJ,aH,lk,aI])
end Go.Fv.H
/- shrink.Check and the reference's CheckAll: the walk. -/
namespace Go.Fv.H
open Go Go.Proofs
set_option maxHeartbeats 4000000 in
theorem UZ (s:Bytes) (hs:s.length≤140737488351232):aA Tryz.prog 41 [.str s] (.tup [.int .i64 (SK s).1,.int .i64 (SK s).2]) []:=by
 have kl:=Jf s hs
 have hin:=fun x hx=>Ee (s:=s) (x:=x) hx
 have hlen:=zM s
 obtain ⟨R,hR⟩:∃ R,SK s=R:=⟨_,rfl⟩
 rw [hR]
 unfold SK at hR
 generalize bU s=q at *
 obtain ⟨l,e⟩:=q
 dsimp only at hR kl hin hlen
 refine aA.aG Tryz.func41 rfl (by decide) (by simp [Tryz.f41]) [.tmp 2,.tmp 3] rfl fun w0 T0 _=>?_
 simp only [Tryz.f41,au]
 by_cases he:e=0
 rotate_left
 ·have f1:(e=0)=False:=eq_false he
  rw [if_pos he] at hR
  rw [←hR]
  (repeat' with_reducible first|intro _|exact dn|refine rn ?_|refine ra ?_ ?_)
  refine ah.f kl 0 ?_
  (repeat' with_reducible first|intro _|refine rz ?_|refine ra ?_ ?_|omega|simp only [go_sem,f1])
  refine aT.auto 0 ?_ rfl ?_<;>simp only [go_sem,Int.natCast_succ,Post]
 have f1:(e=0)=True:=eq_true he
 rw [if_neg (by omega)] at hR
 (repeat' with_reducible first|intro _|exact dn|refine rn ?_|refine ra ?_ ?_)
 refine ah.f kl 0 ?_
 (repeat' with_reducible first|intro _|refine rz ?_|refine ra ?_ ?_|omega|simp only [go_sem,f1,List.length_map])
 refine aF.intro (fun j:Nat=>⟨45,[(20,.int .i64 j),(19,.int .i64 l.length),(18,.ro (GZ l)),(4,.ro (GZ l)),(0,.str s)],[],0⟩) (fun j=>j≤l.length∧KX s (l.drop j) j=R) (fun j=>l.length - j) 0 ?_ ⟨Nat.zero_le _,hR⟩ fun j hj=>?_
 ·refine aK.ak rfl ?_ ?_<;>simp only [go_sem,Int.natCast_succ]
 obtain ⟨hj1,hj2⟩:=hj
 by_cases hlt:j<l.length
 ·have f7:((j:Int)<(l.length:Int))=True:=eq_true (by omega)
  have hee:=pJ l hlt
  have hx:=hin (l.getD j En.zero) (by rw [getD_lt hlt];exact List.getElem_mem hlt)
  rw [List.drop_eq_getElem_cons hlt,←getD_lt (d:=En.zero) hlt] at hj2
  generalize l.getD j En.zero=x at *
  obtain ⟨xn,xa,xk⟩:=x
  dsimp only at hee hx
  unfold KX at hj2
  dsimp only at hj2
  have e1:(xa:Int)+(xk:Int)=((xa+xk:Nat):Int):=by omega
  have e2:(s.drop xa).take (xa+xk - xa)=(s.drop xa).take xk:=by rw [Nat.add_sub_cancel_left]
  have kd:=Tf ((s.drop xa).take xk) (by rw [List.length_take];omega)
  generalize (s.drop xa).take xk=Z at *
  unfold U7 at kd
  generalize qo Z=Q at *
  (repeat' with_reducible first|intro _|refine rz ?_|refine ra ?_ ?_|omega|simp only [go_sem,f7,hee,dw,e1,e2,List.length_map])
  refine ah.f kd 0 ?_
  by_cases h0:Q.e=0
  ·have f8:(Q.e=0)=True:=eq_true h0
   rw [if_neg (by omega)] at hj2
   (repeat' with_reducible first|intro _|refine rz ?_|refine ra ?_ ?_|omega|simp only [go_sem,f8])
   refine ⟨j+1,aK.ak rfl ?_ ?_,⟨by omega,hj2⟩,by omega⟩<;>simp only [go_sem,Int.natCast_succ]
  ·have f8:(Q.e=0)=False:=eq_false h0
   rw [if_pos h0] at hj2
   rw [←hj2]
   (repeat' with_reducible first|intro _|refine rz ?_|refine ra ?_ ?_|omega|simp only [go_sem,f8])
   refine aT.auto 0 ?_ rfl ?_<;>simp only [go_sem,Int.natCast_succ,Post]
 ·have e:j=l.length:=by omega
  subst e
  have f7:((l.length:Int)<(l.length:Int))=False:=eq_false (by omega)
  rw [List.drop_length] at hj2
  rw [←hj2]
  (repeat' with_reducible first|intro _|refine rz ?_|refine ra ?_ ?_|omega|simp only [go_sem,f7,List.length_map])
  refine aT.auto 0 ?_ rfl ?_<;>simp only [go_sem,Int.natCast_succ,Post,KX]
end Go.Fv.H
/- The laws' first question. -/
namespace Go.Fv.H
open Go Go.Proofs
theorem TD:aA Tryz.prog 11 [] (.bool true) []:=by
 have k:=vw [97]
 refine aA.aG Tryz.func11 rfl (by decide) (by simp [Tryz.f11]) [.tmp 0] rfl fun w0 T0 _=>?_
 simp only [Tryz.f11,au]
 have e:eU [97]=true:=by decide
 rw [e] at k
 (repeat' with_reducible first|intro _|exact dn|refine rn ?_|refine ra ?_ ?_)
 refine ah.k k ?_
 (repeat' with_reducible first|intro _|exact dn|refine rn ?_|refine ra ?_ ?_)
 refine aT.auto 0 ?_ rfl ?_<;>simp only [go_sem,Int.natCast_succ,Post]
end Go.Fv.H
