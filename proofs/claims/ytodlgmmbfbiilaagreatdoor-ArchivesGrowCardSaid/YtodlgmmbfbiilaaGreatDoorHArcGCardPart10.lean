/-
  A part of the proof of the claim: walks over the program's functions and the plain laws that these need. No condition of its own.
-/
import Derived.Test.YtodlgmmbfbiilaaGreatDoorHArcGCardPart1
import Derived.Test.YtodlgmmbfbiilaaGreatDoorHArcGCardPart9
import Derived.Test.YtodlgmmbfbiilaaGreatDoorHArcGCardPart8
import Derived.Test.YtodlgmmbfbiilaaGreatDoorHArcGCardPart3
set_option linter.unusedSimpArgs false
set_option linter.unusedVariables false
set_option linter.unnecessarySimpa false
set_option maxRecDepth 8000
/- The reference's NameOf. -/
namespace Go.Fv.H
open Go Go.Proofs
def zY (s:List UInt8) (j:Nat):Prop:=(97≤(s.getD j 0).toNat∧(s.getD j 0).toNat≤122)∨(j≠0∧((48≤(s.getD j 0).toNat∧(s.getD j 0).toNat≤57)∨(s.getD j 0).toNat=45))
theorem DK (c:UInt8):nameB c=true↔(97≤c.toNat∧c.toNat≤122)∨(48≤c.toNat∧c.toNat≤57)∨c.toNat=45:=by
 simp only [nameB,Bool.or_eq_true,Bool.and_eq_true,decide_eq_true_eq];omega
theorem JQ (s:List UInt8):dJ s=true↔s≠[]∧s.length≤40∧∀ j,j<s.length→zY s j:=by
 unfold dJ zY
 simp only [Bool.and_eq_true,decide_eq_true_eq,List.all_eq_true]
 constructor
 ·rintro ⟨⟨⟨h0,h1⟩,h2⟩,h3⟩
  refine ⟨h0,h1,fun j hj=>?_⟩
  by_cases e:j=0
  ·subst e;exact .inl h2
  ·have:=h3 (s.getD j 0) (by rw [getD_lt hj];exact List.getElem_mem hj)
   rw [DK] at this
   rcases this with h|h
   ·exact .inl h
   ·exact .inr ⟨e,h⟩
 ·rintro ⟨h0,h1,h2⟩
  have hp:0<s.length:=List.length_pos_iff.2 h0
  refine ⟨⟨⟨h0,h1⟩,?_⟩,fun c hc=>?_⟩
  ·rcases h2 0 hp with h|h
   ·exact h
   ·exact absurd rfl h.1
  ·obtain ⟨j,hj,rfl⟩:=List.getElem_of_mem hc
   have:=h2 j hj
   rw [getD_lt hj] at this
   rw [DK]
   rcases this with h|h
   ·exact .inl h
   ·exact .inr h.2
set_option maxHeartbeats 1000000 in
theorem DL (s:List UInt8):aC Tryz.prog 80 [.str s] (.bool (dJ s)) []:=by
 have hi:=JQ s
 refine aC.aJ Tryz.func80 rfl (by decide) (by simp [Tryz.f80]) [.tmp 2] rfl fun w0 T0 _=>?_
 simp only [Tryz.f80,aB]
 (repeat' with_reducible first|intro _|exact dn|refine rn ?_|refine ra ?_ ?_)
 refine aH.intro (fun i:Nat=>⟨45,[(7,.int .i64 i),(6,.int .i64 s.length),(0,.str s)],[],0⟩) (fun i=>i≤s.length∧∀ j,j<i→zY s j) (fun i=>s.length - i) 0 ?_ ⟨Nat.zero_le _,fun j hj=>by omega⟩ fun i hI=>?_
 ·refine aK.ak rfl ?_ ?_<;>simp only [go_sem,Int.natCast_succ]
 obtain ⟨hl,hI⟩:=hI
 (repeat' with_reducible first|intro _|refine rz ?_|refine ra ?_ ?_|omega|simp only [go_sem,Int.toNat_natCast])
 ·rename_i h2
  have:dJ s=false:=by
   rw [←Bool.not_eq_true,hi]
   rintro ⟨_,_,h⟩
   have:=h i (by omega)
   unfold zY at this
   omega
  refine bg.auto 0 ?_ rfl ?_<;>simp only [go_sem,Int.natCast_succ,Post,this]
 ·rename_i h2
  refine ⟨i+1,aK.ak rfl ?_ ?_,⟨by omega,fun j hj=>?_⟩,by omega⟩
  ·simp only [go_sem,Int.natCast_succ]
  ·simp only [go_sem,Int.natCast_succ]
  ·by_cases e:j=i
   ·subst e;unfold zY;omega
   ·exact hI j (by omega)
 all_goals
  have e:dJ s=decide (¬s=[]∧(s.length:Int)≤40):=by
   rw [Bool.eq_iff_iff,decide_eq_true_eq,hi]
   exact ⟨fun h=>⟨h.1,by omega⟩,fun h=>⟨h.1,by omega,fun j hj=>hI j (by omega)⟩⟩
  refine bg.auto 0 ?_ rfl ?_<;>simp only [go_sem,Int.natCast_succ,Post,e]
end Go.Fv.H
/- The reference's packed, encoded, PackAll: the walk. -/
namespace Go.Fv.H
open Go Go.Proofs
structure NQ where
 (n:Bytes) (q:Option (Int × Int × List Bool))
def NQ.av (x:NQ):List AV:=match x.q with
 | none=>[.str x.n,.int .i64 0,.int .i64 0,.nilS]
 | some (w,h,p)=>[.str x.n,.int .i64 w,.int .i64 h,.ro (.bools p)]
def NQ.zero:NQ:=⟨[],none⟩
abbrev WM (l:List NQ):aG:=.objs 4 (l.map NQ.av)
instance:CW NQ.av:=⟨fun x=>by unfold NQ.av;split<;>rfl⟩
def NP.toQ (x:NP):NQ:=⟨x.n,some (x.W,x.H,x.p)⟩
theorem TU (l:List NP):WM (l.map NP.toQ)=Jf l:=by unfold WM Jf;rw [List.map_map];rfl
theorem zJ (l:List (Bytes × Bytes)):(l.map Prod.snd).flatten=dL l:=rfl
theorem Fb (n k:Nat) (hn:n≤1000000000000) (hk:k≤8):aC Tryz.prog 64 [.int .i64 n,.int .i64 k] (.str (bP k n)) []:=nY n n k (.inl rfl) (by omega) (by omega) hk
set_option maxHeartbeats 4000000 in
theorem AA (m:List (Bytes × Bytes)) (l:List NQ) (hq:l.map NQ.n=m.map Prod.fst) (h:Sl m) (hp:2≤m.length→0<(dL m).length):aC Tryz.prog 82 [.ro (WM l),.ro (.strs (m.map Prod.snd))] (.str (iR m)) []:=by
 have hm:=h.many
 have hlong:=h.long
 have hlm:l.length=m.length:=by have:=congrArg List.length hq;simpa using this
 have kb0:aC Tryz.prog 64 [.int .i64 l.length,.int .i64 2] (.str (bP 2 l.length)) []:=Fb l.length 2 (by omega) (by omega)
 have hP:=EL h.name
 rw [hlm] at kb0
 have hb2:=aS 2 m.length
 have h00:G9 m 0=70::66::65::49::bP 2 m.length:=by unfold G9;rw [List.take_zero,List.flatMap_nil,List.append_nil];rfl
 refine aC.aJ Tryz.func82 rfl (by decide) (by simp [Tryz.f82]) [.tmp 4] rfl fun w0 T0 _=>?_
 simp only [Tryz.f82,aB]
 generalize hB2:bP 2 m.length=B2 at *
 (repeat' with_reducible first|intro _|refine rz ?_|refine ra ?_ ?_|omega|simp only [go_sem,List.length_map,hlm])
 refine ah.k kb0 ?_
 (repeat' with_reducible first|intro _|refine rz ?_|refine ra ?_ ?_|omega|simp only [go_sem,List.length_map,hlm])
 refine aH.intro (fun i:Nat=>⟨43,[(14,.int .i64 i),(13,.int .i64 m.length),(12,.ro (WM l)),(5,.str (G9 m i)),(1,.ro (.strs (m.map Prod.snd)))],[],0⟩) (fun i=>i≤m.length) (fun i=>m.length - i) 0 ?_ (Nat.zero_le _) fun i hi=>?_
 ·refine aK.ak rfl ?_ ?_<;>simp only [go_sem,Int.natCast_succ,h00]
 have hPi:=hP i hi
 have hP2:(G9 m i).length≤1000000000:=by have:i*(1000+5)≤70000*(1000+5):=Nat.mul_le_mul_right _ (by omega);omega
 by_cases hlt:i<m.length
 ·have f7:((i:Int)<(m.length:Int))=True:=eq_true (by omega)
  have hst:=zZ m hlt
  have hn:=h.name (m.getD i ([],[])) (by rw [getD_lt hlt];exact List.getElem_mem hlt)
  have hc:=h.code (m.getD i ([],[])) (by rw [getD_lt hlt];exact List.getElem_mem hlt)
  have hcd:(m.map Prod.snd).getD i []=(m.getD i ([],[])).2:=by
   rw [List.getD_eq_getElem?_getD,List.getD_eq_getElem?_getD,List.getElem?_map]
   cases m[i]?<;>rfl
  have hnm:(l.getD i NQ.zero).n=(m.getD i ([],[])).1:=by
   have:=congrArg (fun z=>List.getD z i []) hq
   rw [List.getD_eq_getElem?_getD,List.getD_eq_getElem?_getD,List.getElem?_map,List.getElem?_map] at this
   rw [List.getD_eq_getElem?_getD,List.getD_eq_getElem?_getD]
   rw [List.getElem?_eq_getElem (show i<l.length by omega),List.getElem?_eq_getElem hlt] at this ⊢
   exact this
  have hee:(l.map NQ.av).getD i []=(l.getD i NQ.zero).av:=by
   rw [List.getD_eq_getElem?_getD,List.getD_eq_getElem?_getD,List.getElem?_map,List.getElem?_eq_getElem (show i<l.length by omega)];rfl
  generalize l.getD i NQ.zero=y at *
  generalize m.getD i ([],[])=x at *
  obtain ⟨xn,xd⟩:=x
  obtain ⟨yn,yq⟩:=y
  dsimp only at hst hn hc hcd hnm
  subst hnm
  have k1:aC Tryz.prog 64 [.int .i64 yn.length,.int .i64 1] (.str (bP 1 yn.length)) []:=Fb yn.length 1 (by omega) (by omega)
  have k4:aC Tryz.prog 64 [.int .i64 xd.length,.int .i64 4] (.str (bP 4 xd.length)) []:=Fb xd.length 4 (by omega) (by omega)
  have b1:=aS 1 yn.length
  have b4:=aS 4 xd.length
  generalize bP 1 yn.length=B1 at *
  generalize bP 4 xd.length=B4 at *
  generalize G9 m i=P at *
  cases yq with
  | none=>
   replace hee:(l.map NQ.av).getD i []=[.str yn,.int .i64 0,.int .i64 0,.nilS]:=hee
   (repeat' with_reducible first|intro _|refine rz ?_|refine ra ?_ ?_|omega|simp only [go_sem,f7,hee,dM,List.length_map,hlm])
   refine bC.lex [] [] (by kernel_rfl) (by kernel_rfl) ?_
   (repeat' with_reducible first|intro _|exact dn|refine rn ?_|refine ra ?_ ?_)
   (refine QV.intro (.str B1) ?_ ?_;focus ((repeat' with_reducible first|intro _|exact dn|refine rn ?_|refine ra ?_ ?_);refine ah.k (k1) ?_;(repeat' with_reducible first|intro _|exact dn|refine rn ?_|refine ra ?_ ?_)))
   (repeat' with_reducible first|intro _|refine rz ?_|refine ra ?_ ?_|omega|simp only [go_sem,dM,hcd,List.length_map])
   (refine QV.intro (.str B4) ?_ ?_;focus ((repeat' with_reducible first|intro _|exact dn|refine rn ?_|refine ra ?_ ?_);refine ah.k (k4) ?_;(repeat' with_reducible first|intro _|exact dn|refine rn ?_|refine ra ?_ ?_)))
   (repeat' with_reducible first|intro _|exact dn|refine rn ?_|refine ra ?_ ?_)
   refine ⟨i+1,aK.ak rfl ?_ ?_,by omega,by omega⟩<;>simp only [go_sem,Int.natCast_succ,hst]
  | some z=>
   obtain ⟨w,hh,p⟩:=z
   replace hee:(l.map NQ.av).getD i []=[.str yn,.int .i64 w,.int .i64 hh,.ro (.bools p)]:=hee
   (repeat' with_reducible first|intro _|refine rz ?_|refine ra ?_ ?_|omega|simp only [go_sem,f7,hee,dM,List.length_map,hlm])
   refine bC.lex [] [] (by kernel_rfl) (by kernel_rfl) ?_
   (repeat' with_reducible first|intro _|exact dn|refine rn ?_|refine ra ?_ ?_)
   (refine QV.intro (.str B1) ?_ ?_;focus ((repeat' with_reducible first|intro _|exact dn|refine rn ?_|refine ra ?_ ?_);refine ah.k (k1) ?_;(repeat' with_reducible first|intro _|exact dn|refine rn ?_|refine ra ?_ ?_)))
   (repeat' with_reducible first|intro _|refine rz ?_|refine ra ?_ ?_|omega|simp only [go_sem,dM,hcd,List.length_map])
   (refine QV.intro (.str B4) ?_ ?_;focus ((repeat' with_reducible first|intro _|exact dn|refine rn ?_|refine ra ?_ ?_);refine ah.k (k4) ?_;(repeat' with_reducible first|intro _|exact dn|refine rn ?_|refine ra ?_ ?_)))
   (repeat' with_reducible first|intro _|exact dn|refine rn ?_|refine ra ?_ ?_)
   refine ⟨i+1,aK.ak rfl ?_ ?_,by omega,by omega⟩<;>simp only [go_sem,Int.natCast_succ,hst]
 have e:i=m.length:=by omega
 subst e
 have f7:((m.length:Int)<(m.length:Int))=False:=eq_false (by omega)
 rw [L6] at hP2 ⊢
 have ks:=qC (hdB m) (by omega)
 have kj:=PY (m.map Prod.snd) (by rw [zJ];omega) (by rw [zJ,List.length_map];exact hp)
 rw [zJ] at kj
 have hA:iR m=hdB m++dL m++jc (hdB m):=by unfold iR;rw [List.append_assoc]
 have hsl:=mJ (hdB m)
 rw [hA]
 generalize hdB m=P at *
 generalize jc P=S at *
 generalize dL m=C at *
 (repeat' with_reducible first|intro _|refine rz ?_|refine ra ?_ ?_|omega|simp only [go_sem,f7])
 refine ah.k kj ?_
 (repeat' with_reducible first|intro _|exact dn|refine rn ?_|refine ra ?_ ?_)
 refine ah.k ks ?_
 (repeat' with_reducible first|intro _|exact dn|refine rn ?_|refine ra ?_ ?_)
 refine bg.auto 0 ?_ rfl ?_<;>simp only [go_sem,Int.natCast_succ,Post]
theorem zO (x:NP) (h:x.Ok) (kind:Int) (hk:1≤kind∧kind≤5):aC Tryz.prog 81 [.agg [.int .i64 x.W,.int .i64 x.H,.ro (.bools x.p)],.int .i64 kind] (.str (oC kind x)) []:=by
 have kb:=IK _ _ _ h
 obtain ⟨w1,w2⟩:=h.w
 refine aC.aJ Tryz.func81 rfl (by decide) (by simp [Tryz.f81]) [.tmp 4] rfl fun w0 T0 _=>?_
 simp only [Tryz.f81,aB]
 unfold oC
 by_cases h5:kind=5
 ·have f9:(kind=5)=True:=eq_true h5
  rw [if_pos h5]
  rw [w1,w2] at kb
  generalize dP x.W.toNat x.H.toNat x.p 4=B at *
  (repeat' with_reducible first|intro _|refine rz ?_|refine ra ?_ ?_|omega|simp only [go_sem,f9])
  refine ah.k kb ?_
  (repeat' with_reducible first|intro _|exact dn|refine rn ?_|refine ra ?_ ?_)
  refine bg.auto 0 ?_ rfl ?_<;>simp only [go_sem,Int.natCast_succ,Post]
 ·have f9:(kind=5)=False:=eq_false h5
  have ke:=vM _ _ h.w0 h.w1 h.h1 h.wh x.p h.p kind (by omega)
  rw [if_neg h5]
  rw [w1,w2] at ke
  generalize jW x.W.toNat x.H.toNat x.p kind=B at *
  (repeat' with_reducible first|intro _|refine rz ?_|refine ra ?_ ?_|omega|simp only [go_sem,f9])
  refine ah.k ke ?_
  (repeat' with_reducible first|intro _|exact dn|refine rn ?_|refine ra ?_ ?_)
  refine bg.auto 0 ?_ rfl ?_<;>simp only [go_sem,Int.natCast_succ,Post]
theorem tq (x y:Int):dw [x,y]=if x=0 then y else x:=by
 unfold dw
 split
 ·unfold dw
  split
  ·rename_i h;rw [h];rfl
  ·rfl
 ·rfl
theorem SS {l:List NP} {kind:Int} (h:uo l) (hk:1≤kind∧kind≤5):2≤(nC kind l).length→0<(dL (nC kind l)).length:=by
 intro hl
 cases l with
 | nil=>cases hl
 | cons x l=>
  have:=(uI hk (h.ok x List.mem_cons_self)).1
  show 0<(oC kind x++dL (nC kind l)).length
  rw [List.length_append];omega
set_option maxHeartbeats 8000000 in
theorem Az (l:List NP) (kind:Int):aC Tryz.prog 34 [.ro (Jf l),.int .i64 kind] (.tup [.str (fA l kind).1,.int .i64 (fA l kind).2]) []:=by
 obtain ⟨R,hR⟩:∃ R,fA l kind=R:=⟨_,rfl⟩
 rw [hR]
 unfold fA at hR
 obtain ⟨E,hE⟩:∃ E,MR l kind=E:=⟨_,rfl⟩
 rw [hE] at hR
 have hE0:=hE
 unfold MR at hE
 refine aC.aJ Tryz.func34 rfl (by decide) (by simp [Tryz.f34]) [.tmp 4,.tmp 5] rfl fun w0 T0 _=>?_
 simp only [Tryz.f34,aB]
 by_cases h1:500<l.length
 ·have f1:((500:Int)<(l.length:Int))=True:=eq_true (by omega)
  rw [if_pos h1] at hE
  rw [if_pos (by omega)] at hR
  rw [←hR,←hE]
  (repeat' with_reducible first|intro _|refine rz ?_|refine ra ?_ ?_|omega|simp only [go_sem,List.length_map,f1])
  refine bg.auto 0 ?_ rfl ?_<;>simp only [go_sem,Int.natCast_succ,Post]
 have f1:((500:Int)<(l.length:Int))=False:=eq_false (by omega)
 rw [if_neg h1] at hE
 (repeat' with_reducible first|intro _|refine rz ?_|refine ra ?_ ?_|omega|simp only [go_sem,List.length_map,f1])
 refine aH.intro (fun j:Nat=>⟨77,[(20,.int .i64 j),(19,.int .i64 l.length),(18,.ro (Jf l)),(6,.own 0),(1,.int .i64 kind),(0,.ro (Jf l))],[(0,.map (((l.map NP.n).take j).map .str) (((l.map NP.n).take j).map fun _=>.bool true))],1⟩) (fun j=>j≤l.length∧vJ l j=0) (fun j=>l.length - j) 0 ?_ ⟨Nat.zero_le _,rfl⟩ fun j hj=>?_
 ·refine aK.ak rfl ?_ ?_<;>simp only [go_sem,Int.natCast_succ]
  all_goals first|rfl|exact ⟨rfl,rfl⟩|trace_state
 obtain ⟨hj1,hj2⟩:=hj
 by_cases hlt:j<l.length
 ·have f7:((j:Int)<(l.length:Int))=True:=eq_true (by omega)
  have hst:vJ l (j+1)=if vJ l j≠0 then vJ l j else if dJ (l.getD j NP.zero).n=true then (if (l.getD j NP.zero).n∈(l.take j).map NP.n then 6 else Qv (l.getD j NP.zero)) else 5:=rfl
  have hle:=@J3 l (j+1) l.length
  have hee:=vG l hlt
  have htk:(l.map NP.n).take (j+1)=(l.map NP.n).take j++[(l.getD j NP.zero).n]:=by
   have hjl:j<(l.map NP.n).length:=by rw [List.length_map];exact hlt
   rw [List.take_succ_eq_append_getElem hjl,List.getElem_map,getD_lt hlt]
  rw [hj2,if_neg (by simp),List.map_take] at hst
  have kc:=J6 (l.getD j NP.zero).W (l.getD j NP.zero).H (l.getD j NP.zero).p
  have hnp:Qv (l.getD j NP.zero)=iL (l.getD j NP.zero).W (l.getD j NP.zero).H (l.getD j NP.zero).p.length:=rfl
  generalize l.getD j NP.zero=x at *
  obtain ⟨xn,xw,xh,xp⟩:=x
  dsimp only at hst hee htk kc hnp
  rw [←hnp] at kc
  generalize Qv ⟨xn,xw,xh,xp⟩=B at *
  have kn:=DL xn
  (repeat' with_reducible first|intro _|refine rz ?_|refine ra ?_ ?_|omega|simp only [go_sem,f7,hee,dM,List.length_map])
  refine ah.k kn ?_
  cases hn:dJ xn with
  | false=>
   rw [hn,if_neg (by decide)] at hst
   have h0:=hle (by rw [hst];decide) (by omega)
   rw [h0,hst,if_pos (by decide)] at hE
   rw [if_pos (by omega)] at hR
   rw [←hR,←hE]
   have kw:=lG true 5
   rw [if_pos rfl] at kw
   have kf:=lU [5,B] (by simp)
   rw [tq,if_neg (by decide)] at kf
   (repeat' with_reducible first|intro _|exact dn|refine rn ?_|refine ra ?_ ?_)
   refine ah.k kw ?_
   (repeat' with_reducible first|intro _|exact dn|refine rn ?_|refine ra ?_ ?_)
   refine ah.k kc ?_
   (repeat' with_reducible first|intro _|exact dn|refine rn ?_|refine ra ?_ ?_)
   refine ah.k kf ?_
   (repeat' with_reducible first|intro _|exact dn|refine rn ?_|refine ra ?_ ?_)
   refine bg.auto 0 ?_ rfl ?_<;>simp only [go_sem,Int.natCast_succ,Post]
  | true=>
   rw [hn,if_pos rfl] at hst
   have kw:=lG false 5
   rw [if_neg (by decide)] at kw
   have g:=lI ((l.map NP.n).take j) xn
   by_cases hd:xn∈(l.map NP.n).take j
   ·rw [if_pos hd] at hst
    have h0:=hle (by rw [hst];decide) (by omega)
    rw [h0,hst,if_pos (by decide)] at hE
    rw [if_pos (by omega)] at hR
    rw [←hR,←hE]
    rw [decide_eq_true hd] at g
    have kf:=lU [6,B] (by simp)
    rw [tq,if_neg (by decide)] at kf
    (repeat' with_reducible first|intro _|exact dn|refine rn ?_|refine ra ?_ ?_)
    refine ah.k kw ?_
    (repeat' with_reducible first|intro _|refine rz ?_|refine ra ?_ ?_|omega|simp only [go_sem,g])
    refine ah.k kc ?_
    (repeat' with_reducible first|intro _|exact dn|refine rn ?_|refine ra ?_ ?_)
    refine ah.k kf ?_
    (repeat' with_reducible first|intro _|exact dn|refine rn ?_|refine ra ?_ ?_)
    refine bg.auto 0 ?_ rfl ?_<;>simp only [go_sem,Int.natCast_succ,Post]
   ·rw [if_neg hd] at hst
    rw [decide_eq_false hd] at g
    have hins:uU ((l.map NP.n).take j) xn=(l.map NP.n).take (j+1):=by unfold uU;rw [if_neg hd,htk]
    have kf:=lU [0,B] (by simp)
    rw [tq,if_pos rfl] at kf
    (repeat' with_reducible first|intro _|exact dn|refine rn ?_|refine ra ?_ ?_)
    refine ah.k kw ?_
    (repeat' with_reducible first|intro _|refine rz ?_|refine ra ?_ ?_|omega|simp only [go_sem,g])
    refine ah.k kc ?_
    (repeat' with_reducible first|intro _|exact dn|refine rn ?_|refine ra ?_ ?_)
    refine ah.k kf ?_
    by_cases h0:B=0
    ·have f8:(B=0)=True:=eq_true h0
     (repeat' with_reducible first|intro _|refine rz ?_|refine ra ?_ ?_|omega|simp only [go_sem,f8])
     refine ⟨j+1,aK.ak rfl ?_ ?_,⟨by omega,by rw [hst];exact h0⟩,by omega⟩<;>simp only [go_sem,Int.natCast_succ,hins]
    ·have f8:(B=0)=False:=eq_false h0
     have h9:=hle (by rw [hst];exact h0) (by omega)
     rw [h9,hst,if_pos h0] at hE
     rw [if_pos (by omega)] at hR
     rw [←hR,←hE]
     (repeat' with_reducible first|intro _|refine rz ?_|refine ra ?_ ?_|omega|simp only [go_sem,f8])
     refine bg.auto 0 ?_ rfl ?_<;>simp only [go_sem,Int.natCast_succ,Post]
 have e:j=l.length:=by omega
 subst e
 have f7:((l.length:Int)<(l.length:Int))=False:=eq_false (by omega)
 rw [if_neg (by rw [hj2];simp)] at hE
 by_cases hk:1≤kind∧kind≤5
 rotate_left
 ·rw [if_neg hk] at hE
  rw [if_pos (by omega)] at hR
  rw [←hR,←hE]
  by_cases hk1:kind<1
  ·have f8:(kind<1)=True:=eq_true hk1
   (repeat' with_reducible first|intro _|refine rz ?_|refine ra ?_ ?_|omega|simp only [go_sem,f7,f8])
   refine bg.auto 0 ?_ rfl ?_<;>simp only [go_sem,Int.natCast_succ,Post]
  ·have f8:(kind<1)=False:=eq_false hk1
   have f9:(5<kind)=True:=eq_true (by omega)
   (repeat' with_reducible first|intro _|refine rz ?_|refine ra ?_ ?_|omega|simp only [go_sem,f7,f8,f9])
   refine bg.auto 0 ?_ rfl ?_<;>simp only [go_sem,Int.natCast_succ,Post]
 rw [if_pos hk] at hE
 rw [←hE] at hE0
 obtain ⟨hP,hl5,_⟩:=J4 hE0
 rw [if_neg (by omega)] at hR
 have f8:(kind<1)=False:=eq_false (by omega)
 have f9:(5<kind)=False:=eq_false (by omega)
 (repeat' with_reducible first|intro _|refine rz ?_|refine ra ?_ ?_|omega|simp only [go_sem,f7,f8,f9,List.length_map])
 refine aH.intro (fun i:Nat=>⟨77,[(58,.int .i64 i),(57,.int .i64 l.length),(56,.ro (Jf l)),(10,.own 0),(1,.int .i64 kind),(0,.ro (Jf l))],[(0,.row 9 (.strs ((nC kind (l.take i)).map Prod.snd)))],1⟩) (fun i=>i≤l.length) (fun i=>l.length - i) 0 ?_ (Nat.zero_le _) fun i hi=>?_
 ·refine aK.ak rfl ?_ ?_<;>simp only [go_sem,Int.natCast_succ]
  all_goals first|rfl|exact ⟨rfl,rfl⟩|trace_state
 have hcl:((nC kind (l.take i)).map Prod.snd).length=i:=by rw [List.length_map,yU,List.length_take];omega
 by_cases hlt:i<l.length
 ·have f7:((i:Int)<(l.length:Int))=True:=eq_true (by omega)
  have hee:=vG l hlt
  have hst:=congrArg (List.map Prod.snd) (Gt kind hlt)
  rw [List.map_append] at hst
  have hxo:=hP.ok (l.getD i NP.zero) (by rw [getD_lt hlt];exact List.getElem_mem hlt)
  have kd:=zO (l.getD i NP.zero) hxo kind hk
  generalize hx:l.getD i NP.zero=x at *
  generalize hD:oC kind x=D at *
  obtain ⟨xn,xw,xh,xp⟩:=x
  dsimp only at hee kd
  replace hst:(nC kind (l.take (i+1))).map Prod.snd=(nC kind (l.take i)).map Prod.snd++[D]:=hst
  generalize (nC kind (l.take i)).map Prod.snd=A at *
  (repeat' with_reducible first|intro _|refine rz ?_|refine ra ?_ ?_|omega|simp only [go_sem,f7,hee,dM,List.length_map])
  refine ah.k kd ?_
  (repeat' with_reducible first|intro _|refine rz ?_|refine ra ?_ ?_|omega|simp only [go_sem,hcl])
  refine ⟨i+1,aK.ak rfl ?_ ?_,by omega,by omega⟩<;>simp only [go_sem,Int.natCast_succ,hst]
 have e:i=l.length:=by omega
 subst e
 have f7:((l.length:Int)<(l.length:Int))=False:=eq_false (by omega)
 rw [List.take_length]
 have kp:=AA (nC kind l) (l.map NP.toQ) (by unfold nC;rw [List.map_map,List.map_map];rfl) (Ph hP hl5 hk) (SS hP hk)
 rw [TU] at kp
 generalize iR (nC kind l)=A at *
 (repeat' with_reducible first|intro _|refine rz ?_|refine ra ?_ ?_|omega|simp only [go_sem,f7])
 refine ah.k kp ?_
 by_cases h4:4194304<A.length
 ·have f8:((4194304:Int)<(A.length:Int))=True:=eq_true (by omega)
  rw [if_pos h4] at hR
  rw [←hR]
  (repeat' with_reducible first|intro _|refine rz ?_|refine ra ?_ ?_|omega|simp only [go_sem,f8])
  refine bg.auto 0 ?_ rfl ?_<;>simp only [go_sem,Int.natCast_succ,Post]
 ·have f8:((4194304:Int)<(A.length:Int))=False:=eq_false (by omega)
  rw [if_neg h4] at hR
  rw [←hR]
  (repeat' with_reducible first|intro _|refine rz ?_|refine ra ?_ ?_|omega|simp only [go_sem,f8])
  refine bg.auto 0 ?_ rfl ?_<;>simp only [go_sem,Int.natCast_succ,Post]
end Go.Fv.H
/- The reference's ListOf: the walk. -/
namespace Go.Fv.H
open Go Go.Proofs
def en0 (l:List (Bytes × Nat)):List En:=l.map fun x=>⟨x.1,0,x.2⟩
theorem yX (l:List (Bytes × Nat)):(en0 l).length=l.length:=List.length_map _
def tJ (l:List (Bytes × Nat)) (a j:Nat):List En:=(dV l a).take j++(en0 l).drop j
theorem HY (l:List (Bytes × Nat)) (a:Nat) {j:Nat} (h:j≤l.length):(tJ l a j).length=l.length:=by
 unfold tJ
 rw [List.length_append,List.length_take,List.length_drop,dN,yX];omega
theorem GN:∀ (l:List (Bytes × Nat)) (a j:Nat),j<l.length→(dV l a).getD j En.zero=⟨(l.getD j ([],0)).1,a+dG (l.take j),(l.getD j ([],0)).2⟩
 | x::l,a,0,_=>rfl
 | x::l,a,j+1,h=>by
  have ih:=GN l (a+x.2) j (by simpa using h)
  show (dV l (a+x.2)).getD j En.zero=_
  rw [ih]
  have e:a+x.2+dG (l.take j)=a+dG ((x::l).take (j+1)):=by unfold dG;simp;omega
  rw [e];rfl
theorem TP (l:List (Bytes × Nat)) (a:Nat) {j:Nat} (h:j<l.length):(tJ l a j).getD j En.zero=⟨(l.getD j ([],0)).1,0,(l.getD j ([],0)).2⟩:=by
 unfold tJ
 have h1:=dN l a
 rw [List.getD_eq_getElem?_getD,List.getElem?_append_right (by rw [List.length_take];omega),List.length_take,List.getElem?_drop,h1,Nat.min_eq_left (by omega),Nat.sub_self,Nat.add_zero]
 unfold en0
 rw [List.getElem?_map,List.getD_eq_getElem?_getD]
 simp [h]
theorem Ql (l:List (Bytes × Nat)) (a:Nat) {j:Nat} (h:j<l.length):(tJ l a j).set j ⟨(l.getD j ([],0)).1,a+dG (l.take j),(l.getD j ([],0)).2⟩=tJ l a (j+1):=by
 have h1:=dN l a
 have h2:=yX l
 rw [←GN l a j h]
 have hj:j<(dV l a).length:=by omega
 have e2:(dV l a).getD j En.zero=(dV l a)[j]:=by simp [List.getD_eq_getElem?_getD,hj]
 rw [e2]
 unfold tJ
 rw [List.set_append_right _ _ (by rw [List.length_take];omega),List.length_take,Nat.min_eq_left (by omega),Nat.sub_self,List.drop_eq_getElem_cons (show j<(en0 l).length by omega),List.set_cons_zero,List.take_succ_eq_append_getElem hj,List.append_assoc]
 rfl
theorem OB (l:List (Bytes × Nat)) {j:Nat} (h:j<l.length):dG (l.take (j+1))=dG (l.take j)+(l.getD j ([],0)).2:=by
 rw [List.take_succ_eq_append_getElem h,xA]
 simp [List.getD_eq_getElem?_getD,h]
theorem Ur (l:List (Bytes × Nat)) (j:Nat):dG (l.take j)≤dG l:=by
 conv=>rhs;rw [←List.take_append_drop j l]
 unfold dG
 rw [List.map_append,List.sum_append];omega
set_option maxHeartbeats 8000000 in
theorem J9 (s:Bytes) (hs:s.length≤140737488351232):aC Tryz.prog 40 [.str s] (.tup [.own 0,.int .i64 (bF s).2]) [(0,.row 75 (Jd (bF s).1))]:=by
 refine aC.aJ Tryz.func40 rfl (by decide) (by simp [Tryz.f40]) [.tmp 2,.tmp 3] rfl fun w0 T0 _=>?_
 simp only [Tryz.f40,aB]
 by_cases h1:4194304<s.length
 ·have f1:((4194304:Int)<(s.length:Int))=True:=eq_true (by omega)
  have e:bF s=([],4):=by unfold bF;rw [if_pos h1]
  rw [e]
  (repeat' with_reducible first|intro _|refine rz ?_|refine ra ?_ ?_|omega|simp only [go_sem,f1])
  refine bg.auto 1 ?_ rfl ?_<;>simp only [go_sem,Int.natCast_succ,Post]
 have f1:((4194304:Int)<(s.length:Int))=False:=eq_false (by omega)
 have kt1:gU Tryz.prog 91 [.int .i64 4,.ptr 0 0,.ptr 1 0,.ptr 2 0] [(0,.box 9 [.str s]),(1,.box 3 [.int .i64 0]),(2,.box 4 [.bool false])] 3 (.str (gI s 0 false 4).t) [(0,.box 9 [.str s]),(1,.box 3 [.int .i64 (gI s 0 false 4).a]),(2,.box 4 [.bool (gI s 0 false 4).sh])]:=Bg s 0 false 4 (by omega) (by omega) (by omega)
 by_cases h2:s.length<4
 ·have e:bF s=([],8):=by unfold bF;rw [if_neg h1,if_pos (.inl (by omega))]
  have e4:gI s 0 false 4=⟨List.replicate 4 0,0,true⟩:=by unfold gI;rw [if_pos (by omega)]
  rw [e4] at kt1
  rw [e]
  have f3:((List.replicate 4 0:Bytes)=[70,66,65,49])=False:=eq_false (by decide)
  (repeat' with_reducible first|intro _|refine rz ?_|refine ra ?_ ?_|omega|simp only [go_sem,f1])
  refine ah.i [0,2,3] kt1 3 ?_
  (repeat' with_reducible first|intro _|refine rz ?_|refine ra ?_ ?_|omega|simp only [go_sem,f3])
  refine bg.auto 1 ?_ rfl ?_<;>simp only [go_sem,Int.natCast_succ,Post]
 have e4:gI s 0 false 4=⟨s.take 4,4,false⟩:=by unfold gI;rw [if_neg (by omega)];rfl
 rw [e4] at kt1
 by_cases h3:s.take 4=qp
 rotate_left
 ·have e:bF s=([],8):=by unfold bF;rw [if_neg h1,if_pos (.inr h3)]
  have f3:(s.take 4=[70,66,65,49])=False:=eq_false h3
  rw [e]
  (repeat' with_reducible first|intro _|refine rz ?_|refine ra ?_ ?_|omega|simp only [go_sem,f1])
  refine ah.i [0,2,3] kt1 3 ?_
  (repeat' with_reducible first|intro _|refine rz ?_|refine ra ?_ ?_|omega|simp only [go_sem,f3])
  refine bg.auto 1 ?_ rfl ?_<;>simp only [go_sem,Int.natCast_succ,Post]
 have f3:(s.take 4=[70,66,65,49])=True:=eq_true h3
 have kt2:gU Tryz.prog 91 [.int .i64 2,.ptr 0 0,.ptr 1 0,.ptr 2 0] [(0,.box 9 [.str s]),(1,.box 3 [.int .i64 4]),(2,.box 4 [.bool false])] 3 (.str (gI s 4 false 2).t) [(0,.box 9 [.str s]),(1,.box 3 [.int .i64 (gI s 4 false 2).a]),(2,.box 4 [.bool (gI s 4 false 2).sh])]:=Bg s 4 false 2 (by omega) (by omega) (by omega)
 have kb:=wV (gI s 4 false 2).t (by have:=FC s 4 false 2;omega)
 by_cases h6:s.length<6
 ·have e:bF s=([],8):=by unfold bF;rw [if_neg h1,if_pos (.inl h6)]
  have e5:gI s 4 false 2=⟨List.replicate 2 0,4,true⟩:=by unfold gI;rw [if_pos (by omega)]
  rw [e5] at kt2 kb
  have e6:((bY (List.replicate 2 0):Nat):Int)=0:=by decide
  rw [e6] at kb
  rw [e]
  (repeat' with_reducible first|intro _|refine rz ?_|refine ra ?_ ?_|omega|simp only [go_sem,f1])
  refine ah.i [0,2,3] kt1 3 ?_
  (repeat' with_reducible first|intro _|refine rz ?_|refine ra ?_ ?_|omega|simp only [go_sem,f3])
  refine ah.i [0,2,3] kt2 3 ?_
  (repeat' with_reducible first|intro _|exact dn|refine rn ?_|refine ra ?_ ?_)
  refine ah.k kb ?_
  (repeat' with_reducible first|intro _|exact dn|refine rn ?_|refine ra ?_ ?_)
  refine aH.intro (fun _:Nat=>⟨104,[(24,.int .i64 0),(23,.int .i64 0),(7,.own 3),(6,.fn 91 [.ptr 0 0,.ptr 1 0,.ptr 2 0]),(5,.ptr 2 0),(4,.ptr 1 0),(1,.ptr 0 0)],[(0,.box 9 [.str s]),(1,.box 3 [.int .i64 4]),(2,.box 4 [.bool true]),(3,.row 75 (Jd []))],4⟩) (fun _=>True) (fun i=>i) 0 ?_ trivial fun i _=>?_
  ·refine aK.ak rfl ?_ ?_<;>simp only [go_sem,Int.natCast_succ]
   all_goals first|rfl|exact ⟨rfl,rfl⟩|trace_state
  (repeat' with_reducible first|intro _|exact dn|refine rn ?_|refine ra ?_ ?_)
  refine bg.auto 1 ?_ rfl ?_<;>simp only [go_sem,Int.natCast_succ,Post]
 have e5:gI s 4 false 2=⟨(s.drop 4).take 2,6,false⟩:=by unfold gI;rw [if_neg (by omega)]
 rw [e5] at kt2 kb
 have hm:=Vw (s:=(s.drop 4).take 2) (List.length_take_le _ _)
 obtain ⟨M,hM⟩:∃ M,bY ((s.drop 4).take 2)=M:=⟨_,rfl⟩
 dsimp only at kb
 rw [hM] at kb hm
 (repeat' with_reducible first|intro _|refine rz ?_|refine ra ?_ ?_|omega|simp only [go_sem,f1])
 refine ah.i [0,2,3] kt1 3 ?_
 (repeat' with_reducible first|intro _|refine rz ?_|refine ra ?_ ?_|omega|simp only [go_sem,f3])
 refine ah.i [0,2,3] kt2 3 ?_
 (repeat' with_reducible first|intro _|exact dn|refine rn ?_|refine ra ?_ ?_)
 refine ah.k kb ?_
 (repeat' with_reducible first|intro _|exact dn|refine rn ?_|refine ra ?_ ?_)
 have hls:=fun i=>MH (s:=s) (by omega) i
 have hN:UF s=M:=hM
 refine aH.intro (fun x:Nat × LS=>⟨104,[(24,.int .i64 x.1),(23,.int .i64 M),(7,.own 3),(6,.fn 91 [.ptr 0 0,.ptr 1 0,.ptr 2 0]),(5,.ptr 2 0),(4,.ptr 1 0),(1,.ptr 0 0)],[(0,.box 9 [.str s]),(1,.box 3 [.int .i64 x.2.a]),(2,.box 4 [.bool x.2.sh]),(3,.row 75 (Jd (en0 x.2.l)))],4⟩)
  (fun x=>x.1≤M∧x.2.a≤s.length∧x.2.l.length=x.1∧(x.2.sh=false→x.2=ls s x.1)∧(x.2.sh=true→(qo s).sh=true)) (fun x=>M - x.1) (0,⟨[],6,false⟩) ?_ ⟨Nat.zero_le _,(show 6≤s.length by omega),rfl,fun _=>rfl,fun h=>by cases h⟩ fun x hi=>?_
 ·refine aK.ak rfl ?_ ?_<;>simp only [go_sem,Int.natCast_succ]
  all_goals first|rfl|exact ⟨rfl,rfl⟩|trace_state
 obtain ⟨i,l,a,sh⟩:=x
 obtain ⟨hiM,ha1,hlen,hno,hyes⟩:=hi
 dsimp only at hiM ha1 hlen hno hyes
 have hel:=yX l
 by_cases hlt:i<M
 ·have f4:((i:Int)<(M:Int))=True:=eq_true (by omega)
  cases sh with
  | true=>
   have e:bF s=([],8):=by
    unfold bF
    rw [if_neg h1,if_neg (by rw [h3];simp;omega),if_pos (hyes rfl)]
   rw [e]
   (repeat' with_reducible first|intro _|refine rz ?_|refine ra ?_ ?_|omega|simp only [go_sem,f4])
   refine bg.auto 1 ?_ rfl ?_<;>simp only [go_sem,Int.natCast_succ,Post]
  | false=>
   have hq:=hno rfl
   have hst:ls s (i+1)=⟨(ls s i).l++[((xQ s (ls s i).a (ls s i).sh).n,(xQ s (ls s i).a (ls s i).sh).k)],(xQ s (ls s i).a (ls s i).sh).a,(xQ s (ls s i).a (ls s i).sh).sh⟩:=rfl
   have hsM:=@Qe s (i+1)
   rw [←hq] at hst
   rw [hst] at hsM
   dsimp only at hst hsM
   have hR:=Ti s a
   have hRd:Px s a=⟨(gI s (gI s a false 1).a (gI s a false 1).sh (bY (gI s a false 1).t)).t,bY (gI s (gI s (gI s a false 1).a (gI s a false 1).sh (bY (gI s a false 1).t)).a (gI s (gI s a false 1).a (gI s a false 1).sh (bY (gI s a false 1).t)).sh 4).t,(gI s (gI s (gI s a false 1).a (gI s a false 1).sh (bY (gI s a false 1).t)).a (gI s (gI s a false 1).a (gI s a false 1).sh (bY (gI s a false 1).t)).sh 4).a,(gI s (gI s (gI s a false 1).a (gI s a false 1).sh (bY (gI s a false 1).t)).a (gI s (gI s a false 1).a (gI s a false 1).sh (bY (gI s a false 1).t)).sh 4).sh⟩:=rfl
   rw [hRd] at hR
   have kt1:gU Tryz.prog 91 [.int .i64 1,.ptr 0 0,.ptr 1 0,.ptr 2 0] [(0,.box 9 [.str s]),(1,.box 3 [.int .i64 a]),(2,.box 4 [.bool false])] 3 (.str (gI s a false 1).t) [(0,.box 9 [.str s]),(1,.box 3 [.int .i64 (gI s a false 1).a]),(2,.box 4 [.bool (gI s a false 1).sh])]:=Bg s a false 1 (by omega) ha1 (by omega)
   have b1:=RG (s:=s) false 1 ha1
   have l1:=FC s a false 1
   have n1:=num1 l1
   have kb1:=wV (gI s a false 1).t (by omega)
   generalize gI s a false 1=X at *
   have kt2:=Bg s X.a X.sh (bY X.t) (by omega) b1 (by omega)
   have b2:=RG (s:=s) X.sh (bY X.t) b1
   generalize gI s X.a X.sh (bY X.t)=Y at *
   have kt3:gU Tryz.prog 91 [.int .i64 4,.ptr 0 0,.ptr 1 0,.ptr 2 0] [(0,.box 9 [.str s]),(1,.box 3 [.int .i64 Y.a]),(2,.box 4 [.bool Y.sh])] 3 (.str (gI s Y.a Y.sh 4).t) [(0,.box 9 [.str s]),(1,.box 3 [.int .i64 (gI s Y.a Y.sh 4).a]),(2,.box 4 [.bool (gI s Y.a Y.sh 4).sh])]:=Bg s Y.a Y.sh 4 (by omega) b2 (by omega)
   have b3:=RG (s:=s) Y.sh 4 b2
   have l3:=FC s Y.a Y.sh 4
   have kb3:=wV (gI s Y.a Y.sh 4).t l3
   have n3:=WO l3
   generalize gI s Y.a Y.sh 4=Z at *
   dsimp only at hR
   (repeat' with_reducible first|intro _|refine rz ?_|refine ra ?_ ?_|omega|simp only [go_sem,f4])
   refine ah.i [0,1,2] kt1 3 ?_
   (repeat' with_reducible first|intro _|exact dn|refine rn ?_|refine ra ?_ ?_)
   refine ah.k kb1 ?_
   (repeat' with_reducible first|intro _|exact dn|refine rn ?_|refine ra ?_ ?_)
   refine ah.i [0,1,2] kt2 3 ?_
   (repeat' with_reducible first|intro _|exact dn|refine rn ?_|refine ra ?_ ?_)
   refine ah.i [0,1,2] kt3 3 ?_
   (repeat' with_reducible first|intro _|exact dn|refine rn ?_|refine ra ?_ ?_)
   refine ah.k kb3 ?_
   (repeat' with_reducible first|intro _|exact dn|refine rn ?_|refine ra ?_ ?_)
   refine ⟨(i+1,⟨l++[(Y.t,bY Z.t)],Z.a,Z.sh⟩),aK.ak rfl ?_ ?_,⟨by omega,b3,by simp [hlen],fun hz=>?_,fun hz=>?_⟩,by dsimp only;omega⟩
   ·simp only [go_sem,Int.natCast_succ]
   ·simp only [go_sem,Int.natCast_succ]
    all_goals first|rfl|(unfold en0;rw [List.map_append,List.map_append];rfl)
   ·dsimp only at hz ⊢
    rw [hst,←hR.2 hz]
   ·have hz2:Z.sh=true:=hz
    rw [hz2] at hR
    have h:=hsM hR.1.symm (M - (i+1))
    rw [show i+1+(M - (i+1))=M by omega] at h
    unfold qo;rw [hN];exact h
 have e:i=M:=by omega
 subst e
 have f4:((i:Int)<(i:Int))=False:=eq_false (by omega)
 cases sh with
 | true=>
  have e:bF s=([],8):=by
   unfold bF
   rw [if_neg h1,if_neg (by rw [h3];simp;omega),if_pos (hyes rfl)]
  rw [e]
  (repeat' with_reducible first|intro _|refine rz ?_|refine ra ?_ ?_|omega|simp only [go_sem,f4])
  refine bg.auto 1 ?_ rfl ?_<;>simp only [go_sem,Int.natCast_succ,Post]
 | false=>
 have hq:=hno rfl
 have hO:qo s=ls s i:=by unfold qo;rw [hN]
 obtain ⟨_,hk,ha0,_⟩:=hls i
 have hL:bF s=if a+dG l+8≠s.length then ([],8) else if jc (s.take a)≠s.drop (a+dG l) then ([],14) else if rX (l.map Prod.fst) l.length≠0 then ([],rX (l.map Prod.fst) l.length) else (dV l a,0):=by
  unfold bF
  rw [if_neg h1,if_neg (by rw [h3];simp;omega),hO,←hq,if_neg (fun h=>by cases h)]
 rw [←hq] at hk ha0
 dsimp only at hk ha0
 clear hls hO hN hM hq hno hyes kt1 kt2 kb
 have htk0:List.take (a - 0) s=s.take a:=rfl
 (repeat' with_reducible first|intro _|refine rz ?_|refine ra ?_ ?_|omega|simp only [go_sem,f4,htk0])
 rw [hel]
 refine aH.intro (fun j:Nat=>⟨104,[(47,.int .i64 j),(46,.int .i64 l.length),(45,.own 2),(9,.str (s.take a)),(7,.own 2),(4,.ptr 1 0),(1,.ptr 0 0)],[(0,.box 9 [.str s]),(1,.box 3 [.int .i64 (a+dG (l.take j):Nat)]),(2,.row 75 (Jd (tJ l a j)))],3⟩) (fun j=>j≤l.length∧a+dG (l.take j)≤s.length) (fun j=>l.length - j) 0 ?_ ⟨Nat.zero_le _,ha1⟩ fun j hj=>?_
 ·refine aK.ak rfl ?_ ?_<;>simp only [go_sem,Int.natCast_succ]
  all_goals first|rfl|exact ⟨rfl,rfl⟩|trace_state
 obtain ⟨hj1,hj2⟩:=hj
 have hml:=HY l a hj1
 by_cases hlt:j<l.length
 ·have f7:((j:Int)<(l.length:Int))=True:=eq_true (by omega)
  have hml2:=HY l a (show j+1≤l.length by omega)
  have hat:=TP l a hlt
  have hset:=Ql l a hlt
  have hee:=qW (tJ l a j) (i:=j) (by omega)
  have hee2:=qW (tJ l a (j+1)) (i:=j) (by omega)
  have hsk:=OB l hlt
  have hsl:=Ur l (j+1)
  rw [hat] at hee
  rw [←hset,List.getD_eq_getElem?_getD (l:=(tJ l a j).set _ _),List.getElem?_set_self (by omega)] at hee2
  generalize l.getD j ([],0)=x at *
  obtain ⟨xn,xk⟩:=x
  dsimp only [Option.getD_some] at hset hee hee2 hsk
  obtain ⟨z,hz⟩:∃ z,a+dG (l.take j)=z:=⟨_,rfl⟩
  have hrow:(List.map En.av (tJ l a j)).set j [.str xn,.int .i64 (z:Int),.int .i64 xk]=(tJ l a (j+1)).map En.av:=by rw [←hset,List.map_set,hz];rfl
  rw [hset,hz] at hee2
  have hz2:z+xk=a+dG (l.take (j+1)):=by omega
  rw [hz] at hj2 ⊢
  by_cases h5:s.length<z+xk
  ·have f8:((s.length:Int) - (z:Int)<(xk:Int))=True:=eq_true (by omega)
   rw [if_pos (by omega)] at hL
   rw [hL]
   (repeat' with_reducible first|intro _|refine rz ?_|refine ra ?_ ?_|omega|simp only [go_sem,f7,hee,hml,dM,hrow])
   refine bC.lex [] [] (by kernel_rfl) (by kernel_rfl) ?_
   (repeat' with_reducible first|intro _|refine rz ?_|refine ra ?_ ?_|omega|simp only [go_sem,hee2,hml2,dM,f8])
   refine bg.auto 1 ?_ rfl ?_<;>simp only [go_sem,Int.natCast_succ,Post]
  ·have f8:((s.length:Int) - (z:Int)<(xk:Int))=False:=eq_false (by omega)
   have e1:(z:Int)+(xk:Int)=((z+xk:Nat):Int):=by omega
   (repeat' with_reducible first|intro _|refine rz ?_|refine ra ?_ ?_|omega|simp only [go_sem,f7,hee,hml,dM,hrow])
   refine bC.lex [] [] (by kernel_rfl) (by kernel_rfl) ?_
   (repeat' with_reducible first|intro _|refine rz ?_|refine ra ?_ ?_|omega|simp only [go_sem,hee2,hml2,dM,f8])
   refine bC.lex [7] [] (by kernel_rfl) (by kernel_rfl) ?_
   (repeat' with_reducible first|intro _|refine rz ?_|refine ra ?_ ?_|omega|simp only [go_sem,hee2,hml2,dM,e1])
   refine ⟨j+1,aK.ak rfl ?_ ?_,⟨by omega,by omega⟩,by omega⟩<;>simp only [go_sem,Int.natCast_succ,hz2]
 have e:j=l.length:=by omega
 subst e
 rw [List.take_length] at hj2 ⊢
 have f7:((l.length:Int)<(l.length:Int))=False:=eq_false (by omega)
 have hmx:tJ l a l.length=dV l a:=by
  unfold tJ
  rw [List.take_of_length_le (by rw [dN];exact Nat.le_refl _),List.drop_of_length_le (by rw [yX];exact Nat.le_refl _),List.append_nil]
 rw [hmx]
 by_cases h5:a+dG l+8=s.length
 rotate_left
 ·have f5:((s.length:Int) - ((a+dG l:Nat):Int)=8)=False:=eq_false (by omega)
  rw [if_pos h5] at hL
  rw [hL]
  (repeat' with_reducible first|intro _|refine rz ?_|refine ra ?_ ?_|omega|simp only [go_sem,f7,f5])
  refine bg.auto 1 ?_ rfl ?_<;>simp only [go_sem,Int.natCast_succ,Post]
 have f5:((s.length:Int) - ((a+dG l:Nat):Int)=8)=True:=eq_true (by omega)
 rw [if_neg (fun h=>h h5)] at hL
 have ks:=qC (s.take a) (by rw [List.length_take];omega)
 have e2:(s.drop (a+dG l)).take (s.length - (a+dG l))=s.drop (a+dG l):=List.take_of_length_le (by rw [List.length_drop];exact Nat.le_refl _)
 generalize hS:jc (s.take a)=S at *
 obtain ⟨D,hD⟩:∃ D,s.drop (a+dG l)=D:=⟨_,rfl⟩
 rw [hD] at hL e2
 (repeat' with_reducible first|intro _|refine rz ?_|refine ra ?_ ?_|omega|simp only [go_sem,f7,f5])
 refine bC.lex [] [] (by kernel_rfl) (by kernel_rfl) ?_
 (repeat' with_reducible first|intro _|refine rz ?_|refine ra ?_ ?_|omega|simp only [go_sem,e2,hD])
 (refine QV.intro (.str S) ?_ ?_;focus ((repeat' with_reducible first|intro _|exact dn|refine rn ?_|refine ra ?_ ?_);refine ah.k (ks) ?_;(repeat' with_reducible first|intro _|exact dn|refine rn ?_|refine ra ?_ ?_)))
 by_cases h6:S=D
 rotate_left
 ·have f6:(S=D)=False:=eq_false h6
  rw [if_pos h6] at hL
  rw [hL]
  (repeat' with_reducible first|intro _|refine rz ?_|refine ra ?_ ?_|omega|simp only [go_sem,e2,hD,f6])
  refine bg.auto 1 ?_ rfl ?_<;>simp only [go_sem,Int.natCast_succ,Post]
 have f6:(S=D)=True:=eq_true h6
 rw [if_neg (fun h=>h h6)] at hL
 (repeat' with_reducible first|intro _|refine rz ?_|refine ra ?_ ?_|omega|simp only [go_sem,e2,hD,f6])
 have hen:=dN l a
 rw [hen]
 have hnl:(l.map Prod.fst).length=l.length:=List.length_map _
 refine aH.intro (fun j:Nat=>⟨104,[(87,.int .i64 j),(86,.int .i64 l.length),(85,.own 0),(11,.own 1),(7,.own 0)],[(0,.row 75 (Jd (dV l a))),(1,.map (((l.map Prod.fst).take j).map .str) (((l.map Prod.fst).take j).map fun _=>.bool true))],2⟩) (fun j=>j≤l.length∧rX (l.map Prod.fst) j=0) (fun j=>l.length - j) 0 ?_ ⟨Nat.zero_le _,rfl⟩ fun j hj=>?_
 ·refine aK.ak rfl ?_ ?_<;>simp only [go_sem,Int.natCast_succ]
  all_goals first|rfl|exact ⟨rfl,rfl⟩|trace_state
 obtain ⟨hj1,hj3⟩:=hj
 by_cases hlt:j<l.length
 ·have f9:((j:Int)<(l.length:Int))=True:=eq_true (by omega)
  have hst:rX (l.map Prod.fst) (j+1)=if rX (l.map Prod.fst) j≠0 then rX (l.map Prod.fst) j else if dJ ((l.map Prod.fst).getD j [])=true then (if (l.map Prod.fst).getD j []∈(l.map Prod.fst).take j then 6 else 0) else 5:=rfl
  have hle:=@JU (l.map Prod.fst) (j+1) l.length
  have hnm:=LG l a j
  have hee:=qW (dV l a) (i:=j) (by omega)
  have htk:(l.map Prod.fst).take (j+1)=(l.map Prod.fst).take j++[(l.map Prod.fst).getD j []]:=by
   have hjl:j<(l.map Prod.fst).length:=by omega
   rw [List.take_succ_eq_append_getElem hjl,getD_lt hjl]
  rw [hj3,if_neg (by simp),←hnm] at hst
  rw [←hnm] at htk
  generalize (dV l a).getD j En.zero=x at *
  obtain ⟨xn,xa,xk⟩:=x
  dsimp only at hst hee htk
  have kn:=DL xn
  (repeat' with_reducible first|intro _|refine rz ?_|refine ra ?_ ?_|omega|simp only [go_sem,f9,hee,hen,dM])
  refine ah.k kn ?_
  cases hn:dJ xn with
  | false=>
   rw [hn,if_neg (by decide)] at hst
   have h0:=hle (by rw [hst];decide) (by omega)
   rw [h0,hst,if_pos (by decide)] at hL
   rw [hL]
   (repeat' with_reducible first|intro _|exact dn|refine rn ?_|refine ra ?_ ?_)
   refine bg.auto 1 ?_ rfl ?_<;>simp only [go_sem,Int.natCast_succ,Post]
  | true=>
   rw [hn,if_pos rfl] at hst
   have g:=lI ((l.map Prod.fst).take j) xn
   by_cases hd:xn∈(l.map Prod.fst).take j
   ·rw [if_pos hd] at hst
    have h0:=hle (by rw [hst];decide) (by omega)
    rw [h0,hst,if_pos (by decide)] at hL
    rw [hL]
    rw [decide_eq_true hd] at g
    (repeat' with_reducible first|intro _|refine rz ?_|refine ra ?_ ?_|omega|simp only [go_sem,g])
    refine bg.auto 1 ?_ rfl ?_<;>simp only [go_sem,Int.natCast_succ,Post]
   ·rw [if_neg hd] at hst
    rw [decide_eq_false hd] at g
    have hins:uU ((l.map Prod.fst).take j) xn=(l.map Prod.fst).take (j+1):=by unfold uU;rw [if_neg hd,htk]
    (repeat' with_reducible first|intro _|refine rz ?_|refine ra ?_ ?_|omega|simp only [go_sem,g])
    refine ⟨j+1,aK.ak rfl ?_ ?_,⟨by omega,hst⟩,by omega⟩<;>simp only [go_sem,Int.natCast_succ,hins]
 ·have e:j=l.length:=by omega
  subst e
  rw [if_neg (by rw [hj3];simp)] at hL
  rw [hL]
  (repeat' with_reducible first|intro _|refine rz ?_|refine ra ?_ ?_|omega|simp only [go_sem,f7])
  refine bg.auto 1 ?_ rfl ?_<;>simp only [go_sem,Int.natCast_succ,Post]
theorem J8 (s:Bytes) (hs:s.length≤140737488351232):fD Tryz.prog 40 [.str s] (.tup [.ro (Jd (bF s).1),.int .i64 (bF s).2]) []:=
 fD.RN (fD.iF (J9 s hs) rfl (by simp [iE,iD,lq,iU,mP,Jd,En.av])) (by simp [fH,aO,aT,bT,aF,lk,aI])
end Go.Fv.H
/- shrink.Add and the reference's AddTo: the walk. -/
namespace Go.Fv.H
open Go Go.Proofs
theorem Lr (s:Bytes):∀ (l:List (Bytes × Nat)) (a:Nat),(dL ((dV l a).map fun y=>(y.n,(s.drop y.a).take y.k))).length≤dG l
 | [],_=>Nat.zero_le _
 | x::l,a=>by
  have ih:=Lr s l (a+x.2)
  have e:dG (x::l)=x.2+dG l:=by unfold dG;simp
  show ((s.drop a).take x.2++dL ((dV l (a+x.2)).map fun y=>(y.n,(s.drop y.a).take y.k))).length≤_
  rw [List.length_append,List.length_take,e];omega
theorem Ie {l:List Bytes}:∀ i,i≤l.length→rX l i=0→∀ x,x∈l.take i→dJ x=true
 | 0,_,_,x,hx=>by cases hx
 | i+1,hi,h,x,hx=>by
  have h0:rX l i=0:=Classical.byContradiction fun h2=>h2 ((JU h2 (Nat.le_succ i)).symm.trans h)
  have hs:rX l (i+1)=if rX l i≠0 then rX l i else if dJ (l.getD i [])=true then (if l.getD i []∈l.take i then 6 else 0) else 5:=rfl
  have hil:i<l.length:=by omega
  rw [List.take_succ_eq_append_getElem hil] at hx
  rcases List.mem_append.1 hx with hx|hx
  ·exact Ie i (by omega) h0 x hx
  ·rw [List.mem_singleton.1 hx]
   rw [h0,if_neg (by simp),h] at hs
   split at hs
   ·rename_i h1
    simpa [List.getD_eq_getElem?_getD,hil] using h1
   ·cases hs
theorem Vx {s:Bytes} (h:(bF s).2=0):(oO s).length≤65535∧(∀ x,x∈oO s→x.1.length≤40)∧(∀ x,x∈oO s→x.2.length≤4194304)∧(dL (oO s)).length≤4194304:=by
 have k:=uX h
 have hl:=wQ s
 have hin:=fun x hx=>Aj (s:=s) (x:=x) hx
 have hk:=k.len
 refine ⟨by unfold oO;rw [List.length_map];exact hl,fun x hx=>?_,fun x hx=>?_,?_⟩
 ·unfold oO at hx
  obtain ⟨y,hy,rfl⟩:=List.mem_map.1 hx
  have hy2:y.n∈(bF s).1.map En.n:=List.mem_map.2 ⟨y,hy,rfl⟩
  rw [jL k] at hy2
  dsimp only at hy2
  rw [qV] at hy2
  have:=Ie _ (by simp) k.nm y.n (by rw [List.take_of_length_le (by simp)];exact hy2)
  exact (lZ this).2
 ·unfold oO at hx
  obtain ⟨y,hy,rfl⟩:=List.mem_map.1 hx
  have:=hin y hy
  dsimp only
  rw [List.length_take];omega
 ·unfold oO
  rw [jL k]
  have:=Lr s (qo s).l (qo s).a
  have:=k.sum
  dsimp only
  omega
theorem MP {s:Bytes} (h:(bF s).2=0) {n c:Bytes} (hn:n.length≤40) (hc:17≤c.length∧c.length≤1048597):Sl (oO s++[(n,c)])∧(2≤(oO s++[(n,c)]).length→0<(dL (oO s++[(n,c)])).length):=by
 obtain ⟨h1,h2,h3,h4⟩:=Vx h
 have e:(dL (oO s++[(n,c)])).length=(dL (oO s)).length+c.length:=by rw [wH,List.length_append]
 refine ⟨⟨by rw [List.length_append];show _+1≤_;omega,fun x hx=>?_,fun x hx=>?_,by omega⟩,fun _=>by omega⟩
 ·rcases List.mem_append.1 hx with hx|hx
  ·have:=h2 x hx;omega
  ·rw [List.mem_singleton.1 hx];dsimp only;omega
 ·rcases List.mem_append.1 hx with hx|hx
  ·have:=h3 x hx;omega
  ·rw [List.mem_singleton.1 hx];dsimp only;omega
theorem Io {x:NP} {kind:Int} (h:(fA [x] kind).2=0):dJ x.n=true∧x.Ok∧1≤kind∧kind≤5:=by
 obtain ⟨_,_,hP,_,hk⟩:=yT h
 exact ⟨hP.name x (by simp),hP.ok x (by simp),hk⟩
def lu (s:Bytes) (Q:List En) (i:Nat):List (Bytes × Bytes):=(Q.take i).map fun y=>(y.n,(s.drop y.a).take y.k)
theorem DU (s:Bytes) {Q:List En} {i:Nat} (h:i<Q.length):lu s Q (i+1)=lu s Q i++[((Q.getD i En.zero).n,(s.drop (Q.getD i En.zero).a).take (Q.getD i En.zero).k)]:=by
 unfold lu
 rw [List.take_succ_eq_append_getElem h,List.map_append,getD_lt h];rfl
theorem Ik (s:Bytes) {Q:List En} {i:Nat} (h:i≤Q.length):(lu s Q i).length=i:=by unfold lu;rw [List.length_map,List.length_take];omega
set_option maxHeartbeats 8000000 in
theorem OT (s:Bytes) (hs:s.length≤140737488351232) (x:NP) (kind:Int):aC Tryz.prog 36 [.str s,.agg [.str x.n,.int .i64 x.W,.int .i64 x.H,.ro (.bools x.p)],.int .i64 kind] (.tup [.str (pF s x kind).1,.int .i64 (pF s x kind).2]) []:=by
 have kl:=TK s hs
 have kp:aC Tryz.prog 38 [.ro (.objs 4 [[.str x.n,.int .i64 x.W,.int .i64 x.H,.ro (.bools x.p)]]),.int .i64 kind] (.tup [.str (fA [x] kind).1,.int .i64 (fA [x] kind).2]) []:=MQ [x] kind
 have hin:=fun z hz=>Aj (s:=s) (x:=z) hz
 have hlen:=wQ s
 obtain ⟨R,hR⟩:∃ R,pF s x kind=R:=⟨_,rfl⟩
 rw [hR]
 unfold pF at hR
 have hadd:=@MP s
 have hold:oO s=(bF s).1.map fun y=>(y.n,(s.drop y.a).take y.k):=rfl
 have hone:=@Io x kind
 have kd:=zK x
 rw [hold] at hadd hR
 generalize bF s=q at *
 obtain ⟨Q,e⟩:=q
 generalize fA [x] kind=pq at *
 obtain ⟨ps,pe⟩:=pq
 generalize hcd:oC kind x=D at *
 have hDl:∀ hk:1≤kind∧kind≤5,x.Ok→17≤D.length∧D.length≤1048597:=fun hk h=>by rw [←hcd];exact uI hk h
 have kd:=fun h (hk:1≤kind∧kind≤5)=>kd h kind hk
 rw [hcd] at kd
 obtain ⟨xn,xw,xh,xp⟩:=x
 dsimp only at hR kl kp hin hlen hadd hone kd
 refine aC.aJ Tryz.func36 rfl (by decide) (by simp [Tryz.f36]) [.tmp 6,.tmp 7] rfl fun w0 T0 _=>?_
 simp only [Tryz.f36,aB]
 by_cases he:e=0
 rotate_left
 ·have f1:(e=0)=False:=eq_false he
  rw [if_pos he] at hR
  rw [←hR]
  (repeat' with_reducible first|intro _|exact dn|refine rn ?_|refine ra ?_ ?_)
  refine ah.f kl 0 ?_
  (repeat' with_reducible first|intro _|refine rz ?_|refine ra ?_ ?_|omega|simp only [go_sem,f1])
  refine bg.auto 0 ?_ rfl ?_<;>simp only [go_sem,Int.natCast_succ,Post]
 have f1:(e=0)=True:=eq_true he
 rw [if_neg (by omega)] at hR
 by_cases hp:pe=0
 rotate_left
 ·have f2:(pe=0)=False:=eq_false hp
  rw [if_pos hp] at hR
  rw [←hR]
  (repeat' with_reducible first|intro _|exact dn|refine rn ?_|refine ra ?_ ?_)
  refine ah.f kl 0 ?_
  (repeat' with_reducible first|intro _|refine rz ?_|refine ra ?_ ?_|omega|simp only [go_sem,f1])
  refine ah.k kp ?_
  (repeat' with_reducible first|intro _|refine rz ?_|refine ra ?_ ?_|omega|simp only [go_sem,f2])
  refine bg.auto 0 ?_ rfl ?_<;>simp only [go_sem,Int.natCast_succ,Post]
 have f2:(pe=0)=True:=eq_true hp
 rw [if_neg (by omega)] at hR
 obtain ⟨o1,o2,o3⟩:=hone hp
 have hD:=hDl o3 o2
 have hA:=hadd he (c:=D) (n:=xn) (lZ o1).2 hD
 have kd:=kd o2 o3
 (repeat' with_reducible first|intro _|exact dn|refine rn ?_|refine ra ?_ ?_)
 refine ah.f kl 0 ?_
 (repeat' with_reducible first|intro _|refine rz ?_|refine ra ?_ ?_|omega|simp only [go_sem,f1])
 refine ah.k kp ?_
 (repeat' with_reducible first|intro _|refine rz ?_|refine ra ?_ ?_|omega|simp only [go_sem,f2,List.length_map])
 refine aH.intro (fun i:Nat=>⟨81,[(36,.int .i64 i),(35,.int .i64 Q.length),(34,.ro (Jd Q)),(12,.own 1),(8,.ro (Jd Q)),(4,.ptr 0 0),(2,.int .i64 kind),(0,.str s)],[(0,.box 63 [.str xn,.int .i64 xw,.int .i64 xh,.ro (.bools xp)]),(1,.row 124 (its (lu s Q i)))],2⟩) (fun i=>i≤Q.length∧xn∉(Q.take i).map En.n) (fun i=>Q.length - i) 0 ?_ ⟨Nat.zero_le _,by simp⟩ fun i hi=>?_
 ·refine aK.ak rfl ?_ ?_<;>simp only [go_sem,Int.natCast_succ]
  all_goals first|rfl|exact ⟨rfl,rfl⟩|trace_state
 obtain ⟨hi,hni⟩:=hi
 have hol:=Ik s hi
 by_cases hlt:i<Q.length
 ·have f7:((i:Int)<(Q.length:Int))=True:=eq_true (by omega)
  have hee:=qW Q hlt
  have hst:=DU s hlt
  have hzi:=hin (Q.getD i En.zero) (by rw [getD_lt hlt];exact List.getElem_mem hlt)
  have hmem:(Q.getD i En.zero).n∈Q.map En.n:=List.mem_map.2 ⟨_,by rw [getD_lt hlt];exact List.getElem_mem hlt,rfl⟩
  have htk:(Q.take (i+1)).map En.n=(Q.take i).map En.n++[(Q.getD i En.zero).n]:=by rw [List.take_succ_eq_append_getElem hlt,List.map_append,getD_lt hlt];rfl
  generalize Q.getD i En.zero=z at *
  obtain ⟨zn,za,zk⟩:=z
  dsimp only at hee hst hzi hmem htk
  have ezk:(za:Int)+(zk:Int)=((za+zk:Nat):Int):=by omega
  have ezs:(s.drop za).take (za+zk - za)=(s.drop za).take zk:=by rw [Nat.add_sub_cancel_left]
  have hmap:(lu s Q i).map RY++[[.str zn,.str ((s.drop za).take zk)]]=(lu s Q (i+1)).map RY:=by rw [hst,List.map_append];rfl
  by_cases hd:zn=xn
  ·have f8:(zn=xn)=True:=eq_true hd
   rw [if_pos (hd▸hmem)] at hR
   rw [←hR]
   (repeat' with_reducible first|intro _|refine rz ?_|refine ra ?_ ?_|omega|simp only [go_sem,f7,hee,dM,List.length_map,f8])
   refine bg.auto 0 ?_ rfl ?_<;>simp only [go_sem,Int.natCast_succ,Post]
  ·have f8:(zn=xn)=False:=eq_false hd
   (repeat' with_reducible first|intro _|refine rz ?_|refine ra ?_ ?_|omega|simp only [go_sem,f7,hee,dM,List.length_map,f8])
   refine bC.lex [13,14] [(0,[1])] (by kernel_rfl) (by kernel_rfl) ?_
   (repeat' with_reducible first|intro _|refine rz ?_|refine ra ?_ ?_|omega|simp only [go_sem,ezk,ezs,hol,List.length_map])
   refine ⟨i+1,aK.ak rfl ?_ ?_,⟨by omega,?_⟩,by omega⟩
   ·simp only [go_sem,Int.natCast_succ,hmap]
   ·simp only [go_sem,Int.natCast_succ,hmap]
   ·rw [htk,List.mem_append,List.mem_singleton]
    exact fun h=>h.elim hni fun h=>hd h.symm
 have e:i=Q.length:=by omega
 subst e
 have f7:((Q.length:Int)<(Q.length:Int))=False:=eq_false (by omega)
 rw [List.take_length] at hni
 rw [if_neg hni] at hR
 have hoq:lu s Q Q.length=Q.map fun y=>(y.n,(s.drop y.a).take y.k):=by unfold lu;rw [List.take_length]
 rw [←hoq] at hR hA
 have hmap:(lu s Q Q.length).map RY++[[.str xn,.str D]]=(lu s Q Q.length++[(xn,D)]).map RY:=by rw [List.map_append];rfl
 have kj:=Dw _ hA.1
 have hql:Q.length≤65535:=hlen
 generalize iR (lu s Q Q.length++[(xn,D)])=B at *
 (repeat' with_reducible first|intro _|refine rz ?_|refine ra ?_ ?_|omega|simp only [go_sem,f7])
 refine bC.lex [8,9] [(0,[1])] (by kernel_rfl) (by kernel_rfl) ?_
 (repeat' with_reducible first|intro _|exact dn|refine rn ?_|refine ra ?_ ?_)
 (refine QV.intro (.str D) ?_ ?_;focus ((repeat' with_reducible first|intro _|exact dn|refine rn ?_|refine ra ?_ ?_);refine ah.k (kd) ?_;(repeat' with_reducible first|intro _|exact dn|refine rn ?_|refine ra ?_ ?_)))
 (repeat' with_reducible first|intro _|refine rz ?_|refine ra ?_ ?_|omega|simp only [go_sem,hol,List.length_map,hmap])
 (refine QV.intro (.str B) ?_ ?_;focus ((repeat' with_reducible first|intro _|exact dn|refine rn ?_|refine ra ?_ ?_);refine ah.k (kj) ?_;(repeat' with_reducible first|intro _|exact dn|refine rn ?_|refine ra ?_ ?_)))
 (repeat' with_reducible first|intro _|refine rz ?_|refine ra ?_ ?_|omega|simp only [go_sem,List.length_map])
 ·rename_i hb
  rw [if_pos (by omega)] at hR
  rw [←hR]
  refine bg.auto 0 ?_ rfl ?_<;>simp only [go_sem,Int.natCast_succ,Post]
 ·rename_i hb
  rw [if_neg (by omega)] at hR
  rw [←hR]
  refine bg.auto 0 ?_ rfl ?_<;>simp only [go_sem,Int.natCast_succ,Post]
end Go.Fv.H
/- The reference's AddTo: the walk. -/
namespace Go.Fv.H
open Go Go.Proofs
def RZ (Q:List En) (i:Nat):List NQ:=(Q.take i).map fun y=>⟨y.n,none⟩
theorem QJ {Q:List En} {i:Nat} (h:i<Q.length):(RZ Q (i+1)).map NQ.av=(RZ Q i).map NQ.av++[[.str (Q.getD i En.zero).n,.int .i64 0,.int .i64 0,.nilS]]:=by
 unfold RZ
 rw [List.take_succ_eq_append_getElem h,List.map_append,List.map_append,getD_lt h];rfl
theorem TV {Q:List En} {i:Nat} (h:i≤Q.length):(RZ Q i).length=i:=by unfold RZ;rw [List.length_map,List.length_take];omega
set_option maxHeartbeats 16000000 in
theorem Gl (s:Bytes) (hs:s.length≤140737488351232) (x:NP) (kind:Int):aC Tryz.prog 37 [.str s,.agg [.str x.n,.int .i64 x.W,.int .i64 x.H,.ro (.bools x.p)],.int .i64 kind] (.tup [.str (pF s x kind).1,.int .i64 (pF s x kind).2]) []:=by
 have kl:=J8 s hs
 have kp:aC Tryz.prog 34 [.ro (.objs 4 [[.str x.n,.int .i64 x.W,.int .i64 x.H,.ro (.bools x.p)]]),.int .i64 kind] (.tup [.str (fA [x] kind).1,.int .i64 (fA [x] kind).2]) []:=Az [x] kind
 have hin:=fun z hz=>Aj (s:=s) (x:=z) hz
 have hlen:=wQ s
 obtain ⟨R,hR⟩:∃ R,pF s x kind=R:=⟨_,rfl⟩
 rw [hR]
 unfold pF at hR
 have hadd:=@MP s
 have hold:oO s=(bF s).1.map fun y=>(y.n,(s.drop y.a).take y.k):=rfl
 have hone:=@Io x kind
 have kd:=zO x
 rw [hold] at hadd hR
 generalize bF s=q at *
 obtain ⟨Q,e⟩:=q
 generalize fA [x] kind=pq at *
 obtain ⟨ps,pe⟩:=pq
 generalize hcd:oC kind x=D at *
 have hDl:∀ hk:1≤kind∧kind≤5,x.Ok→17≤D.length∧D.length≤1048597:=fun hk h=>by rw [←hcd];exact uI hk h
 have kd:=fun h (hk:1≤kind∧kind≤5)=>kd h kind hk
 rw [hcd] at kd
 obtain ⟨xn,xw,xh,xp⟩:=x
 dsimp only at hR kl kp hin hlen hadd hone kd
 refine aC.aJ Tryz.func37 rfl (by decide) (by simp [Tryz.f37]) [.tmp 6,.tmp 7] rfl fun w0 T0 _=>?_
 simp only [Tryz.f37,aB]
 by_cases he:e=0
 rotate_left
 ·have f1:(e=0)=False:=eq_false he
  rw [if_pos he] at hR
  rw [←hR]
  (repeat' with_reducible first|intro _|exact dn|refine rn ?_|refine ra ?_ ?_)
  refine ah.f kl 0 ?_
  (repeat' with_reducible first|intro _|refine rz ?_|refine ra ?_ ?_|omega|simp only [go_sem,f1])
  refine bg.auto 0 ?_ rfl ?_<;>simp only [go_sem,Int.natCast_succ,Post]
 have f1:(e=0)=True:=eq_true he
 rw [if_neg (by omega)] at hR
 by_cases hp:pe=0
 rotate_left
 ·have f2:(pe=0)=False:=eq_false hp
  rw [if_pos hp] at hR
  rw [←hR]
  (repeat' with_reducible first|intro _|exact dn|refine rn ?_|refine ra ?_ ?_)
  refine ah.f kl 0 ?_
  (repeat' with_reducible first|intro _|refine rz ?_|refine ra ?_ ?_|omega|simp only [go_sem,f1])
  refine ah.k kp ?_
  (repeat' with_reducible first|intro _|refine rz ?_|refine ra ?_ ?_|omega|simp only [go_sem,f2])
  refine bg.auto 0 ?_ rfl ?_<;>simp only [go_sem,Int.natCast_succ,Post]
 have f2:(pe=0)=True:=eq_true hp
 rw [if_neg (by omega)] at hR
 obtain ⟨o1,o2,o3⟩:=hone hp
 have hD:=hDl o3 o2
 have hA:=hadd he (c:=D) (n:=xn) (lZ o1).2 hD
 have kd:=kd o2 o3
 (repeat' with_reducible first|intro _|exact dn|refine rn ?_|refine ra ?_ ?_)
 refine ah.f kl 0 ?_
 (repeat' with_reducible first|intro _|refine rz ?_|refine ra ?_ ?_|omega|simp only [go_sem,f1])
 refine ah.k kp ?_
 (repeat' with_reducible first|intro _|refine rz ?_|refine ra ?_ ?_|omega|simp only [go_sem,f2,List.length_map])
 refine aH.run (fun i:Nat=>⟨87,[(37,.int .i64 i),(36,.int .i64 Q.length),(35,.ro (Jd Q)),(12,.own 1),(13,.own 2),(8,.ro (Jd Q)),(4,.ptr 0 0),(2,.int .i64 kind),(0,.str s)],[(0,.box 63 [.str xn,.int .i64 xw,.int .i64 xh,.ro (.bools xp)]),(1,.row 63 (WM (RZ Q i))),(2,.row 9 (.strs ((lu s Q i).map Prod.snd)))],3⟩) (fun i=>i≤Q.length∧xn∉(Q.take i).map En.n) (fun i=>Q.length - i) 0 ?_ ⟨Nat.zero_le _,by simp⟩ fun i hi=>?_
 ·refine aK.ak rfl ?_ ?_<;>simp only [go_sem,Int.natCast_succ]
  all_goals first|rfl|exact ⟨rfl,rfl⟩|trace_state
 obtain ⟨hi,hni⟩:=hi
 have hol:=Ik s hi
 have hol2:((lu s Q i).map Prod.snd).length=i:=by rw [List.length_map,hol]
 have hpl:=TV hi
 by_cases hlt:i<Q.length
 ·have f7:((i:Int)<(Q.length:Int))=True:=eq_true (by omega)
  have hee:=qW Q hlt
  have hst:=congrArg (List.map Prod.snd) (DU s hlt)
  rw [List.map_append] at hst
  have hsq:=QJ hlt
  have hzi:=hin (Q.getD i En.zero) (by rw [getD_lt hlt];exact List.getElem_mem hlt)
  have hmem:(Q.getD i En.zero).n∈Q.map En.n:=List.mem_map.2 ⟨_,by rw [getD_lt hlt];exact List.getElem_mem hlt,rfl⟩
  have htk:(Q.take (i+1)).map En.n=(Q.take i).map En.n++[(Q.getD i En.zero).n]:=by rw [List.take_succ_eq_append_getElem hlt,List.map_append,getD_lt hlt];rfl
  generalize Q.getD i En.zero=z at *
  obtain ⟨zn,za,zk⟩:=z
  dsimp only at hee hst hzi hmem htk hsq
  replace hst:(lu s Q (i+1)).map Prod.snd=(lu s Q i).map Prod.snd++[(s.drop za).take zk]:=hst
  have ezk:(za:Int)+(zk:Int)=((za+zk:Nat):Int):=by omega
  have ezs:(s.drop za).take (za+zk - za)=(s.drop za).take zk:=by rw [Nat.add_sub_cancel_left]
  by_cases hd:zn=xn
  ·have f8:(zn=xn)=True:=eq_true hd
   rw [if_pos (hd▸hmem)] at hR
   rw [←hR]
   refine ig.of ?_
   (repeat' with_reducible first|intro _|refine rz ?_|refine ra ?_ ?_|omega|simp only [go_sem,f7,hee,dM,List.length_map,f8])
   refine bg.auto 0 ?_ rfl ?_<;>simp only [go_sem,Int.natCast_succ,Post]
  ·have f8:(zn=xn)=False:=eq_false hd
   refine ig.of ?_
   (repeat' with_reducible first|intro _|refine rz ?_|refine ra ?_ ?_|omega|simp only [go_sem,f7,hee,dM,List.length_map,f8])
   refine bC.fork (.quiet 0 (.quiet 1 (.quiet 2 (.quiet 3 (.quiet 6 (.quiet 7 (.quiet 8 (.quiet 9 (.quiet 10 (.quiet 11 (.quiet 12 (.quiet 13 (.quiet 14 (.quiet 15 (.eff 4 [15,14,13,12,11,10,9,8,7,6,0] (.eff 5 [15,14,13,12,11,10,9,8,7,6] (.eff 16 [6] (.eff 17 [] (.quiet 18 (.quiet 19 .done)) .none) .none) (.eff 16 [6,0] (.eff 5 [6] (.eff 17 [] (.quiet 18 (.quiet 19 .done)) .none) .none) .none)) (.eff 16 [6,3,2,1,0] (.eff 4 [6,0] (.eff 5 [6] (.eff 17 [] (.quiet 18 (.quiet 19 .done)) .none) .none) .none) .none)))))))))))))))) (by kernel_rfl) (by kernel_rfl) (by kernel_rfl) ?_
   (repeat' with_reducible first|intro _|refine rz ?_|refine ra ?_ ?_|omega|simp only [go_sem,ezk,ezs,hol2,hpl,List.length_map])
   all_goals
    refine ⟨i+1,aK.ak rfl ?_ ?_,⟨by omega,by rw [htk,List.mem_append,List.mem_singleton];exact fun h=>h.elim hni fun h=>hd h.symm⟩,by omega⟩<;>simp only [go_sem,Int.natCast_succ,hsq,hst]
 have e:i=Q.length:=by omega
 subst e
 have f7:((Q.length:Int)<(Q.length:Int))=False:=eq_false (by omega)
 rw [List.take_length] at hni
 rw [if_neg hni] at hR
 have hoq:lu s Q Q.length=Q.map fun y=>(y.n,(s.drop y.a).take y.k):=by unfold lu;rw [List.take_length]
 rw [←hoq] at hR hA
 have hmapS:(lu s Q Q.length).map Prod.snd++[D]=(lu s Q Q.length++[(xn,D)]).map Prod.snd:=by rw [List.map_append];rfl
 have hmapQ:(RZ Q Q.length).map NQ.av++[[.str xn,.int .i64 xw,.int .i64 xh,.ro (.bools xp)]]=(RZ Q Q.length++[(⟨xn,some (xw,xh,xp)⟩:NQ)]).map NQ.av:=by rw [List.map_append];rfl
 have kj:=AA (lu s Q Q.length++[(xn,D)]) (RZ Q Q.length++[⟨xn,some (xw,xh,xp)⟩]) (by unfold lu RZ;rw [List.map_append,List.map_append,List.map_map,List.map_map];rfl) hA.1 hA.2
 have hql:Q.length≤65535:=hlen
 generalize iR (lu s Q Q.length++[(xn,D)])=B at *
 refine ig.ent (aK.pre 12 1 rfl rfl) (ig.of ?_)
 (repeat' with_reducible first|intro _|refine rz ?_|refine ra ?_ ?_|omega|simp only [go_sem,f7])
 refine bC.lex [2,3,9,10] [(0,[1]),(4,[0,1,3]),(5,[0,1]),(6,[0,1]),(7,[0,1])] (by kernel_rfl) (by kernel_rfl) ?_
 (repeat' with_reducible first|intro _|refine rz ?_|refine ra ?_ ?_|omega|simp only [go_sem,hpl,hol2,List.length_map])
 (refine QV.intro (.str D) ?_ ?_;focus ((repeat' with_reducible first|intro _|exact dn|refine rn ?_|refine ra ?_ ?_);refine ah.k (kd) ?_;(repeat' with_reducible first|intro _|exact dn|refine rn ?_|refine ra ?_ ?_)))
 (repeat' with_reducible first|intro _|refine rz ?_|refine ra ?_ ?_|omega|simp only [go_sem,hol2,hpl,List.length_map,hmapQ,hmapS])
 (refine QV.intro (.str B) ?_ ?_;focus ((repeat' with_reducible first|intro _|exact dn|refine rn ?_|refine ra ?_ ?_);refine ah.k (kj) ?_;(repeat' with_reducible first|intro _|exact dn|refine rn ?_|refine ra ?_ ?_)))
 (repeat' with_reducible first|intro _|refine rz ?_|refine ra ?_ ?_|omega|simp only [go_sem,hol2,hpl,List.length_map])
 all_goals
  by_cases hb:4194304<B.length∨500≤Q.length
  ·rw [if_pos hb] at hR
   rw [←hR]
   first|(exfalso;omega)|(refine bg.auto 0 ?_ rfl ?_<;>simp only [go_sem,Int.natCast_succ,Post])
  ·rw [if_neg hb] at hR
   rw [←hR]
   first|(exfalso;omega)|(refine bg.auto 0 ?_ rfl ?_<;>simp only [go_sem,Int.natCast_succ,Post])
end Go.Fv.H
