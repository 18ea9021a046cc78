/-
  A part of the proof of the claim: walks over the program's functions and the plain laws that these need. No condition of its own.
-/
import Derived.Test.YtodlgmmbfbiilaaGreatDoorHArcCCardPart9
import Derived.Test.YtodlgmmbfbiilaaGreatDoorHArcCCardPart11
import Derived.Test.YtodlgmmbfbiilaaGreatDoorHArcCCardPart12
import Derived.Test.YtodlgmmbfbiilaaGreatDoorHArcCCardPart10
import Derived.Test.YtodlgmmbfbiilaaGreatDoorHArcCCardPart7
import Derived.Test.YtodlgmmbfbiilaaGreatDoorHArcCCardPart1
import Derived.Test.YtodlgmmbfbiilaaGreatDoorFvPart10
import Derived.Test.YtodlgmmbfbiilaaGreatDoorHArcCCardPart4
import Derived.Shelf.Strings.Repeat
set_option linter.unusedSimpArgs false
set_option linter.unusedVariables false
set_option linter.unnecessarySimpa false
set_option maxRecDepth 8000
/- The reference's Decode: the walk. -/
namespace Go.Fv.H
open Go Go.Proofs
theorem iw (e:Int):aA Tryz.prog 70 [.int .i64 e] (.tup [.agg [.int .i64 0,.int .i64 0,.nilS],.int .i64 e]) []:=by
 refine aA.aG Tryz.func70 rfl (by decide) (by simp [Tryz.f70]) [.cell 2 24,.tmp 3] rfl fun w0 T0 _=>?_
 simp only [Tryz.f70,au]
 (repeat' with_reducible first|intro _|exact dn|refine rn ?_|refine ra ?_ ?_)
 refine aU.auto 0 ?_ rfl ?_<;>simp only [go_sem,Int.natCast_succ,Post]
theorem tK (s:Bytes) (h:17≤s.length):(((s.getD 0 0).toNat:Nat):Int)=(dK s:Int):=by
 cases s with
 | nil=>simp at h
 | cons c s=>
  show ((c.toNat:Nat):Int)=((aT [c]:Nat):Int)
  have:aT [c]=c.toNat:=by show 0*256+c.toNat=_;omega
  rw [this]
theorem Pg (s:Bytes) (h:17≤s.length):(s.drop 9).take (s.length - 8 - 9)=dD s:=by
 unfold dD
 rw [show s.length - 8 - 9=s.length - 17 by omega]
theorem Iy (w h:Nat) (hw0:0<w) (hw:w≤4000) (hh:h≤4000) (hwh:w*h≤1048576) (d:Bytes) (hd:d.length≤100000000) (kind:Int) (hk:1≤kind∧kind≤4) (hq:(qU kind w h d).2=true) :
  aA Tryz.prog 73 [.int .i64 kind,.str d,.int .i64 w,.int .i64 h] (.tup [.agg [.int .i64 w,.int .i64 h,.own 0],.bool true]) [(0,.row 4 (.bools (qU kind w h d).1))]:=by
 have hc:kind=4∨kind=1∨kind=2∨kind=3:=by omega
 rcases hc with rfl|rfl|rfl|rfl
 ·have e:qU 4 w h d=lq w h d (w*h):=rfl
  rw [e] at hq ⊢
  have k:=NJ w h hw0 hw hh hwh d hd
  rw [hq] at k
  exact k
 ·have e:qU 1 w h d=kT (w*h) (iE d):=rfl
  rw [e] at hq ⊢
  unfold kT at hq ⊢
  split at hq
  ·cases hq
  ·rename_i hs
   rw [if_neg hs]
   exact Xf w h hw0 hw hh hwh d hd (by omega)
 ·have e:qU 2 w h d=dR w h (iE d):=rfl
  rw [e] at hq ⊢
  have k:=NH w h hw0 hw hh hwh d hd
  rw [hq] at k
  exact k
 ·have e:qU 3 w h d=dw h (List.replicate w false) (iE d):=rfl
  rw [e] at hq ⊢
  have k:=NI w h hw0 hw hh hwh d hd
  rw [hq] at k
  exact k
theorem Xg (w h:Nat) (hw0:0<w) (hw:w≤4000) (hh:h≤4000) (hwh:w*h≤1048576) (d:Bytes) (hd:d.length≤100000000) (kind:Int) (hk:1≤kind∧kind≤4) (hq:(qU kind w h d).2=false) :
  cO Tryz.prog 73 [.int .i64 kind,.str d,.int .i64 w,.int .i64 h] (.tup [.agg [.int .i64 w,.int .i64 h,.ro (.bools (qU kind w h d).1)],.bool false]) []:=by
 have hc:kind=4∨kind=1∨kind=2∨kind=3:=by omega
 rcases hc with rfl|rfl|rfl|rfl
 ·have e:qU 4 w h d=lq w h d (w*h):=rfl
  rw [e] at hq ⊢
  have k:=NJ w h hw0 hw hh hwh d hd
  rw [hq] at k
  exact cO.zl (cO.eY k rfl rfl) (by simp [dJ,aS,aV,bH,aH,lk,aI,nilRow])
 ·have e:qU 1 w h d=kT (w*h) (iE d):=rfl
  rw [e] at hq ⊢
  unfold kT at hq ⊢
  split at hq
  ·rename_i hs
   rw [if_pos hs]
   exact cO.zl (cO.eY (Xe w h hw0 hw hh hwh d hd hs) rfl rfl) (by simp [dJ,aS,aV,bH,aH,lk,aI,nilRow])
  ·cases hq
 ·have e:qU 2 w h d=dR w h (iE d):=rfl
  rw [e] at hq ⊢
  have k:=NH w h hw0 hw hh hwh d hd
  rw [hq] at k
  exact cO.zl (cO.eY k rfl rfl) (by simp [dJ,aS,aV,bH,aH,lk,aI,nilRow])
 ·have e:qU 3 w h d=dw h (List.replicate w false) (iE d):=rfl
  rw [e] at hq ⊢
  have k:=NI w h hw0 hw hh hwh d hd
  rw [hq] at k
  exact cO.zl (cO.eY k rfl rfl) (by simp [dJ,aS,aV,bH,aH,lk,aI,nilRow])
set_option maxHeartbeats 8000000 in
theorem JM (s:Bytes) (hs:s.length≤200000000000000) (h1:2097152<s.length):aA Tryz.prog 16 [.str s] (.tup [.agg [.int .i64 0,.int .i64 0,.nilS],.int .i64 4]) []:=by
 refine aA.aG Tryz.func16 rfl (by decide) (by simp [Tryz.f16]) [.cell 2 24,.tmp 3] rfl fun w0 T0 _=>?_
 simp only [Tryz.f16,au]
 have f1:((2097152:Int)<(s.length:Int))=True:=eq_true (by omega)
 (repeat' with_reducible first|intro _|refine rz ?_|refine ra ?_ ?_|omega|simp only [go_sem,f1])
 refine ah.k (iw 4) ?_
 (repeat' with_reducible first|intro _|exact dn|refine rn ?_|refine ra ?_ ?_)
 refine aU.auto 0 ?_ rfl ?_<;>simp only [go_sem,Int.natCast_succ,Post]
set_option maxHeartbeats 8000000 in
theorem JO (s:Bytes) (h1:s.length≤2097152) (h2:s.length<17∨s.length≠17+dL s):aA Tryz.prog 16 [.str s] (.tup [.agg [.int .i64 0,.int .i64 0,.nilS],.int .i64 8]) []:=by
 refine aA.aG Tryz.func16 rfl (by decide) (by simp [Tryz.f16]) [.cell 2 24,.tmp 3] rfl fun w0 T0 _=>?_
 simp only [Tryz.f16,au]
 have f1:((2097152:Int)<(s.length:Int))=False:=eq_false (by omega)
 by_cases h17:s.length<17
 ·have f2:((s.length:Int)<17)=True:=eq_true (by omega)
  (repeat' with_reducible first|intro _|refine rz ?_|refine ra ?_ ?_|omega|simp only [go_sem,f1,f2])
  refine ah.k (iw 8) ?_
  (repeat' with_reducible first|intro _|exact dn|refine rn ?_|refine ra ?_ ?_)
  refine aU.auto 0 ?_ rfl ?_<;>simp only [go_sem,Int.natCast_succ,Post]
 ·have f2:((s.length:Int)<17)=False:=eq_false (by omega)
  have kb:=bC ((s.drop 5).take 4) (by rw [List.length_take];omega)
  have hlt:=pV s
  rw [show aT ((s.drop 5).take 4)=dL s from rfl] at kb
  have f3:((s.length:Int)=17+(dL s:Int))=False:=eq_false (by omega)
  generalize dL s=L at *
  (repeat' with_reducible first|intro _|refine rz ?_|refine ra ?_ ?_|omega|simp only [go_sem,f1,f2])
  refine ah.k kb ?_
  (repeat' with_reducible first|intro _|refine rz ?_|refine ra ?_ ?_|omega|simp only [go_sem,f3])
  refine ah.k (iw 8) ?_
  (repeat' with_reducible first|intro _|exact dn|refine rn ?_|refine ra ?_ ?_)
  refine aU.auto 0 ?_ rfl ?_<;>simp only [go_sem,Int.natCast_succ,Post]
set_option maxHeartbeats 8000000 in
theorem JQ (s:Bytes) (c:xR s) (h3:bY (s.take (s.length - 8))≠s.drop (s.length - 8)):aA Tryz.prog 16 [.str s] (.tup [.agg [.int .i64 0,.int .i64 0,.nilS],.int .i64 14]) []:=by
 obtain ⟨c1,c2,c3⟩:=c
 have f1:((2097152:Int)<(s.length:Int))=False:=eq_false (by omega)
 have f2:((s.length:Int)<17)=False:=eq_false (by omega)
 have kb:=bC ((s.drop 5).take 4) (by rw [List.length_take];omega)
 have kK:=bC (s.take 1) (by rw [List.length_take];omega)
 have kW:=bC ((s.drop 1).take 2) (by rw [List.length_take];omega)
 have kH:=bC ((s.drop 3).take 2) (by rw [List.length_take];omega)
 rw [show aT (s.take 1)=dK s from rfl] at kK
 rw [show aT ((s.drop 1).take 2)=dW s from rfl] at kW
 rw [show aT ((s.drop 3).take 2)=dH s from rfl] at kH
 have hlt:=pV s
 rw [show aT ((s.drop 5).take 4)=dL s from rfl] at kb
 have f3:((s.length:Int)=17+(dL s:Int))=True:=eq_true (by omega)
 have ks:=iC (s.take (s.length - 8)) (by rw [List.length_take];omega)
 have hal:=jM s c1
 have e8:(s.length:Int) - 8=((s.length - 8:Nat):Int):=by omega
 have htd:(s.drop (s.length - 8)).take (s.length - (s.length - 8))=s.drop (s.length - 8):=List.take_of_length_le (by rw [List.length_drop];exact Nat.le_refl _)
 have hKl:=sG s
 have hWl:=sH s
 have hHl:=sF s
 have hDl:=mW s c1
 have f4:(bY (s.take (s.length - 8))=s.drop (s.length - 8))=False:=eq_false h3
 generalize dL s=L at *
 refine aA.aG Tryz.func16 rfl (by decide) (by simp [Tryz.f16]) [.cell 2 24,.tmp 3] rfl fun w0 T0 _=>?_
 simp only [Tryz.f16,au]
 (repeat' with_reducible first|intro _|refine rz ?_|refine ra ?_ ?_|omega|simp only [go_sem,f1,f2])
 refine ah.k kb ?_
 (repeat' with_reducible first|intro _|refine rz ?_|refine ra ?_ ?_|omega|simp only [go_sem,f3,e8])
 refine aN.lex [] [] (by kernel_rfl) (by kernel_rfl) ?_
 (repeat' with_reducible first|intro _|refine rz ?_|refine ra ?_ ?_|omega|simp only [go_sem,Nat.sub_zero,hal,e8])
 (refine QV.intro (.str (bY (s.take (s.length - 8)))) ?_ ?_;focus ((repeat' with_reducible first|intro _|exact dn|refine rn ?_|refine ra ?_ ?_);refine ah.k (ks) ?_;(repeat' with_reducible first|intro _|exact dn|refine rn ?_|refine ra ?_ ?_)))
 (repeat' with_reducible first|intro _|refine rz ?_|refine ra ?_ ?_|omega|simp only [go_sem,Nat.sub_zero,hal,htd,f4,e8])
 refine ah.k (iw 14) ?_
 (repeat' with_reducible first|intro _|exact dn|refine rn ?_|refine ra ?_ ?_)
 refine aU.auto 0 ?_ rfl ?_<;>simp only [go_sem,Int.natCast_succ,Post]
set_option maxHeartbeats 8000000 in
theorem JR (s:Bytes) (c:xR s) (h3:bY (s.take (s.length - 8))=s.drop (s.length - 8)) (h4:¬(1≤dK s∧dK s≤4)):aA Tryz.prog 16 [.str s] (.tup [.agg [.int .i64 0,.int .i64 0,.nilS],.int .i64 1]) []:=by
 obtain ⟨c1,c2,c3⟩:=c
 have f1:((2097152:Int)<(s.length:Int))=False:=eq_false (by omega)
 have f2:((s.length:Int)<17)=False:=eq_false (by omega)
 have kb:=bC ((s.drop 5).take 4) (by rw [List.length_take];omega)
 have kK:=bC (s.take 1) (by rw [List.length_take];omega)
 have kW:=bC ((s.drop 1).take 2) (by rw [List.length_take];omega)
 have kH:=bC ((s.drop 3).take 2) (by rw [List.length_take];omega)
 rw [show aT (s.take 1)=dK s from rfl] at kK
 rw [show aT ((s.drop 1).take 2)=dW s from rfl] at kW
 rw [show aT ((s.drop 3).take 2)=dH s from rfl] at kH
 have hlt:=pV s
 rw [show aT ((s.drop 5).take 4)=dL s from rfl] at kb
 have f3:((s.length:Int)=17+(dL s:Int))=True:=eq_true (by omega)
 have ks:=iC (s.take (s.length - 8)) (by rw [List.length_take];omega)
 have hal:=jM s c1
 have e8:(s.length:Int) - 8=((s.length - 8:Nat):Int):=by omega
 have htd:(s.drop (s.length - 8)).take (s.length - (s.length - 8))=s.drop (s.length - 8):=List.take_of_length_le (by rw [List.length_drop];exact Nat.le_refl _)
 have hKl:=sG s
 have hWl:=sH s
 have hHl:=sF s
 have hDl:=mW s c1
 have f4:(bY (s.take (s.length - 8))=s.drop (s.length - 8))=True:=eq_true h3
 have hk0:=tK s c1
 generalize dL s=L at *
 refine aA.aG Tryz.func16 rfl (by decide) (by simp [Tryz.f16]) [.cell 2 24,.tmp 3] rfl fun w0 T0 _=>?_
 simp only [Tryz.f16,au]
 by_cases h1k:dK s<1
 ·have fk1:((dK s:Int)<1)=True:=eq_true (by omega)
  have fk2:(4<(dK s:Int))=False:=eq_false (by omega)
  (repeat' with_reducible first|intro _|refine rz ?_|refine ra ?_ ?_|omega|simp only [go_sem,f1,f2])
  refine ah.k kb ?_
  (repeat' with_reducible first|intro _|refine rz ?_|refine ra ?_ ?_|omega|simp only [go_sem,f3,e8])
  refine aN.lex [] [] (by kernel_rfl) (by kernel_rfl) ?_
  (repeat' with_reducible first|intro _|refine rz ?_|refine ra ?_ ?_|omega|simp only [go_sem,Nat.sub_zero,hal,e8])
  (refine QV.intro (.str (bY (s.take (s.length - 8)))) ?_ ?_;focus ((repeat' with_reducible first|intro _|exact dn|refine rn ?_|refine ra ?_ ?_);refine ah.k (ks) ?_;(repeat' with_reducible first|intro _|exact dn|refine rn ?_|refine ra ?_ ?_)))
  (repeat' with_reducible first|intro _|refine rz ?_|refine ra ?_ ?_|omega|simp only [go_sem,Nat.sub_zero,hal,htd,f4,e8])
  refine aN.lex [] [] (by kernel_rfl) (by kernel_rfl) ?_
  (repeat' with_reducible first|intro _|refine rz ?_|refine ra ?_ ?_|omega|simp only [go_sem,hk0])
  (refine QV.intro (.int .i64 (dW s)) ?_ ?_;focus ((repeat' with_reducible first|intro _|exact dn|refine rn ?_|refine ra ?_ ?_);refine ah.k (kW) ?_;(repeat' with_reducible first|intro _|exact dn|refine rn ?_|refine ra ?_ ?_)))
  (repeat' with_reducible first|intro _|exact dn|refine rn ?_|refine ra ?_ ?_)
  (refine QV.intro (.int .i64 (dH s)) ?_ ?_;focus ((repeat' with_reducible first|intro _|exact dn|refine rn ?_|refine ra ?_ ?_);refine ah.k (kH) ?_;(repeat' with_reducible first|intro _|exact dn|refine rn ?_|refine ra ?_ ?_)))
  (repeat' with_reducible first|intro _|refine rz ?_|refine ra ?_ ?_|omega|simp only [go_sem,fk1,fk2])
  refine ah.k (iw 1) ?_
  (repeat' with_reducible first|intro _|exact dn|refine rn ?_|refine ra ?_ ?_)
  refine aU.auto 0 ?_ rfl ?_<;>simp only [go_sem,Int.natCast_succ,Post]
 ·have fk1:((dK s:Int)<1)=False:=eq_false (by omega)
  have fk2:(4<(dK s:Int))=True:=eq_true (by omega)
  (repeat' with_reducible first|intro _|refine rz ?_|refine ra ?_ ?_|omega|simp only [go_sem,f1,f2])
  refine ah.k kb ?_
  (repeat' with_reducible first|intro _|refine rz ?_|refine ra ?_ ?_|omega|simp only [go_sem,f3,e8])
  refine aN.lex [] [] (by kernel_rfl) (by kernel_rfl) ?_
  (repeat' with_reducible first|intro _|refine rz ?_|refine ra ?_ ?_|omega|simp only [go_sem,Nat.sub_zero,hal,e8])
  (refine QV.intro (.str (bY (s.take (s.length - 8)))) ?_ ?_;focus ((repeat' with_reducible first|intro _|exact dn|refine rn ?_|refine ra ?_ ?_);refine ah.k (ks) ?_;(repeat' with_reducible first|intro _|exact dn|refine rn ?_|refine ra ?_ ?_)))
  (repeat' with_reducible first|intro _|refine rz ?_|refine ra ?_ ?_|omega|simp only [go_sem,Nat.sub_zero,hal,htd,f4,e8])
  refine aN.lex [] [] (by kernel_rfl) (by kernel_rfl) ?_
  (repeat' with_reducible first|intro _|refine rz ?_|refine ra ?_ ?_|omega|simp only [go_sem,hk0])
  (refine QV.intro (.int .i64 (dW s)) ?_ ?_;focus ((repeat' with_reducible first|intro _|exact dn|refine rn ?_|refine ra ?_ ?_);refine ah.k (kW) ?_;(repeat' with_reducible first|intro _|exact dn|refine rn ?_|refine ra ?_ ?_)))
  (repeat' with_reducible first|intro _|exact dn|refine rn ?_|refine ra ?_ ?_)
  (refine QV.intro (.int .i64 (dH s)) ?_ ?_;focus ((repeat' with_reducible first|intro _|exact dn|refine rn ?_|refine ra ?_ ?_);refine ah.k (kH) ?_;(repeat' with_reducible first|intro _|exact dn|refine rn ?_|refine ra ?_ ?_)))
  (repeat' with_reducible first|intro _|refine rz ?_|refine ra ?_ ?_|omega|simp only [go_sem,fk1,fk2])
  refine ah.k (iw 1) ?_
  (repeat' with_reducible first|intro _|exact dn|refine rn ?_|refine ra ?_ ?_)
  refine aU.auto 0 ?_ rfl ?_<;>simp only [go_sem,Int.natCast_succ,Post]
set_option maxHeartbeats 8000000 in
theorem JU (s:Bytes) (c:xR s) (h3:bY (s.take (s.length - 8))=s.drop (s.length - 8)) (h4:1≤dK s∧dK s≤4) (h5:bF (dW s) (dH s)≠0):aA Tryz.prog 16 [.str s] (.tup [.agg [.int .i64 0,.int .i64 0,.nilS],.int .i64 (bF (dW s) (dH s))]) []:=by
 obtain ⟨c1,c2,c3⟩:=c
 have f1:((2097152:Int)<(s.length:Int))=False:=eq_false (by omega)
 have f2:((s.length:Int)<17)=False:=eq_false (by omega)
 have kb:=bC ((s.drop 5).take 4) (by rw [List.length_take];omega)
 have kK:=bC (s.take 1) (by rw [List.length_take];omega)
 have kW:=bC ((s.drop 1).take 2) (by rw [List.length_take];omega)
 have kH:=bC ((s.drop 3).take 2) (by rw [List.length_take];omega)
 rw [show aT (s.take 1)=dK s from rfl] at kK
 rw [show aT ((s.drop 1).take 2)=dW s from rfl] at kW
 rw [show aT ((s.drop 3).take 2)=dH s from rfl] at kH
 have hlt:=pV s
 rw [show aT ((s.drop 5).take 4)=dL s from rfl] at kb
 have f3:((s.length:Int)=17+(dL s:Int))=True:=eq_true (by omega)
 have ks:=iC (s.take (s.length - 8)) (by rw [List.length_take];omega)
 have hal:=jM s c1
 have e8:(s.length:Int) - 8=((s.length - 8:Nat):Int):=by omega
 have htd:(s.drop (s.length - 8)).take (s.length - (s.length - 8))=s.drop (s.length - 8):=List.take_of_length_le (by rw [List.length_drop];exact Nat.le_refl _)
 have hKl:=sG s
 have hWl:=sH s
 have hHl:=sF s
 have hDl:=mW s c1
 have f4:(bY (s.take (s.length - 8))=s.drop (s.length - 8))=True:=eq_true h3
 have hk0:=tK s c1
 have fk1:((dK s:Int)<1)=False:=eq_false (by omega)
 have fk2:(4<(dK s:Int))=False:=eq_false (by omega)
 have kz:=lH (dW s) (dH s)
 generalize bF (dW s) (dH s)=z at *
 have f5:(z=0)=False:=eq_false h5
 generalize dL s=L at *
 refine aA.aG Tryz.func16 rfl (by decide) (by simp [Tryz.f16]) [.cell 2 24,.tmp 3] rfl fun w0 T0 _=>?_
 simp only [Tryz.f16,au]
 (repeat' with_reducible first|intro _|refine rz ?_|refine ra ?_ ?_|omega|simp only [go_sem,f1,f2])
 refine ah.k kb ?_
 (repeat' with_reducible first|intro _|refine rz ?_|refine ra ?_ ?_|omega|simp only [go_sem,f3,e8])
 refine aN.lex [] [] (by kernel_rfl) (by kernel_rfl) ?_
 (repeat' with_reducible first|intro _|refine rz ?_|refine ra ?_ ?_|omega|simp only [go_sem,Nat.sub_zero,hal,e8])
 (refine QV.intro (.str (bY (s.take (s.length - 8)))) ?_ ?_;focus ((repeat' with_reducible first|intro _|exact dn|refine rn ?_|refine ra ?_ ?_);refine ah.k (ks) ?_;(repeat' with_reducible first|intro _|exact dn|refine rn ?_|refine ra ?_ ?_)))
 (repeat' with_reducible first|intro _|refine rz ?_|refine ra ?_ ?_|omega|simp only [go_sem,Nat.sub_zero,hal,htd,f4,e8])
 refine aN.lex [] [] (by kernel_rfl) (by kernel_rfl) ?_
 (repeat' with_reducible first|intro _|refine rz ?_|refine ra ?_ ?_|omega|simp only [go_sem,hk0])
 (refine QV.intro (.int .i64 (dW s)) ?_ ?_;focus ((repeat' with_reducible first|intro _|exact dn|refine rn ?_|refine ra ?_ ?_);refine ah.k (kW) ?_;(repeat' with_reducible first|intro _|exact dn|refine rn ?_|refine ra ?_ ?_)))
 (repeat' with_reducible first|intro _|exact dn|refine rn ?_|refine ra ?_ ?_)
 (refine QV.intro (.int .i64 (dH s)) ?_ ?_;focus ((repeat' with_reducible first|intro _|exact dn|refine rn ?_|refine ra ?_ ?_);refine ah.k (kH) ?_;(repeat' with_reducible first|intro _|exact dn|refine rn ?_|refine ra ?_ ?_)))
 (repeat' with_reducible first|intro _|refine rz ?_|refine ra ?_ ?_|omega|simp only [go_sem,fk1,fk2])
 refine ah.k kz ?_
 (repeat' with_reducible first|intro _|refine rz ?_|refine ra ?_ ?_|omega|simp only [go_sem,f5])
 refine ah.k (iw z) ?_
 (repeat' with_reducible first|intro _|exact dn|refine rn ?_|refine ra ?_ ?_)
 refine aU.auto 0 ?_ rfl ?_<;>simp only [go_sem,Int.natCast_succ,Post]
set_option maxHeartbeats 8000000 in
theorem JV (s:Bytes) (c:xR s) (h3:bY (s.take (s.length - 8))=s.drop (s.length - 8)) (h4:1≤dK s∧dK s≤4) (h5:bF (dW s) (dH s)=0) (h6:(BG s).2=false):aA Tryz.prog 16 [.str s] (.tup [.agg [.int .i64 0,.int .i64 0,.nilS],.int .i64 8]) []:=by
 obtain ⟨c1,c2,c3⟩:=c
 have f1:((2097152:Int)<(s.length:Int))=False:=eq_false (by omega)
 have f2:((s.length:Int)<17)=False:=eq_false (by omega)
 have kb:=bC ((s.drop 5).take 4) (by rw [List.length_take];omega)
 have kK:=bC (s.take 1) (by rw [List.length_take];omega)
 have kW:=bC ((s.drop 1).take 2) (by rw [List.length_take];omega)
 have kH:=bC ((s.drop 3).take 2) (by rw [List.length_take];omega)
 rw [show aT (s.take 1)=dK s from rfl] at kK
 rw [show aT ((s.drop 1).take 2)=dW s from rfl] at kW
 rw [show aT ((s.drop 3).take 2)=dH s from rfl] at kH
 have hlt:=pV s
 rw [show aT ((s.drop 5).take 4)=dL s from rfl] at kb
 have f3:((s.length:Int)=17+(dL s:Int))=True:=eq_true (by omega)
 have ks:=iC (s.take (s.length - 8)) (by rw [List.length_take];omega)
 have hal:=jM s c1
 have e8:(s.length:Int) - 8=((s.length - 8:Nat):Int):=by omega
 have htd:(s.drop (s.length - 8)).take (s.length - (s.length - 8))=s.drop (s.length - 8):=List.take_of_length_le (by rw [List.length_drop];exact Nat.le_refl _)
 have hKl:=sG s
 have hWl:=sH s
 have hHl:=sF s
 have hDl:=mW s c1
 have f4:(bY (s.take (s.length - 8))=s.drop (s.length - 8))=True:=eq_true h3
 have hk0:=tK s c1
 have fk1:((dK s:Int)<1)=False:=eq_false (by omega)
 have fk2:(4<(dK s:Int))=False:=eq_false (by omega)
 have kz:=lH (dW s) (dH s)
 have hz:=fE h5
 have hwh:((dW s:Int)*(dH s:Int))=((dW s*dH s:Nat):Int):=(Int.natCast_mul _ _).symm
 rw [hwh] at hz
 rw [h5] at kz
 have kp:=Xg (dW s) (dH s) (by omega) (by omega) (by omega) (by omega) (dD s) (by omega) (dK s) (by omega) h6
 have hcut:=Pg s c1
 have hp:qU (dK s) (dW s) (dH s) (dD s)=BG s:=rfl
 rw [hp] at kp
 generalize BG s=q at *
 generalize dD s=d at *
 generalize dL s=L at *
 refine aA.aG Tryz.func16 rfl (by decide) (by simp [Tryz.f16]) [.cell 2 24,.tmp 3] rfl fun w0 T0 _=>?_
 simp only [Tryz.f16,au]
 (repeat' with_reducible first|intro _|refine rz ?_|refine ra ?_ ?_|omega|simp only [go_sem,f1,f2])
 refine ah.k kb ?_
 (repeat' with_reducible first|intro _|refine rz ?_|refine ra ?_ ?_|omega|simp only [go_sem,f3,e8])
 refine aN.lex [] [] (by kernel_rfl) (by kernel_rfl) ?_
 (repeat' with_reducible first|intro _|refine rz ?_|refine ra ?_ ?_|omega|simp only [go_sem,Nat.sub_zero,hal,e8])
 (refine QV.intro (.str (bY (s.take (s.length - 8)))) ?_ ?_;focus ((repeat' with_reducible first|intro _|exact dn|refine rn ?_|refine ra ?_ ?_);refine ah.k (ks) ?_;(repeat' with_reducible first|intro _|exact dn|refine rn ?_|refine ra ?_ ?_)))
 (repeat' with_reducible first|intro _|refine rz ?_|refine ra ?_ ?_|omega|simp only [go_sem,Nat.sub_zero,hal,htd,f4,e8])
 refine aN.lex [] [] (by kernel_rfl) (by kernel_rfl) ?_
 (repeat' with_reducible first|intro _|refine rz ?_|refine ra ?_ ?_|omega|simp only [go_sem,hk0])
 (refine QV.intro (.int .i64 (dW s)) ?_ ?_;focus ((repeat' with_reducible first|intro _|exact dn|refine rn ?_|refine ra ?_ ?_);refine ah.k (kW) ?_;(repeat' with_reducible first|intro _|exact dn|refine rn ?_|refine ra ?_ ?_)))
 (repeat' with_reducible first|intro _|exact dn|refine rn ?_|refine ra ?_ ?_)
 (refine QV.intro (.int .i64 (dH s)) ?_ ?_;focus ((repeat' with_reducible first|intro _|exact dn|refine rn ?_|refine ra ?_ ?_);refine ah.k (kH) ?_;(repeat' with_reducible first|intro _|exact dn|refine rn ?_|refine ra ?_ ?_)))
 (repeat' with_reducible first|intro _|refine rz ?_|refine ra ?_ ?_|omega|simp only [go_sem,fk1,fk2])
 refine ah.k kz ?_
 (repeat' with_reducible first|intro _|refine rz ?_|refine ra ?_ ?_|omega|simp only [go_sem,hal,hcut,e8])
 refine ah.f kp 0 ?_
 (repeat' with_reducible first|intro _|exact dn|refine rn ?_|refine ra ?_ ?_)
 refine ah.k (iw 8) ?_
 (repeat' with_reducible first|intro _|exact dn|refine rn ?_|refine ra ?_ ?_)
 refine aU.auto 0 ?_ rfl ?_<;>simp only [go_sem,Int.natCast_succ,Post]
set_option maxHeartbeats 8000000 in
theorem JW (s:Bytes) (c:xR s) (h3:bY (s.take (s.length - 8))=s.drop (s.length - 8)) (h4:1≤dK s∧dK s≤4) (h5:bF (dW s) (dH s)=0) (h6:(BG s).2=true) (h7:¬dY (dW s) (dH s) (BG s).1 (dK s)=s):aA Tryz.prog 16 [.str s] (.tup [.agg [.int .i64 0,.int .i64 0,.nilS],.int .i64 8]) []:=by
 obtain ⟨c1,c2,c3⟩:=c
 have f1:((2097152:Int)<(s.length:Int))=False:=eq_false (by omega)
 have f2:((s.length:Int)<17)=False:=eq_false (by omega)
 have kb:=bC ((s.drop 5).take 4) (by rw [List.length_take];omega)
 have kK:=bC (s.take 1) (by rw [List.length_take];omega)
 have kW:=bC ((s.drop 1).take 2) (by rw [List.length_take];omega)
 have kH:=bC ((s.drop 3).take 2) (by rw [List.length_take];omega)
 rw [show aT (s.take 1)=dK s from rfl] at kK
 rw [show aT ((s.drop 1).take 2)=dW s from rfl] at kW
 rw [show aT ((s.drop 3).take 2)=dH s from rfl] at kH
 have hlt:=pV s
 rw [show aT ((s.drop 5).take 4)=dL s from rfl] at kb
 have f3:((s.length:Int)=17+(dL s:Int))=True:=eq_true (by omega)
 have ks:=iC (s.take (s.length - 8)) (by rw [List.length_take];omega)
 have hal:=jM s c1
 have e8:(s.length:Int) - 8=((s.length - 8:Nat):Int):=by omega
 have htd:(s.drop (s.length - 8)).take (s.length - (s.length - 8))=s.drop (s.length - 8):=List.take_of_length_le (by rw [List.length_drop];exact Nat.le_refl _)
 have hKl:=sG s
 have hWl:=sH s
 have hHl:=sF s
 have hDl:=mW s c1
 have f4:(bY (s.take (s.length - 8))=s.drop (s.length - 8))=True:=eq_true h3
 have hk0:=tK s c1
 have fk1:((dK s:Int)<1)=False:=eq_false (by omega)
 have fk2:(4<(dK s:Int))=False:=eq_false (by omega)
 have kz:=lH (dW s) (dH s)
 have hz:=fE h5
 have hwh:((dW s:Int)*(dH s:Int))=((dW s*dH s:Nat):Int):=(Int.natCast_mul _ _).symm
 rw [hwh] at hz
 rw [h5] at kz
 have kp:=Iy (dW s) (dH s) (by omega) (by omega) (by omega) (by omega) (dD s) (by omega) (dK s) (by omega) h6
 have hcut:=Pg s c1
 have hp:qU (dK s) (dW s) (dH s) (dD s)=BG s:=rfl
 rw [hp] at kp
 have hpl:(BG s).1.length=dW s*dH s:=NY h6
 have ke:=nS (dW s) (dH s) (by omega) (by omega) (by omega) (by omega) (BG s).1 hpl (dK s) (by omega)
 have f9:(dY (dW s) (dH s) (BG s).1 (dK s)=s)=False:=eq_false h7
 generalize dY (dW s) (dH s) (BG s).1 (dK s)=E at *
 generalize BG s=q at *
 generalize dD s=d at *
 generalize dL s=L at *
 refine aA.aG Tryz.func16 rfl (by decide) (by simp [Tryz.f16]) [.cell 2 24,.tmp 3] rfl fun w0 T0 _=>?_
 simp only [Tryz.f16,au]
 (repeat' with_reducible first|intro _|refine rz ?_|refine ra ?_ ?_|omega|simp only [go_sem,f1,f2])
 refine ah.k kb ?_
 (repeat' with_reducible first|intro _|refine rz ?_|refine ra ?_ ?_|omega|simp only [go_sem,f3,e8])
 refine aN.lex [] [] (by kernel_rfl) (by kernel_rfl) ?_
 (repeat' with_reducible first|intro _|refine rz ?_|refine ra ?_ ?_|omega|simp only [go_sem,Nat.sub_zero,hal,e8])
 (refine QV.intro (.str (bY (s.take (s.length - 8)))) ?_ ?_;focus ((repeat' with_reducible first|intro _|exact dn|refine rn ?_|refine ra ?_ ?_);refine ah.k (ks) ?_;(repeat' with_reducible first|intro _|exact dn|refine rn ?_|refine ra ?_ ?_)))
 (repeat' with_reducible first|intro _|refine rz ?_|refine ra ?_ ?_|omega|simp only [go_sem,Nat.sub_zero,hal,htd,f4,e8])
 refine aN.lex [] [] (by kernel_rfl) (by kernel_rfl) ?_
 (repeat' with_reducible first|intro _|refine rz ?_|refine ra ?_ ?_|omega|simp only [go_sem,hk0])
 (refine QV.intro (.int .i64 (dW s)) ?_ ?_;focus ((repeat' with_reducible first|intro _|exact dn|refine rn ?_|refine ra ?_ ?_);refine ah.k (kW) ?_;(repeat' with_reducible first|intro _|exact dn|refine rn ?_|refine ra ?_ ?_)))
 (repeat' with_reducible first|intro _|exact dn|refine rn ?_|refine ra ?_ ?_)
 (refine QV.intro (.int .i64 (dH s)) ?_ ?_;focus ((repeat' with_reducible first|intro _|exact dn|refine rn ?_|refine ra ?_ ?_);refine ah.k (kH) ?_;(repeat' with_reducible first|intro _|exact dn|refine rn ?_|refine ra ?_ ?_)))
 (repeat' with_reducible first|intro _|refine rz ?_|refine ra ?_ ?_|omega|simp only [go_sem,fk1,fk2])
 refine ah.k kz ?_
 (repeat' with_reducible first|intro _|refine rz ?_|refine ra ?_ ?_|omega|simp only [go_sem,hal,hcut,e8])
 refine ah.o kp 1 ?_
 (repeat' with_reducible first|intro _|exact dn|refine rn ?_|refine ra ?_ ?_)
 refine ah.k ke ?_
 (repeat' with_reducible first|intro _|refine rz ?_|refine ra ?_ ?_|omega|simp only [go_sem,f9])
 refine ah.k (iw 8) ?_
 (repeat' with_reducible first|intro _|exact dn|refine rn ?_|refine ra ?_ ?_)
 refine aU.auto 0 ?_ rfl ?_<;>simp only [go_sem,Int.natCast_succ,Post]
set_option maxHeartbeats 8000000 in
theorem JY (s:Bytes) (c:xR s) (h3:bY (s.take (s.length - 8))=s.drop (s.length - 8)) (h4:1≤dK s∧dK s≤4) (h5:bF (dW s) (dH s)=0) (h6:(BG s).2=true) (h7:dY (dW s) (dH s) (BG s).1 (dK s)=s):aA Tryz.prog 16 [.str s] (.tup [.agg [.int .i64 (dW s),.int .i64 (dH s),.own 0],.int .i64 0]) [(0,.row 4 (.bools (BG s).1))]:=by
 obtain ⟨c1,c2,c3⟩:=c
 have f1:((2097152:Int)<(s.length:Int))=False:=eq_false (by omega)
 have f2:((s.length:Int)<17)=False:=eq_false (by omega)
 have kb:=bC ((s.drop 5).take 4) (by rw [List.length_take];omega)
 have kK:=bC (s.take 1) (by rw [List.length_take];omega)
 have kW:=bC ((s.drop 1).take 2) (by rw [List.length_take];omega)
 have kH:=bC ((s.drop 3).take 2) (by rw [List.length_take];omega)
 rw [show aT (s.take 1)=dK s from rfl] at kK
 rw [show aT ((s.drop 1).take 2)=dW s from rfl] at kW
 rw [show aT ((s.drop 3).take 2)=dH s from rfl] at kH
 have hlt:=pV s
 rw [show aT ((s.drop 5).take 4)=dL s from rfl] at kb
 have f3:((s.length:Int)=17+(dL s:Int))=True:=eq_true (by omega)
 have ks:=iC (s.take (s.length - 8)) (by rw [List.length_take];omega)
 have hal:=jM s c1
 have e8:(s.length:Int) - 8=((s.length - 8:Nat):Int):=by omega
 have htd:(s.drop (s.length - 8)).take (s.length - (s.length - 8))=s.drop (s.length - 8):=List.take_of_length_le (by rw [List.length_drop];exact Nat.le_refl _)
 have hKl:=sG s
 have hWl:=sH s
 have hHl:=sF s
 have hDl:=mW s c1
 have f4:(bY (s.take (s.length - 8))=s.drop (s.length - 8))=True:=eq_true h3
 have hk0:=tK s c1
 have fk1:((dK s:Int)<1)=False:=eq_false (by omega)
 have fk2:(4<(dK s:Int))=False:=eq_false (by omega)
 have kz:=lH (dW s) (dH s)
 have hz:=fE h5
 have hwh:((dW s:Int)*(dH s:Int))=((dW s*dH s:Nat):Int):=(Int.natCast_mul _ _).symm
 rw [hwh] at hz
 rw [h5] at kz
 have kp:=Iy (dW s) (dH s) (by omega) (by omega) (by omega) (by omega) (dD s) (by omega) (dK s) (by omega) h6
 have hcut:=Pg s c1
 have hp:qU (dK s) (dW s) (dH s) (dD s)=BG s:=rfl
 rw [hp] at kp
 have hpl:(BG s).1.length=dW s*dH s:=NY h6
 have ke:=nS (dW s) (dH s) (by omega) (by omega) (by omega) (by omega) (BG s).1 hpl (dK s) (by omega)
 have f9:(dY (dW s) (dH s) (BG s).1 (dK s)=s)=True:=eq_true h7
 generalize dY (dW s) (dH s) (BG s).1 (dK s)=E at *
 generalize BG s=q at *
 generalize dD s=d at *
 generalize dL s=L at *
 refine aA.aG Tryz.func16 rfl (by decide) (by simp [Tryz.f16]) [.cell 2 24,.tmp 3] rfl fun w0 T0 _=>?_
 simp only [Tryz.f16,au]
 (repeat' with_reducible first|intro _|refine rz ?_|refine ra ?_ ?_|omega|simp only [go_sem,f1,f2])
 refine ah.k kb ?_
 (repeat' with_reducible first|intro _|refine rz ?_|refine ra ?_ ?_|omega|simp only [go_sem,f3,e8])
 refine aN.lex [] [] (by kernel_rfl) (by kernel_rfl) ?_
 (repeat' with_reducible first|intro _|refine rz ?_|refine ra ?_ ?_|omega|simp only [go_sem,Nat.sub_zero,hal,e8])
 (refine QV.intro (.str (bY (s.take (s.length - 8)))) ?_ ?_;focus ((repeat' with_reducible first|intro _|exact dn|refine rn ?_|refine ra ?_ ?_);refine ah.k (ks) ?_;(repeat' with_reducible first|intro _|exact dn|refine rn ?_|refine ra ?_ ?_)))
 (repeat' with_reducible first|intro _|refine rz ?_|refine ra ?_ ?_|omega|simp only [go_sem,Nat.sub_zero,hal,htd,f4,e8])
 refine aN.lex [] [] (by kernel_rfl) (by kernel_rfl) ?_
 (repeat' with_reducible first|intro _|refine rz ?_|refine ra ?_ ?_|omega|simp only [go_sem,hk0])
 (refine QV.intro (.int .i64 (dW s)) ?_ ?_;focus ((repeat' with_reducible first|intro _|exact dn|refine rn ?_|refine ra ?_ ?_);refine ah.k (kW) ?_;(repeat' with_reducible first|intro _|exact dn|refine rn ?_|refine ra ?_ ?_)))
 (repeat' with_reducible first|intro _|exact dn|refine rn ?_|refine ra ?_ ?_)
 (refine QV.intro (.int .i64 (dH s)) ?_ ?_;focus ((repeat' with_reducible first|intro _|exact dn|refine rn ?_|refine ra ?_ ?_);refine ah.k (kH) ?_;(repeat' with_reducible first|intro _|exact dn|refine rn ?_|refine ra ?_ ?_)))
 (repeat' with_reducible first|intro _|refine rz ?_|refine ra ?_ ?_|omega|simp only [go_sem,fk1,fk2])
 refine ah.k kz ?_
 (repeat' with_reducible first|intro _|refine rz ?_|refine ra ?_ ?_|omega|simp only [go_sem,hal,hcut,e8])
 refine ah.o kp 1 ?_
 (repeat' with_reducible first|intro _|exact dn|refine rn ?_|refine ra ?_ ?_)
 refine ah.k ke ?_
 (repeat' with_reducible first|intro _|refine rz ?_|refine ra ?_ ?_|omega|simp only [go_sem,f9])
 refine aU.auto 1 ?_ rfl ?_<;>simp only [go_sem,Int.natCast_succ,Post]
theorem wF (s:Bytes) (hs:s.length≤200000000000000):Ti 16 s (jc s):=by
 unfold jc
 have no:∀ e,e≠0→aA Tryz.prog 16 [.str s] (.tup [.agg [.int .i64 0,.int .i64 0,.nilS],.int .i64 e]) []→Ti 16 s (D8 e):=fun e h k=>.inr ⟨rfl,h,k⟩
 by_cases h1:2097152<s.length
 ·rw [if_pos h1];exact no _ (by decide) (JM s hs h1)
 rw [if_neg h1]
 by_cases h2:s.length<17∨s.length≠17+dL s
 ·rw [if_pos h2];exact no _ (by decide) (JO s (by omega) h2)
 rw [if_neg h2]
 have c:xR s:=⟨by omega,by omega,by omega⟩
 by_cases h3:bY (s.take (s.length - 8))=s.drop (s.length - 8)
 rotate_left
 ·rw [if_pos h3];exact no _ (by decide) (JQ s c h3)
 rw [if_neg (fun h=>h h3)]
 by_cases h4:1≤dK s∧dK s≤4
 rotate_left
 ·rw [if_pos h4];exact no _ (by decide) (JR s c h3 h4)
 rw [if_neg (fun h=>h h4)]
 by_cases h5:bF (dW s) (dH s)=0
 rotate_left
 ·rw [if_pos h5];exact no _ h5 (JU s c h3 h4 h5)
 rw [if_neg (fun h=>h h5)]
 have hz:=fE h5
 obtain ⟨g1,g2⟩:=Xd (s:=s) (by omega)
 by_cases h6:(BG s).2=true
 rotate_left
 ·rw [if_neg (fun h=>h6 (g1.2 h).1)];exact no _ (by decide) (JV s c h3 h4 h5 (by simpa using h6))
 by_cases h7:dY (dW s) (dH s) (BG s).1 (dK s)=s
 ·have hg:Nz s:=⟨h6,h7⟩
  rw [if_pos (g1.1 hg),←g2 hg]
  exact .inl ⟨rfl,JY s c h3 h4 h5 h6 h7⟩
 ·rw [if_neg (fun h=>h7 (g1.2 h).2)];exact no _ (by decide) (JW s c h3 h4 h5 h6 h7)
theorem JX (s:Bytes) (hs:s.length≤200000000000000):cO Tryz.prog 16 [.str s] (TQ (jc s)) []:=(wF s hs).fr
set_option maxHeartbeats 1000000 in
theorem Gu (a b:List Bool):aA Tryz.prog 77 [.ro (.bools a),.ro (.bools b)] (.bool (decide (a=b))) []:=by
 refine aA.aG Tryz.func77 rfl (by decide) (by simp [Tryz.f77]) [.tmp 4] rfl fun w0 T0 _=>?_
 simp only [Tryz.f77,au]
 simp only [go_sem]
 refine wo.intro fun _=>wo.intro fun _=>Ite.decide (fun h=>?_) fun h=>?_
 ·simp only [go_sem]
  refine aU.auto 0 ?_ rfl (by simp [lg])
  have:a≠b:=by intro e;subst e;exact h rfl
  simp only [go_sem,Int.natCast_succ,Post,this,decide_false,decide_true]
 have hl:a.length=b.length:=by omega
 simp only [go_sem]
 refine wo.intro fun _=>aF.intro (fun i:Nat=>⟨26,[(0,.ro (.bools a)),(1,.ro (.bools b)),(12,.int .i64 a.length),(13,.int .i64 i)],[],0⟩) (fun i=>i≤a.length∧∀ j,j<i→a.getD j false=b.getD j false) (fun i=>a.length - i) 0 ?_ ⟨by omega,fun j hj=>by omega⟩ fun i hi=>?_
 ·refine aK.ak rfl ?_ ?_<;>simp only [go_sem,Int.natCast_succ]
 simp only [go_sem]
 refine Ite.decide (fun h1=>?_) (fun h1=>?_)
 ·simp only [go_sem]
  refine aN.lex [] [] (by kernel_rfl) (by kernel_rfl) ?_
  simp only [go_sem]
  (repeat' first|(with_reducible refine wo.intro fun _=>?_)|((with_reducible refine bJ.intro ?_ ?_);(· first|omega|(with_reducible refine bJ.intro ?_ ?_<;>omega)|(simp;done)|(simp;omega)))|((with_reducible refine dF.i64 ?_ ?_ ?_);(· omega);(· omega))|((with_reducible refine Ite.decide (fun _=>?_) (fun _=>?_))<;>first|(exfalso;omega)|simp only [go_sem])|((with_reducible refine Ite.bool (fun _=>?_) (fun _=>?_))<;>simp only [go_sem])|(with_reducible refine And.intro ?_ ?_))
  ·rename_i h2
   refine aU.auto 0 ?_ rfl (by simp [lg])
   have:a≠b:=by intro e;subst e;exact h2 rfl
   simp only [go_sem,Int.natCast_succ,Post,this]
  ·rename_i h2
   refine ⟨i+1,aK.ak rfl ?_ ?_,⟨by omega,fun j hj=>?_⟩,by omega⟩
   ·simp only [go_sem,Int.natCast_succ]
    all_goals omega
   ·simp only [go_sem,Int.natCast_succ]
   ·by_cases e:j=i
    ·subst e;exact Decidable.of_not_not h2
    ·exact hi.2 j (by omega)
 ·simp only [go_sem]
  refine aU.auto 0 ?_ rfl (by simp [lg])
  have:a=b:=Pn false hl fun j hj=>hi.2 j (by omega)
  simp only [go_sem,Int.natCast_succ,Post,this,decide_false,decide_true]
set_option maxHeartbeats 1000000 in
theorem BK (w h w' h':Int) (p p':List Bool):aA Tryz.prog 23 [.agg [.int .i64 w,.int .i64 h,.ro (.bools p)],.agg [.int .i64 w',.int .i64 h',.ro (.bools p')]] (.bool (decide (w=w'∧h=h'∧p=p'))) []:=by
 refine aA.aG Tryz.func23 rfl (by decide) (by simp [Tryz.f23]) [.tmp 4] rfl fun w0 T0 _=>?_
 simp only [Tryz.f23,au]
 simp only [go_sem]
 (repeat' first|(with_reducible refine wo.intro fun _=>?_)|((with_reducible refine bJ.intro ?_ ?_);(· first|omega|(with_reducible refine bJ.intro ?_ ?_<;>omega)|(simp;done)|(simp;omega)))|((with_reducible refine dF.i64 ?_ ?_ ?_);(· omega);(· omega))|((with_reducible refine Ite.decide (fun _=>?_) (fun _=>?_))<;>first|(exfalso;omega)|simp only [go_sem])|((with_reducible refine Ite.bool (fun _=>?_) (fun _=>?_))<;>simp only [go_sem])|(with_reducible refine And.intro ?_ ?_))
 ·refine ah.fr (args':=[.ro (.bools p),.ro (.bools p')]) (cO.eY (Gu p p') rfl rfl) (by simp [aS,aV,aH]) 0 rfl (by simp [jd]) ?_
  try simp only [go_sem]
  (repeat' first|(with_reducible refine wo.intro fun _=>?_)|((with_reducible refine bJ.intro ?_ ?_);(· first|omega|(with_reducible refine bJ.intro ?_ ?_<;>omega)|(simp;done)|(simp;omega)))|((with_reducible refine dF.i64 ?_ ?_ ?_);(· omega);(· omega))|((with_reducible refine Ite.decide (fun _=>?_) (fun _=>?_))<;>first|(exfalso;omega)|simp only [go_sem])|((with_reducible refine Ite.bool (fun _=>?_) (fun _=>?_))<;>simp only [go_sem])|(with_reducible refine And.intro ?_ ?_))
  rename_i h1
  refine aU.auto 0 ?_ rfl ?_<;>simp only [go_sem,Int.natCast_succ,Post]
  simp [h1.1,h1.2]
 ·rename_i h1
  refine aU.auto 0 ?_ rfl ?_<;>simp only [go_sem,Int.natCast_succ,Post]
  exact (decide_eq_false fun x=>h1 ⟨x.1,x.2.1⟩).symm
set_option maxHeartbeats 1000000 in
theorem Tq (w h:Int) (p:List Bool) (e w' h':Int) (p':List Bool) (f:Int) (hf:f≠0):aA Tryz.prog 17 [.agg [.int .i64 w,.int .i64 h,.ro (.bools p)],.int .i64 e,.agg [.int .i64 w',.int .i64 h',.ro (.bools p')],.int .i64 f] (.bool (decide (((e=f∧w=0)∧h=0)∧(p.length:Int)=0))) []:=by
 refine aA.aG Tryz.func17 rfl (by decide) (by simp [Tryz.f17]) [.tmp 8] rfl fun w0 T0 _=>?_
 simp only [Tryz.f17,au]
 simp only [go_sem]
 (repeat' first|(with_reducible refine wo.intro fun _=>?_)|((with_reducible refine bJ.intro ?_ ?_);(· first|omega|(with_reducible refine bJ.intro ?_ ?_<;>omega)|(simp;done)|(simp;omega)))|((with_reducible refine dF.i64 ?_ ?_ ?_);(· omega);(· omega))|((with_reducible refine Ite.decide (fun _=>?_) (fun _=>?_))<;>first|(exfalso;omega)|simp only [go_sem])|((with_reducible refine Ite.bool (fun _=>?_) (fun _=>?_))<;>simp only [go_sem])|(with_reducible refine And.intro ?_ ?_))
 refine aU.auto 0 ?_ rfl ?_<;>simp only [go_sem,Int.natCast_succ,Post]
set_option maxHeartbeats 1000000 in
theorem U7 (w h:Int) (p:List Bool) (e w' h':Int) (p':List Bool):aA Tryz.prog 17 [.agg [.int .i64 w,.int .i64 h,.ro (.bools p)],.int .i64 e,.agg [.int .i64 w',.int .i64 h',.ro (.bools p')],.int .i64 0] (.bool (decide (e=0∧w=w'∧h=h'∧p=p'))) []:=by
 refine aA.aG Tryz.func17 rfl (by decide) (by simp [Tryz.f17]) [.tmp 8] rfl fun w0 T0 _=>?_
 simp only [Tryz.f17,au]
 simp only [go_sem]
 (repeat' first|(with_reducible refine wo.intro fun _=>?_)|((with_reducible refine bJ.intro ?_ ?_);(· first|omega|(with_reducible refine bJ.intro ?_ ?_<;>omega)|(simp;done)|(simp;omega)))|((with_reducible refine dF.i64 ?_ ?_ ?_);(· omega);(· omega))|((with_reducible refine Ite.decide (fun _=>?_) (fun _=>?_))<;>first|(exfalso;omega)|simp only [go_sem])|((with_reducible refine Ite.bool (fun _=>?_) (fun _=>?_))<;>simp only [go_sem])|(with_reducible refine And.intro ?_ ?_))
 ·rename_i h1
  refine ah.fr (args':=[.agg [.int .i64 w,.int .i64 h,.ro (.bools p)],.agg [.int .i64 w',.int .i64 h',.ro (.bools p')]]) (cO.eY (BK w h w' h' p p') rfl rfl) (by simp [aS,aV,aH]) 0 rfl (by simp [jd]) ?_
  simp only [go_sem]
  (repeat' first|(with_reducible refine wo.intro fun _=>?_)|((with_reducible refine bJ.intro ?_ ?_);(· first|omega|(with_reducible refine bJ.intro ?_ ?_<;>omega)|(simp;done)|(simp;omega)))|((with_reducible refine dF.i64 ?_ ?_ ?_);(· omega);(· omega))|((with_reducible refine Ite.decide (fun _=>?_) (fun _=>?_))<;>first|(exfalso;omega)|simp only [go_sem])|((with_reducible refine Ite.bool (fun _=>?_) (fun _=>?_))<;>simp only [go_sem])|(with_reducible refine And.intro ?_ ?_))
  refine aU.auto 0 ?_ rfl ?_<;>simp only [go_sem,Int.natCast_succ,Post]
  simp [h1]
 ·rename_i h1
  refine aU.auto 0 ?_ rfl ?_<;>simp only [go_sem,Int.natCast_succ,Post]
  exact (decide_eq_false fun x=>h1 x.1).symm
end Go.Fv.H
/- The reference's Shortest: the walk. -/
namespace Go.Fv.H
open Go Go.Proofs
set_option maxHeartbeats 4000000 in
theorem Ob (w h:Nat) (p:List Bool) (g:DF w h p) :
  aA Tryz.prog 25 [.agg [.int .i64 w,.int .i64 h,.ro (.bools p)]] (.tup [.str (iZ w h p 4).1,.int .i64 (iZ w h p 4).2]) []:=by
 refine aA.aG Tryz.func25 rfl (by decide) (by simp [Tryz.f25]) [.tmp 2,.tmp 3] rfl fun w0 T0 _=>?_
 simp only [Tryz.f25,au]
 (repeat' with_reducible first|intro _|exact dn|refine rn ?_|refine ra ?_ ?_)
 refine aF.intro (fun i:Nat=>⟨28,[(6,.int .i64 ((i:Int)+1)),(5,.int .i64 (iZ w h p i).2),(4,.str (iZ w h p i).1),(1,.ptr 0 0)],[(0,.box 24 [.int .i64 w,.int .i64 h,.ro (.bools p)])],1⟩) (fun i=>i≤4) (fun i=>4 - i) 0 ?_ (Nat.zero_le _) fun i hi=>?_
 ·refine aK.ak rfl ?_ ?_<;>simp only [go_sem,Int.natCast_succ]
  all_goals first|rfl|exact ⟨rfl,rfl⟩|exact ⟨rfl,rfl,rfl⟩
 by_cases hlt:i<4
 ·have f1:((i:Int)+1≤4)=True:=eq_true (by omega)
  have ke:=nS w h g.w0 g.w1 g.h1 g.wh p g.p ((i:Int)+1) (by omega)
  have hst:iZ w h p (i+1)=if (iZ w h p i).2=0∨(dY w h p ((i:Int)+1)).length<(iZ w h p i).1.length then (dY w h p ((i:Int)+1),(i:Int)+1) else iZ w h p i:=rfl
  generalize dY w h p ((i:Int)+1)=e at *
  generalize hb:iZ w h p i=b at *
  obtain ⟨s,k⟩:=b
  dsimp only at *
  (repeat' with_reducible first|intro _|refine rz ?_|refine ra ?_ ?_|omega|simp only [go_sem,f1])
  refine ah.k ke ?_
  by_cases h0:k=0
  ·have f2:(k=0)=True:=eq_true h0
   rw [if_pos (.inl h0)] at hst
   (repeat' with_reducible first|intro _|refine rz ?_|refine ra ?_ ?_|omega|simp only [go_sem,f2])
   refine ⟨i+1,aK.ak rfl ?_ ?_,by omega,by omega⟩<;>simp only [go_sem,Int.natCast_succ,hst]
  have f2:(k=0)=False:=eq_false h0
  by_cases h3:e.length<s.length
  ·have f3:((e.length:Int)<(s.length:Int))=True:=eq_true (by omega)
   rw [if_pos (.inr h3)] at hst
   (repeat' with_reducible first|intro _|refine rz ?_|refine ra ?_ ?_|omega|simp only [go_sem,f2,f3])
   refine ⟨i+1,aK.ak rfl ?_ ?_,by omega,by omega⟩<;>simp only [go_sem,Int.natCast_succ,hst]
  ·have f3:((e.length:Int)<(s.length:Int))=False:=eq_false (by omega)
   rw [if_neg (fun q=>q.elim h0 h3)] at hst
   (repeat' with_reducible first|intro _|refine rz ?_|refine ra ?_ ?_|omega|simp only [go_sem,f2,f3])
   refine ⟨i+1,aK.ak rfl ?_ ?_,by omega,by omega⟩<;>simp only [go_sem,Int.natCast_succ,hst]
 ·have f1:((i:Int)+1≤4)=False:=eq_false (by omega)
  have e:i=4:=by omega
  subst e
  (repeat' with_reducible first|intro _|refine rz ?_|refine ra ?_ ?_|omega|simp only [go_sem,f1])
  refine aU.auto 0 ?_ rfl ?_<;>simp only [go_sem,Int.natCast_succ,Post]
end Go.Fv.H
/- A page made right: the walk's result, and how long its codes are. -/
namespace Go.Fv.H
open Go Go.Proofs
structure FPg where
 (w h:Nat) (p:List Bool)
def Ee (W H:Int) (p:List Bool):FPg:=⟨pq W 31,pq H 31,rowsOf (pq W 31) (TT p (pq W 31)) (pq H 31*pq W 31)⟩
structure FPg.Ok (b:FPg):Prop where
 g:DF b.w b.h b.p
 w32:b.w≤32
 h32:b.h≤32
def FPg.av (b:FPg):AV:=.agg [.int .i64 b.w,.int .i64 b.h,.ro (.bools b.p)]
theorem ZL (W H:Int) (p:List Bool):cO Tryz.prog 12 [.agg [.int .i64 W,.int .i64 H,.ro (.bools p)]] (.agg [.int .i64 (Ee W H p).w,.int .i64 (Ee W H p).h,.ro (.bools (Ee W H p).p)]) []:=
 cO.zl (cO.eY (ZM W H p) rfl rfl) (by simp [Ee,dJ,aS,aV,bH,aH,lk,aI])
theorem wS {w h:Nat} {p:List Bool} (g:DF w h p) (kind:Int):(dY w h p kind).length≤1048597:=by
 have:=LM g kind
 rw [oK];omega
theorem VA (w h:Nat) (p:List Bool) (kind:Int):17≤(dY w h p kind).length:=by rw [oK];omega
theorem X0 {w h:Nat} {p:List Bool} (g:DF w h p):∀ k,(iZ w h p k).1.length≤1048597
 | 0=>Nat.zero_le _
 | k+1=>by
  have h1:=X0 g k
  have h2:=wS g ((k:Int)+1)
  unfold iZ
  split
  ·exact h2
  ·exact h1
theorem Rl (w h:Nat) (p:List Bool):∀ k,(iZ w h p (k+1)).1=dY w h p (iZ w h p (k+1)).2∧1≤(iZ w h p (k+1)).2∧(iZ w h p (k+1)).2≤(k:Int)+1
 | 0=>by
  have e:iZ w h p 1=(dY w h p 1,1):=rfl
  rw [show 0+1=1 from rfl,e]
  exact ⟨rfl,Int.le_refl _,Int.le_refl _⟩
 | k+1=>by
  obtain ⟨h1,h2,h3⟩:=Rl w h p k
  have e:iZ w h p (k+1+1)=if (iZ w h p (k+1)).2=0∨(dY w h p (((k+1:Nat):Int)+1)).length<(iZ w h p (k+1)).1.length then (dY w h p (((k+1:Nat):Int)+1),((k+1:Nat):Int)+1) else iZ w h p (k+1):=rfl
  rw [e]
  split
  ·exact ⟨rfl,by dsimp only;omega,by dsimp only;omega⟩
  ·exact ⟨h1,h2,by omega⟩
theorem OO (w h:Nat) (p:List Bool) (e:Int) (he:e≠0→w=0∧h=0∧p=[]):aA Tryz.prog 17 [.agg [.int .i64 w,.int .i64 h,.ro (.bools p)],.int .i64 e,.agg [.int .i64 w,.int .i64 h,.ro (.bools p)],.int .i64 e] (.bool true) []:=by
 by_cases h0:e=0
 ·subst h0
  have k:=U7 (w:Int) (h:Int) p 0 (w:Int) (h:Int) p
  rw [decide_eq_true ⟨rfl,rfl,rfl,rfl⟩] at k
  exact k
 ·obtain ⟨rfl,rfl,rfl⟩:=he h0
  have k:=Tq ((0:Nat):Int) ((0:Nat):Int) [] e ((0:Nat):Int) ((0:Nat):Int) [] e h0
  rw [decide_eq_true ⟨⟨⟨rfl,rfl⟩,rfl⟩,rfl⟩] at k
  exact k
theorem Vw (s:Bytes) (he:(jc s).e≠0):(jc s).w=0∧(jc s).h=0∧(jc s).p=[]:=by
 unfold jc at he ⊢
 split
 ·exact ⟨rfl,rfl,rfl⟩
 ·split
  ·exact ⟨rfl,rfl,rfl⟩
  ·split
   ·exact ⟨rfl,rfl,rfl⟩
   ·split
    ·exact ⟨rfl,rfl,rfl⟩
    ·split
     ·exact ⟨rfl,rfl,rfl⟩
     ·split
      ·rename_i h1 h2 h3 h4 h5 h6
       rw [if_neg h1,if_neg h2,if_neg h3,if_neg h4,if_neg h5,if_pos h6] at he
       exact absurd rfl he
      ·exact ⟨rfl,rfl,rfl⟩
end Go.Fv.H
/- Packing, in plain words. -/
namespace Go.Fv.H
open Go Go.Proofs
structure NP where
 (n:Bytes) (W H:Int) (p:List Bool)
def NP.av (x:NP):List AV:=[.str x.n,.int .i64 x.W,.int .i64 x.H,.ro (.bools x.p)]
def NP.zero:NP:=⟨[],0,0,[]⟩
abbrev OI (l:List NP):aP:=.objs 4 (l.map NP.av)
instance:G9 NP.av:=⟨fun _=>rfl⟩
theorem yU (l:List NP) {i:Nat} (h:i<l.length):(l.map NP.av).getD i []=[.str (l.getD i NP.zero).n,.int .i64 (l.getD i NP.zero).W,.int .i64 (l.getD i NP.zero).H,.ro (.bools (l.getD i NP.zero).p)]:=by
 simp [List.getD_eq_getElem?_getD,h,NP.av]
def ZV (x:NP):Int:=vC x.W x.H x.p.length
def NP.Ok (x:NP):Prop:=DF x.W.toNat x.H.toNat x.p
theorem NP.Ok.w {x:NP} (h:x.Ok):(x.W.toNat:Int)=x.W∧(x.H.toNat:Int)=x.H:=by
 have h1:=DF.w0 h
 have h2:=DF.h0 h
 omega
theorem ZW {x:NP} (h:ZV x=0):x.Ok:=by
 unfold ZV vC at h
 split at h
 ·rename_i hs
  have hz:=fE hs
  split at h
  ·rename_i hp
   have e:((x.W.toNat*x.H.toNat:Nat):Int)=x.W*x.H:=by
    rw [Int.natCast_mul]
    congr 1<;>omega
   exact ⟨by omega,by omega,by omega,by omega,by omega,by omega⟩
  ·cases h
 ·rename_i hs;exact absurd h hs
def Gl (l:List NP):Nat→Int
 | 0=>0
 | i+1=>if Gl l i≠0 then Gl l i else if dA (l.getD i NP.zero).n=true then (if (l.getD i NP.zero).n∈(l.take i).map NP.n then 6 else ZV (l.getD i NP.zero)) else 5
theorem WH {l:List NP} {i:Nat} (h:Gl l i≠0):∀ j,Gl l (i+j)=Gl l i
 | 0=>rfl
 | j+1=>by
  have ih:=WH h j
  show (if Gl l (i+j)≠0 then Gl l (i+j) else _)=_
  rw [ih,if_pos h]
theorem WE {l:List NP} {i n:Nat} (h:Gl l i≠0) (hn:i≤n):Gl l n=Gl l i:=by
 have:=WH h (n - i)
 rwa [show i+(n - i)=n by omega] at this
theorem WC {l:List NP} {i n:Nat} (h:Gl l n=0) (hn:i≤n):Gl l i=0:=
 Classical.byContradiction fun h2=>h2 ((WE h2 hn).symm.trans h)
structure xW (l:List NP):Prop where
 name:∀ x,x∈l→dA x.n=true
 ok:∀ x,x∈l→x.Ok
 nodup:(l.map NP.n).Nodup
theorem Qh {l:List NP} (h:xW l) {x:NP} (h1:dA x.n=true) (h2:x.n∉l.map NP.n) (h3:x.Ok):xW (l++[x]):=by
 refine ⟨fun y hy=>?_,fun y hy=>?_,?_⟩
 ·rcases List.mem_append.1 hy with hy|hy
  ·exact h.name y hy
  ·rw [List.mem_singleton.1 hy];exact h1
 ·rcases List.mem_append.1 hy with hy|hy
  ·exact h.ok y hy
  ·rw [List.mem_singleton.1 hy];exact h3
 ·rw [List.map_append,List.nodup_append]
  refine ⟨h.nodup,by simp,fun a ha b hb=>?_⟩
  rw [List.map_singleton,List.mem_singleton] at hb
  subst hb
  exact fun e=>h2 (e▸ha)
theorem WG {l:List NP}:∀ i,i≤l.length→Gl l i=0→xW (l.take i)
 | 0,_,_=>⟨fun _ h=>by simp at h,fun _ h=>by simp at h,List.nodup_nil⟩
 | i+1,hi,h=>by
  have h0:=WC h (Nat.le_succ i)
  have ih:=WG i (by omega) h0
  have hil:i<l.length:=by omega
  have e:l.getD i NP.zero=l[i]:=by simp [List.getD_eq_getElem?_getD,hil]
  have hs:Gl l (i+1)=if Gl l i≠0 then Gl l i else if dA (l.getD i NP.zero).n=true then (if (l.getD i NP.zero).n∈(l.take i).map NP.n then 6 else ZV (l.getD i NP.zero)) else 5:=rfl
  rw [h0,if_neg (by simp),e,h] at hs
  rw [List.take_succ_eq_append_getElem hil]
  split at hs
  ·rename_i h1
   split at hs
   ·cases hs
   ·rename_i h2
    exact Qh ih h1 h2 (ZW hs.symm)
  ·cases hs
def pkE (l:List NP) (kind:Int):Int:=if 500<l.length then 4 else if Gl l l.length≠0 then Gl l l.length else if 1≤kind∧kind≤5 then 0 else 1
theorem WI {l:List NP} {kind:Int} (h:pkE l kind=0):xW l∧l.length≤500∧1≤kind∧kind≤5:=by
 unfold pkE at h
 split at h
 ·cases h
 ·split at h
  ·rename_i h2;exact absurd h h2
  ·rename_i h1 h2
   have:=WG l.length (Nat.le_refl _) (Classical.not_not.1 h2)
   rw [List.take_length] at this
   split at h
   ·rename_i h3;exact ⟨this,by omega,h3.1,h3.2⟩
   ·cases h
def yh (kind:Int) (x:NP):Bytes:=if kind=5 then (iZ x.W.toNat x.H.toNat x.p 4).1 else dY x.W.toNat x.H.toNat x.p kind
def qo (kind:Int) (l:List NP):List (Bytes × Bytes):=l.map fun x=>(x.n,yh kind x)
theorem yj (kind:Int) (hk:1≤kind∧kind≤5) (x:NP):∃ k:Int,1≤k∧k≤4∧yh kind x=dY x.W.toNat x.H.toNat x.p k:=by
 unfold yh
 split
 ·have:=Rl x.W.toNat x.H.toNat x.p 3
  exact ⟨_,this.2.1,by omega,this.1⟩
 ·exact ⟨kind,by omega,by omega,rfl⟩
theorem DY {kind:Int} (hk:1≤kind∧kind≤5) {x:NP} (h:x.Ok):17≤(yh kind x).length∧(yh kind x).length≤1048597:=by
 obtain ⟨k,k1,k2,e⟩:=yj kind hk x
 rw [e]
 exact ⟨VA _ _ _ _,wS h k⟩
theorem Vo {kind:Int} (hk:1≤kind∧kind≤5) {x:NP} (h:x.Ok):jc (yh kind x)=⟨x.W.toNat,x.H.toNat,x.p,0⟩:=by
 obtain ⟨k,k1,k2,e⟩:=yj kind hk x
 rw [e]
 have:=wS h k
 exact Vu h ⟨k1,k2⟩ (by omega)
def iq (l:List NP) (kind:Int):Bytes × Int:=
 if pkE l kind≠0 then ([],pkE l kind)
 else if 4194304<(iM (qo kind l)).length then ([],4)
 else (iM (qo kind l),0)
theorem Jh {l:List NP} {kind:Int} (h:(iq l kind).2=0):iq l kind=(iM (qo kind l),0)∧UZ (qo kind l)∧xW l∧l.length≤500∧1≤kind∧kind≤5:=by
 unfold iq at h ⊢
 split at h
 ·rename_i h1;exact absurd h h1
 ·rename_i h1
  split at h
  ·cases h
  ·rename_i h2
   obtain ⟨k1,k2,k3,k4⟩:=WI (Classical.not_not.1 h1)
   rw [if_neg h1,if_neg h2]
   have hn:(qo kind l).map Prod.fst=l.map NP.n:=by unfold qo;rw [List.map_map];rfl
   refine ⟨rfl,⟨?_,?_,by rw [hn];exact k1.nodup,by omega⟩,k1,k2,k3,k4⟩
   ·unfold qo;rw [List.length_map];omega
   ·intro x hx
    obtain ⟨y,hy,rfl⟩:=List.mem_map.1 hx
    exact k1.name y hy
end Go.Fv.H
/- The laws' own parts: pages with names made right; lists of entries compared. -/
namespace Go.Fv.H
open Go Go.Proofs
def wB (x:NP):NP:=⟨x.n,(Ee x.W x.H x.p).w,(Ee x.W x.H x.p).h,(Ee x.W x.H x.p).p⟩
def nmd (l:List NP):List NP:=(l.take 6).map wB
set_option maxHeartbeats 4000000 in
theorem named_ok (l:List NP):aA Tryz.prog 33 [.ro (OI l)] (.own 0) [(0,.row 63 (OI (nmd l)))]:=by
 have hl5:(l.take 6).length=min l.length 6:=by simp [Nat.min_comm]
 have hsub:List.take (min l.length 6 - 0) (l.map NP.av)=(l.take 6).map NP.av:=by
  simp only [←List.map_take,Nat.sub_zero]
  rcases Nat.le_total l.length 6 with h|h
  ·rw [Nat.min_eq_left h,List.take_of_length_le (Nat.le_refl _),List.take_of_length_le h]
  ·rw [Nat.min_eq_right h]
 have hmin:min (l.length:Int) 6=((min l.length 6:Nat):Int):=by omega
 have hD:nmd l=(l.take 6).map wB:=rfl
 rw [hD]
 generalize l.take 6=q at *
 refine aA.aG Tryz.func33 rfl (by decide) (by simp [Tryz.f33]) [.tmp 2] rfl fun w0 T0 _=>?_
 simp only [Tryz.f33,au]
 (repeat' with_reducible first|intro _|refine rz ?_|refine ra ?_ ?_|omega|simp only [go_sem,V9,hmin,Int.toNat_natCast,hsub,List.length_map])
 refine aF.intro (fun i:Nat=>⟨26,[(12,.int .i64 i),(11,.int .i64 q.length),(10,.ro (OI q)),(3,.own 0)],[(0,.row 63 (OI ((q.take i).map wB)))],1⟩) (fun i=>i≤q.length) (fun i=>q.length - i) 0 ?_ (Nat.zero_le _) fun i hi=>?_
 ·refine aK.ak rfl ?_ ?_<;>simp only [go_sem,Int.natCast_succ,List.length_map]
  all_goals first|rfl|exact ⟨rfl,rfl⟩|trace_state
 have hql:((q.take i).map wB).length=i:=by rw [List.length_map,List.length_take];omega
 by_cases hlt:i<q.length
 ·have f7:((i:Int)<(q.length:Int))=True:=eq_true (by omega)
  have hee:=yU q hlt
  have hst:(q.take (i+1)).map wB=(q.take i).map wB++[wB (q.getD i NP.zero)]:=by
   rw [List.take_succ_eq_append_getElem hlt,List.map_append,getD_lt hlt];rfl
  generalize q.getD i NP.zero=x at *
  obtain ⟨xn,xw,xh,xp⟩:=x
  have kf:=ZL xw xh xp
  have hst2:((q.take (i+1)).map wB).map NP.av=((q.take i).map wB).map NP.av++[[.str xn,.int .i64 (Ee xw xh xp).w,.int .i64 (Ee xw xh xp).h,.ro (.bools (Ee xw xh xp).p)]]:=by rw [hst,List.map_append];rfl
  generalize Ee xw xh xp=b at *
  dsimp only at hee
  generalize (q.take i).map wB=A at *
  (repeat' with_reducible first|intro _|refine rz ?_|refine ra ?_ ?_|omega|simp only [go_sem,f7,hee,bZ,List.length_map])
  refine ah.f kf 0 ?_
  (repeat' with_reducible first|intro _|refine rz ?_|refine ra ?_ ?_|omega|simp only [go_sem,hql,List.length_map])
  refine ⟨i+1,aK.ak rfl ?_ ?_,by omega,by omega⟩<;>simp only [go_sem,Int.natCast_succ,hst2]
 ·have e:i=q.length:=by omega
  subst e
  have f7:((q.length:Int)<(q.length:Int))=False:=eq_false (by omega)
  rw [List.take_length]
  (repeat' with_reducible first|intro _|refine rz ?_|refine ra ?_ ?_|omega|simp only [go_sem,f7])
  refine aU.auto 1 ?_ rfl ?_<;>simp only [go_sem,Int.natCast_succ,Post]
set_option maxHeartbeats 2000000 in
theorem Po (l:List En):aA Tryz.prog 43 [.ro (CP l),.ro (CP l)] (.bool true) []:=by
 refine aA.aG Tryz.func43 rfl (by decide) (by simp [Tryz.f43]) [.tmp 4] rfl fun w0 T0 _=>?_
 simp only [Tryz.f43,au]
 (repeat' with_reducible first|intro _|refine rz ?_|refine ra ?_ ?_|omega|simp only [go_sem,List.length_map])
 refine aF.intro (fun i:Nat=>⟨26,[(0,.ro (CP l)),(1,.ro (CP l)),(12,.int .i64 l.length),(13,.int .i64 i)],[],0⟩) (fun i=>i≤l.length) (fun i=>l.length - i) 0 ?_ (Nat.zero_le _) fun i hi=>?_
 ·refine aK.ak rfl ?_ ?_<;>simp only [go_sem,Int.natCast_succ]
 by_cases hlt:i<l.length
 ·have e1:=lS l hlt
  generalize l.getD i En.zero=x at *
  (repeat' with_reducible first|intro _|refine rz ?_|refine ra ?_ ?_|omega|simp only [go_sem,bZ,e1,List.length_map])
  refine aN.lex [] [] (by kernel_rfl) (by kernel_rfl) ?_
  (repeat' with_reducible first|intro _|refine rz ?_|refine ra ?_ ?_|omega|simp only [go_sem,bZ,e1,List.length_map])
  refine ⟨i+1,aK.ak rfl ?_ ?_,by omega,by omega⟩<;>simp only [go_sem,Int.natCast_succ]
 ·(repeat' with_reducible first|intro _|exact dn|refine rn ?_|refine ra ?_ ?_)
  refine aU.auto 0 ?_ rfl ?_<;>simp only [go_sem,Int.natCast_succ,Post]
end Go.Fv.H
/- strings.Repeat of a zero byte, by the contract of the shelf. -/
namespace Go.Proofs
open Go.Shelf
def Tryz.lays105_ren:Go.Shelf.Ren:=⟨fun|105=>92|212=>121|99=>122|165=>84|166=>60|170=>123|169=>57|263=>167|264=>168|206=>169|240=>96|241=>118|276=>135|277=>162|n=>n,fun|9=>9|3=>3|4=>4|20=>20|0=>0|46=>140|109=>153|5=>5|72=>89|76=>97|51=>172|146=>194|53=>103|148=>196|70=>87|37=>27|75=>91|127=>133|164=>168|80=>94|n=>n,fun|n=>n⟩
theorem Tryz.lays105:Go.Proofs.Lays.n105 Tryz.prog Tryz.lays105_ren:={
 mixed:=by kernel_rfl
 f99:=Tryz.func122.trans (congrArg some (by kernel_rfl))
 f105:=Tryz.func92.trans (congrArg some (by kernel_rfl))
 f165:=Tryz.func84.trans (congrArg some (by kernel_rfl))
 f166:=Tryz.func60.trans (congrArg some (by kernel_rfl))
 f169:=Tryz.func57.trans (congrArg some (by kernel_rfl))
 f170:=Tryz.func123.trans (congrArg some (by kernel_rfl))
 f206:=Tryz.func169.trans (congrArg some (by kernel_rfl))
 f212:=Tryz.func121.trans (congrArg some (by kernel_rfl))
 f240:=Tryz.func96.trans (congrArg some (by kernel_rfl))
 f241:=Tryz.func118.trans (congrArg some (by kernel_rfl))
 f263:=Tryz.func167.trans (congrArg some (by kernel_rfl))
 f264:=Tryz.func168.trans (congrArg some (by kernel_rfl))
 f276:=Tryz.func135.trans (congrArg some (by kernel_rfl))
 f277:=Tryz.func162.trans (congrArg some (by kernel_rfl))
 t0:=Tryz.underlying0
 a0:=Tryz.isAgg0
 z0:=Tryz.sizeOf0
 v0:=Tryz.zeroValue0
 t3:=Tryz.underlying3
 a3:=Tryz.isAgg3
 z3:=Tryz.sizeOf3
 v3:=Tryz.zeroValue3
 t4:=Tryz.underlying4
 a4:=Tryz.isAgg4
 z4:=Tryz.sizeOf4
 v4:=Tryz.zeroValue4
 t5:=Tryz.underlying5
 a5:=Tryz.isAgg5
 z5:=Tryz.sizeOf5
 v5:=Tryz.zeroValue5
 t9:=Tryz.underlying9
 a9:=Tryz.isAgg9
 z9:=Tryz.sizeOf9
 v9:=Tryz.zeroValue9
 t20:=Tryz.underlying20
 a20:=Tryz.isAgg20
 z20:=Tryz.sizeOf20
 v20:=Tryz.zeroValue20
 t37:=Tryz.underlying27
 a37:=Tryz.isAgg27
 z37:=Tryz.sizeOf27
 v37:=Tryz.zeroValue27
 t46:=Tryz.underlying140
 a46:=Tryz.isAgg140
 z46:=Tryz.sizeOf140
 v46:=Tryz.zeroValue140
 t51:=Tryz.underlying172
 a51:=Tryz.isAgg172
 z51:=Tryz.sizeOf172
 v51:=Tryz.zeroValue172
 t53:=Tryz.underlying103
 a53:=Tryz.isAgg103
 z53:=Tryz.sizeOf103
 v53:=Tryz.zeroValue103
 t70:=Tryz.underlying87
 a70:=Tryz.isAgg87
 z70:=Tryz.sizeOf87
 v70:=Tryz.zeroValue87
 t72:=Tryz.underlying89
 a72:=Tryz.isAgg89
 z72:=Tryz.sizeOf89
 v72:=Tryz.zeroValue89
 t75:=Tryz.underlying91
 a75:=Tryz.isAgg91
 z75:=Tryz.sizeOf91
 v75:=Tryz.zeroValue91
 t76:=Tryz.underlying97
 a76:=Tryz.isAgg97
 z76:=Tryz.sizeOf97
 v76:=Tryz.zeroValue97
 t109:=Tryz.underlying153
 a109:=Tryz.isAgg153
 z109:=Tryz.sizeOf153
 v109:=Tryz.zeroValue153
 t127:=Tryz.underlying133
 a127:=Tryz.isAgg133
 z127:=Tryz.sizeOf133
 v127:=Tryz.zeroValue133
 t146:=Tryz.underlying194
 a146:=Tryz.isAgg194
 z146:=Tryz.sizeOf194
 v146:=Tryz.zeroValue194
 t148:=Tryz.underlying196
 a148:=Tryz.isAgg196
 z148:=Tryz.sizeOf196
 v148:=Tryz.zeroValue196
 t164:=Tryz.underlying168
 a164:=Tryz.isAgg168
 z164:=Tryz.sizeOf168
 v164:=Tryz.zeroValue168 }
theorem Tryz.BP:Builder.Extra Tryz.prog Tryz.lays105_ren:={
 sizeBuilder:=by kernel_rfl
 liesBuilder:=by kernel_rfl
 t5:=Tryz.underlying5
 a5:=Tryz.isAgg5
 z5:=Tryz.sizeOf5
 v5:=Tryz.zeroValue5
 infoByte:=by kernel_rfl
 cellsByte:=by kernel_rfl
 sizeByte:=by kernel_rfl
 neB5:=by decide }
end Go.Proofs
namespace Go.Fv.H
open Go Go.Proofs
theorem repeatL_one (c:UInt8):∀ n,Lib.repeatL [c] n=List.replicate n c
 | 0=>rfl
 | n+1=>by rw [Lib.repeatL,repeatL_one c n];rfl
theorem Qq (n:Nat) (hn:n≤1048576):aA Tryz.prog 92 [.str [0],.int .i64 n] (.str (List.replicate n 0)) []:=by
 refine ⟨⟨_,Tryz.func92,by kernel_rfl,by kernel_rfl⟩,fun w T vals hg hv=>?_⟩
 cases hv with
 | cons _ _ _ _ h1 hv=>cases hv with
  | cons _ _ _ _ h2 hv=>
   cases hv
   cases h1 with
   | str _ e1=>cases h2 with
    | int _ _ e2=>
     refine (Any.strings_Repeat Tryz.lays105 Tryz.BP ⟨[(0:UInt8)].toArray⟩ n w (by omega) ?_).mono ?_
     ·show [(0:UInt8)].toArray.size*n≤140737488355328
      simp;omega
     ·rintro e w' ⟨rfl,hb0⟩
      have hb:mQ w.heap.size w w':=⟨hb0.os,hb0.tape,hb0.output,hb0.size,trivial,hb0.block⟩
      refine ⟨_,rfl,hb,fun _=>undef,0,?_,?_,?_⟩
      ·rw [show (⟨[(0:UInt8)].toArray⟩:ByteArray).data.toList=[(0:UInt8)] from rfl,repeatL_one]
       exact .str _ (by simp [maxLen];omega)
      ·intro i it h;cases h
      ·intro i j it jt b h;cases h
end Go.Fv.H
