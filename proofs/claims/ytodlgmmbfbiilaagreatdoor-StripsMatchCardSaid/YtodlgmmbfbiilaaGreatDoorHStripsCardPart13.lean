/-
  A part of the proof of the claim: walks over the program's functions and the plain laws that these need. No condition of its own.
-/
import Derived.Test.YtodlgmmbfbiilaaGreatDoorHStripsCardPart9
import Derived.Test.YtodlgmmbfbiilaaGreatDoorHStripsCardPart11
import Derived.Test.YtodlgmmbfbiilaaGreatDoorHStripsCardPart12
import Derived.Test.YtodlgmmbfbiilaaGreatDoorHStripsCardPart10
import Derived.Test.YtodlgmmbfbiilaaGreatDoorHStripsCardPart6
import Derived.Test.YtodlgmmbfbiilaaGreatDoorHStripsCardPart1
import Derived.Test.YtodlgmmbfbiilaaGreatDoorFvPart10
import Derived.Test.YtodlgmmbfbiilaaGreatDoorHStripsCardPart7
set_option linter.unusedSimpArgs false
set_option linter.unusedVariables false
set_option linter.unnecessarySimpa false
set_option maxRecDepth 8000
/- The reference's Decode: the walk. -/
namespace Go.Fv.H
open Go Go.Proofs
theorem gI (e:Int):aA Tryz.prog 70 [.int .i64 e] (.tup [.agg [.int .i64 0,.int .i64 0,.nilS],.int .i64 e]) []:=by
 refine aA.aG Tryz.func70 rfl (by decide) (by simp [Tryz.f70]) [.cell 2 24,.tmp 3] rfl fun w0 T0 _=>?_
 simp only [Tryz.f70,au]
 (repeat' with_reducible first|intro _|exact dn|refine rn ?_|refine ra ?_ ?_)
 refine aV.auto 0 ?_ rfl ?_<;>simp only [go_sem,Int.natCast_succ,Post]
theorem tJ (s:Bytes) (h:17≤s.length):(((s.getD 0 0).toNat:Nat):Int)=(dK s:Int):=by
 cases s with
 | nil=>simp at h
 | cons c s=>
  show ((c.toNat:Nat):Int)=((bV [c]:Nat):Int)
  have:bV [c]=c.toNat:=by show 0*256+c.toNat=_;omega
  rw [this]
theorem MO (s:Bytes) (h:17≤s.length):(s.drop 9).take (s.length - 8 - 9)=dD s:=by
 unfold dD
 rw [show s.length - 8 - 9=s.length - 17 by omega]
theorem Gi (w h:Nat) (hw0:0<w) (hw:w≤4000) (hh:h≤4000) (hwh:w*h≤1048576) (d:Bytes) (hd:d.length≤100000000) (kind:Int) (hk:1≤kind∧kind≤4) (hq:(pJ kind w h d).2=true) :
  aA Tryz.prog 73 [.int .i64 kind,.str d,.int .i64 w,.int .i64 h] (.tup [.agg [.int .i64 w,.int .i64 h,.own 0],.bool true]) [(0,.row 4 (.bools (pJ kind w h d).1))]:=by
 have hc:kind=4∨kind=1∨kind=2∨kind=3:=by omega
 rcases hc with rfl|rfl|rfl|rfl
 ·have e:pJ 4 w h d=kJ w h d (w*h):=rfl
  rw [e] at hq ⊢
  have k:=JE w h hw0 hw hh hwh d hd
  rw [hq] at k
  exact k
 ·have e:pJ 1 w h d=jU (w*h) (gJ d):=rfl
  rw [e] at hq ⊢
  unfold jU at hq ⊢
  split at hq
  ·cases hq
  ·rename_i hs
   rw [if_neg hs]
   exact TJ w h hw0 hw hh hwh d hd (by omega)
 ·have e:pJ 2 w h d=dB w h (gJ d):=rfl
  rw [e] at hq ⊢
  have k:=JO w h hw0 hw hh hwh d hd
  rw [hq] at k
  exact k
 ·have e:pJ 3 w h d=bY h (List.replicate w false) (gJ d):=rfl
  rw [e] at hq ⊢
  have k:=Ls w h hw0 hw hh hwh d hd
  rw [hq] at k
  exact k
theorem QY (w h:Nat) (hw0:0<w) (hw:w≤4000) (hh:h≤4000) (hwh:w*h≤1048576) (d:Bytes) (hd:d.length≤100000000) (kind:Int) (hk:1≤kind∧kind≤4) (hq:(pJ kind w h d).2=false) :
  dh Tryz.prog 73 [.int .i64 kind,.str d,.int .i64 w,.int .i64 h] (.tup [.agg [.int .i64 w,.int .i64 h,.ro (.bools (pJ kind w h d).1)],.bool false]) []:=by
 have hc:kind=4∨kind=1∨kind=2∨kind=3:=by omega
 rcases hc with rfl|rfl|rfl|rfl
 ·have e:pJ 4 w h d=kJ w h d (w*h):=rfl
  rw [e] at hq ⊢
  have k:=JE w h hw0 hw hh hwh d hd
  rw [hq] at k
  exact dh.AB (dh.eG k rfl rfl) (by simp [dN,aP,aU,bH,aF,lk,aJ,nilRow])
 ·have e:pJ 1 w h d=jU (w*h) (gJ d):=rfl
  rw [e] at hq ⊢
  unfold jU at hq ⊢
  split at hq
  ·rename_i hs
   rw [if_pos hs]
   exact dh.AB (dh.eG (Ry w h hw0 hw hh hwh d hd hs) rfl rfl) (by simp [dN,aP,aU,bH,aF,lk,aJ,nilRow])
  ·cases hq
 ·have e:pJ 2 w h d=dB w h (gJ d):=rfl
  rw [e] at hq ⊢
  have k:=JO w h hw0 hw hh hwh d hd
  rw [hq] at k
  exact dh.AB (dh.eG k rfl rfl) (by simp [dN,aP,aU,bH,aF,lk,aJ,nilRow])
 ·have e:pJ 3 w h d=bY h (List.replicate w false) (gJ d):=rfl
  rw [e] at hq ⊢
  have k:=Ls w h hw0 hw hh hwh d hd
  rw [hq] at k
  exact dh.AB (dh.eG k rfl rfl) (by simp [dN,aP,aU,bH,aF,lk,aJ,nilRow])
set_option maxHeartbeats 8000000 in
theorem Hf (s:Bytes) (hs:s.length≤200000000000000) (h1:2097152<s.length):aA Tryz.prog 16 [.str s] (.tup [.agg [.int .i64 0,.int .i64 0,.nilS],.int .i64 4]) []:=by
 refine aA.aG Tryz.func16 rfl (by decide) (by simp [Tryz.f16]) [.cell 2 24,.tmp 3] rfl fun w0 T0 _=>?_
 simp only [Tryz.f16,au]
 have f1:((2097152:Int)<(s.length:Int))=True:=eq_true (by omega)
 (repeat' with_reducible first|intro _|refine rz ?_|refine ra ?_ ?_|omega|simp only [go_sem,f1])
 refine ah.k (gI 4) ?_
 (repeat' with_reducible first|intro _|exact dn|refine rn ?_|refine ra ?_ ?_)
 refine aV.auto 0 ?_ rfl ?_<;>simp only [go_sem,Int.natCast_succ,Post]
set_option maxHeartbeats 8000000 in
theorem I9 (s:Bytes) (h1:s.length≤2097152) (h2:s.length<17∨s.length≠17+dL s):aA Tryz.prog 16 [.str s] (.tup [.agg [.int .i64 0,.int .i64 0,.nilS],.int .i64 8]) []:=by
 refine aA.aG Tryz.func16 rfl (by decide) (by simp [Tryz.f16]) [.cell 2 24,.tmp 3] rfl fun w0 T0 _=>?_
 simp only [Tryz.f16,au]
 have f1:((2097152:Int)<(s.length:Int))=False:=eq_false (by omega)
 by_cases h17:s.length<17
 ·have f2:((s.length:Int)<17)=True:=eq_true (by omega)
  (repeat' with_reducible first|intro _|refine rz ?_|refine ra ?_ ?_|omega|simp only [go_sem,f1,f2])
  refine ah.k (gI 8) ?_
  (repeat' with_reducible first|intro _|exact dn|refine rn ?_|refine ra ?_ ?_)
  refine aV.auto 0 ?_ rfl ?_<;>simp only [go_sem,Int.natCast_succ,Post]
 ·have f2:((s.length:Int)<17)=False:=eq_false (by omega)
  have kb:=bJ ((s.drop 5).take 4) (by rw [List.length_take];omega)
  have hlt:=oK s
  rw [show bV ((s.drop 5).take 4)=dL s from rfl] at kb
  have f3:((s.length:Int)=17+(dL s:Int))=False:=eq_false (by omega)
  generalize dL s=L at *
  (repeat' with_reducible first|intro _|refine rz ?_|refine ra ?_ ?_|omega|simp only [go_sem,f1,f2])
  refine ah.k kb ?_
  (repeat' with_reducible first|intro _|refine rz ?_|refine ra ?_ ?_|omega|simp only [go_sem,f3])
  refine ah.k (gI 8) ?_
  (repeat' with_reducible first|intro _|exact dn|refine rn ?_|refine ra ?_ ?_)
  refine aV.auto 0 ?_ rfl ?_<;>simp only [go_sem,Int.natCast_succ,Post]
set_option maxHeartbeats 8000000 in
theorem Gv (s:Bytes) (c:xJ s) (h3:dU (s.take (s.length - 8))≠s.drop (s.length - 8)):aA Tryz.prog 16 [.str s] (.tup [.agg [.int .i64 0,.int .i64 0,.nilS],.int .i64 14]) []:=by
 obtain ⟨c1,c2,c3⟩:=c
 have f1:((2097152:Int)<(s.length:Int))=False:=eq_false (by omega)
 have f2:((s.length:Int)<17)=False:=eq_false (by omega)
 have kb:=bJ ((s.drop 5).take 4) (by rw [List.length_take];omega)
 have kK:=bJ (s.take 1) (by rw [List.length_take];omega)
 have kW:=bJ ((s.drop 1).take 2) (by rw [List.length_take];omega)
 have kH:=bJ ((s.drop 3).take 2) (by rw [List.length_take];omega)
 rw [show bV (s.take 1)=dK s from rfl] at kK
 rw [show bV ((s.drop 1).take 2)=dW s from rfl] at kW
 rw [show bV ((s.drop 3).take 2)=dH s from rfl] at kH
 have hlt:=oK s
 rw [show bV ((s.drop 5).take 4)=dL s from rfl] at kb
 have f3:((s.length:Int)=17+(dL s:Int))=True:=eq_true (by omega)
 have ks:=iY (s.take (s.length - 8)) (by rw [List.length_take];omega)
 have hal:=jB s c1
 have e8:(s.length:Int) - 8=((s.length - 8:Nat):Int):=by omega
 have htd:(s.drop (s.length - 8)).take (s.length - (s.length - 8))=s.drop (s.length - 8):=List.take_of_length_le (by rw [List.length_drop];exact Nat.le_refl _)
 have hKl:=qR s
 have hWl:=qW s
 have hHl:=qP s
 have hDl:=lS s c1
 have f4:(dU (s.take (s.length - 8))=s.drop (s.length - 8))=False:=eq_false h3
 generalize dL s=L at *
 refine aA.aG Tryz.func16 rfl (by decide) (by simp [Tryz.f16]) [.cell 2 24,.tmp 3] rfl fun w0 T0 _=>?_
 simp only [Tryz.f16,au]
 (repeat' with_reducible first|intro _|refine rz ?_|refine ra ?_ ?_|omega|simp only [go_sem,f1,f2])
 refine ah.k kb ?_
 (repeat' with_reducible first|intro _|refine rz ?_|refine ra ?_ ?_|omega|simp only [go_sem,f3,e8])
 refine aQ.lex [] [] (by kernel_rfl) (by kernel_rfl) ?_
 (repeat' with_reducible first|intro _|refine rz ?_|refine ra ?_ ?_|omega|simp only [go_sem,Nat.sub_zero,hal,e8])
 (refine QV.intro (.str (dU (s.take (s.length - 8)))) ?_ ?_;focus ((repeat' with_reducible first|intro _|exact dn|refine rn ?_|refine ra ?_ ?_);refine ah.k (ks) ?_;(repeat' with_reducible first|intro _|exact dn|refine rn ?_|refine ra ?_ ?_)))
 (repeat' with_reducible first|intro _|refine rz ?_|refine ra ?_ ?_|omega|simp only [go_sem,Nat.sub_zero,hal,htd,f4,e8])
 refine ah.k (gI 14) ?_
 (repeat' with_reducible first|intro _|exact dn|refine rn ?_|refine ra ?_ ?_)
 refine aV.auto 0 ?_ rfl ?_<;>simp only [go_sem,Int.natCast_succ,Post]
set_option maxHeartbeats 8000000 in
theorem Hr (s:Bytes) (c:xJ s) (h3:dU (s.take (s.length - 8))=s.drop (s.length - 8)) (h4:¬(1≤dK s∧dK s≤4)):aA Tryz.prog 16 [.str s] (.tup [.agg [.int .i64 0,.int .i64 0,.nilS],.int .i64 1]) []:=by
 obtain ⟨c1,c2,c3⟩:=c
 have f1:((2097152:Int)<(s.length:Int))=False:=eq_false (by omega)
 have f2:((s.length:Int)<17)=False:=eq_false (by omega)
 have kb:=bJ ((s.drop 5).take 4) (by rw [List.length_take];omega)
 have kK:=bJ (s.take 1) (by rw [List.length_take];omega)
 have kW:=bJ ((s.drop 1).take 2) (by rw [List.length_take];omega)
 have kH:=bJ ((s.drop 3).take 2) (by rw [List.length_take];omega)
 rw [show bV (s.take 1)=dK s from rfl] at kK
 rw [show bV ((s.drop 1).take 2)=dW s from rfl] at kW
 rw [show bV ((s.drop 3).take 2)=dH s from rfl] at kH
 have hlt:=oK s
 rw [show bV ((s.drop 5).take 4)=dL s from rfl] at kb
 have f3:((s.length:Int)=17+(dL s:Int))=True:=eq_true (by omega)
 have ks:=iY (s.take (s.length - 8)) (by rw [List.length_take];omega)
 have hal:=jB s c1
 have e8:(s.length:Int) - 8=((s.length - 8:Nat):Int):=by omega
 have htd:(s.drop (s.length - 8)).take (s.length - (s.length - 8))=s.drop (s.length - 8):=List.take_of_length_le (by rw [List.length_drop];exact Nat.le_refl _)
 have hKl:=qR s
 have hWl:=qW s
 have hHl:=qP s
 have hDl:=lS s c1
 have f4:(dU (s.take (s.length - 8))=s.drop (s.length - 8))=True:=eq_true h3
 have hk0:=tJ s c1
 generalize dL s=L at *
 refine aA.aG Tryz.func16 rfl (by decide) (by simp [Tryz.f16]) [.cell 2 24,.tmp 3] rfl fun w0 T0 _=>?_
 simp only [Tryz.f16,au]
 by_cases h1k:dK s<1
 ·have fk1:((dK s:Int)<1)=True:=eq_true (by omega)
  have fk2:(4<(dK s:Int))=False:=eq_false (by omega)
  (repeat' with_reducible first|intro _|refine rz ?_|refine ra ?_ ?_|omega|simp only [go_sem,f1,f2])
  refine ah.k kb ?_
  (repeat' with_reducible first|intro _|refine rz ?_|refine ra ?_ ?_|omega|simp only [go_sem,f3,e8])
  refine aQ.lex [] [] (by kernel_rfl) (by kernel_rfl) ?_
  (repeat' with_reducible first|intro _|refine rz ?_|refine ra ?_ ?_|omega|simp only [go_sem,Nat.sub_zero,hal,e8])
  (refine QV.intro (.str (dU (s.take (s.length - 8)))) ?_ ?_;focus ((repeat' with_reducible first|intro _|exact dn|refine rn ?_|refine ra ?_ ?_);refine ah.k (ks) ?_;(repeat' with_reducible first|intro _|exact dn|refine rn ?_|refine ra ?_ ?_)))
  (repeat' with_reducible first|intro _|refine rz ?_|refine ra ?_ ?_|omega|simp only [go_sem,Nat.sub_zero,hal,htd,f4,e8])
  refine aQ.lex [] [] (by kernel_rfl) (by kernel_rfl) ?_
  (repeat' with_reducible first|intro _|refine rz ?_|refine ra ?_ ?_|omega|simp only [go_sem,hk0])
  (refine QV.intro (.int .i64 (dW s)) ?_ ?_;focus ((repeat' with_reducible first|intro _|exact dn|refine rn ?_|refine ra ?_ ?_);refine ah.k (kW) ?_;(repeat' with_reducible first|intro _|exact dn|refine rn ?_|refine ra ?_ ?_)))
  (repeat' with_reducible first|intro _|exact dn|refine rn ?_|refine ra ?_ ?_)
  (refine QV.intro (.int .i64 (dH s)) ?_ ?_;focus ((repeat' with_reducible first|intro _|exact dn|refine rn ?_|refine ra ?_ ?_);refine ah.k (kH) ?_;(repeat' with_reducible first|intro _|exact dn|refine rn ?_|refine ra ?_ ?_)))
  (repeat' with_reducible first|intro _|refine rz ?_|refine ra ?_ ?_|omega|simp only [go_sem,fk1,fk2])
  refine ah.k (gI 1) ?_
  (repeat' with_reducible first|intro _|exact dn|refine rn ?_|refine ra ?_ ?_)
  refine aV.auto 0 ?_ rfl ?_<;>simp only [go_sem,Int.natCast_succ,Post]
 ·have fk1:((dK s:Int)<1)=False:=eq_false (by omega)
  have fk2:(4<(dK s:Int))=True:=eq_true (by omega)
  (repeat' with_reducible first|intro _|refine rz ?_|refine ra ?_ ?_|omega|simp only [go_sem,f1,f2])
  refine ah.k kb ?_
  (repeat' with_reducible first|intro _|refine rz ?_|refine ra ?_ ?_|omega|simp only [go_sem,f3,e8])
  refine aQ.lex [] [] (by kernel_rfl) (by kernel_rfl) ?_
  (repeat' with_reducible first|intro _|refine rz ?_|refine ra ?_ ?_|omega|simp only [go_sem,Nat.sub_zero,hal,e8])
  (refine QV.intro (.str (dU (s.take (s.length - 8)))) ?_ ?_;focus ((repeat' with_reducible first|intro _|exact dn|refine rn ?_|refine ra ?_ ?_);refine ah.k (ks) ?_;(repeat' with_reducible first|intro _|exact dn|refine rn ?_|refine ra ?_ ?_)))
  (repeat' with_reducible first|intro _|refine rz ?_|refine ra ?_ ?_|omega|simp only [go_sem,Nat.sub_zero,hal,htd,f4,e8])
  refine aQ.lex [] [] (by kernel_rfl) (by kernel_rfl) ?_
  (repeat' with_reducible first|intro _|refine rz ?_|refine ra ?_ ?_|omega|simp only [go_sem,hk0])
  (refine QV.intro (.int .i64 (dW s)) ?_ ?_;focus ((repeat' with_reducible first|intro _|exact dn|refine rn ?_|refine ra ?_ ?_);refine ah.k (kW) ?_;(repeat' with_reducible first|intro _|exact dn|refine rn ?_|refine ra ?_ ?_)))
  (repeat' with_reducible first|intro _|exact dn|refine rn ?_|refine ra ?_ ?_)
  (refine QV.intro (.int .i64 (dH s)) ?_ ?_;focus ((repeat' with_reducible first|intro _|exact dn|refine rn ?_|refine ra ?_ ?_);refine ah.k (kH) ?_;(repeat' with_reducible first|intro _|exact dn|refine rn ?_|refine ra ?_ ?_)))
  (repeat' with_reducible first|intro _|refine rz ?_|refine ra ?_ ?_|omega|simp only [go_sem,fk1,fk2])
  refine ah.k (gI 1) ?_
  (repeat' with_reducible first|intro _|exact dn|refine rn ?_|refine ra ?_ ?_)
  refine aV.auto 0 ?_ rfl ?_<;>simp only [go_sem,Int.natCast_succ,Post]
set_option maxHeartbeats 8000000 in
theorem Iu (s:Bytes) (c:xJ s) (h3:dU (s.take (s.length - 8))=s.drop (s.length - 8)) (h4:1≤dK s∧dK s≤4) (h5:aS (dW s) (dH s)≠0):aA Tryz.prog 16 [.str s] (.tup [.agg [.int .i64 0,.int .i64 0,.nilS],.int .i64 (aS (dW s) (dH s))]) []:=by
 obtain ⟨c1,c2,c3⟩:=c
 have f1:((2097152:Int)<(s.length:Int))=False:=eq_false (by omega)
 have f2:((s.length:Int)<17)=False:=eq_false (by omega)
 have kb:=bJ ((s.drop 5).take 4) (by rw [List.length_take];omega)
 have kK:=bJ (s.take 1) (by rw [List.length_take];omega)
 have kW:=bJ ((s.drop 1).take 2) (by rw [List.length_take];omega)
 have kH:=bJ ((s.drop 3).take 2) (by rw [List.length_take];omega)
 rw [show bV (s.take 1)=dK s from rfl] at kK
 rw [show bV ((s.drop 1).take 2)=dW s from rfl] at kW
 rw [show bV ((s.drop 3).take 2)=dH s from rfl] at kH
 have hlt:=oK s
 rw [show bV ((s.drop 5).take 4)=dL s from rfl] at kb
 have f3:((s.length:Int)=17+(dL s:Int))=True:=eq_true (by omega)
 have ks:=iY (s.take (s.length - 8)) (by rw [List.length_take];omega)
 have hal:=jB s c1
 have e8:(s.length:Int) - 8=((s.length - 8:Nat):Int):=by omega
 have htd:(s.drop (s.length - 8)).take (s.length - (s.length - 8))=s.drop (s.length - 8):=List.take_of_length_le (by rw [List.length_drop];exact Nat.le_refl _)
 have hKl:=qR s
 have hWl:=qW s
 have hHl:=qP s
 have hDl:=lS s c1
 have f4:(dU (s.take (s.length - 8))=s.drop (s.length - 8))=True:=eq_true h3
 have hk0:=tJ s c1
 have fk1:((dK s:Int)<1)=False:=eq_false (by omega)
 have fk2:(4<(dK s:Int))=False:=eq_false (by omega)
 have kz:=nN (dW s) (dH s)
 generalize aS (dW s) (dH s)=z at *
 have f5:(z=0)=False:=eq_false h5
 generalize dL s=L at *
 refine aA.aG Tryz.func16 rfl (by decide) (by simp [Tryz.f16]) [.cell 2 24,.tmp 3] rfl fun w0 T0 _=>?_
 simp only [Tryz.f16,au]
 (repeat' with_reducible first|intro _|refine rz ?_|refine ra ?_ ?_|omega|simp only [go_sem,f1,f2])
 refine ah.k kb ?_
 (repeat' with_reducible first|intro _|refine rz ?_|refine ra ?_ ?_|omega|simp only [go_sem,f3,e8])
 refine aQ.lex [] [] (by kernel_rfl) (by kernel_rfl) ?_
 (repeat' with_reducible first|intro _|refine rz ?_|refine ra ?_ ?_|omega|simp only [go_sem,Nat.sub_zero,hal,e8])
 (refine QV.intro (.str (dU (s.take (s.length - 8)))) ?_ ?_;focus ((repeat' with_reducible first|intro _|exact dn|refine rn ?_|refine ra ?_ ?_);refine ah.k (ks) ?_;(repeat' with_reducible first|intro _|exact dn|refine rn ?_|refine ra ?_ ?_)))
 (repeat' with_reducible first|intro _|refine rz ?_|refine ra ?_ ?_|omega|simp only [go_sem,Nat.sub_zero,hal,htd,f4,e8])
 refine aQ.lex [] [] (by kernel_rfl) (by kernel_rfl) ?_
 (repeat' with_reducible first|intro _|refine rz ?_|refine ra ?_ ?_|omega|simp only [go_sem,hk0])
 (refine QV.intro (.int .i64 (dW s)) ?_ ?_;focus ((repeat' with_reducible first|intro _|exact dn|refine rn ?_|refine ra ?_ ?_);refine ah.k (kW) ?_;(repeat' with_reducible first|intro _|exact dn|refine rn ?_|refine ra ?_ ?_)))
 (repeat' with_reducible first|intro _|exact dn|refine rn ?_|refine ra ?_ ?_)
 (refine QV.intro (.int .i64 (dH s)) ?_ ?_;focus ((repeat' with_reducible first|intro _|exact dn|refine rn ?_|refine ra ?_ ?_);refine ah.k (kH) ?_;(repeat' with_reducible first|intro _|exact dn|refine rn ?_|refine ra ?_ ?_)))
 (repeat' with_reducible first|intro _|refine rz ?_|refine ra ?_ ?_|omega|simp only [go_sem,fk1,fk2])
 refine ah.k kz ?_
 (repeat' with_reducible first|intro _|refine rz ?_|refine ra ?_ ?_|omega|simp only [go_sem,f5])
 refine ah.k (gI z) ?_
 (repeat' with_reducible first|intro _|exact dn|refine rn ?_|refine ra ?_ ?_)
 refine aV.auto 0 ?_ rfl ?_<;>simp only [go_sem,Int.natCast_succ,Post]
set_option maxHeartbeats 8000000 in
theorem Ig (s:Bytes) (c:xJ s) (h3:dU (s.take (s.length - 8))=s.drop (s.length - 8)) (h4:1≤dK s∧dK s≤4) (h5:aS (dW s) (dH s)=0) (h6:(Ad s).2=false):aA Tryz.prog 16 [.str s] (.tup [.agg [.int .i64 0,.int .i64 0,.nilS],.int .i64 8]) []:=by
 obtain ⟨c1,c2,c3⟩:=c
 have f1:((2097152:Int)<(s.length:Int))=False:=eq_false (by omega)
 have f2:((s.length:Int)<17)=False:=eq_false (by omega)
 have kb:=bJ ((s.drop 5).take 4) (by rw [List.length_take];omega)
 have kK:=bJ (s.take 1) (by rw [List.length_take];omega)
 have kW:=bJ ((s.drop 1).take 2) (by rw [List.length_take];omega)
 have kH:=bJ ((s.drop 3).take 2) (by rw [List.length_take];omega)
 rw [show bV (s.take 1)=dK s from rfl] at kK
 rw [show bV ((s.drop 1).take 2)=dW s from rfl] at kW
 rw [show bV ((s.drop 3).take 2)=dH s from rfl] at kH
 have hlt:=oK s
 rw [show bV ((s.drop 5).take 4)=dL s from rfl] at kb
 have f3:((s.length:Int)=17+(dL s:Int))=True:=eq_true (by omega)
 have ks:=iY (s.take (s.length - 8)) (by rw [List.length_take];omega)
 have hal:=jB s c1
 have e8:(s.length:Int) - 8=((s.length - 8:Nat):Int):=by omega
 have htd:(s.drop (s.length - 8)).take (s.length - (s.length - 8))=s.drop (s.length - 8):=List.take_of_length_le (by rw [List.length_drop];exact Nat.le_refl _)
 have hKl:=qR s
 have hWl:=qW s
 have hHl:=qP s
 have hDl:=lS s c1
 have f4:(dU (s.take (s.length - 8))=s.drop (s.length - 8))=True:=eq_true h3
 have hk0:=tJ s c1
 have fk1:((dK s:Int)<1)=False:=eq_false (by omega)
 have fk2:(4<(dK s:Int))=False:=eq_false (by omega)
 have kz:=nN (dW s) (dH s)
 have hz:=fA h5
 have hwh:((dW s:Int)*(dH s:Int))=((dW s*dH s:Nat):Int):=(Int.natCast_mul _ _).symm
 rw [hwh] at hz
 rw [h5] at kz
 have kp:=QY (dW s) (dH s) (by omega) (by omega) (by omega) (by omega) (dD s) (by omega) (dK s) (by omega) h6
 have hcut:=MO s c1
 have hp:pJ (dK s) (dW s) (dH s) (dD s)=Ad s:=rfl
 rw [hp] at kp
 generalize Ad s=q at *
 generalize dD s=d at *
 generalize dL s=L at *
 refine aA.aG Tryz.func16 rfl (by decide) (by simp [Tryz.f16]) [.cell 2 24,.tmp 3] rfl fun w0 T0 _=>?_
 simp only [Tryz.f16,au]
 (repeat' with_reducible first|intro _|refine rz ?_|refine ra ?_ ?_|omega|simp only [go_sem,f1,f2])
 refine ah.k kb ?_
 (repeat' with_reducible first|intro _|refine rz ?_|refine ra ?_ ?_|omega|simp only [go_sem,f3,e8])
 refine aQ.lex [] [] (by kernel_rfl) (by kernel_rfl) ?_
 (repeat' with_reducible first|intro _|refine rz ?_|refine ra ?_ ?_|omega|simp only [go_sem,Nat.sub_zero,hal,e8])
 (refine QV.intro (.str (dU (s.take (s.length - 8)))) ?_ ?_;focus ((repeat' with_reducible first|intro _|exact dn|refine rn ?_|refine ra ?_ ?_);refine ah.k (ks) ?_;(repeat' with_reducible first|intro _|exact dn|refine rn ?_|refine ra ?_ ?_)))
 (repeat' with_reducible first|intro _|refine rz ?_|refine ra ?_ ?_|omega|simp only [go_sem,Nat.sub_zero,hal,htd,f4,e8])
 refine aQ.lex [] [] (by kernel_rfl) (by kernel_rfl) ?_
 (repeat' with_reducible first|intro _|refine rz ?_|refine ra ?_ ?_|omega|simp only [go_sem,hk0])
 (refine QV.intro (.int .i64 (dW s)) ?_ ?_;focus ((repeat' with_reducible first|intro _|exact dn|refine rn ?_|refine ra ?_ ?_);refine ah.k (kW) ?_;(repeat' with_reducible first|intro _|exact dn|refine rn ?_|refine ra ?_ ?_)))
 (repeat' with_reducible first|intro _|exact dn|refine rn ?_|refine ra ?_ ?_)
 (refine QV.intro (.int .i64 (dH s)) ?_ ?_;focus ((repeat' with_reducible first|intro _|exact dn|refine rn ?_|refine ra ?_ ?_);refine ah.k (kH) ?_;(repeat' with_reducible first|intro _|exact dn|refine rn ?_|refine ra ?_ ?_)))
 (repeat' with_reducible first|intro _|refine rz ?_|refine ra ?_ ?_|omega|simp only [go_sem,fk1,fk2])
 refine ah.k kz ?_
 (repeat' with_reducible first|intro _|refine rz ?_|refine ra ?_ ?_|omega|simp only [go_sem,hal,hcut,e8])
 refine ah.f kp 0 ?_
 (repeat' with_reducible first|intro _|exact dn|refine rn ?_|refine ra ?_ ?_)
 refine ah.k (gI 8) ?_
 (repeat' with_reducible first|intro _|exact dn|refine rn ?_|refine ra ?_ ?_)
 refine aV.auto 0 ?_ rfl ?_<;>simp only [go_sem,Int.natCast_succ,Post]
set_option maxHeartbeats 8000000 in
theorem G9 (s:Bytes) (c:xJ s) (h3:dU (s.take (s.length - 8))=s.drop (s.length - 8)) (h4:1≤dK s∧dK s≤4) (h5:aS (dW s) (dH s)=0) (h6:(Ad s).2=true) (h7:¬fE (dW s) (dH s) (Ad s).1 (dK s)=s):aA Tryz.prog 16 [.str s] (.tup [.agg [.int .i64 0,.int .i64 0,.nilS],.int .i64 8]) []:=by
 obtain ⟨c1,c2,c3⟩:=c
 have f1:((2097152:Int)<(s.length:Int))=False:=eq_false (by omega)
 have f2:((s.length:Int)<17)=False:=eq_false (by omega)
 have kb:=bJ ((s.drop 5).take 4) (by rw [List.length_take];omega)
 have kK:=bJ (s.take 1) (by rw [List.length_take];omega)
 have kW:=bJ ((s.drop 1).take 2) (by rw [List.length_take];omega)
 have kH:=bJ ((s.drop 3).take 2) (by rw [List.length_take];omega)
 rw [show bV (s.take 1)=dK s from rfl] at kK
 rw [show bV ((s.drop 1).take 2)=dW s from rfl] at kW
 rw [show bV ((s.drop 3).take 2)=dH s from rfl] at kH
 have hlt:=oK s
 rw [show bV ((s.drop 5).take 4)=dL s from rfl] at kb
 have f3:((s.length:Int)=17+(dL s:Int))=True:=eq_true (by omega)
 have ks:=iY (s.take (s.length - 8)) (by rw [List.length_take];omega)
 have hal:=jB s c1
 have e8:(s.length:Int) - 8=((s.length - 8:Nat):Int):=by omega
 have htd:(s.drop (s.length - 8)).take (s.length - (s.length - 8))=s.drop (s.length - 8):=List.take_of_length_le (by rw [List.length_drop];exact Nat.le_refl _)
 have hKl:=qR s
 have hWl:=qW s
 have hHl:=qP s
 have hDl:=lS s c1
 have f4:(dU (s.take (s.length - 8))=s.drop (s.length - 8))=True:=eq_true h3
 have hk0:=tJ s c1
 have fk1:((dK s:Int)<1)=False:=eq_false (by omega)
 have fk2:(4<(dK s:Int))=False:=eq_false (by omega)
 have kz:=nN (dW s) (dH s)
 have hz:=fA h5
 have hwh:((dW s:Int)*(dH s:Int))=((dW s*dH s:Nat):Int):=(Int.natCast_mul _ _).symm
 rw [hwh] at hz
 rw [h5] at kz
 have kp:=Gi (dW s) (dH s) (by omega) (by omega) (by omega) (by omega) (dD s) (by omega) (dK s) (by omega) h6
 have hcut:=MO s c1
 have hp:pJ (dK s) (dW s) (dH s) (dD s)=Ad s:=rfl
 rw [hp] at kp
 have hpl:(Ad s).1.length=dW s*dH s:=JV h6
 have ke:=qx (dW s) (dH s) (by omega) (by omega) (by omega) (by omega) (Ad s).1 hpl (dK s) (by omega)
 have f9:(fE (dW s) (dH s) (Ad s).1 (dK s)=s)=False:=eq_false h7
 generalize fE (dW s) (dH s) (Ad s).1 (dK s)=E at *
 generalize Ad s=q at *
 generalize dD s=d at *
 generalize dL s=L at *
 refine aA.aG Tryz.func16 rfl (by decide) (by simp [Tryz.f16]) [.cell 2 24,.tmp 3] rfl fun w0 T0 _=>?_
 simp only [Tryz.f16,au]
 (repeat' with_reducible first|intro _|refine rz ?_|refine ra ?_ ?_|omega|simp only [go_sem,f1,f2])
 refine ah.k kb ?_
 (repeat' with_reducible first|intro _|refine rz ?_|refine ra ?_ ?_|omega|simp only [go_sem,f3,e8])
 refine aQ.lex [] [] (by kernel_rfl) (by kernel_rfl) ?_
 (repeat' with_reducible first|intro _|refine rz ?_|refine ra ?_ ?_|omega|simp only [go_sem,Nat.sub_zero,hal,e8])
 (refine QV.intro (.str (dU (s.take (s.length - 8)))) ?_ ?_;focus ((repeat' with_reducible first|intro _|exact dn|refine rn ?_|refine ra ?_ ?_);refine ah.k (ks) ?_;(repeat' with_reducible first|intro _|exact dn|refine rn ?_|refine ra ?_ ?_)))
 (repeat' with_reducible first|intro _|refine rz ?_|refine ra ?_ ?_|omega|simp only [go_sem,Nat.sub_zero,hal,htd,f4,e8])
 refine aQ.lex [] [] (by kernel_rfl) (by kernel_rfl) ?_
 (repeat' with_reducible first|intro _|refine rz ?_|refine ra ?_ ?_|omega|simp only [go_sem,hk0])
 (refine QV.intro (.int .i64 (dW s)) ?_ ?_;focus ((repeat' with_reducible first|intro _|exact dn|refine rn ?_|refine ra ?_ ?_);refine ah.k (kW) ?_;(repeat' with_reducible first|intro _|exact dn|refine rn ?_|refine ra ?_ ?_)))
 (repeat' with_reducible first|intro _|exact dn|refine rn ?_|refine ra ?_ ?_)
 (refine QV.intro (.int .i64 (dH s)) ?_ ?_;focus ((repeat' with_reducible first|intro _|exact dn|refine rn ?_|refine ra ?_ ?_);refine ah.k (kH) ?_;(repeat' with_reducible first|intro _|exact dn|refine rn ?_|refine ra ?_ ?_)))
 (repeat' with_reducible first|intro _|refine rz ?_|refine ra ?_ ?_|omega|simp only [go_sem,fk1,fk2])
 refine ah.k kz ?_
 (repeat' with_reducible first|intro _|refine rz ?_|refine ra ?_ ?_|omega|simp only [go_sem,hal,hcut,e8])
 refine ah.o kp 1 ?_
 (repeat' with_reducible first|intro _|exact dn|refine rn ?_|refine ra ?_ ?_)
 refine ah.k ke ?_
 (repeat' with_reducible first|intro _|refine rz ?_|refine ra ?_ ?_|omega|simp only [go_sem,f9])
 refine ah.k (gI 8) ?_
 (repeat' with_reducible first|intro _|exact dn|refine rn ?_|refine ra ?_ ?_)
 refine aV.auto 0 ?_ rfl ?_<;>simp only [go_sem,Int.natCast_succ,Post]
set_option maxHeartbeats 8000000 in
theorem Il (s:Bytes) (c:xJ s) (h3:dU (s.take (s.length - 8))=s.drop (s.length - 8)) (h4:1≤dK s∧dK s≤4) (h5:aS (dW s) (dH s)=0) (h6:(Ad s).2=true) (h7:fE (dW s) (dH s) (Ad s).1 (dK s)=s):aA Tryz.prog 16 [.str s] (.tup [.agg [.int .i64 (dW s),.int .i64 (dH s),.own 0],.int .i64 0]) [(0,.row 4 (.bools (Ad s).1))]:=by
 obtain ⟨c1,c2,c3⟩:=c
 have f1:((2097152:Int)<(s.length:Int))=False:=eq_false (by omega)
 have f2:((s.length:Int)<17)=False:=eq_false (by omega)
 have kb:=bJ ((s.drop 5).take 4) (by rw [List.length_take];omega)
 have kK:=bJ (s.take 1) (by rw [List.length_take];omega)
 have kW:=bJ ((s.drop 1).take 2) (by rw [List.length_take];omega)
 have kH:=bJ ((s.drop 3).take 2) (by rw [List.length_take];omega)
 rw [show bV (s.take 1)=dK s from rfl] at kK
 rw [show bV ((s.drop 1).take 2)=dW s from rfl] at kW
 rw [show bV ((s.drop 3).take 2)=dH s from rfl] at kH
 have hlt:=oK s
 rw [show bV ((s.drop 5).take 4)=dL s from rfl] at kb
 have f3:((s.length:Int)=17+(dL s:Int))=True:=eq_true (by omega)
 have ks:=iY (s.take (s.length - 8)) (by rw [List.length_take];omega)
 have hal:=jB s c1
 have e8:(s.length:Int) - 8=((s.length - 8:Nat):Int):=by omega
 have htd:(s.drop (s.length - 8)).take (s.length - (s.length - 8))=s.drop (s.length - 8):=List.take_of_length_le (by rw [List.length_drop];exact Nat.le_refl _)
 have hKl:=qR s
 have hWl:=qW s
 have hHl:=qP s
 have hDl:=lS s c1
 have f4:(dU (s.take (s.length - 8))=s.drop (s.length - 8))=True:=eq_true h3
 have hk0:=tJ s c1
 have fk1:((dK s:Int)<1)=False:=eq_false (by omega)
 have fk2:(4<(dK s:Int))=False:=eq_false (by omega)
 have kz:=nN (dW s) (dH s)
 have hz:=fA h5
 have hwh:((dW s:Int)*(dH s:Int))=((dW s*dH s:Nat):Int):=(Int.natCast_mul _ _).symm
 rw [hwh] at hz
 rw [h5] at kz
 have kp:=Gi (dW s) (dH s) (by omega) (by omega) (by omega) (by omega) (dD s) (by omega) (dK s) (by omega) h6
 have hcut:=MO s c1
 have hp:pJ (dK s) (dW s) (dH s) (dD s)=Ad s:=rfl
 rw [hp] at kp
 have hpl:(Ad s).1.length=dW s*dH s:=JV h6
 have ke:=qx (dW s) (dH s) (by omega) (by omega) (by omega) (by omega) (Ad s).1 hpl (dK s) (by omega)
 have f9:(fE (dW s) (dH s) (Ad s).1 (dK s)=s)=True:=eq_true h7
 generalize fE (dW s) (dH s) (Ad s).1 (dK s)=E at *
 generalize Ad s=q at *
 generalize dD s=d at *
 generalize dL s=L at *
 refine aA.aG Tryz.func16 rfl (by decide) (by simp [Tryz.f16]) [.cell 2 24,.tmp 3] rfl fun w0 T0 _=>?_
 simp only [Tryz.f16,au]
 (repeat' with_reducible first|intro _|refine rz ?_|refine ra ?_ ?_|omega|simp only [go_sem,f1,f2])
 refine ah.k kb ?_
 (repeat' with_reducible first|intro _|refine rz ?_|refine ra ?_ ?_|omega|simp only [go_sem,f3,e8])
 refine aQ.lex [] [] (by kernel_rfl) (by kernel_rfl) ?_
 (repeat' with_reducible first|intro _|refine rz ?_|refine ra ?_ ?_|omega|simp only [go_sem,Nat.sub_zero,hal,e8])
 (refine QV.intro (.str (dU (s.take (s.length - 8)))) ?_ ?_;focus ((repeat' with_reducible first|intro _|exact dn|refine rn ?_|refine ra ?_ ?_);refine ah.k (ks) ?_;(repeat' with_reducible first|intro _|exact dn|refine rn ?_|refine ra ?_ ?_)))
 (repeat' with_reducible first|intro _|refine rz ?_|refine ra ?_ ?_|omega|simp only [go_sem,Nat.sub_zero,hal,htd,f4,e8])
 refine aQ.lex [] [] (by kernel_rfl) (by kernel_rfl) ?_
 (repeat' with_reducible first|intro _|refine rz ?_|refine ra ?_ ?_|omega|simp only [go_sem,hk0])
 (refine QV.intro (.int .i64 (dW s)) ?_ ?_;focus ((repeat' with_reducible first|intro _|exact dn|refine rn ?_|refine ra ?_ ?_);refine ah.k (kW) ?_;(repeat' with_reducible first|intro _|exact dn|refine rn ?_|refine ra ?_ ?_)))
 (repeat' with_reducible first|intro _|exact dn|refine rn ?_|refine ra ?_ ?_)
 (refine QV.intro (.int .i64 (dH s)) ?_ ?_;focus ((repeat' with_reducible first|intro _|exact dn|refine rn ?_|refine ra ?_ ?_);refine ah.k (kH) ?_;(repeat' with_reducible first|intro _|exact dn|refine rn ?_|refine ra ?_ ?_)))
 (repeat' with_reducible first|intro _|refine rz ?_|refine ra ?_ ?_|omega|simp only [go_sem,fk1,fk2])
 refine ah.k kz ?_
 (repeat' with_reducible first|intro _|refine rz ?_|refine ra ?_ ?_|omega|simp only [go_sem,hal,hcut,e8])
 refine ah.o kp 1 ?_
 (repeat' with_reducible first|intro _|exact dn|refine rn ?_|refine ra ?_ ?_)
 refine ah.k ke ?_
 (repeat' with_reducible first|intro _|refine rz ?_|refine ra ?_ ?_|omega|simp only [go_sem,f9])
 refine aV.auto 1 ?_ rfl ?_<;>simp only [go_sem,Int.natCast_succ,Post]
theorem Ie (s:Bytes) (hs:s.length≤200000000000000):dh Tryz.prog 16 [.str s] (Ui (iJ s)) []:=by
 unfold iJ
 have no:∀ e,aA Tryz.prog 16 [.str s] (.tup [.agg [.int .i64 0,.int .i64 0,.nilS],.int .i64 e]) []→dh Tryz.prog 16 [.str s] (Ui (qV e)) []:=fun e k=>
  dh.AB (dh.eG k rfl rfl) (by simp [Ui,qV,dN,aP,aU,bH,aF,lk,aJ,nilRow])
 by_cases h1:2097152<s.length
 ·rw [if_pos h1];exact no _ (Hf s hs h1)
 rw [if_neg h1]
 by_cases h2:s.length<17∨s.length≠17+dL s
 ·rw [if_pos h2];exact no _ (I9 s (by omega) h2)
 rw [if_neg h2]
 have c:xJ s:=⟨by omega,by omega,by omega⟩
 by_cases h3:dU (s.take (s.length - 8))=s.drop (s.length - 8)
 rotate_left
 ·rw [if_pos h3];exact no _ (Gv s c h3)
 rw [if_neg (fun h=>h h3)]
 by_cases h4:1≤dK s∧dK s≤4
 rotate_left
 ·rw [if_pos h4];exact no _ (Hr s c h3 h4)
 rw [if_neg (fun h=>h h4)]
 by_cases h5:aS (dW s) (dH s)=0
 rotate_left
 ·rw [if_pos h5];exact no _ (Iu s c h3 h4 h5)
 rw [if_neg (fun h=>h h5)]
 have hz:=fA h5
 obtain ⟨g1,g2⟩:=SH (s:=s) (by omega)
 by_cases h6:(Ad s).2=true
 rotate_left
 ·rw [if_neg (fun h=>h6 (g1.2 h).1)];exact no _ (Ig s c h3 h4 h5 (by simpa using h6))
 by_cases h7:fE (dW s) (dH s) (Ad s).1 (dK s)=s
 ·have hg:JB s:=⟨h6,h7⟩
  rw [if_pos (g1.1 hg),←g2 hg]
  exact dh.AB (dh.eG (Il s c h3 h4 h5 h6 h7) rfl rfl) (by simp [Ui,dN,aP,aU,bH,aF,lk,aJ])
 ·rw [if_neg (fun h=>h7 (g1.2 h).2)];exact no _ (G9 s c h3 h4 h5 h6 h7)
set_option maxHeartbeats 1000000 in
theorem EH (a b:List Bool):aA Tryz.prog 77 [.ro (.bools a),.ro (.bools b)] (.bool (decide (a=b))) []:=by
 refine aA.aG Tryz.func77 rfl (by decide) (by simp [Tryz.f77]) [.tmp 4] rfl fun w0 T0 _=>?_
 simp only [Tryz.f77,au]
 simp only [go_sem]
 refine qg.intro fun _=>qg.intro fun _=>Ite.decide (fun h=>?_) fun h=>?_
 ·simp only [go_sem]
  refine aV.auto 0 ?_ rfl (by simp [jy])
  have:a≠b:=by intro e;subst e;exact h rfl
  simp only [go_sem,Int.natCast_succ,Post,this,decide_false,decide_true]
 have hl:a.length=b.length:=by omega
 simp only [go_sem]
 refine qg.intro fun _=>aI.intro (fun i:Nat=>⟨26,[(0,.ro (.bools a)),(1,.ro (.bools b)),(12,.int .i64 a.length),(13,.int .i64 i)],[],0⟩) (fun i=>i≤a.length∧∀ j,j<i→a.getD j false=b.getD j false) (fun i=>a.length - i) 0 ?_ ⟨by omega,fun j hj=>by omega⟩ fun i hi=>?_
 ·refine aO.ak rfl ?_ ?_<;>simp only [go_sem,Int.natCast_succ]
 simp only [go_sem]
 refine Ite.decide (fun h1=>?_) (fun h1=>?_)
 ·simp only [go_sem]
  refine aQ.lex [] [] (by kernel_rfl) (by kernel_rfl) ?_
  simp only [go_sem]
  (repeat' first|(with_reducible refine qg.intro fun _=>?_)|((with_reducible refine bn.intro ?_ ?_);(· first|omega|(with_reducible refine bn.intro ?_ ?_<;>omega)|(simp;done)|(simp;omega)))|((with_reducible refine bW.i64 ?_ ?_ ?_);(· omega);(· omega))|((with_reducible refine Ite.decide (fun _=>?_) (fun _=>?_))<;>first|(exfalso;omega)|simp only [go_sem])|((with_reducible refine Ite.bool (fun _=>?_) (fun _=>?_))<;>simp only [go_sem])|(with_reducible refine And.intro ?_ ?_))
  ·rename_i h2
   refine aV.auto 0 ?_ rfl (by simp [jy])
   have:a≠b:=by intro e;subst e;exact h2 rfl
   simp only [go_sem,Int.natCast_succ,Post,this]
  ·rename_i h2
   refine ⟨i+1,aO.ak rfl ?_ ?_,⟨by omega,fun j hj=>?_⟩,by omega⟩
   ·simp only [go_sem,Int.natCast_succ]
    all_goals omega
   ·simp only [go_sem,Int.natCast_succ]
   ·by_cases e:j=i
    ·subst e;exact Decidable.of_not_not h2
    ·exact hi.2 j (by omega)
 ·simp only [go_sem]
  refine aV.auto 0 ?_ rfl (by simp [jy])
  have:a=b:=CJ false hl fun j hj=>hi.2 j (by omega)
  simp only [go_sem,Int.natCast_succ,Post,this,decide_false,decide_true]
set_option maxHeartbeats 1000000 in
theorem rG (w h w' h':Int) (p p':List Bool):aA Tryz.prog 23 [.agg [.int .i64 w,.int .i64 h,.ro (.bools p)],.agg [.int .i64 w',.int .i64 h',.ro (.bools p')]] (.bool (decide (w=w'∧h=h'∧p=p'))) []:=by
 refine aA.aG Tryz.func23 rfl (by decide) (by simp [Tryz.f23]) [.tmp 4] rfl fun w0 T0 _=>?_
 simp only [Tryz.f23,au]
 simp only [go_sem]
 (repeat' first|(with_reducible refine qg.intro fun _=>?_)|((with_reducible refine bn.intro ?_ ?_);(· first|omega|(with_reducible refine bn.intro ?_ ?_<;>omega)|(simp;done)|(simp;omega)))|((with_reducible refine bW.i64 ?_ ?_ ?_);(· omega);(· omega))|((with_reducible refine Ite.decide (fun _=>?_) (fun _=>?_))<;>first|(exfalso;omega)|simp only [go_sem])|((with_reducible refine Ite.bool (fun _=>?_) (fun _=>?_))<;>simp only [go_sem])|(with_reducible refine And.intro ?_ ?_))
 ·refine ah.fr (args':=[.ro (.bools p),.ro (.bools p')]) (dh.eG (EH p p') rfl rfl) (by simp [aP,aU,aF]) 0 rfl (by simp [iL]) ?_
  try simp only [go_sem]
  (repeat' first|(with_reducible refine qg.intro fun _=>?_)|((with_reducible refine bn.intro ?_ ?_);(· first|omega|(with_reducible refine bn.intro ?_ ?_<;>omega)|(simp;done)|(simp;omega)))|((with_reducible refine bW.i64 ?_ ?_ ?_);(· omega);(· omega))|((with_reducible refine Ite.decide (fun _=>?_) (fun _=>?_))<;>first|(exfalso;omega)|simp only [go_sem])|((with_reducible refine Ite.bool (fun _=>?_) (fun _=>?_))<;>simp only [go_sem])|(with_reducible refine And.intro ?_ ?_))
  rename_i h1
  refine aV.auto 0 ?_ rfl ?_<;>simp only [go_sem,Int.natCast_succ,Post]
  simp [h1.1,h1.2]
 ·rename_i h1
  refine aV.auto 0 ?_ rfl ?_<;>simp only [go_sem,Int.natCast_succ,Post]
  exact (decide_eq_false fun x=>h1 ⟨x.1,x.2.1⟩).symm
set_option maxHeartbeats 1000000 in
theorem QN (w h:Int) (p:List Bool) (e w' h':Int) (p':List Bool) (f:Int) (hf:f≠0):aA Tryz.prog 17 [.agg [.int .i64 w,.int .i64 h,.ro (.bools p)],.int .i64 e,.agg [.int .i64 w',.int .i64 h',.ro (.bools p')],.int .i64 f] (.bool (decide (((e=f∧w=0)∧h=0)∧(p.length:Int)=0))) []:=by
 refine aA.aG Tryz.func17 rfl (by decide) (by simp [Tryz.f17]) [.tmp 8] rfl fun w0 T0 _=>?_
 simp only [Tryz.f17,au]
 simp only [go_sem]
 (repeat' first|(with_reducible refine qg.intro fun _=>?_)|((with_reducible refine bn.intro ?_ ?_);(· first|omega|(with_reducible refine bn.intro ?_ ?_<;>omega)|(simp;done)|(simp;omega)))|((with_reducible refine bW.i64 ?_ ?_ ?_);(· omega);(· omega))|((with_reducible refine Ite.decide (fun _=>?_) (fun _=>?_))<;>first|(exfalso;omega)|simp only [go_sem])|((with_reducible refine Ite.bool (fun _=>?_) (fun _=>?_))<;>simp only [go_sem])|(with_reducible refine And.intro ?_ ?_))
 refine aV.auto 0 ?_ rfl ?_<;>simp only [go_sem,Int.natCast_succ,Post]
set_option maxHeartbeats 1000000 in
theorem Sl (w h:Int) (p:List Bool) (e w' h':Int) (p':List Bool):aA Tryz.prog 17 [.agg [.int .i64 w,.int .i64 h,.ro (.bools p)],.int .i64 e,.agg [.int .i64 w',.int .i64 h',.ro (.bools p')],.int .i64 0] (.bool (decide (e=0∧w=w'∧h=h'∧p=p'))) []:=by
 refine aA.aG Tryz.func17 rfl (by decide) (by simp [Tryz.f17]) [.tmp 8] rfl fun w0 T0 _=>?_
 simp only [Tryz.f17,au]
 simp only [go_sem]
 (repeat' first|(with_reducible refine qg.intro fun _=>?_)|((with_reducible refine bn.intro ?_ ?_);(· first|omega|(with_reducible refine bn.intro ?_ ?_<;>omega)|(simp;done)|(simp;omega)))|((with_reducible refine bW.i64 ?_ ?_ ?_);(· omega);(· omega))|((with_reducible refine Ite.decide (fun _=>?_) (fun _=>?_))<;>first|(exfalso;omega)|simp only [go_sem])|((with_reducible refine Ite.bool (fun _=>?_) (fun _=>?_))<;>simp only [go_sem])|(with_reducible refine And.intro ?_ ?_))
 ·rename_i h1
  refine ah.fr (args':=[.agg [.int .i64 w,.int .i64 h,.ro (.bools p)],.agg [.int .i64 w',.int .i64 h',.ro (.bools p')]]) (dh.eG (rG w h w' h' p p') rfl rfl) (by simp [aP,aU,aF]) 0 rfl (by simp [iL]) ?_
  simp only [go_sem]
  (repeat' first|(with_reducible refine qg.intro fun _=>?_)|((with_reducible refine bn.intro ?_ ?_);(· first|omega|(with_reducible refine bn.intro ?_ ?_<;>omega)|(simp;done)|(simp;omega)))|((with_reducible refine bW.i64 ?_ ?_ ?_);(· omega);(· omega))|((with_reducible refine Ite.decide (fun _=>?_) (fun _=>?_))<;>first|(exfalso;omega)|simp only [go_sem])|((with_reducible refine Ite.bool (fun _=>?_) (fun _=>?_))<;>simp only [go_sem])|(with_reducible refine And.intro ?_ ?_))
  refine aV.auto 0 ?_ rfl ?_<;>simp only [go_sem,Int.natCast_succ,Post]
  simp [h1]
 ·rename_i h1
  refine aV.auto 0 ?_ rfl ?_<;>simp only [go_sem,Int.natCast_succ,Post]
  exact (decide_eq_false fun x=>h1 x.1).symm
end Go.Fv.H
/- The reference's Shortest: the walk. -/
namespace Go.Fv.H
open Go Go.Proofs
end Go.Fv.H
/- A page made right: the walk's result, and how long its codes are. -/
namespace Go.Fv.H
open Go Go.Proofs
structure XC where
 (w h:Nat) (p:List Bool)
def NS (W H:Int) (p:List Bool):XC:=⟨jq W 31,jq H 31,rowsOf (jq W 31) (Ns p (jq W 31)) (jq H 31*jq W 31)⟩
structure XC.Ok (b:XC):Prop where
 g:oV b.w b.h b.p
 w32:b.w≤32
 h32:b.h≤32
theorem OO (W H:Int) (p:List Bool):(NS W H p).Ok:=by
 obtain ⟨w1,w2,_⟩:=Bf W 31 (by decide)
 obtain ⟨h1,h2,_⟩:=Bf H 31 (by decide)
 have hl:=Em (jq W 31) (Ns p (jq W 31)) (jq H 31*jq W 31)
 have hm:jq W 31*jq H 31≤32*32:=Nat.mul_le_mul w2 h2
 refine ⟨⟨w1,?_,h1,?_,?_,?_⟩,w2,h2⟩
 ·show jq W 31≤4000;omega
 ·show jq H 31≤4000;omega
 ·show jq W 31*jq H 31≤_;omega
 ·show (rowsOf _ _ _).length=jq W 31*jq H 31;rw [hl,Nat.mul_comm]
def XC.av (b:XC):AV:=.agg [.int .i64 b.w,.int .i64 b.h,.ro (.bools b.p)]
theorem Ue (W H:Int) (p:List Bool):dh Tryz.prog 12 [.agg [.int .i64 W,.int .i64 H,.ro (.bools p)]] (.agg [.int .i64 (NS W H p).w,.int .i64 (NS W H p).h,.ro (.bools (NS W H p).p)]) []:=
 dh.AB (dh.eG (WJ W H p) rfl rfl) (by simp [NS,dN,aP,aU,bH,aF,lk,aJ])
theorem vV {w h:Nat} {p:List Bool} (g:oV w h p) (kind:Int):(fE w h p kind).length≤1048597:=by
 have:=KZ g kind
 rw [sF];omega
theorem QZ (w h:Nat) (p:List Bool) (kind:Int):17≤(fE w h p kind).length:=by rw [sF];omega
theorem NQ {w h:Nat} {p:List Bool} (g:oV w h p) {kind:Int} (hk:1≤kind∧kind≤4):dh Tryz.prog 15 [.str (fE w h p kind)] (.tup [.agg [.int .i64 w,.int .i64 h,.ro (.bools p)],.int .i64 0]) []:=by
 have hl:=vV g kind
 have k:=Gp (fE w h p kind) (by omega)
 rw [Ku g hk (by omega)] at k
 exact k
theorem NZ (w h:Nat) (p:List Bool) (e:Int) (he:e≠0→w=0∧h=0∧p=[]):aA Tryz.prog 17 [.agg [.int .i64 w,.int .i64 h,.ro (.bools p)],.int .i64 e,.agg [.int .i64 w,.int .i64 h,.ro (.bools p)],.int .i64 e] (.bool true) []:=by
 by_cases h0:e=0
 ·subst h0
  have k:=Sl (w:Int) (h:Int) p 0 (w:Int) (h:Int) p
  rw [decide_eq_true ⟨rfl,rfl,rfl,rfl⟩] at k
  exact k
 ·obtain ⟨rfl,rfl,rfl⟩:=he h0
  have k:=QN ((0:Nat):Int) ((0:Nat):Int) [] e ((0:Nat):Int) ((0:Nat):Int) [] e h0
  rw [decide_eq_true ⟨⟨⟨rfl,rfl⟩,rfl⟩,rfl⟩] at k
  exact k
theorem Sz (s:Bytes) (he:(iJ s).e≠0):(iJ s).w=0∧(iJ s).h=0∧(iJ s).p=[]:=by
 unfold iJ at he ⊢
 split
 ·exact ⟨rfl,rfl,rfl⟩
 ·split
  ·exact ⟨rfl,rfl,rfl⟩
  ·split
   ·exact ⟨rfl,rfl,rfl⟩
   ·split
    ·exact ⟨rfl,rfl,rfl⟩
    ·split
     ·exact ⟨rfl,rfl,rfl⟩
     ·split
      ·rename_i h1 h2 h3 h4 h5 h6
       rw [if_neg h1,if_neg h2,if_neg h3,if_neg h4,if_neg h5,if_pos h6] at he
       exact absurd rfl he
      ·exact ⟨rfl,rfl,rfl⟩
end Go.Fv.H
/- Strips put together, in plain words. -/
namespace Go.Fv.H
open Go Go.Proofs
def pY (W H:Nat) (P:List Bool):Nat→List Bytes→DQ
 | _,[]=>⟨W,H,P,0⟩
 | i,s::l=>
  if (iJ s).e≠0 then qV (iJ s).e
  else if 0<i∧(iJ s).w≠W then qV 11
  else pY (iJ s).w (H+(iJ s).h) (P++(iJ s).p) (i+1) l
def yF (l:List Bytes):DQ:=
 if l=[] then qV 9
 else if (pY 0 0 [] 0 l).e≠0 then pY 0 0 [] 0 l
 else if aS (pY 0 0 [] 0 l).w (pY 0 0 [] 0 l).h≠0 then qV (aS (pY 0 0 [] 0 l).w (pY 0 0 [] 0 l).h)
 else pY 0 0 [] 0 l
theorem Ky:∀ (l:List Bytes) (W H:Nat) (P:List Bool) (i:Nat),(pY W H P i l).e≠0→(pY W H P i l).w=0∧(pY W H P i l).h=0∧(pY W H P i l).p=[]
 | [],W,H,P,i,h=>absurd rfl h
 | s::l,W,H,P,i,h=>by
  unfold pY at h ⊢
  split
  ·exact ⟨rfl,rfl,rfl⟩
  ·rename_i h1
   rw [if_neg h1] at h
   split
   ·exact ⟨rfl,rfl,rfl⟩
   ·rename_i h2
    rw [if_neg h2] at h
    exact Ky l _ _ _ _ h
theorem U3 (l:List Bytes) (h:(yF l).e≠0):(yF l).w=0∧(yF l).h=0∧(yF l).p=[]:=by
 unfold yF at h ⊢
 split
 ·exact ⟨rfl,rfl,rfl⟩
 ·rename_i h1
  rw [if_neg h1] at h
  split
  ·rename_i h2
   exact Ky l _ _ _ _ h2
  ·rename_i h2
   rw [if_neg h2] at h
   split
   ·exact ⟨rfl,rfl,rfl⟩
   ·rename_i h3
    rw [if_neg h3] at h
    exact absurd (Classical.not_not.1 h2) h
theorem SN (l:List Bytes):aA Tryz.prog 17 [.agg [.int .i64 (yF l).w,.int .i64 (yF l).h,.ro (.bools (yF l).p)],.int .i64 (yF l).e,.agg [.int .i64 (yF l).w,.int .i64 (yF l).h,.ro (.bools (yF l).p)],.int .i64 (yF l).e] (.bool true) []:=
 NZ _ _ _ _ (U3 l)
end Go.Fv.H
/- FromStrips, of both: the walk. -/
namespace Go.Fv.H
open Go Go.Proofs
structure FX where
 (i W H:Nat) (P:List Bool)
theorem zC {W H:Nat} {P:List Bool} {i:Nat} {l:List Bytes} (h:i<l.length):pY W H P i (l.drop i)=if (iJ (l.getD i [])).e≠0 then qV (iJ (l.getD i [])).e else if 0<i∧(iJ (l.getD i [])).w≠W then qV 11 else pY (iJ (l.getD i [])).w (H+(iJ (l.getD i [])).h) (P++(iJ (l.getD i [])).p) (i+1) (l.drop (i+1)):=by
 rw [List.drop_eq_getElem_cons h,getD_lt h]
 rfl
theorem OX (s:Bytes):(iJ s).w≤4000∧(iJ s).h≤4000∧(iJ s).p.length≤1048576:=by
 by_cases h:(iJ s).e=0
 ·have g:=(Uu h).1
  exact ⟨g.w1,g.h1,by rw [g.p];exact g.wh⟩
 ·obtain ⟨h1,h2,h3⟩:=Sz s h
  rw [h1,h2,h3];simp
set_option maxHeartbeats 8000000 in
theorem uZ (l:List Bytes) (hl:l.length≤100000) (hs:∀ s,s∈l→s.length≤200000000000000) :
  aA Tryz.prog 18 [.ro (.strs l)] (.tup [.agg [.int .i64 (yF l).w,.int .i64 (yF l).h,.own 0],.int .i64 (yF l).e]) [(0,.row 4 (.bools (yF l).p))]:=by
 obtain ⟨R,hR⟩:∃ R,yF l=R:=⟨_,rfl⟩
 rw [hR]
 refine aA.aG Tryz.func18 rfl (by decide) (by simp [Tryz.f18]) [.cell 2 24,.tmp 3] rfl fun w0 T0 _=>?_
 simp only [Tryz.f18,au]
 by_cases h0:l=[]
 ·have hR0:R=qV 9:=by rw [←hR,h0];rfl
  subst h0
  rw [hR0]
  (repeat' with_reducible first|intro _|refine rz ?_|refine ra ?_ ?_|omega|simp only [go_sem,qV])
  refine aV.ent (aO.iM (P:=Tryz.prog) 0 2 4 e4 rfl rfl) ?_
  simp only [go_sem,Int.natCast_succ,put]
  refine aV.of [(0,1)] 1 ?_ (by rfl) ?_<;>simp only [go_sem,Int.natCast_succ,Post]
 have f0:((l.length:Int)=0)=False:=eq_false (by have:=List.length_pos_iff.2 h0;omega)
 obtain ⟨G,hG⟩:∃ G,pY 0 0 [] 0 l=G:=⟨_,rfl⟩
 have hRG:R=if G.e≠0 then G else if aS G.w G.h≠0 then qV (aS G.w G.h) else G:=by rw [←hR];unfold yF;rw [if_neg h0,hG]
 (repeat' with_reducible first|intro _|refine rz ?_|refine ra ?_ ?_|omega|simp only [go_sem,f0])
 refine aI.intro (fun x:FX=>⟨66,[(16,.int .i64 x.i),(15,.int .i64 l.length),(14,.ro (.strs l)),(4,.ptr 1 0),(2,.ptr 0 0)],[(0,.box 24 [.int .i64 0,.int .i64 0,.nilS]),(1,.box 24 [.int .i64 x.W,.int .i64 x.H,.own 2]),(2,.row 4 (.bools x.P))],3⟩) (fun x=>x.i≤l.length∧x.W≤4000∧x.H≤4000*x.i∧x.P.length≤1048576*x.i∧pY x.W x.H x.P x.i (l.drop x.i)=G) (fun x=>l.length - x.i) ⟨0,0,0,[]⟩ ?_ ⟨Nat.zero_le _,Nat.zero_le _,Nat.zero_le _,Nat.zero_le _,by rw [List.drop_zero];exact hG⟩ fun x hx=>?_
 ·refine aO.trans (aO.iM (P:=Tryz.prog) 1 2 4 e4 rfl rfl) (aO.ak rfl ?_ ?_)<;>simp only [go_sem,Int.natCast_succ,put]
  all_goals first|rfl|exact ⟨rfl,rfl⟩|trace_state
 obtain ⟨i,W,H,P⟩:=x
 obtain ⟨hi,hW,hH,hP,hgo⟩:=hx
 dsimp only at hi hW hH hP hgo ⊢
 by_cases hlt:i<l.length
 rotate_left
 ·have f1:((i:Int)<(l.length:Int))=False:=eq_false (by omega)
  rw [List.drop_of_length_le (by omega)] at hgo
  have hG2:G=⟨W,H,P,0⟩:=hgo.symm
  have hRG2:R=if aS W H≠0 then qV (aS W H) else ⟨W,H,P,0⟩:=by rw [hRG,hG2,if_neg (fun h=>h rfl)]
  have kz:=jg (W:Int) (H:Int)
  by_cases hz:aS W H=0
  ·rw [if_neg (fun h=>h hz)] at hRG2
   rw [hz] at kz
   rw [hRG2]
   (repeat' with_reducible first|intro _|refine rz ?_|refine ra ?_ ?_|omega|simp only [go_sem,f1])
   refine ah.k kz ?_
   (repeat' with_reducible first|intro _|exact dn|refine rn ?_|refine ra ?_ ?_)
   refine aV.of [(0,2)] 1 ?_ (by rfl) ?_<;>simp only [go_sem,Int.natCast_succ,Post]
  ·rw [if_pos hz] at hRG2
   have f2:(aS (W:Int) (H:Int)=0)=False:=eq_false hz
   rw [hRG2]
   generalize aS (W:Int) (H:Int)=z at *
   (repeat' with_reducible first|intro _|refine rz ?_|refine ra ?_ ?_|omega|simp only [go_sem,f1])
   refine ah.k kz ?_
   (repeat' with_reducible first|intro _|refine rz ?_|refine ra ?_ ?_|omega|simp only [go_sem,f2,qV])
   refine aV.ent (aO.iM (P:=Tryz.prog) 0 2 4 e4 rfl rfl) ?_
   simp only [go_sem,Int.natCast_succ,put]
   refine aV.of [(0,3)] 1 ?_ (by rfl) ?_<;>simp only [go_sem,Int.natCast_succ,Post]
 have f1:((i:Int)<(l.length:Int))=True:=eq_true (by omega)
 have hm:l.getD i []∈l:=by rw [getD_lt hlt];exact List.getElem_mem hlt
 have hsl:=hs _ hm
 have kd:=Gp (l.getD i []) hsl
 unfold Ui at kd
 rw [zC hlt] at hgo
 obtain ⟨b1,b2,b3⟩:=OX (l.getD i [])
 generalize iJ (l.getD i [])=q at *
 (repeat' with_reducible first|intro _|refine rz ?_|refine ra ?_ ?_|omega|simp only [go_sem,f1])
 refine ah.f kd 0 ?_
 by_cases he:q.e=0
 rotate_left
 ·have f2:(q.e=0)=False:=eq_false he
  rw [if_pos he] at hgo
  have hR2:R=qV q.e:=by rw [hRG,←hgo,if_pos (show (qV q.e).e≠0 from he)]
  rw [hR2]
  (repeat' with_reducible first|intro _|refine rz ?_|refine ra ?_ ?_|omega|simp only [go_sem,f2,qV])
  refine aV.ent (aO.iM (P:=Tryz.prog) 0 2 4 e4 rfl rfl) ?_
  simp only [go_sem,Int.natCast_succ,put]
  refine aV.of [(0,4)] 1 ?_ (by rfl) ?_<;>simp only [go_sem,Int.natCast_succ,Post]
 have f2:(q.e=0)=True:=eq_true he
 rw [if_neg (fun h=>h he)] at hgo
 by_cases hc:0<i∧q.w≠W
 ·have f3:((0:Int)<(i:Int))=True:=eq_true (by omega)
  have f4:((q.w:Int)=(W:Int))=False:=eq_false (by omega)
  rw [if_pos hc] at hgo
  have hR2:R=qV 11:=by rw [hRG,←hgo,if_pos (show (qV 11).e≠0 by decide)]
  rw [hR2]
  (repeat' with_reducible first|intro _|refine rz ?_|refine ra ?_ ?_|omega|simp only [go_sem,f2,f3,f4,qV])
  refine aV.ent (aO.iM (P:=Tryz.prog) 0 2 4 e4 rfl rfl) ?_
  simp only [go_sem,Int.natCast_succ,put]
  refine aV.of [(0,4)] 1 ?_ (by rfl) ?_<;>simp only [go_sem,Int.natCast_succ,Post]
 rw [if_neg hc] at hgo
 by_cases h00:0<i
 ·have f3:((0:Int)<(i:Int))=True:=eq_true (by omega)
  have f4:((q.w:Int)=(W:Int))=True:=eq_true (by omega)
  (repeat' with_reducible first|intro _|refine rz ?_|refine ra ?_ ?_|omega|simp only [go_sem,f2,f3,f4])
  refine ⟨⟨i+1,q.w,H+q.h,P++q.p⟩,aO.ak rfl ?_ ?_,⟨by dsimp only;omega,b1,by dsimp only;omega,by dsimp only;rw [List.length_append];omega,hgo⟩,by dsimp only;omega⟩<;>simp only [go_sem,Int.natCast_succ]
  all_goals first|rfl|omega|exact ⟨rfl,rfl⟩|trace_state
 ·have f3:((0:Int)<(i:Int))=False:=eq_false (by omega)
  (repeat' with_reducible first|intro _|refine rz ?_|refine ra ?_ ?_|omega|simp only [go_sem,f2,f3])
  refine ⟨⟨i+1,q.w,H+q.h,P++q.p⟩,aO.ak rfl ?_ ?_,⟨by dsimp only;omega,b1,by dsimp only;omega,by dsimp only;rw [List.length_append];omega,hgo⟩,by dsimp only;omega⟩<;>simp only [go_sem,Int.natCast_succ]
  all_goals first|rfl|omega|exact ⟨rfl,rfl⟩|trace_state
set_option maxHeartbeats 8000000 in
theorem yP (l:List Bytes) (hl:l.length≤100000) (hs:∀ s,s∈l→s.length≤200000000000000) :
  aA Tryz.prog 19 [.ro (.strs l)] (.tup [.agg [.int .i64 (yF l).w,.int .i64 (yF l).h,.own 0],.int .i64 (yF l).e]) [(0,.row 4 (.bools (yF l).p))]:=by
 obtain ⟨R,hR⟩:∃ R,yF l=R:=⟨_,rfl⟩
 rw [hR]
 refine aA.aG Tryz.func19 rfl (by decide) (by simp [Tryz.f19]) [.cell 2 24,.tmp 3] rfl fun w0 T0 _=>?_
 simp only [Tryz.f19,au]
 by_cases h0:l=[]
 ·have hR0:R=qV 9:=by rw [←hR,h0];rfl
  subst h0
  rw [hR0]
  (repeat' with_reducible first|intro _|refine rz ?_|refine ra ?_ ?_|omega|simp only [go_sem,qV])
  refine aV.ent (aO.iM (P:=Tryz.prog) 0 2 4 e4 rfl rfl) ?_
  simp only [go_sem,Int.natCast_succ,put]
  refine aV.of [(0,2)] 1 ?_ (by rfl) ?_<;>simp only [go_sem,Int.natCast_succ,Post]
 have f0:((l.length:Int)=0)=False:=eq_false (by have:=List.length_pos_iff.2 h0;omega)
 obtain ⟨G,hG⟩:∃ G,pY 0 0 [] 0 l=G:=⟨_,rfl⟩
 have hRG:R=if G.e≠0 then G else if aS G.w G.h≠0 then qV (aS G.w G.h) else G:=by rw [←hR];unfold yF;rw [if_neg h0,hG]
 (repeat' with_reducible first|intro _|refine rz ?_|refine ra ?_ ?_|omega|simp only [go_sem,f0])
 refine aI.intro (fun x:FX=>⟨69,[(16,.int .i64 x.i),(15,.int .i64 l.length),(14,.ro (.strs l)),(4,.ptr 1 0),(2,.ptr 0 0)],[(0,.box 24 [.int .i64 0,.int .i64 0,.nilS]),(1,.box 24 [.int .i64 x.W,.int .i64 x.H,.own 2]),(2,.row 4 (.bools x.P))],3⟩) (fun x=>x.i≤l.length∧x.W≤4000∧x.H≤4000*x.i∧x.P.length≤1048576*x.i∧pY x.W x.H x.P x.i (l.drop x.i)=G) (fun x=>l.length - x.i) ⟨0,0,0,[]⟩ ?_ ⟨Nat.zero_le _,Nat.zero_le _,Nat.zero_le _,Nat.zero_le _,by rw [List.drop_zero];exact hG⟩ fun x hx=>?_
 ·refine aO.trans (aO.iM (P:=Tryz.prog) 1 2 4 e4 rfl rfl) (aO.ak rfl ?_ ?_)<;>simp only [go_sem,Int.natCast_succ,put]
  all_goals first|rfl|exact ⟨rfl,rfl⟩|trace_state
 obtain ⟨i,W,H,P⟩:=x
 obtain ⟨hi,hW,hH,hP,hgo⟩:=hx
 dsimp only at hi hW hH hP hgo ⊢
 by_cases hlt:i<l.length
 rotate_left
 ·have f1:((i:Int)<(l.length:Int))=False:=eq_false (by omega)
  rw [List.drop_of_length_le (by omega)] at hgo
  have hG2:G=⟨W,H,P,0⟩:=hgo.symm
  have hRG2:R=if aS W H≠0 then qV (aS W H) else ⟨W,H,P,0⟩:=by rw [hRG,hG2,if_neg (fun h=>h rfl)]
  have kz:=nN (W:Int) (H:Int)
  by_cases hz:aS W H=0
  ·rw [if_neg (fun h=>h hz)] at hRG2
   rw [hz] at kz
   rw [hRG2]
   (repeat' with_reducible first|intro _|refine rz ?_|refine ra ?_ ?_|omega|simp only [go_sem,f1])
   refine ah.k kz ?_
   (repeat' with_reducible first|intro _|exact dn|refine rn ?_|refine ra ?_ ?_)
   refine aV.of [(0,2)] 1 ?_ (by rfl) ?_<;>simp only [go_sem,Int.natCast_succ,Post]
  ·rw [if_pos hz] at hRG2
   have f2:(aS (W:Int) (H:Int)=0)=False:=eq_false hz
   rw [hRG2]
   generalize aS (W:Int) (H:Int)=z at *
   (repeat' with_reducible first|intro _|refine rz ?_|refine ra ?_ ?_|omega|simp only [go_sem,f1])
   refine ah.k kz ?_
   (repeat' with_reducible first|intro _|refine rz ?_|refine ra ?_ ?_|omega|simp only [go_sem,f2,qV])
   refine aV.ent (aO.iM (P:=Tryz.prog) 0 2 4 e4 rfl rfl) ?_
   simp only [go_sem,Int.natCast_succ,put]
   refine aV.of [(0,3)] 1 ?_ (by rfl) ?_<;>simp only [go_sem,Int.natCast_succ,Post]
 have f1:((i:Int)<(l.length:Int))=True:=eq_true (by omega)
 have hm:l.getD i []∈l:=by rw [getD_lt hlt];exact List.getElem_mem hlt
 have hsl:=hs _ hm
 have kd:=Ie (l.getD i []) hsl
 unfold Ui at kd
 rw [zC hlt] at hgo
 obtain ⟨b1,b2,b3⟩:=OX (l.getD i [])
 generalize iJ (l.getD i [])=q at *
 (repeat' with_reducible first|intro _|refine rz ?_|refine ra ?_ ?_|omega|simp only [go_sem,f1])
 refine ah.f kd 0 ?_
 by_cases he:q.e=0
 rotate_left
 ·have f2:(q.e=0)=False:=eq_false he
  rw [if_pos he] at hgo
  have hR2:R=qV q.e:=by rw [hRG,←hgo,if_pos (show (qV q.e).e≠0 from he)]
  rw [hR2]
  (repeat' with_reducible first|intro _|refine rz ?_|refine ra ?_ ?_|omega|simp only [go_sem,f2,qV])
  refine aV.ent (aO.iM (P:=Tryz.prog) 0 2 4 e4 rfl rfl) ?_
  simp only [go_sem,Int.natCast_succ,put]
  refine aV.of [(0,4)] 1 ?_ (by rfl) ?_<;>simp only [go_sem,Int.natCast_succ,Post]
 have f2:(q.e=0)=True:=eq_true he
 rw [if_neg (fun h=>h he)] at hgo
 by_cases hc:0<i∧q.w≠W
 ·have f3:((0:Int)<(i:Int))=True:=eq_true (by omega)
  have f4:((q.w:Int)=(W:Int))=False:=eq_false (by omega)
  rw [if_pos hc] at hgo
  have hR2:R=qV 11:=by rw [hRG,←hgo,if_pos (show (qV 11).e≠0 by decide)]
  rw [hR2]
  (repeat' with_reducible first|intro _|refine rz ?_|refine ra ?_ ?_|omega|simp only [go_sem,f2,f3,f4,qV])
  refine aV.ent (aO.iM (P:=Tryz.prog) 0 2 4 e4 rfl rfl) ?_
  simp only [go_sem,Int.natCast_succ,put]
  refine aV.of [(0,4)] 1 ?_ (by rfl) ?_<;>simp only [go_sem,Int.natCast_succ,Post]
 rw [if_neg hc] at hgo
 by_cases h00:0<i
 ·have f3:((0:Int)<(i:Int))=True:=eq_true (by omega)
  have f4:((q.w:Int)=(W:Int))=True:=eq_true (by omega)
  (repeat' with_reducible first|intro _|refine rz ?_|refine ra ?_ ?_|omega|simp only [go_sem,f2,f3,f4])
  refine aQ.lex [11,13,15,17] [(0,[1]),(1,[1]),(2,[1]),(3,[1]),(4,[1,2]),(5,[1,2]),(6,[1,2]),(12,[0])] (by kernel_rfl) (by kernel_rfl) ?_
  (repeat' with_reducible first|intro _|exact dn|refine rn ?_|refine ra ?_ ?_)
  refine ⟨⟨i+1,q.w,H+q.h,P++q.p⟩,aO.ak rfl ?_ ?_,⟨by dsimp only;omega,b1,by dsimp only;omega,by dsimp only;rw [List.length_append];omega,hgo⟩,by dsimp only;omega⟩<;>simp only [go_sem,Int.natCast_succ]
  all_goals first|rfl|omega|exact ⟨rfl,rfl⟩|trace_state
 ·have f3:((0:Int)<(i:Int))=False:=eq_false (by omega)
  (repeat' with_reducible first|intro _|refine rz ?_|refine ra ?_ ?_|omega|simp only [go_sem,f2,f3])
  refine aQ.lex [11,13,15,17] [(0,[1]),(1,[1]),(2,[1]),(3,[1]),(4,[1,2]),(5,[1,2]),(6,[1,2]),(12,[0])] (by kernel_rfl) (by kernel_rfl) ?_
  (repeat' with_reducible first|intro _|exact dn|refine rn ?_|refine ra ?_ ?_)
  refine ⟨⟨i+1,q.w,H+q.h,P++q.p⟩,aO.ak rfl ?_ ?_,⟨by dsimp only;omega,b1,by dsimp only;omega,by dsimp only;rw [List.length_append];omega,hgo⟩,by dsimp only;omega⟩<;>simp only [go_sem,Int.natCast_succ]
  all_goals first|rfl|omega|exact ⟨rfl,rfl⟩|trace_state
end Go.Fv.H
