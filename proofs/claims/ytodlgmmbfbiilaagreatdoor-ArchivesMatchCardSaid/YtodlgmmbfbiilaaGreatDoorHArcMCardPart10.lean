/-
  A part of the proof of the claim: walks over the program's functions and the plain laws that these need. No condition of its own.
-/
import Derived.Test.YtodlgmmbfbiilaaGreatDoorHArcMCardPart9
import Derived.Test.YtodlgmmbfbiilaaGreatDoorHArcMCardPart6
import Derived.Test.YtodlgmmbfbiilaaGreatDoorHArcMCardPart5
set_option linter.unusedSimpArgs false
set_option linter.unusedVariables false
set_option linter.unnecessarySimpa false
set_option maxRecDepth 8000
/- shrink.Decode: the walk behind the first parts. -/
namespace Go.Fv.H
open Go Go.Proofs
theorem mP (s:Bytes) (h:17≤s.length):(dD s).length=s.length - 17:=by
 unfold dD;rw [List.length_take,List.length_drop];omega
theorem OE (s:Bytes) (h:17≤s.length):((s.take (s.length - 8)).drop 9).take (s.length - 8 - 9)=dD s:=by
 unfold dD
 rw [List.drop_take,List.take_take,show s.length - 8 - 9=s.length - 17 by omega,Nat.min_self]
set_option maxHeartbeats 8000000 in
theorem SX (s:Bytes) (c:xP s) (h3:cO (s.take (s.length - 8))≠s.drop (s.length - 8)):aA Tryz.prog 15 [.str s] (.tup [.agg [.int .i64 0,.int .i64 0,.nilS],.int .i64 14]) []:=by
 obtain ⟨c1,c2,c3⟩:=c
 have f1:((2097152:Int)<(s.length:Int))=False:=eq_false (by omega)
 have f2:((s.length:Int)<17)=False:=eq_false (by omega)
 have kb:=bQ ((s.drop 5).take 4) (by rw [List.length_take];omega)
 have kK:=bQ (s.take 1) (by rw [List.length_take];omega)
 have kW:=bQ ((s.drop 1).take 2) (by rw [List.length_take];omega)
 have kH:=bQ ((s.drop 3).take 2) (by rw [List.length_take];omega)
 rw [show aW (s.take 1)=dK s from rfl] at kK
 rw [show aW ((s.drop 1).take 2)=dW s from rfl] at kW
 rw [show aW ((s.drop 3).take 2)=dH s from rfl] at kH
 have hlt:=pI s
 rw [show aW ((s.drop 5).take 4)=dL s from rfl] at kb
 have f3:((s.length:Int)=9+(dL s:Int)+8)=True:=eq_true (by omega)
 have ks:=kS (s.take (s.length - 8)) (by rw [List.length_take];omega)
 have hal:=jI s c1
 have e8:(s.length:Int) - 8=((s.length - 8:Nat):Int):=by omega
 have htd:(s.drop (s.length - 8)).take (s.length - (s.length - 8))=s.drop (s.length - 8):=List.take_of_length_le (by rw [List.length_drop];exact Nat.le_refl _)
 have hKl:=su s
 have hWl:=sD s
 have hHl:=rZ s
 have hDl:=mP s c1
 have f4:(cO (s.take (s.length - 8))=s.drop (s.length - 8))=False:=eq_false h3
 generalize dL s=L at *
 refine aA.aG Tryz.func15 rfl (by decide) (by simp [Tryz.f15]) [.cell 2 24,.tmp 3] rfl fun w0 T0 _=>?_
 simp only [Tryz.f15,au]
 (repeat' with_reducible first|intro _|refine rz ?_|refine ra ?_ ?_|omega|simp only [go_sem,f1,f2])
 refine ah.k kb ?_
 (repeat' with_reducible first|intro _|refine rz ?_|refine ra ?_ ?_|omega|simp only [go_sem,f3,e8])
 refine aN.lex [] [] (by kernel_rfl) (by kernel_rfl) ?_
 (repeat' with_reducible first|intro _|exact dn|refine rn ?_|refine ra ?_ ?_)
 (refine QV.intro (.int .i64 (dK s)) ?_ ?_;focus ((repeat' with_reducible first|intro _|exact dn|refine rn ?_|refine ra ?_ ?_);refine ah.k (kK) ?_;(repeat' with_reducible first|intro _|exact dn|refine rn ?_|refine ra ?_ ?_)))
 (repeat' with_reducible first|intro _|exact dn|refine rn ?_|refine ra ?_ ?_)
 (refine QV.intro (.int .i64 (dW s)) ?_ ?_;focus ((repeat' with_reducible first|intro _|exact dn|refine rn ?_|refine ra ?_ ?_);refine ah.k (kW) ?_;(repeat' with_reducible first|intro _|exact dn|refine rn ?_|refine ra ?_ ?_)))
 (repeat' with_reducible first|intro _|exact dn|refine rn ?_|refine ra ?_ ?_)
 (refine QV.intro (.int .i64 (dH s)) ?_ ?_;focus ((repeat' with_reducible first|intro _|exact dn|refine rn ?_|refine ra ?_ ?_);refine ah.k (kH) ?_;(repeat' with_reducible first|intro _|exact dn|refine rn ?_|refine ra ?_ ?_)))
 (repeat' with_reducible first|intro _|exact dn|refine rn ?_|refine ra ?_ ?_)
 refine aN.lex [] [] (by kernel_rfl) (by kernel_rfl) ?_
 (repeat' with_reducible first|intro _|refine rz ?_|refine ra ?_ ?_|omega|simp only [go_sem,Nat.sub_zero,hal])
 (refine QV.intro (.str (cO (s.take (s.length - 8)))) ?_ ?_;focus ((repeat' with_reducible first|intro _|exact dn|refine rn ?_|refine ra ?_ ?_);refine ah.k (ks) ?_;(repeat' with_reducible first|intro _|exact dn|refine rn ?_|refine ra ?_ ?_)))
 (repeat' with_reducible first|intro _|refine rz ?_|refine ra ?_ ?_|omega|simp only [go_sem,Nat.sub_zero,hal,htd,f4])
 refine aT.auto 0 ?_ rfl ?_<;>simp only [go_sem,Int.natCast_succ,Post]
set_option maxHeartbeats 8000000 in
theorem SY (s:Bytes) (c:xP s) (h3:cO (s.take (s.length - 8))=s.drop (s.length - 8)) (h4:¬(1≤dK s∧dK s≤4)):aA Tryz.prog 15 [.str s] (.tup [.agg [.int .i64 0,.int .i64 0,.nilS],.int .i64 1]) []:=by
 obtain ⟨c1,c2,c3⟩:=c
 have f1:((2097152:Int)<(s.length:Int))=False:=eq_false (by omega)
 have f2:((s.length:Int)<17)=False:=eq_false (by omega)
 have kb:=bQ ((s.drop 5).take 4) (by rw [List.length_take];omega)
 have kK:=bQ (s.take 1) (by rw [List.length_take];omega)
 have kW:=bQ ((s.drop 1).take 2) (by rw [List.length_take];omega)
 have kH:=bQ ((s.drop 3).take 2) (by rw [List.length_take];omega)
 rw [show aW (s.take 1)=dK s from rfl] at kK
 rw [show aW ((s.drop 1).take 2)=dW s from rfl] at kW
 rw [show aW ((s.drop 3).take 2)=dH s from rfl] at kH
 have hlt:=pI s
 rw [show aW ((s.drop 5).take 4)=dL s from rfl] at kb
 have f3:((s.length:Int)=9+(dL s:Int)+8)=True:=eq_true (by omega)
 have ks:=kS (s.take (s.length - 8)) (by rw [List.length_take];omega)
 have hal:=jI s c1
 have e8:(s.length:Int) - 8=((s.length - 8:Nat):Int):=by omega
 have htd:(s.drop (s.length - 8)).take (s.length - (s.length - 8))=s.drop (s.length - 8):=List.take_of_length_le (by rw [List.length_drop];exact Nat.le_refl _)
 have hKl:=su s
 have hWl:=sD s
 have hHl:=rZ s
 have hDl:=mP s c1
 have f4:(cO (s.take (s.length - 8))=s.drop (s.length - 8))=True:=eq_true h3
 have kk:=nY (dK s)
 rw [decide_eq_false (by omega)] at kk
 generalize dL s=L at *
 refine aA.aG Tryz.func15 rfl (by decide) (by simp [Tryz.f15]) [.cell 2 24,.tmp 3] rfl fun w0 T0 _=>?_
 simp only [Tryz.f15,au]
 (repeat' with_reducible first|intro _|refine rz ?_|refine ra ?_ ?_|omega|simp only [go_sem,f1,f2])
 refine ah.k kb ?_
 (repeat' with_reducible first|intro _|refine rz ?_|refine ra ?_ ?_|omega|simp only [go_sem,f3,e8])
 refine aN.lex [] [] (by kernel_rfl) (by kernel_rfl) ?_
 (repeat' with_reducible first|intro _|exact dn|refine rn ?_|refine ra ?_ ?_)
 (refine QV.intro (.int .i64 (dK s)) ?_ ?_;focus ((repeat' with_reducible first|intro _|exact dn|refine rn ?_|refine ra ?_ ?_);refine ah.k (kK) ?_;(repeat' with_reducible first|intro _|exact dn|refine rn ?_|refine ra ?_ ?_)))
 (repeat' with_reducible first|intro _|exact dn|refine rn ?_|refine ra ?_ ?_)
 (refine QV.intro (.int .i64 (dW s)) ?_ ?_;focus ((repeat' with_reducible first|intro _|exact dn|refine rn ?_|refine ra ?_ ?_);refine ah.k (kW) ?_;(repeat' with_reducible first|intro _|exact dn|refine rn ?_|refine ra ?_ ?_)))
 (repeat' with_reducible first|intro _|exact dn|refine rn ?_|refine ra ?_ ?_)
 (refine QV.intro (.int .i64 (dH s)) ?_ ?_;focus ((repeat' with_reducible first|intro _|exact dn|refine rn ?_|refine ra ?_ ?_);refine ah.k (kH) ?_;(repeat' with_reducible first|intro _|exact dn|refine rn ?_|refine ra ?_ ?_)))
 (repeat' with_reducible first|intro _|exact dn|refine rn ?_|refine ra ?_ ?_)
 refine aN.lex [] [] (by kernel_rfl) (by kernel_rfl) ?_
 (repeat' with_reducible first|intro _|refine rz ?_|refine ra ?_ ?_|omega|simp only [go_sem,Nat.sub_zero,hal])
 (refine QV.intro (.str (cO (s.take (s.length - 8)))) ?_ ?_;focus ((repeat' with_reducible first|intro _|exact dn|refine rn ?_|refine ra ?_ ?_);refine ah.k (ks) ?_;(repeat' with_reducible first|intro _|exact dn|refine rn ?_|refine ra ?_ ?_)))
 (repeat' with_reducible first|intro _|refine rz ?_|refine ra ?_ ?_|omega|simp only [go_sem,Nat.sub_zero,hal,htd,f4])
 refine ah.k kk ?_
 (repeat' with_reducible first|intro _|exact dn|refine rn ?_|refine ra ?_ ?_)
 refine aT.auto 0 ?_ rfl ?_<;>simp only [go_sem,Int.natCast_succ,Post]
set_option maxHeartbeats 8000000 in
theorem S9 (s:Bytes) (c:xP s) (h3:cO (s.take (s.length - 8))=s.drop (s.length - 8)) (h4:1≤dK s∧dK s≤4) (h5:bn (dW s) (dH s)≠0):aA Tryz.prog 15 [.str s] (.tup [.agg [.int .i64 0,.int .i64 0,.nilS],.int .i64 (bn (dW s) (dH s))]) []:=by
 obtain ⟨c1,c2,c3⟩:=c
 have f1:((2097152:Int)<(s.length:Int))=False:=eq_false (by omega)
 have f2:((s.length:Int)<17)=False:=eq_false (by omega)
 have kb:=bQ ((s.drop 5).take 4) (by rw [List.length_take];omega)
 have kK:=bQ (s.take 1) (by rw [List.length_take];omega)
 have kW:=bQ ((s.drop 1).take 2) (by rw [List.length_take];omega)
 have kH:=bQ ((s.drop 3).take 2) (by rw [List.length_take];omega)
 rw [show aW (s.take 1)=dK s from rfl] at kK
 rw [show aW ((s.drop 1).take 2)=dW s from rfl] at kW
 rw [show aW ((s.drop 3).take 2)=dH s from rfl] at kH
 have hlt:=pI s
 rw [show aW ((s.drop 5).take 4)=dL s from rfl] at kb
 have f3:((s.length:Int)=9+(dL s:Int)+8)=True:=eq_true (by omega)
 have ks:=kS (s.take (s.length - 8)) (by rw [List.length_take];omega)
 have hal:=jI s c1
 have e8:(s.length:Int) - 8=((s.length - 8:Nat):Int):=by omega
 have htd:(s.drop (s.length - 8)).take (s.length - (s.length - 8))=s.drop (s.length - 8):=List.take_of_length_le (by rw [List.length_drop];exact Nat.le_refl _)
 have hKl:=su s
 have hWl:=sD s
 have hHl:=rZ s
 have hDl:=mP s c1
 have f4:(cO (s.take (s.length - 8))=s.drop (s.length - 8))=True:=eq_true h3
 have kk:=nY (dK s)
 rw [decide_eq_true (by omega)] at kk
 have kz:=kF (dW s) (dH s)
 generalize bn (dW s) (dH s)=z at *
 have f5:(z=0)=False:=eq_false h5
 generalize dL s=L at *
 refine aA.aG Tryz.func15 rfl (by decide) (by simp [Tryz.f15]) [.cell 2 24,.tmp 3] rfl fun w0 T0 _=>?_
 simp only [Tryz.f15,au]
 (repeat' with_reducible first|intro _|refine rz ?_|refine ra ?_ ?_|omega|simp only [go_sem,f1,f2])
 refine ah.k kb ?_
 (repeat' with_reducible first|intro _|refine rz ?_|refine ra ?_ ?_|omega|simp only [go_sem,f3,e8])
 refine aN.lex [] [] (by kernel_rfl) (by kernel_rfl) ?_
 (repeat' with_reducible first|intro _|exact dn|refine rn ?_|refine ra ?_ ?_)
 (refine QV.intro (.int .i64 (dK s)) ?_ ?_;focus ((repeat' with_reducible first|intro _|exact dn|refine rn ?_|refine ra ?_ ?_);refine ah.k (kK) ?_;(repeat' with_reducible first|intro _|exact dn|refine rn ?_|refine ra ?_ ?_)))
 (repeat' with_reducible first|intro _|exact dn|refine rn ?_|refine ra ?_ ?_)
 (refine QV.intro (.int .i64 (dW s)) ?_ ?_;focus ((repeat' with_reducible first|intro _|exact dn|refine rn ?_|refine ra ?_ ?_);refine ah.k (kW) ?_;(repeat' with_reducible first|intro _|exact dn|refine rn ?_|refine ra ?_ ?_)))
 (repeat' with_reducible first|intro _|exact dn|refine rn ?_|refine ra ?_ ?_)
 (refine QV.intro (.int .i64 (dH s)) ?_ ?_;focus ((repeat' with_reducible first|intro _|exact dn|refine rn ?_|refine ra ?_ ?_);refine ah.k (kH) ?_;(repeat' with_reducible first|intro _|exact dn|refine rn ?_|refine ra ?_ ?_)))
 (repeat' with_reducible first|intro _|exact dn|refine rn ?_|refine ra ?_ ?_)
 refine aN.lex [] [] (by kernel_rfl) (by kernel_rfl) ?_
 (repeat' with_reducible first|intro _|refine rz ?_|refine ra ?_ ?_|omega|simp only [go_sem,Nat.sub_zero,hal])
 (refine QV.intro (.str (cO (s.take (s.length - 8)))) ?_ ?_;focus ((repeat' with_reducible first|intro _|exact dn|refine rn ?_|refine ra ?_ ?_);refine ah.k (ks) ?_;(repeat' with_reducible first|intro _|exact dn|refine rn ?_|refine ra ?_ ?_)))
 (repeat' with_reducible first|intro _|refine rz ?_|refine ra ?_ ?_|omega|simp only [go_sem,Nat.sub_zero,hal,htd,f4])
 refine ah.k kk ?_
 (repeat' with_reducible first|intro _|exact dn|refine rn ?_|refine ra ?_ ?_)
 refine ah.k kz ?_
 (repeat' with_reducible first|intro _|refine rz ?_|refine ra ?_ ?_|omega|simp only [go_sem,f5])
 refine aT.auto 0 ?_ rfl ?_<;>simp only [go_sem,Int.natCast_succ,Post]
set_option maxHeartbeats 8000000 in
theorem Tc (s:Bytes) (c:xP s) (h3:cO (s.take (s.length - 8))=s.drop (s.length - 8)) (h4:1≤dK s∧dK s≤4) (h5:bn (dW s) (dH s)=0) (h6:(yh s).2=false):aA Tryz.prog 15 [.str s] (.tup [.agg [.int .i64 0,.int .i64 0,.nilS],.int .i64 8]) []:=by
 obtain ⟨c1,c2,c3⟩:=c
 have f1:((2097152:Int)<(s.length:Int))=False:=eq_false (by omega)
 have f2:((s.length:Int)<17)=False:=eq_false (by omega)
 have kb:=bQ ((s.drop 5).take 4) (by rw [List.length_take];omega)
 have kK:=bQ (s.take 1) (by rw [List.length_take];omega)
 have kW:=bQ ((s.drop 1).take 2) (by rw [List.length_take];omega)
 have kH:=bQ ((s.drop 3).take 2) (by rw [List.length_take];omega)
 rw [show aW (s.take 1)=dK s from rfl] at kK
 rw [show aW ((s.drop 1).take 2)=dW s from rfl] at kW
 rw [show aW ((s.drop 3).take 2)=dH s from rfl] at kH
 have hlt:=pI s
 rw [show aW ((s.drop 5).take 4)=dL s from rfl] at kb
 have f3:((s.length:Int)=9+(dL s:Int)+8)=True:=eq_true (by omega)
 have ks:=kS (s.take (s.length - 8)) (by rw [List.length_take];omega)
 have hal:=jI s c1
 have e8:(s.length:Int) - 8=((s.length - 8:Nat):Int):=by omega
 have htd:(s.drop (s.length - 8)).take (s.length - (s.length - 8))=s.drop (s.length - 8):=List.take_of_length_le (by rw [List.length_drop];exact Nat.le_refl _)
 have hKl:=su s
 have hWl:=sD s
 have hHl:=rZ s
 have hDl:=mP s c1
 have f4:(cO (s.take (s.length - 8))=s.drop (s.length - 8))=True:=eq_true h3
 have kk:=nY (dK s)
 rw [decide_eq_true (by omega)] at kk
 have kz:=kF (dW s) (dH s)
 have hz:=fD h5
 have hwh:((dW s:Int)*(dH s:Int))=((dW s*dH s:Nat):Int):=(Int.natCast_mul _ _).symm
 rw [hwh] at hz
 rw [h5] at kz
 have kp:=PE (dW s) (dH s) (by omega) (by omega) (by omega) (by omega) (dD s) (by omega) (dK s) (by omega) h6
 have hcut:=OE s c1
 have hp:mW (dK s) (dW s) (dH s) (dD s)=yh s:=rfl
 rw [hp] at kp
 generalize yh s=q at *
 generalize dD s=d at *
 generalize dL s=L at *
 refine aA.aG Tryz.func15 rfl (by decide) (by simp [Tryz.f15]) [.cell 2 24,.tmp 3] rfl fun w0 T0 _=>?_
 simp only [Tryz.f15,au]
 (repeat' with_reducible first|intro _|refine rz ?_|refine ra ?_ ?_|omega|simp only [go_sem,f1,f2])
 refine ah.k kb ?_
 (repeat' with_reducible first|intro _|refine rz ?_|refine ra ?_ ?_|omega|simp only [go_sem,f3,e8])
 refine aN.lex [] [] (by kernel_rfl) (by kernel_rfl) ?_
 (repeat' with_reducible first|intro _|exact dn|refine rn ?_|refine ra ?_ ?_)
 (refine QV.intro (.int .i64 (dK s)) ?_ ?_;focus ((repeat' with_reducible first|intro _|exact dn|refine rn ?_|refine ra ?_ ?_);refine ah.k (kK) ?_;(repeat' with_reducible first|intro _|exact dn|refine rn ?_|refine ra ?_ ?_)))
 (repeat' with_reducible first|intro _|exact dn|refine rn ?_|refine ra ?_ ?_)
 (refine QV.intro (.int .i64 (dW s)) ?_ ?_;focus ((repeat' with_reducible first|intro _|exact dn|refine rn ?_|refine ra ?_ ?_);refine ah.k (kW) ?_;(repeat' with_reducible first|intro _|exact dn|refine rn ?_|refine ra ?_ ?_)))
 (repeat' with_reducible first|intro _|exact dn|refine rn ?_|refine ra ?_ ?_)
 (refine QV.intro (.int .i64 (dH s)) ?_ ?_;focus ((repeat' with_reducible first|intro _|exact dn|refine rn ?_|refine ra ?_ ?_);refine ah.k (kH) ?_;(repeat' with_reducible first|intro _|exact dn|refine rn ?_|refine ra ?_ ?_)))
 (repeat' with_reducible first|intro _|exact dn|refine rn ?_|refine ra ?_ ?_)
 refine aN.lex [] [] (by kernel_rfl) (by kernel_rfl) ?_
 (repeat' with_reducible first|intro _|refine rz ?_|refine ra ?_ ?_|omega|simp only [go_sem,Nat.sub_zero,hal])
 (refine QV.intro (.str (cO (s.take (s.length - 8)))) ?_ ?_;focus ((repeat' with_reducible first|intro _|exact dn|refine rn ?_|refine ra ?_ ?_);refine ah.k (ks) ?_;(repeat' with_reducible first|intro _|exact dn|refine rn ?_|refine ra ?_ ?_)))
 (repeat' with_reducible first|intro _|refine rz ?_|refine ra ?_ ?_|omega|simp only [go_sem,Nat.sub_zero,hal,htd,f4])
 refine ah.k kk ?_
 (repeat' with_reducible first|intro _|exact dn|refine rn ?_|refine ra ?_ ?_)
 refine ah.k kz ?_
 (repeat' with_reducible first|intro _|refine rz ?_|refine ra ?_ ?_|omega|simp only [go_sem,hal,hcut])
 refine ah.f kp 0 ?_
 (repeat' with_reducible first|intro _|exact dn|refine rn ?_|refine ra ?_ ?_)
 refine aT.auto 0 ?_ rfl ?_<;>simp only [go_sem,Int.natCast_succ,Post]
set_option maxHeartbeats 8000000 in
theorem Td (s:Bytes) (c:xP s) (h3:cO (s.take (s.length - 8))=s.drop (s.length - 8)) (h4:1≤dK s∧dK s≤4) (h5:bn (dW s) (dH s)=0) (h6:(yh s).2=true) (h7:¬eu (dW s) (dH s) (yh s).1 (dK s)=s):aA Tryz.prog 15 [.str s] (.tup [.agg [.int .i64 0,.int .i64 0,.nilS],.int .i64 8]) []:=by
 obtain ⟨c1,c2,c3⟩:=c
 have f1:((2097152:Int)<(s.length:Int))=False:=eq_false (by omega)
 have f2:((s.length:Int)<17)=False:=eq_false (by omega)
 have kb:=bQ ((s.drop 5).take 4) (by rw [List.length_take];omega)
 have kK:=bQ (s.take 1) (by rw [List.length_take];omega)
 have kW:=bQ ((s.drop 1).take 2) (by rw [List.length_take];omega)
 have kH:=bQ ((s.drop 3).take 2) (by rw [List.length_take];omega)
 rw [show aW (s.take 1)=dK s from rfl] at kK
 rw [show aW ((s.drop 1).take 2)=dW s from rfl] at kW
 rw [show aW ((s.drop 3).take 2)=dH s from rfl] at kH
 have hlt:=pI s
 rw [show aW ((s.drop 5).take 4)=dL s from rfl] at kb
 have f3:((s.length:Int)=9+(dL s:Int)+8)=True:=eq_true (by omega)
 have ks:=kS (s.take (s.length - 8)) (by rw [List.length_take];omega)
 have hal:=jI s c1
 have e8:(s.length:Int) - 8=((s.length - 8:Nat):Int):=by omega
 have htd:(s.drop (s.length - 8)).take (s.length - (s.length - 8))=s.drop (s.length - 8):=List.take_of_length_le (by rw [List.length_drop];exact Nat.le_refl _)
 have hKl:=su s
 have hWl:=sD s
 have hHl:=rZ s
 have hDl:=mP s c1
 have f4:(cO (s.take (s.length - 8))=s.drop (s.length - 8))=True:=eq_true h3
 have kk:=nY (dK s)
 rw [decide_eq_true (by omega)] at kk
 have kz:=kF (dW s) (dH s)
 have hz:=fD h5
 have hwh:((dW s:Int)*(dH s:Int))=((dW s*dH s:Nat):Int):=(Int.natCast_mul _ _).symm
 rw [hwh] at hz
 rw [h5] at kz
 have kp:=Bh (dW s) (dH s) (by omega) (by omega) (by omega) (by omega) (dD s) (by omega) (dK s) (by omega) h6
 have hcut:=OE s c1
 have hp:mW (dK s) (dW s) (dH s) (dD s)=yh s:=rfl
 rw [hp] at kp
 have hpl:(yh s).1.length=dW s*dH s:=EF h6
 have ke:=uY (dW s) (dH s) (by omega) (by omega) (by omega) (by omega) (yh s).1 hpl (dK s) (by omega)
 have f9:(eu (dW s) (dH s) (yh s).1 (dK s)=s)=False:=eq_false h7
 generalize eu (dW s) (dH s) (yh s).1 (dK s)=E at *
 generalize yh s=q at *
 generalize dD s=d at *
 generalize dL s=L at *
 refine aA.aG Tryz.func15 rfl (by decide) (by simp [Tryz.f15]) [.cell 2 24,.tmp 3] rfl fun w0 T0 _=>?_
 simp only [Tryz.f15,au]
 (repeat' with_reducible first|intro _|refine rz ?_|refine ra ?_ ?_|omega|simp only [go_sem,f1,f2])
 refine ah.k kb ?_
 (repeat' with_reducible first|intro _|refine rz ?_|refine ra ?_ ?_|omega|simp only [go_sem,f3,e8])
 refine aN.lex [] [] (by kernel_rfl) (by kernel_rfl) ?_
 (repeat' with_reducible first|intro _|exact dn|refine rn ?_|refine ra ?_ ?_)
 (refine QV.intro (.int .i64 (dK s)) ?_ ?_;focus ((repeat' with_reducible first|intro _|exact dn|refine rn ?_|refine ra ?_ ?_);refine ah.k (kK) ?_;(repeat' with_reducible first|intro _|exact dn|refine rn ?_|refine ra ?_ ?_)))
 (repeat' with_reducible first|intro _|exact dn|refine rn ?_|refine ra ?_ ?_)
 (refine QV.intro (.int .i64 (dW s)) ?_ ?_;focus ((repeat' with_reducible first|intro _|exact dn|refine rn ?_|refine ra ?_ ?_);refine ah.k (kW) ?_;(repeat' with_reducible first|intro _|exact dn|refine rn ?_|refine ra ?_ ?_)))
 (repeat' with_reducible first|intro _|exact dn|refine rn ?_|refine ra ?_ ?_)
 (refine QV.intro (.int .i64 (dH s)) ?_ ?_;focus ((repeat' with_reducible first|intro _|exact dn|refine rn ?_|refine ra ?_ ?_);refine ah.k (kH) ?_;(repeat' with_reducible first|intro _|exact dn|refine rn ?_|refine ra ?_ ?_)))
 (repeat' with_reducible first|intro _|exact dn|refine rn ?_|refine ra ?_ ?_)
 refine aN.lex [] [] (by kernel_rfl) (by kernel_rfl) ?_
 (repeat' with_reducible first|intro _|refine rz ?_|refine ra ?_ ?_|omega|simp only [go_sem,Nat.sub_zero,hal])
 (refine QV.intro (.str (cO (s.take (s.length - 8)))) ?_ ?_;focus ((repeat' with_reducible first|intro _|exact dn|refine rn ?_|refine ra ?_ ?_);refine ah.k (ks) ?_;(repeat' with_reducible first|intro _|exact dn|refine rn ?_|refine ra ?_ ?_)))
 (repeat' with_reducible first|intro _|refine rz ?_|refine ra ?_ ?_|omega|simp only [go_sem,Nat.sub_zero,hal,htd,f4])
 refine ah.k kk ?_
 (repeat' with_reducible first|intro _|exact dn|refine rn ?_|refine ra ?_ ?_)
 refine ah.k kz ?_
 (repeat' with_reducible first|intro _|refine rz ?_|refine ra ?_ ?_|omega|simp only [go_sem,hal,hcut])
 refine ah.o kp 1 ?_
 (repeat' with_reducible first|intro _|exact dn|refine rn ?_|refine ra ?_ ?_)
 refine ah.k ke ?_
 (repeat' with_reducible first|intro _|refine rz ?_|refine ra ?_ ?_|omega|simp only [go_sem,f9])
 refine aT.auto 0 ?_ rfl ?_<;>simp only [go_sem,Int.natCast_succ,Post]
set_option maxHeartbeats 8000000 in
theorem decode_ok (s:Bytes) (c:xP s) (h3:cO (s.take (s.length - 8))=s.drop (s.length - 8)) (h4:1≤dK s∧dK s≤4) (h5:bn (dW s) (dH s)=0) (h6:(yh s).2=true) (h7:eu (dW s) (dH s) (yh s).1 (dK s)=s):aA Tryz.prog 15 [.str s] (.tup [.agg [.int .i64 (dW s),.int .i64 (dH s),.own 0],.int .i64 0]) [(0,.row 4 (.bools (yh s).1))]:=by
 obtain ⟨c1,c2,c3⟩:=c
 have f1:((2097152:Int)<(s.length:Int))=False:=eq_false (by omega)
 have f2:((s.length:Int)<17)=False:=eq_false (by omega)
 have kb:=bQ ((s.drop 5).take 4) (by rw [List.length_take];omega)
 have kK:=bQ (s.take 1) (by rw [List.length_take];omega)
 have kW:=bQ ((s.drop 1).take 2) (by rw [List.length_take];omega)
 have kH:=bQ ((s.drop 3).take 2) (by rw [List.length_take];omega)
 rw [show aW (s.take 1)=dK s from rfl] at kK
 rw [show aW ((s.drop 1).take 2)=dW s from rfl] at kW
 rw [show aW ((s.drop 3).take 2)=dH s from rfl] at kH
 have hlt:=pI s
 rw [show aW ((s.drop 5).take 4)=dL s from rfl] at kb
 have f3:((s.length:Int)=9+(dL s:Int)+8)=True:=eq_true (by omega)
 have ks:=kS (s.take (s.length - 8)) (by rw [List.length_take];omega)
 have hal:=jI s c1
 have e8:(s.length:Int) - 8=((s.length - 8:Nat):Int):=by omega
 have htd:(s.drop (s.length - 8)).take (s.length - (s.length - 8))=s.drop (s.length - 8):=List.take_of_length_le (by rw [List.length_drop];exact Nat.le_refl _)
 have hKl:=su s
 have hWl:=sD s
 have hHl:=rZ s
 have hDl:=mP s c1
 have f4:(cO (s.take (s.length - 8))=s.drop (s.length - 8))=True:=eq_true h3
 have kk:=nY (dK s)
 rw [decide_eq_true (by omega)] at kk
 have kz:=kF (dW s) (dH s)
 have hz:=fD h5
 have hwh:((dW s:Int)*(dH s:Int))=((dW s*dH s:Nat):Int):=(Int.natCast_mul _ _).symm
 rw [hwh] at hz
 rw [h5] at kz
 have kp:=Bh (dW s) (dH s) (by omega) (by omega) (by omega) (by omega) (dD s) (by omega) (dK s) (by omega) h6
 have hcut:=OE s c1
 have hp:mW (dK s) (dW s) (dH s) (dD s)=yh s:=rfl
 rw [hp] at kp
 have hpl:(yh s).1.length=dW s*dH s:=EF h6
 have ke:=uY (dW s) (dH s) (by omega) (by omega) (by omega) (by omega) (yh s).1 hpl (dK s) (by omega)
 have f9:(eu (dW s) (dH s) (yh s).1 (dK s)=s)=True:=eq_true h7
 generalize eu (dW s) (dH s) (yh s).1 (dK s)=E at *
 generalize yh s=q at *
 generalize dD s=d at *
 generalize dL s=L at *
 refine aA.aG Tryz.func15 rfl (by decide) (by simp [Tryz.f15]) [.cell 2 24,.tmp 3] rfl fun w0 T0 _=>?_
 simp only [Tryz.f15,au]
 (repeat' with_reducible first|intro _|refine rz ?_|refine ra ?_ ?_|omega|simp only [go_sem,f1,f2])
 refine ah.k kb ?_
 (repeat' with_reducible first|intro _|refine rz ?_|refine ra ?_ ?_|omega|simp only [go_sem,f3,e8])
 refine aN.lex [] [] (by kernel_rfl) (by kernel_rfl) ?_
 (repeat' with_reducible first|intro _|exact dn|refine rn ?_|refine ra ?_ ?_)
 (refine QV.intro (.int .i64 (dK s)) ?_ ?_;focus ((repeat' with_reducible first|intro _|exact dn|refine rn ?_|refine ra ?_ ?_);refine ah.k (kK) ?_;(repeat' with_reducible first|intro _|exact dn|refine rn ?_|refine ra ?_ ?_)))
 (repeat' with_reducible first|intro _|exact dn|refine rn ?_|refine ra ?_ ?_)
 (refine QV.intro (.int .i64 (dW s)) ?_ ?_;focus ((repeat' with_reducible first|intro _|exact dn|refine rn ?_|refine ra ?_ ?_);refine ah.k (kW) ?_;(repeat' with_reducible first|intro _|exact dn|refine rn ?_|refine ra ?_ ?_)))
 (repeat' with_reducible first|intro _|exact dn|refine rn ?_|refine ra ?_ ?_)
 (refine QV.intro (.int .i64 (dH s)) ?_ ?_;focus ((repeat' with_reducible first|intro _|exact dn|refine rn ?_|refine ra ?_ ?_);refine ah.k (kH) ?_;(repeat' with_reducible first|intro _|exact dn|refine rn ?_|refine ra ?_ ?_)))
 (repeat' with_reducible first|intro _|exact dn|refine rn ?_|refine ra ?_ ?_)
 refine aN.lex [] [] (by kernel_rfl) (by kernel_rfl) ?_
 (repeat' with_reducible first|intro _|refine rz ?_|refine ra ?_ ?_|omega|simp only [go_sem,Nat.sub_zero,hal])
 (refine QV.intro (.str (cO (s.take (s.length - 8)))) ?_ ?_;focus ((repeat' with_reducible first|intro _|exact dn|refine rn ?_|refine ra ?_ ?_);refine ah.k (ks) ?_;(repeat' with_reducible first|intro _|exact dn|refine rn ?_|refine ra ?_ ?_)))
 (repeat' with_reducible first|intro _|refine rz ?_|refine ra ?_ ?_|omega|simp only [go_sem,Nat.sub_zero,hal,htd,f4])
 refine ah.k kk ?_
 (repeat' with_reducible first|intro _|exact dn|refine rn ?_|refine ra ?_ ?_)
 refine ah.k kz ?_
 (repeat' with_reducible first|intro _|refine rz ?_|refine ra ?_ ?_|omega|simp only [go_sem,hal,hcut])
 refine ah.o kp 1 ?_
 (repeat' with_reducible first|intro _|exact dn|refine rn ?_|refine ra ?_ ?_)
 refine ah.k ke ?_
 (repeat' with_reducible first|intro _|refine rz ?_|refine ra ?_ ?_|omega|simp only [go_sem,f9])
 refine aT.auto 1 ?_ rfl ?_<;>simp only [go_sem,Int.natCast_succ,Post]
theorem decode_two (s:Bytes) (hs:s.length≤200000000000000):Sv 15 s (qo s):=by
 unfold qo
 have no:∀ e,e≠0→aA Tryz.prog 15 [.str s] (.tup [.agg [.int .i64 0,.int .i64 0,.nilS],.int .i64 e]) []→Sv 15 s (DF e):=fun e h k=>.inr ⟨rfl,h,k⟩
 by_cases h1:2097152<s.length
 ·rw [if_pos h1];exact no _ (by decide) (SS s hs h1)
 rw [if_neg h1]
 by_cases h2:s.length<17∨s.length≠17+dL s
 ·rw [if_pos h2];exact no _ (by decide) (SV s (by omega) h2)
 rw [if_neg h2]
 have c:xP s:=⟨by omega,by omega,by omega⟩
 by_cases h3:cO (s.take (s.length - 8))=s.drop (s.length - 8)
 rotate_left
 ·rw [if_pos h3];exact no _ (by decide) (SX s c h3)
 rw [if_neg (fun h=>h h3)]
 by_cases h4:1≤dK s∧dK s≤4
 rotate_left
 ·rw [if_pos h4];exact no _ (by decide) (SY s c h3 h4)
 rw [if_neg (fun h=>h h4)]
 by_cases h5:bn (dW s) (dH s)=0
 rotate_left
 ·rw [if_pos h5];exact no _ h5 (S9 s c h3 h4 h5)
 rw [if_neg (fun h=>h h5)]
 by_cases h6:(yh s).2=true
 rotate_left
 ·rw [if_neg (fun h=>h6 h.1)];exact no _ (by decide) (Tc s c h3 h4 h5 (by simpa using h6))
 by_cases h7:eu (dW s) (dH s) (yh s).1 (dK s)=s
 ·rw [if_pos ⟨h6,h7⟩]
  exact .inl ⟨rfl,decode_ok s c h3 h4 h5 h6 h7⟩
 ·rw [if_neg (fun h=>h7 h.2)];exact no _ (by decide) (Td s c h3 h4 h5 h6 h7)
theorem Tf (s:Bytes) (hs:s.length≤200000000000000):bZ Tryz.prog 15 [.str s] (U7 (qo s)) []:=(decode_two s hs).fr
end Go.Fv.H
/- strings.Builder.WriteByte. -/
namespace Go.Fv.H
open Go Go.Proofs
set_option maxHeartbeats 2000000 in
theorem nI (c:UInt8):fA Tryz.prog 54 [.ptr 0 0,.int .u8 c.toNat] [(0,.box 89 [.raw (.pointer none),.nilS])] 1 (.raw .nilIface) [(0,.box 89 [.ptr 0 0,.own 1]),(1,.row 5 (.ints .u8 (aj [c])))]:=by
 have k:=rC
 refine fA.aG Tryz.func54 rfl (by decide) (by simp [Tryz.f54]) GV [.tmp 4] rfl fun w0 T0 _=>?_
 simp only [Tryz.f54,au]
 (repeat' with_reducible first|intro _|exact dn|refine rn ?_|refine ra ?_ ?_)
 refine ah.i [0] k 1 ?_
 (repeat' with_reducible first|intro _|refine rz ?_|refine ra ?_ ?_|omega|simp only [go_sem,S.Vo,qg,qB,DI,Item.ren,ren,iV,List.getElem?_cons_zero,List.getElem?_cons_succ,List.getElem?_nil,List.filter])
 refine jf.of [(1,3)] 3 (by decide) (by decide) ?_ rfl ?_<;>simp only [go_sem,Int.natCast_succ,aj,List.map_cons,List.map_nil]
set_option maxHeartbeats 2000000 in
theorem pG (b:List UInt8) (c:UInt8) (hb:b.length≤100000000000):fA Tryz.prog 54 [.ptr 0 0,.int .u8 c.toNat] [(0,.box 89 [.ptr 0 0,.own 1]),(1,.row 5 (.ints .u8 (aj b)))] 2 (.raw .nilIface) [(0,.box 89 [.ptr 0 0,.own 2]),(2,.row 5 (.ints .u8 (aj (b++[c]))))]:=by
 have k:=AL 5 (aj b)
 have hbl:=nJ b
 have he:aj (b++[c])=aj b++[(c.toNat:Int)]:=by unfold aj;rw [List.map_append];rfl
 generalize aj b=B at *
 generalize aj (b++[c])=C at *
 refine fA.aG Tryz.func54 rfl (by decide) (by simp [Tryz.f54]) yg [.tmp 4] rfl fun w0 T0 _=>?_
 simp only [Tryz.f54,au]
 (repeat' with_reducible first|intro _|exact dn|refine rn ?_|refine ra ?_ ?_)
 refine ah.i [0,1] k 2 ?_
 (repeat' with_reducible first|intro _|exact dn|refine rn ?_|refine ra ?_ ?_)
 refine jf.of [(2,3)] 3 (by decide) (by decide) ?_ rfl ?_<;>simp only [go_sem,Int.natCast_succ,he]
end Go.Fv.H
/- bedref1.plus: the walk. -/
namespace Go.Fv.H
open Go Go.Proofs
def TV (k N m t:Nat):Bytes:=cZ (k - t) (N / 256 ^ t)++cZ t (N+m)
def FV (N m t:Nat):Nat:=(N%256 ^ t+m) / 256 ^ t
theorem Wi (k N m:Nat):TV k N m 0=cZ k N:=by unfold TV;rw [Nat.pow_zero,Nat.div_one,sW,List.append_nil];rfl
theorem Wn (N m:Nat):FV N m 0=m:=by unfold FV;rw [Nat.pow_zero,Nat.mod_one,Nat.div_one,Nat.zero_add]
theorem Zu (N m t:Nat):FV N m t≤m+1:=by
 unfold FV
 have hq:0<256 ^ t:=Nat.pow_pos (by decide)
 generalize 256 ^ t=q at *
 have h1:=Nat.mod_lt N hq
 have h2:(N%q+m) / q≤(q+m) / q:=Nat.div_le_div_right (by omega)
 rw [Nat.add_comm q,Nat.add_div_right _ hq] at h2
 have:=Nat.div_le_self m q
 omega
theorem Wp (N m t:Nat):(N+m) / 256 ^ t=FV N m t+N / 256 ^ t:=by
 unfold FV
 have hq:0<256 ^ t:=Nat.pow_pos (by decide)
 generalize 256 ^ t=q at *
 have h:=Nat.div_add_mod N q
 have e:N+m=(N%q+m)+q*(N / q):=by omega
 rw [e,Nat.add_mul_div_left _ _ hq]
theorem Wj (N m t:Nat):FV N m (t+1)=(FV N m t+N / 256 ^ t%256) / 256:=by
 unfold FV
 have hq:0<256 ^ t:=Nat.pow_pos (by decide)
 rw [Nat.pow_succ,Nat.mod_mul,←Nat.div_div_eq_div_mul]
 generalize 256 ^ t=q at *
 have e:N%q+q*(N / q%256)+m=(N%q+m)+q*(N / q%256):=by omega
 rw [e,Nat.add_mul_div_left _ _ hq]
theorem V9 {k N m t:Nat} (ht:t≤k) (h:FV N m t=0∨t=k):TV k N m t=cZ k (N+m):=by
 rcases h with h|h
 ·have h2:=Wp N m t
  rw [h,Nat.zero_add] at h2
  unfold TV
  rw [←h2,←IX,Nat.sub_add_cancel ht]
 ·subst h;unfold TV;rw [Nat.sub_self,sW,List.nil_append]
theorem Ye {k N m t:Nat} (ht:t<k):TV k N m t=cZ (k - t - 1) (N / 256 ^ t / 256)++UInt8.ofNat (N / 256 ^ t)::cZ t (N+m):=by
 unfold TV
 have e:k - t=(k - t - 1)+1:=by omega
 rw [e,jg,List.append_assoc,List.singleton_append]
 rfl
theorem Wh {k N m t:Nat} (ht:t<k):TV k N m (t+1)=cZ (k - t - 1) (N / 256 ^ t / 256)++UInt8.ofNat ((N+m) / 256 ^ t)::cZ t (N+m):=by
 unfold TV
 have e:k - (t+1)=k - t - 1:=by omega
 rw [e,Nat.pow_succ,←Nat.div_div_eq_div_mul,Nat.add_comm t 1,IX 1 t]
 have e2:∀ n,cZ 1 n=[UInt8.ofNat n]:=fun n=>by
  have:=jg 0 n
  rw [sW,List.nil_append] at this
  exact this
 rw [e2,List.singleton_append]
theorem Yd {k N m t:Nat} (ht:t≤k):(TV k N m t).length=k:=by unfold TV;rw [List.length_append,aS,aS];omega
set_option maxHeartbeats 4000000 in
theorem Yf (k N m:Nat) (hk:k≤2000000) (hm:m≤4294967296) :
  fA Tryz.prog 102 [.own 0,.int .i64 m] [(0,.row 5 (.ints .u8 (aj (cZ k N))))] 1 (.tup []) [(0,.row 5 (.ints .u8 (aj (cZ k (N+m)))))]:=by
 have hl0:(aj (cZ k N)).length=k:=by rw [dM,aS]
 refine fA.aG Tryz.func102 rfl (by decide) (by simp [Tryz.f102]) GV [] rfl fun w0 T0 _=>?_
 simp only [Tryz.f102,au]
 (repeat' with_reducible first|intro _|refine rz ?_|refine ra ?_ ?_|omega|simp only [go_sem,hl0])
 refine aF.intro (fun t:Nat=>⟨30,[(4,.int .i64 ((k:Int) - 1 - (t:Int))),(1,.int .i64 (FV N m t)),(0,.own 0)],[(0,.row 5 (.ints .u8 (aj (TV k N m t))))],1⟩) (fun t=>t≤k) (fun t=>k - t) 0 ?_ (Nat.zero_le _) fun t ht=>?_
 ·refine aK.Du 1 rfl (Nat.le_refl 1) ?_ ?_<;>simp only [go_sem,Int.natCast_succ,gq,Wi,Wn]
  all_goals omega
 have hx:=Zu N m t
 by_cases hgo:0<FV N m t∧t<k
 ·have f1:(0<((FV N m t:Nat):Int))=True:=eq_true (by omega)
  have f2:(0≤(k:Int) - 1 - (t:Int))=True:=eq_true (by omega)
  have hnow:=Ye (N:=N) (m:=m) hgo.2
  have hnext:=Wh (N:=N) (m:=m) hgo.2
  have hsum:=Wp N m t
  have hxs:=Wj N m t
  have hAl:=aS (k - t - 1) (N / 256 ^ t / 256)
  have hlen:(aj (TV k N m t)).length=k:=by rw [dM,Yd (by omega)]
  have hat:=uU (cZ (k - t - 1) (N / 256 ^ t / 256)) (UInt8.ofNat (N / 256 ^ t)) (cZ t (N+m))
  have hset:=zB (cZ (k - t - 1) (N / 256 ^ t / 256)) (UInt8.ofNat (N / 256 ^ t)) (UInt8.ofNat ((N+m) / 256 ^ t)) (cZ t (N+m))
  rw [←hnow,hAl] at hat hset
  rw [←hnext] at hset
  have hbt:(UInt8.ofNat (N / 256 ^ t)).toNat=N / 256 ^ t%256:=by simp
  have hbv:(UInt8.ofNat ((N+m) / 256 ^ t)).toNat=(N+m) / 256 ^ t%256:=by simp
  rw [hbt] at hat
  rw [hbv] at hset
  have hix:((k:Int) - 1 - (t:Int)).toNat=k - t - 1:=by omega
  have hsh:∀ a:Nat,mD .i64 (a:Int) 8=((a / 256:Nat):Int):=fun a=>by
   unfold mD
   rw [show (2:Int) ^ (min (8:Int).toNat IntKind.i64.bits)=256 by rfl,Int.fdiv_eq_ediv_of_nonneg _ (by decide)]
   rfl
  have hv:((FV N m t:Nat):Int)+((N / 256 ^ t%256:Nat):Int)=((FV N m t+N / 256 ^ t%256:Nat):Int):=by omega
  have hw8:IntKind.u8.wrap ((FV N m t+N / 256 ^ t%256:Nat):Int)=(((N+m) / 256 ^ t%256:Nat):Int):=by rw [mJ,hsum];omega
  have hq:=hsh (FV N m t+N / 256 ^ t%256)
  rw [←hxs] at hq
  have hb256:N / 256 ^ t%256<256:=Nat.mod_lt _ (by decide)
  generalize hx2:FV N m (t+1)=x2 at *
  generalize FV N m t=x at *
  generalize (N+m) / 256 ^ t%256=y at *
  generalize N / 256 ^ t%256=z at *
  (repeat' with_reducible first|intro _|refine rz ?_|refine ra ?_ ?_|omega|simp only [go_sem,f1,f2,hix,hlen,hat,hv])
  refine bY.at _ hw8 ?_
  (repeat' with_reducible first|intro _|refine rz ?_|refine ra ?_ ?_|omega|simp only [go_sem,hix,hlen,hset,hq])
  refine ⟨t+1,aK.Du 1 rfl (Nat.le_refl 1) ?_ ?_,by omega,by omega⟩<;>simp only [go_sem,Int.natCast_succ,gq,hx2]
  all_goals omega
 ·have hd:=V9 (N:=N) (m:=m) ht (by omega)
  by_cases f:0<FV N m t
  ·have f1:(0<((FV N m t:Nat):Int))=True:=eq_true (by omega)
   have f2:(0≤(k:Int) - 1 - (t:Int))=False:=eq_false (by omega)
   (repeat' with_reducible first|intro _|refine rz ?_|refine ra ?_ ?_|omega|simp only [go_sem,f1,f2])
   refine jf.auto 1 (Nat.le_refl 1) ?_ rfl ?_<;>simp only [go_sem,Int.natCast_succ,gq,hd]
  ·have f1:(0<((FV N m t:Nat):Int))=False:=eq_false (by omega)
   (repeat' with_reducible first|intro _|refine rz ?_|refine ra ?_ ?_|omega|simp only [go_sem,f1])
   refine jf.auto 1 (Nat.le_refl 1) ?_ rfl ?_<;>simp only [go_sem,Int.natCast_succ,gq,hd]
end Go.Fv.H
/- bedref1.adaptive: the walk. -/
namespace Go.Fv.H
open Go Go.Proofs
set_option maxHeartbeats 16000000 in
theorem EL (w h:Nat) (hw0:0<w) (hw:w≤4000) (hh:h≤4000) (hwh:w*h≤1048576) (p:List Bool) (hp:p.length=w*h) :
  aA Tryz.prog 63 [.agg [.int .i64 w,.int .i64 h,.ro (.bools p)]] (.str (sS w h p)) []:=by
 refine aA.aG Tryz.func63 rfl (by decide) (by simp [Tryz.f63]) [.tmp 2] rfl fun w0 T0 _=>?_
 simp only [Tryz.f63,au]
 (repeat' with_reducible first|intro _|exact dn|refine rn ?_|refine ra ?_ ?_)
 have hT:=Fe
 have hg0:=@JJ
 have ht0:iL (bg w h p 0).tab=iL sK:=rfl
 refine aF.intro (fun i:Nat=>⟨88,[(14,.int .i64 i),(13,.int .i64 1024),(3,.own 1),(1,.ptr 0 0)],[(0,.box 24 [.int .i64 w,.int .i64 h,.ro (.bools p)]),(1,.row 3 (.ints .i64 ((iL sK).take i++List.replicate (1024 - i) 0)))],2⟩) (fun i=>i≤1024) (fun i=>1024 - i) 0 ?_ (Nat.zero_le _) fun i hi=>?_
 ·refine aK.ak rfl ?_ ?_<;>simp only [go_sem,Int.natCast_succ]
  all_goals rfl
 have htl:((iL sK).take i).length=i:=by rw [List.length_take,hT];omega
 by_cases hlt:i<1024
 ·have f1:((i:Int)<1024)=True:=eq_true (by omega)
  have hg:(iL sK).getD i 0=2048:=hg0 hlt
  have hs:=lX (z:=0) (d:=0) hT hlt
  rw [hg] at hs
  (repeat' with_reducible first|intro _|refine rz ?_|refine ra ?_ ?_|omega|simp only [go_sem,f1,htl])
  rw [hs]
  refine ⟨i+1,aK.ak rfl ?_ ?_,by omega,by omega⟩<;>simp only [go_sem,Int.natCast_succ]
 have f1:((i:Int)<1024)=False:=eq_false (by omega)
 have e:i=1024:=by omega
 subst e
 have hfull:(iL sK).take 1024=iL sK:=List.take_of_length_le (by rw [hT];exact Nat.le_refl _)
 rw [hfull,Nat.sub_self,List.replicate_zero,List.append_nil]
 (repeat' with_reducible first|intro _|refine rz ?_|refine ra ?_ ?_|omega|simp only [go_sem,f1])
 refine aF.intro (fun y:Nat=>⟨88,[(24,.int .i64 y),(23,.int .i64 h),(6,.int .i64 (bg w h p (y*w)).span),(5,.own 2),(3,.own 1),(1,.ptr 0 0)],[(0,.box 24 [.int .i64 w,.int .i64 h,.ro (.bools p)]),(1,.row 3 (.ints .i64 (iL (bg w h p (y*w)).tab))),(2,.row 5 (.ints .u8 (aj (cZ (4+(bg w h p (y*w)).sh) (bg w h p (y*w)).big))))],3⟩) (fun y=>y≤h) (fun y=>h - y) 0 ?_ (Nat.zero_le _) fun y hy=>?_
 ·rw [Nat.zero_mul,ht0]
  refine aK.ak rfl ?_ ?_<;>simp only [go_sem,Int.natCast_succ]
  all_goals first|rfl|(show [0,0,0,0]=aj (cZ 4 0);rw [be4];rfl)
 by_cases hylt:y<h
 rotate_left
 ·have f1:((y:Int)<(h:Int))=False:=eq_false (by omega)
  have e:y=h:=by omega
  subst e
  have hbk:=iU (sS w y p)
  have hall:sS w y p=cZ (4+(bg w y p (y*w)).sh) (bg w y p (y*w)).big:=by unfold sS;rw [hp,Nat.mul_comm]
  rw [←hall]
  (repeat' with_reducible first|intro _|refine rz ?_|refine ra ?_ ?_|omega|simp only [go_sem,f1])
  refine aT.auto 0 ?_ rfl ?_<;>simp only [go_sem,Int.natCast_succ,Post,hbk]
 have fy:((y:Int)<(h:Int))=True:=eq_true (by omega)
 (repeat' with_reducible first|intro _|refine rz ?_|refine ra ?_ ?_|omega|simp only [go_sem,fy])
 refine aF.intro (fun x:Nat=>⟨88,[(29,.int .i64 x),(28,.int .i64 w),(7,.int .i64 y),(24,.int .i64 y),(23,.int .i64 h),(6,.int .i64 (bg w h p (y*w+x)).span),(5,.own 2),(3,.own 1),(1,.ptr 0 0)],[(0,.box 24 [.int .i64 w,.int .i64 h,.ro (.bools p)]),(1,.row 3 (.ints .i64 (iL (bg w h p (y*w+x)).tab))),(2,.row 5 (.ints .u8 (aj (cZ (4+(bg w h p (y*w+x)).sh) (bg w h p (y*w+x)).big))))],3⟩) (fun x=>x≤w) (fun x=>w - x) 0 ?_ (Nat.zero_le _) fun x hx=>?_
 ·rw [Nat.add_zero]
  refine aK.ak rfl ?_ ?_<;>simp only [go_sem,Int.natCast_succ]
 by_cases hxlt:x<w
 rotate_left
 ·have f1:((x:Int)<(w:Int))=False:=eq_false (by omega)
  have e:x=w:=by omega
  subst e
  rw [←Nat.succ_mul]
  (repeat' with_reducible first|intro _|refine rz ?_|refine ra ?_ ?_|omega|simp only [go_sem,f1])
  refine ⟨y+1,aK.ak rfl ?_ ?_,by omega,by omega⟩<;>simp only [go_sem,Int.natCast_succ]
 have fx:((x:Int)<(w:Int))=True:=eq_true (by omega)
 have hsh:=RX w h p (y*w+x)
 have hlt:y*w+x<w*h:=by
  have h1:y*w+w≤h*w:=by rw [←Nat.succ_mul];exact Nat.mul_le_mul_right _ hylt
  rw [Nat.mul_comm w h];omega
 have hm1:(y*w+x)%w=x:=by rw [Nat.mul_add_mod',Nat.mod_eq_of_lt hxlt]
 have hm2:(y*w+x) / w=y:=by
  rw [Nat.mul_comm,Nat.mul_add_div hw0,Nat.div_eq_of_lt hxlt,Nat.add_zero]
 have hnext:bg w h p (y*w+(x+1))=((bg w h p (y*w+x)).mid (kJ w h p (x:Int) (y:Int)) (p.getD (y*w+x) false)).norm:=by
  have e:bg w h p (y*w+x+1)=((bg w h p (y*w+x)).mid (kJ w h p (((y*w+x)%w:Nat):Int) (((y*w+x) / w:Nat):Int)) (p.getD (y*w+x) false)).norm:=rfl
  rw [hm1,hm2] at e
  exact e
 have kc:=yc w h hw hh p hp (x:Int) (y:Int) (by omega) (by omega)
 have ka:=Nq w h hw hh p hp (x:Int) (y:Int)
 rw [Ot p hxlt hylt] at ka
 have hc:=lJ w h p (x:Int) (y:Int)
 have hok:=pq w h p (y*w+x)
 generalize kJ w h p (x:Int) (y:Int)=c at *
 generalize p.getD (y*w+x) false=ink at *
 generalize bg w h p (y*w+x)=s at *
 obtain ⟨ht1,ht2⟩:=AE.JK hok hc
 obtain ⟨hm1,hm2⟩:=AE.Pg hok hc
 have hlo:=hok.lo
 have hhi:=hok.hi
 have hlen:=hok.len
 have hg:=CJ (l:=s.tab) (i:=c) (by rw [hlen];exact hc)
 have hgl:=yJ s.tab
 have q1:((s.span:Nat):Int).tdiv 4096=((s.span / 4096:Nat):Int):=by rw [Int.tdiv_eq_ediv_of_nonneg (Int.natCast_nonneg _)];rfl
 have q2:((s.span / 4096:Nat):Int)*((s.tab.getD c 0:Nat):Int)=((s.m c:Nat):Int):=(Int.natCast_mul _ _).symm
 have hnlo:=(AE.step_ok hok hc ink).lo
 unfold AE.step at hnlo
 obtain ⟨M,hM⟩:∃ M,s.mid c ink=M:=⟨_,rfl⟩
 have hMt:M.tab=s.tab.set c (zQ (s.tab.getD c 0) ink):=by rw [←hM];rfl
 have hMh:M.sh=s.sh:=by rw [←hM];rfl
 have hMs0:M.span=if ink=true then s.span - s.m c else s.m c:=by rw [←hM];rfl
 have hMb0:M.big=if ink=true then s.big+s.m c else s.big:=by rw [←hM];rfl
 rw [hM] at hnext hnlo
 have hset:=yK s.tab c (zQ (s.tab.getD c 0) ink)
 have hlrn:=zS ⟨ht1,ht2⟩ ink
 (repeat' with_reducible first|intro _|refine rz ?_|refine ra ?_ ?_|omega|simp only [go_sem,fx])
 refine ah.k kc ?_
 (repeat' with_reducible first|intro _|refine rz ?_|refine ra ?_ ?_|omega|simp only [go_sem,q1,q2,hg,hgl,hlen])
 refine ah.k ka ?_
 cases ink with
 | true=>
  rw [if_pos rfl] at hMs0 hMb0
  have hspI:(s.span:Int) - (s.m c:Int)=((s.span - s.m c:Nat):Int):=by omega
  have kp:=Yf (4+s.sh) s.big (s.m c) (by omega) (by omega)
  have d1:((s.tab.getD c 0:Nat):Int).tdiv 32=((s.tab.getD c 0 / 32:Nat):Int):=by rw [Int.tdiv_eq_ediv_of_nonneg (Int.natCast_nonneg _)];rfl
  have d2:((s.tab.getD c 0:Nat):Int) - ((s.tab.getD c 0 / 32:Nat):Int)=((zQ (s.tab.getD c 0) true:Nat):Int):=by
   have:zQ (s.tab.getD c 0) true=s.tab.getD c 0 - s.tab.getD c 0 / 32:=rfl
   omega
  (repeat' with_reducible first|intro _|exact dn|refine rn ?_|refine ra ?_ ?_)
  refine ah.i [2] kp 1 ?_
  (repeat' with_reducible first|intro _|refine rz ?_|refine ra ?_ ?_|omega|simp only [go_sem,hspI])
  refine aN.lex [11] [] (by kernel_rfl) (by kernel_rfl) ?_
  (repeat' with_reducible first|intro _|refine rz ?_|refine ra ?_ ?_|omega|simp only [go_sem,hg,hgl,hlen,d1,d2,hset])
  refine aF.intro (fun r:AE=>⟨88,[(29,.int .i64 x),(28,.int .i64 w),(7,.int .i64 y),(24,.int .i64 y),(23,.int .i64 h),(6,.int .i64 r.span),(5,.own 2),(3,.own 1),(1,.ptr 0 0)],[(0,.box 24 [.int .i64 w,.int .i64 h,.ro (.bools p)]),(1,.row 3 (.ints .i64 (iL r.tab))),(2,.row 5 (.ints .u8 (aj (cZ (4+r.sh) r.big))))],3⟩) (fun r=>r=M∨r=M.norm) (fun r=>if r.span<16777216 then 1 else 0) M ?_ (.inl rfl) fun r hr=>?_
  ·refine aK.ak rfl ?_ ?_<;>simp only [go_sem,Int.natCast_succ,hMs0,hMt,hMh,hMb0]
  by_cases hs2:r.span<16777216
  ·have hrM:r=M:=hr.resolve_right fun e=>by rw [e] at hs2;omega
   subst hrM
   have hnm:r.norm=⟨r.big*256,r.span*256,r.sh+1,r.tab⟩:=by unfold AE.norm;rw [if_pos hs2]
   have f5:((r.span:Int)<16777216)=True:=eq_true (by omega)
   have hol:(aj (cZ (4+r.sh) r.big)).length=4+r.sh:=by rw [dM,aS]
   have hss:(r.span:Int)*256=((r.span*256:Nat):Int):=by omega
   have hout2:aj (cZ (4+r.sh) r.big)++[0]=aj (cZ (4+(r.sh+1)) (r.big*256)):=by
    rw [←Nat.add_assoc,jg,nT,Nat.mul_div_cancel _ (by decide)]
    congr 1
    have:UInt8.ofNat (r.big*256)=0:=UInt8.toNat_inj.1 (by simp)
    rw [this];rfl
   (repeat' with_reducible first|intro _|refine rz ?_|refine ra ?_ ?_|omega|simp only [go_sem,f5,hol,hss])
   refine ⟨r.norm,aK.ak rfl ?_ ?_,.inr rfl,?_⟩
   ·simp only [go_sem,Int.natCast_succ,hnm]
    all_goals first|rfl|omega
   ·simp only [go_sem,Int.natCast_succ,hnm,hout2]
   ·rw [if_pos hs2,if_neg (by omega)];omega
  ·have hrn:r=M.norm:=by
    rcases hr with e|e
    ·rw [e] at hs2 ⊢;unfold AE.norm;rw [if_neg hs2]
    ·exact e
   have f5:((r.span:Int)<16777216)=False:=eq_false (by omega)
   rw [←hrn] at hnext
   (repeat' with_reducible first|intro _|refine rz ?_|refine ra ?_ ?_|omega|simp only [go_sem,f5])
   refine ⟨x+1,aK.ak rfl ?_ ?_,by omega,by omega⟩<;>simp only [go_sem,Int.natCast_succ,hnext]
 | false=>
  rw [if_neg (by decide)] at hMs0 hMb0
  have d1:(4096 - ((s.tab.getD c 0:Nat):Int)).tdiv 32=(((4096 - s.tab.getD c 0) / 32:Nat):Int):=by rw [Int.tdiv_eq_ediv_of_nonneg (by omega)];omega
  have d2:((s.tab.getD c 0:Nat):Int)+(((4096 - s.tab.getD c 0) / 32:Nat):Int)=((zQ (s.tab.getD c 0) false:Nat):Int):=by
   have:zQ (s.tab.getD c 0) false=s.tab.getD c 0+(4096 - s.tab.getD c 0) / 32:=rfl
   omega
  (repeat' with_reducible first|intro _|exact dn|refine rn ?_|refine ra ?_ ?_)
  refine aN.lex [12] [] (by kernel_rfl) (by kernel_rfl) ?_
  (repeat' with_reducible first|intro _|refine rz ?_|refine ra ?_ ?_|omega|simp only [go_sem,hg,hgl,hlen,d1,d2,hset])
  refine aF.intro (fun r:AE=>⟨88,[(29,.int .i64 x),(28,.int .i64 w),(7,.int .i64 y),(24,.int .i64 y),(23,.int .i64 h),(6,.int .i64 r.span),(5,.own 2),(3,.own 1),(1,.ptr 0 0)],[(0,.box 24 [.int .i64 w,.int .i64 h,.ro (.bools p)]),(1,.row 3 (.ints .i64 (iL r.tab))),(2,.row 5 (.ints .u8 (aj (cZ (4+r.sh) r.big))))],3⟩) (fun r=>r=M∨r=M.norm) (fun r=>if r.span<16777216 then 1 else 0) M ?_ (.inl rfl) fun r hr=>?_
  ·refine aK.ak rfl ?_ ?_<;>simp only [go_sem,Int.natCast_succ,hMs0,hMt,hMh,hMb0]
  by_cases hs2:r.span<16777216
  ·have hrM:r=M:=hr.resolve_right fun e=>by rw [e] at hs2;omega
   subst hrM
   have hnm:r.norm=⟨r.big*256,r.span*256,r.sh+1,r.tab⟩:=by unfold AE.norm;rw [if_pos hs2]
   have f5:((r.span:Int)<16777216)=True:=eq_true (by omega)
   have hol:(aj (cZ (4+r.sh) r.big)).length=4+r.sh:=by rw [dM,aS]
   have hss:(r.span:Int)*256=((r.span*256:Nat):Int):=by omega
   have hout2:aj (cZ (4+r.sh) r.big)++[0]=aj (cZ (4+(r.sh+1)) (r.big*256)):=by
    rw [←Nat.add_assoc,jg,nT,Nat.mul_div_cancel _ (by decide)]
    congr 1
    have:UInt8.ofNat (r.big*256)=0:=UInt8.toNat_inj.1 (by simp)
    rw [this];rfl
   (repeat' with_reducible first|intro _|refine rz ?_|refine ra ?_ ?_|omega|simp only [go_sem,f5,hol,hss])
   refine ⟨r.norm,aK.ak rfl ?_ ?_,.inr rfl,?_⟩
   ·simp only [go_sem,Int.natCast_succ,hnm]
    all_goals first|rfl|omega
   ·simp only [go_sem,Int.natCast_succ,hnm,hout2]
   ·rw [if_pos hs2,if_neg (by omega)];omega
  ·have hrn:r=M.norm:=by
    rcases hr with e|e
    ·rw [e] at hs2 ⊢;unfold AE.norm;rw [if_neg hs2]
    ·exact e
   have f5:((r.span:Int)<16777216)=False:=eq_false (by omega)
   rw [←hrn] at hnext
   (repeat' with_reducible first|intro _|refine rz ?_|refine ra ?_ ?_|omega|simp only [go_sem,f5])
   refine ⟨x+1,aK.ak rfl ?_ ?_,by omega,by omega⟩<;>simp only [go_sem,Int.natCast_succ,hnext]
end Go.Fv.H
