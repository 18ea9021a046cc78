/-
  A part of the proof of the claim: walks over the program's functions and the plain laws that these need. No condition of its own.
-/
import Derived.Test.YtodlgmmbfbiilaaGreatDoorHTopPkCardPart7
import Derived.Test.YtodlgmmbfbiilaaGreatDoorHTopPkCardPart5
import Derived.Test.YtodlgmmbfbiilaaGreatDoorHTopPkCardPart4
import Derived.Test.YtodlgmmbfbiilaaGreatDoorHTopPkCardPart3
import Derived.Test.YtodlgmmbfbiilaaGreatDoorHTopPkCardPart2
import Derived.Test.YtodlgmmbfbiilaaGreatDoorHTopPkCardPart6
import Derived.Test.YtodlgmmbfbiilaaGreatDoorHTopPkCardPart1
import Derived.Test.YtodlgmmbfbiilaaGreatDoorFvPart6
import Derived.Lib.MapLaws
import Derived.Lib.DecodeN
import Derived.Test.YtodlgmmbfbiilaaGreatDoorFvPart10
import Derived.Shelf.Strings.Repeat
set_option linter.unusedSimpArgs false
set_option linter.unusedVariables false
set_option linter.unnecessarySimpa false
set_option maxRecDepth 8000
/- shrink.Decode: the walk behind the first parts. -/
namespace Go.Fv.H
open Go Go.Proofs
theorem xH (s:Bytes) (h:17≤s.length):(dD s).length=s.length - 17:=by
 unfold dD;rw [List.length_take,List.length_drop];omega
theorem Lp (s:Bytes) (h:17≤s.length):((s.take (s.length - 8)).drop 9).take (s.length - 8 - 9)=dD s:=by
 unfold dD
 rw [List.drop_take,List.take_take,show s.length - 8 - 9=s.length - 17 by omega,Nat.min_self]
set_option maxHeartbeats 8000000 in
theorem PI (s:Bytes) (c:KP s) (h3:dX (s.take (s.length - 8))≠s.drop (s.length - 8)):aC Tryz.prog 15 [.str s] (.tup [.agg [.int .i64 0,.int .i64 0,.nilS],.int .i64 14]) []:=by
 obtain ⟨c1,c2,c3⟩:=c
 have f1:((2097152:Int)<(s.length:Int))=False:=eq_false (by omega)
 have f2:((s.length:Int)<17)=False:=eq_false (by omega)
 have kb:=bg ((s.drop 5).take 4) (by rw [List.length_take];omega)
 have kK:=bg (s.take 1) (by rw [List.length_take];omega)
 have kW:=bg ((s.drop 1).take 2) (by rw [List.length_take];omega)
 have kH:=bg ((s.drop 3).take 2) (by rw [List.length_take];omega)
 rw [show bV (s.take 1)=dK s from rfl] at kK
 rw [show bV ((s.drop 1).take 2)=dW s from rfl] at kW
 rw [show bV ((s.drop 3).take 2)=dH s from rfl] at kH
 have hlt:=Aw s
 rw [show bV ((s.drop 5).take 4)=dL s from rfl] at kb
 have f3:((s.length:Int)=9+(dL s:Int)+8)=True:=eq_true (by omega)
 have ks:=jE (s.take (s.length - 8)) (by rw [List.length_take];omega)
 have hal:=su s c1
 have e8:(s.length:Int) - 8=((s.length - 8:Nat):Int):=by omega
 have htd:(s.drop (s.length - 8)).take (s.length - (s.length - 8))=s.drop (s.length - 8):=List.take_of_length_le (by rw [List.length_drop];exact Nat.le_refl _)
 have hKl:=Ef s
 have hWl:=Eh s
 have hHl:=Ee s
 have hDl:=xH s c1
 have f4:(dX (s.take (s.length - 8))=s.drop (s.length - 8))=False:=eq_false h3
 generalize dL s=L at *
 refine aC.aJ Tryz.func15 rfl (by decide) (by simp [Tryz.f15]) [.cell 2 24,.tmp 3] rfl fun w0 T0 _=>?_
 simp only [Tryz.f15,aB]
 (repeat' with_reducible first|intro _|refine rz ?_|refine ra ?_ ?_|omega|simp only [go_sem,f1,f2])
 refine ah.k kb ?_
 (repeat' with_reducible first|intro _|refine rz ?_|refine ra ?_ ?_|omega|simp only [go_sem,f3,e8])
 refine bC.lex [] [] (by kernel_rfl) (by kernel_rfl) ?_
 (repeat' with_reducible first|intro _|exact dn|refine rn ?_|refine ra ?_ ?_)
 (refine QV.intro (.int .i64 (dK s)) ?_ ?_;focus ((repeat' with_reducible first|intro _|exact dn|refine rn ?_|refine ra ?_ ?_);refine ah.k (kK) ?_;(repeat' with_reducible first|intro _|exact dn|refine rn ?_|refine ra ?_ ?_)))
 (repeat' with_reducible first|intro _|exact dn|refine rn ?_|refine ra ?_ ?_)
 (refine QV.intro (.int .i64 (dW s)) ?_ ?_;focus ((repeat' with_reducible first|intro _|exact dn|refine rn ?_|refine ra ?_ ?_);refine ah.k (kW) ?_;(repeat' with_reducible first|intro _|exact dn|refine rn ?_|refine ra ?_ ?_)))
 (repeat' with_reducible first|intro _|exact dn|refine rn ?_|refine ra ?_ ?_)
 (refine QV.intro (.int .i64 (dH s)) ?_ ?_;focus ((repeat' with_reducible first|intro _|exact dn|refine rn ?_|refine ra ?_ ?_);refine ah.k (kH) ?_;(repeat' with_reducible first|intro _|exact dn|refine rn ?_|refine ra ?_ ?_)))
 (repeat' with_reducible first|intro _|exact dn|refine rn ?_|refine ra ?_ ?_)
 refine bC.lex [] [] (by kernel_rfl) (by kernel_rfl) ?_
 (repeat' with_reducible first|intro _|refine rz ?_|refine ra ?_ ?_|omega|simp only [go_sem,Nat.sub_zero,hal])
 (refine QV.intro (.str (dX (s.take (s.length - 8)))) ?_ ?_;focus ((repeat' with_reducible first|intro _|exact dn|refine rn ?_|refine ra ?_ ?_);refine ah.k (ks) ?_;(repeat' with_reducible first|intro _|exact dn|refine rn ?_|refine ra ?_ ?_)))
 (repeat' with_reducible first|intro _|refine rz ?_|refine ra ?_ ?_|omega|simp only [go_sem,Nat.sub_zero,hal,htd,f4])
 refine bf.auto 0 ?_ rfl ?_<;>simp only [go_sem,Int.natCast_succ,Post]
set_option maxHeartbeats 8000000 in
theorem PK (s:Bytes) (c:KP s) (h3:dX (s.take (s.length - 8))=s.drop (s.length - 8)) (h4:¬(1≤dK s∧dK s≤4)):aC Tryz.prog 15 [.str s] (.tup [.agg [.int .i64 0,.int .i64 0,.nilS],.int .i64 1]) []:=by
 obtain ⟨c1,c2,c3⟩:=c
 have f1:((2097152:Int)<(s.length:Int))=False:=eq_false (by omega)
 have f2:((s.length:Int)<17)=False:=eq_false (by omega)
 have kb:=bg ((s.drop 5).take 4) (by rw [List.length_take];omega)
 have kK:=bg (s.take 1) (by rw [List.length_take];omega)
 have kW:=bg ((s.drop 1).take 2) (by rw [List.length_take];omega)
 have kH:=bg ((s.drop 3).take 2) (by rw [List.length_take];omega)
 rw [show bV (s.take 1)=dK s from rfl] at kK
 rw [show bV ((s.drop 1).take 2)=dW s from rfl] at kW
 rw [show bV ((s.drop 3).take 2)=dH s from rfl] at kH
 have hlt:=Aw s
 rw [show bV ((s.drop 5).take 4)=dL s from rfl] at kb
 have f3:((s.length:Int)=9+(dL s:Int)+8)=True:=eq_true (by omega)
 have ks:=jE (s.take (s.length - 8)) (by rw [List.length_take];omega)
 have hal:=su s c1
 have e8:(s.length:Int) - 8=((s.length - 8:Nat):Int):=by omega
 have htd:(s.drop (s.length - 8)).take (s.length - (s.length - 8))=s.drop (s.length - 8):=List.take_of_length_le (by rw [List.length_drop];exact Nat.le_refl _)
 have hKl:=Ef s
 have hWl:=Eh s
 have hHl:=Ee s
 have hDl:=xH s c1
 have f4:(dX (s.take (s.length - 8))=s.drop (s.length - 8))=True:=eq_true h3
 have kk:=jP (dK s)
 rw [decide_eq_false (by omega)] at kk
 generalize dL s=L at *
 refine aC.aJ Tryz.func15 rfl (by decide) (by simp [Tryz.f15]) [.cell 2 24,.tmp 3] rfl fun w0 T0 _=>?_
 simp only [Tryz.f15,aB]
 (repeat' with_reducible first|intro _|refine rz ?_|refine ra ?_ ?_|omega|simp only [go_sem,f1,f2])
 refine ah.k kb ?_
 (repeat' with_reducible first|intro _|refine rz ?_|refine ra ?_ ?_|omega|simp only [go_sem,f3,e8])
 refine bC.lex [] [] (by kernel_rfl) (by kernel_rfl) ?_
 (repeat' with_reducible first|intro _|exact dn|refine rn ?_|refine ra ?_ ?_)
 (refine QV.intro (.int .i64 (dK s)) ?_ ?_;focus ((repeat' with_reducible first|intro _|exact dn|refine rn ?_|refine ra ?_ ?_);refine ah.k (kK) ?_;(repeat' with_reducible first|intro _|exact dn|refine rn ?_|refine ra ?_ ?_)))
 (repeat' with_reducible first|intro _|exact dn|refine rn ?_|refine ra ?_ ?_)
 (refine QV.intro (.int .i64 (dW s)) ?_ ?_;focus ((repeat' with_reducible first|intro _|exact dn|refine rn ?_|refine ra ?_ ?_);refine ah.k (kW) ?_;(repeat' with_reducible first|intro _|exact dn|refine rn ?_|refine ra ?_ ?_)))
 (repeat' with_reducible first|intro _|exact dn|refine rn ?_|refine ra ?_ ?_)
 (refine QV.intro (.int .i64 (dH s)) ?_ ?_;focus ((repeat' with_reducible first|intro _|exact dn|refine rn ?_|refine ra ?_ ?_);refine ah.k (kH) ?_;(repeat' with_reducible first|intro _|exact dn|refine rn ?_|refine ra ?_ ?_)))
 (repeat' with_reducible first|intro _|exact dn|refine rn ?_|refine ra ?_ ?_)
 refine bC.lex [] [] (by kernel_rfl) (by kernel_rfl) ?_
 (repeat' with_reducible first|intro _|refine rz ?_|refine ra ?_ ?_|omega|simp only [go_sem,Nat.sub_zero,hal])
 (refine QV.intro (.str (dX (s.take (s.length - 8)))) ?_ ?_;focus ((repeat' with_reducible first|intro _|exact dn|refine rn ?_|refine ra ?_ ?_);refine ah.k (ks) ?_;(repeat' with_reducible first|intro _|exact dn|refine rn ?_|refine ra ?_ ?_)))
 (repeat' with_reducible first|intro _|refine rz ?_|refine ra ?_ ?_|omega|simp only [go_sem,Nat.sub_zero,hal,htd,f4])
 refine ah.k kk ?_
 (repeat' with_reducible first|intro _|exact dn|refine rn ?_|refine ra ?_ ?_)
 refine bf.auto 0 ?_ rfl ?_<;>simp only [go_sem,Int.natCast_succ,Post]
set_option maxHeartbeats 8000000 in
theorem PL (s:Bytes) (c:KP s) (h3:dX (s.take (s.length - 8))=s.drop (s.length - 8)) (h4:1≤dK s∧dK s≤4) (h5:bG (dW s) (dH s)≠0):aC Tryz.prog 15 [.str s] (.tup [.agg [.int .i64 0,.int .i64 0,.nilS],.int .i64 (bG (dW s) (dH s))]) []:=by
 obtain ⟨c1,c2,c3⟩:=c
 have f1:((2097152:Int)<(s.length:Int))=False:=eq_false (by omega)
 have f2:((s.length:Int)<17)=False:=eq_false (by omega)
 have kb:=bg ((s.drop 5).take 4) (by rw [List.length_take];omega)
 have kK:=bg (s.take 1) (by rw [List.length_take];omega)
 have kW:=bg ((s.drop 1).take 2) (by rw [List.length_take];omega)
 have kH:=bg ((s.drop 3).take 2) (by rw [List.length_take];omega)
 rw [show bV (s.take 1)=dK s from rfl] at kK
 rw [show bV ((s.drop 1).take 2)=dW s from rfl] at kW
 rw [show bV ((s.drop 3).take 2)=dH s from rfl] at kH
 have hlt:=Aw s
 rw [show bV ((s.drop 5).take 4)=dL s from rfl] at kb
 have f3:((s.length:Int)=9+(dL s:Int)+8)=True:=eq_true (by omega)
 have ks:=jE (s.take (s.length - 8)) (by rw [List.length_take];omega)
 have hal:=su s c1
 have e8:(s.length:Int) - 8=((s.length - 8:Nat):Int):=by omega
 have htd:(s.drop (s.length - 8)).take (s.length - (s.length - 8))=s.drop (s.length - 8):=List.take_of_length_le (by rw [List.length_drop];exact Nat.le_refl _)
 have hKl:=Ef s
 have hWl:=Eh s
 have hHl:=Ee s
 have hDl:=xH s c1
 have f4:(dX (s.take (s.length - 8))=s.drop (s.length - 8))=True:=eq_true h3
 have kk:=jP (dK s)
 rw [decide_eq_true (by omega)] at kk
 have kz:=iE (dW s) (dH s)
 generalize bG (dW s) (dH s)=z at *
 have f5:(z=0)=False:=eq_false h5
 generalize dL s=L at *
 refine aC.aJ Tryz.func15 rfl (by decide) (by simp [Tryz.f15]) [.cell 2 24,.tmp 3] rfl fun w0 T0 _=>?_
 simp only [Tryz.f15,aB]
 (repeat' with_reducible first|intro _|refine rz ?_|refine ra ?_ ?_|omega|simp only [go_sem,f1,f2])
 refine ah.k kb ?_
 (repeat' with_reducible first|intro _|refine rz ?_|refine ra ?_ ?_|omega|simp only [go_sem,f3,e8])
 refine bC.lex [] [] (by kernel_rfl) (by kernel_rfl) ?_
 (repeat' with_reducible first|intro _|exact dn|refine rn ?_|refine ra ?_ ?_)
 (refine QV.intro (.int .i64 (dK s)) ?_ ?_;focus ((repeat' with_reducible first|intro _|exact dn|refine rn ?_|refine ra ?_ ?_);refine ah.k (kK) ?_;(repeat' with_reducible first|intro _|exact dn|refine rn ?_|refine ra ?_ ?_)))
 (repeat' with_reducible first|intro _|exact dn|refine rn ?_|refine ra ?_ ?_)
 (refine QV.intro (.int .i64 (dW s)) ?_ ?_;focus ((repeat' with_reducible first|intro _|exact dn|refine rn ?_|refine ra ?_ ?_);refine ah.k (kW) ?_;(repeat' with_reducible first|intro _|exact dn|refine rn ?_|refine ra ?_ ?_)))
 (repeat' with_reducible first|intro _|exact dn|refine rn ?_|refine ra ?_ ?_)
 (refine QV.intro (.int .i64 (dH s)) ?_ ?_;focus ((repeat' with_reducible first|intro _|exact dn|refine rn ?_|refine ra ?_ ?_);refine ah.k (kH) ?_;(repeat' with_reducible first|intro _|exact dn|refine rn ?_|refine ra ?_ ?_)))
 (repeat' with_reducible first|intro _|exact dn|refine rn ?_|refine ra ?_ ?_)
 refine bC.lex [] [] (by kernel_rfl) (by kernel_rfl) ?_
 (repeat' with_reducible first|intro _|refine rz ?_|refine ra ?_ ?_|omega|simp only [go_sem,Nat.sub_zero,hal])
 (refine QV.intro (.str (dX (s.take (s.length - 8)))) ?_ ?_;focus ((repeat' with_reducible first|intro _|exact dn|refine rn ?_|refine ra ?_ ?_);refine ah.k (ks) ?_;(repeat' with_reducible first|intro _|exact dn|refine rn ?_|refine ra ?_ ?_)))
 (repeat' with_reducible first|intro _|refine rz ?_|refine ra ?_ ?_|omega|simp only [go_sem,Nat.sub_zero,hal,htd,f4])
 refine ah.k kk ?_
 (repeat' with_reducible first|intro _|exact dn|refine rn ?_|refine ra ?_ ?_)
 refine ah.k kz ?_
 (repeat' with_reducible first|intro _|refine rz ?_|refine ra ?_ ?_|omega|simp only [go_sem,f5])
 refine bf.auto 0 ?_ rfl ?_<;>simp only [go_sem,Int.natCast_succ,Post]
set_option maxHeartbeats 8000000 in
theorem PN (s:Bytes) (c:KP s) (h3:dX (s.take (s.length - 8))=s.drop (s.length - 8)) (h4:1≤dK s∧dK s≤4) (h5:bG (dW s) (dH s)=0) (h6:(xI s).2=false):aC Tryz.prog 15 [.str s] (.tup [.agg [.int .i64 0,.int .i64 0,.nilS],.int .i64 8]) []:=by
 obtain ⟨c1,c2,c3⟩:=c
 have f1:((2097152:Int)<(s.length:Int))=False:=eq_false (by omega)
 have f2:((s.length:Int)<17)=False:=eq_false (by omega)
 have kb:=bg ((s.drop 5).take 4) (by rw [List.length_take];omega)
 have kK:=bg (s.take 1) (by rw [List.length_take];omega)
 have kW:=bg ((s.drop 1).take 2) (by rw [List.length_take];omega)
 have kH:=bg ((s.drop 3).take 2) (by rw [List.length_take];omega)
 rw [show bV (s.take 1)=dK s from rfl] at kK
 rw [show bV ((s.drop 1).take 2)=dW s from rfl] at kW
 rw [show bV ((s.drop 3).take 2)=dH s from rfl] at kH
 have hlt:=Aw s
 rw [show bV ((s.drop 5).take 4)=dL s from rfl] at kb
 have f3:((s.length:Int)=9+(dL s:Int)+8)=True:=eq_true (by omega)
 have ks:=jE (s.take (s.length - 8)) (by rw [List.length_take];omega)
 have hal:=su s c1
 have e8:(s.length:Int) - 8=((s.length - 8:Nat):Int):=by omega
 have htd:(s.drop (s.length - 8)).take (s.length - (s.length - 8))=s.drop (s.length - 8):=List.take_of_length_le (by rw [List.length_drop];exact Nat.le_refl _)
 have hKl:=Ef s
 have hWl:=Eh s
 have hHl:=Ee s
 have hDl:=xH s c1
 have f4:(dX (s.take (s.length - 8))=s.drop (s.length - 8))=True:=eq_true h3
 have kk:=jP (dK s)
 rw [decide_eq_true (by omega)] at kk
 have kz:=iE (dW s) (dH s)
 have hz:=iH h5
 have hwh:((dW s:Int)*(dH s:Int))=((dW s*dH s:Nat):Int):=(Int.natCast_mul _ _).symm
 rw [hwh] at hz
 rw [h5] at kz
 have kp:=MK (dW s) (dH s) (by omega) (by omega) (by omega) (by omega) (dD s) (by omega) (dK s) (by omega) h6
 have hcut:=Lp s c1
 have hp:mJ (dK s) (dW s) (dH s) (dD s)=xI s:=rfl
 rw [hp] at kp
 generalize xI s=q at *
 generalize dD s=d at *
 generalize dL s=L at *
 refine aC.aJ Tryz.func15 rfl (by decide) (by simp [Tryz.f15]) [.cell 2 24,.tmp 3] rfl fun w0 T0 _=>?_
 simp only [Tryz.f15,aB]
 (repeat' with_reducible first|intro _|refine rz ?_|refine ra ?_ ?_|omega|simp only [go_sem,f1,f2])
 refine ah.k kb ?_
 (repeat' with_reducible first|intro _|refine rz ?_|refine ra ?_ ?_|omega|simp only [go_sem,f3,e8])
 refine bC.lex [] [] (by kernel_rfl) (by kernel_rfl) ?_
 (repeat' with_reducible first|intro _|exact dn|refine rn ?_|refine ra ?_ ?_)
 (refine QV.intro (.int .i64 (dK s)) ?_ ?_;focus ((repeat' with_reducible first|intro _|exact dn|refine rn ?_|refine ra ?_ ?_);refine ah.k (kK) ?_;(repeat' with_reducible first|intro _|exact dn|refine rn ?_|refine ra ?_ ?_)))
 (repeat' with_reducible first|intro _|exact dn|refine rn ?_|refine ra ?_ ?_)
 (refine QV.intro (.int .i64 (dW s)) ?_ ?_;focus ((repeat' with_reducible first|intro _|exact dn|refine rn ?_|refine ra ?_ ?_);refine ah.k (kW) ?_;(repeat' with_reducible first|intro _|exact dn|refine rn ?_|refine ra ?_ ?_)))
 (repeat' with_reducible first|intro _|exact dn|refine rn ?_|refine ra ?_ ?_)
 (refine QV.intro (.int .i64 (dH s)) ?_ ?_;focus ((repeat' with_reducible first|intro _|exact dn|refine rn ?_|refine ra ?_ ?_);refine ah.k (kH) ?_;(repeat' with_reducible first|intro _|exact dn|refine rn ?_|refine ra ?_ ?_)))
 (repeat' with_reducible first|intro _|exact dn|refine rn ?_|refine ra ?_ ?_)
 refine bC.lex [] [] (by kernel_rfl) (by kernel_rfl) ?_
 (repeat' with_reducible first|intro _|refine rz ?_|refine ra ?_ ?_|omega|simp only [go_sem,Nat.sub_zero,hal])
 (refine QV.intro (.str (dX (s.take (s.length - 8)))) ?_ ?_;focus ((repeat' with_reducible first|intro _|exact dn|refine rn ?_|refine ra ?_ ?_);refine ah.k (ks) ?_;(repeat' with_reducible first|intro _|exact dn|refine rn ?_|refine ra ?_ ?_)))
 (repeat' with_reducible first|intro _|refine rz ?_|refine ra ?_ ?_|omega|simp only [go_sem,Nat.sub_zero,hal,htd,f4])
 refine ah.k kk ?_
 (repeat' with_reducible first|intro _|exact dn|refine rn ?_|refine ra ?_ ?_)
 refine ah.k kz ?_
 (repeat' with_reducible first|intro _|refine rz ?_|refine ra ?_ ?_|omega|simp only [go_sem,hal,hcut])
 refine ah.f kp 0 ?_
 (repeat' with_reducible first|intro _|exact dn|refine rn ?_|refine ra ?_ ?_)
 refine bf.auto 0 ?_ rfl ?_<;>simp only [go_sem,Int.natCast_succ,Post]
set_option maxHeartbeats 8000000 in
theorem PO (s:Bytes) (c:KP s) (h3:dX (s.take (s.length - 8))=s.drop (s.length - 8)) (h4:1≤dK s∧dK s≤4) (h5:bG (dW s) (dH s)=0) (h6:(xI s).2=true) (h7:¬dN (dW s) (dH s) (xI s).1 (dK s)=s):aC Tryz.prog 15 [.str s] (.tup [.agg [.int .i64 0,.int .i64 0,.nilS],.int .i64 8]) []:=by
 obtain ⟨c1,c2,c3⟩:=c
 have f1:((2097152:Int)<(s.length:Int))=False:=eq_false (by omega)
 have f2:((s.length:Int)<17)=False:=eq_false (by omega)
 have kb:=bg ((s.drop 5).take 4) (by rw [List.length_take];omega)
 have kK:=bg (s.take 1) (by rw [List.length_take];omega)
 have kW:=bg ((s.drop 1).take 2) (by rw [List.length_take];omega)
 have kH:=bg ((s.drop 3).take 2) (by rw [List.length_take];omega)
 rw [show bV (s.take 1)=dK s from rfl] at kK
 rw [show bV ((s.drop 1).take 2)=dW s from rfl] at kW
 rw [show bV ((s.drop 3).take 2)=dH s from rfl] at kH
 have hlt:=Aw s
 rw [show bV ((s.drop 5).take 4)=dL s from rfl] at kb
 have f3:((s.length:Int)=9+(dL s:Int)+8)=True:=eq_true (by omega)
 have ks:=jE (s.take (s.length - 8)) (by rw [List.length_take];omega)
 have hal:=su s c1
 have e8:(s.length:Int) - 8=((s.length - 8:Nat):Int):=by omega
 have htd:(s.drop (s.length - 8)).take (s.length - (s.length - 8))=s.drop (s.length - 8):=List.take_of_length_le (by rw [List.length_drop];exact Nat.le_refl _)
 have hKl:=Ef s
 have hWl:=Eh s
 have hHl:=Ee s
 have hDl:=xH s c1
 have f4:(dX (s.take (s.length - 8))=s.drop (s.length - 8))=True:=eq_true h3
 have kk:=jP (dK s)
 rw [decide_eq_true (by omega)] at kk
 have kz:=iE (dW s) (dH s)
 have hz:=iH h5
 have hwh:((dW s:Int)*(dH s:Int))=((dW s*dH s:Nat):Int):=(Int.natCast_mul _ _).symm
 rw [hwh] at hz
 rw [h5] at kz
 have kp:=zf (dW s) (dH s) (by omega) (by omega) (by omega) (by omega) (dD s) (by omega) (dK s) (by omega) h6
 have hcut:=Lp s c1
 have hp:mJ (dK s) (dW s) (dH s) (dD s)=xI s:=rfl
 rw [hp] at kp
 have hpl:(xI s).1.length=dW s*dH s:=BJ h6
 have ke:=oC (dW s) (dH s) (by omega) (by omega) (by omega) (by omega) (xI s).1 hpl (dK s) (by omega)
 have f9:(dN (dW s) (dH s) (xI s).1 (dK s)=s)=False:=eq_false h7
 generalize dN (dW s) (dH s) (xI s).1 (dK s)=E at *
 generalize xI s=q at *
 generalize dD s=d at *
 generalize dL s=L at *
 refine aC.aJ Tryz.func15 rfl (by decide) (by simp [Tryz.f15]) [.cell 2 24,.tmp 3] rfl fun w0 T0 _=>?_
 simp only [Tryz.f15,aB]
 (repeat' with_reducible first|intro _|refine rz ?_|refine ra ?_ ?_|omega|simp only [go_sem,f1,f2])
 refine ah.k kb ?_
 (repeat' with_reducible first|intro _|refine rz ?_|refine ra ?_ ?_|omega|simp only [go_sem,f3,e8])
 refine bC.lex [] [] (by kernel_rfl) (by kernel_rfl) ?_
 (repeat' with_reducible first|intro _|exact dn|refine rn ?_|refine ra ?_ ?_)
 (refine QV.intro (.int .i64 (dK s)) ?_ ?_;focus ((repeat' with_reducible first|intro _|exact dn|refine rn ?_|refine ra ?_ ?_);refine ah.k (kK) ?_;(repeat' with_reducible first|intro _|exact dn|refine rn ?_|refine ra ?_ ?_)))
 (repeat' with_reducible first|intro _|exact dn|refine rn ?_|refine ra ?_ ?_)
 (refine QV.intro (.int .i64 (dW s)) ?_ ?_;focus ((repeat' with_reducible first|intro _|exact dn|refine rn ?_|refine ra ?_ ?_);refine ah.k (kW) ?_;(repeat' with_reducible first|intro _|exact dn|refine rn ?_|refine ra ?_ ?_)))
 (repeat' with_reducible first|intro _|exact dn|refine rn ?_|refine ra ?_ ?_)
 (refine QV.intro (.int .i64 (dH s)) ?_ ?_;focus ((repeat' with_reducible first|intro _|exact dn|refine rn ?_|refine ra ?_ ?_);refine ah.k (kH) ?_;(repeat' with_reducible first|intro _|exact dn|refine rn ?_|refine ra ?_ ?_)))
 (repeat' with_reducible first|intro _|exact dn|refine rn ?_|refine ra ?_ ?_)
 refine bC.lex [] [] (by kernel_rfl) (by kernel_rfl) ?_
 (repeat' with_reducible first|intro _|refine rz ?_|refine ra ?_ ?_|omega|simp only [go_sem,Nat.sub_zero,hal])
 (refine QV.intro (.str (dX (s.take (s.length - 8)))) ?_ ?_;focus ((repeat' with_reducible first|intro _|exact dn|refine rn ?_|refine ra ?_ ?_);refine ah.k (ks) ?_;(repeat' with_reducible first|intro _|exact dn|refine rn ?_|refine ra ?_ ?_)))
 (repeat' with_reducible first|intro _|refine rz ?_|refine ra ?_ ?_|omega|simp only [go_sem,Nat.sub_zero,hal,htd,f4])
 refine ah.k kk ?_
 (repeat' with_reducible first|intro _|exact dn|refine rn ?_|refine ra ?_ ?_)
 refine ah.k kz ?_
 (repeat' with_reducible first|intro _|refine rz ?_|refine ra ?_ ?_|omega|simp only [go_sem,hal,hcut])
 refine ah.o kp 1 ?_
 (repeat' with_reducible first|intro _|exact dn|refine rn ?_|refine ra ?_ ?_)
 refine ah.k ke ?_
 (repeat' with_reducible first|intro _|refine rz ?_|refine ra ?_ ?_|omega|simp only [go_sem,f9])
 refine bf.auto 0 ?_ rfl ?_<;>simp only [go_sem,Int.natCast_succ,Post]
set_option maxHeartbeats 8000000 in
theorem decode_ok (s:Bytes) (c:KP s) (h3:dX (s.take (s.length - 8))=s.drop (s.length - 8)) (h4:1≤dK s∧dK s≤4) (h5:bG (dW s) (dH s)=0) (h6:(xI s).2=true) (h7:dN (dW s) (dH s) (xI s).1 (dK s)=s):aC Tryz.prog 15 [.str s] (.tup [.agg [.int .i64 (dW s),.int .i64 (dH s),.own 0],.int .i64 0]) [(0,.row 4 (.bools (xI s).1))]:=by
 obtain ⟨c1,c2,c3⟩:=c
 have f1:((2097152:Int)<(s.length:Int))=False:=eq_false (by omega)
 have f2:((s.length:Int)<17)=False:=eq_false (by omega)
 have kb:=bg ((s.drop 5).take 4) (by rw [List.length_take];omega)
 have kK:=bg (s.take 1) (by rw [List.length_take];omega)
 have kW:=bg ((s.drop 1).take 2) (by rw [List.length_take];omega)
 have kH:=bg ((s.drop 3).take 2) (by rw [List.length_take];omega)
 rw [show bV (s.take 1)=dK s from rfl] at kK
 rw [show bV ((s.drop 1).take 2)=dW s from rfl] at kW
 rw [show bV ((s.drop 3).take 2)=dH s from rfl] at kH
 have hlt:=Aw s
 rw [show bV ((s.drop 5).take 4)=dL s from rfl] at kb
 have f3:((s.length:Int)=9+(dL s:Int)+8)=True:=eq_true (by omega)
 have ks:=jE (s.take (s.length - 8)) (by rw [List.length_take];omega)
 have hal:=su s c1
 have e8:(s.length:Int) - 8=((s.length - 8:Nat):Int):=by omega
 have htd:(s.drop (s.length - 8)).take (s.length - (s.length - 8))=s.drop (s.length - 8):=List.take_of_length_le (by rw [List.length_drop];exact Nat.le_refl _)
 have hKl:=Ef s
 have hWl:=Eh s
 have hHl:=Ee s
 have hDl:=xH s c1
 have f4:(dX (s.take (s.length - 8))=s.drop (s.length - 8))=True:=eq_true h3
 have kk:=jP (dK s)
 rw [decide_eq_true (by omega)] at kk
 have kz:=iE (dW s) (dH s)
 have hz:=iH h5
 have hwh:((dW s:Int)*(dH s:Int))=((dW s*dH s:Nat):Int):=(Int.natCast_mul _ _).symm
 rw [hwh] at hz
 rw [h5] at kz
 have kp:=zf (dW s) (dH s) (by omega) (by omega) (by omega) (by omega) (dD s) (by omega) (dK s) (by omega) h6
 have hcut:=Lp s c1
 have hp:mJ (dK s) (dW s) (dH s) (dD s)=xI s:=rfl
 rw [hp] at kp
 have hpl:(xI s).1.length=dW s*dH s:=BJ h6
 have ke:=oC (dW s) (dH s) (by omega) (by omega) (by omega) (by omega) (xI s).1 hpl (dK s) (by omega)
 have f9:(dN (dW s) (dH s) (xI s).1 (dK s)=s)=True:=eq_true h7
 generalize dN (dW s) (dH s) (xI s).1 (dK s)=E at *
 generalize xI s=q at *
 generalize dD s=d at *
 generalize dL s=L at *
 refine aC.aJ Tryz.func15 rfl (by decide) (by simp [Tryz.f15]) [.cell 2 24,.tmp 3] rfl fun w0 T0 _=>?_
 simp only [Tryz.f15,aB]
 (repeat' with_reducible first|intro _|refine rz ?_|refine ra ?_ ?_|omega|simp only [go_sem,f1,f2])
 refine ah.k kb ?_
 (repeat' with_reducible first|intro _|refine rz ?_|refine ra ?_ ?_|omega|simp only [go_sem,f3,e8])
 refine bC.lex [] [] (by kernel_rfl) (by kernel_rfl) ?_
 (repeat' with_reducible first|intro _|exact dn|refine rn ?_|refine ra ?_ ?_)
 (refine QV.intro (.int .i64 (dK s)) ?_ ?_;focus ((repeat' with_reducible first|intro _|exact dn|refine rn ?_|refine ra ?_ ?_);refine ah.k (kK) ?_;(repeat' with_reducible first|intro _|exact dn|refine rn ?_|refine ra ?_ ?_)))
 (repeat' with_reducible first|intro _|exact dn|refine rn ?_|refine ra ?_ ?_)
 (refine QV.intro (.int .i64 (dW s)) ?_ ?_;focus ((repeat' with_reducible first|intro _|exact dn|refine rn ?_|refine ra ?_ ?_);refine ah.k (kW) ?_;(repeat' with_reducible first|intro _|exact dn|refine rn ?_|refine ra ?_ ?_)))
 (repeat' with_reducible first|intro _|exact dn|refine rn ?_|refine ra ?_ ?_)
 (refine QV.intro (.int .i64 (dH s)) ?_ ?_;focus ((repeat' with_reducible first|intro _|exact dn|refine rn ?_|refine ra ?_ ?_);refine ah.k (kH) ?_;(repeat' with_reducible first|intro _|exact dn|refine rn ?_|refine ra ?_ ?_)))
 (repeat' with_reducible first|intro _|exact dn|refine rn ?_|refine ra ?_ ?_)
 refine bC.lex [] [] (by kernel_rfl) (by kernel_rfl) ?_
 (repeat' with_reducible first|intro _|refine rz ?_|refine ra ?_ ?_|omega|simp only [go_sem,Nat.sub_zero,hal])
 (refine QV.intro (.str (dX (s.take (s.length - 8)))) ?_ ?_;focus ((repeat' with_reducible first|intro _|exact dn|refine rn ?_|refine ra ?_ ?_);refine ah.k (ks) ?_;(repeat' with_reducible first|intro _|exact dn|refine rn ?_|refine ra ?_ ?_)))
 (repeat' with_reducible first|intro _|refine rz ?_|refine ra ?_ ?_|omega|simp only [go_sem,Nat.sub_zero,hal,htd,f4])
 refine ah.k kk ?_
 (repeat' with_reducible first|intro _|exact dn|refine rn ?_|refine ra ?_ ?_)
 refine ah.k kz ?_
 (repeat' with_reducible first|intro _|refine rz ?_|refine ra ?_ ?_|omega|simp only [go_sem,hal,hcut])
 refine ah.o kp 1 ?_
 (repeat' with_reducible first|intro _|exact dn|refine rn ?_|refine ra ?_ ?_)
 refine ah.k ke ?_
 (repeat' with_reducible first|intro _|refine rz ?_|refine ra ?_ ?_|omega|simp only [go_sem,f9])
 refine bf.auto 1 ?_ rfl ?_<;>simp only [go_sem,Int.natCast_succ,Post]
theorem decode_two (s:Bytes) (hs:s.length≤200000000000000):U9 15 s (fO s):=by
 unfold fO
 have no:∀ e,e≠0→aC Tryz.prog 15 [.str s] (.tup [.agg [.int .i64 0,.int .i64 0,.nilS],.int .i64 e]) []→U9 15 s (sD e):=fun e h k=>.inr ⟨rfl,h,k⟩
 by_cases h1:2097152<s.length
 ·rw [if_pos h1];exact no _ (by decide) (PE s hs h1)
 rw [if_neg h1]
 by_cases h2:s.length<17∨s.length≠17+dL s
 ·rw [if_pos h2];exact no _ (by decide) (PG s (by omega) h2)
 rw [if_neg h2]
 have c:KP s:=⟨by omega,by omega,by omega⟩
 by_cases h3:dX (s.take (s.length - 8))=s.drop (s.length - 8)
 rotate_left
 ·rw [if_pos h3];exact no _ (by decide) (PI s c h3)
 rw [if_neg (fun h=>h h3)]
 by_cases h4:1≤dK s∧dK s≤4
 rotate_left
 ·rw [if_pos h4];exact no _ (by decide) (PK s c h3 h4)
 rw [if_neg (fun h=>h h4)]
 by_cases h5:bG (dW s) (dH s)=0
 rotate_left
 ·rw [if_pos h5];exact no _ h5 (PL s c h3 h4 h5)
 rw [if_neg (fun h=>h h5)]
 by_cases h6:(xI s).2=true
 rotate_left
 ·rw [if_neg (fun h=>h6 h.1)];exact no _ (by decide) (PN s c h3 h4 h5 (by simpa using h6))
 by_cases h7:dN (dW s) (dH s) (xI s).1 (dK s)=s
 ·rw [if_pos ⟨h6,h7⟩]
  exact .inl ⟨rfl,decode_ok s c h3 h4 h5 h6 h7⟩
 ·rw [if_neg (fun h=>h7 h.2)];exact no _ (by decide) (PO s c h3 h4 h5 h6 h7)
theorem PS (s:Bytes) (hs:s.length≤200000000000000):dG Tryz.prog 15 [.str s] (Xl (fO s)) []:=(decode_two s hs).fr
end Go.Fv.H
/- strings.Builder.WriteByte. -/
namespace Go.Fv.H
open Go Go.Proofs
end Go.Fv.H
/- bedref1.plus: the walk. -/
namespace Go.Fv.H
open Go Go.Proofs
end Go.Fv.H
/- bedref1.adaptive: the walk. -/
namespace Go.Fv.H
open Go Go.Proofs
end Go.Fv.H
/- The reference's Encode: the walk. -/
namespace Go.Fv.H
open Go Go.Proofs
end Go.Fv.H
/- The reference's unpackBits: the walk. -/
namespace Go.Fv.H
open Go Go.Proofs
end Go.Fv.H
/- bedref1.unadaptive: the walk. -/
namespace Go.Fv.H
open Go Go.Proofs
end Go.Fv.H
/- Runes below 128 are bytes. -/
namespace Go.Fv.H
open Go
end Go.Fv.H
/- The reference's read at plain data and by context: the walk. -/
namespace Go.Fv.H
open Go Go.Proofs
end Go.Fv.H
/- Reading a number: the walk of the reference's ReadGamma. -/
namespace Go.Fv.H
open Go Go.Proofs
end Go.Fv.H
/- The closures of the reference's ReadLine. -/
namespace Go.Fv.H
open Go Go.Proofs
end Go.Fv.H
/- The reference's ReadLine: the walk. -/
namespace Go.Fv.H
open Go Go.Proofs
structure Ve (st:Bool) (above:List Bool) (s:Bytes) (x:Zw):Prop where
 hp:x.p≤above.length+1
 hn:x.n≤s.length
 hR:x.R.length=x.p - 1
 hz:above.length=0→x.n=0
 hq:oN st above s 0 false=match oN st above (s.drop x.n) x.p x.k with|none=>none|some (l,m)=>some (x.R++l,x.n+m)
theorem Ve.first (st:Bool) (above:List Bool) (s:Bytes):Ve st above s ⟨0,false,0,[]⟩:=by
 refine ⟨Nat.zero_le _,Nat.zero_le _,rfl,fun _=>rfl,?_⟩
 dsimp only
 rw [List.drop_zero]
 cases oN st above s 0 false with
 | none=>rfl
 | some x=>obtain ⟨l,m⟩:=x;dsimp only;rw [List.nil_append,Nat.zero_add]
theorem Ve.step {st:Bool} {above:List Bool} {s:Bytes} {p n:Nat} {k:Bool} {R:List Bool} (h:Ve st above s ⟨p,k,n,R⟩) (hp:p≤above.length) (h0:0<above.length) {y:XD} (hy:rdStep st above (s.drop n) p k=some y) :
  Ve st above s ⟨y.p,y.k,n+y.n,R++y.px⟩∧p<y.p∧y.p≤above.length+1:=by
 obtain ⟨h1,h2,h3,_,h4⟩:=h
 obtain ⟨g1,g2,g3,g4⟩:=nK hp hy
 dsimp only at *
 rw [List.length_drop] at g4
 refine ⟨⟨g2,by dsimp only;omega,by dsimp only;rw [List.length_append,h3,g3];omega,fun h=>by omega,?_⟩,g1,g2⟩
 dsimp only
 rw [h4,lT hp hy,List.drop_drop]
 cases oN st above (s.drop (n+y.n)) y.p y.k with
 | none=>rfl
 | some x=>obtain ⟨l,m⟩:=x;dsimp only;rw [List.append_assoc,Nat.add_assoc]
theorem Ve.fail {st:Bool} {above:List Bool} {s:Bytes} {p n:Nat} {k:Bool} {R:List Bool} (h:Ve st above s ⟨p,k,n,R⟩) (hp:p≤above.length) (h0:0<above.length) (hy:rdStep st above (s.drop n) p k=none):gB st above s=none:=by
 unfold gB kN
 rw [if_neg (by omega),h.hq,x9 hp hy]
theorem Ve.done {st:Bool} {above:List Bool} {s:Bytes} {p n:Nat} {k:Bool} {R:List Bool} (h:Ve st above s ⟨p,k,n,R⟩) (hp:¬(p≤above.length∧0<above.length)):kN st above s=some (R,n)∧R.length=above.length:=by
 have h1:p≤above.length+1:=h.hp
 have h2:R.length=p - 1:=h.hR
 have h3:above.length=0→n=0:=h.hz
 refine ⟨?_,by omega⟩
 unfold kN
 by_cases h0:above.length=0
 ·have hR0:R.length=0:=by
   have h5:p≤1:=by rw [h0] at h1;exact h1
   rw [h2];exact Nat.sub_eq_zero_of_le h5
  rw [if_pos h0,h3 h0,List.eq_nil_of_length_eq_zero hR0]
 ·have h6:¬p≤above.length:=by omega
  rw [if_neg h0,h.hq,oO h6]
  dsimp only
  rw [List.append_nil,Nat.add_zero]
end Go.Fv.H
/- The reference's read at runs: the walk. -/
namespace Go.Fv.H
open Go Go.Proofs
end Go.Fv.H
/- The reference's read at lines: the walk. -/
namespace Go.Fv.H
open Go Go.Proofs
end Go.Fv.H
/- The reference's Decode: the walk. -/
namespace Go.Fv.H
open Go Go.Proofs
end Go.Fv.H
/- The reference's Shortest: the walk. -/
namespace Go.Fv.H
open Go Go.Proofs
end Go.Fv.H
/- A page made right: the walk's result, and how long its codes are. -/
namespace Go.Fv.H
open Go Go.Proofs
structure Zo where
 (w h:Nat) (p:List Bool)
structure Zo.Ok (b:Zo):Prop where
 g:lC b.w b.h b.p
 w32:b.w≤32
 h32:b.h≤32
def Zo.av (b:Zo):AV:=.agg [.int .i64 b.w,.int .i64 b.h,.ro (.bools b.p)]
theorem lZ {w h:Nat} {p:List Bool} (g:lC w h p) (kind:Int):(dN w h p kind).length≤1048597:=by
 have:=IX g kind
 rw [ou];omega
theorem SI (w h:Nat) (p:List Bool) (kind:Int):17≤(dN w h p kind).length:=by rw [ou];omega
theorem Vy {w h:Nat} {p:List Bool} (g:lC w h p):∀ k,(fU w h p k).1.length≤1048597
 | 0=>Nat.zero_le _
 | k+1=>by
  have h1:=Vy g k
  have h2:=lZ g ((k:Int)+1)
  unfold fU
  split
  ·exact h2
  ·exact h1
theorem N8 (w h:Nat) (p:List Bool):∀ k,(fU w h p (k+1)).1=dN w h p (fU w h p (k+1)).2∧1≤(fU w h p (k+1)).2∧(fU w h p (k+1)).2≤(k:Int)+1
 | 0=>by
  have e:fU w h p 1=(dN w h p 1,1):=rfl
  rw [show 0+1=1 from rfl,e]
  exact ⟨rfl,Int.le_refl _,Int.le_refl _⟩
 | k+1=>by
  obtain ⟨h1,h2,h3⟩:=N8 w h p k
  have e:fU w h p (k+1+1)=if (fU w h p (k+1)).2=0∨(dN w h p (((k+1:Nat):Int)+1)).length<(fU w h p (k+1)).1.length then (dN w h p (((k+1:Nat):Int)+1),((k+1:Nat):Int)+1) else fU w h p (k+1):=rfl
  rw [e]
  split
  ·exact ⟨rfl,by dsimp only;omega,by dsimp only;omega⟩
  ·exact ⟨h1,h2,by omega⟩
theorem SG (s:Bytes) (he:(fO s).e≠0):(fO s).w=0∧(fO s).h=0∧(fO s).p=[]:=by
 unfold fO at he ⊢
 split
 ·exact ⟨rfl,rfl,rfl⟩
 ·split
  ·exact ⟨rfl,rfl,rfl⟩
  ·split
   ·exact ⟨rfl,rfl,rfl⟩
   ·split
    ·exact ⟨rfl,rfl,rfl⟩
    ·split
     ·exact ⟨rfl,rfl,rfl⟩
     ·split
      ·rename_i h1 h2 h3 h4 h5 h6
       rw [if_neg h1,if_neg h2,if_neg h3,if_neg h4,if_neg h5,if_pos h6] at he
       exact absurd rfl he
      ·exact ⟨rfl,rfl,rfl⟩
end Go.Fv.H
/- Packing, in plain words. -/
namespace Go.Fv.H
open Go Go.Proofs
structure NP where
 (n:Bytes) (W H:Int) (p:List Bool)
def NP.av (x:NP):List AV:=[.str x.n,.int .i64 x.W,.int .i64 x.H,.ro (.bools x.p)]
def NP.zero:NP:=⟨[],0,0,[]⟩
abbrev YL (l:List NP):aF:=.objs 4 (l.map NP.av)
instance:yK NP.av:=⟨fun _=>rfl⟩
theorem Gt (l:List NP) {i:Nat} (h:i<l.length):(l.map NP.av).getD i []=[.str (l.getD i NP.zero).n,.int .i64 (l.getD i NP.zero).W,.int .i64 (l.getD i NP.zero).H,.ro (.bools (l.getD i NP.zero).p)]:=by
 simp [List.getD_eq_getElem?_getD,h,NP.av]
def Xp (x:NP):Int:=jq x.W x.H x.p.length
def NP.Ok (x:NP):Prop:=lC x.W.toNat x.H.toNat x.p
theorem NP.Ok.w {x:NP} (h:x.Ok):(x.W.toNat:Int)=x.W∧(x.H.toNat:Int)=x.H:=by
 have h1:=lC.w0 h
 have h2:=lC.h0 h
 omega
theorem Yf {x:NP} (h:Xp x=0):x.Ok:=by
 unfold Xp jq at h
 split at h
 ·rename_i hs
  have hz:=iH hs
  split at h
  ·rename_i hp
   have e:((x.W.toNat*x.H.toNat:Nat):Int)=x.W*x.H:=by
    rw [Int.natCast_mul]
    congr 1<;>omega
   exact ⟨by omega,by omega,by omega,by omega,by omega,by omega⟩
  ·cases h
 ·rename_i hs;exact absurd h hs
theorem Ye {x:NP} (h:x.Ok):Xp x=0:=by
 have:=lC.err h
 rw [h.w.1,h.w.2] at this
 exact this
def zx (l:List NP):Nat→Int
 | 0=>0
 | i+1=>if zx l i≠0 then zx l i else if fQ (l.getD i NP.zero).n=true then (if (l.getD i NP.zero).n∈(l.take i).map NP.n then 6 else Xp (l.getD i NP.zero)) else 5
theorem Ug {l:List NP} {i:Nat} (h:zx l i≠0):∀ j,zx l (i+j)=zx l i
 | 0=>rfl
 | j+1=>by
  have ih:=Ug h j
  show (if zx l (i+j)≠0 then zx l (i+j) else _)=_
  rw [ih,if_pos h]
theorem Ue {l:List NP} {i n:Nat} (h:zx l i≠0) (hn:i≤n):zx l n=zx l i:=by
 have:=Ug h (n - i)
 rwa [show i+(n - i)=n by omega] at this
theorem Ud {l:List NP} {i n:Nat} (h:zx l n=0) (hn:i≤n):zx l i=0:=
 Classical.byContradiction fun h2=>h2 ((Ue h2 hn).symm.trans h)
structure uZ (l:List NP):Prop where
 name:∀ x,x∈l→fQ x.n=true
 ok:∀ x,x∈l→x.Ok
 nodup:(l.map NP.n).Nodup
theorem MN {l:List NP} (h:uZ l) {x:NP} (h1:fQ x.n=true) (h2:x.n∉l.map NP.n) (h3:x.Ok):uZ (l++[x]):=by
 refine ⟨fun y hy=>?_,fun y hy=>?_,?_⟩
 ·rcases List.mem_append.1 hy with hy|hy
  ·exact h.name y hy
  ·rw [List.mem_singleton.1 hy];exact h1
 ·rcases List.mem_append.1 hy with hy|hy
  ·exact h.ok y hy
  ·rw [List.mem_singleton.1 hy];exact h3
 ·rw [List.map_append,List.nodup_append]
  refine ⟨h.nodup,by simp,fun a ha b hb=>?_⟩
  rw [List.map_singleton,List.mem_singleton] at hb
  subst hb
  exact fun e=>h2 (e▸ha)
theorem Uf {l:List NP}:∀ i,i≤l.length→zx l i=0→uZ (l.take i)
 | 0,_,_=>⟨fun _ h=>by simp at h,fun _ h=>by simp at h,List.nodup_nil⟩
 | i+1,hi,h=>by
  have h0:=Ud h (Nat.le_succ i)
  have ih:=Uf i (by omega) h0
  have hil:i<l.length:=by omega
  have e:l.getD i NP.zero=l[i]:=by simp [List.getD_eq_getElem?_getD,hil]
  have hs:zx l (i+1)=if zx l i≠0 then zx l i else if fQ (l.getD i NP.zero).n=true then (if (l.getD i NP.zero).n∈(l.take i).map NP.n then 6 else Xp (l.getD i NP.zero)) else 5:=rfl
  rw [h0,if_neg (by simp),e,h] at hs
  rw [List.take_succ_eq_append_getElem hil]
  split at hs
  ·rename_i h1
   split at hs
   ·cases hs
   ·rename_i h2
    exact MN ih h1 h2 (Yf hs.symm)
  ·cases hs
theorem ML {l:List NP} (h:uZ l):∀ i,i≤l.length→zx l i=0
 | 0,_=>rfl
 | i+1,hi=>by
  have ih:=ML h i (by omega)
  have hil:i<l.length:=by omega
  have e:l.getD i NP.zero=l[i]:=by simp [List.getD_eq_getElem?_getD,hil]
  have hm:l[i]∈l:=List.getElem_mem hil
  have hni:l[i].n∉(l.take i).map NP.n:=by
   intro hx
   have hnd:=h.nodup
   rw [←List.take_append_drop i l,List.map_append,List.nodup_append] at hnd
   refine hnd.2.2 _ hx l[i].n ?_ rfl
   rw [List.drop_eq_getElem_cons hil]
   exact List.mem_map.2 ⟨_,List.mem_cons_self,rfl⟩
  show (if zx l i≠0 then zx l i else _)=0
  rw [ih,if_neg (by simp),e,if_pos (h.name _ hm),if_neg hni]
  exact Ye (h.ok _ hm)
def OW (l:List NP) (kind:Int):Int:=if 500<l.length then 4 else if zx l l.length≠0 then zx l l.length else if 1≤kind∧kind≤5 then 0 else 1
theorem Uh {l:List NP} {kind:Int} (h:OW l kind=0):uZ l∧l.length≤500∧1≤kind∧kind≤5:=by
 unfold OW at h
 split at h
 ·cases h
 ·split at h
  ·rename_i h2;exact absurd h h2
  ·rename_i h1 h2
   have:=Uf l.length (Nat.le_refl _) (Classical.not_not.1 h2)
   rw [List.take_length] at this
   split at h
   ·rename_i h3;exact ⟨this,by omega,h3.1,h3.2⟩
   ·cases h
theorem Yi {l:List NP} {kind:Int} (h:uZ l) (hl:l.length≤500) (hk:1≤kind∧kind≤5):OW l kind=0:=by
 unfold OW
 rw [if_neg (by omega),ML h _ (Nat.le_refl _),if_neg (by simp),if_pos hk]
def zn (kind:Int) (x:NP):Bytes:=if kind=5 then (fU x.W.toNat x.H.toNat x.p 4).1 else dN x.W.toNat x.H.toNat x.p kind
def pz (kind:Int) (l:List NP):List (Bytes × Bytes):=l.map fun x=>(x.n,zn kind x)
theorem vJ (kind:Int) (l:List NP):(pz kind l).length=l.length:=List.length_map _
theorem Aj (kind:Int) (hk:1≤kind∧kind≤5) (x:NP):∃ k:Int,1≤k∧k≤4∧zn kind x=dN x.W.toNat x.H.toNat x.p k:=by
 unfold zn
 split
 ·have:=N8 x.W.toNat x.H.toNat x.p 3
  exact ⟨_,this.2.1,by omega,this.1⟩
 ·exact ⟨kind,by omega,by omega,rfl⟩
theorem RY {kind:Int} (hk:1≤kind∧kind≤5) {x:NP} (h:x.Ok):17≤(zn kind x).length∧(zn kind x).length≤1048597:=by
 obtain ⟨k,k1,k2,e⟩:=Aj kind hk x
 rw [e]
 exact ⟨SI _ _ _ _,lZ h k⟩
theorem RX {kind:Int} (hk:1≤kind∧kind≤5) {x:NP} (h:x.Ok):fO (zn kind x)=⟨x.W.toNat,x.H.toNat,x.p,0⟩:=by
 obtain ⟨k,k1,k2,e⟩:=Aj kind hk x
 rw [e]
 have:=lZ h k
 exact IY h ⟨k1,k2⟩ (by omega)
def mG (l:List NP) (kind:Int):Bytes × Int:=
 if OW l kind≠0 then ([],OW l kind)
 else if 4194304<(oW (pz kind l)).length then ([],4)
 else (oW (pz kind l),0)
theorem N9 {l:List NP} {kind:Int} (h:(mG l kind).2=0):mG l kind=(oW (pz kind l),0)∧Ri (pz kind l)∧uZ l∧l.length≤500∧1≤kind∧kind≤5:=by
 unfold mG at h ⊢
 split at h
 ·rename_i h1;exact absurd h h1
 ·rename_i h1
  split at h
  ·cases h
  ·rename_i h2
   obtain ⟨k1,k2,k3,k4⟩:=Uh (Classical.not_not.1 h1)
   rw [if_neg h1,if_neg h2]
   have hn:(pz kind l).map Prod.fst=l.map NP.n:=by unfold pz;rw [List.map_map];rfl
   refine ⟨rfl,⟨?_,?_,by rw [hn];exact k1.nodup,by omega⟩,k1,k2,k3,k4⟩
   ·unfold pz;rw [List.length_map];omega
   ·intro x hx
    obtain ⟨y,hy,rfl⟩:=List.mem_map.1 hx
    exact k1.name y hy
end Go.Fv.H
/- strings.Repeat of a zero byte, by the contract of the shelf. -/
namespace Go.Proofs
open Go.Shelf
end Go.Proofs
namespace Go.Fv.H
open Go Go.Proofs
end Go.Fv.H
/- The closures of shrink.List and of the reference's. -/
namespace Go.Fv.H
open Go Go.Proofs
theorem slc {s:Bytes} {a n:Nat}:(s.drop a).take (a+n - a)=(s.drop a).take n:=by rw [Nat.add_sub_cancel_left]
theorem U0 (s:Bytes) (a:Nat) (sh:Bool) (n:Nat) (hs:s.length≤300000000000000) (ha:a≤s.length) (hn:n≤4294967296) :
  iC Tryz.prog 90 [.int .i64 n,.ptr 0 0,.ptr 1 0,.ptr 2 0] [(0,.box 4 [.bool sh]),(1,.box 9 [.str s]),(2,.box 3 [.int .i64 a])] 3 (.str (tk s a sh n).t) [(0,.box 4 [.bool (tk s a sh n).sh]),(1,.box 9 [.str s]),(2,.box 3 [.int .i64 (tk s a sh n).a])]:=by
 refine iC.aJ Tryz.func90 rfl (by decide) (by simp [Tryz.f90]) cv3 [.tmp 5] rfl fun w0 T0 _=>?_
 simp only [Tryz.f90,aB]
 cases sh with
 | true=>
  rw [Xv]
  (repeat' with_reducible first|intro _|exact dn|refine rn ?_|refine ra ?_ ?_)
  refine kT.auto 3 (Nat.le_refl 3) ?_ rfl ?_<;>simp only [go_sem,Int.natCast_succ,gV]
 | false=>
  by_cases h:s.length<a+n
  ·have e:tk s a false n=⟨[],a,true⟩:=by unfold tk;rw [if_pos (.inr h)]
   have f1:((s.length:Int) - (a:Int)<(n:Int))=True:=eq_true (by omega)
   rw [e]
   (repeat' with_reducible first|intro _|refine rz ?_|refine ra ?_ ?_|omega|simp only [go_sem,f1])
   refine kT.auto 3 (Nat.le_refl 3) ?_ rfl ?_<;>simp only [go_sem,Int.natCast_succ,gV]
  ·have e:tk s a false n=⟨(s.drop a).take n,a+n,false⟩:=by unfold tk;rw [if_neg (by simp;omega)]
   have f1:((s.length:Int) - (a:Int)<(n:Int))=False:=eq_false (by omega)
   have e2:(a:Int)+(n:Int)=((a+n:Nat):Int):=by omega
   have e3:((a+n:Nat):Int) - (n:Int)=(a:Int):=by omega
   rw [e]
   (repeat' with_reducible first|intro _|refine rz ?_|refine ra ?_ ?_|omega|simp only [go_sem,f1,e2,e3,slc])
   refine kT.auto 3 (Nat.le_refl 3) ?_ rfl ?_<;>simp only [go_sem,Int.natCast_succ,gV]
end Go.Fv.H
/- shrink.List: the walk. -/
namespace Go.Fv.H
open Go Go.Proofs
def BD (l:List (Bytes × Nat)) (a j:Nat):List En:=(fV l a).take j++(fV l 0).drop j
theorem TL (l:List (Bytes × Nat)) (a:Nat) {j:Nat} (h:j≤l.length):(BD l a j).length=l.length:=by
 unfold BD
 rw [List.length_append,List.length_take,List.length_drop,fZ,fZ];omega
theorem Wq (l:List (Bytes × Nat)) (a:Nat) {j:Nat} (h:j<l.length):(BD l a j).getD j En.zero=(fV l 0).getD j En.zero:=by
 unfold BD
 have h1:=fZ l a
 rw [List.getD_eq_getElem?_getD,List.getD_eq_getElem?_getD,List.getElem?_append_right (by rw [List.length_take];omega),List.length_take,List.getElem?_drop,h1]
 congr 2;omega
theorem TM (l:List (Bytes × Nat)) (a:Nat) {j:Nat} (h:j<l.length):(BD l a j).set j ⟨((fV l 0).getD j En.zero).n,((fV l 0).getD j En.zero).a+a,((fV l 0).getD j En.zero).k⟩=BD l a (j+1):=by
 have h1:=fZ l a
 have h2:=fZ l 0
 have e:=Oh a l 0 j h
 rw [Nat.zero_add] at e
 rw [←e]
 have hj:j<(fV l a).length:=by omega
 have e2:(fV l a).getD j En.zero=(fV l a)[j]:=by simp [List.getD_eq_getElem?_getD,hj]
 rw [e2]
 unfold BD
 rw [List.set_append_right _ _ (by rw [List.length_take];omega),List.length_take,Nat.min_eq_left (by omega),Nat.sub_self,List.drop_eq_getElem_cons (show j<(fV l 0).length by omega),List.set_cons_zero,List.take_succ_eq_append_getElem hj,List.append_assoc]
 rfl
theorem VP (l:List (Bytes × Nat)) (a j:Nat):((fV l a).getD j En.zero).n=(l.map Prod.fst).getD j []:=by
 rw [←xJ l a,List.getD_eq_getElem?_getD,List.getD_eq_getElem?_getD,List.getElem?_map]
 cases (fV l a)[j]?<;>rfl
set_option maxHeartbeats 4000000 in
theorem Wp (s:Bytes) (hs:s.length≤140737488351232):aC Tryz.prog 39 [.str s] (.tup [.own 0,.int .i64 (eU s).2]) [(0,.row 75 (YH (eU s).1))]:=by
 refine aC.aJ Tryz.func39 rfl (by decide) (by simp [Tryz.f39]) [.tmp 2,.tmp 3] rfl fun w0 T0 _=>?_
 simp only [Tryz.f39,aB]
 by_cases h1:4194304<s.length
 ·have f1:((4194304:Int)<(s.length:Int))=True:=eq_true (by omega)
  have e:eU s=([],4):=by unfold eU;rw [if_pos h1]
  rw [e]
  (repeat' with_reducible first|intro _|refine rz ?_|refine ra ?_ ?_|omega|simp only [go_sem,f1])
  refine bf.auto 1 ?_ rfl ?_<;>simp only [go_sem,Int.natCast_succ,Post]
 have f1:((4194304:Int)<(s.length:Int))=False:=eq_false (by omega)
 by_cases h2:s.length<6
 ·have f2:((s.length:Int)<6)=True:=eq_true (by omega)
  have e:eU s=([],8):=by unfold eU;rw [if_neg h1,if_pos (.inl h2)]
  rw [e]
  (repeat' with_reducible first|intro _|refine rz ?_|refine ra ?_ ?_|omega|simp only [go_sem,f1,f2])
  refine bf.auto 1 ?_ rfl ?_<;>simp only [go_sem,Int.natCast_succ,Post]
 have f2:((s.length:Int)<6)=False:=eq_false (by omega)
 by_cases h3:s.take 4=wz
 rotate_left
 ·have e:eU s=([],8):=by unfold eU;rw [if_neg h1,if_pos (.inr h3)]
  have f3:(s.take 4=[70,66,65,49])=False:=eq_false h3
  rw [e]
  (repeat' with_reducible first|intro _|refine rz ?_|refine ra ?_ ?_|omega|simp only [go_sem,f1,f2,f3])
  refine bf.auto 1 ?_ rfl ?_<;>simp only [go_sem,Int.natCast_succ,Post]
 have f3:(s.take 4=[70,66,65,49])=True:=eq_true h3
 have kb:=bg ((s.drop 4).take 2) (by rw [List.length_take];omega)
 have hm:=Zb (s:=(s.drop 4).take 2) (List.length_take_le _ _)
 obtain ⟨M,hM⟩:∃ M,bV ((s.drop 4).take 2)=M:=⟨_,rfl⟩
 rw [hM] at kb hm
 have hsl:(s.drop 4).take (6 - 4)=(s.drop 4).take 2:=rfl
 (repeat' with_reducible first|intro _|refine rz ?_|refine ra ?_ ?_|omega|simp only [go_sem,f1,f2,f3])
 refine ah.k kb ?_
 (repeat' with_reducible first|intro _|exact dn|refine rn ?_|refine ra ?_ ?_)
 have hls:=fun i=>TI (s:=s) (by omega) i
 have hN:Yb s=M:=hM
 refine aI.intro (fun i:Nat=>⟨104,[(34,.int .i64 i),(33,.int .i64 M),(9,.int .i64 (iQ (ls s i).l)),(8,.own 3),(7,.fn 90 [.ptr 2 0,.ptr 0 0,.ptr 1 0]),(6,.ptr 2 0),(4,.ptr 1 0),(1,.ptr 0 0)],[(0,.box 9 [.str s]),(1,.box 3 [.int .i64 (ls s i).a]),(2,.box 4 [.bool false]),(3,.row 75 (YH (fV (ls s i).l 0)))],4⟩) (fun i=>i≤M∧(ls s i).sh=false) (fun i=>M - i) 0 ?_ ⟨Nat.zero_le _,rfl⟩ fun i hi=>?_
 ·refine aO.ak rfl ?_ ?_<;>simp only [go_sem,Int.natCast_succ]
  all_goals first|rfl|exact ⟨rfl,rfl⟩|trace_state
 obtain ⟨hiM,hish⟩:=hi
 have ho:=hls i
 by_cases hlt:i<M
 ·have f4:((i:Int)<(M:Int))=True:=eq_true (by omega)
  have ho2:=SH (ls s i).sh ho.a1
  have hst:ls s (i+1)=⟨(ls s i).l++[((F5 s (ls s i).a (ls s i).sh).n,(F5 s (ls s i).a (ls s i).sh).k)],(F5 s (ls s i).a (ls s i).sh).a,(F5 s (ls s i).a (ls s i).sh).sh⟩:=rfl
  have hsn:=Ej ((F5 s (ls s i).a (ls s i).sh).n,(F5 s (ls s i).a (ls s i).sh).k) (ls s i).l 0
  have hsk:=Fe (ls s i).l ((F5 s (ls s i).a (ls s i).sh).n,(F5 s (ls s i).a (ls s i).sh).k)
  have hel:=fZ (ls s i).l 0
  have hlen:=ho.len
  have hk:=ho.k
  rw [hish] at hst hsn hsk ho2
  have hsM:=@Xo s (i+1)
  rw [hst] at hsM
  have ha1:=ho.a1
  have hk2:=ho2.k
  generalize hq:ls s i=q at *
  obtain ⟨ql,qa,qs⟩:=q
  dsimp only at *
  have kt1:iC Tryz.prog 90 [.int .i64 1,.ptr 0 0,.ptr 1 0,.ptr 2 0] [(0,.box 4 [.bool false]),(1,.box 9 [.str s]),(2,.box 3 [.int .i64 qa])] 3 (.str (tk s qa false 1).t) [(0,.box 4 [.bool (tk s qa false 1).sh]),(1,.box 9 [.str s]),(2,.box 3 [.int .i64 (tk s qa false 1).a])]:=U0 s qa false 1 (by omega) ha1 (by omega)
  have b1:=UZ (s:=s) false 1 ha1
  have l1:=CJ s qa false 1
  have n1:=num1 l1
  have kb1:=bg (tk s qa false 1).t (by omega)
  have hx:F5 s qa false=⟨(tk s (tk s qa false 1).a (tk s qa false 1).sh (bV (tk s qa false 1).t)).t,bV (tk s (tk s (tk s qa false 1).a (tk s qa false 1).sh (bV (tk s qa false 1).t)).a (tk s (tk s qa false 1).a (tk s qa false 1).sh (bV (tk s qa false 1).t)).sh 4).t,(tk s (tk s (tk s qa false 1).a (tk s qa false 1).sh (bV (tk s qa false 1).t)).a (tk s (tk s qa false 1).a (tk s qa false 1).sh (bV (tk s qa false 1).t)).sh 4).a,(tk s (tk s (tk s qa false 1).a (tk s qa false 1).sh (bV (tk s qa false 1).t)).a (tk s (tk s qa false 1).a (tk s qa false 1).sh (bV (tk s qa false 1).t)).sh 4).sh⟩:=rfl
  rw [hx] at hst hsn hsk hsM hk2
  generalize tk s qa false 1=X at *
  have kt2:=U0 s X.a X.sh (bV X.t) (by omega) b1.2 (by omega)
  have b2:=UZ (s:=s) X.sh (bV X.t) b1.2
  generalize tk s X.a X.sh (bV X.t)=Y at *
  have kt3:iC Tryz.prog 90 [.int .i64 4,.ptr 0 0,.ptr 1 0,.ptr 2 0] [(0,.box 4 [.bool Y.sh]),(1,.box 9 [.str s]),(2,.box 3 [.int .i64 Y.a])] 3 (.str (tk s Y.a Y.sh 4).t) [(0,.box 4 [.bool (tk s Y.a Y.sh 4).sh]),(1,.box 9 [.str s]),(2,.box 3 [.int .i64 (tk s Y.a Y.sh 4).a])]:=U0 s Y.a Y.sh 4 (by omega) b2.2 (by omega)
  have l3:=CJ s Y.a Y.sh 4
  have kb3:=bg (tk s Y.a Y.sh 4).t l3
  generalize tk s Y.a Y.sh 4=Z at *
  dsimp only at hst hsn hsk hsM hk2
  rw [Nat.zero_add] at hsn
  (repeat' with_reducible first|intro _|refine rz ?_|refine ra ?_ ?_|omega|simp only [go_sem,f4])
  refine ah.i [2,0,1] kt1 3 ?_
  (repeat' with_reducible first|intro _|exact dn|refine rn ?_|refine ra ?_ ?_)
  refine ah.k kb1 ?_
  (repeat' with_reducible first|intro _|exact dn|refine rn ?_|refine ra ?_ ?_)
  refine ah.i [2,0,1] kt2 3 ?_
  (repeat' with_reducible first|intro _|exact dn|refine rn ?_|refine ra ?_ ?_)
  refine ah.i [2,0,1] kt3 3 ?_
  (repeat' with_reducible first|intro _|exact dn|refine rn ?_|refine ra ?_ ?_)
  refine ah.k kb3 ?_
  cases hz:Z.sh with
  | true=>
   have e:eU s=([],8):=by
    have h:=hsM hz (M - (i+1))
    rw [show i+1+(M - (i+1))=M by omega] at h
    have:(wu s).sh=true:=by unfold wu;rw [hN];exact h
    unfold eU
    rw [if_neg h1,if_neg (by rw [h3];simp;omega),if_pos this]
   rw [e]
   (repeat' with_reducible first|intro _|exact dn|refine rn ?_|refine ra ?_ ?_)
   refine bf.auto 1 ?_ rfl ?_<;>simp only [go_sem,Int.natCast_succ,Post]
  | false=>
   (repeat' with_reducible first|intro _|exact dn|refine rn ?_|refine ra ?_ ?_)
   refine ⟨i+1,aO.ak rfl ?_ ?_,⟨by omega,by rw [hst];exact hz⟩,by omega⟩<;>simp only [go_sem,Int.natCast_succ,hst,hsn,hsk]
   all_goals first|rfl|(rw [List.map_append];rfl)
 have e:i=M:=by omega
 subst e
 have hO:wu s=ls s i:=by unfold wu;rw [hN]
 obtain ⟨hlen,hk,ha0,ha1⟩:=ho
 have hin:=fun x hx=>(F6 (ls s i).l 0 x hx).2
 have hL:eU s=if (ls s i).a+iQ (ls s i).l+8≠s.length then ([],8) else if dX (s.take (ls s i).a)≠s.drop ((ls s i).a+iQ (ls s i).l) then ([],14) else if Dk ((ls s i).l.map Prod.fst) (ls s i).l.length≠0 then ([],Dk ((ls s i).l.map Prod.fst) (ls s i).l.length) else (fV (ls s i).l (ls s i).a,0):=by
  unfold eU
  rw [if_neg h1,if_neg (by rw [h3];simp;omega),hO,if_neg (by rw [hish];decide)]
 clear hls hO hN hM hish
 generalize ls s i=q at *
 obtain ⟨l,a,sh⟩:=q
 dsimp only at hlen hk ha0 ha1 hL hin
 have f4:((i:Int)<(i:Int))=False:=eq_false (by omega)
 by_cases h5:a+iQ l+8=s.length
 rotate_left
 ·have f5:((a:Int)+(iQ l:Int)+8=(s.length:Int))=False:=eq_false (by omega)
  rw [if_pos h5] at hL
  rw [hL]
  (repeat' with_reducible first|intro _|refine rz ?_|refine ra ?_ ?_|omega|simp only [go_sem,f4,f5])
  refine bf.auto 1 ?_ rfl ?_<;>simp only [go_sem,Int.natCast_succ,Post]
 have f5:((a:Int)+(iQ l:Int)+8=(s.length:Int))=True:=eq_true (by omega)
 rw [if_neg (fun h=>h h5)] at hL
 have ks:aC Tryz.prog 26 [.str (s.take (a - 0))] (.str (dX (s.take a))) []:=jE (s.take a) (by rw [List.length_take];omega)
 have e1:(a:Int)+(iQ l:Int)=((a+iQ l:Nat):Int):=by omega
 have e2:(s.drop (a+iQ l)).take (s.length - (a+iQ l))=s.drop (a+iQ l):=List.take_of_length_le (by rw [List.length_drop];exact Nat.le_refl _)
 generalize hS:dX (s.take a)=S at *
 obtain ⟨D,hD⟩:∃ D,s.drop (a+iQ l)=D:=⟨_,rfl⟩
 rw [hD] at hL e2
 (repeat' with_reducible first|intro _|refine rz ?_|refine ra ?_ ?_|omega|simp only [go_sem,f4,f5])
 refine bC.lex [] [] (by kernel_rfl) (by kernel_rfl) ?_
 (repeat' with_reducible first|intro _|refine rz ?_|refine ra ?_ ?_|omega|simp only [go_sem,e1,e2,hD])
 (refine QV.intro (.str S) ?_ ?_;focus ((repeat' with_reducible first|intro _|exact dn|refine rn ?_|refine ra ?_ ?_);refine ah.k (ks) ?_;(repeat' with_reducible first|intro _|exact dn|refine rn ?_|refine ra ?_ ?_)))
 by_cases h6:S=D
 rotate_left
 ·have f6:(S=D)=False:=eq_false h6
  rw [if_pos h6] at hL
  rw [hL]
  (repeat' with_reducible first|intro _|refine rz ?_|refine ra ?_ ?_|omega|simp only [go_sem,e1,e2,hD,f6])
  refine bf.auto 1 ?_ rfl ?_<;>simp only [go_sem,Int.natCast_succ,Post]
 have f6:(S=D)=True:=eq_true h6
 rw [if_neg (fun h=>h h6)] at hL
 (repeat' with_reducible first|intro _|refine rz ?_|refine ra ?_ ?_|omega|simp only [go_sem,e1,e2,hD,f6])
 have hel:=fZ l 0
 rw [hel]
 have hnl:(l.map Prod.fst).length=l.length:=List.length_map _
 refine aI.intro (fun j:Nat=>⟨104,[(77,.int .i64 j),(76,.int .i64 l.length),(75,.own 0),(13,.own 1),(12,.int .i64 a),(8,.own 0)],[(0,.row 75 (YH (BD l a j))),(1,.map (((l.map Prod.fst).take j).map .str) (((l.map Prod.fst).take j).map fun _=>.bool true))],2⟩) (fun j=>j≤l.length∧Dk (l.map Prod.fst) j=0) (fun j=>l.length - j) 0 ?_ ⟨Nat.zero_le _,rfl⟩ fun j hj=>?_
 ·refine aO.ak rfl ?_ ?_<;>simp only [go_sem,Int.natCast_succ]
  all_goals first|rfl|exact ⟨rfl,rfl⟩|trace_state
 obtain ⟨hj1,hj2⟩:=hj
 have hml:=TL l a hj1
 by_cases hlt:j<l.length
 ·have f7:((j:Int)<(l.length:Int))=True:=eq_true (by omega)
  have hst:Dk (l.map Prod.fst) (j+1)=if Dk (l.map Prod.fst) j≠0 then Dk (l.map Prod.fst) j else if fQ ((l.map Prod.fst).getD j [])=true then (if (l.map Prod.fst).getD j []∈(l.map Prod.fst).take j then 6 else 0) else 5:=rfl
  have hle:=@Yc (l.map Prod.fst) (j+1) l.length
  have hat:=Wq l a hlt
  have hset:=TM l a hlt
  have hnm:=VP l 0 j
  have hee:=Oi (BD l a j) (i:=j) (by omega)
  rw [hat] at hee
  have hxm:=hin ((fV l 0).getD j En.zero) (by rw [List.getD_eq_getElem?_getD,List.getElem?_eq_getElem (by omega)];exact List.getElem_mem _)
  have htk:(l.map Prod.fst).take (j+1)=(l.map Prod.fst).take j++[(l.map Prod.fst).getD j []]:=by
   have hjl:j<(l.map Prod.fst).length:=by omega
   rw [List.take_succ_eq_append_getElem hjl,getD_lt hjl]
  rw [hj2,if_neg (by simp),←hnm] at hst
  rw [←hnm] at htk
  generalize (fV l 0).getD j En.zero=x at *
  obtain ⟨xn,xa,xk⟩:=x
  dsimp only at hst hee hxm htk hset
  have kn:=sK xn
  (repeat' with_reducible first|intro _|refine rz ?_|refine ra ?_ ?_|omega|simp only [go_sem,f7,hee,hml,dY])
  refine ah.k kn ?_
  cases hn:fQ xn with
  | false=>
   rw [hn,if_neg (by decide)] at hst
   have h0:=hle (by rw [hst];decide) (by omega)
   rw [h0,hst,if_pos (by decide)] at hL
   rw [hL]
   (repeat' with_reducible first|intro _|exact dn|refine rn ?_|refine ra ?_ ?_)
   refine bf.auto 1 ?_ rfl ?_<;>simp only [go_sem,Int.natCast_succ,Post]
  | true=>
   rw [hn,if_pos rfl] at hst
   by_cases hd:xn∈(l.map Prod.fst).take j
   ·rw [if_pos hd] at hst
    have h0:=hle (by rw [hst];decide) (by omega)
    rw [h0,hst,if_pos (by decide)] at hL
    rw [hL]
    have g:=sJ ((l.map Prod.fst).take j) xn
    rw [decide_eq_true hd] at g
    (repeat' with_reducible first|intro _|refine rz ?_|refine ra ?_ ?_|omega|simp only [go_sem,g])
    refine bf.auto 1 ?_ rfl ?_<;>simp only [go_sem,Int.natCast_succ,Post]
   ·rw [if_neg hd] at hst
    have g:=sJ ((l.map Prod.fst).take j) xn
    rw [decide_eq_false hd] at g
    have hins:DC ((l.map Prod.fst).take j) xn=(l.map Prod.fst).take (j+1):=by unfold DC;rw [if_neg hd,htk]
    (repeat' with_reducible first|intro _|refine rz ?_|refine ra ?_ ?_|omega|simp only [go_sem,g,hml,hee])
    refine ⟨j+1,aO.ak rfl ?_ ?_,⟨by omega,hst⟩,by omega⟩<;>simp only [go_sem,Int.natCast_succ,hins]
    rw [←hset,List.map_set];rfl
 ·have e:j=l.length:=by omega
  subst e
  have f7:((l.length:Int)<(l.length:Int))=False:=eq_false (by omega)
  have hmx:BD l a l.length=fV l a:=by
   unfold BD
   rw [List.take_of_length_le (by rw [fZ];exact Nat.le_refl _),List.drop_of_length_le (by rw [fZ];exact Nat.le_refl _),List.append_nil]
  rw [if_neg (by rw [hj2];simp)] at hL
  rw [hL,hmx]
  (repeat' with_reducible first|intro _|refine rz ?_|refine ra ?_ ?_|omega|simp only [go_sem,f7])
  refine bf.auto 1 ?_ rfl ?_<;>simp only [go_sem,Int.natCast_succ,Post]
theorem Wn (s:Bytes) (hs:s.length≤140737488351232):dG Tryz.prog 39 [.str s] (.tup [.ro (YH (eU s).1),.int .i64 (eU s).2]) []:=
 dG.GZ (dG.gJ (Wp s hs) rfl (by simp [jB,jy,pX,jA,oK,YH,En.av])) (by simp [fK,aU,bD,dO,aH,lk,aT])
end Go.Fv.H
/- The reference's NameOf. -/
namespace Go.Fv.H
open Go Go.Proofs
end Go.Fv.H
/- The reference's ListOf: the walk. -/
namespace Go.Fv.H
open Go Go.Proofs
end Go.Fv.H
