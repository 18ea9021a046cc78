/-
  A part of the proof of the claim: walks over the program's functions and the plain laws that these need. No condition of its own.
-/
import Derived.Test.YtodlgmmbfbiilaaGreatDoorHArcGCardPart1
import Derived.Test.YtodlgmmbfbiilaaGreatDoorFvPart10
import Derived.Shelf.Strings.Repeat
import Derived.Test.YtodlgmmbfbiilaaGreatDoorHArcGCardPart2
import Derived.Test.YtodlgmmbfbiilaaGreatDoorHArcGCardPart7
import Derived.Test.YtodlgmmbfbiilaaGreatDoorHArcGCardPart8
import Derived.Test.YtodlgmmbfbiilaaGreatDoorHArcGCardPart6
import Derived.Lib.MakeNoZero
set_option linter.unusedSimpArgs false
set_option linter.unusedVariables false
set_option linter.unnecessarySimpa false
set_option maxRecDepth 8000
/- strings.Repeat of a zero byte, by the contract of the shelf. -/
namespace Go.Proofs
open Go.Shelf
def Tryz.lays105_ren:Go.Shelf.Ren:=⟨fun|105=>92|212=>121|99=>122|165=>84|166=>60|170=>123|169=>57|263=>167|264=>168|206=>169|240=>96|241=>118|276=>135|277=>162|n=>n,fun|9=>9|3=>3|4=>4|20=>20|0=>0|46=>140|109=>153|5=>5|72=>89|76=>97|51=>172|146=>194|53=>103|148=>196|70=>87|37=>27|75=>91|127=>133|164=>168|80=>94|n=>n,fun|n=>n⟩
theorem Tryz.lays105:Go.Proofs.Lays.n105 Tryz.prog Tryz.lays105_ren:={
 mixed:=by kernel_rfl
 f99:=Tryz.func122.trans (congrArg some (by kernel_rfl))
 f105:=Tryz.func92.trans (congrArg some (by kernel_rfl))
 f165:=Tryz.func84.trans (congrArg some (by kernel_rfl))
 f166:=Tryz.func60.trans (congrArg some (by kernel_rfl))
 f169:=Tryz.func57.trans (congrArg some (by kernel_rfl))
 f170:=Tryz.func123.trans (congrArg some (by kernel_rfl))
 f206:=Tryz.func169.trans (congrArg some (by kernel_rfl))
 f212:=Tryz.func121.trans (congrArg some (by kernel_rfl))
 f240:=Tryz.func96.trans (congrArg some (by kernel_rfl))
 f241:=Tryz.func118.trans (congrArg some (by kernel_rfl))
 f263:=Tryz.func167.trans (congrArg some (by kernel_rfl))
 f264:=Tryz.func168.trans (congrArg some (by kernel_rfl))
 f276:=Tryz.func135.trans (congrArg some (by kernel_rfl))
 f277:=Tryz.func162.trans (congrArg some (by kernel_rfl))
 t0:=Tryz.underlying0
 a0:=Tryz.isAgg0
 z0:=Tryz.sizeOf0
 v0:=Tryz.zeroValue0
 t3:=Tryz.underlying3
 a3:=Tryz.isAgg3
 z3:=Tryz.sizeOf3
 v3:=Tryz.zeroValue3
 t4:=Tryz.underlying4
 a4:=Tryz.isAgg4
 z4:=Tryz.sizeOf4
 v4:=Tryz.zeroValue4
 t5:=Tryz.underlying5
 a5:=Tryz.isAgg5
 z5:=Tryz.sizeOf5
 v5:=Tryz.zeroValue5
 t9:=Tryz.underlying9
 a9:=Tryz.isAgg9
 z9:=Tryz.sizeOf9
 v9:=Tryz.zeroValue9
 t20:=Tryz.underlying20
 a20:=Tryz.isAgg20
 z20:=Tryz.sizeOf20
 v20:=Tryz.zeroValue20
 t37:=Tryz.underlying27
 a37:=Tryz.isAgg27
 z37:=Tryz.sizeOf27
 v37:=Tryz.zeroValue27
 t46:=Tryz.underlying140
 a46:=Tryz.isAgg140
 z46:=Tryz.sizeOf140
 v46:=Tryz.zeroValue140
 t51:=Tryz.underlying172
 a51:=Tryz.isAgg172
 z51:=Tryz.sizeOf172
 v51:=Tryz.zeroValue172
 t53:=Tryz.underlying103
 a53:=Tryz.isAgg103
 z53:=Tryz.sizeOf103
 v53:=Tryz.zeroValue103
 t70:=Tryz.underlying87
 a70:=Tryz.isAgg87
 z70:=Tryz.sizeOf87
 v70:=Tryz.zeroValue87
 t72:=Tryz.underlying89
 a72:=Tryz.isAgg89
 z72:=Tryz.sizeOf89
 v72:=Tryz.zeroValue89
 t75:=Tryz.underlying91
 a75:=Tryz.isAgg91
 z75:=Tryz.sizeOf91
 v75:=Tryz.zeroValue91
 t76:=Tryz.underlying97
 a76:=Tryz.isAgg97
 z76:=Tryz.sizeOf97
 v76:=Tryz.zeroValue97
 t109:=Tryz.underlying153
 a109:=Tryz.isAgg153
 z109:=Tryz.sizeOf153
 v109:=Tryz.zeroValue153
 t127:=Tryz.underlying133
 a127:=Tryz.isAgg133
 z127:=Tryz.sizeOf133
 v127:=Tryz.zeroValue133
 t146:=Tryz.underlying194
 a146:=Tryz.isAgg194
 z146:=Tryz.sizeOf194
 v146:=Tryz.zeroValue194
 t148:=Tryz.underlying196
 a148:=Tryz.isAgg196
 z148:=Tryz.sizeOf196
 v148:=Tryz.zeroValue196
 t164:=Tryz.underlying168
 a164:=Tryz.isAgg168
 z164:=Tryz.sizeOf168
 v164:=Tryz.zeroValue168 }
theorem Tryz.yG:Builder.Extra Tryz.prog Tryz.lays105_ren:={
 sizeBuilder:=by kernel_rfl
 liesBuilder:=by kernel_rfl
 t5:=Tryz.underlying5
 a5:=Tryz.isAgg5
 z5:=Tryz.sizeOf5
 v5:=Tryz.zeroValue5
 infoByte:=by kernel_rfl
 cellsByte:=by kernel_rfl
 sizeByte:=by kernel_rfl
 neB5:=by decide }
end Go.Proofs
namespace Go.Fv.H
open Go Go.Proofs
theorem repeatL_one (c:UInt8):∀ n,Lib.repeatL [c] n=List.replicate n c
 | 0=>rfl
 | n+1=>by rw [Lib.repeatL,repeatL_one c n];rfl
theorem Kq (n:Nat) (hn:n≤1048576):aC Tryz.prog 92 [.str [0],.int .i64 n] (.str (List.replicate n 0)) []:=by
 refine ⟨⟨_,Tryz.func92,by kernel_rfl,by kernel_rfl⟩,fun w T vals hg hv=>?_⟩
 cases hv with
 | cons _ _ _ _ h1 hv=>cases hv with
  | cons _ _ _ _ h2 hv=>
   cases hv
   cases h1 with
   | str _ e1=>cases h2 with
    | int _ _ e2=>
     refine (Any.strings_Repeat Tryz.lays105 Tryz.yG ⟨[(0:UInt8)].toArray⟩ n w (by omega) ?_).mono ?_
     ·show [(0:UInt8)].toArray.size*n≤140737488355328
      simp;omega
     ·rintro e w' ⟨rfl,hb0⟩
      have hb:iY w.heap.size w w':=⟨hb0.os,hb0.tape,hb0.output,hb0.size,trivial,hb0.block⟩
      refine ⟨_,rfl,hb,fun _=>undef,0,?_,?_,?_⟩
      ·rw [show (⟨[(0:UInt8)].toArray⟩:ByteArray).data.toList=[(0:UInt8)] from rfl,repeatL_one]
       exact .str _ (by simp [maxLen];omega)
      ·intro i it h;cases h
      ·intro i j it jt b h;cases h
end Go.Fv.H
/- The closures of shrink.List and of the reference's. -/
namespace Go.Fv.H
open Go Go.Proofs
theorem slc {s:Bytes} {a n:Nat}:(s.drop a).take (a+n - a)=(s.drop a).take n:=by rw [Nat.add_sub_cancel_left]
theorem RI (s:Bytes) (a:Nat) (sh:Bool) (n:Nat) (hs:s.length≤300000000000000) (ha:a≤s.length) (hn:n≤4294967296) :
  gU Tryz.prog 90 [.int .i64 n,.ptr 0 0,.ptr 1 0,.ptr 2 0] [(0,.box 4 [.bool sh]),(1,.box 9 [.str s]),(2,.box 3 [.int .i64 a])] 3 (.str (tk s a sh n).t) [(0,.box 4 [.bool (tk s a sh n).sh]),(1,.box 9 [.str s]),(2,.box 3 [.int .i64 (tk s a sh n).a])]:=by
 refine gU.aJ Tryz.func90 rfl (by decide) (by simp [Tryz.f90]) Xl [.tmp 5] rfl fun w0 T0 _=>?_
 simp only [Tryz.f90,aB]
 cases sh with
 | true=>
  rw [IX]
  (repeat' with_reducible first|intro _|exact dn|refine rn ?_|refine ra ?_ ?_)
  refine kU.auto 3 (Nat.le_refl 3) ?_ rfl ?_<;>simp only [go_sem,Int.natCast_succ,jY]
 | false=>
  by_cases h:s.length<a+n
  ·have e:tk s a false n=⟨[],a,true⟩:=by unfold tk;rw [if_pos (.inr h)]
   have f1:((s.length:Int) - (a:Int)<(n:Int))=True:=eq_true (by omega)
   rw [e]
   (repeat' with_reducible first|intro _|refine rz ?_|refine ra ?_ ?_|omega|simp only [go_sem,f1])
   refine kU.auto 3 (Nat.le_refl 3) ?_ rfl ?_<;>simp only [go_sem,Int.natCast_succ,jY]
  ·have e:tk s a false n=⟨(s.drop a).take n,a+n,false⟩:=by unfold tk;rw [if_neg (by simp;omega)]
   have f1:((s.length:Int) - (a:Int)<(n:Int))=False:=eq_false (by omega)
   have e2:(a:Int)+(n:Int)=((a+n:Nat):Int):=by omega
   have e3:((a+n:Nat):Int) - (n:Int)=(a:Int):=by omega
   rw [e]
   (repeat' with_reducible first|intro _|refine rz ?_|refine ra ?_ ?_|omega|simp only [go_sem,f1,e2,e3,slc])
   refine kU.auto 3 (Nat.le_refl 3) ?_ rfl ?_<;>simp only [go_sem,Int.natCast_succ,jY]
def gI (s:Bytes) (a:Nat) (sh:Bool) (n:Nat):Tk:=
 if s.length<a+n then ⟨List.replicate n 0,a,true⟩ else ⟨(s.drop a).take n,a+n,sh⟩
theorem FC (s:Bytes) (a:Nat) (sh:Bool) (n:Nat):(gI s a sh n).t.length≤n:=by
 unfold gI;split
 ·exact Nat.le_of_eq List.length_replicate
 ·rw [List.length_take];exact Nat.min_le_left _ _
theorem RG {s:Bytes} {a:Nat} (sh:Bool) (n:Nat) (h:a≤s.length):(gI s a sh n).a≤s.length:=by
 unfold gI;split
 ·exact h
 ·dsimp only;omega
theorem KC (s:Bytes) (a n:Nat):(gI s a true n).sh=true:=by unfold gI;split<;>rfl
theorem KA (s:Bytes) (a n:Nat):(gI s a false n).sh=(tk s a false n).sh∧((gI s a false n).sh=false→gI s a false n=tk s a false n):=by
 unfold gI tk
 by_cases h:s.length<a+n
 ·rw [if_pos h,if_pos (.inr h)];exact ⟨rfl,fun h=>by cases h⟩
 ·rw [if_neg h,if_neg (by simp;omega)];exact ⟨rfl,fun _=>rfl⟩
def Px (s:Bytes) (a:Nat):Wh:=
 let x:=gI s a false 1
 let y:=gI s x.a x.sh (bY x.t)
 let z:=gI s y.a y.sh 4
 ⟨y.t,bY z.t,z.a,z.sh⟩
theorem Ti (s:Bytes) (a:Nat):(Px s a).sh=(xQ s a false).sh∧((Px s a).sh=false→Px s a=xQ s a false):=by
 have h1:=KA s a 1
 unfold Px xQ
 dsimp only
 generalize gI s a false 1=X at *
 generalize tk s a false 1=X' at *
 obtain ⟨xt,xa,xs⟩:=X
 cases xs with
 | true=>
  dsimp only at h1 ⊢
  rw [←h1.1]
  have e1:=KC s xa (bY xt)
  generalize gI s xa true (bY xt)=Y at *
  obtain ⟨yt,ya,ys⟩:=Y
  dsimp only at e1
  subst e1
  dsimp only
  rw [KC,IX]
  dsimp only
  rw [IX]
  exact ⟨rfl,fun h=>by cases h⟩
 | false=>
  have h2:=h1.2 rfl
  rw [←h2]
  dsimp only
  have h3:=KA s xa (bY xt)
  generalize gI s xa false (bY xt)=Y at *
  generalize tk s xa false (bY xt)=Y' at *
  obtain ⟨yt,ya,ys⟩:=Y
  cases ys with
  | true=>
   dsimp only at h3 ⊢
   rw [KC,←h3.1,IX]
   exact ⟨rfl,fun h=>by cases h⟩
  | false=>
   have h4:=h3.2 rfl
   rw [←h4]
   dsimp only
   have h5:=KA s ya 4
   refine ⟨h5.1,fun h=>?_⟩
   rw [h5.2 h]
set_option maxHeartbeats 1000000 in
theorem Bg (s:Bytes) (a:Nat) (sh:Bool) (n:Nat) (hs:s.length≤300000000000000) (ha:a≤s.length) (hn:n≤1000) :
  gU Tryz.prog 91 [.int .i64 n,.ptr 0 0,.ptr 1 0,.ptr 2 0] [(0,.box 9 [.str s]),(1,.box 3 [.int .i64 a]),(2,.box 4 [.bool sh])] 3 (.str (gI s a sh n).t) [(0,.box 9 [.str s]),(1,.box 3 [.int .i64 (gI s a sh n).a]),(2,.box 4 [.bool (gI s a sh n).sh])]:=by
 have kr:=Kq n (by omega)
 refine gU.aJ Tryz.func91 rfl (by decide) (by simp [Tryz.f91]) Xl [.tmp 5] rfl fun w0 T0 _=>?_
 simp only [Tryz.f91,aB]
 by_cases h:s.length<a+n
 ·have e:gI s a sh n=⟨List.replicate n 0,a,true⟩:=by unfold gI;rw [if_pos h]
  have f1:((s.length:Int) - (a:Int)<(n:Int))=True:=eq_true (by omega)
  rw [e]
  (repeat' with_reducible first|intro _|refine rz ?_|refine ra ?_ ?_|omega|simp only [go_sem,f1])
  refine ah.k kr ?_
  (repeat' with_reducible first|intro _|exact dn|refine rn ?_|refine ra ?_ ?_)
  refine kU.auto 3 (Nat.le_refl 3) ?_ rfl ?_<;>simp only [go_sem,Int.natCast_succ,jY]
 ·have e:gI s a sh n=⟨(s.drop a).take n,a+n,sh⟩:=by unfold gI;rw [if_neg h]
  have f1:((s.length:Int) - (a:Int)<(n:Int))=False:=eq_false (by omega)
  have e2:(a:Int)+(n:Int)=((a+n:Nat):Int):=by omega
  have e3:((a+n:Nat):Int) - (n:Int)=(a:Int):=by omega
  rw [e]
  (repeat' with_reducible first|intro _|refine rz ?_|refine ra ?_ ?_|omega|simp only [go_sem,f1,e2,e3,slc])
  refine kU.auto 3 (Nat.le_refl 3) ?_ rfl ?_<;>simp only [go_sem,Int.natCast_succ,jY]
end Go.Fv.H
/- shrink.List: the walk. -/
namespace Go.Fv.H
open Go Go.Proofs
def Ar (l:List (Bytes × Nat)) (a j:Nat):List En:=(dV l a).take j++(dV l 0).drop j
theorem Qj (l:List (Bytes × Nat)) (a:Nat) {j:Nat} (h:j≤l.length):(Ar l a j).length=l.length:=by
 unfold Ar
 rw [List.length_append,List.length_take,List.length_drop,dN,dN];omega
theorem TN (l:List (Bytes × Nat)) (a:Nat) {j:Nat} (h:j<l.length):(Ar l a j).getD j En.zero=(dV l 0).getD j En.zero:=by
 unfold Ar
 have h1:=dN l a
 rw [List.getD_eq_getElem?_getD,List.getD_eq_getElem?_getD,List.getElem?_append_right (by rw [List.length_take];omega),List.length_take,List.getElem?_drop,h1]
 congr 2;omega
theorem Qk (l:List (Bytes × Nat)) (a:Nat) {j:Nat} (h:j<l.length):(Ar l a j).set j ⟨((dV l 0).getD j En.zero).n,((dV l 0).getD j En.zero).a+a,((dV l 0).getD j En.zero).k⟩=Ar l a (j+1):=by
 have h1:=dN l a
 have h2:=dN l 0
 have e:=LD a l 0 j h
 rw [Nat.zero_add] at e
 rw [←e]
 have hj:j<(dV l a).length:=by omega
 have e2:(dV l a).getD j En.zero=(dV l a)[j]:=by simp [List.getD_eq_getElem?_getD,hj]
 rw [e2]
 unfold Ar
 rw [List.set_append_right _ _ (by rw [List.length_take];omega),List.length_take,Nat.min_eq_left (by omega),Nat.sub_self,List.drop_eq_getElem_cons (show j<(dV l 0).length by omega),List.set_cons_zero,List.take_succ_eq_append_getElem hj,List.append_assoc]
 rfl
theorem LG (l:List (Bytes × Nat)) (a j:Nat):((dV l a).getD j En.zero).n=(l.map Prod.fst).getD j []:=by
 rw [←qV l a,List.getD_eq_getElem?_getD,List.getD_eq_getElem?_getD,List.getElem?_map]
 cases (dV l a)[j]?<;>rfl
set_option maxHeartbeats 4000000 in
theorem TL (s:Bytes) (hs:s.length≤140737488351232):aC Tryz.prog 39 [.str s] (.tup [.own 0,.int .i64 (bF s).2]) [(0,.row 75 (Jd (bF s).1))]:=by
 refine aC.aJ Tryz.func39 rfl (by decide) (by simp [Tryz.f39]) [.tmp 2,.tmp 3] rfl fun w0 T0 _=>?_
 simp only [Tryz.f39,aB]
 by_cases h1:4194304<s.length
 ·have f1:((4194304:Int)<(s.length:Int))=True:=eq_true (by omega)
  have e:bF s=([],4):=by unfold bF;rw [if_pos h1]
  rw [e]
  (repeat' with_reducible first|intro _|refine rz ?_|refine ra ?_ ?_|omega|simp only [go_sem,f1])
  refine bg.auto 1 ?_ rfl ?_<;>simp only [go_sem,Int.natCast_succ,Post]
 have f1:((4194304:Int)<(s.length:Int))=False:=eq_false (by omega)
 by_cases h2:s.length<6
 ·have f2:((s.length:Int)<6)=True:=eq_true (by omega)
  have e:bF s=([],8):=by unfold bF;rw [if_neg h1,if_pos (.inl h2)]
  rw [e]
  (repeat' with_reducible first|intro _|refine rz ?_|refine ra ?_ ?_|omega|simp only [go_sem,f1,f2])
  refine bg.auto 1 ?_ rfl ?_<;>simp only [go_sem,Int.natCast_succ,Post]
 have f2:((s.length:Int)<6)=False:=eq_false (by omega)
 by_cases h3:s.take 4=qp
 rotate_left
 ·have e:bF s=([],8):=by unfold bF;rw [if_neg h1,if_pos (.inr h3)]
  have f3:(s.take 4=[70,66,65,49])=False:=eq_false h3
  rw [e]
  (repeat' with_reducible first|intro _|refine rz ?_|refine ra ?_ ?_|omega|simp only [go_sem,f1,f2,f3])
  refine bg.auto 1 ?_ rfl ?_<;>simp only [go_sem,Int.natCast_succ,Post]
 have f3:(s.take 4=[70,66,65,49])=True:=eq_true h3
 have kb:=zG ((s.drop 4).take 2) (by rw [List.length_take];omega)
 have hm:=Vw (s:=(s.drop 4).take 2) (List.length_take_le _ _)
 obtain ⟨M,hM⟩:∃ M,bY ((s.drop 4).take 2)=M:=⟨_,rfl⟩
 rw [hM] at kb hm
 have hsl:(s.drop 4).take (6 - 4)=(s.drop 4).take 2:=rfl
 (repeat' with_reducible first|intro _|refine rz ?_|refine ra ?_ ?_|omega|simp only [go_sem,f1,f2,f3])
 refine ah.k kb ?_
 (repeat' with_reducible first|intro _|exact dn|refine rn ?_|refine ra ?_ ?_)
 have hls:=fun i=>MH (s:=s) (by omega) i
 have hN:UF s=M:=hM
 refine aH.intro (fun i:Nat=>⟨104,[(34,.int .i64 i),(33,.int .i64 M),(9,.int .i64 (dG (ls s i).l)),(8,.own 3),(7,.fn 90 [.ptr 2 0,.ptr 0 0,.ptr 1 0]),(6,.ptr 2 0),(4,.ptr 1 0),(1,.ptr 0 0)],[(0,.box 9 [.str s]),(1,.box 3 [.int .i64 (ls s i).a]),(2,.box 4 [.bool false]),(3,.row 75 (Jd (dV (ls s i).l 0)))],4⟩) (fun i=>i≤M∧(ls s i).sh=false) (fun i=>M - i) 0 ?_ ⟨Nat.zero_le _,rfl⟩ fun i hi=>?_
 ·refine aK.ak rfl ?_ ?_<;>simp only [go_sem,Int.natCast_succ]
  all_goals first|rfl|exact ⟨rfl,rfl⟩|trace_state
 obtain ⟨hiM,hish⟩:=hi
 have ho:=hls i
 by_cases hlt:i<M
 ·have f4:((i:Int)<(M:Int))=True:=eq_true (by omega)
  have ho2:=Py (ls s i).sh ho.a1
  have hst:ls s (i+1)=⟨(ls s i).l++[((xQ s (ls s i).a (ls s i).sh).n,(xQ s (ls s i).a (ls s i).sh).k)],(xQ s (ls s i).a (ls s i).sh).a,(xQ s (ls s i).a (ls s i).sh).sh⟩:=rfl
  have hsn:=Df ((xQ s (ls s i).a (ls s i).sh).n,(xQ s (ls s i).a (ls s i).sh).k) (ls s i).l 0
  have hsk:=xA (ls s i).l ((xQ s (ls s i).a (ls s i).sh).n,(xQ s (ls s i).a (ls s i).sh).k)
  have hel:=dN (ls s i).l 0
  have hlen:=ho.len
  have hk:=ho.k
  rw [hish] at hst hsn hsk ho2
  have hsM:=@Qe s (i+1)
  rw [hst] at hsM
  have ha1:=ho.a1
  have hk2:=ho2.k
  generalize hq:ls s i=q at *
  obtain ⟨ql,qa,qs⟩:=q
  dsimp only at *
  have kt1:gU Tryz.prog 90 [.int .i64 1,.ptr 0 0,.ptr 1 0,.ptr 2 0] [(0,.box 4 [.bool false]),(1,.box 9 [.str s]),(2,.box 3 [.int .i64 qa])] 3 (.str (tk s qa false 1).t) [(0,.box 4 [.bool (tk s qa false 1).sh]),(1,.box 9 [.str s]),(2,.box 3 [.int .i64 (tk s qa false 1).a])]:=RI s qa false 1 (by omega) ha1 (by omega)
  have b1:=RH (s:=s) false 1 ha1
  have l1:=Bh s qa false 1
  have n1:=num1 l1
  have kb1:=zG (tk s qa false 1).t (by omega)
  have hx:xQ s qa false=⟨(tk s (tk s qa false 1).a (tk s qa false 1).sh (bY (tk s qa false 1).t)).t,bY (tk s (tk s (tk s qa false 1).a (tk s qa false 1).sh (bY (tk s qa false 1).t)).a (tk s (tk s qa false 1).a (tk s qa false 1).sh (bY (tk s qa false 1).t)).sh 4).t,(tk s (tk s (tk s qa false 1).a (tk s qa false 1).sh (bY (tk s qa false 1).t)).a (tk s (tk s qa false 1).a (tk s qa false 1).sh (bY (tk s qa false 1).t)).sh 4).a,(tk s (tk s (tk s qa false 1).a (tk s qa false 1).sh (bY (tk s qa false 1).t)).a (tk s (tk s qa false 1).a (tk s qa false 1).sh (bY (tk s qa false 1).t)).sh 4).sh⟩:=rfl
  rw [hx] at hst hsn hsk hsM hk2
  generalize tk s qa false 1=X at *
  have kt2:=RI s X.a X.sh (bY X.t) (by omega) b1.2 (by omega)
  have b2:=RH (s:=s) X.sh (bY X.t) b1.2
  generalize tk s X.a X.sh (bY X.t)=Y at *
  have kt3:gU Tryz.prog 90 [.int .i64 4,.ptr 0 0,.ptr 1 0,.ptr 2 0] [(0,.box 4 [.bool Y.sh]),(1,.box 9 [.str s]),(2,.box 3 [.int .i64 Y.a])] 3 (.str (tk s Y.a Y.sh 4).t) [(0,.box 4 [.bool (tk s Y.a Y.sh 4).sh]),(1,.box 9 [.str s]),(2,.box 3 [.int .i64 (tk s Y.a Y.sh 4).a])]:=RI s Y.a Y.sh 4 (by omega) b2.2 (by omega)
  have l3:=Bh s Y.a Y.sh 4
  have kb3:=zG (tk s Y.a Y.sh 4).t l3
  generalize tk s Y.a Y.sh 4=Z at *
  dsimp only at hst hsn hsk hsM hk2
  rw [Nat.zero_add] at hsn
  (repeat' with_reducible first|intro _|refine rz ?_|refine ra ?_ ?_|omega|simp only [go_sem,f4])
  refine ah.i [2,0,1] kt1 3 ?_
  (repeat' with_reducible first|intro _|exact dn|refine rn ?_|refine ra ?_ ?_)
  refine ah.k kb1 ?_
  (repeat' with_reducible first|intro _|exact dn|refine rn ?_|refine ra ?_ ?_)
  refine ah.i [2,0,1] kt2 3 ?_
  (repeat' with_reducible first|intro _|exact dn|refine rn ?_|refine ra ?_ ?_)
  refine ah.i [2,0,1] kt3 3 ?_
  (repeat' with_reducible first|intro _|exact dn|refine rn ?_|refine ra ?_ ?_)
  refine ah.k kb3 ?_
  cases hz:Z.sh with
  | true=>
   have e:bF s=([],8):=by
    have h:=hsM hz (M - (i+1))
    rw [show i+1+(M - (i+1))=M by omega] at h
    have:(qo s).sh=true:=by unfold qo;rw [hN];exact h
    unfold bF
    rw [if_neg h1,if_neg (by rw [h3];simp;omega),if_pos this]
   rw [e]
   (repeat' with_reducible first|intro _|exact dn|refine rn ?_|refine ra ?_ ?_)
   refine bg.auto 1 ?_ rfl ?_<;>simp only [go_sem,Int.natCast_succ,Post]
  | false=>
   (repeat' with_reducible first|intro _|exact dn|refine rn ?_|refine ra ?_ ?_)
   refine ⟨i+1,aK.ak rfl ?_ ?_,⟨by omega,by rw [hst];exact hz⟩,by omega⟩<;>simp only [go_sem,Int.natCast_succ,hst,hsn,hsk]
   all_goals first|rfl|(rw [List.map_append];rfl)
 have e:i=M:=by omega
 subst e
 have hO:qo s=ls s i:=by unfold qo;rw [hN]
 obtain ⟨hlen,hk,ha0,ha1⟩:=ho
 have hin:=fun x hx=>(EF (ls s i).l 0 x hx).2
 have hL:bF s=if (ls s i).a+dG (ls s i).l+8≠s.length then ([],8) else if jc (s.take (ls s i).a)≠s.drop ((ls s i).a+dG (ls s i).l) then ([],14) else if rX ((ls s i).l.map Prod.fst) (ls s i).l.length≠0 then ([],rX ((ls s i).l.map Prod.fst) (ls s i).l.length) else (dV (ls s i).l (ls s i).a,0):=by
  unfold bF
  rw [if_neg h1,if_neg (by rw [h3];simp;omega),hO,if_neg (by rw [hish];decide)]
 clear hls hO hN hM hish
 generalize ls s i=q at *
 obtain ⟨l,a,sh⟩:=q
 dsimp only at hlen hk ha0 ha1 hL hin
 have f4:((i:Int)<(i:Int))=False:=eq_false (by omega)
 by_cases h5:a+dG l+8=s.length
 rotate_left
 ·have f5:((a:Int)+(dG l:Int)+8=(s.length:Int))=False:=eq_false (by omega)
  rw [if_pos h5] at hL
  rw [hL]
  (repeat' with_reducible first|intro _|refine rz ?_|refine ra ?_ ?_|omega|simp only [go_sem,f4,f5])
  refine bg.auto 1 ?_ rfl ?_<;>simp only [go_sem,Int.natCast_succ,Post]
 have f5:((a:Int)+(dG l:Int)+8=(s.length:Int))=True:=eq_true (by omega)
 rw [if_neg (fun h=>h h5)] at hL
 have ks:aC Tryz.prog 26 [.str (s.take (a - 0))] (.str (jc (s.take a))) []:=Bf (s.take a) (by rw [List.length_take];omega)
 have e1:(a:Int)+(dG l:Int)=((a+dG l:Nat):Int):=by omega
 have e2:(s.drop (a+dG l)).take (s.length - (a+dG l))=s.drop (a+dG l):=List.take_of_length_le (by rw [List.length_drop];exact Nat.le_refl _)
 generalize hS:jc (s.take a)=S at *
 obtain ⟨D,hD⟩:∃ D,s.drop (a+dG l)=D:=⟨_,rfl⟩
 rw [hD] at hL e2
 (repeat' with_reducible first|intro _|refine rz ?_|refine ra ?_ ?_|omega|simp only [go_sem,f4,f5])
 refine bC.lex [] [] (by kernel_rfl) (by kernel_rfl) ?_
 (repeat' with_reducible first|intro _|refine rz ?_|refine ra ?_ ?_|omega|simp only [go_sem,e1,e2,hD])
 (refine QV.intro (.str S) ?_ ?_;focus ((repeat' with_reducible first|intro _|exact dn|refine rn ?_|refine ra ?_ ?_);refine ah.k (ks) ?_;(repeat' with_reducible first|intro _|exact dn|refine rn ?_|refine ra ?_ ?_)))
 by_cases h6:S=D
 rotate_left
 ·have f6:(S=D)=False:=eq_false h6
  rw [if_pos h6] at hL
  rw [hL]
  (repeat' with_reducible first|intro _|refine rz ?_|refine ra ?_ ?_|omega|simp only [go_sem,e1,e2,hD,f6])
  refine bg.auto 1 ?_ rfl ?_<;>simp only [go_sem,Int.natCast_succ,Post]
 have f6:(S=D)=True:=eq_true h6
 rw [if_neg (fun h=>h h6)] at hL
 (repeat' with_reducible first|intro _|refine rz ?_|refine ra ?_ ?_|omega|simp only [go_sem,e1,e2,hD,f6])
 have hel:=dN l 0
 rw [hel]
 have hnl:(l.map Prod.fst).length=l.length:=List.length_map _
 refine aH.intro (fun j:Nat=>⟨104,[(77,.int .i64 j),(76,.int .i64 l.length),(75,.own 0),(13,.own 1),(12,.int .i64 a),(8,.own 0)],[(0,.row 75 (Jd (Ar l a j))),(1,.map (((l.map Prod.fst).take j).map .str) (((l.map Prod.fst).take j).map fun _=>.bool true))],2⟩) (fun j=>j≤l.length∧rX (l.map Prod.fst) j=0) (fun j=>l.length - j) 0 ?_ ⟨Nat.zero_le _,rfl⟩ fun j hj=>?_
 ·refine aK.ak rfl ?_ ?_<;>simp only [go_sem,Int.natCast_succ]
  all_goals first|rfl|exact ⟨rfl,rfl⟩|trace_state
 obtain ⟨hj1,hj2⟩:=hj
 have hml:=Qj l a hj1
 by_cases hlt:j<l.length
 ·have f7:((j:Int)<(l.length:Int))=True:=eq_true (by omega)
  have hst:rX (l.map Prod.fst) (j+1)=if rX (l.map Prod.fst) j≠0 then rX (l.map Prod.fst) j else if dJ ((l.map Prod.fst).getD j [])=true then (if (l.map Prod.fst).getD j []∈(l.map Prod.fst).take j then 6 else 0) else 5:=rfl
  have hle:=@JU (l.map Prod.fst) (j+1) l.length
  have hat:=TN l a hlt
  have hset:=Qk l a hlt
  have hnm:=LG l 0 j
  have hee:=qW (Ar l a j) (i:=j) (by omega)
  rw [hat] at hee
  have hxm:=hin ((dV l 0).getD j En.zero) (by rw [List.getD_eq_getElem?_getD,List.getElem?_eq_getElem (by omega)];exact List.getElem_mem _)
  have htk:(l.map Prod.fst).take (j+1)=(l.map Prod.fst).take j++[(l.map Prod.fst).getD j []]:=by
   have hjl:j<(l.map Prod.fst).length:=by omega
   rw [List.take_succ_eq_append_getElem hjl,getD_lt hjl]
  rw [hj2,if_neg (by simp),←hnm] at hst
  rw [←hnm] at htk
  generalize (dV l 0).getD j En.zero=x at *
  obtain ⟨xn,xa,xk⟩:=x
  dsimp only at hst hee hxm htk hset
  have kn:=wO xn
  (repeat' with_reducible first|intro _|refine rz ?_|refine ra ?_ ?_|omega|simp only [go_sem,f7,hee,hml,dM])
  refine ah.k kn ?_
  cases hn:dJ xn with
  | false=>
   rw [hn,if_neg (by decide)] at hst
   have h0:=hle (by rw [hst];decide) (by omega)
   rw [h0,hst,if_pos (by decide)] at hL
   rw [hL]
   (repeat' with_reducible first|intro _|exact dn|refine rn ?_|refine ra ?_ ?_)
   refine bg.auto 1 ?_ rfl ?_<;>simp only [go_sem,Int.natCast_succ,Post]
  | true=>
   rw [hn,if_pos rfl] at hst
   by_cases hd:xn∈(l.map Prod.fst).take j
   ·rw [if_pos hd] at hst
    have h0:=hle (by rw [hst];decide) (by omega)
    rw [h0,hst,if_pos (by decide)] at hL
    rw [hL]
    have g:=lI ((l.map Prod.fst).take j) xn
    rw [decide_eq_true hd] at g
    (repeat' with_reducible first|intro _|refine rz ?_|refine ra ?_ ?_|omega|simp only [go_sem,g])
    refine bg.auto 1 ?_ rfl ?_<;>simp only [go_sem,Int.natCast_succ,Post]
   ·rw [if_neg hd] at hst
    have g:=lI ((l.map Prod.fst).take j) xn
    rw [decide_eq_false hd] at g
    have hins:uU ((l.map Prod.fst).take j) xn=(l.map Prod.fst).take (j+1):=by unfold uU;rw [if_neg hd,htk]
    (repeat' with_reducible first|intro _|refine rz ?_|refine ra ?_ ?_|omega|simp only [go_sem,g,hml,hee])
    refine ⟨j+1,aK.ak rfl ?_ ?_,⟨by omega,hst⟩,by omega⟩<;>simp only [go_sem,Int.natCast_succ,hins]
    rw [←hset,List.map_set];rfl
 ·have e:j=l.length:=by omega
  subst e
  have f7:((l.length:Int)<(l.length:Int))=False:=eq_false (by omega)
  have hmx:Ar l a l.length=dV l a:=by
   unfold Ar
   rw [List.take_of_length_le (by rw [dN];exact Nat.le_refl _),List.drop_of_length_le (by rw [dN];exact Nat.le_refl _),List.append_nil]
  rw [if_neg (by rw [hj2];simp)] at hL
  rw [hL,hmx]
  (repeat' with_reducible first|intro _|refine rz ?_|refine ra ?_ ?_|omega|simp only [go_sem,f7])
  refine bg.auto 1 ?_ rfl ?_<;>simp only [go_sem,Int.natCast_succ,Post]
theorem TK (s:Bytes) (hs:s.length≤140737488351232):fD Tryz.prog 39 [.str s] (.tup [.ro (Jd (bF s).1),.int .i64 (bF s).2]) []:=
 fD.RN (fD.iF (TL s hs) rfl (by simp [iE,iD,lq,iU,mP,Jd,En.av])) (by simp [fH,aO,aT,bT,aF,lk,aI])
end Go.Fv.H
/- shrink.checkPages, dataFor, joined, Pack: the walk. -/
namespace Go.Fv.H
open Go Go.Proofs
set_option maxHeartbeats 4000000 in
theorem BP (l:List NP) (kind:Int):aC Tryz.prog 89 [.ro (Jf l),.int .i64 kind] (.int .i64 (MR l kind)) []:=by
 obtain ⟨R,hR⟩:∃ R,MR l kind=R:=⟨_,rfl⟩
 rw [hR]
 unfold MR at hR
 refine aC.aJ Tryz.func89 rfl (by decide) (by simp [Tryz.f89]) [.tmp 4] rfl fun w0 T0 _=>?_
 simp only [Tryz.f89,aB]
 by_cases h1:500<l.length
 ·have f1:((500:Int)<(l.length:Int))=True:=eq_true (by omega)
  rw [if_pos h1] at hR
  rw [←hR]
  (repeat' with_reducible first|intro _|refine rz ?_|refine ra ?_ ?_|omega|simp only [go_sem,List.length_map,f1])
  refine bg.auto 0 ?_ rfl ?_<;>simp only [go_sem,Int.natCast_succ,Post]
 have f1:((500:Int)<(l.length:Int))=False:=eq_false (by omega)
 rw [if_neg h1] at hR
 (repeat' with_reducible first|intro _|refine rz ?_|refine ra ?_ ?_|omega|simp only [go_sem,List.length_map,f1])
 refine aH.intro (fun j:Nat=>⟨44,[(15,.int .i64 j),(14,.int .i64 l.length),(13,.ro (Jf l)),(5,.own 0),(1,.int .i64 kind)],[(0,.map (((l.map NP.n).take j).map .str) (((l.map NP.n).take j).map fun _=>.bool true))],1⟩) (fun j=>j≤l.length∧vJ l j=0) (fun j=>l.length - j) 0 ?_ ⟨Nat.zero_le _,rfl⟩ fun j hj=>?_
 ·refine aK.ak rfl ?_ ?_<;>simp only [go_sem,Int.natCast_succ]
  all_goals first|rfl|exact ⟨rfl,rfl⟩|trace_state
 obtain ⟨hj1,hj2⟩:=hj
 by_cases hlt:j<l.length
 ·have f7:((j:Int)<(l.length:Int))=True:=eq_true (by omega)
  have hst:vJ l (j+1)=if vJ l j≠0 then vJ l j else if dJ (l.getD j NP.zero).n=true then (if (l.getD j NP.zero).n∈(l.take j).map NP.n then 6 else Qv (l.getD j NP.zero)) else 5:=rfl
  have hle:=@J3 l (j+1) l.length
  have hee:=vG l hlt
  have htk:(l.map NP.n).take (j+1)=(l.map NP.n).take j++[(l.getD j NP.zero).n]:=by
   have hjl:j<(l.map NP.n).length:=by rw [List.length_map];exact hlt
   rw [List.take_succ_eq_append_getElem hjl,List.getElem_map,getD_lt hlt]
  rw [hj2,if_neg (by simp),List.map_take] at hst
  have kc:=Ez (l.getD j NP.zero).W (l.getD j NP.zero).H (l.getD j NP.zero).p
  have hnp:Qv (l.getD j NP.zero)=iL (l.getD j NP.zero).W (l.getD j NP.zero).H (l.getD j NP.zero).p.length:=rfl
  generalize l.getD j NP.zero=x at *
  obtain ⟨xn,xw,xh,xp⟩:=x
  dsimp only at hst hee htk kc hnp
  rw [←hnp] at kc
  generalize Qv ⟨xn,xw,xh,xp⟩=E at *
  have kn:=wO xn
  (repeat' with_reducible first|intro _|refine rz ?_|refine ra ?_ ?_|omega|simp only [go_sem,f7,hee,dM,List.length_map])
  refine ah.k kn ?_
  cases hn:dJ xn with
  | false=>
   rw [hn,if_neg (by decide)] at hst
   have h0:=hle (by rw [hst];decide) (by omega)
   rw [h0,hst,if_pos (by decide)] at hR
   rw [←hR]
   (repeat' with_reducible first|intro _|exact dn|refine rn ?_|refine ra ?_ ?_)
   refine bg.auto 0 ?_ rfl ?_<;>simp only [go_sem,Int.natCast_succ,Post]
  | true=>
   rw [hn,if_pos rfl] at hst
   have g:=lI ((l.map NP.n).take j) xn
   by_cases hd:xn∈(l.map NP.n).take j
   ·rw [if_pos hd] at hst
    have h0:=hle (by rw [hst];decide) (by omega)
    rw [h0,hst,if_pos (by decide)] at hR
    rw [←hR]
    rw [decide_eq_true hd] at g
    (repeat' with_reducible first|intro _|refine rz ?_|refine ra ?_ ?_|omega|simp only [go_sem,g])
    refine bg.auto 0 ?_ rfl ?_<;>simp only [go_sem,Int.natCast_succ,Post]
   ·rw [if_neg hd] at hst
    rw [decide_eq_false hd] at g
    have hins:uU ((l.map NP.n).take j) xn=(l.map NP.n).take (j+1):=by unfold uU;rw [if_neg hd,htk]
    (repeat' with_reducible first|intro _|refine rz ?_|refine ra ?_ ?_|omega|simp only [go_sem,g])
    refine ah.k kc ?_
    by_cases h0:E=0
    ·have f8:(E=0)=True:=eq_true h0
     (repeat' with_reducible first|intro _|refine rz ?_|refine ra ?_ ?_|omega|simp only [go_sem,f8])
     refine ⟨j+1,aK.ak rfl ?_ ?_,⟨by omega,by rw [hst];exact h0⟩,by omega⟩<;>simp only [go_sem,Int.natCast_succ,hins]
    ·have f8:(E=0)=False:=eq_false h0
     have h9:=hle (by rw [hst];exact h0) (by omega)
     rw [h9,hst,if_pos h0] at hR
     rw [←hR]
     (repeat' with_reducible first|intro _|refine rz ?_|refine ra ?_ ?_|omega|simp only [go_sem,f8])
     refine bg.auto 0 ?_ rfl ?_<;>simp only [go_sem,Int.natCast_succ,Post]
 ·have e:j=l.length:=by omega
  subst e
  have f7:((l.length:Int)<(l.length:Int))=False:=eq_false (by omega)
  rw [if_neg (by rw [hj2];simp)] at hR
  have ki:=NV kind
  by_cases hk:1≤kind∧kind≤4
  ·rw [decide_eq_true hk] at ki
   rw [if_pos (by omega)] at hR
   rw [←hR]
   (repeat' with_reducible first|intro _|refine rz ?_|refine ra ?_ ?_|omega|simp only [go_sem,f7])
   refine ah.k ki ?_
   (repeat' with_reducible first|intro _|exact dn|refine rn ?_|refine ra ?_ ?_)
   refine bg.auto 0 ?_ rfl ?_<;>simp only [go_sem,Int.natCast_succ,Post]
  ·rw [decide_eq_false hk] at ki
   by_cases h5:kind=5
   ·have f9:(kind=5)=True:=eq_true h5
    rw [if_pos (by omega)] at hR
    rw [←hR]
    (repeat' with_reducible first|intro _|refine rz ?_|refine ra ?_ ?_|omega|simp only [go_sem,f7])
    refine ah.k ki ?_
    (repeat' with_reducible first|intro _|refine rz ?_|refine ra ?_ ?_|omega|simp only [go_sem,f9])
    refine bg.auto 0 ?_ rfl ?_<;>simp only [go_sem,Int.natCast_succ,Post]
   ·have f9:(kind=5)=False:=eq_false h5
    rw [if_neg (by omega)] at hR
    rw [←hR]
    (repeat' with_reducible first|intro _|refine rz ?_|refine ra ?_ ?_|omega|simp only [go_sem,f7])
    refine ah.k ki ?_
    (repeat' with_reducible first|intro _|refine rz ?_|refine ra ?_ ?_|omega|simp only [go_sem,f9])
    refine bg.auto 0 ?_ rfl ?_<;>simp only [go_sem,Int.natCast_succ,Post]
theorem zK (x:NP) (h:x.Ok) (kind:Int) (hk:1≤kind∧kind≤5):aC Tryz.prog 88 [.agg [.int .i64 x.W,.int .i64 x.H,.ro (.bools x.p)],.int .i64 kind] (.str (oC kind x)) []:=by
 have kb:=SK _ _ _ h
 obtain ⟨w1,w2⟩:=h.w
 refine aC.aJ Tryz.func88 rfl (by decide) (by simp [Tryz.f88]) [.tmp 4] rfl fun w0 T0 _=>?_
 simp only [Tryz.f88,aB]
 unfold oC
 by_cases h5:kind=5
 ·have f9:(kind=5)=True:=eq_true h5
  rw [if_pos h5]
  rw [w1,w2] at kb
  generalize dP x.W.toNat x.H.toNat x.p 4=B at *
  (repeat' with_reducible first|intro _|refine rz ?_|refine ra ?_ ?_|omega|simp only [go_sem,f9])
  refine ah.k kb ?_
  (repeat' with_reducible first|intro _|exact dn|refine rn ?_|refine ra ?_ ?_)
  refine bg.auto 0 ?_ rfl ?_<;>simp only [go_sem,Int.natCast_succ,Post]
 ·have f9:(kind=5)=False:=eq_false h5
  have ke:=Dh _ _ h.w0 h.w1 h.h1 h.wh x.p h.p kind (by omega)
  rw [if_neg h5]
  rw [w1,w2] at ke
  generalize jW x.W.toNat x.H.toNat x.p kind=B at *
  (repeat' with_reducible first|intro _|refine rz ?_|refine ra ?_ ?_|omega|simp only [go_sem,f9])
  refine ah.k ke ?_
  (repeat' with_reducible first|intro _|exact dn|refine rn ?_|refine ra ?_ ?_)
  refine bg.auto 0 ?_ rfl ?_<;>simp only [go_sem,Int.natCast_succ,Post]
def RY (x:Bytes × Bytes):List AV:=[.str x.1,.str x.2]
abbrev its (l:List (Bytes × Bytes)):aG:=.objs 2 (l.map RY)
instance:CW RY:=⟨fun _=>rfl⟩
theorem L9 (l:List (Bytes × Bytes)) {i:Nat} (h:i<l.length):(l.map RY).getD i []=[.str (l.getD i ([],[])).1,.str (l.getD i ([],[])).2]:=by
 simp [List.getD_eq_getElem?_getD,h,RY]
def G9 (l:List (Bytes × Bytes)) (i:Nat):Bytes:=(qp++bP 2 l.length)++(l.take i).flatMap jJ
theorem L6 (l:List (Bytes × Bytes)):G9 l l.length=hdB l:=by unfold G9 hdB;rw [List.take_length,List.append_assoc]
theorem zZ (l:List (Bytes × Bytes)) {i:Nat} (h:i<l.length):G9 l (i+1)=G9 l i++(bP 1 (l.getD i ([],[])).1.length++(l.getD i ([],[])).1++bP 4 (l.getD i ([],[])).2.length):=by
 unfold G9
 rw [List.take_succ_eq_append_getElem h,List.flatMap_append,List.flatMap_singleton,←List.append_assoc,getD_lt h]
 unfold jJ
 simp only [List.append_assoc]
theorem EL {l:List (Bytes × Bytes)} {n:Nat} (hN:∀ x,x∈l→x.1.length≤n):∀ i,i≤l.length→(G9 l i).length≤6+i*(n+5)
 | 0,_=>by unfold G9;simp only [List.take_zero,List.flatMap_nil,List.append_nil,List.length_append,aS];show 4+2≤_;omega
 | i+1,h=>by
  have ih:=EL hN i (by omega)
  have hi:i<l.length:=by omega
  rw [zZ l hi]
  have:=hN (l.getD i ([],[])) (by rw [getD_lt hi];exact List.getElem_mem hi)
  simp only [List.length_append,aS]
  rw [Nat.succ_mul];omega
theorem Nv {l:List (Bytes × Bytes)} {i:Nat} (h:i<l.length):dL (l.take (i+1))=dL (l.take i)++(l.getD i ([],[])).2:=by
 rw [List.take_succ_eq_append_getElem h,wH,getD_lt h]
theorem Lm (l:List (Bytes × Bytes)) (i:Nat):(dL (l.take i)).length≤(dL l).length:=by
 conv=>rhs;rw [←List.take_append_drop i l]
 unfold dL
 rw [List.flatMap_append,List.length_append];omega
structure Sl (l:List (Bytes × Bytes)):Prop where
 many:l.length≤70000
 name:∀ x,x∈l→x.1.length≤1000
 code:∀ x,x∈l→x.2.length≤100000000
 long:(dL l).length≤5000000000
set_option maxHeartbeats 4000000 in
theorem Dw (l:List (Bytes × Bytes)) (h:Sl l):aC Tryz.prog 87 [.ro (its l)] (.str (iR l)) []:=by
 have hm:=h.many
 have hlong:=h.long
 have kb0:aC Tryz.prog 108 [.int .i64 l.length,.int .i64 2] (.str (bP 2 l.length)) []:=sU l.length l.length 2 (.inl rfl) (by omega) (by omega) (by omega)
 have hP:=EL h.name
 have hb2:=aS 2 l.length
 have h00:G9 l 0=70::66::65::49::bP 2 l.length:=by unfold G9;rw [List.take_zero,List.flatMap_nil,List.append_nil];rfl
 refine aC.aJ Tryz.func87 rfl (by decide) (by simp [Tryz.f87]) [.tmp 2] rfl fun w0 T0 _=>?_
 simp only [Tryz.f87,aB]
 generalize hB2:bP 2 l.length=B2 at *
 (repeat' with_reducible first|intro _|refine rz ?_|refine ra ?_ ?_|omega|simp only [go_sem,List.length_map])
 refine ah.k kb0 ?_
 (repeat' with_reducible first|intro _|refine rz ?_|refine ra ?_ ?_|omega|simp only [go_sem,List.length_map])
 refine aH.intro (fun i:Nat=>⟨54,[(16,.int .i64 i),(15,.int .i64 l.length),(14,.ro (its l)),(3,.str (G9 l i)),(0,.ro (its l))],[],0⟩) (fun i=>i≤l.length) (fun i=>l.length - i) 0 ?_ (Nat.zero_le _) fun i hi=>?_
 ·refine aK.ak rfl ?_ ?_<;>simp only [go_sem,Int.natCast_succ,h00]
 have hPi:=hP i hi
 have hP2:(G9 l i).length≤1000000000:=by have:i*(1000+5)≤70000*(1000+5):=Nat.mul_le_mul_right _ (by omega);omega
 by_cases hlt:i<l.length
 ·have f7:((i:Int)<(l.length:Int))=True:=eq_true (by omega)
  have hee:=L9 l hlt
  have hst:=zZ l hlt
  have hn:=h.name (l.getD i ([],[])) (by rw [getD_lt hlt];exact List.getElem_mem hlt)
  have hc:=h.code (l.getD i ([],[])) (by rw [getD_lt hlt];exact List.getElem_mem hlt)
  generalize l.getD i ([],[])=x at *
  obtain ⟨xn,xd⟩:=x
  dsimp only at hee hst hn hc
  have k1:aC Tryz.prog 108 [.int .i64 xn.length,.int .i64 1] (.str (bP 1 xn.length)) []:=sU xn.length xn.length 1 (.inl rfl) (by omega) (by omega) (by omega)
  have k4:aC Tryz.prog 108 [.int .i64 xd.length,.int .i64 4] (.str (bP 4 xd.length)) []:=sU xd.length xd.length 4 (.inl rfl) (by omega) (by omega) (by omega)
  have b1:=aS 1 xn.length
  have b4:=aS 4 xd.length
  generalize bP 1 xn.length=B1 at *
  generalize bP 4 xd.length=B4 at *
  generalize G9 l i=P at *
  (repeat' with_reducible first|intro _|refine rz ?_|refine ra ?_ ?_|omega|simp only [go_sem,f7,hee,dM,List.length_map])
  refine bC.lex [] [] (by kernel_rfl) (by kernel_rfl) ?_
  (repeat' with_reducible first|intro _|exact dn|refine rn ?_|refine ra ?_ ?_)
  (refine QV.intro (.str B1) ?_ ?_;focus ((repeat' with_reducible first|intro _|exact dn|refine rn ?_|refine ra ?_ ?_);refine ah.k (k1) ?_;(repeat' with_reducible first|intro _|exact dn|refine rn ?_|refine ra ?_ ?_)))
  (repeat' with_reducible first|intro _|exact dn|refine rn ?_|refine ra ?_ ?_)
  (refine QV.intro (.str B4) ?_ ?_;focus ((repeat' with_reducible first|intro _|exact dn|refine rn ?_|refine ra ?_ ?_);refine ah.k (k4) ?_;(repeat' with_reducible first|intro _|exact dn|refine rn ?_|refine ra ?_ ?_)))
  (repeat' with_reducible first|intro _|exact dn|refine rn ?_|refine ra ?_ ?_)
  refine ⟨i+1,aK.ak rfl ?_ ?_,by omega,by omega⟩<;>simp only [go_sem,Int.natCast_succ,hst]
 have e:i=l.length:=by omega
 subst e
 have f7:((l.length:Int)<(l.length:Int))=False:=eq_false (by omega)
 rw [L6] at hP2 ⊢
 have ks:=Bf (hdB l) (by omega)
 have hA:iR l=hdB l++dL l++jc (hdB l):=by unfold iR;rw [List.append_assoc]
 have hsl:=mJ (hdB l)
 have hc0:dL (l.take 0)=[]:=rfl
 have hle:=Lm l
 generalize hdB l=P at *
 generalize jc P=S at *
 rw [hA]
 (repeat' with_reducible first|intro _|refine rz ?_|refine ra ?_ ?_|omega|simp only [go_sem,f7])
 refine ah.k ks ?_
 (repeat' with_reducible first|intro _|refine rz ?_|refine ra ?_ ?_|omega|simp only [go_sem,List.length_map])
 refine aH.intro (fun i:Nat=>⟨54,[(41,.int .i64 i),(40,.int .i64 l.length),(39,.ro (its l)),(7,.own 0),(6,.str S)],[(0,.row 5 (.ints .u8 (aj (P++dL (l.take i)))))],1⟩) (fun i=>i≤l.length) (fun i=>l.length - i) 0 ?_ (Nat.zero_le _) fun i hi=>?_
 ·refine aK.ak rfl ?_ ?_<;>simp only [go_sem,Int.natCast_succ]
  all_goals (show aj P=aj (P++[]);rw [List.append_nil])
 have hbl:=kY (P++dL (l.take i))
 rw [List.length_append] at hbl
 have hlei:=hle i
 by_cases hlt:i<l.length
 ·have f8:((i:Int)<(l.length:Int))=True:=eq_true (by omega)
  have hee:=L9 l hlt
  have hst:=Nv hlt
  have hc:=h.code (l.getD i ([],[])) (by rw [getD_lt hlt];exact List.getElem_mem hlt)
  generalize l.getD i ([],[])=x at *
  obtain ⟨xn,xd⟩:=x
  dsimp only at hee hst hc
  have hb2:aj (P++dL (l.take (i+1)))=aj (P++dL (l.take i))++xd.map (fun b=>(b.toNat:Int)):=by
   rw [hst,←List.append_assoc];unfold aj;rw [List.map_append]
  generalize aj (P++dL (l.take i))=Q at *
  (repeat' with_reducible first|intro _|refine rz ?_|refine ra ?_ ?_|omega|simp only [go_sem,f8,hee,dM,List.length_map])
  refine ⟨i+1,aK.ak rfl ?_ ?_,by omega,by omega⟩<;>simp only [go_sem,Int.natCast_succ,hb2]
 have e:i=l.length:=by omega
 subst e
 have f8:((l.length:Int)<(l.length:Int))=False:=eq_false (by omega)
 rw [List.take_length] at *
 have hbb:=iw (P++dL l)
 (repeat' with_reducible first|intro _|refine rz ?_|refine ra ?_ ?_|omega|simp only [go_sem,f8,hbb])
 refine bg.auto 0 ?_ rfl ?_<;>simp only [go_sem,Int.natCast_succ,Post,hbb]
theorem Gt {l:List NP} (kind:Int) {i:Nat} (h:i<l.length):nC kind (l.take (i+1))=nC kind (l.take i)++[((l.getD i NP.zero).n,oC kind (l.getD i NP.zero))]:=by
 unfold nC
 rw [List.take_succ_eq_append_getElem h,List.map_append,getD_lt h];rfl
theorem Va (kind:Int) (l:List NP) (i:Nat):(dL (nC kind (l.take i))).length≤(dL (nC kind l)).length:=by
 have:=Lm (nC kind l) i
 unfold nC at this ⊢
 rwa [List.map_take]
theorem Ph {l:List NP} {kind:Int} (h:uo l) (hl:l.length≤500) (hk:1≤kind∧kind≤5):Sl (nC kind l):=by
 have hc:∀ x,x∈nC kind l→x.2.length≤1048597:=fun x hx=>by
  obtain ⟨y,hy,rfl⟩:=List.mem_map.1 hx
  exact (uI hk (h.ok y hy)).2
 refine ⟨by rw [yU];omega,fun x hx=>?_,fun x hx=>by have:=hc x hx;omega,?_⟩
 ·obtain ⟨y,hy,rfl⟩:=List.mem_map.1 hx
  have:=lZ (h.name y hy)
  dsimp only;omega
 ·have key:∀ m:List (Bytes × Bytes),(∀ x,x∈m→x.2.length≤1048597)→(dL m).length≤m.length*1048597:=by
   intro m
   induction m with
   | nil=>intro _;exact Nat.zero_le _
   | cons y m ih=>
    intro hm
    have h1:=hm y List.mem_cons_self
    have h2:=ih fun x hx=>hm x (List.mem_cons_of_mem _ hx)
    unfold dL at h2 ⊢
    rw [List.flatMap_cons,List.length_append,List.length_cons,Nat.succ_mul];omega
  have:=key _ hc
  rw [yU] at this
  have:l.length*1048597≤500*1048597:=Nat.mul_le_mul_right _ hl
  omega
set_option maxHeartbeats 4000000 in
theorem MQ (l:List NP) (kind:Int):aC Tryz.prog 38 [.ro (Jf l),.int .i64 kind] (.tup [.str (fA l kind).1,.int .i64 (fA l kind).2]) []:=by
 have kc:=BP l kind
 obtain ⟨R,hR⟩:∃ R,fA l kind=R:=⟨_,rfl⟩
 rw [hR]
 unfold fA at hR
 refine aC.aJ Tryz.func38 rfl (by decide) (by simp [Tryz.f38]) [.tmp 4,.tmp 5] rfl fun w0 T0 _=>?_
 simp only [Tryz.f38,aB]
 by_cases h1:MR l kind=0
 rotate_left
 ·rw [if_pos h1] at hR
  have f1:(MR l kind=0)=False:=eq_false h1
  generalize MR l kind=E at *
  rw [←hR]
  (repeat' with_reducible first|intro _|exact dn|refine rn ?_|refine ra ?_ ?_)
  refine ah.k kc ?_
  (repeat' with_reducible first|intro _|refine rz ?_|refine ra ?_ ?_|omega|simp only [go_sem,f1])
  refine bg.auto 0 ?_ rfl ?_<;>simp only [go_sem,Int.natCast_succ,Post]
 rw [if_neg (by omega)] at hR
 obtain ⟨hP,hl5,hk⟩:=J4 h1
 rw [h1] at kc
 have hI:=Ph hP hl5 hk
 have hlen:=zF (nC kind l)
 have hJ:=Dw _ hI
 have hlong:=hI.long
 have hmany:=hI.many
 (repeat' with_reducible first|intro _|exact dn|refine rn ?_|refine ra ?_ ?_)
 refine ah.k kc ?_
 (repeat' with_reducible first|intro _|refine rz ?_|refine ra ?_ ?_|omega|simp only [go_sem,List.length_map])
 refine aH.intro (fun i:Nat=>⟨50,[(21,.int .i64 i),(20,.int .i64 l.length),(19,.ro (Jf l)),(8,.int .i64 ((dL (nC kind (l.take i))).length:Nat)),(7,.own 0),(1,.int .i64 kind)],[(0,.row 124 (its (nC kind (l.take i))))],1⟩) (fun i=>i≤l.length) (fun i=>l.length - i) 0 ?_ (Nat.zero_le _) fun i hi=>?_
 ·refine aK.ak rfl ?_ ?_<;>simp only [go_sem,Int.natCast_succ]
  all_goals first|rfl|exact ⟨rfl,rfl⟩|trace_state
 have hle:=Va kind l
 have hcl:=yU kind (l.take i)
 rw [List.length_take,Nat.min_eq_left hi] at hcl
 by_cases hlt:i<l.length
 ·have f7:((i:Int)<(l.length:Int))=True:=eq_true (by omega)
  have hee:=vG l hlt
  have hst:=Gt kind hlt
  have hxo:=hP.ok (l.getD i NP.zero) (by rw [getD_lt hlt];exact List.getElem_mem hlt)
  have kd:=zK (l.getD i NP.zero) hxo kind hk
  have hcs:=wH (nC kind (l.take i)) ((l.getD i NP.zero).n,oC kind (l.getD i NP.zero))
  rw [←hst] at hcs
  replace hcs:=congrArg List.length hcs
  rw [List.length_append] at hcs
  dsimp only at hcs
  have hl2:=hle (i+1)
  have hl1:=hle i
  generalize hx:l.getD i NP.zero=x at *
  generalize hD:oC kind x=D at *
  have hmap:(nC kind (l.take i)).map RY++[[.str x.n,.str D]]=(nC kind (l.take (i+1))).map RY:=by rw [hst,List.map_append];rfl
  obtain ⟨xn,xw,xh,xp⟩:=x
  dsimp only at hee kd hmap
  generalize (dL (nC kind (l.take i))).length=A at *
  generalize hA2:(dL (nC kind (l.take (i+1)))).length=A2 at *
  have hAA:(A:Int)+(D.length:Int)=(A2:Int):=by omega
  (repeat' with_reducible first|intro _|refine rz ?_|refine ra ?_ ?_|omega|simp only [go_sem,f7,hee,dM,List.length_map])
  refine bC.lex [7,8] [(0,[1]),(1,[1]),(2,[1]),(3,[1]),(4,[1]),(5,[1]),(6,[1])] (by kernel_rfl) (by kernel_rfl) ?_
  (repeat' with_reducible first|intro _|exact dn|refine rn ?_|refine ra ?_ ?_)
  (refine QV.intro (.str D) ?_ ?_;focus ((repeat' with_reducible first|intro _|exact dn|refine rn ?_|refine ra ?_ ?_);refine ah.k (kd) ?_;(repeat' with_reducible first|intro _|exact dn|refine rn ?_|refine ra ?_ ?_)))
  (repeat' with_reducible first|intro _|refine rz ?_|refine ra ?_ ?_|omega|simp only [go_sem,hAA,hcl])
  ·refine ah.k kd ?_
   (repeat' with_reducible first|intro _|exact dn|refine rn ?_|refine ra ?_ ?_)
  ·rw [if_pos (by omega)] at hR
   rw [←hR]
   refine bg.auto 0 ?_ rfl ?_<;>simp only [go_sem,Int.natCast_succ,Post]
  ·refine ⟨i+1,aK.ak rfl ?_ ?_,by omega,by omega⟩<;>simp only [go_sem,Int.natCast_succ,hmap,hA2]
 have e:i=l.length:=by omega
 subst e
 have f7:((l.length:Int)<(l.length:Int))=False:=eq_false (by omega)
 rw [List.take_length]
 generalize iR (nC kind l)=A at *
 (repeat' with_reducible first|intro _|refine rz ?_|refine ra ?_ ?_|omega|simp only [go_sem,f7])
 refine ah.k hJ ?_
 by_cases h4:4194304<A.length
 ·have f8:((4194304:Int)<(A.length:Int))=True:=eq_true (by omega)
  rw [if_pos h4] at hR
  rw [←hR]
  (repeat' with_reducible first|intro _|refine rz ?_|refine ra ?_ ?_|omega|simp only [go_sem,f8])
  refine bg.auto 0 ?_ rfl ?_<;>simp only [go_sem,Int.natCast_succ,Post]
 ·have f8:((4194304:Int)<(A.length:Int))=False:=eq_false (by omega)
  rw [if_neg h4] at hR
  rw [←hR]
  (repeat' with_reducible first|intro _|refine rz ?_|refine ra ?_ ?_|omega|simp only [go_sem,f8])
  refine bg.auto 0 ?_ rfl ?_<;>simp only [go_sem,Int.natCast_succ,Post]
end Go.Fv.H
/- strings.Builder: Grow at a fresh builder. -/
namespace Go.Fv.H
open Go Go.Proofs Go.RowKit
theorem Yv:Tryz.f118.ntmps=30:=rfl
theorem VJ:(Tryz.prog.info? 5).map (·.size)=some 1:=by kernel_rfl
set_option maxHeartbeats 2000000 in
set_option maxRecDepth 1000000 in
theorem NS (b n:Nat) (w:World) (hbk:w.heap[b]?=some (.cells #[.pointer (some ⟨b,0,none⟩),.slice none 0 0] 89 (0,0))) (hn:n≤281474976710656) :
  Calls Tryz.prog 118 #[.pointer (some ⟨b,0,none⟩),.int .i64 n] w fun e w'=>e=.returned (.tuple #[])∧∃ cs:Array Value,n≤cs.size∧cs.size≤maxLen ∧
   w'=((w.setCell ⟨b,1,none⟩ (.slice (some ⟨w.heap.size,0,none⟩) 0 cs.size)).alloc (.cells cs 5)).drew.drew.drew:=by
 obtain ⟨cs,hrun,hle,hmax⟩:=Lib.run_makeNoZero (P:=Tryz.prog) w.drew #[3] 27 5 Tryz.underlying27 n hn
 have hw:IntKind.i64.wrap (IntKind.i64.wrap 0+(n:Int))=n:=by
  rw [IntKind.wrap_i64,IntKind.wrap_i64]
  omega
 have hcall:(callFunc 162 #[.int .i64 (IntKind.i64.wrap (IntKind.i64.wrap 0+(n:Int)))]).run Tryz.prog w.drew=.ok (.value (.slice (some ⟨w.drew.heap.size,0,none⟩) n cs.size)) (w.drew.drew.drew.alloc (.cells cs 5)):=by
  rw [hw,run_callFunc_extern Tryz.func162 (by kernel_rfl) (by kernel_rfl) (by kernel_rfl) (e:=Extern.BytealgMakeNoZero.makeNoZero #[3] #[27]) (by kernel_rfl),hrun]
  rfl
 have hlt:b<w.heap.size:=by
  rcases Nat.lt_or_ge b w.heap.size with h'|h'
  ·exact h'
  ·simp [Array.getElem?_eq_none h'] at hbk
 have c1:w.drew.cell? ⟨b,1,none⟩=some (.slice none 0 0):=by
  have:w.drew.heap[b]?=_:=hbk
  rw [Lib.cell_of_heap this];rfl
 have c2:(w.alloc (.cells cs 5)).cell? ⟨b,1,none⟩=some (.slice none 0 0):=by
  have:(w.alloc (.cells cs 5)).heap[b]?=_:=(Lib.alloc_old w _ b hlt).trans hbk
  rw [Lib.cell_of_heap this];rfl
 have f2:(w.alloc (.cells cs 5)).frozen? ⟨b,1,none⟩=false:=by
  exact Lib.frozen_of_heap ((Lib.alloc_old w _ b hlt).trans hbk) 1
 have hcopy:∀ W:World,(Builtin.copy_ #[27,27] 3 #[.slice (some ⟨w.heap.size,0,none⟩) 0 cs.size,.slice none 0 0]).run Tryz.prog W=.ok (goInt 0) W:=
  fun W=>run_copy_none W 27 27 3 5 _ _ 0 cs.size 0 0 Tryz.underlying27 VJ rfl
 clear hw
 have t70:=Tryz.underlying87
 have t72:=Tryz.underlying89
 have a72:=Tryz.isAgg89
 have z72:=Tryz.sizeOf89
 have a70:=Tryz.isAgg87
 have z70:=Tryz.sizeOf87
 have t37:=Tryz.underlying27
 have a37:=Tryz.isAgg27
 have z37:=Tryz.sizeOf27
 have t3:=Tryz.underlying3
 have a3:=Tryz.isAgg3
 have z3:=Tryz.sizeOf3
 have t5:=Tryz.underlying5
 have a5:=Tryz.isAgg5
 have z5:=Tryz.sizeOf5
 have hf:=Tryz.func118
 have mixed:Tryz.prog.follows .mixedOrders=true:=by kernel_rfl
 have u70:=run_underlying t70
 have u72:=run_underlying t72
 have u37:=run_underlying t37
 have u3:=run_underlying t3
 have u5:=run_underlying t5
 have hm1:=hmax
 have hnt:=Yv
 generalize Tryz.prog=P at *
 go_enter hf,hnt
 go_wp2
 go_region_o
 all_goals (go_wp2;go_end0;exact ⟨rfl,cs,hle,hm1 (by unfold maxLen;omega),rfl⟩)
end Go.Fv.H
/- strings.Builder: Grow of a fresh builder, for a caller. -/
namespace Go.Fv.H
open Go Go.Proofs Go.RowKit
theorem Rw (w:World) (g:Nat) (a b v:Value) (t:TypeId) (h:w.heap[g]?=some (.cells #[a,b] t (0,0))):(w.setCell ⟨g,1,none⟩ v).heap[g]?=some (.cells #[a,v] t (0,0)):=by
 unfold World.setCell
 simp [h,Array.getElem?_modify]
theorem Ba (w:World) (g k:Nat) (v:Value) (h:k≠g):(w.setCell ⟨g,1,none⟩ v).heap[k]?=w.heap[k]?:=by
 unfold World.setCell
 simp only [Array.getElem?_modify]
 rw [if_neg (fun e=>h e.symm)]
theorem TA (n:Nat) (hn:n≤281474976710656):gU Tryz.prog 118 [.ptr 0 0,.int .i64 n] [(0,.box 89 [.ptr 0 0,.nilS])] 1 (.tup []) [(0,.box 89 [.ptr 0 0,.own 1]),(1,.row 5 (.ints .u8 []))]:=by
 refine ⟨⟨_,Tryz.func118,by kernel_rfl,by kernel_rfl⟩,fun w T g m0 vals ⟨hrow,_,hd⟩ hgl hng hv=>?_⟩
 obtain ⟨_,g0,vs,hm,hO,hl,hh⟩:=hrow 0 _ rfl
 cases hv with
 | cons _ v0 _ vs0 h0 hvs=>
 cases hvs with
 | cons _ v1 _ vs1 h1 hvs=>
 cases hvs
 cases h1
 cases h0 with
 | ptr _ _ gp hi hg=>
 have hg:blk (m0 0)=some gp:=hg
 rw [hm] at hg
 cases hg
 cases hl with
 | cons _ a _ _ ha _ hl=>
 cases ha with
 | ptr _ _ ga _ hga=>
 have hga:blk (m0 0)=some ga:=hga
 rw [hm] at hga
 cases hga
 cases hl with
 | cons _ b _ _ hb _ hl=>
 cases hb
 cases hl
 have hh':w.heap[g0]?=some (.cells #[.pointer (some ⟨g0,0,none⟩),.slice none 0 0] 89 (0,0)):=hh
 have hlt:g0<w.heap.size:=(Array.getElem?_eq_some_iff.1 hh').1
 refine (NS g0 n w hh' hn).mono ?_
 rintro e w' ⟨rfl,cs,hc1,hc2,rfl⟩
 have hsz:(w.setCell ⟨g0,1,none⟩ (.slice (some ⟨w.heap.size,0,none⟩) 0 cs.size)).heap.size=w.heap.size:=by simp [World.setCell]
 have hat:∀ k,k<w.heap.size→(((w.setCell ⟨g0,1,none⟩ (.slice (some ⟨w.heap.size,0,none⟩) 0 cs.size)).alloc (.cells cs 5)).drew.drew.drew).heap[k]?=(w.setCell ⟨g0,1,none⟩ (.slice (some ⟨w.heap.size,0,none⟩) 0 cs.size)).heap[k]?:=
  fun k hk=>Below.heap_alloc _ _ k (by rw [hsz];exact hk)
 have hnew:(((w.setCell ⟨g0,1,none⟩ (.slice (some ⟨w.heap.size,0,none⟩) 0 cs.size)).alloc (.cells cs 5)).drew.drew.drew).heap[w.heap.size]?=some (.cells cs 5):=by
  have:=heap_alloc_new (w.setCell ⟨g0,1,none⟩ (.slice (some ⟨w.heap.size,0,none⟩) 0 cs.size)) (.cells cs 5)
  rw [hsz] at this
  exact this
 have hm0:Fv.upd m0 1 (.slice (some ⟨w.heap.size,0,none⟩) 0 cs.size) 0=m0 0:=by rfl
 have hm1:Fv.upd m0 1 (.slice (some ⟨w.heap.size,0,none⟩) 0 cs.size) 1=.slice (some ⟨w.heap.size,0,none⟩) 0 cs.size:=by rfl
 refine ⟨_,rfl,⟨rfl,rfl,rfl,?_,?_,fun k hk hn=>?_⟩,Fv.upd m0 1 (.slice (some ⟨w.heap.size,0,none⟩) 0 cs.size),2,fun i hi=>?_,by decide,.tup [] [] .nil,fun i it hi=>?_,fun i j it jt b hi hj h1 h2=>?_⟩
 ·show w.heap.size≤((w.setCell _ _).heap.push _).size
  rw [Array.size_push,hsz];exact Nat.le_succ _
 ·trivial
 ·rw [hat k hk];exact Ba w g0 k _ fun e=>hn (e▸hO)
 ·obtain rfl:i=0:=by omega
  exact hm0
 ·rcases Xd hi with ⟨rfl,rfl⟩|⟨rfl,rfl⟩
  ·refine ⟨by decide,g0,[.pointer (some ⟨g0,0,none⟩),.slice (some ⟨w.heap.size,0,none⟩) 0 cs.size],by rw [hm0,hm],.inr ⟨hO,.inr hO⟩,?_,?_⟩
   ·exact .cons _ _ _ _ (.ptr 0 0 g0 (show 0<2 by decide) (by show blk (Fv.upd m0 1 (.slice (some ⟨w.heap.size,0,none⟩) 0 cs.size) 0)=some g0;rw [hm0,hm];rfl)) rfl (.cons _ _ _ _ (.own 1 (show 1<2 by decide) rfl) rfl .nil)
   ·rw [hat g0 hlt]
    exact Rw w g0 _ _ _ _ hh'
  ·refine ⟨by decide,0,[],.ints _ _ (fun x hx=>by cases hx),rfl,?_,fun b hb=>?_⟩
   ·rw [hm1]
    exact ⟨by simp,.inr ⟨_,_,cs,(0,0),rfl,.inl rfl,hnew,Nat.zero_le _,hc2,(Nat.mul_one _).symm,rfl⟩⟩
   ·rw [hm1] at hb
    cases hb
    exact .inl (Nat.le_refl _)
 ·have hne:g0≠w.heap.size:=by omega
  rcases Xd hi with ⟨rfl,rfl⟩|⟨rfl,rfl⟩<;>rcases Xd hj with ⟨rfl,rfl⟩|⟨rfl,rfl⟩
  ·rfl
  ·rw [hm0,hm] at h1;rw [hm1] at h2;cases h1;cases h2;exact absurd rfl hne
  ·rw [hm0,hm] at h2;rw [hm1] at h1;cases h1;cases h2;exact absurd rfl hne
  ·rfl
set_option maxHeartbeats 4000000 in
theorem KW (n:Nat) (h0:1≤n) (hn:n≤281474976710656):gU Tryz.prog 84 [.ptr 0 0,.int .i64 n] [(0,.box 89 [.raw (.pointer none),.nilS])] 1 (.tup []) [(0,.box 89 [.ptr 0 0,.own 1]),(1,.row 5 (.ints .u8 []))]:=by
 have k:=oD
 have k2:=TA n hn
 refine gU.aJ Tryz.func84 rfl (by decide) (by simp [Tryz.f84]) Gz [] rfl fun w0 T0 _=>?_
 simp only [Tryz.f84,aB]
 (repeat' with_reducible first|intro _|exact dn|refine rn ?_|refine ra ?_ ?_)
 refine ah.i [0] k 1 ?_
 (repeat' with_reducible first|intro _|refine rz ?_|refine ra ?_ ?_|omega|simp only [go_sem,S.PX,nD,nO,zL,Item.ren,ren,gK,List.getElem?_cons_zero,List.getElem?_cons_succ,List.getElem?_nil,List.filter])
 refine bC.lex [] [] (by kernel_rfl) (by kernel_rfl) ?_
 (repeat' with_reducible first|intro _|exact dn|refine rn ?_|refine ra ?_ ?_)
 refine QV.intro (.int .i64 0) ?_ ?_
 ·(repeat' with_reducible first|intro _|exact dn|refine rn ?_|refine ra ?_ ?_)
 (repeat' with_reducible first|intro _|exact dn|refine rn ?_|refine ra ?_ ?_)
 refine ah.i [0] k2 2 ?_
 (repeat' with_reducible first|intro _|exact dn|refine rn ?_|refine ra ?_ ?_)
 refine kU.of [(1,1)] 2 (by decide) (by decide) ?_ rfl ?_<;>simp only [go_sem,Int.natCast_succ]
end Go.Fv.H
/- strings.Join with nothing between. -/
namespace Go.Fv.H
open Go Go.Proofs
theorem Dt (l:List Bytes) {i:Nat} (h:i<l.length):(l.take (i+1)).flatten=(l.take i).flatten++l.getD i []:=by
 rw [List.take_succ_eq_append_getElem h,List.flatten_append,getD_lt h];simp
theorem LP (l:List Bytes) (i:Nat):(l.take i).flatten.length≤l.flatten.length:=by
 conv=>rhs;rw [←List.take_append_drop i l]
 rw [List.flatten_append,List.length_append];omega
set_option maxHeartbeats 4000000 in
theorem PY (l:List Bytes) (hl:l.flatten.length≤5000000000) (hp:2≤l.length→0<l.flatten.length):aC Tryz.prog 115 [.ro (.strs l),.str []] (.str l.flatten) []:=by
 refine aC.aJ Tryz.func115 rfl (by decide) (by simp [Tryz.f115]) [.tmp 4] rfl fun w0 T0 _=>?_
 simp only [Tryz.f115,aB]
 by_cases h0:l.length=0
 ·have f0:((l.length:Int)=0)=True:=eq_true (by omega)
  have e:l=[]:=List.eq_nil_of_length_eq_zero h0
  (repeat' with_reducible first|intro _|refine rz ?_|refine ra ?_ ?_|omega|simp only [go_sem,f0])
  refine bg.auto 0 ?_ rfl ?_<;>simp only [go_sem,Int.natCast_succ,Post]
  rw [e];rfl
 have f0:((l.length:Int)=0)=False:=eq_false (by omega)
 by_cases h1:l.length=1
 ·have f1:((l.length:Int)=1)=True:=eq_true (by omega)
  obtain ⟨x,rfl⟩:∃ x,l=[x]:=List.length_eq_one_iff.1 h1
  (repeat' with_reducible first|intro _|refine rz ?_|refine ra ?_ ?_|omega|simp only [go_sem,f0,f1])
  refine bg.auto 0 ?_ rfl ?_<;>simp only [go_sem,Int.natCast_succ,Post]
  all_goals first|rfl|simp
 have f1:((l.length:Int)=1)=False:=eq_false (by omega)
 have hpos:=hp (by omega)
 (repeat' with_reducible first|intro _|refine rz ?_|refine ra ?_ ?_|omega|simp only [go_sem,f0,f1])
 refine aH.intro (fun i:Nat=>⟨75,[(41,.int .i64 i),(40,.int .i64 l.length),(39,.ro (.strs l)),(5,.int .i64 ((l.take i).flatten.length:Nat)),(1,.str []),(0,.ro (.strs l))],[],0⟩) (fun i=>i≤l.length) (fun i=>l.length - i) 0 ?_ (Nat.zero_le _) fun i hi=>?_
 ·refine aK.ak rfl ?_ ?_<;>simp only [go_sem,Int.natCast_succ]
  all_goals first|rfl|exact ⟨rfl,rfl⟩|trace_state
 by_cases hlt:i<l.length
 ·have f7:((i:Int)<(l.length:Int))=True:=eq_true (by omega)
  have hst:=congrArg List.length (Dt l hlt)
  have hle:=LP l (i+1)
  rw [List.length_append] at hst
  generalize hx:l.getD i []=x at *
  generalize hA:(l.take i).flatten.length=A at *
  generalize hA2:(l.take (i+1)).flatten.length=A2 at *
  have hAA:(A:Int)+(x.length:Int)=(A2:Int):=by omega
  have f8:((9223372036854775807:Int) - (A:Int)<(x.length:Int))=False:=eq_false (by omega)
  (repeat' with_reducible first|intro _|refine rz ?_|refine ra ?_ ?_|omega|simp only [go_sem,f7,dM,hx,f8,hAA])
  refine ⟨i+1,aK.ak rfl ?_ ?_,by omega,by omega⟩<;>simp only [go_sem,Int.natCast_succ,hA2]
 have e:i=l.length:=by omega
 subst e
 have f7:((l.length:Int)<(l.length:Int))=False:=eq_false (by omega)
 rw [List.take_length]
 obtain ⟨z,m,rfl⟩:∃ z m,l=z::m:=by
  cases l with
  | nil=>simp at h0
  | cons x l=>exact ⟨x,l,rfl⟩
 have kg:=KW (z::m).flatten.length hpos (by omega)
 have hfl:(z::m).flatten=z++m.flatten:=List.flatten_cons
 have hfl2:=congrArg List.length hfl
 rw [List.length_append] at hfl2
 have k1:=bK [] z (by simp) (by omega)
 rw [List.nil_append,show aj []=[] from rfl] at k1
 have hz:(z::m).getD 0 []=z:=rfl
 have htd:((z::m).drop 1).take ((z::m).length - 1)=m:=by rw [List.length_cons,Nat.add_sub_cancel];exact List.take_of_length_le (Nat.le_refl _)
 have hle:=LP m
 have hml:(z::m).length=m.length+1:=rfl
 rw [hfl] at kg
 generalize hF:(z::m).flatten=F at *
 generalize hZ:z::m=Z at *
 generalize hFl:F.length=Fl at *
 (repeat' with_reducible first|intro _|refine rz ?_|refine ra ?_ ?_|omega|simp only [go_sem,f7])
 subst hfl
 rw [←hFl]
 refine ah.i [0] kg 2 ?_
 (repeat' with_reducible first|intro _|refine rz ?_|refine ra ?_ ?_|omega|simp only [go_sem,dM,hz])
 refine ah.i [0,1] k1 3 ?_
 (repeat' with_reducible first|intro _|refine rz ?_|refine ra ?_ ?_|omega|simp only [go_sem,htd])
 refine aH.intro (fun i:Nat=>⟨75,[(65,.int .i64 i),(64,.int .i64 m.length),(63,.ro (.strs m)),(8,.ptr 0 0),(1,.str [])],[(0,.box 89 [.ptr 0 0,.own 1]),(1,.row 5 (.ints .u8 (aj (z++(m.take i).flatten))))],2⟩) (fun i=>i≤m.length) (fun i=>m.length - i) 0 ?_ (Nat.zero_le _) fun i hi=>?_
 ·refine aK.ak rfl ?_ ?_<;>simp only [go_sem,Int.natCast_succ]
  all_goals (show aj z=aj (z++[]);rw [List.append_nil])
 have hlei:=hle i
 by_cases hlt:i<m.length
 ·have f8:((i:Int)<(m.length:Int))=True:=eq_true (by omega)
  have hst:=Dt m hlt
  have hle2:=hle (i+1)
  have hst2:=congrArg List.length hst
  rw [List.length_append] at hst2
  have k2:=bK (z++(m.take i).flatten) [] (by rw [List.length_append];omega) (by simp)
  rw [List.append_nil] at k2
  have k3:=bK (z++(m.take i).flatten) (m.getD i []) (by rw [List.length_append];omega) (by omega)
  rw [List.append_assoc,←hst] at k3
  generalize hx:m.getD i []=x at *
  (repeat' with_reducible first|intro _|refine rz ?_|refine ra ?_ ?_|omega|simp only [go_sem,f8,dM,hx])
  refine ah.i [0,1] k2 3 ?_
  (repeat' with_reducible first|intro _|exact dn|refine rn ?_|refine ra ?_ ?_)
  refine ah.i [0,2] k3 3 ?_
  (repeat' with_reducible first|intro _|exact dn|refine rn ?_|refine ra ?_ ?_)
  refine ⟨i+1,aK.ak rfl ?_ ?_,by omega,by omega⟩<;>simp only [go_sem,Int.natCast_succ]
 have e:i=m.length:=by omega
 subst e
 have f8:((m.length:Int)<(m.length:Int))=False:=eq_false (by omega)
 rw [List.take_length]
 have k4:=eF (z++m.flatten) (by omega)
 (repeat' with_reducible first|intro _|refine rz ?_|refine ra ?_ ?_|omega|simp only [go_sem,f8])
 refine ah.i [0,1] k4 2 ?_
 (repeat' with_reducible first|intro _|exact dn|refine rn ?_|refine ra ?_ ?_)
 refine bg.auto 0 ?_ rfl ?_<;>simp only [go_sem,Int.natCast_succ,Post]
end Go.Fv.H
