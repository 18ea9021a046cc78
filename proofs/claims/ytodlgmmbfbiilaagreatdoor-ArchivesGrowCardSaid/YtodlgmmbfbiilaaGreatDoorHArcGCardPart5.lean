/-
  A part of the proof of the claim: walks over the program's functions and the plain laws that these need. No condition of its own.
-/
import Derived.Test.YtodlgmmbfbiilaaGreatDoorHArcGCardPart3
import Derived.Test.YtodlgmmbfbiilaaGreatDoorHArcGCardPart1
import Derived.Test.YtodlgmmbfbiilaaGreatDoorFvPart10
import Derived.Test.YtodlgmmbfbiilaaGreatDoorFvPart11
import Derived.Shelf.Spec.TrailingZeros
import Derived.Test.YtodlgmmbfbiilaaGreatDoorHArcGCardPart2
import Derived.Shelf.Bits.Mul64
import Derived.Test.YtodlgmmbfbiilaaGreatDoorFvPart5
import Derived.Shelf.Strings.BuilderX
import Derived.Shelf.RegionOpenPlain
import Derived.Lib.Builder
import Derived.Lib.Walk
import Derived.WalkKit
import Derived.Laws.Externs
set_option linter.unusedSimpArgs false
set_option linter.unusedVariables false
set_option linter.unnecessarySimpa false
set_option maxRecDepth 8000
/- Changes of a row: the walk. -/
namespace Go.Fv.H
open Go Go.Proofs
theorem MV {r:List Bool} {j:Nat} (h:j≠0):J5 r j=r.getD (j - 1) false:=by unfold J5;rw [if_neg h]
theorem Q7 (r:List Bool):J5 r 0=false:=rfl
theorem Ir (r:List Bool) (j:Nat) (a:Int) (ha:a=(j:Int) - 1) (hj:j≤r.length) (hl:r.length≤4000) :
  aC Tryz.prog 184 [.ro (.bools r),.int .i64 a] (.bool (J5 r j)) []:=by
 refine aC.aJ Tryz.func184 rfl (by decide) (by simp [Tryz.f184]) [.tmp 4] rfl fun w0 T0 _=>?_
 simp only [Tryz.f184,aB]
 by_cases h:j=0
 ·have f1:(0≤a)=False:=eq_false (by omega)
  have e:J5 r j=false:=by rw [h];rfl
  (repeat' with_reducible first|intro _|refine rz ?_|refine ra ?_ ?_|omega|simp only [go_sem,f1])
  refine bg.auto 0 ?_ rfl ?_<;>simp only [go_sem,Int.natCast_succ,Post,e]
 ·have f1:(0≤a)=True:=eq_true (by omega)
  have e:=MV (r:=r) h
  have e2:a.toNat=j - 1:=by omega
  (repeat' with_reducible first|intro _|refine rz ?_|refine ra ?_ ?_|omega|simp only [go_sem,f1,e2])
  refine bg.auto 0 ?_ rfl ?_<;>simp only [go_sem,Int.natCast_succ,Post,e]
theorem C9 (r:List Bool) (j:Nat) (a:Int) (ha:a=(j:Int) - 1) (hj:j≤r.length) (hl:r.length≤4000) :
  aC Tryz.prog 139 [.ro (.bools r),.int .i64 a] (.bool (J5 r j)) []:=by
 refine aC.aJ Tryz.func139 rfl (by decide) (by simp [Tryz.f139]) [.tmp 4] rfl fun w0 T0 _=>?_
 simp only [Tryz.f139,aB]
 by_cases h:j=0
 ·have f1:(0≤a)=False:=eq_false (by omega)
  have e:J5 r j=false:=by rw [h];rfl
  (repeat' with_reducible first|intro _|refine rz ?_|refine ra ?_ ?_|omega|simp only [go_sem,f1])
  refine bg.auto 0 ?_ rfl ?_<;>simp only [go_sem,Int.natCast_succ,Post,e]
 ·have f1:(0≤a)=True:=eq_true (by omega)
  have e:=MV (r:=r) h
  have e2:a.toNat=j - 1:=by omega
  (repeat' with_reducible first|intro _|refine rz ?_|refine ra ?_ ?_|omega|simp only [go_sem,f1,e2])
  refine bg.auto 0 ?_ rfl ?_<;>simp only [go_sem,Int.natCast_succ,Post,e]
theorem nK (r:List Bool) (p:Nat) (a:Int) (ha:a=(p:Int) - 1) (hp:p≤r.length+1) (hl:r.length≤4000) :
  aC Tryz.prog 148 [.ro (.bools r),.int .i64 a] (.int .i64 (dU r p)) []:=by
 have e0:a+1=(p:Int):=by omega
 refine aC.aJ Tryz.func148 rfl (by decide) (by simp [Tryz.f148]) [.tmp 4] rfl fun w0 T0 _=>?_
 simp only [Tryz.f148,aB]
 (repeat' with_reducible first|intro _|refine rz ?_|refine ra ?_ ?_|omega|simp only [go_sem,e0])
 refine aH.intro (fun i:Nat=>⟨28,[(5,.int .i64 i),(0,.ro (.bools r))],[],0⟩) (fun i=>i≤r.length+1∧dU r i=dU r p) (fun i=>r.length+1 - i) p ?_ ⟨hp,rfl⟩ fun i hI=>?_
 ·refine aK.ak rfl ?_ ?_<;>simp only [go_sem,Int.natCast_succ]
 obtain ⟨hi,hI⟩:=hI
 by_cases hlt:i<r.length
 ·have f1:((i:Int)<(r.length:Int))=True:=eq_true (by omega)
  have k1:=Ir r (i+1) i (by omega) (by omega) hl
  have k2:=Ir r i ((i:Int) - 1) rfl (by omega) hl
  rw [vK] at k1
  have hc:=wI hlt
  (repeat' with_reducible first|intro _|refine rz ?_|refine ra ?_ ?_|omega|simp only [go_sem,f1])
  refine ah.k k1 ?_
  (repeat' with_reducible first|intro _|exact dn|refine rn ?_|refine ra ?_ ?_)
  refine ah.k k2 ?_
  by_cases he:r.getD i false=J5 r i
  ·rw [if_pos he] at hc
   (repeat' with_reducible first|intro _|refine rz ?_|refine ra ?_ ?_|omega|simp only [go_sem,he])
   refine ⟨i+1,aK.ak rfl ?_ ?_,⟨by omega,by rw [←hc];exact hI⟩,by omega⟩<;>simp only [go_sem,Int.natCast_succ]
  ·rw [if_neg he] at hc
   have hci:dU r p=i:=by rw [←hI,hc]
   have hm:min (i:Int) (r.length:Int)=(i:Int):=by omega
   (repeat' with_reducible first|intro _|refine rz ?_|refine ra ?_ ?_|omega|simp only [go_sem,he])
   refine bg.auto 0 ?_ rfl ?_<;>simp only [go_sem,Int.natCast_succ,Post,hci,hm]
 ·have f1:((i:Int)<(r.length:Int))=False:=eq_false (by omega)
  have hci:dU r p=r.length:=by rw [←hI,iW hlt]
  have hm:min (i:Int) (r.length:Int)=(r.length:Int):=by omega
  (repeat' with_reducible first|intro _|refine rz ?_|refine ra ?_ ?_|omega|simp only [go_sem,f1])
  refine bg.auto 0 ?_ rfl ?_<;>simp only [go_sem,Int.natCast_succ,Post,hci,hm]
theorem y8 (r:List Bool) (p:Nat) (a:Int) (ha:a=(p:Int) - 1) (hp:p≤r.length+1) (hl:r.length≤4000) :
  aC Tryz.prog 99 [.ro (.bools r),.int .i64 a] (.int .i64 (dU r p)) []:=by
 have e0:a+1=(p:Int):=by omega
 refine aC.aJ Tryz.func99 rfl (by decide) (by simp [Tryz.f99]) [.tmp 4] rfl fun w0 T0 _=>?_
 simp only [Tryz.f99,aB]
 (repeat' with_reducible first|intro _|refine rz ?_|refine ra ?_ ?_|omega|simp only [go_sem,e0])
 refine aH.intro (fun i:Nat=>⟨25,[(5,.int .i64 i),(0,.ro (.bools r))],[],0⟩) (fun i=>i≤r.length+1∧dU r i=dU r p) (fun i=>r.length+1 - i) p ?_ ⟨hp,rfl⟩ fun i hI=>?_
 ·refine aK.ak rfl ?_ ?_<;>simp only [go_sem,Int.natCast_succ]
 obtain ⟨hi,hI⟩:=hI
 by_cases hlt:i<r.length
 ·have f1:((i:Int)<(r.length:Int))=True:=eq_true (by omega)
  have k1:=C9 r (i+1) i (by omega) (by omega) hl
  have k2:=C9 r i ((i:Int) - 1) rfl (by omega) hl
  rw [vK] at k1
  have hc:=wI hlt
  (repeat' with_reducible first|intro _|refine rz ?_|refine ra ?_ ?_|omega|simp only [go_sem,f1])
  refine ah.k k1 ?_
  (repeat' with_reducible first|intro _|exact dn|refine rn ?_|refine ra ?_ ?_)
  refine ah.k k2 ?_
  by_cases he:r.getD i false=J5 r i
  ·rw [if_pos he] at hc
   (repeat' with_reducible first|intro _|refine rz ?_|refine ra ?_ ?_|omega|simp only [go_sem,he])
   refine ⟨i+1,aK.ak rfl ?_ ?_,⟨by omega,by rw [←hc];exact hI⟩,by omega⟩<;>simp only [go_sem,Int.natCast_succ]
  ·rw [if_neg he] at hc
   have hci:dU r p=i:=by rw [←hI,hc]
   (repeat' with_reducible first|intro _|refine rz ?_|refine ra ?_ ?_|omega|simp only [go_sem,he])
   refine bg.auto 0 ?_ rfl ?_<;>simp only [go_sem,Int.natCast_succ,Post,hci]
 ·have f1:((i:Int)<(r.length:Int))=False:=eq_false (by omega)
  have hci:dU r p=r.length:=by rw [←hI,iW hlt]
  (repeat' with_reducible first|intro _|refine rz ?_|refine ra ?_ ?_|omega|simp only [go_sem,f1])
  refine bg.auto 0 ?_ rfl ?_<;>simp only [go_sem,Int.natCast_succ,Post,hci]
theorem Gw (r:List Bool) (p:Nat) (a:Int) (c:Bool) (ha:a=(p:Int) - 1) (hp:p≤r.length) (hl:r.length≤4000) :
  aC Tryz.prog 147 [.ro (.bools r),.int .i64 a,.bool c] (.int .i64 (fG r p c)) []:=by
 have k1:=nK r p a ha (by omega) hl
 have hle:=iy r p
 have k2:=nK r (dU r p+1) (dU r p:Int) (by omega) (by omega) hl
 refine aC.aJ Tryz.func147 rfl (by decide) (by simp [Tryz.f147]) [.tmp 6] rfl fun w0 T0 _=>?_
 simp only [Tryz.f147,aB]
 (repeat' with_reducible first|intro _|exact dn|refine rn ?_|refine ra ?_ ?_)
 refine ah.k k1 ?_
 by_cases h1:dU r p<r.length
 ·have f1:((dU r p:Int)<(r.length:Int))=True:=eq_true (by omega)
  by_cases h2:r.getD (dU r p) false=c
  ·have e:fG r p c=dU r p:=by unfold fG;rw [if_neg (fun h=>h.2 h2)]
   (repeat' with_reducible first|intro _|refine rz ?_|refine ra ?_ ?_|omega|simp only [go_sem,f1,h2])
   refine bg.auto 0 ?_ rfl ?_<;>simp only [go_sem,Int.natCast_succ,Post,e]
  ·have e:fG r p c=dU r (dU r p+1):=by unfold fG;rw [if_pos ⟨h1,h2⟩]
   (repeat' with_reducible first|intro _|refine rz ?_|refine ra ?_ ?_|omega|simp only [go_sem,f1,h2])
   refine ah.k k2 ?_
   (repeat' with_reducible first|intro _|exact dn|refine rn ?_|refine ra ?_ ?_)
   refine bg.auto 0 ?_ rfl ?_<;>simp only [go_sem,Int.natCast_succ,Post,e]
 ·have f1:((dU r p:Int)<(r.length:Int))=False:=eq_false (by omega)
  have e:fG r p c=dU r p:=by unfold fG;rw [if_neg (fun h=>h1 h.1)]
  (repeat' with_reducible first|intro _|refine rz ?_|refine ra ?_ ?_|omega|simp only [go_sem,f1])
  refine bg.auto 0 ?_ rfl ?_<;>simp only [go_sem,Int.natCast_succ,Post,e]
theorem VO (r:List Bool) (p:Nat) (a:Int) (c:Bool) (ha:a=(p:Int) - 1) (hp:p≤r.length) (hl:r.length≤4000) :
  aC Tryz.prog 100 [.ro (.bools r),.int .i64 a,.bool c] (.tup [.int .i64 (fG r p (!c)),.int .i64 (dU r (fG r p (!c)+1))]) []:=by
 have k1:=y8 r p a ha (by omega) hl
 have hle:=iy r p
 refine aC.aJ Tryz.func100 rfl (by decide) (by simp [Tryz.f100]) [.tmp 6,.tmp 7] rfl fun w0 T0 _=>?_
 simp only [Tryz.f100,aB]
 (repeat' with_reducible first|intro _|exact dn|refine rn ?_|refine ra ?_ ?_)
 refine ah.k k1 ?_
 (repeat' with_reducible first|intro _|exact dn|refine rn ?_|refine ra ?_ ?_)
 refine aH.intro (fun i:Nat=>⟨30,[(6,.int .i64 i),(2,.bool c),(1,.int .i64 a),(0,.ro (.bools r))],[],0⟩) (fun i=>i≤r.length∧(i=dU r p∨i=fG r p (!c))∧(dU r p<r.length→r.getD (dU r p) false=c→(i=dU r p∨(i=dU r (dU r p+1)∧(i<r.length→r.getD i false=!c))))∧(¬(dU r p<r.length∧r.getD (dU r p) false=c)→i=dU r p)) (fun i=>if i=dU r p then 1 else 0) (dU r p) ?_ ⟨hle,.inl rfl,fun _ _=>.inl rfl,fun _=>rfl⟩ fun i hI=>?_
 ·refine aK.ak rfl ?_ ?_<;>simp only [go_sem,Int.natCast_succ]
 obtain ⟨hi,_,hI1,hI2⟩:=hI
 have k2:=y8 r (i+1) (i:Int) (by omega) (by omega) hl
 have hdone:¬(i<r.length∧r.getD i false=c)→i=fG r p (!c):=fun h=>by
  unfold fG
  by_cases h3:dU r p<r.length∧r.getD (dU r p) false=c
  ·rw [if_pos ⟨h3.1,by rw [h3.2];cases c<;>decide⟩]
   rcases hI1 h3.1 h3.2 with e|⟨e,_⟩
   ·rw [e] at h;exact absurd h3 h
   ·exact e
  ·rw [hI2 h3,if_neg]
   rintro ⟨h4,h5⟩
   refine h3 ⟨h4,?_⟩
   generalize r.getD (dU r p) false=b at h5 ⊢
   cases b<;>cases c<;>simp_all
 by_cases h1:i<r.length
 ·have f1:((i:Int)<(r.length:Int))=True:=eq_true (by omega)
  by_cases h2:r.getD i false=c
  ·have h4:i=dU r p:=by
    by_cases h3:dU r p<r.length∧r.getD (dU r p) false=c
    ·rcases hI1 h3.1 h3.2 with e|⟨e,e2⟩
     ·exact e
     ·have:=e2 h1
      rw [h2] at this
      cases c<;>simp at this
    ·exact hI2 h3
   have h5:=iy r (i+1)
   have h6:i+1≤dU r (i+1):=jo (by omega)
   (repeat' with_reducible first|intro _|refine rz ?_|refine ra ?_ ?_|omega|simp only [go_sem,f1,h2])
   refine ah.k k2 ?_
   (repeat' with_reducible first|intro _|exact dn|refine rn ?_|refine ra ?_ ?_)
   refine ⟨dU r (i+1),aK.ak rfl ?_ ?_,⟨h5,.inr ?_,fun _ _=>.inr ⟨by rw [h4],fun h7=>?_⟩,fun h=>absurd ⟨h4▸h1,h4▸h2⟩ h⟩,by rw [if_pos h4,if_neg (by omega)];omega⟩
   ·simp only [go_sem,Int.natCast_succ]
   ·simp only [go_sem,Int.natCast_succ]
   ·subst h4
    unfold fG;rw [if_pos ⟨h1,by rw [h2];cases c<;>decide⟩]
   ·rw [Gx h7,vK,h2]
  ·have e:=hdone fun h=>h2 h.2
   have k3:=k2
   rw [e] at k3
   (repeat' with_reducible first|intro _|refine rz ?_|refine ra ?_ ?_|omega|simp only [go_sem,f1,h2])
   refine ah.k k2 ?_
   (repeat' with_reducible first|intro _|exact dn|refine rn ?_|refine ra ?_ ?_)
   refine bg.auto 0 ?_ rfl ?_<;>simp only [go_sem,Int.natCast_succ,Post,←e]
 ·have f1:((i:Int)<(r.length:Int))=False:=eq_false (by omega)
  have e:=hdone fun h=>h1 h.1
  (repeat' with_reducible first|intro _|refine rz ?_|refine ra ?_ ?_|omega|simp only [go_sem,f1])
  refine ah.k k2 ?_
  (repeat' with_reducible first|intro _|exact dn|refine rn ?_|refine ra ?_ ?_)
  refine bg.auto 0 ?_ rfl ?_<;>simp only [go_sem,Int.natCast_succ,Post,←e]
theorem vk:aC Tryz.prog 150 [] (.own 0) [(0,.row 9 (.strs bH))]:=by
 refine aC.aJ Tryz.func150 rfl (by decide) (by simp [Tryz.f150]) [.tmp 0] rfl fun w0 T0 _=>?_
 simp only [Tryz.f150,aB]
 (repeat' with_reducible first|intro _|exact dn|refine rn ?_|refine ra ?_ ?_)
 refine bg.auto 1 ?_ rfl ?_<;>simp only [go_sem,Int.natCast_succ,Post,bH]
theorem kG:aC Tryz.prog 101 [] (.own 0) [(0,.row 9 (.strs bH))]:=by
 refine aC.aJ Tryz.func101 rfl (by decide) (by simp [Tryz.f101]) [.tmp 0] rfl fun w0 T0 _=>?_
 simp only [Tryz.f101,aB]
 (repeat' with_reducible first|intro _|exact dn|refine rn ?_|refine ra ?_ ?_)
 refine bg.auto 1 ?_ rfl ?_<;>simp only [go_sem,Int.natCast_succ,Post,bH]
end Go.Fv.H
/- math/bits.TrailingZeros of 2, by the contract of the shelf. -/
namespace Go.Proofs
open Go.Shelf
def Tryz.lays27_ren:Go.Shelf.Ren:=⟨fun|27=>196|28=>200|29=>201|n=>n,fun|25=>140|3=>3|27=>172|22=>103|4=>4|53=>223|0=>0|5=>5|54=>224|n=>n,fun|0=>6|1=>7|n=>n⟩
theorem Tryz.lays27:Go.Proofs.Lays7.n27 Tryz.prog Tryz.lays27_ren:={
 mixed:=by kernel_rfl
 f27:=Tryz.func196.trans (congrArg some (by kernel_rfl))
 f28:=Tryz.func200.trans (congrArg some (by kernel_rfl))
 f29:=Tryz.func201.trans (congrArg some (by kernel_rfl))
 t0:=Tryz.underlying0
 a0:=Tryz.isAgg0
 z0:=Tryz.sizeOf0
 v0:=Tryz.zeroValue0
 i0:=by kernel_rfl
 t3:=Tryz.underlying3
 a3:=Tryz.isAgg3
 z3:=Tryz.sizeOf3
 v3:=Tryz.zeroValue3
 i3:=by kernel_rfl
 t4:=Tryz.underlying4
 a4:=Tryz.isAgg4
 z4:=Tryz.sizeOf4
 v4:=Tryz.zeroValue4
 i4:=by kernel_rfl
 t5:=Tryz.underlying5
 a5:=Tryz.isAgg5
 z5:=Tryz.sizeOf5
 v5:=Tryz.zeroValue5
 i5:=by kernel_rfl
 t22:=Tryz.underlying103
 a22:=Tryz.isAgg103
 z22:=Tryz.sizeOf103
 v22:=Tryz.zeroValue103
 i22:=by kernel_rfl
 t25:=Tryz.underlying140
 a25:=Tryz.isAgg140
 z25:=Tryz.sizeOf140
 v25:=Tryz.zeroValue140
 i25:=by kernel_rfl
 t27:=Tryz.underlying172
 a27:=Tryz.isAgg172
 z27:=Tryz.sizeOf172
 v27:=Tryz.zeroValue172
 i27:=by kernel_rfl
 t53:=Tryz.underlying223
 a53:=Tryz.isAgg223
 z53:=Tryz.sizeOf223
 v53:=Tryz.zeroValue223
 i53:=by kernel_rfl
 t54:=Tryz.underlying224
 a54:=Tryz.isAgg224
 z54:=Tryz.sizeOf224
 g0:=by kernel_rfl
 g1:=by kernel_rfl }
end Go.Proofs
namespace Go.Fv.H
open Go Go.Proofs
theorem RF {P:Program} {w:World} {g:Nat} (hw:rV P w) (hg:RX P g=some .tab):TabAt g Lib.deBruijn64tab w:=by
 obtain ⟨ob,hh,t,rfl⟩:=hw g _ hg
 intro j hj
 unfold World.cell?
 simp only [hh,Option.isSome_none,Bool.false_eq_true,if_false]
 simp [List.getElem?_map,List.getD,hj]
theorem VL:aC Tryz.prog 196 [.int .u64 2] (.int .i64 1) []:=by
 refine ⟨⟨_,Tryz.func196,by kernel_rfl,by kernel_rfl⟩,fun w T vals hg hv=>?_⟩
 cases hv with
 | cons _ _ _ _ h1 hv=>
  cases hv
  cases h1 with
  | int _ _ e1=>
   have L:=Tryz.lays27
   refine (Any7.bits_TrailingZeros L 2 (by decide) w fun _=>RF hg (by kernel_rfl)).mono ?_
   rintro e w' ⟨rfl,rfl⟩
   refine ⟨_,rfl,iY.refl _ _,fun _=>undef,0,?_,?_,?_⟩
   ·rw [show (Lib.ctz 64 2)=1 by decide]
    exact .int _ _ (jl.2 (by omega))
   ·intro i it h;cases h
   ·intro i j it jt b h;cases h
end Go.Fv.H
/- strconv.FormatInt in base 2. -/
namespace Go.Fv.H
open Go Go.Proofs
def bI (l:Bytes):List Int:=l.map fun c=>(c.toNat:Int)
theorem U4 (l:Bytes):(bI l).length=l.length:=List.length_map ..
theorem drop_at {L:List Int} {i:Nat} (h:i<L.length):L.drop i=L.getD i 0::L.drop (i+1):=by
 rw [List.drop_eq_getElem_cons h];simp [List.getD,h]
theorem set_drop {L:List Int} {i:Nat} (h:i<L.length) (v:Int):(L.set i v).drop i=v::L.drop (i+1):=by
 rw [drop_at (by simpa using h)]
 congr 1
 ·simp [List.getD,h]
 ·apply List.ext_getElem?
  intro j
  simp only [List.getElem?_drop,List.getElem?_set]
  rw [if_neg (by omega)]
theorem and1 (u:Nat) (hu:u<18446744073709551616):fV .and .u64 (u:Int) 1=((u%2:Nat):Int):=by
 have h:=bits_and_u64_nat u 1 hu (by decide)
 rw [Nat.and_one_is_mod] at h
 exact h
theorem O5 {u:Nat} (h:2≤u):jF u=jF (u / 2)++[sZ u]:=uy (by omega)
theorem Ud:aC Tryz.prog 195 [.int .i64 2] (.bool true) []:=by
 refine aC.aJ Tryz.func195 rfl (by decide) (by simp [Tryz.f195]) [.tmp 2] rfl fun w0 T0 _=>?_
 simp only [Tryz.f195,aB]
 have h0:fV BinOp.and IntKind.i64 2 1=0:=by decide
 (repeat' with_reducible first|intro _|refine rz ?_|refine ra ?_ ?_|omega|simp only [go_sem,h0])
 refine bg.auto 0 ?_ rfl ?_<;>simp only [go_sem,Int.natCast_succ,Post,h0]
theorem Xg:zeroOf Tryz.prog 216=some (.agg (Array.replicate 65 (.int .u8 0))):=by kernel_rfl
theorem Xf:Tryz.prog.cellsOf 216=65:=by kernel_rfl
theorem Lu (u:Nat):([48,49,50,51,52,53,54,55,56,57,97,98,99,100,101,102,103,104,105,106,107,108,109,110,111,112,113,114,115,116,117,118,119,120,121,122]:List UInt8).getD (u%2) 0=sZ u:=by
 have:u%2=0∨u%2=1:=by omega
 unfold sZ
 rcases this with e|e<;>rw [e]<;>rfl
theorem Vb {u:Nat} (h:u<2):([48,49,50,51,52,53,54,55,56,57,97,98,99,100,101,102,103,104,105,106,107,108,109,110,111,112,113,114,115,116,117,118,119,120,121,122]:List UInt8).getD u 0=sZ u:=by
 have:=Lu u
 rwa [Nat.mod_eq_of_lt h] at this
theorem XE (u:Nat) (hu:u<18446744073709551616):lF .u64 (u:Int) 1=((u / 2:Nat):Int):=by
 unfold lF
 rw [show (2:Int) ^ (min (1:Int).toNat IntKind.u64.bits)=2 by rfl,Int.fdiv_eq_ediv_of_nonneg _ (by decide)]
 rfl
theorem SG (l:Bytes):(bI l).map (fun n=>UInt8.ofNat n.toNat)=l:=by
 unfold bI
 rw [List.map_map]
 conv=>rhs;rw [←List.map_id l]
 apply List.map_congr_left
 intro c _
 simp
structure FB where
 i:Nat
 u:Nat
 L:List Int
structure X8 (n:Nat) (x:FB):Prop where
 l:x.L.length=65
 i:x.i≤65
 u:x.u≤1048576
 s:∃ sfx:Bytes,x.L.drop x.i=bI sfx∧jF x.u++sfx=jF n
set_option maxHeartbeats 2000000 in
theorem Jz (n:Nat) (hn:n≤1048576) :
  aC Tryz.prog 182 [.nilS,.int .u64 n,.int .i64 2,.bool false,.bool false] (.tup [.own 0,.str (jF n)]) [(0,.row 5 (.ints .u8 []))]:=by
 have k1:=Ud
 have k2:=VL
 refine aC.aJ Tryz.func182 rfl (by decide) (by simp [Tryz.f182]) [.tmp 10,.tmp 11] rfl fun w0 T0 _=>?_
 simp only [Tryz.f182,aB]
 (repeat' with_reducible first|intro _|refine rz ?_|refine ra ?_ ?_|omega|simp only [go_sem,Xg,Xf,Array.toList_replicate,forall_const,List.forall_mem_replicate])
 refine ah.k k1 ?_
 (repeat' with_reducible first|intro _|exact dn|refine rn ?_|refine ra ?_ ?_)
 refine ah.k k2 ?_
 (repeat' with_reducible first|intro _|exact dn|refine rn ?_|refine ra ?_ ?_)
 refine aH.intro (fun x:FB=>⟨102,[(1,.int .u64 x.u),(2,.int .i64 2),(3,.bool false),(4,.bool false),(10,.own 0),(11,.str []),(12,.ptr 1 0),(13,.int .i64 x.i),(14,.int .u64 1),(15,.int .u64 2),(16,.int .u64 1)],[(0,.row 5 (.ints .u8 [])),(1,.box 216 (x.L.map (.int .u8)))],2⟩) (X8 n) (fun x=>x.u) ⟨65,n,List.replicate 65 0⟩ ?_ ⟨by simp,by dsimp only;omega,hn,[],by simp [bI],by simp⟩ fun x hI=>?_
 ·refine aK.ak rfl ?_ ?_<;>simp only [go_sem,Int.natCast_succ]
  all_goals rfl
 obtain ⟨i,u,L⟩:=x
 obtain ⟨hL,hi,hu,sfx,hs,hb⟩:=hI
 dsimp only at *
 have hsl:sfx.length=65 - i:=by
  have:=congrArg List.length hs
  rw [List.length_drop,U4] at this;omega
 have hbl:=congrArg List.length hb
 rw [List.length_append] at hbl
 have hnl:=uz 20 n (by rw [show (2:Nat) ^ (20+1)=2097152 from rfl];omega)
 have hup:=uD u
 have ha:=and1 u (by omega)
 have hsh:=XE u (by omega)
 have hdm:=Lu u
 have hi1:1≤i:=by omega
 have hin:((i:Int) - 1).toNat=i - 1:=by omega
 have hst:∀ v:Int,(L.set (i - 1) v).drop (i - 1)=v::L.drop i:=fun v=>by
  have:=set_drop (L:=L) (i:=i - 1) (by omega) v
  rwa [show i - 1+1=i by omega] at this
 (repeat' with_reducible first|intro _|refine rz ?_|refine ra ?_ ?_|omega|simp only [go_sem,ha])
 ·rename_i h2
  have h2:2≤u:=by omega
  refine ⟨⟨i - 1,u / 2,L.set (i - 1) ((sZ u).toNat:Int)⟩,aK.ak rfl ?_ ?_,⟨by simpa using hL,by dsimp only;omega,by dsimp only;omega,sZ u::sfx,by dsimp only;rw [hst,hs];rfl,?_⟩,by dsimp only;omega⟩
  ·simp only [go_sem,Int.natCast_succ,hsh,hdm,hin]
   omega
  ·simp only [go_sem,Int.natCast_succ,hsh,hdm,hin]
  ·dsimp only
   rw [O5 h2,List.append_assoc] at hb
   exact hb
 ·rename_i h2
  have h2:u<2:=by omega
  have hbu:jF u=[sZ u]:=qP h2
  have hdl:=Vb h2
  have hr:List.map (fun n=>UInt8.ofNat n.toNat) (((sZ u).toNat:Int)::L.drop i)=jF n:=by
   rw [hs,←hb,hbu]
   exact SG (sZ u::sfx)
  refine bg.auto 1 ?_ rfl ?_<;>simp only [go_sem,Int.natCast_succ,Post,hdl,hin,hst,hr]
theorem JA (n:Nat) (hn:n≤1048576):aC Tryz.prog 138 [.int .i64 n,.int .i64 2] (.str (jF n)) []:=by
 have k:=Jz n hn
 refine aC.aJ Tryz.func138 rfl (by decide) (by simp [Tryz.f138]) [.tmp 4] rfl fun w0 T0 _=>?_
 simp only [Tryz.f138,aB]
 have hz:decide ((n:Int)<0)=false:=by simp
 (repeat' with_reducible first|intro _|refine rz ?_|refine ra ?_ ?_|omega|simp only [go_sem,hz])
 refine ah.fr (fD.iF k rfl rfl) (by simp only [aI,aO,bT,aT,aF,List.drop_zero,lk,reduceIte,reduceCtorEq,Nat.reduceEqDiff,Option.some.injEq,Item.row.injEq,Item.box.injEq,AV.ro.injEq,exists_eq_left,exists_and_left,exists_eq_left',exists_eq_right,and_assoc,and_true,true_and,List.cons.injEq,exists_eq',exists_eq,hz];exact ⟨_,.inl rfl,rfl⟩) 1 rfl (by simp [gG,Item.below,gQ]) ?_
 (repeat' with_reducible first|intro _|exact dn|refine rn ?_|refine ra ?_ ?_)
 refine bg.auto 0 ?_ rfl ?_<;>simp only [go_sem,Int.natCast_succ,Post]
theorem Du (n:Nat) (hn:n≤1048576):aC Tryz.prog 98 [.int .i64 n,.int .i64 2] (.str (jF n)) []:=by
 have k:=JA n hn
 refine aC.aJ Tryz.func98 rfl (by decide) (by simp [Tryz.f98]) [.tmp 4] rfl fun w0 T0 _=>?_
 simp only [Tryz.f98,aB]
 (repeat' with_reducible first|intro _|exact dn|refine rn ?_|refine ra ?_ ?_)
 refine ah.k k ?_
 (repeat' with_reducible first|intro _|exact dn|refine rn ?_|refine ra ?_ ?_)
 refine bg.auto 0 ?_ rfl ?_<;>simp only [go_sem,Int.natCast_succ,Post]
end Go.Fv.H
/- strings.HasPrefix. -/
namespace Go.Fv.H
open Go Go.Proofs
theorem take_prefix (s p:List UInt8):decide ((p.length:Int)≤(s.length:Int)∧s.take p.length=p)=p.isPrefixOf s:=by
 rw [Bool.eq_iff_iff,decide_eq_true_eq,List.isPrefixOf_iff_prefix]
 constructor
 ·rintro ⟨_,h⟩;exact List.prefix_iff_eq_take.2 h.symm
 ·intro h;exact ⟨by have:=h.length_le;omega,(List.prefix_iff_eq_take.1 h).symm⟩
theorem BZ (s p:List UInt8):aC Tryz.prog 169 [.str s,.str p] (.bool (p.isPrefixOf s)) []:=by
 rw [←take_prefix]
 refine aC.aJ Tryz.func169 rfl (by decide) (by simp [Tryz.f169]) [.tmp 4] rfl fun w0 T0 _=>?_
 simp only [Tryz.f169,aB]
 (repeat' with_reducible first|intro _|refine rz ?_|refine ra ?_ ?_|omega|simp only [go_sem,Nat.sub_zero,Int.toNat_natCast,Int.toNat_zero])
 refine bg.auto 0 ?_ rfl ?_<;>simp only [go_sem,Int.natCast_succ,Post]
theorem oI (s p:List UInt8):aC Tryz.prog 122 [.str s,.str p] (.bool (p.isPrefixOf s)) []:=by
 have k:=BZ s p
 refine aC.aJ Tryz.func122 rfl (by decide) (by simp [Tryz.f122]) [.tmp 4] rfl fun w0 T0 _=>?_
 simp only [Tryz.f122,aB]
 (repeat' with_reducible first|intro _|exact dn|refine rn ?_|refine ra ?_ ?_)
 refine ah.k k ?_
 (repeat' with_reducible first|intro _|exact dn|refine rn ?_|refine ra ?_ ?_)
 refine bg.auto 0 ?_ rfl ?_<;>simp only [go_sem,Int.natCast_succ,Post]
end Go.Fv.H
/- strings.Repeat of a zero, up to twenty times. -/
namespace Go.Proofs
open Go.Shelf
def Tryz.Ho:Go.Shelf.Ren:=⟨fun|212=>121|263=>167|264=>168|n=>n,fun|46=>140|51=>172|146=>194|53=>103|148=>196|n=>n,fun|n=>n⟩
theorem Tryz.lays212:Go.Proofs.Lays.n212 Tryz.prog Tryz.Ho:={
 mixed:=by kernel_rfl
 f212:=Tryz.func121.trans (congrArg some (by kernel_rfl))
 f263:=Tryz.func167.trans (congrArg some (by kernel_rfl))
 f264:=Tryz.func168.trans (congrArg some (by kernel_rfl))
 t46:=Tryz.underlying140
 a46:=Tryz.isAgg140
 z46:=Tryz.sizeOf140
 v46:=Tryz.zeroValue140
 t51:=Tryz.underlying172
 a51:=Tryz.isAgg172
 z51:=Tryz.sizeOf172
 v51:=Tryz.zeroValue172
 t53:=Tryz.underlying103
 a53:=Tryz.isAgg103
 z53:=Tryz.sizeOf103
 v53:=Tryz.zeroValue103
 t146:=Tryz.underlying194
 a146:=Tryz.isAgg194
 z146:=Tryz.sizeOf194
 v146:=Tryz.zeroValue194
 t148:=Tryz.underlying196
 a148:=Tryz.isAgg196
 z148:=Tryz.sizeOf196
 v148:=Tryz.zeroValue196 }
end Go.Proofs
namespace Go.Fv.H
open Go Go.Proofs
theorem TR (k:Nat) (hk:k≤1000):aC Tryz.prog 121 [.int .u64 1,.int .u64 k] (.tup [.int .u64 0,.int .u64 k]) []:=by
 refine ⟨⟨_,Tryz.func121,by kernel_rfl,by kernel_rfl⟩,fun w T vals hg hv=>?_⟩
 cases hv with
 | cons _ _ _ _ h1 hv=>cases hv with
  | cons _ _ _ _ h2 hv=>
   cases hv
   cases h1 with
   | int _ _ e1=>cases h2 with
    | int _ _ e2=>
     refine (Any.bits_Mul Tryz.lays212 1 k (by omega) (by omega) w).mono ?_
     rintro e w' ⟨rfl,rfl⟩
     refine ⟨_,rfl,iY.refl _ _,fun _=>undef,0,?_,?_,?_⟩
     ·rw [Nat.one_mul,show k / 18446744073709551616=0 by omega,Nat.mod_eq_of_lt (by omega:k<18446744073709551616)]
      exact .tup _ [_,_] (.cons _ _ _ _ (.int _ _ (kT.2 (by omega))) (.cons _ _ _ _ (.int _ _ (kT.2 (by omega))) .nil))
     ·intro i it h;cases h
     ·intro i j it jt b h;cases h
theorem KT (k:Nat) (h:k≤64):(List.replicate 64 (48:UInt8)).take k=List.replicate k 48:=by rw [List.take_replicate,Nat.min_eq_left h]
theorem WS (l r:List UInt8):([48]:List UInt8).isPrefixOf ((32::l).append r)=false:=rfl
theorem WT (l r:List UInt8):([48]:List UInt8).isPrefixOf ((45::l).append r)=false:=rfl
theorem WU (l:List UInt8):([48]:List UInt8).isPrefixOf (48::l)=true:=rfl
set_option maxHeartbeats 4000000 in
theorem MX (k:Nat) (hk:k≤20):aC Tryz.prog 92 [.str [48],.int .i64 k] (.str (List.replicate k 48)) []:=by
 have km:=TR k (by omega)
 refine aC.aJ Tryz.func92 rfl (by decide) (by simp [Tryz.f92]) [.tmp 4] rfl fun w0 T0 _=>?_
 simp only [Tryz.f92,aB]
 by_cases h0:k=0
 ·subst h0
  (repeat' with_reducible first|intro _|exact dn|refine rn ?_|refine ra ?_ ?_)
  refine bg.auto 0 ?_ rfl ?_<;>simp only [go_sem,Int.natCast_succ,Post]
 by_cases h1:k=1
 ·subst h1
  (repeat' with_reducible first|intro _|exact dn|refine rn ?_|refine ra ?_ ?_)
  refine bg.auto 0 ?_ rfl ?_<;>simp only [go_sem,Int.natCast_succ,Post]
  all_goals rfl
 have hg:((([48]:List UInt8).getD 0 0).toNat:Int)=48:=rfl
 have b1:((k:Int)≤128)=True:=eq_true (by omega)
 have b2:((k:Int)≤64)=True:=eq_true (by omega)
 have b3:(9223372036854775807<(k:Int))=False:=eq_false (by omega)
 have b4:((k:Int)<0)=False:=eq_false (by omega)
 have b5:((k:Int)=0)=False:=eq_false (by omega)
 have b6:((k:Int)=1)=False:=eq_false (by omega)
 (repeat' with_reducible first|intro _|refine rz ?_|refine ra ?_ ?_|omega|simp only [go_sem,b3,b4,b5,b6])
 refine ah.k km ?_
 (repeat' with_reducible first|intro _|refine rz ?_|refine ra ?_ ?_|omega|simp only [go_sem,hg,b1,b2,b3])
 refine ah.k (oI _ [48]) ?_ rfl rfl ⟨_,_,rfl,⟨_,_,rfl,rfl,rfl⟩,rfl⟩
 (repeat' with_reducible first|intro _|refine rz ?_|refine ra ?_ ?_|omega|simp only [go_sem,hg,b1,b2,b3,WS])
 refine ah.k (oI _ [48]) ?_ rfl rfl ⟨_,_,rfl,⟨_,_,rfl,rfl,rfl⟩,rfl⟩
 (repeat' with_reducible first|intro _|refine rz ?_|refine ra ?_ ?_|omega|simp only [go_sem,hg,b1,b2,b3,WT])
 refine ah.k (oI _ [48]) ?_ rfl rfl ⟨_,_,rfl,⟨_,_,rfl,rfl,rfl⟩,rfl⟩
 (repeat' with_reducible first|intro _|refine rz ?_|refine ra ?_ ?_|omega|simp only [go_sem,hg,b1,b2,b3,WU])
 refine bg.auto 0 ?_ rfl ?_<;>simp only [go_sem,Int.natCast_succ,Post]
 exact KT k (by omega)
end Go.Fv.H
/- Writing numbers: the walk. -/
namespace Go.Fv.H
open Go Go.Proofs
theorem qh (n:Nat) (hn:n≤1048576):aC Tryz.prog 157 [.int .i64 n] (.str (eH n)) []:=by
 have k1:=Du n hn
 have hl:=uz 20 n (by rw [show (2:Nat) ^ (20+1)=2097152 from rfl];omega)
 have hp:=uD n
 have k2:=MX ((jF n).length - 1) (by omega)
 have e:(((jF n).length - 1:Nat):Int)=((jF n).length:Int) - 1:=by omega
 rw [e] at k2
 refine aC.aJ Tryz.func157 rfl (by decide) (by simp [Tryz.f157]) [.tmp 2] rfl fun w0 T0 _=>?_
 simp only [Tryz.f157,aB]
 (repeat' with_reducible first|intro _|exact dn|refine rn ?_|refine ra ?_ ?_)
 refine ah.k k1 ?_
 (repeat' with_reducible first|intro _|exact dn|refine rn ?_|refine ra ?_ ?_)
 refine ah.k k2 ?_
 (repeat' with_reducible first|intro _|refine rz ?_|refine ra ?_ ?_|omega|simp only [go_sem,List.length_replicate])
 refine bg.auto 0 ?_ rfl ?_<;>simp only [go_sem,Int.natCast_succ,Post,eH]
theorem dR (n:Nat) (hn:n≤1048576):aC Tryz.prog 61 [.int .i64 n] (.str (eH n)) []:=by
 have k1:=Du n hn
 have hl:=uz 20 n (by rw [show (2:Nat) ^ (20+1)=2097152 from rfl];omega)
 have hp:=uD n
 have k2:=MX ((jF n).length - 1) (by omega)
 have e:(((jF n).length - 1:Nat):Int)=((jF n).length:Int) - 1:=by omega
 rw [e] at k2
 refine aC.aJ Tryz.func61 rfl (by decide) (by simp [Tryz.f61]) [.tmp 2] rfl fun w0 T0 _=>?_
 simp only [Tryz.f61,aB]
 (repeat' with_reducible first|intro _|exact dn|refine rn ?_|refine ra ?_ ?_)
 refine ah.k k1 ?_
 (repeat' with_reducible first|intro _|exact dn|refine rn ?_|refine ra ?_ ?_)
 refine ah.k k2 ?_
 (repeat' with_reducible first|intro _|refine rz ?_|refine ra ?_ ?_|omega|simp only [go_sem,List.length_replicate])
 refine bg.auto 0 ?_ rfl ?_<;>simp only [go_sem,Int.natCast_succ,Post,eH]
end Go.Fv.H
/- The reference's Line: the walk. -/
namespace Go.Fv.H
open Go Go.Proofs
theorem bU {n:Nat} (h:n≤1048576):(eH n).length≤41:=by
 have h1:=uz 20 n (by rw [show (2:Nat) ^ (20+1)=2097152 from rfl];omega)
 rw [EG];omega
theorem JR (k:Nat):(bH.getD k []).length≤7:=by
 by_cases h:k≤6
 ·have:k=0∨k=1∨k=2∨k=3∨k=4∨k=5∨k=6:=by omega
  rcases this with rfl|rfl|rfl|rfl|rfl|rfl|rfl<;>decide
 ·rw [List.getD_eq_getElem?_getD,List.getElem?_eq_none (by show 7≤k;omega)];decide
theorem uZ {row above:List Bool} (hr:row.length≤4000) (p:Nat) (ink:Bool):(aN row above p ink).c.length≤85:=by
 have h1:=iy row p
 have h2:=iy row (dU row p+1)
 unfold aN
 split
 ·exact (by decide:fP.length≤85)
 ·split
  ·dsimp only;have:=JR (dU row p+3 - fG above p (!ink));omega
  ·dsimp only
   rw [List.length_append,List.length_append]
   have g1:=bU (n:=dU row p - (p - 1)+1) (by omega)
   have g2:=bU (n:=dU row (dU row p+1) - dU row p+1) (by omega)
   have:fU.length=3:=rfl
   omega
structure XT where
 p:Nat
 k:Bool
 o:Bytes
structure UO (row above:List Bool) (x:XT):Prop where
 hp:x.p≤row.length+1
 ho:x.o++yL row above x.p x.k=yL row above 0 false
 hl:x.o.length≤100*x.p
 hz:row.length=0→x.o=[]
theorem UO.step {row above:List Bool} (hw:above.length=row.length) (hr:row.length≤4000) {p:Nat} {k:Bool} {o:Bytes} (h:UO row above ⟨p,k,o⟩) (hp:p≤row.length) (h0:0<row.length) {c:Bytes} {q:Nat} {k2:Bool} (e:aN row above p k=⟨c,q,k2⟩):p<q∧q≤row.length+1∧UO row above ⟨q,k2,o++c⟩∧c.length≤85:=by
 obtain ⟨h1,h2,h3,h4⟩:=h
 have hs:=lM hw hp k
 have hsh:=uZ (above:=above) hr p k
 have hg:=nT hw hp k
 rw [e] at hs hsh hg
 dsimp only at *
 refine ⟨hs.1,hs.2,⟨hs.2,?_,?_,fun h=>by omega⟩,hsh⟩
 ·dsimp only;rw [List.append_assoc,←hg];exact h2
 ·dsimp only;rw [List.length_append];omega
theorem UO.done {row above:List Bool} {p:Nat} {k:Bool} {o:Bytes} (h:UO row above ⟨p,k,o⟩) (hp:¬(p≤row.length∧0<row.length)):o=jv row above:=by
 obtain ⟨h1,h2,h3,h4⟩:=h
 unfold jv
 by_cases h0:row.length=0
 ·rw [if_pos h0];exact h4 h0
 ·dsimp only at h2
  rw [if_neg h0,←h2,lY (by omega),List.append_nil]
set_option maxHeartbeats 8000000 in
theorem J7 (row above:List Bool) (hr:row.length≤4000) (hw:above.length=row.length) :
  aC Tryz.prog 62 [.ro (.bools row),.ro (.bools above)] (.str (jv row above)) []:=by
 refine aC.aJ Tryz.func62 rfl (by decide) (by simp [Tryz.f62]) [.tmp 4] rfl fun w0 T0 _=>?_
 simp only [Tryz.f62,aB]
 (repeat' with_reducible first|intro _|exact dn|refine rn ?_|refine ra ?_ ?_)
 refine aH.intro (fun x:XT=>⟨95,[(5,.str x.o),(8,.int .i64 ((x.p:Int) - 1)),(7,.bool x.k),(6,.int .i64 row.length),(1,.ro (.bools above)),(0,.ro (.bools row))],[],0⟩) (UO row above) (fun x=>row.length+1 - x.p) ⟨0,false,[]⟩ ?_ ⟨by dsimp only;omega,rfl,by simp,fun _=>rfl⟩ fun x hI=>?_
 ·refine aK.ak rfl ?_ ?_<;>simp only [go_sem,Int.natCast_succ]
  all_goals rfl
 obtain ⟨p,k,o⟩:=x
 have hI0:=hI
 obtain ⟨hp,ho,hl,_⟩:=hI
 dsimp only at *
 by_cases hlt:p≤row.length∧0<row.length
 rotate_left
 ·have hres:=hI0.done hlt
  by_cases h0:0<row.length
  ·have f1:((p:Int) - 1<(row.length:Int))=False:=eq_false (by omega)
   (repeat' with_reducible first|intro _|refine rz ?_|refine ra ?_ ?_|omega|simp only [go_sem,f1])
   refine bg.auto 0 ?_ rfl ?_<;>simp only [go_sem,Int.natCast_succ,Post,hres]
  ·have f2:(0<(row.length:Int))=False:=eq_false (by omega)
   by_cases h1:(p:Int) - 1<(row.length:Int)
   ·have f1:((p:Int) - 1<(row.length:Int))=True:=eq_true h1
    (repeat' with_reducible first|intro _|refine rz ?_|refine ra ?_ ?_|omega|simp only [go_sem,f1,f2])
    refine bg.auto 0 ?_ rfl ?_<;>simp only [go_sem,Int.natCast_succ,Post,hres]
   ·have f1:((p:Int) - 1<(row.length:Int))=False:=eq_false h1
    (repeat' with_reducible first|intro _|refine rz ?_|refine ra ?_ ?_|omega|simp only [go_sem,f1])
    refine bg.auto 0 ?_ rfl ?_<;>simp only [go_sem,Int.natCast_succ,Post,hres]
 obtain ⟨hle,hw0⟩:=hlt
 have f1:((p:Int) - 1<(row.length:Int))=True:=eq_true (by omega)
 have f2:(0<(row.length:Int))=True:=eq_true (by omega)
 have k1:=y8 row p ((p:Int) - 1) rfl (by omega) hr
 have c1:=iy row p
 have c2:=jo hle
 have k3:=VO above p ((p:Int) - 1) k rfl (by omega) (by omega)
 obtain ⟨a1,hA⟩:∃ a1,dU row p=a1:=⟨_,rfl⟩
 rw [hA] at k1 c1 c2
 obtain ⟨a2,hA2⟩:∃ a2,dU row (a1+1)=a2:=⟨_,rfl⟩
 have c3:=iy row (a1+1)
 have k2:=y8 row (a1+1) (a1:Int) (by omega) (by omega) hr
 rw [hA2] at c3 k2
 have c4:a1≤a2:=by
  by_cases h:a1<row.length
  ·have:=jo (r:=row) (i:=a1+1) (by omega);omega
  ·rw [iW (by omega)] at hA2;omega
 (repeat' with_reducible first|intro _|refine rz ?_|refine ra ?_ ?_|omega|simp only [go_sem,f1,f2])
 refine ah.k k1 ?_
 by_cases hz:p=0∧row.getD 0 false=true
 ·obtain ⟨h0,h1⟩:=hz
  have ha0:a1=0:=by
   rw [←hA,h0,wI hw0,if_neg]
   rw [h1,Q7];decide
  have f3:((p:Int) - 1<0)=True:=eq_true (by omega)
  subst ha0
  rw [Int.natCast_zero] at k2
  (repeat' with_reducible first|intro _|refine rz ?_|refine ra ?_ ?_|omega|simp only [go_sem,f2,f3,h1])
  refine ah.k k2 ?_
  (repeat' with_reducible first|intro _|exact dn|refine rn ?_|refine ra ?_ ?_)
  obtain ⟨b1,hB1⟩:∃ b1,fG above p (!k)=b1:=⟨_,rfl⟩
  rw [hB1] at k3
  obtain ⟨b2,hB2⟩:∃ b2,dU above (b1+1)=b2:=⟨_,rfl⟩
  rw [hB2] at k3
  have hb1:=mX (r:=above) (i:=p) (by omega) (!k)
  rw [hB1] at hb1
  refine ah.k k3 ?_
  by_cases s1:b2<0
  ·exact absurd s1 (by omega)
  have f5:((b2:Int)<(0:Int))=False:=eq_false (by omega)
  by_cases s2:0≤b1+3∧b1≤0+3
  ·have f6:(-3≤(0:Int) - (b1:Int))=True:=eq_true (by omega)
   have f7:((0:Int) - (b1:Int)≤3)=True:=eq_true (by omega)
   have e:aN row above p k=⟨bH.getD (3 - b1) [],0+1,!k⟩:=by unfold aN;rw [hB1,hB2,hA,if_neg s1,if_pos s2]<;>rfl
   obtain ⟨q1,q2,q3,q4⟩:=hI0.step hw hr hle hw0 e
   have hix:((0:Int) - (b1:Int)+3).toNat=3 - b1:=by omega
   have hnl:bH.length=7:=rfl
   (repeat' with_reducible first|intro _|refine rz ?_|refine ra ?_ ?_|omega|simp only [go_sem,f5,f6,f7])
   refine ah.o kG 1 ?_
   (repeat' with_reducible first|intro _|refine rz ?_|refine ra ?_ ?_|omega|simp only [go_sem,hix,hnl])
   refine ⟨⟨0+1,!k,o++bH.getD (3 - b1) []⟩,aK.ak rfl ?_ ?_,q3,by dsimp only;omega⟩<;>simp only [go_sem,Int.natCast_succ]
   all_goals omega
  have e:aN row above p k=⟨fU++(eH (0 - (p - 1)+1)++eH (a2 - 0+1)),a2+1,k⟩:=by unfold aN;rw [hB1,hB2,hA,if_neg s1,if_neg s2,hA2]
  obtain ⟨q1,q2,q3,q4⟩:=hI0.step hw hr hle hw0 e
  have hmx:max ((p:Int) - 1) 0=((p - 1:Nat):Int):=by omega
  have g1:=dR (0 - (p - 1)+1) (by omega)
  rw [show ((0 - (p - 1)+1:Nat):Int)=(0:Int) - ((p - 1:Nat):Int)+1 by omega] at g1
  have g2:=dR (a2 - 0+1) (by omega)
  rw [show ((a2 - 0+1:Nat):Int)=(a2:Nat) - (0:Int)+1 by omega] at g2
  have hs1:=bU (n:=0 - (p - 1)+1) (by omega)
  have hs2:=bU (n:=a2 - 0+1) (by omega)
  generalize eH (0 - (p - 1)+1)=x1 at *
  generalize eH (a2 - 0+1)=x2 at *
  have fin:∀ (F:Prop),F→F:=fun _ h=>h
  by_cases s3:0+3<b1
  ·have f6:(-3≤(0:Int) - (b1:Int))=False:=eq_false (by omega)
   (repeat' with_reducible first|intro _|refine rz ?_|refine ra ?_ ?_|omega|simp only [go_sem,f5,f6,hmx])
   refine ah.k g1 ?_
   (repeat' with_reducible first|intro _|exact dn|refine rn ?_|refine ra ?_ ?_)
   refine ah.k g2 ?_
   (repeat' with_reducible first|intro _|exact dn|refine rn ?_|refine ra ?_ ?_)
   refine ⟨⟨a2+1,k,o++(fU++(x1++x2))⟩,aK.ak rfl ?_ ?_,q3,by dsimp only;omega⟩<;>simp only [go_sem,Int.natCast_succ,fU,List.append_assoc]
   all_goals omega
  ·exact absurd ⟨by omega,by omega⟩ s2
 have hcase:(((p:Int) - 1<0)=False)∨(((p:Int) - 1<0)=True∧row.getD 0 false=false):=by
  by_cases h:p=0
  ·right
   refine ⟨eq_true (by omega),?_⟩
   cases hb:row.getD 0 false with
   | false=>rfl
   | true=>exact absurd ⟨h,hb⟩ hz
  ·exact .inl (eq_false (by omega))
 by_cases ha:a1<row.length
 ·have f4:((a1:Int)<(row.length:Int))=True:=eq_true (by omega)
  rcases hcase with f3|⟨f3,f8⟩
  ·(repeat' with_reducible first|intro _|refine rz ?_|refine ra ?_ ?_|omega|simp only [go_sem,f2,f3,f4])
   refine ah.k k2 ?_
   (repeat' with_reducible first|intro _|exact dn|refine rn ?_|refine ra ?_ ?_)
   obtain ⟨b1,hB1⟩:∃ b1,fG above p (!k)=b1:=⟨_,rfl⟩
   rw [hB1] at k3
   obtain ⟨b2,hB2⟩:∃ b2,dU above (b1+1)=b2:=⟨_,rfl⟩
   rw [hB2] at k3
   have hb1:=mX (r:=above) (i:=p) (by omega) (!k)
   rw [hB1] at hb1
   refine ah.k k3 ?_
   by_cases s1:b2<a1
   ·have f5:((b2:Int)<(a1:Int))=True:=eq_true (by omega)
    have e:aN row above p k=⟨fP,b2+1,k⟩:=by unfold aN;rw [hB1,hB2,hA,if_pos s1]
    obtain ⟨q1,q2,q3,q4⟩:=hI0.step hw hr hle hw0 e
    (repeat' with_reducible first|intro _|refine rz ?_|refine ra ?_ ?_|omega|simp only [go_sem,f5])
    refine ⟨⟨b2+1,k,o++fP⟩,aK.ak rfl ?_ ?_,q3,by dsimp only;omega⟩<;>simp only [go_sem,Int.natCast_succ,fP]
    all_goals omega
   have f5:((b2:Int)<(a1:Int))=False:=eq_false (by omega)
   by_cases s2:a1≤b1+3∧b1≤a1+3
   ·have f6:(-3≤(a1:Int) - (b1:Int))=True:=eq_true (by omega)
    have f7:((a1:Int) - (b1:Int)≤3)=True:=eq_true (by omega)
    have e:aN row above p k=⟨bH.getD (a1+3 - b1) [],a1+1,!k⟩:=by unfold aN;rw [hB1,hB2,hA,if_neg s1,if_pos s2]<;>rfl
    obtain ⟨q1,q2,q3,q4⟩:=hI0.step hw hr hle hw0 e
    have hix:((a1:Int) - (b1:Int)+3).toNat=a1+3 - b1:=by omega
    have hnl:bH.length=7:=rfl
    (repeat' with_reducible first|intro _|refine rz ?_|refine ra ?_ ?_|omega|simp only [go_sem,f5,f6,f7])
    refine ah.o kG 1 ?_
    (repeat' with_reducible first|intro _|refine rz ?_|refine ra ?_ ?_|omega|simp only [go_sem,hix,hnl])
    refine ⟨⟨a1+1,!k,o++bH.getD (a1+3 - b1) []⟩,aK.ak rfl ?_ ?_,q3,by dsimp only;omega⟩<;>simp only [go_sem,Int.natCast_succ]
    all_goals omega
   have e:aN row above p k=⟨fU++(eH (a1 - (p - 1)+1)++eH (a2 - a1+1)),a2+1,k⟩:=by unfold aN;rw [hB1,hB2,hA,if_neg s1,if_neg s2,hA2]
   obtain ⟨q1,q2,q3,q4⟩:=hI0.step hw hr hle hw0 e
   have hmx:max ((p:Int) - 1) 0=((p - 1:Nat):Int):=by omega
   have g1:=dR (a1 - (p - 1)+1) (by omega)
   rw [show ((a1 - (p - 1)+1:Nat):Int)=(a1:Int) - ((p - 1:Nat):Int)+1 by omega] at g1
   have g2:=dR (a2 - a1+1) (by omega)
   rw [show ((a2 - a1+1:Nat):Int)=(a2:Nat) - (a1:Int)+1 by omega] at g2
   have hs1:=bU (n:=a1 - (p - 1)+1) (by omega)
   have hs2:=bU (n:=a2 - a1+1) (by omega)
   generalize eH (a1 - (p - 1)+1)=x1 at *
   generalize eH (a2 - a1+1)=x2 at *
   have fin:∀ (F:Prop),F→F:=fun _ h=>h
   by_cases s3:a1+3<b1
   ·have f6:(-3≤(a1:Int) - (b1:Int))=False:=eq_false (by omega)
    (repeat' with_reducible first|intro _|refine rz ?_|refine ra ?_ ?_|omega|simp only [go_sem,f5,f6,hmx])
    refine ah.k g1 ?_
    (repeat' with_reducible first|intro _|exact dn|refine rn ?_|refine ra ?_ ?_)
    refine ah.k g2 ?_
    (repeat' with_reducible first|intro _|exact dn|refine rn ?_|refine ra ?_ ?_)
    refine ⟨⟨a2+1,k,o++(fU++(x1++x2))⟩,aK.ak rfl ?_ ?_,q3,by dsimp only;omega⟩<;>simp only [go_sem,Int.natCast_succ,fU,List.append_assoc]
    all_goals omega
   ·have f6:(-3≤(a1:Int) - (b1:Int))=True:=eq_true (by omega)
    have f7:((a1:Int) - (b1:Int)≤3)=False:=eq_false (by omega)
    (repeat' with_reducible first|intro _|refine rz ?_|refine ra ?_ ?_|omega|simp only [go_sem,f5,f6,f7,hmx])
    refine ah.k g1 ?_
    (repeat' with_reducible first|intro _|exact dn|refine rn ?_|refine ra ?_ ?_)
    refine ah.k g2 ?_
    (repeat' with_reducible first|intro _|exact dn|refine rn ?_|refine ra ?_ ?_)
    refine ⟨⟨a2+1,k,o++(fU++(x1++x2))⟩,aK.ak rfl ?_ ?_,q3,by dsimp only;omega⟩<;>simp only [go_sem,Int.natCast_succ,fU,List.append_assoc]
    all_goals omega
  ·(repeat' with_reducible first|intro _|refine rz ?_|refine ra ?_ ?_|omega|simp only [go_sem,f2,f3,f4,f8])
   refine ah.k k2 ?_
   (repeat' with_reducible first|intro _|exact dn|refine rn ?_|refine ra ?_ ?_)
   obtain ⟨b1,hB1⟩:∃ b1,fG above p (!k)=b1:=⟨_,rfl⟩
   rw [hB1] at k3
   obtain ⟨b2,hB2⟩:∃ b2,dU above (b1+1)=b2:=⟨_,rfl⟩
   rw [hB2] at k3
   have hb1:=mX (r:=above) (i:=p) (by omega) (!k)
   rw [hB1] at hb1
   refine ah.k k3 ?_
   by_cases s1:b2<a1
   ·have f5:((b2:Int)<(a1:Int))=True:=eq_true (by omega)
    have e:aN row above p k=⟨fP,b2+1,k⟩:=by unfold aN;rw [hB1,hB2,hA,if_pos s1]
    obtain ⟨q1,q2,q3,q4⟩:=hI0.step hw hr hle hw0 e
    (repeat' with_reducible first|intro _|refine rz ?_|refine ra ?_ ?_|omega|simp only [go_sem,f5])
    refine ⟨⟨b2+1,k,o++fP⟩,aK.ak rfl ?_ ?_,q3,by dsimp only;omega⟩<;>simp only [go_sem,Int.natCast_succ,fP]
    all_goals omega
   have f5:((b2:Int)<(a1:Int))=False:=eq_false (by omega)
   by_cases s2:a1≤b1+3∧b1≤a1+3
   ·have f6:(-3≤(a1:Int) - (b1:Int))=True:=eq_true (by omega)
    have f7:((a1:Int) - (b1:Int)≤3)=True:=eq_true (by omega)
    have e:aN row above p k=⟨bH.getD (a1+3 - b1) [],a1+1,!k⟩:=by unfold aN;rw [hB1,hB2,hA,if_neg s1,if_pos s2]<;>rfl
    obtain ⟨q1,q2,q3,q4⟩:=hI0.step hw hr hle hw0 e
    have hix:((a1:Int) - (b1:Int)+3).toNat=a1+3 - b1:=by omega
    have hnl:bH.length=7:=rfl
    (repeat' with_reducible first|intro _|refine rz ?_|refine ra ?_ ?_|omega|simp only [go_sem,f5,f6,f7])
    refine ah.o kG 1 ?_
    (repeat' with_reducible first|intro _|refine rz ?_|refine ra ?_ ?_|omega|simp only [go_sem,hix,hnl])
    refine ⟨⟨a1+1,!k,o++bH.getD (a1+3 - b1) []⟩,aK.ak rfl ?_ ?_,q3,by dsimp only;omega⟩<;>simp only [go_sem,Int.natCast_succ]
    all_goals omega
   have e:aN row above p k=⟨fU++(eH (a1 - (p - 1)+1)++eH (a2 - a1+1)),a2+1,k⟩:=by unfold aN;rw [hB1,hB2,hA,if_neg s1,if_neg s2,hA2]
   obtain ⟨q1,q2,q3,q4⟩:=hI0.step hw hr hle hw0 e
   have hmx:max ((p:Int) - 1) 0=((p - 1:Nat):Int):=by omega
   have g1:=dR (a1 - (p - 1)+1) (by omega)
   rw [show ((a1 - (p - 1)+1:Nat):Int)=(a1:Int) - ((p - 1:Nat):Int)+1 by omega] at g1
   have g2:=dR (a2 - a1+1) (by omega)
   rw [show ((a2 - a1+1:Nat):Int)=(a2:Nat) - (a1:Int)+1 by omega] at g2
   have hs1:=bU (n:=a1 - (p - 1)+1) (by omega)
   have hs2:=bU (n:=a2 - a1+1) (by omega)
   generalize eH (a1 - (p - 1)+1)=x1 at *
   generalize eH (a2 - a1+1)=x2 at *
   have fin:∀ (F:Prop),F→F:=fun _ h=>h
   by_cases s3:a1+3<b1
   ·have f6:(-3≤(a1:Int) - (b1:Int))=False:=eq_false (by omega)
    (repeat' with_reducible first|intro _|refine rz ?_|refine ra ?_ ?_|omega|simp only [go_sem,f5,f6,hmx])
    refine ah.k g1 ?_
    (repeat' with_reducible first|intro _|exact dn|refine rn ?_|refine ra ?_ ?_)
    refine ah.k g2 ?_
    (repeat' with_reducible first|intro _|exact dn|refine rn ?_|refine ra ?_ ?_)
    refine ⟨⟨a2+1,k,o++(fU++(x1++x2))⟩,aK.ak rfl ?_ ?_,q3,by dsimp only;omega⟩<;>simp only [go_sem,Int.natCast_succ,fU,List.append_assoc]
    all_goals omega
   ·have f6:(-3≤(a1:Int) - (b1:Int))=True:=eq_true (by omega)
    have f7:((a1:Int) - (b1:Int)≤3)=False:=eq_false (by omega)
    (repeat' with_reducible first|intro _|refine rz ?_|refine ra ?_ ?_|omega|simp only [go_sem,f5,f6,f7,hmx])
    refine ah.k g1 ?_
    (repeat' with_reducible first|intro _|exact dn|refine rn ?_|refine ra ?_ ?_)
    refine ah.k g2 ?_
    (repeat' with_reducible first|intro _|exact dn|refine rn ?_|refine ra ?_ ?_)
    refine ⟨⟨a2+1,k,o++(fU++(x1++x2))⟩,aK.ak rfl ?_ ?_,q3,by dsimp only;omega⟩<;>simp only [go_sem,Int.natCast_succ,fU,List.append_assoc]
    all_goals omega
 ·have f4:((a1:Int)<(row.length:Int))=False:=eq_false (by omega)
  have ha2:a2=row.length:=by rw [←hA2,iW (by omega)]
  subst ha2
  rcases hcase with f3|⟨f3,f8⟩
  ·(repeat' with_reducible first|intro _|refine rz ?_|refine ra ?_ ?_|omega|simp only [go_sem,f2,f3,f4])
   obtain ⟨b1,hB1⟩:∃ b1,fG above p (!k)=b1:=⟨_,rfl⟩
   rw [hB1] at k3
   obtain ⟨b2,hB2⟩:∃ b2,dU above (b1+1)=b2:=⟨_,rfl⟩
   rw [hB2] at k3
   have hb1:=mX (r:=above) (i:=p) (by omega) (!k)
   rw [hB1] at hb1
   refine ah.k k3 ?_
   by_cases s1:b2<a1
   ·have f5:((b2:Int)<(a1:Int))=True:=eq_true (by omega)
    have e:aN row above p k=⟨fP,b2+1,k⟩:=by unfold aN;rw [hB1,hB2,hA,if_pos s1]
    obtain ⟨q1,q2,q3,q4⟩:=hI0.step hw hr hle hw0 e
    (repeat' with_reducible first|intro _|refine rz ?_|refine ra ?_ ?_|omega|simp only [go_sem,f5])
    refine ⟨⟨b2+1,k,o++fP⟩,aK.ak rfl ?_ ?_,q3,by dsimp only;omega⟩<;>simp only [go_sem,Int.natCast_succ,fP]
    all_goals omega
   have f5:((b2:Int)<(a1:Int))=False:=eq_false (by omega)
   by_cases s2:a1≤b1+3∧b1≤a1+3
   ·have f6:(-3≤(a1:Int) - (b1:Int))=True:=eq_true (by omega)
    have f7:((a1:Int) - (b1:Int)≤3)=True:=eq_true (by omega)
    have e:aN row above p k=⟨bH.getD (a1+3 - b1) [],a1+1,!k⟩:=by unfold aN;rw [hB1,hB2,hA,if_neg s1,if_pos s2]<;>rfl
    obtain ⟨q1,q2,q3,q4⟩:=hI0.step hw hr hle hw0 e
    have hix:((a1:Int) - (b1:Int)+3).toNat=a1+3 - b1:=by omega
    have hnl:bH.length=7:=rfl
    (repeat' with_reducible first|intro _|refine rz ?_|refine ra ?_ ?_|omega|simp only [go_sem,f5,f6,f7])
    refine ah.o kG 1 ?_
    (repeat' with_reducible first|intro _|refine rz ?_|refine ra ?_ ?_|omega|simp only [go_sem,hix,hnl])
    refine ⟨⟨a1+1,!k,o++bH.getD (a1+3 - b1) []⟩,aK.ak rfl ?_ ?_,q3,by dsimp only;omega⟩<;>simp only [go_sem,Int.natCast_succ]
    all_goals omega
   have e:aN row above p k=⟨fU++(eH (a1 - (p - 1)+1)++eH (row.length - a1+1)),row.length+1,k⟩:=by unfold aN;rw [hB1,hB2,hA,if_neg s1,if_neg s2,hA2]
   obtain ⟨q1,q2,q3,q4⟩:=hI0.step hw hr hle hw0 e
   have hmx:max ((p:Int) - 1) 0=((p - 1:Nat):Int):=by omega
   have g1:=dR (a1 - (p - 1)+1) (by omega)
   rw [show ((a1 - (p - 1)+1:Nat):Int)=(a1:Int) - ((p - 1:Nat):Int)+1 by omega] at g1
   have g2:=dR (row.length - a1+1) (by omega)
   rw [show ((row.length - a1+1:Nat):Int)=(row.length:Nat) - (a1:Int)+1 by omega] at g2
   have hs1:=bU (n:=a1 - (p - 1)+1) (by omega)
   have hs2:=bU (n:=row.length - a1+1) (by omega)
   generalize eH (a1 - (p - 1)+1)=x1 at *
   generalize eH (row.length - a1+1)=x2 at *
   have fin:∀ (F:Prop),F→F:=fun _ h=>h
   by_cases s3:a1+3<b1
   ·exact absurd s3 (by omega)
   ·have f6:(-3≤(a1:Int) - (b1:Int))=True:=eq_true (by omega)
    have f7:((a1:Int) - (b1:Int)≤3)=False:=eq_false (by omega)
    (repeat' with_reducible first|intro _|refine rz ?_|refine ra ?_ ?_|omega|simp only [go_sem,f5,f6,f7,hmx])
    refine ah.k g1 ?_
    (repeat' with_reducible first|intro _|exact dn|refine rn ?_|refine ra ?_ ?_)
    refine ah.k g2 ?_
    (repeat' with_reducible first|intro _|exact dn|refine rn ?_|refine ra ?_ ?_)
    refine ⟨⟨row.length+1,k,o++(fU++(x1++x2))⟩,aK.ak rfl ?_ ?_,q3,by dsimp only;omega⟩<;>simp only [go_sem,Int.natCast_succ,fU,List.append_assoc]
    all_goals omega
  ·(repeat' with_reducible first|intro _|refine rz ?_|refine ra ?_ ?_|omega|simp only [go_sem,f2,f3,f4,f8])
   obtain ⟨b1,hB1⟩:∃ b1,fG above p (!k)=b1:=⟨_,rfl⟩
   rw [hB1] at k3
   obtain ⟨b2,hB2⟩:∃ b2,dU above (b1+1)=b2:=⟨_,rfl⟩
   rw [hB2] at k3
   have hb1:=mX (r:=above) (i:=p) (by omega) (!k)
   rw [hB1] at hb1
   refine ah.k k3 ?_
   by_cases s1:b2<a1
   ·have f5:((b2:Int)<(a1:Int))=True:=eq_true (by omega)
    have e:aN row above p k=⟨fP,b2+1,k⟩:=by unfold aN;rw [hB1,hB2,hA,if_pos s1]
    obtain ⟨q1,q2,q3,q4⟩:=hI0.step hw hr hle hw0 e
    (repeat' with_reducible first|intro _|refine rz ?_|refine ra ?_ ?_|omega|simp only [go_sem,f5])
    refine ⟨⟨b2+1,k,o++fP⟩,aK.ak rfl ?_ ?_,q3,by dsimp only;omega⟩<;>simp only [go_sem,Int.natCast_succ,fP]
    all_goals omega
   have f5:((b2:Int)<(a1:Int))=False:=eq_false (by omega)
   by_cases s2:a1≤b1+3∧b1≤a1+3
   ·have f6:(-3≤(a1:Int) - (b1:Int))=True:=eq_true (by omega)
    have f7:((a1:Int) - (b1:Int)≤3)=True:=eq_true (by omega)
    have e:aN row above p k=⟨bH.getD (a1+3 - b1) [],a1+1,!k⟩:=by unfold aN;rw [hB1,hB2,hA,if_neg s1,if_pos s2]<;>rfl
    obtain ⟨q1,q2,q3,q4⟩:=hI0.step hw hr hle hw0 e
    have hix:((a1:Int) - (b1:Int)+3).toNat=a1+3 - b1:=by omega
    have hnl:bH.length=7:=rfl
    (repeat' with_reducible first|intro _|refine rz ?_|refine ra ?_ ?_|omega|simp only [go_sem,f5,f6,f7])
    refine ah.o kG 1 ?_
    (repeat' with_reducible first|intro _|refine rz ?_|refine ra ?_ ?_|omega|simp only [go_sem,hix,hnl])
    refine ⟨⟨a1+1,!k,o++bH.getD (a1+3 - b1) []⟩,aK.ak rfl ?_ ?_,q3,by dsimp only;omega⟩<;>simp only [go_sem,Int.natCast_succ]
    all_goals omega
   have e:aN row above p k=⟨fU++(eH (a1 - (p - 1)+1)++eH (row.length - a1+1)),row.length+1,k⟩:=by unfold aN;rw [hB1,hB2,hA,if_neg s1,if_neg s2,hA2]
   obtain ⟨q1,q2,q3,q4⟩:=hI0.step hw hr hle hw0 e
   have hmx:max ((p:Int) - 1) 0=((p - 1:Nat):Int):=by omega
   have g1:=dR (a1 - (p - 1)+1) (by omega)
   rw [show ((a1 - (p - 1)+1:Nat):Int)=(a1:Int) - ((p - 1:Nat):Int)+1 by omega] at g1
   have g2:=dR (row.length - a1+1) (by omega)
   rw [show ((row.length - a1+1:Nat):Int)=(row.length:Nat) - (a1:Int)+1 by omega] at g2
   have hs1:=bU (n:=a1 - (p - 1)+1) (by omega)
   have hs2:=bU (n:=row.length - a1+1) (by omega)
   generalize eH (a1 - (p - 1)+1)=x1 at *
   generalize eH (row.length - a1+1)=x2 at *
   have fin:∀ (F:Prop),F→F:=fun _ h=>h
   by_cases s3:a1+3<b1
   ·exact absurd s3 (by omega)
   ·have f6:(-3≤(a1:Int) - (b1:Int))=True:=eq_true (by omega)
    have f7:((a1:Int) - (b1:Int)≤3)=False:=eq_false (by omega)
    (repeat' with_reducible first|intro _|refine rz ?_|refine ra ?_ ?_|omega|simp only [go_sem,f5,f6,f7,hmx])
    refine ah.k g1 ?_
    (repeat' with_reducible first|intro _|exact dn|refine rn ?_|refine ra ?_ ?_)
    refine ah.k g2 ?_
    (repeat' with_reducible first|intro _|exact dn|refine rn ?_|refine ra ?_ ?_)
    refine ⟨⟨row.length+1,k,o++(fU++(x1++x2))⟩,aK.ak rfl ?_ ?_,q3,by dsimp only;omega⟩<;>simp only [go_sem,Int.natCast_succ,fU,List.append_assoc]
    all_goals omega
end Go.Fv.H
/- A text is one word just where its tokens are that word alone; small letters. -/
namespace Go.Fv.H
open Go
end Go.Fv.H
/- Small letters: the bytes on the way. -/
namespace Go.Fv.H
open Go Go.Proofs
theorem kY (l:List UInt8):(aj l).length=l.length:=by simp [aj]
theorem wE (l:List UInt8):bytesOf (aj l)=l:=by
 unfold bytesOf aj
 rw [List.map_map]
 conv=>rhs;rw [←List.map_id l]
 refine List.map_congr_left fun b _=>?_
 simp
end Go.Fv.H
/- strings.Builder: copyCheck at this program. -/
namespace Go.Fv.H
open Go Go.Proofs Go.RowKit
theorem Fj (w:World) (g:Nat) (a b v:Value) (t:TypeId) (h:w.heap[g]?=some (.cells #[a,b] t (0,0))):(w.setCell ⟨g,0,none⟩ v).heap[g]?=some (.cells #[v,b] t (0,0)):=by
 unfold World.setCell
 simp [h,Array.getElem?_modify]
theorem Bc (w:World) (g k:Nat) (v:Value) (h:k≠g):(w.setCell ⟨g,0,none⟩ v).heap[k]?=w.heap[k]?:=by
 unfold World.setCell
 simp only [Array.getElem?_modify]
 rw [if_neg (fun e=>h e.symm)]
theorem UJ:(Tryz.prog.info? 89).map (·.size)=some 2:=by kernel_rfl
theorem WI:liesAt Tryz.prog Tryz.prog.depth 89 (2 / Tryz.prog.cellsOf 89) 0 89 1=true:=by kernel_rfl
theorem X5:Tryz.f96.ntmps=20:=rfl
set_option maxHeartbeats 1000000 in
set_option maxRecDepth 100000 in
theorem Pm (b:Nat) (w:World) (h0:w.cell? ⟨b,0,none⟩=some (.pointer (some ⟨b,0,none⟩))) :
  Calls Tryz.prog 96 #[.pointer (some ⟨b,0,none⟩)] w fun e w'=>e=.returned (.tuple #[])∧w'=w:=by
 have t70:=Tryz.underlying87
 have t72:=Tryz.underlying89
 have a72:=Tryz.isAgg89
 have z72:=Tryz.sizeOf89
 have a70:=Tryz.isAgg87
 have z70:=Tryz.sizeOf87
 have hf:=Tryz.func96
 have mixed:Tryz.prog.follows .mixedOrders=true:=by kernel_rfl
 obtain ⟨j,hj,hjs⟩:=Option.map_eq_some_iff.1 UJ
 have u70:=run_underlying t70
 have u72:=run_underlying t72
 have hn:=X5
 generalize Tryz.prog=P at *
 go_enter hf,hn
 go_wp2
 rw [Lib.run_neq_ptr_same w _ t70 hj]
 go_wp2
 go_end0
 exact ⟨rfl,rfl⟩
set_option maxHeartbeats 1000000 in
set_option maxRecDepth 100000 in
theorem Nw (b:Nat) (w:World) (h0:w.cell? ⟨b,0,none⟩=some (.pointer none)) (hsh:w.shape? b=some (89,2)) (hfz:w.frozen? ⟨b,0,none⟩=false) :
  Calls Tryz.prog 96 #[.pointer (some ⟨b,0,none⟩)] w fun e w'=>e=.returned (.tuple #[])∧w'=w.setCell ⟨b,0,none⟩ (.pointer (some ⟨b,0,none⟩)):=by
 have t70:=Tryz.underlying87
 have t72:=Tryz.underlying89
 have t164:=Tryz.underlying168
 have a72:=Tryz.isAgg89
 have z72:=Tryz.sizeOf89
 have a70:=Tryz.isAgg87
 have z70:=Tryz.sizeOf87
 have hf:=Tryz.func96
 have hx:=Tryz.func135
 have mixed:Tryz.prog.follows .mixedOrders=true:=by kernel_rfl
 obtain ⟨j,hj,hjs⟩:=Option.map_eq_some_iff.1 UJ
 have hlies:=WI
 have u70:=run_underlying t70
 have u72:=run_underlying t72
 have hn:=X5
 generalize Tryz.prog=P at *
 go_enter hf,hn
 go_wp2
 rw [Lib.run_to_unsafe w ⟨b,0,none⟩ t70 t164 hj (by rw [hjs];decide) hsh (Nat.zero_lt_succ 1)]
 simp only [Result.andThen]
 rw [Oper.upon_value]
 go_wp2
 rw [run_callFunc_extern hx (by kernel_rfl) (by kernel_rfl) (by kernel_rfl) (e:=Extern.AbiNoEscape.same) (by kernel_rfl)]
 rw [Lib.run_noEscape]
 simp only [Result.andThen]
 rw [Oper.upon_value]
 go_wp2
 rw [Lib.run_from_unsafe w ⟨b,0,none⟩ t164 t70 hj hsh hlies]
 simp only [Result.andThen]
 rw [Oper.upon_value]
 go_wp2
 go_end0
 exact ⟨rfl,rfl⟩
end Go.Fv.H
