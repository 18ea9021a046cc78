/-
  A part of the proof of the claim: walks over the program's functions and the plain laws that these need. No condition of its own.
-/
import Derived.Test.YtodlgmmbfbiilaaGreatDoorHTopPkCardPart3
import Derived.Test.YtodlgmmbfbiilaaGreatDoorHTopPkCardPart2
import Derived.Test.YtodlgmmbfbiilaaGreatDoorHTopPkCardPart1
import Derived.Test.YtodlgmmbfbiilaaGreatDoorFvPart10
import Derived.Test.YtodlgmmbfbiilaaGreatDoorFvPart11
import Derived.Shelf.Spec.TrailingZeros
set_option linter.unusedSimpArgs false
set_option linter.unusedVariables false
set_option linter.unnecessarySimpa false
set_option maxRecDepth 8000
/- The context of a pixel: the walk. -/
namespace Go.Fv.H
open Go Go.Proofs
def dF (w h:Nat) (p:List Bool) (x y:Int) (k:Nat):Nat:=(Qm.take k).foldl (fun n d=>2*n+qw (tN w h p (x+d.1) (y+d.2))) 0
theorem VG (w h:Nat) (p:List Bool) (x y:Int):∀ k,k≤10→dF w h p x y k<1024:=by
 intro k hk
 have key:∀ (l:List (Int × Int)) (n k:Nat),n<2 ^ k→l.foldl (fun n d=>2*n+qw (tN w h p (x+d.1) (y+d.2))) n<2 ^ (k+l.length):=by
  intro l
  induction l with
  | nil=>intro n k hn;exact hn
  | cons d l ih=>
   intro n k hn
   have:=N7 (tN w h p (x+d.1) (y+d.2))
   have h2:=ih (2*n+qw (tN w h p (x+d.1) (y+d.2))) (k+1) (by rw [Nat.pow_succ];omega)
   rw [List.foldl_cons,List.length_cons,Nat.add_comm l.length 1,←Nat.add_assoc];exact h2
 have h1:=key (Qm.take k) 0 0 (by decide)
 have h2:(2:Nat) ^ (0+(Qm.take k).length)≤2 ^ 10:=Nat.pow_le_pow_right (by decide) (by rw [List.length_take];omega)
 unfold dF
 rw [show (2:Nat) ^ 10=1024 from rfl] at h2
 omega
theorem Sz (w h:Nat) (p:List Bool) (x y:Int):dF w h p x y 10=pF w h p x y:=rfl
set_option maxHeartbeats 8000000 in
theorem Ar (w h:Nat) (hw:w≤4000) (hh:h≤4000) (p:List Bool) (hp:p.length=w*h) (x y:Int) (hx:-1≤x∧x≤4000) (hy:-1≤y∧y≤4000) :
  aC Tryz.prog 75 [.agg [.int .i64 w,.int .i64 h,.ro (.bools p)],.int .i64 x,.int .i64 y] (.int .i64 (pF w h p x y)) []:=by
 rw [←Sz]
 have hb:=VG w h p x y
 have ka:=WT w h hw hh p hp
 refine aC.aJ Tryz.func75 rfl (by decide) (by simp [Tryz.f75]) [.tmp 6] rfl fun w0 T0 _=>?_
 simp only [Tryz.f75,aB]
 (repeat' with_reducible first|intro _|exact dn|refine rn ?_|refine ra ?_ ?_)
 refine aI.intro (fun i:Nat=>⟨40,[(21,.int .i64 i),(20,.agg [.int .i64 (-1),.int .i64 (-2),.int .i64 0,.int .i64 (-2),.int .i64 1,.int .i64 (-2),.int .i64 (-2),.int .i64 (-1),.int .i64 (-1),.int .i64 (-1),.int .i64 0,.int .i64 (-1),.int .i64 1,.int .i64 (-1),.int .i64 2,.int .i64 (-1),.int .i64 (-2),.int .i64 0,.int .i64 (-1),.int .i64 0]),(7,.int .i64 (dF w h p x y i)),(3,.ptr 0 0),(2,.int .i64 y),(1,.int .i64 x)],[(0,.box 24 [.int .i64 w,.int .i64 h,.ro (.bools p)])],1⟩) (fun i=>i≤10) (fun i=>10 - i) 0 ?_ (Nat.zero_le _) fun i hi=>?_
 ·refine aO.ak rfl ?_ ?_<;>simp only [go_sem,Int.natCast_succ]
  all_goals rfl
 have hi:i=0∨i=1∨i=2∨i=3∨i=4∨i=5∨i=6∨i=7∨i=8∨i=9∨i=10:=by omega
 rcases hi with rfl|rfl|rfl|rfl|rfl|rfl|rfl|rfl|rfl|rfl|rfl
 ·have h0:=hb 0 (by decide)
  have hF:dF w h p x y 1=2*dF w h p x y 0+qw (tN w h p (x+(-1)) (y+(-2))):=rfl
  have k1:=ka (x+(-1)) (y+(-2))
  generalize dF w h p x y 0=v at *
  generalize tN w h p (x+(-1)) (y+(-2))=b at *
  (repeat' with_reducible first|intro _|refine rz ?_|refine ra ?_ ?_|omega|simp only [go_sem,Int.cast_ofNat_Int])
  refine ah.k k1 ?_
  cases b with
  | true=>
   have hF:dF w h p x y 1=2*v+1:=hF
   (repeat' with_reducible first|intro _|refine rz ?_|refine ra ?_ ?_|omega|simp only [go_sem,Int.cast_ofNat_Int])
   refine ⟨1,aO.ak rfl ?_ ?_,by omega,by omega⟩<;>simp only [go_sem,Int.natCast_succ,hF,Int.cast_ofNat_Int]
   all_goals omega
  | false=>
   have hF:dF w h p x y 1=2*v:=hF
   (repeat' with_reducible first|intro _|refine rz ?_|refine ra ?_ ?_|omega|simp only [go_sem,Int.cast_ofNat_Int])
   refine ⟨1,aO.ak rfl ?_ ?_,by omega,by omega⟩<;>simp only [go_sem,Int.natCast_succ,hF,Int.cast_ofNat_Int]
   all_goals omega
 ·have h0:=hb 1 (by decide)
  have hF:dF w h p x y 2=2*dF w h p x y 1+qw (tN w h p (x+0) (y+(-2))):=rfl
  have k1:=ka (x+0) (y+(-2))
  generalize dF w h p x y 1=v at *
  generalize tN w h p (x+0) (y+(-2))=b at *
  (repeat' with_reducible first|intro _|refine rz ?_|refine ra ?_ ?_|omega|simp only [go_sem,Int.cast_ofNat_Int])
  refine ah.k k1 ?_
  cases b with
  | true=>
   have hF:dF w h p x y 2=2*v+1:=hF
   (repeat' with_reducible first|intro _|refine rz ?_|refine ra ?_ ?_|omega|simp only [go_sem,Int.cast_ofNat_Int])
   refine ⟨2,aO.ak rfl ?_ ?_,by omega,by omega⟩<;>simp only [go_sem,Int.natCast_succ,hF,Int.cast_ofNat_Int]
   all_goals omega
  | false=>
   have hF:dF w h p x y 2=2*v:=hF
   (repeat' with_reducible first|intro _|refine rz ?_|refine ra ?_ ?_|omega|simp only [go_sem,Int.cast_ofNat_Int])
   refine ⟨2,aO.ak rfl ?_ ?_,by omega,by omega⟩<;>simp only [go_sem,Int.natCast_succ,hF,Int.cast_ofNat_Int]
   all_goals omega
 ·have h0:=hb 2 (by decide)
  have hF:dF w h p x y 3=2*dF w h p x y 2+qw (tN w h p (x+1) (y+(-2))):=rfl
  have k1:=ka (x+1) (y+(-2))
  generalize dF w h p x y 2=v at *
  generalize tN w h p (x+1) (y+(-2))=b at *
  (repeat' with_reducible first|intro _|refine rz ?_|refine ra ?_ ?_|omega|simp only [go_sem,Int.cast_ofNat_Int])
  refine ah.k k1 ?_
  cases b with
  | true=>
   have hF:dF w h p x y 3=2*v+1:=hF
   (repeat' with_reducible first|intro _|refine rz ?_|refine ra ?_ ?_|omega|simp only [go_sem,Int.cast_ofNat_Int])
   refine ⟨3,aO.ak rfl ?_ ?_,by omega,by omega⟩<;>simp only [go_sem,Int.natCast_succ,hF,Int.cast_ofNat_Int]
   all_goals omega
  | false=>
   have hF:dF w h p x y 3=2*v:=hF
   (repeat' with_reducible first|intro _|refine rz ?_|refine ra ?_ ?_|omega|simp only [go_sem,Int.cast_ofNat_Int])
   refine ⟨3,aO.ak rfl ?_ ?_,by omega,by omega⟩<;>simp only [go_sem,Int.natCast_succ,hF,Int.cast_ofNat_Int]
   all_goals omega
 ·have h0:=hb 3 (by decide)
  have hF:dF w h p x y 4=2*dF w h p x y 3+qw (tN w h p (x+(-2)) (y+(-1))):=rfl
  have k1:=ka (x+(-2)) (y+(-1))
  generalize dF w h p x y 3=v at *
  generalize tN w h p (x+(-2)) (y+(-1))=b at *
  (repeat' with_reducible first|intro _|refine rz ?_|refine ra ?_ ?_|omega|simp only [go_sem,Int.cast_ofNat_Int])
  refine ah.k k1 ?_
  cases b with
  | true=>
   have hF:dF w h p x y 4=2*v+1:=hF
   (repeat' with_reducible first|intro _|refine rz ?_|refine ra ?_ ?_|omega|simp only [go_sem,Int.cast_ofNat_Int])
   refine ⟨4,aO.ak rfl ?_ ?_,by omega,by omega⟩<;>simp only [go_sem,Int.natCast_succ,hF,Int.cast_ofNat_Int]
   all_goals omega
  | false=>
   have hF:dF w h p x y 4=2*v:=hF
   (repeat' with_reducible first|intro _|refine rz ?_|refine ra ?_ ?_|omega|simp only [go_sem,Int.cast_ofNat_Int])
   refine ⟨4,aO.ak rfl ?_ ?_,by omega,by omega⟩<;>simp only [go_sem,Int.natCast_succ,hF,Int.cast_ofNat_Int]
   all_goals omega
 ·have h0:=hb 4 (by decide)
  have hF:dF w h p x y 5=2*dF w h p x y 4+qw (tN w h p (x+(-1)) (y+(-1))):=rfl
  have k1:=ka (x+(-1)) (y+(-1))
  generalize dF w h p x y 4=v at *
  generalize tN w h p (x+(-1)) (y+(-1))=b at *
  (repeat' with_reducible first|intro _|refine rz ?_|refine ra ?_ ?_|omega|simp only [go_sem,Int.cast_ofNat_Int])
  refine ah.k k1 ?_
  cases b with
  | true=>
   have hF:dF w h p x y 5=2*v+1:=hF
   (repeat' with_reducible first|intro _|refine rz ?_|refine ra ?_ ?_|omega|simp only [go_sem,Int.cast_ofNat_Int])
   refine ⟨5,aO.ak rfl ?_ ?_,by omega,by omega⟩<;>simp only [go_sem,Int.natCast_succ,hF,Int.cast_ofNat_Int]
   all_goals omega
  | false=>
   have hF:dF w h p x y 5=2*v:=hF
   (repeat' with_reducible first|intro _|refine rz ?_|refine ra ?_ ?_|omega|simp only [go_sem,Int.cast_ofNat_Int])
   refine ⟨5,aO.ak rfl ?_ ?_,by omega,by omega⟩<;>simp only [go_sem,Int.natCast_succ,hF,Int.cast_ofNat_Int]
   all_goals omega
 ·have h0:=hb 5 (by decide)
  have hF:dF w h p x y 6=2*dF w h p x y 5+qw (tN w h p (x+0) (y+(-1))):=rfl
  have k1:=ka (x+0) (y+(-1))
  generalize dF w h p x y 5=v at *
  generalize tN w h p (x+0) (y+(-1))=b at *
  (repeat' with_reducible first|intro _|refine rz ?_|refine ra ?_ ?_|omega|simp only [go_sem,Int.cast_ofNat_Int])
  refine ah.k k1 ?_
  cases b with
  | true=>
   have hF:dF w h p x y 6=2*v+1:=hF
   (repeat' with_reducible first|intro _|refine rz ?_|refine ra ?_ ?_|omega|simp only [go_sem,Int.cast_ofNat_Int])
   refine ⟨6,aO.ak rfl ?_ ?_,by omega,by omega⟩<;>simp only [go_sem,Int.natCast_succ,hF,Int.cast_ofNat_Int]
   all_goals omega
  | false=>
   have hF:dF w h p x y 6=2*v:=hF
   (repeat' with_reducible first|intro _|refine rz ?_|refine ra ?_ ?_|omega|simp only [go_sem,Int.cast_ofNat_Int])
   refine ⟨6,aO.ak rfl ?_ ?_,by omega,by omega⟩<;>simp only [go_sem,Int.natCast_succ,hF,Int.cast_ofNat_Int]
   all_goals omega
 ·have h0:=hb 6 (by decide)
  have hF:dF w h p x y 7=2*dF w h p x y 6+qw (tN w h p (x+1) (y+(-1))):=rfl
  have k1:=ka (x+1) (y+(-1))
  generalize dF w h p x y 6=v at *
  generalize tN w h p (x+1) (y+(-1))=b at *
  (repeat' with_reducible first|intro _|refine rz ?_|refine ra ?_ ?_|omega|simp only [go_sem,Int.cast_ofNat_Int])
  refine ah.k k1 ?_
  cases b with
  | true=>
   have hF:dF w h p x y 7=2*v+1:=hF
   (repeat' with_reducible first|intro _|refine rz ?_|refine ra ?_ ?_|omega|simp only [go_sem,Int.cast_ofNat_Int])
   refine ⟨7,aO.ak rfl ?_ ?_,by omega,by omega⟩<;>simp only [go_sem,Int.natCast_succ,hF,Int.cast_ofNat_Int]
   all_goals omega
  | false=>
   have hF:dF w h p x y 7=2*v:=hF
   (repeat' with_reducible first|intro _|refine rz ?_|refine ra ?_ ?_|omega|simp only [go_sem,Int.cast_ofNat_Int])
   refine ⟨7,aO.ak rfl ?_ ?_,by omega,by omega⟩<;>simp only [go_sem,Int.natCast_succ,hF,Int.cast_ofNat_Int]
   all_goals omega
 ·have h0:=hb 7 (by decide)
  have hF:dF w h p x y 8=2*dF w h p x y 7+qw (tN w h p (x+2) (y+(-1))):=rfl
  have k1:=ka (x+2) (y+(-1))
  generalize dF w h p x y 7=v at *
  generalize tN w h p (x+2) (y+(-1))=b at *
  (repeat' with_reducible first|intro _|refine rz ?_|refine ra ?_ ?_|omega|simp only [go_sem,Int.cast_ofNat_Int])
  refine ah.k k1 ?_
  cases b with
  | true=>
   have hF:dF w h p x y 8=2*v+1:=hF
   (repeat' with_reducible first|intro _|refine rz ?_|refine ra ?_ ?_|omega|simp only [go_sem,Int.cast_ofNat_Int])
   refine ⟨8,aO.ak rfl ?_ ?_,by omega,by omega⟩<;>simp only [go_sem,Int.natCast_succ,hF,Int.cast_ofNat_Int]
   all_goals omega
  | false=>
   have hF:dF w h p x y 8=2*v:=hF
   (repeat' with_reducible first|intro _|refine rz ?_|refine ra ?_ ?_|omega|simp only [go_sem,Int.cast_ofNat_Int])
   refine ⟨8,aO.ak rfl ?_ ?_,by omega,by omega⟩<;>simp only [go_sem,Int.natCast_succ,hF,Int.cast_ofNat_Int]
   all_goals omega
 ·have h0:=hb 8 (by decide)
  have hF:dF w h p x y 9=2*dF w h p x y 8+qw (tN w h p (x+(-2)) (y+0)):=rfl
  have k1:=ka (x+(-2)) (y+0)
  generalize dF w h p x y 8=v at *
  generalize tN w h p (x+(-2)) (y+0)=b at *
  (repeat' with_reducible first|intro _|refine rz ?_|refine ra ?_ ?_|omega|simp only [go_sem,Int.cast_ofNat_Int])
  refine ah.k k1 ?_
  cases b with
  | true=>
   have hF:dF w h p x y 9=2*v+1:=hF
   (repeat' with_reducible first|intro _|refine rz ?_|refine ra ?_ ?_|omega|simp only [go_sem,Int.cast_ofNat_Int])
   refine ⟨9,aO.ak rfl ?_ ?_,by omega,by omega⟩<;>simp only [go_sem,Int.natCast_succ,hF,Int.cast_ofNat_Int]
   all_goals omega
  | false=>
   have hF:dF w h p x y 9=2*v:=hF
   (repeat' with_reducible first|intro _|refine rz ?_|refine ra ?_ ?_|omega|simp only [go_sem,Int.cast_ofNat_Int])
   refine ⟨9,aO.ak rfl ?_ ?_,by omega,by omega⟩<;>simp only [go_sem,Int.natCast_succ,hF,Int.cast_ofNat_Int]
   all_goals omega
 ·have h0:=hb 9 (by decide)
  have hF:dF w h p x y 10=2*dF w h p x y 9+qw (tN w h p (x+(-1)) (y+0)):=rfl
  have k1:=ka (x+(-1)) (y+0)
  generalize dF w h p x y 9=v at *
  generalize tN w h p (x+(-1)) (y+0)=b at *
  (repeat' with_reducible first|intro _|refine rz ?_|refine ra ?_ ?_|omega|simp only [go_sem,Int.cast_ofNat_Int])
  refine ah.k k1 ?_
  cases b with
  | true=>
   have hF:dF w h p x y 10=2*v+1:=hF
   (repeat' with_reducible first|intro _|refine rz ?_|refine ra ?_ ?_|omega|simp only [go_sem,Int.cast_ofNat_Int])
   refine ⟨10,aO.ak rfl ?_ ?_,by omega,by omega⟩<;>simp only [go_sem,Int.natCast_succ,hF,Int.cast_ofNat_Int]
   all_goals omega
  | false=>
   have hF:dF w h p x y 10=2*v:=hF
   (repeat' with_reducible first|intro _|refine rz ?_|refine ra ?_ ?_|omega|simp only [go_sem,Int.cast_ofNat_Int])
   refine ⟨10,aO.ak rfl ?_ ?_,by omega,by omega⟩<;>simp only [go_sem,Int.natCast_succ,hF,Int.cast_ofNat_Int]
   all_goals omega
 ·(repeat' with_reducible first|intro _|refine rz ?_|refine ra ?_ ?_|omega|simp only [go_sem,Int.cast_ofNat_Int])
  refine bf.auto 0 ?_ rfl ?_<;>simp only [go_sem,Int.natCast_succ,Post]
end Go.Fv.H
/- shrink.adaptive: the walk. -/
namespace Go.Fv.H
open Go Go.Proofs
def oJ (l:List Nat):List Int:=l.map fun (n:Nat)=>(n:Int)
def QY:List Nat:=List.replicate 1024 2048
theorem UU:(oJ QY).length=1024:=by unfold oJ QY;rw [List.length_map,List.length_replicate]
theorem WY {i:Nat} (h:i<1024):(oJ QY).getD i 0=2048:=by
 unfold oJ QY
 rw [List.getD_eq_getElem?_getD,List.getElem?_map,List.getElem?_replicate,if_pos h];rfl
theorem JB (l:List Nat):(oJ l).length=l.length:=List.length_map ..
theorem OT {l:List Nat} {i:Nat} (h:i<l.length):(oJ l).getD i 0=((l.getD i 0:Nat):Int):=by
 unfold oJ;simp [List.getD,h]
theorem JC (l:List Nat) (i v:Nat):(oJ l).set i (v:Int)=oJ (l.set i v):=by unfold oJ;rw [List.map_set]
theorem BG:aC Tryz.prog 141 [] (.own 0) [(0,.row 172 (.ints .u32 (oJ QY)))]:=by
 have hT:=UU
 have hg0:=@WY
 generalize oJ QY=T at *
 refine aC.aJ Tryz.func141 rfl (by decide) (by simp [Tryz.f141]) [.tmp 0] rfl fun w0 T0 _=>?_
 simp only [Tryz.f141,aB]
 (repeat' with_reducible first|intro _|exact dn|refine rn ?_|refine ra ?_ ?_)
 refine aI.intro (fun i:Nat=>⟨14,[(6,.int .i64 i),(5,.int .i64 1024),(1,.own 0)],[(0,.row 172 (.ints .u32 (T.take i++List.replicate (1024 - i) 0)))],1⟩) (fun i=>i≤1024) (fun i=>1024 - i) 0 ?_ (Nat.zero_le _) fun i hi=>?_
 ·refine aO.ak rfl ?_ ?_<;>simp only [go_sem,Int.natCast_succ]
  all_goals rfl
 have htl:(T.take i).length=i:=by rw [List.length_take,hT];omega
 by_cases hlt:i<1024
 ·have f1:((i:Int)<1024)=True:=eq_true (by omega)
  have hg:T.getD i 0=2048:=hg0 hlt
  have hs:=qK (z:=0) (d:=0) hT hlt
  rw [hg] at hs
  (repeat' with_reducible first|intro _|refine rz ?_|refine ra ?_ ?_|omega|simp only [go_sem,f1,htl])
  rw [hs]
  refine ⟨i+1,aO.ak rfl ?_ ?_,by omega,by omega⟩<;>simp only [go_sem,Int.natCast_succ]
 ·have f1:((i:Int)<1024)=False:=eq_false (by omega)
  have e:i=1024:=by omega
  subst e
  have hfull:T.take 1024=T:=List.take_of_length_le (by rw [hT];exact Nat.le_refl _)
  (repeat' with_reducible first|intro _|refine rz ?_|refine ra ?_ ?_|omega|simp only [go_sem,f1])
  refine bf.auto 1 ?_ rfl ?_<;>simp only [go_sem,Int.natCast_succ,Post,hfull]
theorem Bg (q:Nat) (k:Bool) (hq:31≤q∧q≤4065):aC Tryz.prog 142 [.int .u32 q,.bool k] (.int .u32 (Mc q k)) []:=by
 refine aC.aJ Tryz.func142 rfl (by decide) (by simp [Tryz.f142]) [.tmp 4] rfl fun w0 T0 _=>?_
 simp only [Tryz.f142,aB]
 cases k with
 | true=>
  have d1:(q:Int).tdiv 32=((q / 32:Nat):Int):=by rw [Int.tdiv_eq_ediv_of_nonneg (by omega)];omega
  have e:Mc q true=q - q / 32:=rfl
  have e2:(q:Int) - ((q / 32:Nat):Int)=((q - q / 32:Nat):Int):=by omega
  (repeat' with_reducible first|intro _|refine rz ?_|refine ra ?_ ?_|omega|simp only [go_sem,d1])
  refine bf.auto 0 ?_ rfl ?_<;>simp only [go_sem,Int.natCast_succ,Post,e,e2]
 | false=>
  have d1:(4096 - (q:Int)).tdiv 32=(((4096 - q) / 32:Nat):Int):=by rw [Int.tdiv_eq_ediv_of_nonneg (by omega)];omega
  have e:Mc q false=q+(4096 - q) / 32:=rfl
  have e2:(q:Int)+(((4096 - q) / 32:Nat):Int)=((q+(4096 - q) / 32:Nat):Int):=by omega
  (repeat' with_reducible first|intro _|refine rz ?_|refine ra ?_ ?_|omega|simp only [go_sem,d1])
  refine bf.auto 0 ?_ rfl ?_<;>simp only [go_sem,Int.natCast_succ,Post,e,e2]
theorem rY (a b:Bytes):aj (a++b)=aj a++aj b:=by unfold aj;rw [List.map_append]
theorem Ec (A:Bytes) (c d:UInt8) (R:Bytes):(aj (A++c::R)).set A.length (d.toNat:Int)=aj (A++d::R):=by
 unfold aj
 rw [List.map_append,List.map_append,List.set_append_right _ _ (by rw [List.length_map];exact Nat.le_refl _),List.length_map,Nat.sub_self]
 rfl
theorem xC (A:Bytes) (c:UInt8) (R:Bytes):(aj (A++c::R)).getD A.length 0=(c.toNat:Int):=by
 rw [bytes_at (by rw [List.length_append,List.length_cons];omega)]
 simp [List.getD]
theorem vI (A:Bytes) (c:UInt8) (R:Bytes):(aj (A++c::R)).length=A.length+(R.length+1):=by rw [eH,List.length_append,List.length_cons]
theorem Jg (c:UInt8):IntKind.u8.wrap ((c.toNat:Int)+1)=(((c+1:UInt8).toNat:Nat):Int):=by
 rw [nO,UInt8.toNat_add]
 have:(1:UInt8).toNat=1:=rfl
 rw [this]
 omega
theorem Td (c:UInt8):(c+1:UInt8).toNat=0↔c=255:=by
 rw [UInt8.toNat_add]
 have h1:(1:UInt8).toNat=1:=rfl
 have h2:c=255↔c.toNat=255:=UInt8.toNat_inj.symm
 have h3:=c.toNat_lt
 rw [h1,h2]
 omega
theorem V7 (j:Nat) (c:UInt8) (R:Bytes) (hc:c≠255):LU (List.replicate j 255++c::R)=List.replicate j 0++(c+1)::R:=by
 induction j with
 | zero=>show LU (c::R)=_;unfold LU;rw [if_neg hc];rfl
 | succ j ih=>rw [List.replicate_succ,List.cons_append];unfold LU;rw [if_pos rfl,ih];rfl
theorem X8 {k n:Nat} {A:Bytes} {c:UInt8} {j:Nat} (h:dV k n=A++c::List.replicate j 255) (hc:c≠255):dV k (n+1)=A++(c+1)::List.replicate j 0:=by
 have h1:=V8 k n
 rw [h,List.reverse_append,List.reverse_cons,List.reverse_replicate,List.append_assoc,List.singleton_append,V7 j c _ hc] at h1
 have h2:=congrArg List.reverse h1
 rw [List.reverse_reverse] at h2
 rw [←h2,List.reverse_append,List.reverse_cons,List.reverse_replicate,List.reverse_reverse,List.append_assoc,List.singleton_append]
theorem TY:∀ k,bV (List.replicate k 255)=256 ^ k - 1
 | 0=>rfl
 | k+1=>by
  rw [List.replicate_succ',xX,TY k,Nat.pow_succ]
  have:0<256 ^ k:=Nat.pow_pos (by decide)
  have h2:(255:UInt8).toNat=255:=rfl
  omega
theorem YU {k n j:Nat} (h:dV k n=255::List.replicate j 255) (hn:n+1<256 ^ k):False:=by
 have hl:=congrArg List.length h
 rw [aP,List.length_cons,List.length_replicate] at hl
 subst hl
 have h2:=congrArg bV h
 rw [nH,←List.replicate_succ,TY,Nat.mod_eq_of_lt (by omega)] at h2
 omega
theorem be4 (N:Nat):aj (dV 4 N)=[((N / 16777216%256:Nat):Int),((N / 65536%256:Nat):Int),((N / 256%256:Nat):Int),((N%256:Nat):Int)]:=by
 have h:∀ i,i<4→(aj (dV 4 N)).getD i 0=((N / 256 ^ (4 - 1 - i)%256:Nat):Int):=fun i hi=>Rz hi
 have hl:(aj (dV 4 N)).length=4:=by rw [eH,aP]
 have h0:=h 0 (by decide)
 have h1:=h 1 (by decide)
 have h2:=h 2 (by decide)
 have h3:=h 3 (by decide)
 generalize aj (dV 4 N)=L at *
 match L,hl with
 | [a,b,c,d],_=>
  simp at h0 h1 h2 h3
  rw [h0,h1,h2,h3]
  simp
theorem nM {a s q:Nat} (hs:s<64) (hq:2 ^ s=q):mO .u64 (a:Int) (s:Int)=((a / q:Nat):Int):=by
 unfold mO
 have e:min (s:Int).toNat IntKind.u64.bits=s:=by show min s 64=s;omega
 rw [e,Int.fdiv_eq_ediv_of_nonneg _ (Int.le_of_lt (Int.pow_pos (by decide))),←hq]
 rfl
theorem vk {a:Nat} (ha:a<18446744073709551616):dh .and .u64 (a:Int) 4294967295=((a%4294967296:Nat):Int):=by
 obtain ⟨e1,e2⟩:=bits_nat a 4294967295 ha (by decide)
 show IntKind.u64.wrap (((BitVec.ofInt 64 (a:Int)) &&& (BitVec.ofInt 64 ((4294967295:Nat):Int))).toNat:Int)=_
 rw [BitVec.toNat_and,e1,e2]
 have h:=Nat.and_two_pow_sub_one_eq_mod a 32
 rw [show (2:Nat) ^ 32 - 1=4294967295 from rfl,show (2:Nat) ^ 32=4294967296 from rfl] at h
 rw [h]
 exact jY (lu.2 (by omega))
theorem UN (w h:Nat) (p:List Bool):∀ i,(bH w h p i).sh≤i
 | 0=>Nat.le_refl _
 | i+1=>by
  obtain ⟨r,h1,h2,_⟩:=O8 (rV w h p i) (pG w h p ((i%w:Nat):Int) ((i / w:Nat):Int)) (p.getD i false)
  have e:bH w h p (i+1)=(bH w h p i).step (pF w h p ((i%w:Nat):Int) ((i / w:Nat):Int)) (p.getD i false):=rfl
  have:=UN w h p i
  rw [e,h1];omega
structure CX where
 A:Bytes
 c:UInt8
 j:Nat
def yj (x:CX):List Int:=aj (x.A++(x.c+1)::List.replicate x.j 0)
theorem UA (x:CX):(yj x).length=x.A.length+(x.j+1):=by unfold yj;rw [vI,List.length_replicate]
theorem WR (x:CX):(yj x).getD x.A.length 0=((x.c+1:UInt8).toNat:Int):=xC _ _ _
theorem EX {A':Bytes} {c':UInt8} {j:Nat}:yj ⟨A'++[c'],255,j⟩=aj (A'++c'::List.replicate (j+1) 0):=by
 unfold yj
 dsimp only
 rw [List.append_assoc,List.singleton_append,List.replicate_succ]
 rfl
theorem QI {A':Bytes} {c':UInt8} {j:Nat}:(yj ⟨A'++[c'],255,j⟩).getD A'.length 0=(c'.toNat:Int):=by rw [EX];exact xC _ _ _
theorem UC {A':Bytes} {c':UInt8} {j:Nat}:(yj ⟨A'++[c'],255,j⟩).set A'.length ((c'+1:UInt8).toNat:Int)=yj ⟨A',c',j+1⟩:=by rw [EX];exact Ec _ _ _ _
set_option maxHeartbeats 16000000 in
theorem Io (w h:Nat) (hw0:0<w) (hw:w≤4000) (hh:h≤4000) (hwh:w*h≤1048576) (p:List Bool) (hp:p.length=w*h) :
  aC Tryz.prog 154 [.agg [.int .i64 w,.int .i64 h,.ro (.bools p)]] (.own 0) [(0,.row 5 (.ints .u8 (aj (Ie w h p))))]:=by
 refine aC.aJ Tryz.func154 rfl (by decide) (by simp [Tryz.f154]) [.tmp 2] rfl fun w0 T0 _=>?_
 simp only [Tryz.f154,aB]
 (repeat' with_reducible first|intro _|exact dn|refine rn ?_|refine ra ?_ ?_)
 refine ah.o BG 1 ?_
 (repeat' with_reducible first|intro _|exact dn|refine rn ?_|refine ra ?_ ?_)
 refine aI.intro (fun i:Nat=>⟨111,[(16,.int .i64 i),(15,.int .i64 p.length),(14,.ro (.bools p)),(6,.own 1),(5,.int .u32 (bH w h p i).span),(4,.int .u64 ((bH w h p i).big%4294967296:Nat)),(3,.own 2),(1,.ptr 0 0)],[(0,.box 24 [.int .i64 w,.int .i64 h,.ro (.bools p)]),(1,.row 172 (.ints .u32 (oJ (bH w h p i).tab))),(2,.row 5 (.ints .u8 (aj (dV (bH w h p i).sh ((bH w h p i).big / 4294967296)))))],3⟩) (fun i=>i≤p.length) (fun i=>p.length - i) 0 ?_ (Nat.zero_le _) fun i hi=>?_
 ·refine aO.ak rfl ?_ ?_<;>simp only [go_sem,Int.natCast_succ]
  all_goals exact ⟨rfl,rfl⟩
 have hsh:=UN w h p i
 by_cases hlt:i<p.length
 ·have f1:((i:Int)<(p.length:Int))=True:=eq_true (by omega)
  have hw1:i%w<w:=Nat.mod_lt _ hw0
  have hw2:i / w<h:=Nat.div_lt_of_lt_mul (by omega)
  have d1:(i:Int).tmod (w:Int)=((i%w:Nat):Int):=by rw [Int.tmod_eq_emod_of_nonneg (Int.natCast_nonneg _)];rfl
  have d2:(i:Int).tdiv (w:Int)=((i / w:Nat):Int):=by rw [Int.tdiv_eq_ediv_of_nonneg (Int.natCast_nonneg _)];rfl
  have hnext:bH w h p (i+1)=((bH w h p i).mid (pF w h p ((i%w:Nat):Int) ((i / w:Nat):Int)) (p.getD i false)).norm:=rfl
  obtain ⟨xx,hxx⟩:∃ xx,i%w=xx:=⟨_,rfl⟩
  obtain ⟨yy,hyy⟩:∃ yy,i / w=yy:=⟨_,rfl⟩
  rw [hxx] at hw1 d1 hnext
  rw [hyy] at hw2 d2 hnext
  have kc:=Ar w h hw hh p hp (xx:Int) (yy:Int) (by omega) (by omega)
  have hc:=pG w h p (xx:Int) (yy:Int)
  have hok:=rV w h p i
  have hwne:¬(w:Int)=0:=by omega
  generalize pF w h p (xx:Int) (yy:Int)=c at *
  generalize hink:p.getD i false=ink at *
  generalize bH w h p i=s at *
  obtain ⟨ht1,ht2⟩:=AE.Nq hok hc
  obtain ⟨hm1,hm2⟩:=AE.TJ hok hc
  have hlo:=hok.lo
  have hhi:=hok.hi
  have hlen:=hok.len
  have hg:=OT (l:=s.tab) (i:=c) (by rw [hlen];exact hc)
  have hgl:=JB s.tab
  have q1:((s.span:Nat):Int).tdiv 4096=((s.span / 4096:Nat):Int):=by rw [Int.tdiv_eq_ediv_of_nonneg (Int.natCast_nonneg _)];rfl
  have q2:((s.span / 4096:Nat):Int)*((s.tab.getD c 0:Nat):Int)=((s.m c:Nat):Int):=(Int.natCast_mul _ _).symm
  (repeat' with_reducible first|intro _|refine rz ?_|refine ra ?_ ?_|omega|simp only [go_sem,f1])
  refine bC.lex [] [] (by kernel_rfl) (by kernel_rfl) ?_
  (repeat' with_reducible first|intro _|refine rz ?_|refine ra ?_ ?_|omega|simp only [go_sem,d1,d2,hwne,hink])
  (refine QV.intro (.int .i64 c) ?_ ?_;focus ((repeat' with_reducible first|intro _|exact dn|refine rn ?_|refine ra ?_ ?_);refine ah.k (kc) ?_;(repeat' with_reducible first|intro _|exact dn|refine rn ?_|refine ra ?_ ?_)))
  have hnlo:=(AE.step_ok hok hc ink).lo
  unfold AE.step at hnlo
  obtain ⟨_,_,_,_,_,hmtop⟩:=AE.uG hok hc ink
  have htop:=hok.top
  obtain ⟨M,hM⟩:∃ M,s.mid c ink=M:=⟨_,rfl⟩
  have hMt:M.tab=s.tab.set c (Mc (s.tab.getD c 0) ink):=by rw [←hM];rfl
  have hMh:M.sh=s.sh:=by rw [←hM];rfl
  have hMs0:M.span=if ink=true then s.span - s.m c else s.m c:=by rw [←hM];rfl
  have hMb0:M.big=if ink=true then s.big+s.m c else s.big:=by rw [←hM];rfl
  rw [hM] at hnext hnlo hmtop
  have kl:=Bg (s.tab.getD c 0) ink ⟨ht1,ht2⟩
  have hset:=JC s.tab c (Mc (s.tab.getD c 0) ink)
  have hlrn:=Gm ⟨ht1,ht2⟩ ink
  cases ink with
  | false=>
   rw [if_neg (by decide)] at hMs0 hMb0
   have hMs:M.span=s.m c:=hMs0
   have s32:=nM (a:=s.big%4294967296) (s:=32) (q:=4294967296) (by decide) rfl
   simp only [Int.cast_ofNat_Int] at s32
   have fC:(0<((s.big%4294967296 / 4294967296:Nat):Int))=False:=eq_false (by omega)
   have hLow:M.big%4294967296=s.big%4294967296:=by rw [hMb0]
   have hOut:M.big / 4294967296=s.big / 4294967296:=by rw [hMb0]
   (repeat' with_reducible first|intro _|refine rz ?_|refine ra ?_ ?_|omega|simp only [go_sem,q1,q2,hg,hgl,hlen,hink])
   refine ah.k kl ?_
   (repeat' with_reducible first|intro _|refine rz ?_|refine ra ?_ ?_|omega|simp only [go_sem,hgl,hlen,hset,s32,fC])
   refine aI.intro (fun r:AE=>⟨111,[(16,.int .i64 i),(15,.int .i64 p.length),(14,.ro (.bools p)),(6,.own 1),(5,.int .u32 r.span),(4,.int .u64 (r.big%4294967296:Nat)),(3,.own 2),(1,.ptr 0 0)],[(0,.box 24 [.int .i64 w,.int .i64 h,.ro (.bools p)]),(1,.row 172 (.ints .u32 (oJ r.tab))),(2,.row 5 (.ints .u8 (aj (dV r.sh (r.big / 4294967296)))))],3⟩) (fun r=>r=M∨r=M.norm) (fun r=>if r.span<16777216 then 1 else 0) M ?_ (.inl rfl) fun r hr=>?_
   ·refine aO.ak rfl ?_ ?_<;>simp only [go_sem,Int.natCast_succ,hMs,hMt,hMh,hLow,hOut]
   by_cases hs2:r.span<16777216
   ·have hrM:r=M:=hr.resolve_right fun e=>by rw [e] at hs2;omega
    subst hrM
    have hnm:r.norm=⟨r.big*256,r.span*256,r.sh+1,r.tab⟩:=by unfold AE.norm;rw [if_pos hs2]
    have f5:((r.span:Int)<16777216)=True:=eq_true (by omega)
    have hol:(aj (dV r.sh (r.big / 4294967296))).length=r.sh:=by rw [eH,aP]
    have s24:=nM (a:=r.big%4294967296) (s:=24) (q:=16777216) (by decide) rfl
    simp only [Int.cast_ofNat_Int] at s24
    have hsl:jV .u64 ((r.big%4294967296:Nat):Int) 8=((r.big%4294967296*256:Nat):Int):=by
     unfold jV
     rw [show (2:Int) ^ (min (8:Int).toNat IntKind.u64.bits)=256 by rfl];omega
    have hss:jV .u32 (r.span:Int) 8=((r.span*256:Nat):Int):=by
     unfold jV
     rw [show (2:Int) ^ (min (8:Int).toNat IntKind.u32.bits)=256 by rfl];omega
    have ham:=vk (a:=r.big%4294967296*256) (by omega)
    have hlow2:r.big%4294967296*256%4294967296=r.big*256%4294967296:=by omega
    rw [hlow2] at ham
    have hbyte:((r.big%4294967296 / 16777216:Nat):Int)=(((UInt8.ofNat (r.big*256 / 4294967296)).toNat:Nat):Int):=by
     have:(UInt8.ofNat (r.big*256 / 4294967296)).toNat=r.big*256 / 4294967296%256:=by simp
     rw [this];omega
    have hout2:aj (dV r.sh (r.big / 4294967296))++[(((UInt8.ofNat (r.big*256 / 4294967296)).toNat:Nat):Int)]=aj (dV (r.sh+1) (r.big*256 / 4294967296)):=by
     rw [lY,rY,show r.big*256 / 4294967296 / 256=r.big / 4294967296 by omega];rfl
    have hin:jg .u64 ((r.big%4294967296*256:Nat):Int):=lu.2 (by omega)
    (repeat' with_reducible first|intro _|refine rz ?_|refine ra ?_ ?_|omega|simp only [go_sem,f5,s24,hol])
    rw [hsl]
    (repeat' with_reducible first|intro _|exact dn|refine rn ?_|refine ra ?_ ?_)
    rw [ham,hss]
    (repeat' with_reducible first|intro _|exact dn|refine rn ?_|refine ra ?_ ?_)
    refine ⟨r.norm,aO.ak rfl ?_ ?_,.inr rfl,?_⟩
    ·simp only [go_sem,Int.natCast_succ,hnm]
     all_goals first|rfl|omega|(refine ⟨?_,?_⟩<;>first|rfl|omega)
    ·simp only [go_sem,Int.natCast_succ,hnm,hbyte,hout2]
    ·rw [if_pos hs2,if_neg (by omega)];omega
   ·have hrn:r=M.norm:=by
     rcases hr with e|e
     ·rw [e] at hs2 ⊢;unfold AE.norm;rw [if_neg hs2]
     ·exact e
    have f5:((r.span:Int)<16777216)=False:=eq_false (by omega)
    rw [←hrn] at hnext
    (repeat' with_reducible first|intro _|refine rz ?_|refine ra ?_ ?_|omega|simp only [go_sem,f5])
    refine ⟨i+1,aO.ak rfl ?_ ?_,by omega,by omega⟩<;>simp only [go_sem,Int.natCast_succ,hnext]
  | true=>
   rw [if_pos rfl] at hMs0 hMb0
   have hMs:M.span=s.span - s.m c:=hMs0
   have hspI:(s.span:Int) - (s.m c:Int)=((s.span - s.m c:Nat):Int):=by omega
   have hlI:((s.big%4294967296:Nat):Int)+(s.m c:Int)=((s.big%4294967296+s.m c:Nat):Int):=by omega
   have s32:=nM (a:=s.big%4294967296+s.m c) (s:=32) (q:=4294967296) (by decide) rfl
   simp only [Int.cast_ofNat_Int] at s32
   by_cases hcar:4294967296≤s.big%4294967296+s.m c
   ·have fC:(0<(((s.big%4294967296+s.m c) / 4294967296:Nat):Int))=True:=eq_true (by omega)
    have hLow:M.big%4294967296=(s.big%4294967296+s.m c)%4294967296:=by rw [hMb0];omega
    have hOut0:M.big / 4294967296=s.big / 4294967296+1:=by rw [hMb0];omega
    have hlt2:s.big / 4294967296+1<256 ^ s.sh:=by
     have:M.big<4294967296*256 ^ s.sh:=by omega
     rw [←hOut0]
     exact Nat.div_lt_of_lt_mul this
    have hm32:=vk (a:=s.big%4294967296+s.m c) (by omega)
    rcases List.eq_nil_or_concat (dV s.sh (s.big / 4294967296)) with hnil|⟨A0,c0,hAc⟩
    ·exfalso
     have:=congrArg List.length hnil
     rw [aP] at this
     have h0:s.sh=0:=this
     rw [h0] at hlt2
     simp at hlt2
    have hAc:dV s.sh (s.big / 4294967296)=A0++c0::List.replicate 0 255:=by rw [hAc];simp
    have hml:=vI A0 c0 (List.replicate 0 255)
    have hmm:=xC A0 c0 (List.replicate 0 255)
    have hms:(aj (A0++c0::List.replicate 0 255)).set A0.length ((c0+1:UInt8).toNat:Int)=yj ⟨A0,c0,0⟩:=Ec A0 c0 (c0+1) (List.replicate 0 255)
    have hkk:((A0.length+1:Nat):Int) - 1=(A0.length:Int):=by omega
    rw [hAc]
    rw [List.length_replicate,Nat.zero_add] at hml
    generalize aj (A0++c0::List.replicate 0 255)=L0 at *
    (repeat' with_reducible first|intro _|refine rz ?_|refine ra ?_ ?_|omega|simp only [go_sem,q1,q2,hg,hgl,hlen,hink])
    refine ah.k kl ?_
    (repeat' with_reducible first|intro _|refine rz ?_|refine ra ?_ ?_|omega|simp only [go_sem,hgl,hlen,hset,hspI,hlI,s32,fC,hml,hkk,hmm,Int.toNat_natCast])
    refine bZ.at _ (Jg c0) ?_
    (repeat' with_reducible first|intro _|refine rz ?_|refine ra ?_ ?_|omega|simp only [go_sem,hml,hkk,Int.toNat_natCast])
    rw [hms]
    refine aI.intro (fun x:CX=>⟨111,[(16,.int .i64 i),(15,.int .i64 p.length),(14,.ro (.bools p)),(6,.own 1),(11,.int .i64 x.A.length),(5,.int .u32 (s.span - s.m c:Nat)),(4,.int .u64 (s.big%4294967296+s.m c:Nat)),(3,.own 2),(1,.ptr 0 0)],[(0,.box 24 [.int .i64 w,.int .i64 h,.ro (.bools p)]),(1,.row 172 (.ints .u32 (oJ (s.tab.set c (Mc (s.tab.getD c 0) true))))),(2,.row 5 (.ints .u8 (yj x)))],3⟩) (fun x=>dV s.sh (s.big / 4294967296)=x.A++x.c::List.replicate x.j 255) (fun x=>x.A.length) ⟨A0,c0,0⟩ ?_ hAc fun x hx=>?_
    ·refine aO.ak rfl ?_ ?_<;>simp only [go_sem,Int.natCast_succ]
    obtain ⟨A,cc,j⟩:=x
    dsimp only at hx ⊢
    have r1:=UA ⟨A,cc,j⟩
    have r2:=WR ⟨A,cc,j⟩
    dsimp only at r1 r2
    by_cases hz:cc=255
    ·subst hz
     rcases List.eq_nil_or_concat A with hnil|⟨A',c',hA⟩
     ·exfalso
      rw [hnil] at hx
      exact YU hx hlt2
     rw [List.concat_eq_append] at hA
     subst hA
     have hkA:(A'++[c']).length=A'.length+1:=by simp
     have r3:=@QI A' c' j
     have r4:=@UC A' c' j
     have r5:((255+1:UInt8).toNat:Int)=0:=rfl
     rw [r5] at r2
     rw [hkA] at r1 r2
     have hx2:dV s.sh (s.big / 4294967296)=A'++c'::List.replicate (j+1) 255:=by rw [hx,List.append_assoc,List.singleton_append,List.replicate_succ]
     generalize yj ⟨A'++[c'],255,j⟩=L at *
     rw [hkA]
     have hk1:((A'.length+1:Nat):Int) - 1=(A'.length:Int):=by omega
     have hAl:=congrArg List.length hx2
     rw [aP,List.length_append,List.length_cons] at hAl
     (repeat' with_reducible first|intro _|refine rz ?_|refine ra ?_ ?_|omega|simp only [go_sem,r1,r2,hk1,r3,Int.toNat_natCast])
     refine bZ.at _ (Jg c') ?_
     (repeat' with_reducible first|intro _|refine rz ?_|refine ra ?_ ?_|omega|simp only [go_sem,r1,hk1,Int.toNat_natCast])
     rw [r4]
     refine ⟨⟨A',c',j+1⟩,aO.ak rfl ?_ ?_,hx2,by dsimp only;omega⟩<;>simp only [go_sem,Int.natCast_succ]
    ·have f6:(((cc+1:UInt8).toNat:Int)=0)=False:=eq_false fun h=>hz ((Td cc).1 (by omega))
     have hin:=X8 hx hz
     have hOutL:aj (dV s.sh (M.big / 4294967296))=yj ⟨A,cc,j⟩:=by rw [hOut0,hin];rfl
     generalize yj ⟨A,cc,j⟩=L at *
     (repeat' with_reducible first|intro _|refine rz ?_|refine ra ?_ ?_|omega|simp only [go_sem,r1,r2,f6,hm32,Int.toNat_natCast])
     refine aI.intro (fun r:AE=>⟨111,[(16,.int .i64 i),(15,.int .i64 p.length),(14,.ro (.bools p)),(6,.own 1),(5,.int .u32 r.span),(4,.int .u64 (r.big%4294967296:Nat)),(3,.own 2),(1,.ptr 0 0)],[(0,.box 24 [.int .i64 w,.int .i64 h,.ro (.bools p)]),(1,.row 172 (.ints .u32 (oJ r.tab))),(2,.row 5 (.ints .u8 (aj (dV r.sh (r.big / 4294967296)))))],3⟩) (fun r=>r=M∨r=M.norm) (fun r=>if r.span<16777216 then 1 else 0) M ?_ (.inl rfl) fun r hr=>?_
     ·refine aO.ak rfl ?_ ?_<;>simp only [go_sem,Int.natCast_succ,hMs,hMt,hMh,hLow,hOutL]
     by_cases hs2:r.span<16777216
     ·have hrM:r=M:=hr.resolve_right fun e=>by rw [e] at hs2;omega
      subst hrM
      have hnm:r.norm=⟨r.big*256,r.span*256,r.sh+1,r.tab⟩:=by unfold AE.norm;rw [if_pos hs2]
      have f5:((r.span:Int)<16777216)=True:=eq_true (by omega)
      have hol:(aj (dV r.sh (r.big / 4294967296))).length=r.sh:=by rw [eH,aP]
      have s24:=nM (a:=r.big%4294967296) (s:=24) (q:=16777216) (by decide) rfl
      simp only [Int.cast_ofNat_Int] at s24
      have hsl:jV .u64 ((r.big%4294967296:Nat):Int) 8=((r.big%4294967296*256:Nat):Int):=by
       unfold jV
       rw [show (2:Int) ^ (min (8:Int).toNat IntKind.u64.bits)=256 by rfl];omega
      have hss:jV .u32 (r.span:Int) 8=((r.span*256:Nat):Int):=by
       unfold jV
       rw [show (2:Int) ^ (min (8:Int).toNat IntKind.u32.bits)=256 by rfl];omega
      have ham:=vk (a:=r.big%4294967296*256) (by omega)
      have hlow2:r.big%4294967296*256%4294967296=r.big*256%4294967296:=by omega
      rw [hlow2] at ham
      have hbyte:((r.big%4294967296 / 16777216:Nat):Int)=(((UInt8.ofNat (r.big*256 / 4294967296)).toNat:Nat):Int):=by
       have:(UInt8.ofNat (r.big*256 / 4294967296)).toNat=r.big*256 / 4294967296%256:=by simp
       rw [this];omega
      have hout2:aj (dV r.sh (r.big / 4294967296))++[(((UInt8.ofNat (r.big*256 / 4294967296)).toNat:Nat):Int)]=aj (dV (r.sh+1) (r.big*256 / 4294967296)):=by
       rw [lY,rY,show r.big*256 / 4294967296 / 256=r.big / 4294967296 by omega];rfl
      have hin:jg .u64 ((r.big%4294967296*256:Nat):Int):=lu.2 (by omega)
      (repeat' with_reducible first|intro _|refine rz ?_|refine ra ?_ ?_|omega|simp only [go_sem,f5,s24,hol])
      rw [hsl]
      (repeat' with_reducible first|intro _|exact dn|refine rn ?_|refine ra ?_ ?_)
      rw [ham,hss]
      (repeat' with_reducible first|intro _|exact dn|refine rn ?_|refine ra ?_ ?_)
      refine ⟨r.norm,aO.ak rfl ?_ ?_,.inr rfl,?_⟩
      ·simp only [go_sem,Int.natCast_succ,hnm]
       all_goals first|rfl|omega|(refine ⟨?_,?_⟩<;>first|rfl|omega)
      ·simp only [go_sem,Int.natCast_succ,hnm,hbyte,hout2]
      ·rw [if_pos hs2,if_neg (by omega)];omega
     ·have hrn:r=M.norm:=by
       rcases hr with e|e
       ·rw [e] at hs2 ⊢;unfold AE.norm;rw [if_neg hs2]
       ·exact e
      have f5:((r.span:Int)<16777216)=False:=eq_false (by omega)
      rw [←hrn] at hnext
      (repeat' with_reducible first|intro _|refine rz ?_|refine ra ?_ ?_|omega|simp only [go_sem,f5])
      refine ⟨i+1,aO.ak rfl ?_ ?_,by omega,by omega⟩<;>simp only [go_sem,Int.natCast_succ,hnext]
   ·have fC:(0<(((s.big%4294967296+s.m c) / 4294967296:Nat):Int))=False:=eq_false (by omega)
    have hLow:M.big%4294967296=s.big%4294967296+s.m c:=by rw [hMb0];omega
    have hOut:M.big / 4294967296=s.big / 4294967296:=by rw [hMb0];omega
    (repeat' with_reducible first|intro _|refine rz ?_|refine ra ?_ ?_|omega|simp only [go_sem,q1,q2,hg,hgl,hlen,hink])
    refine ah.k kl ?_
    (repeat' with_reducible first|intro _|refine rz ?_|refine ra ?_ ?_|omega|simp only [go_sem,hgl,hlen,hset,hspI,hlI,s32,fC])
    refine aI.intro (fun r:AE=>⟨111,[(16,.int .i64 i),(15,.int .i64 p.length),(14,.ro (.bools p)),(6,.own 1),(5,.int .u32 r.span),(4,.int .u64 (r.big%4294967296:Nat)),(3,.own 2),(1,.ptr 0 0)],[(0,.box 24 [.int .i64 w,.int .i64 h,.ro (.bools p)]),(1,.row 172 (.ints .u32 (oJ r.tab))),(2,.row 5 (.ints .u8 (aj (dV r.sh (r.big / 4294967296)))))],3⟩) (fun r=>r=M∨r=M.norm) (fun r=>if r.span<16777216 then 1 else 0) M ?_ (.inl rfl) fun r hr=>?_
    ·refine aO.ak rfl ?_ ?_<;>simp only [go_sem,Int.natCast_succ,hMs,hMt,hMh,hLow,hOut]
    by_cases hs2:r.span<16777216
    ·have hrM:r=M:=hr.resolve_right fun e=>by rw [e] at hs2;omega
     subst hrM
     have hnm:r.norm=⟨r.big*256,r.span*256,r.sh+1,r.tab⟩:=by unfold AE.norm;rw [if_pos hs2]
     have f5:((r.span:Int)<16777216)=True:=eq_true (by omega)
     have hol:(aj (dV r.sh (r.big / 4294967296))).length=r.sh:=by rw [eH,aP]
     have s24:=nM (a:=r.big%4294967296) (s:=24) (q:=16777216) (by decide) rfl
     simp only [Int.cast_ofNat_Int] at s24
     have hsl:jV .u64 ((r.big%4294967296:Nat):Int) 8=((r.big%4294967296*256:Nat):Int):=by
      unfold jV
      rw [show (2:Int) ^ (min (8:Int).toNat IntKind.u64.bits)=256 by rfl];omega
     have hss:jV .u32 (r.span:Int) 8=((r.span*256:Nat):Int):=by
      unfold jV
      rw [show (2:Int) ^ (min (8:Int).toNat IntKind.u32.bits)=256 by rfl];omega
     have ham:=vk (a:=r.big%4294967296*256) (by omega)
     have hlow2:r.big%4294967296*256%4294967296=r.big*256%4294967296:=by omega
     rw [hlow2] at ham
     have hbyte:((r.big%4294967296 / 16777216:Nat):Int)=(((UInt8.ofNat (r.big*256 / 4294967296)).toNat:Nat):Int):=by
      have:(UInt8.ofNat (r.big*256 / 4294967296)).toNat=r.big*256 / 4294967296%256:=by simp
      rw [this];omega
     have hout2:aj (dV r.sh (r.big / 4294967296))++[(((UInt8.ofNat (r.big*256 / 4294967296)).toNat:Nat):Int)]=aj (dV (r.sh+1) (r.big*256 / 4294967296)):=by
      rw [lY,rY,show r.big*256 / 4294967296 / 256=r.big / 4294967296 by omega];rfl
     have hin:jg .u64 ((r.big%4294967296*256:Nat):Int):=lu.2 (by omega)
     (repeat' with_reducible first|intro _|refine rz ?_|refine ra ?_ ?_|omega|simp only [go_sem,f5,s24,hol])
     rw [hsl]
     (repeat' with_reducible first|intro _|exact dn|refine rn ?_|refine ra ?_ ?_)
     rw [ham,hss]
     (repeat' with_reducible first|intro _|exact dn|refine rn ?_|refine ra ?_ ?_)
     refine ⟨r.norm,aO.ak rfl ?_ ?_,.inr rfl,?_⟩
     ·simp only [go_sem,Int.natCast_succ,hnm]
      all_goals first|rfl|omega|(refine ⟨?_,?_⟩<;>first|rfl|omega)
     ·simp only [go_sem,Int.natCast_succ,hnm,hbyte,hout2]
     ·rw [if_pos hs2,if_neg (by omega)];omega
    ·have hrn:r=M.norm:=by
      rcases hr with e|e
      ·rw [e] at hs2 ⊢;unfold AE.norm;rw [if_neg hs2]
      ·exact e
     have f5:((r.span:Int)<16777216)=False:=eq_false (by omega)
     rw [←hrn] at hnext
     (repeat' with_reducible first|intro _|refine rz ?_|refine ra ?_ ?_|omega|simp only [go_sem,f5])
     refine ⟨i+1,aO.ak rfl ?_ ?_,by omega,by omega⟩<;>simp only [go_sem,Int.natCast_succ,hnext]
 ·have f1:((i:Int)<(p.length:Int))=False:=eq_false (by omega)
  have e:i=p.length:=by omega
  have hT:aj (Ie w h p)=aj (dV (bH w h p i).sh ((bH w h p i).big / 4294967296))++aj (dV 4 (bH w h p i).big):=by
   unfold Ie
   rw [←e,Nat.add_comm 4,Vr,rY]
  rw [be4] at hT
  have hol:(aj (dV (bH w h p i).sh ((bH w h p i).big / 4294967296))).length=(bH w h p i).sh:=by rw [eH,aP]
  generalize (bH w h p i).big=B at *
  generalize (bH w h p i).sh=sh at *
  have s24:=nM (a:=B%4294967296) (s:=24) (q:=16777216) (by decide) rfl
  have s16:=nM (a:=B%4294967296) (s:=16) (q:=65536) (by decide) rfl
  have s8:=nM (a:=B%4294967296) (s:=8) (q:=256) (by decide) rfl
  simp only [Int.cast_ofNat_Int] at s24 s16 s8
  have e0:B%4294967296 / 16777216=B / 16777216%256:=by omega
  rw [e0] at s24
  (repeat' with_reducible first|intro _|refine rz ?_|refine ra ?_ ?_|omega|simp only [go_sem,f1,s24,s16,s8])
  refine bZ.at ((B / 65536%256:Nat):Int) (by rw [nO];omega) ?_
  refine bZ.at ((B / 256%256:Nat):Int) (by rw [nO];omega) ?_
  refine bZ.at ((B%256:Nat):Int) (by rw [nO];omega) ?_
  (repeat' with_reducible first|intro _|refine rz ?_|refine ra ?_ ?_|omega|simp only [go_sem,hol])
  refine bf.auto 1 ?_ rfl ?_<;>simp only [go_sem,Int.natCast_succ,Post,hT]
end Go.Fv.H
/- Changes of a row: the walk. -/
namespace Go.Fv.H
open Go Go.Proofs
theorem WI {r:List Bool} {j:Nat} (h:j≠0):OY r j=r.getD (j - 1) false:=by unfold OY;rw [if_neg h]
theorem JL (r:List Bool) (j:Nat) (a:Int) (ha:a=(j:Int) - 1) (hj:j≤r.length) (hl:r.length≤4000) :
  aC Tryz.prog 184 [.ro (.bools r),.int .i64 a] (.bool (OY r j)) []:=by
 refine aC.aJ Tryz.func184 rfl (by decide) (by simp [Tryz.f184]) [.tmp 4] rfl fun w0 T0 _=>?_
 simp only [Tryz.f184,aB]
 by_cases h:j=0
 ·have f1:(0≤a)=False:=eq_false (by omega)
  have e:OY r j=false:=by rw [h];rfl
  (repeat' with_reducible first|intro _|refine rz ?_|refine ra ?_ ?_|omega|simp only [go_sem,f1])
  refine bf.auto 0 ?_ rfl ?_<;>simp only [go_sem,Int.natCast_succ,Post,e]
 ·have f1:(0≤a)=True:=eq_true (by omega)
  have e:=WI (r:=r) h
  have e2:a.toNat=j - 1:=by omega
  (repeat' with_reducible first|intro _|refine rz ?_|refine ra ?_ ?_|omega|simp only [go_sem,f1,e2])
  refine bf.auto 0 ?_ rfl ?_<;>simp only [go_sem,Int.natCast_succ,Post,e]
theorem lM (r:List Bool) (p:Nat) (a:Int) (ha:a=(p:Int) - 1) (hp:p≤r.length+1) (hl:r.length≤4000) :
  aC Tryz.prog 148 [.ro (.bools r),.int .i64 a] (.int .i64 (dQ r p)) []:=by
 have e0:a+1=(p:Int):=by omega
 refine aC.aJ Tryz.func148 rfl (by decide) (by simp [Tryz.f148]) [.tmp 4] rfl fun w0 T0 _=>?_
 simp only [Tryz.f148,aB]
 (repeat' with_reducible first|intro _|refine rz ?_|refine ra ?_ ?_|omega|simp only [go_sem,e0])
 refine aI.intro (fun i:Nat=>⟨28,[(5,.int .i64 i),(0,.ro (.bools r))],[],0⟩) (fun i=>i≤r.length+1∧dQ r i=dQ r p) (fun i=>r.length+1 - i) p ?_ ⟨hp,rfl⟩ fun i hI=>?_
 ·refine aO.ak rfl ?_ ?_<;>simp only [go_sem,Int.natCast_succ]
 obtain ⟨hi,hI⟩:=hI
 by_cases hlt:i<r.length
 ·have f1:((i:Int)<(r.length:Int))=True:=eq_true (by omega)
  have k1:=JL r (i+1) i (by omega) (by omega) hl
  have k2:=JL r i ((i:Int) - 1) rfl (by omega) hl
  rw [jC] at k1
  have hc:=Am hlt
  (repeat' with_reducible first|intro _|refine rz ?_|refine ra ?_ ?_|omega|simp only [go_sem,f1])
  refine ah.k k1 ?_
  (repeat' with_reducible first|intro _|exact dn|refine rn ?_|refine ra ?_ ?_)
  refine ah.k k2 ?_
  by_cases he:r.getD i false=OY r i
  ·rw [if_pos he] at hc
   (repeat' with_reducible first|intro _|refine rz ?_|refine ra ?_ ?_|omega|simp only [go_sem,he])
   refine ⟨i+1,aO.ak rfl ?_ ?_,⟨by omega,by rw [←hc];exact hI⟩,by omega⟩<;>simp only [go_sem,Int.natCast_succ]
  ·rw [if_neg he] at hc
   have hci:dQ r p=i:=by rw [←hI,hc]
   have hm:min (i:Int) (r.length:Int)=(i:Int):=by omega
   (repeat' with_reducible first|intro _|refine rz ?_|refine ra ?_ ?_|omega|simp only [go_sem,he])
   refine bf.auto 0 ?_ rfl ?_<;>simp only [go_sem,Int.natCast_succ,Post,hci,hm]
 ·have f1:((i:Int)<(r.length:Int))=False:=eq_false (by omega)
  have hci:dQ r p=r.length:=by rw [←hI,iP hlt]
  have hm:min (i:Int) (r.length:Int)=(r.length:Int):=by omega
  (repeat' with_reducible first|intro _|refine rz ?_|refine ra ?_ ?_|omega|simp only [go_sem,f1])
  refine bf.auto 0 ?_ rfl ?_<;>simp only [go_sem,Int.natCast_succ,Post,hci,hm]
theorem yO (r:List Bool) (p:Nat) (a:Int) (c:Bool) (ha:a=(p:Int) - 1) (hp:p≤r.length) (hl:r.length≤4000) :
  aC Tryz.prog 147 [.ro (.bools r),.int .i64 a,.bool c] (.int .i64 (gy r p c)) []:=by
 have k1:=lM r p a ha (by omega) hl
 have hle:=gU r p
 have k2:=lM r (dQ r p+1) (dQ r p:Int) (by omega) (by omega) hl
 refine aC.aJ Tryz.func147 rfl (by decide) (by simp [Tryz.f147]) [.tmp 6] rfl fun w0 T0 _=>?_
 simp only [Tryz.f147,aB]
 (repeat' with_reducible first|intro _|exact dn|refine rn ?_|refine ra ?_ ?_)
 refine ah.k k1 ?_
 by_cases h1:dQ r p<r.length
 ·have f1:((dQ r p:Int)<(r.length:Int))=True:=eq_true (by omega)
  by_cases h2:r.getD (dQ r p) false=c
  ·have e:gy r p c=dQ r p:=by unfold gy;rw [if_neg (fun h=>h.2 h2)]
   (repeat' with_reducible first|intro _|refine rz ?_|refine ra ?_ ?_|omega|simp only [go_sem,f1,h2])
   refine bf.auto 0 ?_ rfl ?_<;>simp only [go_sem,Int.natCast_succ,Post,e]
  ·have e:gy r p c=dQ r (dQ r p+1):=by unfold gy;rw [if_pos ⟨h1,h2⟩]
   (repeat' with_reducible first|intro _|refine rz ?_|refine ra ?_ ?_|omega|simp only [go_sem,f1,h2])
   refine ah.k k2 ?_
   (repeat' with_reducible first|intro _|exact dn|refine rn ?_|refine ra ?_ ?_)
   refine bf.auto 0 ?_ rfl ?_<;>simp only [go_sem,Int.natCast_succ,Post,e]
 ·have f1:((dQ r p:Int)<(r.length:Int))=False:=eq_false (by omega)
  have e:gy r p c=dQ r p:=by unfold gy;rw [if_neg (fun h=>h1 h.1)]
  (repeat' with_reducible first|intro _|refine rz ?_|refine ra ?_ ?_|omega|simp only [go_sem,f1])
  refine bf.auto 0 ?_ rfl ?_<;>simp only [go_sem,Int.natCast_succ,Post,e]
theorem lI:aC Tryz.prog 150 [] (.own 0) [(0,.row 9 (.strs aQ))]:=by
 refine aC.aJ Tryz.func150 rfl (by decide) (by simp [Tryz.f150]) [.tmp 0] rfl fun w0 T0 _=>?_
 simp only [Tryz.f150,aB]
 (repeat' with_reducible first|intro _|exact dn|refine rn ?_|refine ra ?_ ?_)
 refine bf.auto 1 ?_ rfl ?_<;>simp only [go_sem,Int.natCast_succ,Post,aQ]
end Go.Fv.H
/- math/bits.TrailingZeros of 2, by the contract of the shelf. -/
namespace Go.Proofs
open Go.Shelf
def Tryz.lays27_ren:Go.Shelf.Ren:=⟨fun|27=>196|28=>200|29=>201|n=>n,fun|25=>140|3=>3|27=>172|22=>103|4=>4|53=>223|0=>0|5=>5|54=>224|n=>n,fun|0=>6|1=>7|n=>n⟩
theorem Tryz.lays27:Go.Proofs.Lays7.n27 Tryz.prog Tryz.lays27_ren:={
 mixed:=by kernel_rfl
 f27:=Tryz.func196.trans (congrArg some (by kernel_rfl))
 f28:=Tryz.func200.trans (congrArg some (by kernel_rfl))
 f29:=Tryz.func201.trans (congrArg some (by kernel_rfl))
 t0:=Tryz.underlying0
 a0:=Tryz.isAgg0
 z0:=Tryz.sizeOf0
 v0:=Tryz.zeroValue0
 i0:=by kernel_rfl
 t3:=Tryz.underlying3
 a3:=Tryz.isAgg3
 z3:=Tryz.sizeOf3
 v3:=Tryz.zeroValue3
 i3:=by kernel_rfl
 t4:=Tryz.underlying4
 a4:=Tryz.isAgg4
 z4:=Tryz.sizeOf4
 v4:=Tryz.zeroValue4
 i4:=by kernel_rfl
 t5:=Tryz.underlying5
 a5:=Tryz.isAgg5
 z5:=Tryz.sizeOf5
 v5:=Tryz.zeroValue5
 i5:=by kernel_rfl
 t22:=Tryz.underlying103
 a22:=Tryz.isAgg103
 z22:=Tryz.sizeOf103
 v22:=Tryz.zeroValue103
 i22:=by kernel_rfl
 t25:=Tryz.underlying140
 a25:=Tryz.isAgg140
 z25:=Tryz.sizeOf140
 v25:=Tryz.zeroValue140
 i25:=by kernel_rfl
 t27:=Tryz.underlying172
 a27:=Tryz.isAgg172
 z27:=Tryz.sizeOf172
 v27:=Tryz.zeroValue172
 i27:=by kernel_rfl
 t53:=Tryz.underlying223
 a53:=Tryz.isAgg223
 z53:=Tryz.sizeOf223
 v53:=Tryz.zeroValue223
 i53:=by kernel_rfl
 t54:=Tryz.underlying224
 a54:=Tryz.isAgg224
 z54:=Tryz.sizeOf224
 g0:=by kernel_rfl
 g1:=by kernel_rfl }
end Go.Proofs
namespace Go.Fv.H
open Go Go.Proofs
theorem UW {P:Program} {w:World} {g:Nat} (hw:tJ P w) (hg:U7 P g=some .tab):TabAt g Lib.deBruijn64tab w:=by
 obtain ⟨ob,hh,t,rfl⟩:=hw g _ hg
 intro j hj
 unfold World.cell?
 simp only [hh,Option.isSome_none,Bool.false_eq_true,if_false]
 simp [List.getElem?_map,List.getD,hj]
theorem Yw:aC Tryz.prog 196 [.int .u64 2] (.int .i64 1) []:=by
 refine ⟨⟨_,Tryz.func196,by kernel_rfl,by kernel_rfl⟩,fun w T vals hg hv=>?_⟩
 cases hv with
 | cons _ _ _ _ h1 hv=>
  cases hv
  cases h1 with
  | int _ _ e1=>
   have L:=Tryz.lays27
   refine (Any7.bits_TrailingZeros L 2 (by decide) w fun _=>UW hg (by kernel_rfl)).mono ?_
   rintro e w' ⟨rfl,rfl⟩
   refine ⟨_,rfl,lV.refl _ _,fun _=>undef,0,?_,?_,?_⟩
   ·rw [show (Lib.ctz 64 2)=1 by decide]
    exact .int _ _ (jZ.2 (by omega))
   ·intro i it h;cases h
   ·intro i j it jt b h;cases h
end Go.Fv.H
/- strconv.FormatInt in base 2. -/
namespace Go.Fv.H
open Go Go.Proofs
def bI (l:Bytes):List Int:=l.map fun c=>(c.toNat:Int)
theorem XH (l:Bytes):(bI l).length=l.length:=List.length_map ..
theorem drop_at {L:List Int} {i:Nat} (h:i<L.length):L.drop i=L.getD i 0::L.drop (i+1):=by
 rw [List.drop_eq_getElem_cons h];simp [List.getD,h]
theorem set_drop {L:List Int} {i:Nat} (h:i<L.length) (v:Int):(L.set i v).drop i=v::L.drop (i+1):=by
 rw [drop_at (by simpa using h)]
 congr 1
 ·simp [List.getD,h]
 ·apply List.ext_getElem?
  intro j
  simp only [List.getElem?_drop,List.getElem?_set]
  rw [if_neg (by omega)]
theorem and1 (u:Nat) (hu:u<18446744073709551616):dh .and .u64 (u:Int) 1=((u%2:Nat):Int):=by
 have h:=bits_and_u64_nat u 1 hu (by decide)
 rw [Nat.and_one_is_mod] at h
 exact h
theorem RF {u:Nat} (h:2≤u):iK u=iK (u / 2)++[pI u]:=o8 (by omega)
theorem WH:aC Tryz.prog 195 [.int .i64 2] (.bool true) []:=by
 refine aC.aJ Tryz.func195 rfl (by decide) (by simp [Tryz.f195]) [.tmp 2] rfl fun w0 T0 _=>?_
 simp only [Tryz.f195,aB]
 have h0:dh BinOp.and IntKind.i64 2 1=0:=by decide
 (repeat' with_reducible first|intro _|refine rz ?_|refine ra ?_ ?_|omega|simp only [go_sem,h0])
 refine bf.auto 0 ?_ rfl ?_<;>simp only [go_sem,Int.natCast_succ,Post,h0]
theorem ZA:zeroOf Tryz.prog 216=some (.agg (Array.replicate 65 (.int .u8 0))):=by kernel_rfl
theorem Zz:Tryz.prog.cellsOf 216=65:=by kernel_rfl
theorem Oc (u:Nat):([48,49,50,51,52,53,54,55,56,57,97,98,99,100,101,102,103,104,105,106,107,108,109,110,111,112,113,114,115,116,117,118,119,120,121,122]:List UInt8).getD (u%2) 0=pI u:=by
 have:u%2=0∨u%2=1:=by omega
 unfold pI
 rcases this with e|e<;>rw [e]<;>rfl
theorem XV {u:Nat} (h:u<2):([48,49,50,51,52,53,54,55,56,57,97,98,99,100,101,102,103,104,105,106,107,108,109,110,111,112,113,114,115,116,117,118,119,120,121,122]:List UInt8).getD u 0=pI u:=by
 have:=Oc u
 rwa [Nat.mod_eq_of_lt h] at this
theorem aae (u:Nat) (hu:u<18446744073709551616):mO .u64 (u:Int) 1=((u / 2:Nat):Int):=by
 unfold mO
 rw [show (2:Int) ^ (min (1:Int).toNat IntKind.u64.bits)=2 by rfl,Int.fdiv_eq_ediv_of_nonneg _ (by decide)]
 rfl
theorem Vo (l:Bytes):(bI l).map (fun n=>UInt8.ofNat n.toNat)=l:=by
 unfold bI
 rw [List.map_map]
 conv=>rhs;rw [←List.map_id l]
 apply List.map_congr_left
 intro c _
 simp
structure FB where
 i:Nat
 u:Nat
 L:List Int
structure FBI (n:Nat) (x:FB):Prop where
 l:x.L.length=65
 i:x.i≤65
 u:x.u≤1048576
 s:∃ sfx:Bytes,x.L.drop x.i=bI sfx∧iK x.u++sfx=iK n
set_option maxHeartbeats 2000000 in
theorem LH (n:Nat) (hn:n≤1048576) :
  aC Tryz.prog 182 [.nilS,.int .u64 n,.int .i64 2,.bool false,.bool false] (.tup [.own 0,.str (iK n)]) [(0,.row 5 (.ints .u8 []))]:=by
 have k1:=WH
 have k2:=Yw
 refine aC.aJ Tryz.func182 rfl (by decide) (by simp [Tryz.f182]) [.tmp 10,.tmp 11] rfl fun w0 T0 _=>?_
 simp only [Tryz.f182,aB]
 (repeat' with_reducible first|intro _|refine rz ?_|refine ra ?_ ?_|omega|simp only [go_sem,ZA,Zz,Array.toList_replicate,forall_const,List.forall_mem_replicate])
 refine ah.k k1 ?_
 (repeat' with_reducible first|intro _|exact dn|refine rn ?_|refine ra ?_ ?_)
 refine ah.k k2 ?_
 (repeat' with_reducible first|intro _|exact dn|refine rn ?_|refine ra ?_ ?_)
 refine aI.intro (fun x:FB=>⟨102,[(1,.int .u64 x.u),(2,.int .i64 2),(3,.bool false),(4,.bool false),(10,.own 0),(11,.str []),(12,.ptr 1 0),(13,.int .i64 x.i),(14,.int .u64 1),(15,.int .u64 2),(16,.int .u64 1)],[(0,.row 5 (.ints .u8 [])),(1,.box 216 (x.L.map (.int .u8)))],2⟩) (FBI n) (fun x=>x.u) ⟨65,n,List.replicate 65 0⟩ ?_ ⟨by simp,by dsimp only;omega,hn,[],by simp [bI],by simp⟩ fun x hI=>?_
 ·refine aO.ak rfl ?_ ?_<;>simp only [go_sem,Int.natCast_succ]
  all_goals rfl
 obtain ⟨i,u,L⟩:=x
 obtain ⟨hL,hi,hu,sfx,hs,hb⟩:=hI
 dsimp only at *
 have hsl:sfx.length=65 - i:=by
  have:=congrArg List.length hs
  rw [List.length_drop,XH] at this;omega
 have hbl:=congrArg List.length hb
 rw [List.length_append] at hbl
 have hnl:=vF 20 n (by rw [show (2:Nat) ^ (20+1)=2097152 from rfl];omega)
 have hup:=vG u
 have ha:=and1 u (by omega)
 have hsh:=aae u (by omega)
 have hdm:=Oc u
 have hi1:1≤i:=by omega
 have hin:((i:Int) - 1).toNat=i - 1:=by omega
 have hst:∀ v:Int,(L.set (i - 1) v).drop (i - 1)=v::L.drop i:=fun v=>by
  have:=set_drop (L:=L) (i:=i - 1) (by omega) v
  rwa [show i - 1+1=i by omega] at this
 (repeat' with_reducible first|intro _|refine rz ?_|refine ra ?_ ?_|omega|simp only [go_sem,ha])
 ·rename_i h2
  have h2:2≤u:=by omega
  refine ⟨⟨i - 1,u / 2,L.set (i - 1) ((pI u).toNat:Int)⟩,aO.ak rfl ?_ ?_,⟨by simpa using hL,by dsimp only;omega,by dsimp only;omega,pI u::sfx,by dsimp only;rw [hst,hs];rfl,?_⟩,by dsimp only;omega⟩
  ·simp only [go_sem,Int.natCast_succ,hsh,hdm,hin]
   omega
  ·simp only [go_sem,Int.natCast_succ,hsh,hdm,hin]
  ·dsimp only
   rw [RF h2,List.append_assoc] at hb
   exact hb
 ·rename_i h2
  have h2:u<2:=by omega
  have hbu:iK u=[pI u]:=nC h2
  have hdl:=XV h2
  have hr:List.map (fun n=>UInt8.ofNat n.toNat) (((pI u).toNat:Int)::L.drop i)=iK n:=by
   rw [hs,←hb,hbu]
   exact Vo (pI u::sfx)
  refine bf.auto 1 ?_ rfl ?_<;>simp only [go_sem,Int.natCast_succ,Post,hdl,hin,hst,hr]
theorem LJ (n:Nat) (hn:n≤1048576):aC Tryz.prog 138 [.int .i64 n,.int .i64 2] (.str (iK n)) []:=by
 have k:=LH n hn
 refine aC.aJ Tryz.func138 rfl (by decide) (by simp [Tryz.f138]) [.tmp 4] rfl fun w0 T0 _=>?_
 simp only [Tryz.f138,aB]
 have hz:decide ((n:Int)<0)=false:=by simp
 (repeat' with_reducible first|intro _|refine rz ?_|refine ra ?_ ?_|omega|simp only [go_sem,hz])
 refine ah.fr (dG.gJ k rfl rfl) (by simp only [aT,aU,dO,bD,aH,List.drop_zero,lk,reduceIte,reduceCtorEq,Nat.reduceEqDiff,Option.some.injEq,Item.row.injEq,Item.box.injEq,AV.ro.injEq,exists_eq_left,exists_and_left,exists_eq_left',exists_eq_right,and_assoc,and_true,true_and,List.cons.injEq,exists_eq',exists_eq,hz];exact ⟨_,.inl rfl,rfl⟩) 1 rfl (by simp [iq,Item.below,iU]) ?_
 (repeat' with_reducible first|intro _|exact dn|refine rn ?_|refine ra ?_ ?_)
 refine bf.auto 0 ?_ rfl ?_<;>simp only [go_sem,Int.natCast_succ,Post]
theorem PX (n:Nat) (hn:n≤1048576):aC Tryz.prog 98 [.int .i64 n,.int .i64 2] (.str (iK n)) []:=by
 have k:=LJ n hn
 refine aC.aJ Tryz.func98 rfl (by decide) (by simp [Tryz.f98]) [.tmp 4] rfl fun w0 T0 _=>?_
 simp only [Tryz.f98,aB]
 (repeat' with_reducible first|intro _|exact dn|refine rn ?_|refine ra ?_ ?_)
 refine ah.k k ?_
 (repeat' with_reducible first|intro _|exact dn|refine rn ?_|refine ra ?_ ?_)
 refine bf.auto 0 ?_ rfl ?_<;>simp only [go_sem,Int.natCast_succ,Post]
end Go.Fv.H
/- strings.HasPrefix. -/
namespace Go.Fv.H
open Go Go.Proofs
theorem take_prefix (s p:List UInt8):decide ((p.length:Int)≤(s.length:Int)∧s.take p.length=p)=p.isPrefixOf s:=by
 rw [Bool.eq_iff_iff,decide_eq_true_eq,List.isPrefixOf_iff_prefix]
 constructor
 ·rintro ⟨_,h⟩;exact List.prefix_iff_eq_take.2 h.symm
 ·intro h;exact ⟨by have:=h.length_le;omega,(List.prefix_iff_eq_take.1 h).symm⟩
theorem Dz (s p:List UInt8):aC Tryz.prog 169 [.str s,.str p] (.bool (p.isPrefixOf s)) []:=by
 rw [←take_prefix]
 refine aC.aJ Tryz.func169 rfl (by decide) (by simp [Tryz.f169]) [.tmp 4] rfl fun w0 T0 _=>?_
 simp only [Tryz.f169,aB]
 (repeat' with_reducible first|intro _|refine rz ?_|refine ra ?_ ?_|omega|simp only [go_sem,Nat.sub_zero,Int.toNat_natCast,Int.toNat_zero])
 refine bf.auto 0 ?_ rfl ?_<;>simp only [go_sem,Int.natCast_succ,Post]
theorem jr (s p:List UInt8):aC Tryz.prog 122 [.str s,.str p] (.bool (p.isPrefixOf s)) []:=by
 have k:=Dz s p
 refine aC.aJ Tryz.func122 rfl (by decide) (by simp [Tryz.f122]) [.tmp 4] rfl fun w0 T0 _=>?_
 simp only [Tryz.f122,aB]
 (repeat' with_reducible first|intro _|exact dn|refine rn ?_|refine ra ?_ ?_)
 refine ah.k k ?_
 (repeat' with_reducible first|intro _|exact dn|refine rn ?_|refine ra ?_ ?_)
 refine bf.auto 0 ?_ rfl ?_<;>simp only [go_sem,Int.natCast_succ,Post]
end Go.Fv.H
