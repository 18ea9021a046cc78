/-
  A part of the proof of the claim: walks over the program's functions and the plain laws that these need. No condition of its own.
-/
import Derived.Test.YtodlgmmbfbiilaaGreatDoorHArcGCardPart3
import Derived.Test.YtodlgmmbfbiilaaGreatDoorHArcGCardPart2
set_option linter.unusedSimpArgs false
set_option linter.unusedVariables false
set_option linter.unnecessarySimpa false
set_option maxRecDepth 8000
/- The context of a pixel: the walk. -/
namespace Go.Fv.H
open Go Go.Proofs
def aU (w h:Nat) (p:List Bool) (x y:Int) (k:Nat):Nat:=(Qy.take k).foldl (fun n d=>2*n+jG (kL w h p (x+d.1) (y+d.2))) 0
theorem Lp (w h:Nat) (p:List Bool) (x y:Int):∀ k,k≤10→aU w h p x y k<1024:=by
 intro k hk
 have key:∀ (l:List (Int × Int)) (n k:Nat),n<2 ^ k→l.foldl (fun n d=>2*n+jG (kL w h p (x+d.1) (y+d.2))) n<2 ^ (k+l.length):=by
  intro l
  induction l with
  | nil=>intro n k hn;exact hn
  | cons d l ih=>
   intro n k hn
   have:=Lj (kL w h p (x+d.1) (y+d.2))
   have h2:=ih (2*n+jG (kL w h p (x+d.1) (y+d.2))) (k+1) (by rw [Nat.pow_succ];omega)
   rw [List.foldl_cons,List.length_cons,Nat.add_comm l.length 1,←Nat.add_assoc];exact h2
 have h1:=key (Qy.take k) 0 0 (by decide)
 have h2:(2:Nat) ^ (0+(Qy.take k).length)≤2 ^ 10:=Nat.pow_le_pow_right (by decide) (by rw [List.length_take];omega)
 unfold aU
 rw [show (2:Nat) ^ 10=1024 from rfl] at h2
 omega
theorem GH (w h:Nat) (p:List Bool) (x y:Int):aU w h p x y 10=yH w h p x y:=rfl
set_option maxHeartbeats 8000000 in
theorem Ju (w h:Nat) (hw:w≤4000) (hh:h≤4000) (p:List Bool) (hp:p.length=w*h) (x y:Int) (hx:-1≤x∧x≤4000) (hy:-1≤y∧y≤4000) :
  aC Tryz.prog 75 [.agg [.int .i64 w,.int .i64 h,.ro (.bools p)],.int .i64 x,.int .i64 y] (.int .i64 (yH w h p x y)) []:=by
 rw [←GH]
 have hb:=Lp w h p x y
 have ka:=Um w h hw hh p hp
 refine aC.aJ Tryz.func75 rfl (by decide) (by simp [Tryz.f75]) [.tmp 6] rfl fun w0 T0 _=>?_
 simp only [Tryz.f75,aB]
 (repeat' with_reducible first|intro _|exact dn|refine rn ?_|refine ra ?_ ?_)
 refine aH.intro (fun i:Nat=>⟨40,[(21,.int .i64 i),(20,.agg [.int .i64 (-1),.int .i64 (-2),.int .i64 0,.int .i64 (-2),.int .i64 1,.int .i64 (-2),.int .i64 (-2),.int .i64 (-1),.int .i64 (-1),.int .i64 (-1),.int .i64 0,.int .i64 (-1),.int .i64 1,.int .i64 (-1),.int .i64 2,.int .i64 (-1),.int .i64 (-2),.int .i64 0,.int .i64 (-1),.int .i64 0]),(7,.int .i64 (aU w h p x y i)),(3,.ptr 0 0),(2,.int .i64 y),(1,.int .i64 x)],[(0,.box 24 [.int .i64 w,.int .i64 h,.ro (.bools p)])],1⟩) (fun i=>i≤10) (fun i=>10 - i) 0 ?_ (Nat.zero_le _) fun i hi=>?_
 ·refine aK.ak rfl ?_ ?_<;>simp only [go_sem,Int.natCast_succ]
  all_goals rfl
 have hi:i=0∨i=1∨i=2∨i=3∨i=4∨i=5∨i=6∨i=7∨i=8∨i=9∨i=10:=by omega
 rcases hi with rfl|rfl|rfl|rfl|rfl|rfl|rfl|rfl|rfl|rfl|rfl
 ·have h0:=hb 0 (by decide)
  have hF:aU w h p x y 1=2*aU w h p x y 0+jG (kL w h p (x+(-1)) (y+(-2))):=rfl
  have k1:=ka (x+(-1)) (y+(-2))
  generalize aU w h p x y 0=v at *
  generalize kL w h p (x+(-1)) (y+(-2))=b at *
  (repeat' with_reducible first|intro _|refine rz ?_|refine ra ?_ ?_|omega|simp only [go_sem,Int.cast_ofNat_Int])
  refine ah.k k1 ?_
  cases b with
  | true=>
   have hF:aU w h p x y 1=2*v+1:=hF
   (repeat' with_reducible first|intro _|refine rz ?_|refine ra ?_ ?_|omega|simp only [go_sem,Int.cast_ofNat_Int])
   refine ⟨1,aK.ak rfl ?_ ?_,by omega,by omega⟩<;>simp only [go_sem,Int.natCast_succ,hF,Int.cast_ofNat_Int]
   all_goals omega
  | false=>
   have hF:aU w h p x y 1=2*v:=hF
   (repeat' with_reducible first|intro _|refine rz ?_|refine ra ?_ ?_|omega|simp only [go_sem,Int.cast_ofNat_Int])
   refine ⟨1,aK.ak rfl ?_ ?_,by omega,by omega⟩<;>simp only [go_sem,Int.natCast_succ,hF,Int.cast_ofNat_Int]
   all_goals omega
 ·have h0:=hb 1 (by decide)
  have hF:aU w h p x y 2=2*aU w h p x y 1+jG (kL w h p (x+0) (y+(-2))):=rfl
  have k1:=ka (x+0) (y+(-2))
  generalize aU w h p x y 1=v at *
  generalize kL w h p (x+0) (y+(-2))=b at *
  (repeat' with_reducible first|intro _|refine rz ?_|refine ra ?_ ?_|omega|simp only [go_sem,Int.cast_ofNat_Int])
  refine ah.k k1 ?_
  cases b with
  | true=>
   have hF:aU w h p x y 2=2*v+1:=hF
   (repeat' with_reducible first|intro _|refine rz ?_|refine ra ?_ ?_|omega|simp only [go_sem,Int.cast_ofNat_Int])
   refine ⟨2,aK.ak rfl ?_ ?_,by omega,by omega⟩<;>simp only [go_sem,Int.natCast_succ,hF,Int.cast_ofNat_Int]
   all_goals omega
  | false=>
   have hF:aU w h p x y 2=2*v:=hF
   (repeat' with_reducible first|intro _|refine rz ?_|refine ra ?_ ?_|omega|simp only [go_sem,Int.cast_ofNat_Int])
   refine ⟨2,aK.ak rfl ?_ ?_,by omega,by omega⟩<;>simp only [go_sem,Int.natCast_succ,hF,Int.cast_ofNat_Int]
   all_goals omega
 ·have h0:=hb 2 (by decide)
  have hF:aU w h p x y 3=2*aU w h p x y 2+jG (kL w h p (x+1) (y+(-2))):=rfl
  have k1:=ka (x+1) (y+(-2))
  generalize aU w h p x y 2=v at *
  generalize kL w h p (x+1) (y+(-2))=b at *
  (repeat' with_reducible first|intro _|refine rz ?_|refine ra ?_ ?_|omega|simp only [go_sem,Int.cast_ofNat_Int])
  refine ah.k k1 ?_
  cases b with
  | true=>
   have hF:aU w h p x y 3=2*v+1:=hF
   (repeat' with_reducible first|intro _|refine rz ?_|refine ra ?_ ?_|omega|simp only [go_sem,Int.cast_ofNat_Int])
   refine ⟨3,aK.ak rfl ?_ ?_,by omega,by omega⟩<;>simp only [go_sem,Int.natCast_succ,hF,Int.cast_ofNat_Int]
   all_goals omega
  | false=>
   have hF:aU w h p x y 3=2*v:=hF
   (repeat' with_reducible first|intro _|refine rz ?_|refine ra ?_ ?_|omega|simp only [go_sem,Int.cast_ofNat_Int])
   refine ⟨3,aK.ak rfl ?_ ?_,by omega,by omega⟩<;>simp only [go_sem,Int.natCast_succ,hF,Int.cast_ofNat_Int]
   all_goals omega
 ·have h0:=hb 3 (by decide)
  have hF:aU w h p x y 4=2*aU w h p x y 3+jG (kL w h p (x+(-2)) (y+(-1))):=rfl
  have k1:=ka (x+(-2)) (y+(-1))
  generalize aU w h p x y 3=v at *
  generalize kL w h p (x+(-2)) (y+(-1))=b at *
  (repeat' with_reducible first|intro _|refine rz ?_|refine ra ?_ ?_|omega|simp only [go_sem,Int.cast_ofNat_Int])
  refine ah.k k1 ?_
  cases b with
  | true=>
   have hF:aU w h p x y 4=2*v+1:=hF
   (repeat' with_reducible first|intro _|refine rz ?_|refine ra ?_ ?_|omega|simp only [go_sem,Int.cast_ofNat_Int])
   refine ⟨4,aK.ak rfl ?_ ?_,by omega,by omega⟩<;>simp only [go_sem,Int.natCast_succ,hF,Int.cast_ofNat_Int]
   all_goals omega
  | false=>
   have hF:aU w h p x y 4=2*v:=hF
   (repeat' with_reducible first|intro _|refine rz ?_|refine ra ?_ ?_|omega|simp only [go_sem,Int.cast_ofNat_Int])
   refine ⟨4,aK.ak rfl ?_ ?_,by omega,by omega⟩<;>simp only [go_sem,Int.natCast_succ,hF,Int.cast_ofNat_Int]
   all_goals omega
 ·have h0:=hb 4 (by decide)
  have hF:aU w h p x y 5=2*aU w h p x y 4+jG (kL w h p (x+(-1)) (y+(-1))):=rfl
  have k1:=ka (x+(-1)) (y+(-1))
  generalize aU w h p x y 4=v at *
  generalize kL w h p (x+(-1)) (y+(-1))=b at *
  (repeat' with_reducible first|intro _|refine rz ?_|refine ra ?_ ?_|omega|simp only [go_sem,Int.cast_ofNat_Int])
  refine ah.k k1 ?_
  cases b with
  | true=>
   have hF:aU w h p x y 5=2*v+1:=hF
   (repeat' with_reducible first|intro _|refine rz ?_|refine ra ?_ ?_|omega|simp only [go_sem,Int.cast_ofNat_Int])
   refine ⟨5,aK.ak rfl ?_ ?_,by omega,by omega⟩<;>simp only [go_sem,Int.natCast_succ,hF,Int.cast_ofNat_Int]
   all_goals omega
  | false=>
   have hF:aU w h p x y 5=2*v:=hF
   (repeat' with_reducible first|intro _|refine rz ?_|refine ra ?_ ?_|omega|simp only [go_sem,Int.cast_ofNat_Int])
   refine ⟨5,aK.ak rfl ?_ ?_,by omega,by omega⟩<;>simp only [go_sem,Int.natCast_succ,hF,Int.cast_ofNat_Int]
   all_goals omega
 ·have h0:=hb 5 (by decide)
  have hF:aU w h p x y 6=2*aU w h p x y 5+jG (kL w h p (x+0) (y+(-1))):=rfl
  have k1:=ka (x+0) (y+(-1))
  generalize aU w h p x y 5=v at *
  generalize kL w h p (x+0) (y+(-1))=b at *
  (repeat' with_reducible first|intro _|refine rz ?_|refine ra ?_ ?_|omega|simp only [go_sem,Int.cast_ofNat_Int])
  refine ah.k k1 ?_
  cases b with
  | true=>
   have hF:aU w h p x y 6=2*v+1:=hF
   (repeat' with_reducible first|intro _|refine rz ?_|refine ra ?_ ?_|omega|simp only [go_sem,Int.cast_ofNat_Int])
   refine ⟨6,aK.ak rfl ?_ ?_,by omega,by omega⟩<;>simp only [go_sem,Int.natCast_succ,hF,Int.cast_ofNat_Int]
   all_goals omega
  | false=>
   have hF:aU w h p x y 6=2*v:=hF
   (repeat' with_reducible first|intro _|refine rz ?_|refine ra ?_ ?_|omega|simp only [go_sem,Int.cast_ofNat_Int])
   refine ⟨6,aK.ak rfl ?_ ?_,by omega,by omega⟩<;>simp only [go_sem,Int.natCast_succ,hF,Int.cast_ofNat_Int]
   all_goals omega
 ·have h0:=hb 6 (by decide)
  have hF:aU w h p x y 7=2*aU w h p x y 6+jG (kL w h p (x+1) (y+(-1))):=rfl
  have k1:=ka (x+1) (y+(-1))
  generalize aU w h p x y 6=v at *
  generalize kL w h p (x+1) (y+(-1))=b at *
  (repeat' with_reducible first|intro _|refine rz ?_|refine ra ?_ ?_|omega|simp only [go_sem,Int.cast_ofNat_Int])
  refine ah.k k1 ?_
  cases b with
  | true=>
   have hF:aU w h p x y 7=2*v+1:=hF
   (repeat' with_reducible first|intro _|refine rz ?_|refine ra ?_ ?_|omega|simp only [go_sem,Int.cast_ofNat_Int])
   refine ⟨7,aK.ak rfl ?_ ?_,by omega,by omega⟩<;>simp only [go_sem,Int.natCast_succ,hF,Int.cast_ofNat_Int]
   all_goals omega
  | false=>
   have hF:aU w h p x y 7=2*v:=hF
   (repeat' with_reducible first|intro _|refine rz ?_|refine ra ?_ ?_|omega|simp only [go_sem,Int.cast_ofNat_Int])
   refine ⟨7,aK.ak rfl ?_ ?_,by omega,by omega⟩<;>simp only [go_sem,Int.natCast_succ,hF,Int.cast_ofNat_Int]
   all_goals omega
 ·have h0:=hb 7 (by decide)
  have hF:aU w h p x y 8=2*aU w h p x y 7+jG (kL w h p (x+2) (y+(-1))):=rfl
  have k1:=ka (x+2) (y+(-1))
  generalize aU w h p x y 7=v at *
  generalize kL w h p (x+2) (y+(-1))=b at *
  (repeat' with_reducible first|intro _|refine rz ?_|refine ra ?_ ?_|omega|simp only [go_sem,Int.cast_ofNat_Int])
  refine ah.k k1 ?_
  cases b with
  | true=>
   have hF:aU w h p x y 8=2*v+1:=hF
   (repeat' with_reducible first|intro _|refine rz ?_|refine ra ?_ ?_|omega|simp only [go_sem,Int.cast_ofNat_Int])
   refine ⟨8,aK.ak rfl ?_ ?_,by omega,by omega⟩<;>simp only [go_sem,Int.natCast_succ,hF,Int.cast_ofNat_Int]
   all_goals omega
  | false=>
   have hF:aU w h p x y 8=2*v:=hF
   (repeat' with_reducible first|intro _|refine rz ?_|refine ra ?_ ?_|omega|simp only [go_sem,Int.cast_ofNat_Int])
   refine ⟨8,aK.ak rfl ?_ ?_,by omega,by omega⟩<;>simp only [go_sem,Int.natCast_succ,hF,Int.cast_ofNat_Int]
   all_goals omega
 ·have h0:=hb 8 (by decide)
  have hF:aU w h p x y 9=2*aU w h p x y 8+jG (kL w h p (x+(-2)) (y+0)):=rfl
  have k1:=ka (x+(-2)) (y+0)
  generalize aU w h p x y 8=v at *
  generalize kL w h p (x+(-2)) (y+0)=b at *
  (repeat' with_reducible first|intro _|refine rz ?_|refine ra ?_ ?_|omega|simp only [go_sem,Int.cast_ofNat_Int])
  refine ah.k k1 ?_
  cases b with
  | true=>
   have hF:aU w h p x y 9=2*v+1:=hF
   (repeat' with_reducible first|intro _|refine rz ?_|refine ra ?_ ?_|omega|simp only [go_sem,Int.cast_ofNat_Int])
   refine ⟨9,aK.ak rfl ?_ ?_,by omega,by omega⟩<;>simp only [go_sem,Int.natCast_succ,hF,Int.cast_ofNat_Int]
   all_goals omega
  | false=>
   have hF:aU w h p x y 9=2*v:=hF
   (repeat' with_reducible first|intro _|refine rz ?_|refine ra ?_ ?_|omega|simp only [go_sem,Int.cast_ofNat_Int])
   refine ⟨9,aK.ak rfl ?_ ?_,by omega,by omega⟩<;>simp only [go_sem,Int.natCast_succ,hF,Int.cast_ofNat_Int]
   all_goals omega
 ·have h0:=hb 9 (by decide)
  have hF:aU w h p x y 10=2*aU w h p x y 9+jG (kL w h p (x+(-1)) (y+0)):=rfl
  have k1:=ka (x+(-1)) (y+0)
  generalize aU w h p x y 9=v at *
  generalize kL w h p (x+(-1)) (y+0)=b at *
  (repeat' with_reducible first|intro _|refine rz ?_|refine ra ?_ ?_|omega|simp only [go_sem,Int.cast_ofNat_Int])
  refine ah.k k1 ?_
  cases b with
  | true=>
   have hF:aU w h p x y 10=2*v+1:=hF
   (repeat' with_reducible first|intro _|refine rz ?_|refine ra ?_ ?_|omega|simp only [go_sem,Int.cast_ofNat_Int])
   refine ⟨10,aK.ak rfl ?_ ?_,by omega,by omega⟩<;>simp only [go_sem,Int.natCast_succ,hF,Int.cast_ofNat_Int]
   all_goals omega
  | false=>
   have hF:aU w h p x y 10=2*v:=hF
   (repeat' with_reducible first|intro _|refine rz ?_|refine ra ?_ ?_|omega|simp only [go_sem,Int.cast_ofNat_Int])
   refine ⟨10,aK.ak rfl ?_ ?_,by omega,by omega⟩<;>simp only [go_sem,Int.natCast_succ,hF,Int.cast_ofNat_Int]
   all_goals omega
 ·(repeat' with_reducible first|intro _|refine rz ?_|refine ra ?_ ?_|omega|simp only [go_sem,Int.cast_ofNat_Int])
  refine bg.auto 0 ?_ rfl ?_<;>simp only [go_sem,Int.natCast_succ,Post]
set_option maxHeartbeats 8000000 in
theorem ED (w h:Nat) (hw:w≤4000) (hh:h≤4000) (p:List Bool) (hp:p.length=w*h) (x y:Int) (hx:-1≤x∧x≤4000) (hy:-1≤y∧y≤4000) :
  aC Tryz.prog 21 [.agg [.int .i64 w,.int .i64 h,.ro (.bools p)],.int .i64 x,.int .i64 y] (.int .i64 (yH w h p x y)) []:=by
 rw [←GH]
 have hb:=Lp w h p x y
 have ka:=IC w h hw hh p hp
 simp only [←UC] at ka
 refine aC.aJ Tryz.func21 rfl (by decide) (by simp [Tryz.f21]) [.tmp 6] rfl fun w0 T0 _=>?_
 simp only [Tryz.f21,aB]
 (repeat' with_reducible first|intro _|exact dn|refine rn ?_|refine ra ?_ ?_)
 refine aH.intro (fun i:Nat=>⟨40,[(21,.int .i64 i),(20,.agg [.int .i64 (-1),.int .i64 (-2),.int .i64 0,.int .i64 (-2),.int .i64 1,.int .i64 (-2),.int .i64 (-2),.int .i64 (-1),.int .i64 (-1),.int .i64 (-1),.int .i64 0,.int .i64 (-1),.int .i64 1,.int .i64 (-1),.int .i64 2,.int .i64 (-1),.int .i64 (-2),.int .i64 0,.int .i64 (-1),.int .i64 0]),(7,.int .i64 (aU w h p x y i)),(3,.ptr 0 0),(2,.int .i64 y),(1,.int .i64 x)],[(0,.box 24 [.int .i64 w,.int .i64 h,.ro (.bools p)])],1⟩) (fun i=>i≤10) (fun i=>10 - i) 0 ?_ (Nat.zero_le _) fun i hi=>?_
 ·refine aK.ak rfl ?_ ?_<;>simp only [go_sem,Int.natCast_succ]
  all_goals rfl
 have hi:i=0∨i=1∨i=2∨i=3∨i=4∨i=5∨i=6∨i=7∨i=8∨i=9∨i=10:=by omega
 rcases hi with rfl|rfl|rfl|rfl|rfl|rfl|rfl|rfl|rfl|rfl|rfl
 ·have h0:=hb 0 (by decide)
  have hF:aU w h p x y 1=2*aU w h p x y 0+jG (kL w h p (x+(-1)) (y+(-2))):=rfl
  have k1:=ka (x+(-1)) (y+(-2))
  generalize aU w h p x y 0=v at *
  generalize kL w h p (x+(-1)) (y+(-2))=b at *
  (repeat' with_reducible first|intro _|refine rz ?_|refine ra ?_ ?_|omega|simp only [go_sem,Int.cast_ofNat_Int])
  refine ah.k k1 ?_
  cases b with
  | true=>
   have hF:aU w h p x y 1=2*v+1:=hF
   (repeat' with_reducible first|intro _|refine rz ?_|refine ra ?_ ?_|omega|simp only [go_sem,Int.cast_ofNat_Int])
   refine ⟨1,aK.ak rfl ?_ ?_,by omega,by omega⟩<;>simp only [go_sem,Int.natCast_succ,hF,Int.cast_ofNat_Int]
   all_goals omega
  | false=>
   have hF:aU w h p x y 1=2*v:=hF
   (repeat' with_reducible first|intro _|refine rz ?_|refine ra ?_ ?_|omega|simp only [go_sem,Int.cast_ofNat_Int])
   refine ⟨1,aK.ak rfl ?_ ?_,by omega,by omega⟩<;>simp only [go_sem,Int.natCast_succ,hF,Int.cast_ofNat_Int]
   all_goals omega
 ·have h0:=hb 1 (by decide)
  have hF:aU w h p x y 2=2*aU w h p x y 1+jG (kL w h p (x+0) (y+(-2))):=rfl
  have k1:=ka (x+0) (y+(-2))
  generalize aU w h p x y 1=v at *
  generalize kL w h p (x+0) (y+(-2))=b at *
  (repeat' with_reducible first|intro _|refine rz ?_|refine ra ?_ ?_|omega|simp only [go_sem,Int.cast_ofNat_Int])
  refine ah.k k1 ?_
  cases b with
  | true=>
   have hF:aU w h p x y 2=2*v+1:=hF
   (repeat' with_reducible first|intro _|refine rz ?_|refine ra ?_ ?_|omega|simp only [go_sem,Int.cast_ofNat_Int])
   refine ⟨2,aK.ak rfl ?_ ?_,by omega,by omega⟩<;>simp only [go_sem,Int.natCast_succ,hF,Int.cast_ofNat_Int]
   all_goals omega
  | false=>
   have hF:aU w h p x y 2=2*v:=hF
   (repeat' with_reducible first|intro _|refine rz ?_|refine ra ?_ ?_|omega|simp only [go_sem,Int.cast_ofNat_Int])
   refine ⟨2,aK.ak rfl ?_ ?_,by omega,by omega⟩<;>simp only [go_sem,Int.natCast_succ,hF,Int.cast_ofNat_Int]
   all_goals omega
 ·have h0:=hb 2 (by decide)
  have hF:aU w h p x y 3=2*aU w h p x y 2+jG (kL w h p (x+1) (y+(-2))):=rfl
  have k1:=ka (x+1) (y+(-2))
  generalize aU w h p x y 2=v at *
  generalize kL w h p (x+1) (y+(-2))=b at *
  (repeat' with_reducible first|intro _|refine rz ?_|refine ra ?_ ?_|omega|simp only [go_sem,Int.cast_ofNat_Int])
  refine ah.k k1 ?_
  cases b with
  | true=>
   have hF:aU w h p x y 3=2*v+1:=hF
   (repeat' with_reducible first|intro _|refine rz ?_|refine ra ?_ ?_|omega|simp only [go_sem,Int.cast_ofNat_Int])
   refine ⟨3,aK.ak rfl ?_ ?_,by omega,by omega⟩<;>simp only [go_sem,Int.natCast_succ,hF,Int.cast_ofNat_Int]
   all_goals omega
  | false=>
   have hF:aU w h p x y 3=2*v:=hF
   (repeat' with_reducible first|intro _|refine rz ?_|refine ra ?_ ?_|omega|simp only [go_sem,Int.cast_ofNat_Int])
   refine ⟨3,aK.ak rfl ?_ ?_,by omega,by omega⟩<;>simp only [go_sem,Int.natCast_succ,hF,Int.cast_ofNat_Int]
   all_goals omega
 ·have h0:=hb 3 (by decide)
  have hF:aU w h p x y 4=2*aU w h p x y 3+jG (kL w h p (x+(-2)) (y+(-1))):=rfl
  have k1:=ka (x+(-2)) (y+(-1))
  generalize aU w h p x y 3=v at *
  generalize kL w h p (x+(-2)) (y+(-1))=b at *
  (repeat' with_reducible first|intro _|refine rz ?_|refine ra ?_ ?_|omega|simp only [go_sem,Int.cast_ofNat_Int])
  refine ah.k k1 ?_
  cases b with
  | true=>
   have hF:aU w h p x y 4=2*v+1:=hF
   (repeat' with_reducible first|intro _|refine rz ?_|refine ra ?_ ?_|omega|simp only [go_sem,Int.cast_ofNat_Int])
   refine ⟨4,aK.ak rfl ?_ ?_,by omega,by omega⟩<;>simp only [go_sem,Int.natCast_succ,hF,Int.cast_ofNat_Int]
   all_goals omega
  | false=>
   have hF:aU w h p x y 4=2*v:=hF
   (repeat' with_reducible first|intro _|refine rz ?_|refine ra ?_ ?_|omega|simp only [go_sem,Int.cast_ofNat_Int])
   refine ⟨4,aK.ak rfl ?_ ?_,by omega,by omega⟩<;>simp only [go_sem,Int.natCast_succ,hF,Int.cast_ofNat_Int]
   all_goals omega
 ·have h0:=hb 4 (by decide)
  have hF:aU w h p x y 5=2*aU w h p x y 4+jG (kL w h p (x+(-1)) (y+(-1))):=rfl
  have k1:=ka (x+(-1)) (y+(-1))
  generalize aU w h p x y 4=v at *
  generalize kL w h p (x+(-1)) (y+(-1))=b at *
  (repeat' with_reducible first|intro _|refine rz ?_|refine ra ?_ ?_|omega|simp only [go_sem,Int.cast_ofNat_Int])
  refine ah.k k1 ?_
  cases b with
  | true=>
   have hF:aU w h p x y 5=2*v+1:=hF
   (repeat' with_reducible first|intro _|refine rz ?_|refine ra ?_ ?_|omega|simp only [go_sem,Int.cast_ofNat_Int])
   refine ⟨5,aK.ak rfl ?_ ?_,by omega,by omega⟩<;>simp only [go_sem,Int.natCast_succ,hF,Int.cast_ofNat_Int]
   all_goals omega
  | false=>
   have hF:aU w h p x y 5=2*v:=hF
   (repeat' with_reducible first|intro _|refine rz ?_|refine ra ?_ ?_|omega|simp only [go_sem,Int.cast_ofNat_Int])
   refine ⟨5,aK.ak rfl ?_ ?_,by omega,by omega⟩<;>simp only [go_sem,Int.natCast_succ,hF,Int.cast_ofNat_Int]
   all_goals omega
 ·have h0:=hb 5 (by decide)
  have hF:aU w h p x y 6=2*aU w h p x y 5+jG (kL w h p (x+0) (y+(-1))):=rfl
  have k1:=ka (x+0) (y+(-1))
  generalize aU w h p x y 5=v at *
  generalize kL w h p (x+0) (y+(-1))=b at *
  (repeat' with_reducible first|intro _|refine rz ?_|refine ra ?_ ?_|omega|simp only [go_sem,Int.cast_ofNat_Int])
  refine ah.k k1 ?_
  cases b with
  | true=>
   have hF:aU w h p x y 6=2*v+1:=hF
   (repeat' with_reducible first|intro _|refine rz ?_|refine ra ?_ ?_|omega|simp only [go_sem,Int.cast_ofNat_Int])
   refine ⟨6,aK.ak rfl ?_ ?_,by omega,by omega⟩<;>simp only [go_sem,Int.natCast_succ,hF,Int.cast_ofNat_Int]
   all_goals omega
  | false=>
   have hF:aU w h p x y 6=2*v:=hF
   (repeat' with_reducible first|intro _|refine rz ?_|refine ra ?_ ?_|omega|simp only [go_sem,Int.cast_ofNat_Int])
   refine ⟨6,aK.ak rfl ?_ ?_,by omega,by omega⟩<;>simp only [go_sem,Int.natCast_succ,hF,Int.cast_ofNat_Int]
   all_goals omega
 ·have h0:=hb 6 (by decide)
  have hF:aU w h p x y 7=2*aU w h p x y 6+jG (kL w h p (x+1) (y+(-1))):=rfl
  have k1:=ka (x+1) (y+(-1))
  generalize aU w h p x y 6=v at *
  generalize kL w h p (x+1) (y+(-1))=b at *
  (repeat' with_reducible first|intro _|refine rz ?_|refine ra ?_ ?_|omega|simp only [go_sem,Int.cast_ofNat_Int])
  refine ah.k k1 ?_
  cases b with
  | true=>
   have hF:aU w h p x y 7=2*v+1:=hF
   (repeat' with_reducible first|intro _|refine rz ?_|refine ra ?_ ?_|omega|simp only [go_sem,Int.cast_ofNat_Int])
   refine ⟨7,aK.ak rfl ?_ ?_,by omega,by omega⟩<;>simp only [go_sem,Int.natCast_succ,hF,Int.cast_ofNat_Int]
   all_goals omega
  | false=>
   have hF:aU w h p x y 7=2*v:=hF
   (repeat' with_reducible first|intro _|refine rz ?_|refine ra ?_ ?_|omega|simp only [go_sem,Int.cast_ofNat_Int])
   refine ⟨7,aK.ak rfl ?_ ?_,by omega,by omega⟩<;>simp only [go_sem,Int.natCast_succ,hF,Int.cast_ofNat_Int]
   all_goals omega
 ·have h0:=hb 7 (by decide)
  have hF:aU w h p x y 8=2*aU w h p x y 7+jG (kL w h p (x+2) (y+(-1))):=rfl
  have k1:=ka (x+2) (y+(-1))
  generalize aU w h p x y 7=v at *
  generalize kL w h p (x+2) (y+(-1))=b at *
  (repeat' with_reducible first|intro _|refine rz ?_|refine ra ?_ ?_|omega|simp only [go_sem,Int.cast_ofNat_Int])
  refine ah.k k1 ?_
  cases b with
  | true=>
   have hF:aU w h p x y 8=2*v+1:=hF
   (repeat' with_reducible first|intro _|refine rz ?_|refine ra ?_ ?_|omega|simp only [go_sem,Int.cast_ofNat_Int])
   refine ⟨8,aK.ak rfl ?_ ?_,by omega,by omega⟩<;>simp only [go_sem,Int.natCast_succ,hF,Int.cast_ofNat_Int]
   all_goals omega
  | false=>
   have hF:aU w h p x y 8=2*v:=hF
   (repeat' with_reducible first|intro _|refine rz ?_|refine ra ?_ ?_|omega|simp only [go_sem,Int.cast_ofNat_Int])
   refine ⟨8,aK.ak rfl ?_ ?_,by omega,by omega⟩<;>simp only [go_sem,Int.natCast_succ,hF,Int.cast_ofNat_Int]
   all_goals omega
 ·have h0:=hb 8 (by decide)
  have hF:aU w h p x y 9=2*aU w h p x y 8+jG (kL w h p (x+(-2)) (y+0)):=rfl
  have k1:=ka (x+(-2)) (y+0)
  generalize aU w h p x y 8=v at *
  generalize kL w h p (x+(-2)) (y+0)=b at *
  (repeat' with_reducible first|intro _|refine rz ?_|refine ra ?_ ?_|omega|simp only [go_sem,Int.cast_ofNat_Int])
  refine ah.k k1 ?_
  cases b with
  | true=>
   have hF:aU w h p x y 9=2*v+1:=hF
   (repeat' with_reducible first|intro _|refine rz ?_|refine ra ?_ ?_|omega|simp only [go_sem,Int.cast_ofNat_Int])
   refine ⟨9,aK.ak rfl ?_ ?_,by omega,by omega⟩<;>simp only [go_sem,Int.natCast_succ,hF,Int.cast_ofNat_Int]
   all_goals omega
  | false=>
   have hF:aU w h p x y 9=2*v:=hF
   (repeat' with_reducible first|intro _|refine rz ?_|refine ra ?_ ?_|omega|simp only [go_sem,Int.cast_ofNat_Int])
   refine ⟨9,aK.ak rfl ?_ ?_,by omega,by omega⟩<;>simp only [go_sem,Int.natCast_succ,hF,Int.cast_ofNat_Int]
   all_goals omega
 ·have h0:=hb 9 (by decide)
  have hF:aU w h p x y 10=2*aU w h p x y 9+jG (kL w h p (x+(-1)) (y+0)):=rfl
  have k1:=ka (x+(-1)) (y+0)
  generalize aU w h p x y 9=v at *
  generalize kL w h p (x+(-1)) (y+0)=b at *
  (repeat' with_reducible first|intro _|refine rz ?_|refine ra ?_ ?_|omega|simp only [go_sem,Int.cast_ofNat_Int])
  refine ah.k k1 ?_
  cases b with
  | true=>
   have hF:aU w h p x y 10=2*v+1:=hF
   (repeat' with_reducible first|intro _|refine rz ?_|refine ra ?_ ?_|omega|simp only [go_sem,Int.cast_ofNat_Int])
   refine ⟨10,aK.ak rfl ?_ ?_,by omega,by omega⟩<;>simp only [go_sem,Int.natCast_succ,hF,Int.cast_ofNat_Int]
   all_goals omega
  | false=>
   have hF:aU w h p x y 10=2*v:=hF
   (repeat' with_reducible first|intro _|refine rz ?_|refine ra ?_ ?_|omega|simp only [go_sem,Int.cast_ofNat_Int])
   refine ⟨10,aK.ak rfl ?_ ?_,by omega,by omega⟩<;>simp only [go_sem,Int.natCast_succ,hF,Int.cast_ofNat_Int]
   all_goals omega
 ·(repeat' with_reducible first|intro _|refine rz ?_|refine ra ?_ ?_|omega|simp only [go_sem,Int.cast_ofNat_Int])
  refine bg.auto 0 ?_ rfl ?_<;>simp only [go_sem,Int.natCast_succ,Post]
end Go.Fv.H
/- shrink.adaptive: the walk. -/
namespace Go.Fv.H
open Go Go.Proofs
def jH (l:List Nat):List Int:=l.map fun (n:Nat)=>(n:Int)
def yN:List Nat:=List.replicate 1024 2048
theorem IU:(jH yN).length=1024:=by unfold jH yN;rw [List.length_map,List.length_replicate]
theorem Nc {i:Nat} (h:i<1024):(jH yN).getD i 0=2048:=by
 unfold jH yN
 rw [List.getD_eq_getElem?_getD,List.getElem?_map,List.getElem?_replicate,if_pos h];rfl
theorem Ib (l:List Nat):(jH l).length=l.length:=List.length_map ..
theorem MN {l:List Nat} {i:Nat} (h:i<l.length):(jH l).getD i 0=((l.getD i 0:Nat):Int):=by
 unfold jH;simp [List.getD,h]
theorem Ic (l:List Nat) (i v:Nat):(jH l).set i (v:Int)=jH (l.set i v):=by unfold jH;rw [List.map_set]
theorem JW:aC Tryz.prog 141 [] (.own 0) [(0,.row 172 (.ints .u32 (jH yN)))]:=by
 have hT:=IU
 have hg0:=@Nc
 generalize jH yN=T at *
 refine aC.aJ Tryz.func141 rfl (by decide) (by simp [Tryz.f141]) [.tmp 0] rfl fun w0 T0 _=>?_
 simp only [Tryz.f141,aB]
 (repeat' with_reducible first|intro _|exact dn|refine rn ?_|refine ra ?_ ?_)
 refine aH.intro (fun i:Nat=>⟨14,[(6,.int .i64 i),(5,.int .i64 1024),(1,.own 0)],[(0,.row 172 (.ints .u32 (T.take i++List.replicate (1024 - i) 0)))],1⟩) (fun i=>i≤1024) (fun i=>1024 - i) 0 ?_ (Nat.zero_le _) fun i hi=>?_
 ·refine aK.ak rfl ?_ ?_<;>simp only [go_sem,Int.natCast_succ]
  all_goals rfl
 have htl:(T.take i).length=i:=by rw [List.length_take,hT];omega
 by_cases hlt:i<1024
 ·have f1:((i:Int)<1024)=True:=eq_true (by omega)
  have hg:T.getD i 0=2048:=hg0 hlt
  have hs:=nM (z:=0) (d:=0) hT hlt
  rw [hg] at hs
  (repeat' with_reducible first|intro _|refine rz ?_|refine ra ?_ ?_|omega|simp only [go_sem,f1,htl])
  rw [hs]
  refine ⟨i+1,aK.ak rfl ?_ ?_,by omega,by omega⟩<;>simp only [go_sem,Int.natCast_succ]
 ·have f1:((i:Int)<1024)=False:=eq_false (by omega)
  have e:i=1024:=by omega
  subst e
  have hfull:T.take 1024=T:=List.take_of_length_le (by rw [hT];exact Nat.le_refl _)
  (repeat' with_reducible first|intro _|refine rz ?_|refine ra ?_ ?_|omega|simp only [go_sem,f1])
  refine bg.auto 1 ?_ rfl ?_<;>simp only [go_sem,Int.natCast_succ,Post,hfull]
theorem JJ (q:Nat) (k:Bool) (hq:31≤q∧q≤4065):aC Tryz.prog 142 [.int .u32 q,.bool k] (.int .u32 (Hz q k)) []:=by
 refine aC.aJ Tryz.func142 rfl (by decide) (by simp [Tryz.f142]) [.tmp 4] rfl fun w0 T0 _=>?_
 simp only [Tryz.f142,aB]
 cases k with
 | true=>
  have d1:(q:Int).tdiv 32=((q / 32:Nat):Int):=by rw [Int.tdiv_eq_ediv_of_nonneg (by omega)];omega
  have e:Hz q true=q - q / 32:=rfl
  have e2:(q:Int) - ((q / 32:Nat):Int)=((q - q / 32:Nat):Int):=by omega
  (repeat' with_reducible first|intro _|refine rz ?_|refine ra ?_ ?_|omega|simp only [go_sem,d1])
  refine bg.auto 0 ?_ rfl ?_<;>simp only [go_sem,Int.natCast_succ,Post,e,e2]
 | false=>
  have d1:(4096 - (q:Int)).tdiv 32=(((4096 - q) / 32:Nat):Int):=by rw [Int.tdiv_eq_ediv_of_nonneg (by omega)];omega
  have e:Hz q false=q+(4096 - q) / 32:=rfl
  have e2:(q:Int)+(((4096 - q) / 32:Nat):Int)=((q+(4096 - q) / 32:Nat):Int):=by omega
  (repeat' with_reducible first|intro _|refine rz ?_|refine ra ?_ ?_|omega|simp only [go_sem,d1])
  refine bg.auto 0 ?_ rfl ?_<;>simp only [go_sem,Int.natCast_succ,Post,e,e2]
theorem lH (a b:Bytes):aj (a++b)=aj a++aj b:=by unfold aj;rw [List.map_append]
theorem wF (A:Bytes) (c d:UInt8) (R:Bytes):(aj (A++c::R)).set A.length (d.toNat:Int)=aj (A++d::R):=by
 unfold aj
 rw [List.map_append,List.map_append,List.set_append_right _ _ (by rw [List.length_map];exact Nat.le_refl _),List.length_map,Nat.sub_self]
 rfl
theorem qQ (A:Bytes) (c:UInt8) (R:Bytes):(aj (A++c::R)).getD A.length 0=(c.toNat:Int):=by
 rw [bytes_at (by rw [List.length_append,List.length_cons];omega)]
 simp [List.getD]
theorem uH (A:Bytes) (c:UInt8) (R:Bytes):(aj (A++c::R)).length=A.length+(R.length+1):=by rw [cZ,List.length_append,List.length_cons]
theorem He (c:UInt8):IntKind.u8.wrap ((c.toNat:Int)+1)=(((c+1:UInt8).toNat:Nat):Int):=by
 rw [kS,UInt8.toNat_add]
 have:(1:UInt8).toNat=1:=rfl
 rw [this]
 omega
theorem PV (c:UInt8):(c+1:UInt8).toNat=0↔c=255:=by
 rw [UInt8.toNat_add]
 have h1:(1:UInt8).toNat=1:=rfl
 have h2:c=255↔c.toNat=255:=UInt8.toNat_inj.symm
 have h3:=c.toNat_lt
 rw [h1,h2]
 omega
theorem TB (j:Nat) (c:UInt8) (R:Bytes) (hc:c≠255):JG (List.replicate j 255++c::R)=List.replicate j 0++(c+1)::R:=by
 induction j with
 | zero=>show JG (c::R)=_;unfold JG;rw [if_neg hc];rfl
 | succ j ih=>rw [List.replicate_succ,List.cons_append];unfold JG;rw [if_pos rfl,ih];rfl
theorem Vp {k n:Nat} {A:Bytes} {c:UInt8} {j:Nat} (h:bP k n=A++c::List.replicate j 255) (hc:c≠255):bP k (n+1)=A++(c+1)::List.replicate j 0:=by
 have h1:=TD k n
 rw [h,List.reverse_append,List.reverse_cons,List.reverse_replicate,List.append_assoc,List.singleton_append,TB j c _ hc] at h1
 have h2:=congrArg List.reverse h1
 rw [List.reverse_reverse] at h2
 rw [←h2,List.reverse_append,List.reverse_cons,List.reverse_replicate,List.reverse_reverse,List.append_assoc,List.singleton_append]
theorem Qw:∀ k,bY (List.replicate k 255)=256 ^ k - 1
 | 0=>rfl
 | k+1=>by
  rw [List.replicate_succ',wU,Qw k,Nat.pow_succ]
  have:0<256 ^ k:=Nat.pow_pos (by decide)
  have h2:(255:UInt8).toNat=255:=rfl
  omega
theorem Wn {k n j:Nat} (h:bP k n=255::List.replicate j 255) (hn:n+1<256 ^ k):False:=by
 have hl:=congrArg List.length h
 rw [aS,List.length_cons,List.length_replicate] at hl
 subst hl
 have h2:=congrArg bY h
 rw [y9,←List.replicate_succ,Qw,Nat.mod_eq_of_lt (by omega)] at h2
 omega
theorem be4 (N:Nat):aj (bP 4 N)=[((N / 16777216%256:Nat):Int),((N / 65536%256:Nat):Int),((N / 256%256:Nat):Int),((N%256:Nat):Int)]:=by
 have h:∀ i,i<4→(aj (bP 4 N)).getD i 0=((N / 256 ^ (4 - 1 - i)%256:Nat):Int):=fun i hi=>Le hi
 have hl:(aj (bP 4 N)).length=4:=by rw [cZ,aS]
 have h0:=h 0 (by decide)
 have h1:=h 1 (by decide)
 have h2:=h 2 (by decide)
 have h3:=h 3 (by decide)
 generalize aj (bP 4 N)=L at *
 match L,hl with
 | [a,b,c,d],_=>
  simp at h0 h1 h2 h3
  rw [h0,h1,h2,h3]
  simp
theorem ni {a s q:Nat} (hs:s<64) (hq:2 ^ s=q):lF .u64 (a:Int) (s:Int)=((a / q:Nat):Int):=by
 unfold lF
 have e:min (s:Int).toNat IntKind.u64.bits=s:=by show min s 64=s;omega
 rw [e,Int.fdiv_eq_ediv_of_nonneg _ (Int.le_of_lt (Int.pow_pos (by decide))),←hq]
 rfl
theorem uq {a:Nat} (ha:a<18446744073709551616):fV .and .u64 (a:Int) 4294967295=((a%4294967296:Nat):Int):=by
 obtain ⟨e1,e2⟩:=bits_nat a 4294967295 ha (by decide)
 show IntKind.u64.wrap (((BitVec.ofInt 64 (a:Int)) &&& (BitVec.ofInt 64 ((4294967295:Nat):Int))).toNat:Int)=_
 rw [BitVec.toNat_and,e1,e2]
 have h:=Nat.and_two_pow_sub_one_eq_mod a 32
 rw [show (2:Nat) ^ 32 - 1=4294967295 from rfl,show (2:Nat) ^ 32=4294967296 from rfl] at h
 rw [h]
 exact jQ (kT.2 (by omega))
theorem MZ (w h:Nat) (p:List Bool):∀ i,(fQ w h p i).sh≤i
 | 0=>Nat.le_refl _
 | i+1=>by
  obtain ⟨r,h1,h2,_⟩:=Uo (yS w h p i) (yV w h p ((i%w:Nat):Int) ((i / w:Nat):Int)) (p.getD i false)
  have e:fQ w h p (i+1)=(fQ w h p i).step (yH w h p ((i%w:Nat):Int) ((i / w:Nat):Int)) (p.getD i false):=rfl
  have:=MZ w h p i
  rw [e,h1];omega
structure CX where
 A:Bytes
 c:UInt8
 j:Nat
def xg (x:CX):List Int:=aj (x.A++(x.c+1)::List.replicate x.j 0)
theorem Rl (x:CX):(xg x).length=x.A.length+(x.j+1):=by unfold xg;rw [uH,List.length_replicate]
theorem Uk (x:CX):(xg x).getD x.A.length 0=((x.c+1:UInt8).toNat:Int):=qQ _ _ _
theorem D6 {A':Bytes} {c':UInt8} {j:Nat}:xg ⟨A'++[c'],255,j⟩=aj (A'++c'::List.replicate (j+1) 0):=by
 unfold xg
 dsimp only
 rw [List.append_assoc,List.singleton_append,List.replicate_succ]
 rfl
theorem Ov {A':Bytes} {c':UInt8} {j:Nat}:(xg ⟨A'++[c'],255,j⟩).getD A'.length 0=(c'.toNat:Int):=by rw [D6];exact qQ _ _ _
theorem Rn {A':Bytes} {c':UInt8} {j:Nat}:(xg ⟨A'++[c'],255,j⟩).set A'.length ((c'+1:UInt8).toNat:Int)=xg ⟨A',c',j+1⟩:=by rw [D6];exact wF _ _ _ _
set_option maxHeartbeats 16000000 in
theorem Gj (w h:Nat) (hw0:0<w) (hw:w≤4000) (hh:h≤4000) (hwh:w*h≤1048576) (p:List Bool) (hp:p.length=w*h) :
  aC Tryz.prog 154 [.agg [.int .i64 w,.int .i64 h,.ro (.bools p)]] (.own 0) [(0,.row 5 (.ints .u8 (aj (OI w h p))))]:=by
 refine aC.aJ Tryz.func154 rfl (by decide) (by simp [Tryz.f154]) [.tmp 2] rfl fun w0 T0 _=>?_
 simp only [Tryz.f154,aB]
 (repeat' with_reducible first|intro _|exact dn|refine rn ?_|refine ra ?_ ?_)
 refine ah.o JW 1 ?_
 (repeat' with_reducible first|intro _|exact dn|refine rn ?_|refine ra ?_ ?_)
 refine aH.intro (fun i:Nat=>⟨111,[(16,.int .i64 i),(15,.int .i64 p.length),(14,.ro (.bools p)),(6,.own 1),(5,.int .u32 (fQ w h p i).span),(4,.int .u64 ((fQ w h p i).big%4294967296:Nat)),(3,.own 2),(1,.ptr 0 0)],[(0,.box 24 [.int .i64 w,.int .i64 h,.ro (.bools p)]),(1,.row 172 (.ints .u32 (jH (fQ w h p i).tab))),(2,.row 5 (.ints .u8 (aj (bP (fQ w h p i).sh ((fQ w h p i).big / 4294967296)))))],3⟩) (fun i=>i≤p.length) (fun i=>p.length - i) 0 ?_ (Nat.zero_le _) fun i hi=>?_
 ·refine aK.ak rfl ?_ ?_<;>simp only [go_sem,Int.natCast_succ]
  all_goals exact ⟨rfl,rfl⟩
 have hsh:=MZ w h p i
 by_cases hlt:i<p.length
 ·have f1:((i:Int)<(p.length:Int))=True:=eq_true (by omega)
  have hw1:i%w<w:=Nat.mod_lt _ hw0
  have hw2:i / w<h:=Nat.div_lt_of_lt_mul (by omega)
  have d1:(i:Int).tmod (w:Int)=((i%w:Nat):Int):=by rw [Int.tmod_eq_emod_of_nonneg (Int.natCast_nonneg _)];rfl
  have d2:(i:Int).tdiv (w:Int)=((i / w:Nat):Int):=by rw [Int.tdiv_eq_ediv_of_nonneg (Int.natCast_nonneg _)];rfl
  have hnext:fQ w h p (i+1)=((fQ w h p i).mid (yH w h p ((i%w:Nat):Int) ((i / w:Nat):Int)) (p.getD i false)).norm:=rfl
  obtain ⟨xx,hxx⟩:∃ xx,i%w=xx:=⟨_,rfl⟩
  obtain ⟨yy,hyy⟩:∃ yy,i / w=yy:=⟨_,rfl⟩
  rw [hxx] at hw1 d1 hnext
  rw [hyy] at hw2 d2 hnext
  have kc:=Ju w h hw hh p hp (xx:Int) (yy:Int) (by omega) (by omega)
  have hc:=yV w h p (xx:Int) (yy:Int)
  have hok:=yS w h p i
  have hwne:¬(w:Int)=0:=by omega
  generalize yH w h p (xx:Int) (yy:Int)=c at *
  generalize hink:p.getD i false=ink at *
  generalize fQ w h p i=s at *
  obtain ⟨ht1,ht2⟩:=AE.Fz hok hc
  obtain ⟨hm1,hm2⟩:=AE.Qg hok hc
  have hlo:=hok.lo
  have hhi:=hok.hi
  have hlen:=hok.len
  have hg:=MN (l:=s.tab) (i:=c) (by rw [hlen];exact hc)
  have hgl:=Ib s.tab
  have q1:((s.span:Nat):Int).tdiv 4096=((s.span / 4096:Nat):Int):=by rw [Int.tdiv_eq_ediv_of_nonneg (Int.natCast_nonneg _)];rfl
  have q2:((s.span / 4096:Nat):Int)*((s.tab.getD c 0:Nat):Int)=((s.m c:Nat):Int):=(Int.natCast_mul _ _).symm
  (repeat' with_reducible first|intro _|refine rz ?_|refine ra ?_ ?_|omega|simp only [go_sem,f1])
  refine bC.lex [] [] (by kernel_rfl) (by kernel_rfl) ?_
  (repeat' with_reducible first|intro _|refine rz ?_|refine ra ?_ ?_|omega|simp only [go_sem,d1,d2,hwne,hink])
  (refine QV.intro (.int .i64 c) ?_ ?_;focus ((repeat' with_reducible first|intro _|exact dn|refine rn ?_|refine ra ?_ ?_);refine ah.k (kc) ?_;(repeat' with_reducible first|intro _|exact dn|refine rn ?_|refine ra ?_ ?_)))
  have hnlo:=(AE.step_ok hok hc ink).lo
  unfold AE.step at hnlo
  obtain ⟨_,_,_,_,_,hmtop⟩:=AE.EW hok hc ink
  have htop:=hok.top
  obtain ⟨M,hM⟩:∃ M,s.mid c ink=M:=⟨_,rfl⟩
  have hMt:M.tab=s.tab.set c (Hz (s.tab.getD c 0) ink):=by rw [←hM];rfl
  have hMh:M.sh=s.sh:=by rw [←hM];rfl
  have hMs0:M.span=if ink=true then s.span - s.m c else s.m c:=by rw [←hM];rfl
  have hMb0:M.big=if ink=true then s.big+s.m c else s.big:=by rw [←hM];rfl
  rw [hM] at hnext hnlo hmtop
  have kl:=JJ (s.tab.getD c 0) ink ⟨ht1,ht2⟩
  have hset:=Ic s.tab c (Hz (s.tab.getD c 0) ink)
  have hlrn:=ET ⟨ht1,ht2⟩ ink
  cases ink with
  | false=>
   rw [if_neg (by decide)] at hMs0 hMb0
   have hMs:M.span=s.m c:=hMs0
   have s32:=ni (a:=s.big%4294967296) (s:=32) (q:=4294967296) (by decide) rfl
   simp only [Int.cast_ofNat_Int] at s32
   have fC:(0<((s.big%4294967296 / 4294967296:Nat):Int))=False:=eq_false (by omega)
   have hLow:M.big%4294967296=s.big%4294967296:=by rw [hMb0]
   have hOut:M.big / 4294967296=s.big / 4294967296:=by rw [hMb0]
   (repeat' with_reducible first|intro _|refine rz ?_|refine ra ?_ ?_|omega|simp only [go_sem,q1,q2,hg,hgl,hlen,hink])
   refine ah.k kl ?_
   (repeat' with_reducible first|intro _|refine rz ?_|refine ra ?_ ?_|omega|simp only [go_sem,hgl,hlen,hset,s32,fC])
   refine aH.intro (fun r:AE=>⟨111,[(16,.int .i64 i),(15,.int .i64 p.length),(14,.ro (.bools p)),(6,.own 1),(5,.int .u32 r.span),(4,.int .u64 (r.big%4294967296:Nat)),(3,.own 2),(1,.ptr 0 0)],[(0,.box 24 [.int .i64 w,.int .i64 h,.ro (.bools p)]),(1,.row 172 (.ints .u32 (jH r.tab))),(2,.row 5 (.ints .u8 (aj (bP r.sh (r.big / 4294967296)))))],3⟩) (fun r=>r=M∨r=M.norm) (fun r=>if r.span<16777216 then 1 else 0) M ?_ (.inl rfl) fun r hr=>?_
   ·refine aK.ak rfl ?_ ?_<;>simp only [go_sem,Int.natCast_succ,hMs,hMt,hMh,hLow,hOut]
   by_cases hs2:r.span<16777216
   ·have hrM:r=M:=hr.resolve_right fun e=>by rw [e] at hs2;omega
    subst hrM
    have hnm:r.norm=⟨r.big*256,r.span*256,r.sh+1,r.tab⟩:=by unfold AE.norm;rw [if_pos hs2]
    have f5:((r.span:Int)<16777216)=True:=eq_true (by omega)
    have hol:(aj (bP r.sh (r.big / 4294967296))).length=r.sh:=by rw [cZ,aS]
    have s24:=ni (a:=r.big%4294967296) (s:=24) (q:=16777216) (by decide) rfl
    simp only [Int.cast_ofNat_Int] at s24
    have hsl:qH .u64 ((r.big%4294967296:Nat):Int) 8=((r.big%4294967296*256:Nat):Int):=by
     unfold qH
     rw [show (2:Int) ^ (min (8:Int).toNat IntKind.u64.bits)=256 by rfl];omega
    have hss:qH .u32 (r.span:Int) 8=((r.span*256:Nat):Int):=by
     unfold qH
     rw [show (2:Int) ^ (min (8:Int).toNat IntKind.u32.bits)=256 by rfl];omega
    have ham:=uq (a:=r.big%4294967296*256) (by omega)
    have hlow2:r.big%4294967296*256%4294967296=r.big*256%4294967296:=by omega
    rw [hlow2] at ham
    have hbyte:((r.big%4294967296 / 16777216:Nat):Int)=(((UInt8.ofNat (r.big*256 / 4294967296)).toNat:Nat):Int):=by
     have:(UInt8.ofNat (r.big*256 / 4294967296)).toNat=r.big*256 / 4294967296%256:=by simp
     rw [this];omega
    have hout2:aj (bP r.sh (r.big / 4294967296))++[(((UInt8.ofNat (r.big*256 / 4294967296)).toNat:Nat):Int)]=aj (bP (r.sh+1) (r.big*256 / 4294967296)):=by
     rw [iq,lH,show r.big*256 / 4294967296 / 256=r.big / 4294967296 by omega];rfl
    have hin:jk .u64 ((r.big%4294967296*256:Nat):Int):=kT.2 (by omega)
    (repeat' with_reducible first|intro _|refine rz ?_|refine ra ?_ ?_|omega|simp only [go_sem,f5,s24,hol])
    rw [hsl]
    (repeat' with_reducible first|intro _|exact dn|refine rn ?_|refine ra ?_ ?_)
    rw [ham,hss]
    (repeat' with_reducible first|intro _|exact dn|refine rn ?_|refine ra ?_ ?_)
    refine ⟨r.norm,aK.ak rfl ?_ ?_,.inr rfl,?_⟩
    ·simp only [go_sem,Int.natCast_succ,hnm]
     all_goals first|rfl|omega|(refine ⟨?_,?_⟩<;>first|rfl|omega)
    ·simp only [go_sem,Int.natCast_succ,hnm,hbyte,hout2]
    ·rw [if_pos hs2,if_neg (by omega)];omega
   ·have hrn:r=M.norm:=by
     rcases hr with e|e
     ·rw [e] at hs2 ⊢;unfold AE.norm;rw [if_neg hs2]
     ·exact e
    have f5:((r.span:Int)<16777216)=False:=eq_false (by omega)
    rw [←hrn] at hnext
    (repeat' with_reducible first|intro _|refine rz ?_|refine ra ?_ ?_|omega|simp only [go_sem,f5])
    refine ⟨i+1,aK.ak rfl ?_ ?_,by omega,by omega⟩<;>simp only [go_sem,Int.natCast_succ,hnext]
  | true=>
   rw [if_pos rfl] at hMs0 hMb0
   have hMs:M.span=s.span - s.m c:=hMs0
   have hspI:(s.span:Int) - (s.m c:Int)=((s.span - s.m c:Nat):Int):=by omega
   have hlI:((s.big%4294967296:Nat):Int)+(s.m c:Int)=((s.big%4294967296+s.m c:Nat):Int):=by omega
   have s32:=ni (a:=s.big%4294967296+s.m c) (s:=32) (q:=4294967296) (by decide) rfl
   simp only [Int.cast_ofNat_Int] at s32
   by_cases hcar:4294967296≤s.big%4294967296+s.m c
   ·have fC:(0<(((s.big%4294967296+s.m c) / 4294967296:Nat):Int))=True:=eq_true (by omega)
    have hLow:M.big%4294967296=(s.big%4294967296+s.m c)%4294967296:=by rw [hMb0];omega
    have hOut0:M.big / 4294967296=s.big / 4294967296+1:=by rw [hMb0];omega
    have hlt2:s.big / 4294967296+1<256 ^ s.sh:=by
     have:M.big<4294967296*256 ^ s.sh:=by omega
     rw [←hOut0]
     exact Nat.div_lt_of_lt_mul this
    have hm32:=uq (a:=s.big%4294967296+s.m c) (by omega)
    rcases List.eq_nil_or_concat (bP s.sh (s.big / 4294967296)) with hnil|⟨A0,c0,hAc⟩
    ·exfalso
     have:=congrArg List.length hnil
     rw [aS] at this
     have h0:s.sh=0:=this
     rw [h0] at hlt2
     simp at hlt2
    have hAc:bP s.sh (s.big / 4294967296)=A0++c0::List.replicate 0 255:=by rw [hAc];simp
    have hml:=uH A0 c0 (List.replicate 0 255)
    have hmm:=qQ A0 c0 (List.replicate 0 255)
    have hms:(aj (A0++c0::List.replicate 0 255)).set A0.length ((c0+1:UInt8).toNat:Int)=xg ⟨A0,c0,0⟩:=wF A0 c0 (c0+1) (List.replicate 0 255)
    have hkk:((A0.length+1:Nat):Int) - 1=(A0.length:Int):=by omega
    rw [hAc]
    rw [List.length_replicate,Nat.zero_add] at hml
    generalize aj (A0++c0::List.replicate 0 255)=L0 at *
    (repeat' with_reducible first|intro _|refine rz ?_|refine ra ?_ ?_|omega|simp only [go_sem,q1,q2,hg,hgl,hlen,hink])
    refine ah.k kl ?_
    (repeat' with_reducible first|intro _|refine rz ?_|refine ra ?_ ?_|omega|simp only [go_sem,hgl,hlen,hset,hspI,hlI,s32,fC,hml,hkk,hmm,Int.toNat_natCast])
    refine bZ.at _ (He c0) ?_
    (repeat' with_reducible first|intro _|refine rz ?_|refine ra ?_ ?_|omega|simp only [go_sem,hml,hkk,Int.toNat_natCast])
    rw [hms]
    refine aH.intro (fun x:CX=>⟨111,[(16,.int .i64 i),(15,.int .i64 p.length),(14,.ro (.bools p)),(6,.own 1),(11,.int .i64 x.A.length),(5,.int .u32 (s.span - s.m c:Nat)),(4,.int .u64 (s.big%4294967296+s.m c:Nat)),(3,.own 2),(1,.ptr 0 0)],[(0,.box 24 [.int .i64 w,.int .i64 h,.ro (.bools p)]),(1,.row 172 (.ints .u32 (jH (s.tab.set c (Hz (s.tab.getD c 0) true))))),(2,.row 5 (.ints .u8 (xg x)))],3⟩) (fun x=>bP s.sh (s.big / 4294967296)=x.A++x.c::List.replicate x.j 255) (fun x=>x.A.length) ⟨A0,c0,0⟩ ?_ hAc fun x hx=>?_
    ·refine aK.ak rfl ?_ ?_<;>simp only [go_sem,Int.natCast_succ]
    obtain ⟨A,cc,j⟩:=x
    dsimp only at hx ⊢
    have r1:=Rl ⟨A,cc,j⟩
    have r2:=Uk ⟨A,cc,j⟩
    dsimp only at r1 r2
    by_cases hz:cc=255
    ·subst hz
     rcases List.eq_nil_or_concat A with hnil|⟨A',c',hA⟩
     ·exfalso
      rw [hnil] at hx
      exact Wn hx hlt2
     rw [List.concat_eq_append] at hA
     subst hA
     have hkA:(A'++[c']).length=A'.length+1:=by simp
     have r3:=@Ov A' c' j
     have r4:=@Rn A' c' j
     have r5:((255+1:UInt8).toNat:Int)=0:=rfl
     rw [r5] at r2
     rw [hkA] at r1 r2
     have hx2:bP s.sh (s.big / 4294967296)=A'++c'::List.replicate (j+1) 255:=by rw [hx,List.append_assoc,List.singleton_append,List.replicate_succ]
     generalize xg ⟨A'++[c'],255,j⟩=L at *
     rw [hkA]
     have hk1:((A'.length+1:Nat):Int) - 1=(A'.length:Int):=by omega
     have hAl:=congrArg List.length hx2
     rw [aS,List.length_append,List.length_cons] at hAl
     (repeat' with_reducible first|intro _|refine rz ?_|refine ra ?_ ?_|omega|simp only [go_sem,r1,r2,hk1,r3,Int.toNat_natCast])
     refine bZ.at _ (He c') ?_
     (repeat' with_reducible first|intro _|refine rz ?_|refine ra ?_ ?_|omega|simp only [go_sem,r1,hk1,Int.toNat_natCast])
     rw [r4]
     refine ⟨⟨A',c',j+1⟩,aK.ak rfl ?_ ?_,hx2,by dsimp only;omega⟩<;>simp only [go_sem,Int.natCast_succ]
    ·have f6:(((cc+1:UInt8).toNat:Int)=0)=False:=eq_false fun h=>hz ((PV cc).1 (by omega))
     have hin:=Vp hx hz
     have hOutL:aj (bP s.sh (M.big / 4294967296))=xg ⟨A,cc,j⟩:=by rw [hOut0,hin];rfl
     generalize xg ⟨A,cc,j⟩=L at *
     (repeat' with_reducible first|intro _|refine rz ?_|refine ra ?_ ?_|omega|simp only [go_sem,r1,r2,f6,hm32,Int.toNat_natCast])
     refine aH.intro (fun r:AE=>⟨111,[(16,.int .i64 i),(15,.int .i64 p.length),(14,.ro (.bools p)),(6,.own 1),(5,.int .u32 r.span),(4,.int .u64 (r.big%4294967296:Nat)),(3,.own 2),(1,.ptr 0 0)],[(0,.box 24 [.int .i64 w,.int .i64 h,.ro (.bools p)]),(1,.row 172 (.ints .u32 (jH r.tab))),(2,.row 5 (.ints .u8 (aj (bP r.sh (r.big / 4294967296)))))],3⟩) (fun r=>r=M∨r=M.norm) (fun r=>if r.span<16777216 then 1 else 0) M ?_ (.inl rfl) fun r hr=>?_
     ·refine aK.ak rfl ?_ ?_<;>simp only [go_sem,Int.natCast_succ,hMs,hMt,hMh,hLow,hOutL]
     by_cases hs2:r.span<16777216
     ·have hrM:r=M:=hr.resolve_right fun e=>by rw [e] at hs2;omega
      subst hrM
      have hnm:r.norm=⟨r.big*256,r.span*256,r.sh+1,r.tab⟩:=by unfold AE.norm;rw [if_pos hs2]
      have f5:((r.span:Int)<16777216)=True:=eq_true (by omega)
      have hol:(aj (bP r.sh (r.big / 4294967296))).length=r.sh:=by rw [cZ,aS]
      have s24:=ni (a:=r.big%4294967296) (s:=24) (q:=16777216) (by decide) rfl
      simp only [Int.cast_ofNat_Int] at s24
      have hsl:qH .u64 ((r.big%4294967296:Nat):Int) 8=((r.big%4294967296*256:Nat):Int):=by
       unfold qH
       rw [show (2:Int) ^ (min (8:Int).toNat IntKind.u64.bits)=256 by rfl];omega
      have hss:qH .u32 (r.span:Int) 8=((r.span*256:Nat):Int):=by
       unfold qH
       rw [show (2:Int) ^ (min (8:Int).toNat IntKind.u32.bits)=256 by rfl];omega
      have ham:=uq (a:=r.big%4294967296*256) (by omega)
      have hlow2:r.big%4294967296*256%4294967296=r.big*256%4294967296:=by omega
      rw [hlow2] at ham
      have hbyte:((r.big%4294967296 / 16777216:Nat):Int)=(((UInt8.ofNat (r.big*256 / 4294967296)).toNat:Nat):Int):=by
       have:(UInt8.ofNat (r.big*256 / 4294967296)).toNat=r.big*256 / 4294967296%256:=by simp
       rw [this];omega
      have hout2:aj (bP r.sh (r.big / 4294967296))++[(((UInt8.ofNat (r.big*256 / 4294967296)).toNat:Nat):Int)]=aj (bP (r.sh+1) (r.big*256 / 4294967296)):=by
       rw [iq,lH,show r.big*256 / 4294967296 / 256=r.big / 4294967296 by omega];rfl
      have hin:jk .u64 ((r.big%4294967296*256:Nat):Int):=kT.2 (by omega)
      (repeat' with_reducible first|intro _|refine rz ?_|refine ra ?_ ?_|omega|simp only [go_sem,f5,s24,hol])
      rw [hsl]
      (repeat' with_reducible first|intro _|exact dn|refine rn ?_|refine ra ?_ ?_)
      rw [ham,hss]
      (repeat' with_reducible first|intro _|exact dn|refine rn ?_|refine ra ?_ ?_)
      refine ⟨r.norm,aK.ak rfl ?_ ?_,.inr rfl,?_⟩
      ·simp only [go_sem,Int.natCast_succ,hnm]
       all_goals first|rfl|omega|(refine ⟨?_,?_⟩<;>first|rfl|omega)
      ·simp only [go_sem,Int.natCast_succ,hnm,hbyte,hout2]
      ·rw [if_pos hs2,if_neg (by omega)];omega
     ·have hrn:r=M.norm:=by
       rcases hr with e|e
       ·rw [e] at hs2 ⊢;unfold AE.norm;rw [if_neg hs2]
       ·exact e
      have f5:((r.span:Int)<16777216)=False:=eq_false (by omega)
      rw [←hrn] at hnext
      (repeat' with_reducible first|intro _|refine rz ?_|refine ra ?_ ?_|omega|simp only [go_sem,f5])
      refine ⟨i+1,aK.ak rfl ?_ ?_,by omega,by omega⟩<;>simp only [go_sem,Int.natCast_succ,hnext]
   ·have fC:(0<(((s.big%4294967296+s.m c) / 4294967296:Nat):Int))=False:=eq_false (by omega)
    have hLow:M.big%4294967296=s.big%4294967296+s.m c:=by rw [hMb0];omega
    have hOut:M.big / 4294967296=s.big / 4294967296:=by rw [hMb0];omega
    (repeat' with_reducible first|intro _|refine rz ?_|refine ra ?_ ?_|omega|simp only [go_sem,q1,q2,hg,hgl,hlen,hink])
    refine ah.k kl ?_
    (repeat' with_reducible first|intro _|refine rz ?_|refine ra ?_ ?_|omega|simp only [go_sem,hgl,hlen,hset,hspI,hlI,s32,fC])
    refine aH.intro (fun r:AE=>⟨111,[(16,.int .i64 i),(15,.int .i64 p.length),(14,.ro (.bools p)),(6,.own 1),(5,.int .u32 r.span),(4,.int .u64 (r.big%4294967296:Nat)),(3,.own 2),(1,.ptr 0 0)],[(0,.box 24 [.int .i64 w,.int .i64 h,.ro (.bools p)]),(1,.row 172 (.ints .u32 (jH r.tab))),(2,.row 5 (.ints .u8 (aj (bP r.sh (r.big / 4294967296)))))],3⟩) (fun r=>r=M∨r=M.norm) (fun r=>if r.span<16777216 then 1 else 0) M ?_ (.inl rfl) fun r hr=>?_
    ·refine aK.ak rfl ?_ ?_<;>simp only [go_sem,Int.natCast_succ,hMs,hMt,hMh,hLow,hOut]
    by_cases hs2:r.span<16777216
    ·have hrM:r=M:=hr.resolve_right fun e=>by rw [e] at hs2;omega
     subst hrM
     have hnm:r.norm=⟨r.big*256,r.span*256,r.sh+1,r.tab⟩:=by unfold AE.norm;rw [if_pos hs2]
     have f5:((r.span:Int)<16777216)=True:=eq_true (by omega)
     have hol:(aj (bP r.sh (r.big / 4294967296))).length=r.sh:=by rw [cZ,aS]
     have s24:=ni (a:=r.big%4294967296) (s:=24) (q:=16777216) (by decide) rfl
     simp only [Int.cast_ofNat_Int] at s24
     have hsl:qH .u64 ((r.big%4294967296:Nat):Int) 8=((r.big%4294967296*256:Nat):Int):=by
      unfold qH
      rw [show (2:Int) ^ (min (8:Int).toNat IntKind.u64.bits)=256 by rfl];omega
     have hss:qH .u32 (r.span:Int) 8=((r.span*256:Nat):Int):=by
      unfold qH
      rw [show (2:Int) ^ (min (8:Int).toNat IntKind.u32.bits)=256 by rfl];omega
     have ham:=uq (a:=r.big%4294967296*256) (by omega)
     have hlow2:r.big%4294967296*256%4294967296=r.big*256%4294967296:=by omega
     rw [hlow2] at ham
     have hbyte:((r.big%4294967296 / 16777216:Nat):Int)=(((UInt8.ofNat (r.big*256 / 4294967296)).toNat:Nat):Int):=by
      have:(UInt8.ofNat (r.big*256 / 4294967296)).toNat=r.big*256 / 4294967296%256:=by simp
      rw [this];omega
     have hout2:aj (bP r.sh (r.big / 4294967296))++[(((UInt8.ofNat (r.big*256 / 4294967296)).toNat:Nat):Int)]=aj (bP (r.sh+1) (r.big*256 / 4294967296)):=by
      rw [iq,lH,show r.big*256 / 4294967296 / 256=r.big / 4294967296 by omega];rfl
     have hin:jk .u64 ((r.big%4294967296*256:Nat):Int):=kT.2 (by omega)
     (repeat' with_reducible first|intro _|refine rz ?_|refine ra ?_ ?_|omega|simp only [go_sem,f5,s24,hol])
     rw [hsl]
     (repeat' with_reducible first|intro _|exact dn|refine rn ?_|refine ra ?_ ?_)
     rw [ham,hss]
     (repeat' with_reducible first|intro _|exact dn|refine rn ?_|refine ra ?_ ?_)
     refine ⟨r.norm,aK.ak rfl ?_ ?_,.inr rfl,?_⟩
     ·simp only [go_sem,Int.natCast_succ,hnm]
      all_goals first|rfl|omega|(refine ⟨?_,?_⟩<;>first|rfl|omega)
     ·simp only [go_sem,Int.natCast_succ,hnm,hbyte,hout2]
     ·rw [if_pos hs2,if_neg (by omega)];omega
    ·have hrn:r=M.norm:=by
      rcases hr with e|e
      ·rw [e] at hs2 ⊢;unfold AE.norm;rw [if_neg hs2]
      ·exact e
     have f5:((r.span:Int)<16777216)=False:=eq_false (by omega)
     rw [←hrn] at hnext
     (repeat' with_reducible first|intro _|refine rz ?_|refine ra ?_ ?_|omega|simp only [go_sem,f5])
     refine ⟨i+1,aK.ak rfl ?_ ?_,by omega,by omega⟩<;>simp only [go_sem,Int.natCast_succ,hnext]
 ·have f1:((i:Int)<(p.length:Int))=False:=eq_false (by omega)
  have e:i=p.length:=by omega
  have hT:aj (OI w h p)=aj (bP (fQ w h p i).sh ((fQ w h p i).big / 4294967296))++aj (bP 4 (fQ w h p i).big):=by
   unfold OI
   rw [←e,Nat.add_comm 4,Ew,lH]
  rw [be4] at hT
  have hol:(aj (bP (fQ w h p i).sh ((fQ w h p i).big / 4294967296))).length=(fQ w h p i).sh:=by rw [cZ,aS]
  generalize (fQ w h p i).big=B at *
  generalize (fQ w h p i).sh=sh at *
  have s24:=ni (a:=B%4294967296) (s:=24) (q:=16777216) (by decide) rfl
  have s16:=ni (a:=B%4294967296) (s:=16) (q:=65536) (by decide) rfl
  have s8:=ni (a:=B%4294967296) (s:=8) (q:=256) (by decide) rfl
  simp only [Int.cast_ofNat_Int] at s24 s16 s8
  have e0:B%4294967296 / 16777216=B / 16777216%256:=by omega
  rw [e0] at s24
  (repeat' with_reducible first|intro _|refine rz ?_|refine ra ?_ ?_|omega|simp only [go_sem,f1,s24,s16,s8])
  refine bZ.at ((B / 65536%256:Nat):Int) (by rw [kS];omega) ?_
  refine bZ.at ((B / 256%256:Nat):Int) (by rw [kS];omega) ?_
  refine bZ.at ((B%256:Nat):Int) (by rw [kS];omega) ?_
  (repeat' with_reducible first|intro _|refine rz ?_|refine ra ?_ ?_|omega|simp only [go_sem,hol])
  refine bg.auto 1 ?_ rfl ?_<;>simp only [go_sem,Int.natCast_succ,Post,hT]
end Go.Fv.H
