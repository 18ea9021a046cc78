/-
  A part of the proof of the claim: walks over the program's functions and the plain laws that these need. No condition of its own.
-/
import Derived.Test.YtaahmkhlhgkfpaaDoorNTitCardPart1
import Derived.Test.YtaahmkhlhgkfpaaDoorFvPart10
import Derived.Test.YtaahmkhlhgkfpaaDoorNTitCardPart2
import Derived.Test.YtaahmkhlhgkfpaaDoorNTitCardPart3
set_option linter.unusedSimpArgs false
set_option linter.unusedVariables false
set_option maxRecDepth 8000
set_option linter.unnecessarySimpa false
namespace Go.Fv.N
open Go Go.Proofs
theorem xY (l:List (List UInt8)) (hl:l.length≤8796093022000):aP Tryd.prog 7 [.ro (.strs l)] (.own 0) [(0,.row 9 (.strs l))]:=by
 refine aP.bH Tryd.func7 rfl (by decide) (by simp [Tryd.f7]) [.tmp 2] rfl fun w0 T0 _=>?_
 simp only [Tryd.f7,aI]
 (repeat' with_reducible first|intro _|exact dn|refine rn ?_|refine ra ?_ ?_)
 ·rename_i h
  have:l=[]:=List.eq_nil_of_length_eq_zero h
  refine bW.auto 1 ?_ rfl ?_<;>simp only [go_sem,Int.natCast_succ,Post,this]
 ·refine aN.intro (.inr ⟨by omega,by unfold CZ;kernel_rfl⟩) ?_
  (repeat' with_reducible first|intro _|exact dn|refine rn ?_|refine ra ?_ ?_)
  refine bW.auto 1 ?_ rfl ?_<;>simp only [go_sem,Int.natCast_succ,Post]
set_option maxHeartbeats 1000000 in
theorem yg (a b:List (List UInt8)):aP Tryd.prog 10 [.ro (.strs a),.ro (.strs b)] (.bool (decide (a=b))) []:=by
 refine aP.bH Tryd.func10 rfl (by decide) (by simp [Tryd.f10]) [.tmp 4] rfl fun w0 T0 _=>?_
 simp only [Tryd.f10,aI]
 simp only [go_sem]
 refine vJ.intro fun _=>vJ.intro fun _=>Ite.decide (fun h=>?_) fun h=>?_
 ·simp only [go_sem]
  refine bW.auto 0 ?_ rfl (by simp [gG])
  have:a≠b:=by intro e;subst e;exact h rfl
  simp only [go_sem,Int.natCast_succ,Post,this,decide_false,decide_true]
 have hl:a.length=b.length:=by omega
 simp only [go_sem]
 refine vJ.intro fun _=>aT.intro (fun i:Nat=>⟨26,[(0,.ro (.strs a)),(1,.ro (.strs b)),(12,.int .i64 a.length),(13,.int .i64 i)],[],0⟩) (fun i=>i≤a.length∧∀ j,j<i→a.getD j []=b.getD j []) (fun i=>a.length - i) 0 ?_ ⟨by omega,fun j hj=>by omega⟩ fun i hi=>?_
 ·refine bQ.aC rfl ?_ ?_<;>simp only [go_sem,Int.natCast_succ]
 simp only [go_sem]
 refine Ite.decide (fun h1=>?_) (fun h1=>?_)
 ·simp only [go_sem]
  refine dW.lex [] [] (by kernel_rfl) (by kernel_rfl) ?_
  simp only [go_sem]
  (repeat' first|(with_reducible refine vJ.intro fun _=>?_)|((with_reducible refine aN.intro ?_ ?_);(· first|omega|(with_reducible refine aN.intro ?_ ?_<;>omega)|(simp;done)|(simp;omega)))|((with_reducible refine dB.i64 ?_ ?_ ?_);(· omega);(· omega))|((with_reducible refine Ite.decide (fun _=>?_) (fun _=>?_))<;>first|(exfalso;omega)|simp only [go_sem])|((with_reducible refine Ite.bool (fun _=>?_) (fun _=>?_))<;>simp only [go_sem])|(with_reducible refine And.intro ?_ ?_))
  ·rename_i h2
   refine bW.auto 0 ?_ rfl (by simp [gG])
   have:a≠b:=by intro e;subst e;exact h2 rfl
   simp only [go_sem,Int.natCast_succ,Post,this]
  ·rename_i h2
   refine ⟨i+1,bQ.aC rfl ?_ ?_,⟨by omega,fun j hj=>?_⟩,by omega⟩
   ·simp only [go_sem,Int.natCast_succ]
    all_goals omega
   ·simp only [go_sem,Int.natCast_succ]
   ·by_cases e:j=i
    ·subst e;exact Decidable.of_not_not h2
    ·exact hi.2 j (by omega)
 ·simp only [go_sem]
  refine bW.auto 0 ?_ rfl (by simp [gG])
  have:a=b:=BR [] hl fun j hj=>hi.2 j (by omega)
  simp only [go_sem,Int.natCast_succ,Post,this,decide_false,decide_true]
end Go.Fv.N
/- The laws' first question. -/
namespace Go.Fv.N
open Go Go.Proofs
theorem EM:aP Tryd.prog 4 [] (.bool true) []:=by
 have k:=qm [97]
 refine aP.bH Tryd.func4 rfl (by decide) (by simp [Tryd.f4]) [.tmp 0] rfl fun w0 T0 _=>?_
 simp only [Tryd.f4,aI]
 have e:aX [97]=true:=by decide
 rw [e] at k
 (repeat' with_reducible first|intro _|exact dn|refine rn ?_|refine ra ?_ ?_)
 refine ak.k k ?_
 (repeat' with_reducible first|intro _|exact dn|refine rn ?_|refine ra ?_ ?_)
 refine bW.auto 0 ?_ rfl ?_<;>simp only [go_sem,Int.natCast_succ,Post]
end Go.Fv.N
/- TitlesMatch: the law. -/
namespace Go.Fv.N
open Go Go.Proofs
theorem yh (n:Bytes) (l:List Bytes) (i:Nat):(0≤firstAt (fun x=>decide (n=x)) l i)↔n∈l:=by
 rw [qM]
 simp
set_option maxHeartbeats 1000000 in
theorem EL (l:List Bytes) (n:Bytes):aP Tryd.prog 26 [.ro (.strs l),.str n] (.int .i64 (firstAt (fun x=>decide (n=x)) l 0)) []:=by
 refine aP.bH Tryd.func26 rfl (by decide) (by simp [Tryd.f26]) [.tmp 4] rfl fun w0 T0 _=>?_
 simp only [Tryd.f26,aI]
 (repeat' with_reducible first|intro _|exact dn|refine rn ?_|refine ra ?_ ?_)
 refine aT.intro (fun i:Nat=>⟨19,[(0,.ro (.strs l)),(1,.str n),(7,.int .i64 l.length),(8,.int .i64 i)],[],0⟩) (fun i=>i≤l.length∧firstAt (fun x=>decide (n=x)) (l.drop i) i=firstAt (fun x=>decide (n=x)) l 0) (fun i=>l.length - i) 0 ?_ ⟨Nat.zero_le _,rfl⟩ fun i hI=>?_
 ·refine bQ.aC rfl ?_ ?_<;>simp only [go_sem,Int.natCast_succ]
 obtain ⟨hl,hI⟩:=hI
 by_cases hlt:i<l.length
 ·rw [FZ l [] hlt,firstAt] at hI
  by_cases he:n=l.getD i []
  ·rw [if_pos (decide_eq_true he)] at hI
   (repeat' with_reducible first|intro _|refine rz ?_|refine ra ?_ ?_|omega|simp only [go_sem,←he])
   refine bW.auto 0 ?_ rfl ?_<;>simp only [go_sem,Int.natCast_succ,Post,hI]
  ·rw [if_neg (by simpa using he)] at hI
   (repeat' with_reducible first|intro _|refine rz ?_|refine ra ?_ ?_|omega|simp only [go_sem,he])
   refine ⟨i+1,bQ.aC rfl ?_ ?_,⟨by omega,hI⟩,by omega⟩<;>simp only [go_sem,Int.natCast_succ]
 ·have e:i=l.length:=by omega
  subst e
  rw [List.drop_length] at hI
  (repeat' with_reducible first|intro _|exact dn|refine rn ?_|refine ra ?_ ?_)
  refine bW.auto 0 ?_ rfl ?_<;>simp only [go_sem,Int.natCast_succ,Post]
  rw [←hI];rfl
theorem xZ (l:List Bytes) (n:Bytes):aP Tryd.prog 11 [.ro (.strs l),.str n] (.bool (decide (n∈l))) []:=by
 have k:=EL l n
 have hm:=yh n l 0
 have e:decide (n∈l)=decide (0≤firstAt (fun x=>decide (n=x)) l 0):=by rw [Bool.eq_iff_iff,decide_eq_true_eq,decide_eq_true_eq,hm]
 rw [e]
 refine aP.bH Tryd.func11 rfl (by decide) (by simp [Tryd.f11]) [.tmp 4] rfl fun w0 T0 _=>?_
 simp only [Tryd.f11,aI]
 (repeat' with_reducible first|intro _|exact dn|refine rn ?_|refine ra ?_ ?_)
 refine ak.k k ?_
 (repeat' with_reducible first|intro _|exact dn|refine rn ?_|refine ra ?_ ?_)
 refine bW.auto 0 ?_ rfl ?_<;>simp only [go_sem,Int.natCast_succ,Post]
theorem uP (l:List Bytes) (j:Nat) (h:j<(jl l).1.length):(jl l).1.getD j []∉(jl l).1.take j:=by
 unfold jl at *
 split
 ·rename_i h1;rw [if_pos h1] at h;cases h
 ·rename_i h1
  rw [if_neg h1] at h
  split
  ·rename_i h2
   rw [if_pos h2] at h
   exact xk l _ j (by rwa [lD] at h)
  ·rename_i h2;rw [if_neg h2] at h;cases h
theorem BN (s:Bytes):(iO s).length≤80:=by
 unfold iO
 have h1:=xE ((gK (bK s) s.length).take 80)
 have h2:=List.length_take_le 80 (gK (bK s) s.length)
 omega
theorem Df (t:Bytes) (F:List Fc):(jZ t F).1.length≤80:=by
 unfold jZ
 repeat' split
 all_goals first|exact Nat.zero_le _|exact BN _
set_option maxHeartbeats 8000000 in
theorem uO (t:Bytes) (F:List Fc) (l:List Bytes) (hl0:l.length≤8796093022000) (hl:∀ x,x∈l→x.length≤300000000000000):aP Tryd.prog 3 [.str t,.ro (JB F),.ro (.strs l)] (.bool true) []:=by
 have k1:=Hz t F o8
 have k2:=AU t F
 rw [Ba] at k2
 have hs80:=Df t F
 have kc:=xY l hl0
 generalize jZ t F=R at *
 obtain ⟨s,e⟩:=R
 dsimp only at k1 k2 hs80
 refine aP.bH Tryd.func3 rfl (by decide) (by simp [Tryd.f3]) [.tmp 6] rfl fun w0 T0 _=>?_
 simp only [Tryd.f3,aI]
 (repeat' with_reducible first|intro _|exact dn|refine rn ?_|refine ra ?_ ?_)
 refine ak.k EM ?_
 (repeat' with_reducible first|intro _|exact dn|refine rn ?_|refine ra ?_ ?_)
 refine ak.k k1 ?_
 (repeat' with_reducible first|intro _|exact dn|refine rn ?_|refine ra ?_ ?_)
 refine ak.k k2 ?_
 by_cases h0:e=0
 case' pos=>
  have hl2:∀ x,x∈l++[s,s]→x.length≤300000000000000:=fun x hx=>by
   rcases List.mem_append.1 hx with h|h
   ·exact hl x h
   ·simp at h;subst h;omega
  (repeat' with_reducible first|intro _|refine rz ?_|refine ra ?_ ?_|omega|simp only [go_sem,h0])
  refine ak.o kc 1 ?_
  (repeat' with_reducible first|intro _|refine rz ?_|refine ra ?_ ?_|omega|simp only [go_sem,h0])
  refine aN.intro (.inr ⟨by omega,by unfold CZ;kernel_rfl⟩) ?_
  (repeat' with_reducible first|intro _|refine rz ?_|refine ra ?_ ?_|omega|simp only [go_sem,h0])
  generalize l++[s,s]=L at *
  have k8:=xC L hl2
  have k9:=qZ L hl2
  have hd:=uP L
  generalize jl L=R at *
  obtain ⟨o,e2⟩:=R
  dsimp only at k8 k9 hd
  refine ak.ro (.tup [.ro (.strs o),.int .i64 e2]) (gJ.gX k8 rfl rfl) (by simp only [dJ,bD,mX,bG,aF,List.drop_zero,lk,reduceIte,reduceCtorEq,Nat.reduceEqDiff,Option.some.injEq,Item.row.injEq,Item.box.injEq,AV.ro.injEq,exists_eq_left,exists_and_left,exists_eq_left',exists_eq_right,and_assoc,and_true,true_and,List.cons.injEq,exists_eq',exists_eq]) (by simp [oQ,bD,bG,mX,aF,lk,dJ]) rfl ?_
 case' neg=>
  have hl2:=hl
  (repeat' with_reducible first|intro _|refine rz ?_|refine ra ?_ ?_|omega|simp only [go_sem,h0])
  have k8:=xC l hl2
  have k9:=qZ l hl2
  have hd:=uP l
  generalize jl l=R at *
  obtain ⟨o,e2⟩:=R
  dsimp only at k8 k9 hd
  refine ak.ro (.tup [.ro (.strs o),.int .i64 e2]) (gJ.gX k8 rfl rfl) (by simp only [dJ,bD,mX,bG,aF,List.drop_zero,lk,reduceIte,reduceCtorEq,Nat.reduceEqDiff,Option.some.injEq,Item.row.injEq,Item.box.injEq,AV.ro.injEq,exists_eq_left,exists_and_left,exists_eq_left',exists_eq_right,and_assoc,and_true,true_and,List.cons.injEq,exists_eq',exists_eq]) (by simp [oQ,bD,bG,mX,aF,lk,dJ]) rfl ?_
 all_goals
  have ke:=yg o o
  rw [decide_eq_true rfl] at ke
  (repeat' with_reducible first|intro _|exact dn|refine rn ?_|refine ra ?_ ?_)
  refine ak.ro (.tup [.ro (.strs o),.int .i64 e2]) (gJ.gX k9 rfl rfl) (by simp only [dJ,bD,mX,bG,aF,List.drop_zero,lk,reduceIte,reduceCtorEq,Nat.reduceEqDiff,Option.some.injEq,Item.row.injEq,Item.box.injEq,AV.ro.injEq,exists_eq_left,exists_and_left,exists_eq_left',exists_eq_right,and_assoc,and_true,true_and,List.cons.injEq,exists_eq',exists_eq]) (by simp [oQ,bD,bG,mX,aF,lk,dJ]) rfl ?_
  (repeat' with_reducible first|intro _|exact dn|refine rn ?_|refine ra ?_ ?_)
  refine ak.k ke ?_
  (repeat' with_reducible first|intro _|exact dn|refine rn ?_|refine ra ?_ ?_)
  refine aT.intro (fun i:Nat=>⟨77,[(66,.int .i64 i),(65,.int .i64 o.length),(64,.ro (.strs o)),(11,.ro (.strs o))],[],0⟩) (fun i=>i≤o.length) (fun i=>o.length - i) 0 ?_ (Nat.zero_le _) fun i hi=>?_
  ·refine bQ.aC rfl ?_ ?_<;>simp only [go_sem,Int.natCast_succ]
  by_cases hlt:i<o.length
  ·have f1:((i:Int)<(o.length:Int))=True:=eq_true (by omega)
   have f2:((i:Int)≤(o.length:Int))=True:=eq_true (by omega)
   have kx:=xZ (o.take i) (o.getD i [])
   rw [decide_eq_false (hd i hlt)] at kx
   (repeat' with_reducible first|intro _|refine rz ?_|refine ra ?_ ?_|omega|simp only [go_sem,f1,f2,Nat.sub_zero])
   refine ak.k kx ?_
   (repeat' with_reducible first|intro _|exact dn|refine rn ?_|refine ra ?_ ?_)
   refine ⟨i+1,bQ.aC rfl ?_ ?_,by omega,by omega⟩<;>simp only [go_sem,Int.natCast_succ]
  ·have e:i=o.length:=by omega
   subst e
   have f1:((o.length:Int)<(o.length:Int))=False:=eq_false (by omega)
   (repeat' with_reducible first|intro _|refine rz ?_|refine ra ?_ ?_|omega|simp only [go_sem,f1])
   refine bW.auto 0 ?_ rfl ?_<;>simp only [go_sem,Int.natCast_succ,Post]
end Go.Fv.N
