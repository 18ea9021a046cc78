/-
  A part of the proof of the claim: walks over the program's functions and the plain laws that these need. No condition of its own.
-/
import Derived.Test.YtpbllkibobnifaaDoorLRmCardPart9
import Derived.Test.YtpbllkibobnifaaDoorLRmCardPart1
import Derived.Test.YtpbllkibobnifaaDoorFvPart11
set_option linter.unusedSimpArgs false
set_option linter.unusedVariables false
set_option linter.unnecessarySimpa false
set_option maxRecDepth 8000
/- The reference's WithoutOf (printed by wo_gen.py). -/
namespace Go.Fv.L
open Go Go.Proofs
set_option maxHeartbeats 32000000 in
theorem G7 (w h:Nat) (hw1:1≤w) (hw:w≤100) (hh1:1≤h) (hh:h≤100) (p:List Bool) (hp:p.length=w*h) (L:List Pl) (hL:∀ r,r∈L→lX w h r) :
  aU Tryd.prog 15 [.agg [.int .i64 w,.int .i64 h,.ro (.bools p)],.ro (rls L)] (.agg [.int .i64 w,.int .i64 h,.own 0]) [(0,.row 4 (.bools (NZ p w L)))]:=by
 have hb2:w*h≤10000:=Nat.mul_le_mul hw hh
 have kc:=tH p (by omega)
 have qa:=DI w h (by omega) (by omega) p hp
 have hin:∀ i,i<L.length→lX w h (L.getD i Pl.zero):=fun i hi=>hL _ (by rw [getD_lt hi];exact List.getElem_mem hi)
 refine aU.aY Tryd.func15 rfl (by decide) (by simp [Tryd.f15]) [.cell 4 24] rfl fun w0 T0 _=>?_
 simp only [Tryd.f15,aK]
 (repeat' with_reducible first|intro _|exact dn|refine rn ?_|refine ra ?_ ?_)
 refine aP.cut (.first 0 (.first 2 (.first 4 (.cons 1 (.cons 3 (.cons 5 (.cons 6 (.cons 7 (.cons 8 (.cons 9 .done .stop) .stop) (.cons 8 (.cons 7 (.cons 9 .done .stop) .stop) .stop)) (.cons 8 (.cons 6 (.cons 7 (.cons 9 .done .stop) .stop) .stop) .stop)) (.cons 8 (.cons 5 (.cons 6 (.cons 7 (.cons 9 .done .stop) .stop) .stop) .stop) .stop)) (.cons 5 (.cons 3 (.cons 6 (.cons 7 (.cons 8 (.cons 9 .done .stop) .stop) (.cons 8 (.cons 7 (.cons 9 .done .stop) .stop) .stop)) (.cons 8 (.cons 6 (.cons 7 (.cons 9 .done .stop) .stop) .stop) .stop)) (.cons 6 (.cons 3 (.cons 7 (.cons 8 (.cons 9 .done .stop) .stop) (.cons 8 (.cons 7 (.cons 9 .done .stop) .stop) .stop)) (.cons 8 (.cons 3 (.cons 7 (.cons 9 .done .stop) .stop) .stop) .stop)) (.cons 8 (.cons 3 (.cons 6 (.cons 7 (.cons 9 .done .stop) .stop) .stop) (.cons 6 (.cons 3 (.cons 7 (.cons 9 .done .stop) .stop) .stop) .stop)) .stop))) (.cons 8 (.cons 3 (.cons 5 (.cons 6 (.cons 7 (.cons 9 .done .stop) .stop) .stop) .stop) (.cons 5 (.cons 3 (.cons 6 (.cons 7 (.cons 9 .done .stop) .stop) .stop) (.cons 6 (.cons 3 (.cons 7 (.cons 9 .done .stop) .stop) .stop) .stop)) .stop)) .stop))) (.cons 3 (.cons 1 (.cons 5 (.cons 6 (.cons 7 (.cons 8 (.cons 9 .done .stop) .stop) (.cons 8 (.cons 7 (.cons 9 .done .stop) .stop) .stop)) (.cons 8 (.cons 6 (.cons 7 (.cons 9 .done .stop) .stop) .stop) .stop)) (.cons 8 (.cons 5 (.cons 6 (.cons 7 (.cons 9 .done .stop) .stop) .stop) .stop) .stop)) (.cons 5 (.cons 1 (.cons 6 (.cons 7 (.cons 8 (.cons 9 .done .stop) .stop) (.cons 8 (.cons 7 (.cons 9 .done .stop) .stop) .stop)) (.cons 8 (.cons 6 (.cons 7 (.cons 9 .done .stop) .stop) .stop) .stop)) (.cons 6 (.cons 1 (.cons 7 (.cons 8 (.cons 9 .done .stop) .stop) (.cons 8 (.cons 7 (.cons 9 .done .stop) .stop) .stop)) (.cons 8 (.cons 1 (.cons 7 (.cons 9 .done .stop) .stop) .stop) .stop)) (.cons 8 (.cons 1 (.cons 6 (.cons 7 (.cons 9 .done .stop) .stop) .stop) (.cons 6 (.cons 1 (.cons 7 (.cons 9 .done .stop) .stop) .stop) .stop)) .stop))) (.cons 8 (.cons 1 (.cons 5 (.cons 6 (.cons 7 (.cons 9 .done .stop) .stop) .stop) .stop) (.cons 5 (.cons 1 (.cons 6 (.cons 7 (.cons 9 .done .stop) .stop) .stop) (.cons 6 (.cons 1 (.cons 7 (.cons 9 .done .stop) .stop) .stop) .stop)) .stop)) .stop))) (.cons 5 (.cons 1 (.cons 3 (.cons 6 (.cons 7 (.cons 8 (.cons 9 .done .stop) .stop) (.cons 8 (.cons 7 (.cons 9 .done .stop) .stop) .stop)) (.cons 8 (.cons 6 (.cons 7 (.cons 9 .done .stop) .stop) .stop) .stop)) (.cons 6 (.cons 3 (.cons 7 (.cons 8 (.cons 9 .done .stop) .stop) (.cons 8 (.cons 7 (.cons 9 .done .stop) .stop) .stop)) (.cons 8 (.cons 3 (.cons 7 (.cons 9 .done .stop) .stop) .stop) .stop)) (.cons 8 (.cons 3 (.cons 6 (.cons 7 (.cons 9 .done .stop) .stop) .stop) (.cons 6 (.cons 3 (.cons 7 (.cons 9 .done .stop) .stop) .stop) .stop)) .stop))) (.cons 3 (.cons 1 (.cons 6 (.cons 7 (.cons 8 (.cons 9 .done .stop) .stop) (.cons 8 (.cons 7 (.cons 9 .done .stop) .stop) .stop)) (.cons 8 (.cons 6 (.cons 7 (.cons 9 .done .stop) .stop) .stop) .stop)) (.cons 6 (.cons 1 (.cons 7 (.cons 8 (.cons 9 .done .stop) .stop) (.cons 8 (.cons 7 (.cons 9 .done .stop) .stop) .stop)) (.cons 8 (.cons 1 (.cons 7 (.cons 9 .done .stop) .stop) .stop) .stop)) (.cons 8 (.cons 1 (.cons 6 (.cons 7 (.cons 9 .done .stop) .stop) .stop) (.cons 6 (.cons 1 (.cons 7 (.cons 9 .done .stop) .stop) .stop) .stop)) .stop))) (.cons 6 (.cons 1 (.cons 3 (.cons 7 (.cons 8 (.cons 9 .done .stop) .stop) (.cons 8 (.cons 7 (.cons 9 .done .stop) .stop) .stop)) (.cons 8 (.cons 3 (.cons 7 (.cons 9 .done .stop) .stop) .stop) .stop)) (.cons 3 (.cons 1 (.cons 7 (.cons 8 (.cons 9 .done .stop) .stop) (.cons 8 (.cons 7 (.cons 9 .done .stop) .stop) .stop)) (.cons 8 (.cons 1 (.cons 7 (.cons 9 .done .stop) .stop) .stop) .stop)) (.cons 8 (.cons 1 (.cons 3 (.cons 7 (.cons 9 .done .stop) .stop) .stop) (.cons 3 (.cons 1 (.cons 7 (.cons 9 .done .stop) .stop) .stop) .stop)) .stop))) (.cons 8 (.cons 1 (.cons 3 (.cons 6 (.cons 7 (.cons 9 .done .stop) .stop) .stop) (.cons 6 (.cons 3 (.cons 7 (.cons 9 .done .stop) .stop) .stop) .stop)) (.cons 3 (.cons 1 (.cons 6 (.cons 7 (.cons 9 .done .stop) .stop) .stop) (.cons 6 (.cons 1 (.cons 7 (.cons 9 .done .stop) .stop) .stop) .stop)) (.cons 6 (.cons 1 (.cons 3 (.cons 7 (.cons 9 .done .stop) .stop) .stop) (.cons 3 (.cons 1 (.cons 7 (.cons 9 .done .stop) .stop) .stop) .stop)) .stop))) .stop)))) (.cons 8 (.cons 1 (.cons 3 (.cons 5 (.cons 6 (.cons 7 (.cons 9 .done .stop) .stop) .stop) .stop) (.cons 5 (.cons 3 (.cons 6 (.cons 7 (.cons 9 .done .stop) .stop) .stop) (.cons 6 (.cons 3 (.cons 7 (.cons 9 .done .stop) .stop) .stop) .stop)) .stop)) (.cons 3 (.cons 1 (.cons 5 (.cons 6 (.cons 7 (.cons 9 .done .stop) .stop) .stop) .stop) (.cons 5 (.cons 1 (.cons 6 (.cons 7 (.cons 9 .done .stop) .stop) .stop) (.cons 6 (.cons 1 (.cons 7 (.cons 9 .done .stop) .stop) .stop) .stop)) .stop)) (.cons 5 (.cons 1 (.cons 3 (.cons 6 (.cons 7 (.cons 9 .done .stop) .stop) .stop) (.cons 6 (.cons 3 (.cons 7 (.cons 9 .done .stop) .stop) .stop) .stop)) (.cons 3 (.cons 1 (.cons 6 (.cons 7 (.cons 9 .done .stop) .stop) .stop) (.cons 6 (.cons 1 (.cons 7 (.cons 9 .done .stop) .stop) .stop) .stop)) (.cons 6 (.cons 1 (.cons 3 (.cons 7 (.cons 9 .done .stop) .stop) .stop) (.cons 3 (.cons 1 (.cons 7 (.cons 9 .done .stop) .stop) .stop) .stop)) .stop))) .stop))) .stop))))))) (by kernel_rfl) (by kernel_rfl) (by kernel_rfl) ⟨121,[(1,.ro (rls L)),(2,.ptr 0 0),(4,.ptr 1 0),(5,.ptr 3 0)],[(0,.box 24 [.int .i64 w,.int .i64 h,.ro (.bools p)]),(1,.box 24 [.int .i64 0,.int .i64 0,.nilS]),(2,.row 4 (.bools p)),(3,.box 24 [.int .i64 w,.int .i64 h,.own 2])],4⟩ ?_ ?_
 ·(repeat' with_reducible first|intro _|exact dn|refine rn ?_|refine ra ?_ ?_)
  all_goals
   refine aj.o kc 1 ?_
   (repeat' with_reducible first|intro _|exact dn|refine rn ?_|refine ra ?_ ?_)
  all_goals
   refine aS.aB rfl ?_ ?_<;>simp only [go_sem,Int.natCast_succ]
 (repeat' with_reducible first|intro _|refine rz ?_|refine ra ?_ ?_|omega|simp only [go_sem,List.length_map])
 refine aJ.intro (fun i:Nat=>⟨121,[(2,.ptr 0 0),(4,.ptr 1 0),(5,.ptr 3 0),(22,.ro (rls L)),(23,.int .i64 L.length),(24,.int .i64 i)],[(0,.box 24 [.int .i64 w,.int .i64 h,.ro (.bools p)]),(1,.box 24 [.int .i64 0,.int .i64 0,.nilS]),(2,.row 4 (.bools (NZ p w (L.take i)))),(3,.box 24 [.int .i64 w,.int .i64 h,.own 2])],4⟩) (fun i=>i≤L.length) (fun i=>L.length - i) 0 ?_ (Nat.zero_le _) fun i hi=>?_
 ·refine aS.aB rfl ?_ ?_<;>simp only [go_sem,Int.natCast_succ]
  all_goals rfl
 by_cases hlt:i<L.length
 case neg=>
  have e:i=L.length:=by omega
  subst e
  have f2:((L.length:Int)<(L.length:Int))=False:=eq_false (by omega)
  rw [List.take_length]
  (repeat' with_reducible first|intro _|refine rz ?_|refine ra ?_ ?_|omega|simp only [go_sem,f2])
  refine eP.auto 1 ?_ rfl ?_<;>simp only [go_sem,Int.natCast_succ,Post]
 have f2:((i:Int)<(L.length:Int))=True:=eq_true (by omega)
 have he:=rl_elem L hlt
 have hi1:=hin i hlt
 have hs:=JI p w L hlt
 have hql:=N7 p w (L.take i)
 unfold lX jC at hi1
 unfold WG at hs
 generalize (L.getD i Pl.zero).a1=A1 at *
 generalize (L.getD i Pl.zero).a2=A2 at *
 generalize (L.getD i Pl.zero).a3=A3 at *
 generalize (L.getD i Pl.zero).a4=A4 at *
 generalize (L.getD i Pl.zero).dn=d at *
 obtain ⟨x,rfl⟩:∃ k:Nat,A1=k:=⟨A1.toNat,by omega⟩
 obtain ⟨y,rfl⟩:∃ k:Nat,A2=k:=⟨A2.toNat,by omega⟩
 obtain ⟨bw,rfl⟩:∃ k:Nat,A3=k:=⟨A3.toNat,by omega⟩
 obtain ⟨bh,rfl⟩:∃ k:Nat,A4=k:=⟨A4.toNat,by omega⟩
 simp only [Int.toNat_natCast] at hs
 unfold Yd at hs
 have hat:∀ line k:Nat,line<IJ bw bh d→k<zD bw bh d→dO x y w d line k<w*h:=fun line k h1 h2=>PZ (by omega) (by omega) h1 h2
 generalize hq:NZ p w (L.take i)=q at *
 (repeat' with_reducible first|intro _|refine rz ?_|refine ra ?_ ?_|omega|simp only [go_sem,f2,aN,he,List.length_map])
 refine aP.cut (.first 1 (.cons 0 (.cons 2 (.cons 3 (.cons 4 (.cons 5 (.cons 6 .done .stop) .stop) .stop) (.cons 4 (.cons 3 (.cons 5 (.cons 6 .done .stop) .stop) .stop) .stop)) (.cons 3 (.cons 2 (.cons 4 (.cons 5 (.cons 6 .done .stop) .stop) .stop) (.cons 4 (.cons 2 (.cons 5 (.cons 6 .done .stop) .stop) (.cons 5 (.cons 2 (.cons 6 .done .stop) .stop) .stop)) .stop)) (.cons 4 (.cons 2 (.cons 3 (.cons 5 (.cons 6 .done .stop) .stop) .stop) (.cons 3 (.cons 2 (.cons 5 (.cons 6 .done .stop) .stop) (.cons 5 (.cons 2 (.cons 6 .done .stop) .stop) .stop)) .stop)) .stop))) (.cons 2 (.cons 0 (.cons 3 (.cons 4 (.cons 5 (.cons 6 .done .stop) .stop) .stop) (.cons 4 (.cons 3 (.cons 5 (.cons 6 .done .stop) .stop) .stop) .stop)) (.cons 3 (.cons 0 (.cons 4 (.cons 5 (.cons 6 .done .stop) .stop) .stop) (.cons 4 (.cons 0 (.cons 5 (.cons 6 .done .stop) .stop) .stop) .stop)) (.cons 4 (.cons 0 (.cons 3 (.cons 5 (.cons 6 .done .stop) .stop) .stop) (.cons 3 (.cons 0 (.cons 5 (.cons 6 .done .stop) .stop) .stop) .stop)) .stop))) (.cons 3 (.cons 0 (.cons 2 (.cons 4 (.cons 5 (.cons 6 .done .stop) .stop) .stop) (.cons 4 (.cons 2 (.cons 5 (.cons 6 .done .stop) .stop) (.cons 5 (.cons 2 (.cons 6 .done .stop) .stop) .stop)) .stop)) (.cons 2 (.cons 0 (.cons 4 (.cons 5 (.cons 6 .done .stop) .stop) .stop) (.cons 4 (.cons 0 (.cons 5 (.cons 6 .done .stop) .stop) .stop) .stop)) (.cons 4 (.cons 0 (.cons 2 (.cons 5 (.cons 6 .done .stop) .stop) (.cons 5 (.cons 2 (.cons 6 .done .stop) .stop) .stop)) (.cons 2 (.cons 0 (.cons 5 (.cons 6 .done .stop) .stop) .stop) .stop)) .stop))) (.cons 4 (.cons 0 (.cons 2 (.cons 3 (.cons 5 (.cons 6 .done .stop) .stop) .stop) (.cons 3 (.cons 2 (.cons 5 (.cons 6 .done .stop) .stop) (.cons 5 (.cons 2 (.cons 6 .done .stop) .stop) .stop)) .stop)) (.cons 2 (.cons 0 (.cons 3 (.cons 5 (.cons 6 .done .stop) .stop) .stop) (.cons 3 (.cons 0 (.cons 5 (.cons 6 .done .stop) .stop) .stop) .stop)) (.cons 3 (.cons 0 (.cons 2 (.cons 5 (.cons 6 .done .stop) .stop) (.cons 5 (.cons 2 (.cons 6 .done .stop) .stop) .stop)) (.cons 2 (.cons 0 (.cons 5 (.cons 6 .done .stop) .stop) .stop) .stop)) .stop))) .stop))))) (by kernel_rfl) (by kernel_rfl) (by kernel_rfl) ⟨121,[(2,.ptr 0 0),(4,.ptr 1 0),(5,.ptr 3 0),(7,.ptr 4 0),(8,.ptr 5 0),(9,.ptr 6 0),(22,.ro (rls L)),(23,.int .i64 L.length),(24,.int .i64 i)],[(0,.box 24 [.int .i64 w,.int .i64 h,.ro (.bools p)]),(1,.box 24 [.int .i64 0,.int .i64 0,.nilS]),(2,.row 4 (.bools q)),(3,.box 24 [.int .i64 w,.int .i64 h,.own 2]),(4,.box 35 [.int .i64 x,.int .i64 y,.int .i64 bw,.int .i64 bh,.bool d]),(5,.box 24 [.int .i64 w,.int .i64 h,.ro (.bools p)]),(6,.box 33 [.int .i64 x,.int .i64 y,.int .i64 bw,.int .i64 bh])],7⟩ ?_ ?_
 ·(repeat' with_reducible first|intro _|exact dn|refine rn ?_|refine ra ?_ ?_)
  all_goals
   refine aS.aB rfl ?_ ?_<;>simp only [go_sem,Int.natCast_succ]
 cases d
 all_goals
  dsimp only [IJ,zD] at *
  (repeat' with_reducible first|intro _|exact dn|refine rn ?_|refine ra ?_ ?_)
 case true=>
  refine aP.lex [15,16] [(2,[1]),(3,[1]),(4,[1]),(5,[1]),(6,[1]),(7,[1]),(8,[1]),(9,[1]),(10,[1]),(11,[1]),(12,[1]),(13,[1]),(14,[1])] (by kernel_rfl) (by kernel_rfl) ?_
  (repeat' with_reducible first|intro _|exact dn|refine rn ?_|refine ra ?_ ?_)
  refine QV.intro (.agg [.int .i64 h,.int .i64 w,.ro (.bools (Jw p w h))]) ?_ ?_
  ·(repeat' with_reducible first|intro _|exact dn|refine rn ?_|refine ra ?_ ?_)
   refine aj.ro (.agg [.int .i64 h,.int .i64 w,.ro (.bools (Jw p w h))]) (dW.dP qa rfl (by simp [dR,dQ,gq,fK,iL,aG])) (by simp only [aG,aV,dI,bf,aH,List.drop_zero,lk,reduceIte,reduceCtorEq,Nat.reduceEqDiff,Option.some.injEq,Item.row.injEq,Item.box.injEq,AV.ro.injEq,exists_eq_left,exists_and_left,exists_eq_left',exists_eq_right,and_assoc,and_true,true_and,List.cons.injEq,exists_eq',exists_eq,aG]) (by simp [gX,aV,bf,dI,aH,lk,aG]) rfl ?_
   (repeat' with_reducible first|intro _|exact dn|refine rn ?_|refine ra ?_ ?_)
  (repeat' with_reducible first|intro _|exact dn|refine rn ?_|refine ra ?_ ?_)
  have hcp:(Jw p w h).length=h*w:=by rw [NV,Nat.mul_comm]
  have his:∀ a m,a<bw→m<bh→(Jw p w h).getD ((x+a)*h+(y+m)) false=qp p x y w true a m:=fun a m h1 h2=>by
   rw [NU p (by omega) (by omega)]
   unfold qp dO
   dsimp only
   rw [Nat.add_assoc]
  generalize Jw p w h=cp at *
  have hY:x+bw≤w:=by omega
  have hX:y+bh≤h:=by omega
  have hq2:(((bh:Nat):Int)+1).tdiv 2=(((bh+1) / 2:Nat):Int):=by
   rw [Int.tdiv_eq_ediv_of_nonneg (by omega)];omega
  refine aJ.intro (fun a:Nat=>⟨121,[(2,.ptr 0 0),(4,.ptr 1 0),(5,.ptr 3 0),(7,.ptr 4 0),(8,.ptr 5 0),(9,.ptr 6 0),(22,.ro (rls L)),(23,.int .i64 L.length),(24,.int .i64 i),(10,.int .i64 (x+a:Nat))],[(0,.box 24 [.int .i64 w,.int .i64 h,.ro (.bools p)]),(1,.box 24 [.int .i64 0,.int .i64 0,.nilS]),(2,.row 4 (.bools (nU (dO x y w true) q (runs (qp p x y w true) a bh ((bh+1) / 2))))),(3,.box 24 [.int .i64 w,.int .i64 h,.own 2]),(4,.box 35 [.int .i64 x,.int .i64 y,.int .i64 bw,.int .i64 bh,.bool true]),(5,.box 24 [.int .i64 h,.int .i64 w,.ro (.bools cp)]),(6,.box 33 [.int .i64 y,.int .i64 x,.int .i64 bh,.int .i64 bw])],7⟩) (fun a=>a≤bw) (fun a=>bw - a) 0 ?_ (Nat.zero_le _) fun a ha=>?_
  ·refine aS.aB rfl ?_ ?_<;>simp only [go_sem,Int.natCast_succ]
   all_goals rfl
  by_cases hal:a<bw
  case neg=>
   have e:a=bw:=by omega
   subst e
   have f3:(((x+a:Nat):Int)<(x:Int)+(a:Int))=False:=eq_false (by omega)
   rw [←hs]
   (repeat' with_reducible first|intro _|refine rz ?_|refine ra ?_ ?_|omega|simp only [go_sem,f3])
   refine ⟨i+1,aS.aB rfl ?_ ?_,by omega,by omega⟩<;>simp only [go_sem,Int.natCast_succ]
   all_goals trace_state
  have f3:(((x+a:Nat):Int)<(x:Int)+(bw:Int))=True:=eq_true (by omega)
  have hru:=iF (qp p x y w true) a bh ((bh+1) / 2)
  have hlq:=nN (dO x y w true) (runs (qp p x y w true) a bh ((bh+1) / 2)) q
  generalize runs (qp p x y w true) a bh ((bh+1) / 2)=R0 at *
  have hQ:nU (dO x y w true) q (runs (qp p x y w true) (a+1) bh ((bh+1) / 2))=nU (dO x y w true) (nU (dO x y w true) q R0) (mV (qp p x y w true a) ((bh+1) / 2) a bh 0 0):=by
   rw [hru,zM,oN (qp p x y w true) (by omega)]
  generalize nU (dO x y w true) q R0=q1 at *
  generalize hQF:nU (dO x y w true) q (runs (qp p x y w true) (a+1) bh ((bh+1) / 2))=QF at *
  (repeat' with_reducible first|intro _|refine rz ?_|refine ra ?_ ?_|omega|simp only [go_sem,f3])
  refine aJ.intro (fun z:Nat × Nat × List Bool=>⟨121,[(2,.ptr 0 0),(4,.ptr 1 0),(5,.ptr 3 0),(7,.ptr 4 0),(8,.ptr 5 0),(9,.ptr 6 0),(22,.ro (rls L)),(23,.int .i64 L.length),(24,.int .i64 i),(10,.int .i64 (x+a:Nat)),(11,.int .i64 z.2.1),(12,.int .i64 (y+z.1:Nat))],[(0,.box 24 [.int .i64 w,.int .i64 h,.ro (.bools p)]),(1,.box 24 [.int .i64 0,.int .i64 0,.nilS]),(2,.row 4 (.bools z.2.2)),(3,.box 24 [.int .i64 w,.int .i64 h,.own 2]),(4,.box 35 [.int .i64 x,.int .i64 y,.int .i64 bw,.int .i64 bh,.bool true]),(5,.box 24 [.int .i64 h,.int .i64 w,.ro (.bools cp)]),(6,.box 33 [.int .i64 y,.int .i64 x,.int .i64 bh,.int .i64 bw])],7⟩) (fun z=>z.1≤bh+1∧z.2.1≤z.1∧z.2.2.length=p.length∧(z.1≤bh→nU (dO x y w true) z.2.2 (mV (qp p x y w true a) ((bh+1) / 2) a (bh - z.1) z.1 z.2.1)=QF)∧(bh<z.1→z.2.2=QF)) (fun z=>bh+1 - z.1) (0,0,q1) ?_ ⟨Nat.zero_le _,Nat.zero_le _,by dsimp only;omega,fun _=>hQ.symm,fun hf=>absurd hf (by dsimp only;omega)⟩ fun z hz=>?_
  ·refine aS.aB rfl ?_ ?_<;>simp only [go_sem,Int.natCast_succ]
   all_goals trace_state
  obtain ⟨m,n,qm⟩:=z
  obtain ⟨z1,z2,z3,z4,z5⟩:=hz
  dsimp only at z1 z2 z3 z4 z5 ⊢
  by_cases hml:m≤bh
  case neg=>
   have e:=z5 (by omega)
   subst e
   have f4:(((y+m:Nat):Int)≤(y:Int)+(bh:Int))=False:=eq_false (by omega)
   (repeat' with_reducible first|intro _|refine rz ?_|refine ra ?_ ?_|omega|simp only [go_sem,f4])
   refine ⟨a+1,aS.aB rfl ?_ ?_,by omega,by omega⟩<;>simp only [go_sem,Int.natCast_succ]
   all_goals first|omega|exact hQF.symm|exact ⟨by omega,hQF.symm⟩
  have f4:(((y+m:Nat):Int)≤(y:Int)+(bh:Int))=True:=eq_true (by omega)
  have z6:=z4 hml
  clear z4 z5
  by_cases hc:m<bh∧qp p x y w true a m=true
  ·obtain ⟨hc1,hc2⟩:=hc
   have f5:(((y+m:Nat):Int)<(y:Int)+(bh:Int))=True:=eq_true (by omega)
   have kA:=mJ h w (by omega) (by omega) cp hcp ((y+m:Nat):Int) ((x+a:Nat):Int)
   rw [qH _ (by omega) (by omega),his a m hal hc1,hc2] at kA
   (repeat' with_reducible first|intro _|refine rz ?_|refine ra ?_ ?_|omega|simp only [go_sem,f4,f5])
   refine aj.k kA ?_
   (repeat' with_reducible first|intro _|refine rz ?_|refine ra ?_ ?_|omega|simp only [go_sem,f4,f5])
   refine ⟨(m+1,n+1,qm),aS.aB rfl ?_ ?_,⟨by dsimp only;omega,by dsimp only;omega,z3,fun _=>?_,fun hf=>absurd hf (by dsimp only;omega)⟩,by dsimp only;omega⟩
   rotate_right
   ·dsimp only
    rw [show bh - m=(bh - (m+1))+1 by omega] at z6
    unfold mV at z6
    rwa [if_pos hc2] at z6
   all_goals simp only [go_sem,Int.natCast_succ]
   omega
  have hnx:nU (dO x y w true) qm (pG ((bh+1) / 2) a (m - n) m n)=(if m<bh then nU (dO x y w true) qm (pG ((bh+1) / 2) a (m - n) m n) else QF)∧(m<bh→nU (dO x y w true) (nU (dO x y w true) qm (pG ((bh+1) / 2) a (m - n) m n)) (mV (qp p x y w true a) ((bh+1) / 2) a (bh - (m+1)) (m+1) 0)=QF):=by
   by_cases hm:m<bh
   ·have hf:¬qp p x y w true a m=true:=fun hf=>hc ⟨hm,hf⟩
    rw [if_pos hm]
    refine ⟨rfl,fun _=>?_⟩
    rw [show bh - m=(bh - (m+1))+1 by omega] at z6
    unfold mV at z6
    rw [if_neg hf,zM] at z6
    exact z6
   ·rw [if_neg hm]
    refine ⟨?_,fun hf=>absurd hf hm⟩
    rw [show bh - m=0 by omega] at z6
    unfold mV at z6
    exact z6
  have hql2:=nN (dO x y w true) (pG ((bh+1) / 2) a (m - n) m n) qm
  have hcall:(m<bh∧aU Tryd.prog 42 [.agg [.int .i64 h,.int .i64 w,.ro (.bools cp)],.int .i64 (y+m:Nat),.int .i64 (x+a:Nat)] (.bool false) [])∨¬m<bh:=by
   by_cases hm:m<bh
   ·have hf:qp p x y w true a m=false:=by simpa using fun hf=>hc ⟨hm,hf⟩
    have kA:=mJ h w (by omega) (by omega) cp hcp ((y+m:Nat):Int) ((x+a:Nat):Int)
    rw [qH _ (by omega) (by omega),his a m hal hm,hf] at kA
    exact .inl ⟨hm,kA⟩
   ·exact .inr hm
  have go:∀ Q2:List Bool,nU (dO x y w true) qm (pG ((bh+1) / 2) a (m - n) m n)=Q2→(Q2.length=p.length∧(m+1≤bh→nU (dO x y w true) Q2 (mV (qp p x y w true a) ((bh+1) / 2) a (bh - (m+1)) (m+1) 0)=QF)∧(bh<m+1→Q2=QF)):=fun Q2 e=>by
   rw [e] at hnx hql2
   refine ⟨by omega,fun hf=>hnx.2 (by omega),fun hf=>?_⟩
   have:=hnx.1
   rwa [if_neg (by omega)] at this
  by_cases hn:(bh+1) / 2≤n
  case neg=>
   have f6:((((bh+1) / 2:Nat):Int)≤(n:Int))=False:=eq_false (by omega)
   have e0:nU (dO x y w true) qm (pG ((bh+1) / 2) a (m - n) m n)=qm:=by
    unfold pG;rw [if_neg hn];rfl
   obtain ⟨g1,g2,g3⟩:=go _ e0
   rcases hcall with ⟨hm,kA⟩|hm
   ·have f5:(((y+m:Nat):Int)<(y:Int)+(bh:Int))=True:=eq_true (by omega)
    (repeat' with_reducible first|intro _|refine rz ?_|refine ra ?_ ?_|omega|simp only [go_sem,f4,f5,hq2,f6])
    refine aj.k kA ?_
    (repeat' with_reducible first|intro _|refine rz ?_|refine ra ?_ ?_|omega|simp only [go_sem,f4,f5,hq2,f6])
    refine ⟨(m+1,0,qm),aS.aB rfl ?_ ?_,⟨by dsimp only;omega,by dsimp only;omega,g1,g2,g3⟩,by dsimp only;omega⟩<;>simp only [go_sem,Int.natCast_succ]
    omega
   ·have f5:(((y+m:Nat):Int)<(y:Int)+(bh:Int))=False:=eq_false (by omega)
    (repeat' with_reducible first|intro _|refine rz ?_|refine ra ?_ ?_|omega|simp only [go_sem,f4,f5,hq2,f6])
    refine ⟨(m+1,0,qm),aS.aB rfl ?_ ?_,⟨by dsimp only;omega,by dsimp only;omega,g1,g2,g3⟩,by dsimp only;omega⟩<;>simp only [go_sem,Int.natCast_succ]
    omega
  have f6:((((bh+1) / 2:Nat):Int)≤(n:Int))=True:=eq_true (by omega)
  have e0:nU (dO x y w true) qm (pG ((bh+1) / 2) a (m - n) m n)=fF ((dO x y w true) a) qm (m - n) n:=by
   unfold pG;rw [if_pos hn]
   show fF ((dO x y w true) a) qm (m - n) (m - (m - n))=_
   rw [show m - (m - n)=n by omega]
  obtain ⟨g1,g2,g3⟩:=go _ e0
  have hsub:(((y+m:Nat):Int) - (n:Int))=((y+(m - n)+0:Nat):Int):=by omega
  have hidx:∀ j,j<n→((y+(m - n)+j:Nat):Int)*(w:Int)+((x+a:Nat):Int)=((dO x y w true a (m - n+j):Nat):Int):=fun j hj=>by
   unfold dO
   dsimp only
   rw [show y+(m - n)+j=y+(m - n+j) from Nat.add_assoc _ _ _,up_mul,up_add]
   apply congrArg
   omega
  rcases hcall with ⟨hm,kA⟩|hm
  ·have f5:(((y+m:Nat):Int)<(y:Int)+(bh:Int))=True:=eq_true (by omega)
   (repeat' with_reducible first|intro _|refine rz ?_|refine ra ?_ ?_|omega|simp only [go_sem,f4,f5,hq2,f6,hsub])
   refine aj.k kA ?_
   (repeat' with_reducible first|intro _|refine rz ?_|refine ra ?_ ?_|omega|simp only [go_sem,f4,f5,hq2,f6,hsub])
   refine aJ.intro (fun j:Nat=>⟨121,[(2,.ptr 0 0),(4,.ptr 1 0),(5,.ptr 3 0),(7,.ptr 4 0),(8,.ptr 5 0),(9,.ptr 6 0),(22,.ro (rls L)),(23,.int .i64 L.length),(24,.int .i64 i),(10,.int .i64 (x+a:Nat)),(11,.int .i64 n),(12,.int .i64 (y+m:Nat)),(13,.int .i64 (y+(m - n)+j:Nat))],[(0,.box 24 [.int .i64 w,.int .i64 h,.ro (.bools p)]),(1,.box 24 [.int .i64 0,.int .i64 0,.nilS]),(2,.row 4 (.bools (fF ((dO x y w true) a) qm (m - n) j))),(3,.box 24 [.int .i64 w,.int .i64 h,.own 2]),(4,.box 35 [.int .i64 x,.int .i64 y,.int .i64 bw,.int .i64 bh,.bool true]),(5,.box 24 [.int .i64 h,.int .i64 w,.ro (.bools cp)]),(6,.box 33 [.int .i64 y,.int .i64 x,.int .i64 bh,.int .i64 bw])],7⟩) (fun j=>j≤n) (fun j=>n - j) 0 ?_ (Nat.zero_le _) fun j hj=>?_
   ·refine aS.aB rfl ?_ ?_<;>simp only [go_sem,Int.natCast_succ,fF]
    all_goals trace_state
   by_cases hjn:j<n
   case neg=>
    have e:j=n:=by omega
    subst e
    have f7:(((y+(m - j)+j:Nat):Int)<((y+m:Nat):Int))=False:=eq_false (by omega)
    (repeat' with_reducible first|intro _|refine rz ?_|refine ra ?_ ?_|omega|simp only [go_sem,f7])
    refine ⟨(m+1,0,fF ((dO x y w true) a) qm (m - j) j),aS.aB rfl ?_ ?_,⟨by dsimp only;omega,by dsimp only;omega,g1,g2,g3⟩,by dsimp only;omega⟩<;>simp only [go_sem,Int.natCast_succ]
    omega
   have f7:(((y+(m - n)+j:Nat):Int)<((y+m:Nat):Int))=True:=eq_true (by omega)
   have hm1:((y+(m - n)+j:Nat):Int)*(w:Int)=(((y+(m - n)+j)*w:Nat):Int):=up_mul _ _
   have hm2:=hidx j hjn
   rw [hm1] at hm2
   have hat1:=hat a (m - n+j) hal (by omega)
   have hcl:=jW ((dO x y w true) a) qm (m - n) j
   have hcs:fF ((dO x y w true) a) qm (m - n) (j+1)=(fF ((dO x y w true) a) qm (m - n) j).set (dO x y w true a (m - n+j)) false:=rfl
   generalize dO x y w true a (m - n+j)=at' at *
   generalize fF ((dO x y w true) a) qm (m - n) j=q2 at *
   (repeat' with_reducible first|intro _|refine rz ?_|refine ra ?_ ?_|omega|simp only [go_sem,f7,hm1,hm2,Int.toNat_natCast])
   refine ⟨j+1,aS.aB rfl ?_ ?_,by omega,by omega⟩<;>simp only [go_sem,Int.natCast_succ,hcs]
   omega
  ·have f5:(((y+m:Nat):Int)<(y:Int)+(bh:Int))=False:=eq_false (by omega)
   (repeat' with_reducible first|intro _|refine rz ?_|refine ra ?_ ?_|omega|simp only [go_sem,f4,f5,hq2,f6,hsub])
   refine aJ.intro (fun j:Nat=>⟨121,[(2,.ptr 0 0),(4,.ptr 1 0),(5,.ptr 3 0),(7,.ptr 4 0),(8,.ptr 5 0),(9,.ptr 6 0),(22,.ro (rls L)),(23,.int .i64 L.length),(24,.int .i64 i),(10,.int .i64 (x+a:Nat)),(11,.int .i64 n),(12,.int .i64 (y+m:Nat)),(13,.int .i64 (y+(m - n)+j:Nat))],[(0,.box 24 [.int .i64 w,.int .i64 h,.ro (.bools p)]),(1,.box 24 [.int .i64 0,.int .i64 0,.nilS]),(2,.row 4 (.bools (fF ((dO x y w true) a) qm (m - n) j))),(3,.box 24 [.int .i64 w,.int .i64 h,.own 2]),(4,.box 35 [.int .i64 x,.int .i64 y,.int .i64 bw,.int .i64 bh,.bool true]),(5,.box 24 [.int .i64 h,.int .i64 w,.ro (.bools cp)]),(6,.box 33 [.int .i64 y,.int .i64 x,.int .i64 bh,.int .i64 bw])],7⟩) (fun j=>j≤n) (fun j=>n - j) 0 ?_ (Nat.zero_le _) fun j hj=>?_
   ·refine aS.aB rfl ?_ ?_<;>simp only [go_sem,Int.natCast_succ,fF]
    all_goals trace_state
   by_cases hjn:j<n
   case neg=>
    have e:j=n:=by omega
    subst e
    have f7:(((y+(m - j)+j:Nat):Int)<((y+m:Nat):Int))=False:=eq_false (by omega)
    (repeat' with_reducible first|intro _|refine rz ?_|refine ra ?_ ?_|omega|simp only [go_sem,f7])
    refine ⟨(m+1,0,fF ((dO x y w true) a) qm (m - j) j),aS.aB rfl ?_ ?_,⟨by dsimp only;omega,by dsimp only;omega,g1,g2,g3⟩,by dsimp only;omega⟩<;>simp only [go_sem,Int.natCast_succ]
    omega
   have f7:(((y+(m - n)+j:Nat):Int)<((y+m:Nat):Int))=True:=eq_true (by omega)
   have hm1:((y+(m - n)+j:Nat):Int)*(w:Int)=(((y+(m - n)+j)*w:Nat):Int):=up_mul _ _
   have hm2:=hidx j hjn
   rw [hm1] at hm2
   have hat1:=hat a (m - n+j) hal (by omega)
   have hcl:=jW ((dO x y w true) a) qm (m - n) j
   have hcs:fF ((dO x y w true) a) qm (m - n) (j+1)=(fF ((dO x y w true) a) qm (m - n) j).set (dO x y w true a (m - n+j)) false:=rfl
   generalize dO x y w true a (m - n+j)=at' at *
   generalize fF ((dO x y w true) a) qm (m - n) j=q2 at *
   (repeat' with_reducible first|intro _|refine rz ?_|refine ra ?_ ?_|omega|simp only [go_sem,f7,hm1,hm2,Int.toNat_natCast])
   refine ⟨j+1,aS.aB rfl ?_ ?_,by omega,by omega⟩<;>simp only [go_sem,Int.natCast_succ,hcs]
   omega
 case false=>
  have his:∀ a m,a<bh→m<bw→p.getD ((y+a)*w+(x+m)) false=qp p x y w false a m:=fun a m h1 h2=>by
   unfold qp dO
   dsimp only
   rw [Nat.add_assoc]
  have hcp:p.length=w*h:=hp
  have hY:y+bh≤h:=by omega
  have hX:x+bw≤w:=by omega
  have hq2:(((bw:Nat):Int)+1).tdiv 2=(((bw+1) / 2:Nat):Int):=by
   rw [Int.tdiv_eq_ediv_of_nonneg (by omega)];omega
  refine aJ.intro (fun a:Nat=>⟨121,[(2,.ptr 0 0),(4,.ptr 1 0),(5,.ptr 3 0),(7,.ptr 4 0),(8,.ptr 5 0),(9,.ptr 6 0),(22,.ro (rls L)),(23,.int .i64 L.length),(24,.int .i64 i),(10,.int .i64 (y+a:Nat))],[(0,.box 24 [.int .i64 w,.int .i64 h,.ro (.bools p)]),(1,.box 24 [.int .i64 0,.int .i64 0,.nilS]),(2,.row 4 (.bools (nU (dO x y w false) q (runs (qp p x y w false) a bw ((bw+1) / 2))))),(3,.box 24 [.int .i64 w,.int .i64 h,.own 2]),(4,.box 35 [.int .i64 x,.int .i64 y,.int .i64 bw,.int .i64 bh,.bool false]),(5,.box 24 [.int .i64 w,.int .i64 h,.ro (.bools p)]),(6,.box 33 [.int .i64 x,.int .i64 y,.int .i64 bw,.int .i64 bh])],7⟩) (fun a=>a≤bh) (fun a=>bh - a) 0 ?_ (Nat.zero_le _) fun a ha=>?_
  ·refine aS.aB rfl ?_ ?_<;>simp only [go_sem,Int.natCast_succ]
   all_goals rfl
  by_cases hal:a<bh
  case neg=>
   have e:a=bh:=by omega
   subst e
   have f3:(((y+a:Nat):Int)<(y:Int)+(a:Int))=False:=eq_false (by omega)
   rw [←hs]
   (repeat' with_reducible first|intro _|refine rz ?_|refine ra ?_ ?_|omega|simp only [go_sem,f3])
   refine ⟨i+1,aS.aB rfl ?_ ?_,by omega,by omega⟩<;>simp only [go_sem,Int.natCast_succ]
   all_goals trace_state
  have f3:(((y+a:Nat):Int)<(y:Int)+(bh:Int))=True:=eq_true (by omega)
  have hru:=iF (qp p x y w false) a bw ((bw+1) / 2)
  have hlq:=nN (dO x y w false) (runs (qp p x y w false) a bw ((bw+1) / 2)) q
  generalize runs (qp p x y w false) a bw ((bw+1) / 2)=R0 at *
  have hQ:nU (dO x y w false) q (runs (qp p x y w false) (a+1) bw ((bw+1) / 2))=nU (dO x y w false) (nU (dO x y w false) q R0) (mV (qp p x y w false a) ((bw+1) / 2) a bw 0 0):=by
   rw [hru,zM,oN (qp p x y w false) (by omega)]
  generalize nU (dO x y w false) q R0=q1 at *
  generalize hQF:nU (dO x y w false) q (runs (qp p x y w false) (a+1) bw ((bw+1) / 2))=QF at *
  (repeat' with_reducible first|intro _|refine rz ?_|refine ra ?_ ?_|omega|simp only [go_sem,f3])
  refine aJ.intro (fun z:Nat × Nat × List Bool=>⟨121,[(2,.ptr 0 0),(4,.ptr 1 0),(5,.ptr 3 0),(7,.ptr 4 0),(8,.ptr 5 0),(9,.ptr 6 0),(22,.ro (rls L)),(23,.int .i64 L.length),(24,.int .i64 i),(10,.int .i64 (y+a:Nat)),(11,.int .i64 z.2.1),(12,.int .i64 (x+z.1:Nat))],[(0,.box 24 [.int .i64 w,.int .i64 h,.ro (.bools p)]),(1,.box 24 [.int .i64 0,.int .i64 0,.nilS]),(2,.row 4 (.bools z.2.2)),(3,.box 24 [.int .i64 w,.int .i64 h,.own 2]),(4,.box 35 [.int .i64 x,.int .i64 y,.int .i64 bw,.int .i64 bh,.bool false]),(5,.box 24 [.int .i64 w,.int .i64 h,.ro (.bools p)]),(6,.box 33 [.int .i64 x,.int .i64 y,.int .i64 bw,.int .i64 bh])],7⟩) (fun z=>z.1≤bw+1∧z.2.1≤z.1∧z.2.2.length=p.length∧(z.1≤bw→nU (dO x y w false) z.2.2 (mV (qp p x y w false a) ((bw+1) / 2) a (bw - z.1) z.1 z.2.1)=QF)∧(bw<z.1→z.2.2=QF)) (fun z=>bw+1 - z.1) (0,0,q1) ?_ ⟨Nat.zero_le _,Nat.zero_le _,by dsimp only;omega,fun _=>hQ.symm,fun hf=>absurd hf (by dsimp only;omega)⟩ fun z hz=>?_
  ·refine aS.aB rfl ?_ ?_<;>simp only [go_sem,Int.natCast_succ]
   all_goals trace_state
  obtain ⟨m,n,qm⟩:=z
  obtain ⟨z1,z2,z3,z4,z5⟩:=hz
  dsimp only at z1 z2 z3 z4 z5 ⊢
  by_cases hml:m≤bw
  case neg=>
   have e:=z5 (by omega)
   subst e
   have f4:(((x+m:Nat):Int)≤(x:Int)+(bw:Int))=False:=eq_false (by omega)
   (repeat' with_reducible first|intro _|refine rz ?_|refine ra ?_ ?_|omega|simp only [go_sem,f4])
   refine ⟨a+1,aS.aB rfl ?_ ?_,by omega,by omega⟩<;>simp only [go_sem,Int.natCast_succ]
   all_goals first|omega|exact hQF.symm|exact ⟨by omega,hQF.symm⟩
  have f4:(((x+m:Nat):Int)≤(x:Int)+(bw:Int))=True:=eq_true (by omega)
  have z6:=z4 hml
  clear z4 z5
  by_cases hc:m<bw∧qp p x y w false a m=true
  ·obtain ⟨hc1,hc2⟩:=hc
   have f5:(((x+m:Nat):Int)<(x:Int)+(bw:Int))=True:=eq_true (by omega)
   have kA:=mJ w h (by omega) (by omega) p hcp ((x+m:Nat):Int) ((y+a:Nat):Int)
   rw [qH _ (by omega) (by omega),his a m hal hc1,hc2] at kA
   (repeat' with_reducible first|intro _|refine rz ?_|refine ra ?_ ?_|omega|simp only [go_sem,f4,f5])
   refine aj.k kA ?_
   (repeat' with_reducible first|intro _|refine rz ?_|refine ra ?_ ?_|omega|simp only [go_sem,f4,f5])
   refine ⟨(m+1,n+1,qm),aS.aB rfl ?_ ?_,⟨by dsimp only;omega,by dsimp only;omega,z3,fun _=>?_,fun hf=>absurd hf (by dsimp only;omega)⟩,by dsimp only;omega⟩
   rotate_right
   ·dsimp only
    rw [show bw - m=(bw - (m+1))+1 by omega] at z6
    unfold mV at z6
    rwa [if_pos hc2] at z6
   all_goals simp only [go_sem,Int.natCast_succ]
   omega
  have hnx:nU (dO x y w false) qm (pG ((bw+1) / 2) a (m - n) m n)=(if m<bw then nU (dO x y w false) qm (pG ((bw+1) / 2) a (m - n) m n) else QF)∧(m<bw→nU (dO x y w false) (nU (dO x y w false) qm (pG ((bw+1) / 2) a (m - n) m n)) (mV (qp p x y w false a) ((bw+1) / 2) a (bw - (m+1)) (m+1) 0)=QF):=by
   by_cases hm:m<bw
   ·have hf:¬qp p x y w false a m=true:=fun hf=>hc ⟨hm,hf⟩
    rw [if_pos hm]
    refine ⟨rfl,fun _=>?_⟩
    rw [show bw - m=(bw - (m+1))+1 by omega] at z6
    unfold mV at z6
    rw [if_neg hf,zM] at z6
    exact z6
   ·rw [if_neg hm]
    refine ⟨?_,fun hf=>absurd hf hm⟩
    rw [show bw - m=0 by omega] at z6
    unfold mV at z6
    exact z6
  have hql2:=nN (dO x y w false) (pG ((bw+1) / 2) a (m - n) m n) qm
  have hcall:(m<bw∧aU Tryd.prog 42 [.agg [.int .i64 w,.int .i64 h,.ro (.bools p)],.int .i64 (x+m:Nat),.int .i64 (y+a:Nat)] (.bool false) [])∨¬m<bw:=by
   by_cases hm:m<bw
   ·have hf:qp p x y w false a m=false:=by simpa using fun hf=>hc ⟨hm,hf⟩
    have kA:=mJ w h (by omega) (by omega) p hcp ((x+m:Nat):Int) ((y+a:Nat):Int)
    rw [qH _ (by omega) (by omega),his a m hal hm,hf] at kA
    exact .inl ⟨hm,kA⟩
   ·exact .inr hm
  have go:∀ Q2:List Bool,nU (dO x y w false) qm (pG ((bw+1) / 2) a (m - n) m n)=Q2→(Q2.length=p.length∧(m+1≤bw→nU (dO x y w false) Q2 (mV (qp p x y w false a) ((bw+1) / 2) a (bw - (m+1)) (m+1) 0)=QF)∧(bw<m+1→Q2=QF)):=fun Q2 e=>by
   rw [e] at hnx hql2
   refine ⟨by omega,fun hf=>hnx.2 (by omega),fun hf=>?_⟩
   have:=hnx.1
   rwa [if_neg (by omega)] at this
  by_cases hn:(bw+1) / 2≤n
  case neg=>
   have f6:((((bw+1) / 2:Nat):Int)≤(n:Int))=False:=eq_false (by omega)
   have e0:nU (dO x y w false) qm (pG ((bw+1) / 2) a (m - n) m n)=qm:=by
    unfold pG;rw [if_neg hn];rfl
   obtain ⟨g1,g2,g3⟩:=go _ e0
   rcases hcall with ⟨hm,kA⟩|hm
   ·have f5:(((x+m:Nat):Int)<(x:Int)+(bw:Int))=True:=eq_true (by omega)
    (repeat' with_reducible first|intro _|refine rz ?_|refine ra ?_ ?_|omega|simp only [go_sem,f4,f5,hq2,f6])
    refine aj.k kA ?_
    (repeat' with_reducible first|intro _|refine rz ?_|refine ra ?_ ?_|omega|simp only [go_sem,f4,f5,hq2,f6])
    refine ⟨(m+1,0,qm),aS.aB rfl ?_ ?_,⟨by dsimp only;omega,by dsimp only;omega,g1,g2,g3⟩,by dsimp only;omega⟩<;>simp only [go_sem,Int.natCast_succ]
    omega
   ·have f5:(((x+m:Nat):Int)<(x:Int)+(bw:Int))=False:=eq_false (by omega)
    (repeat' with_reducible first|intro _|refine rz ?_|refine ra ?_ ?_|omega|simp only [go_sem,f4,f5,hq2,f6])
    refine ⟨(m+1,0,qm),aS.aB rfl ?_ ?_,⟨by dsimp only;omega,by dsimp only;omega,g1,g2,g3⟩,by dsimp only;omega⟩<;>simp only [go_sem,Int.natCast_succ]
    omega
  have f6:((((bw+1) / 2:Nat):Int)≤(n:Int))=True:=eq_true (by omega)
  have e0:nU (dO x y w false) qm (pG ((bw+1) / 2) a (m - n) m n)=fF ((dO x y w false) a) qm (m - n) n:=by
   unfold pG;rw [if_pos hn]
   show fF ((dO x y w false) a) qm (m - n) (m - (m - n))=_
   rw [show m - (m - n)=n by omega]
  obtain ⟨g1,g2,g3⟩:=go _ e0
  have hsub:(((x+m:Nat):Int) - (n:Int))=((x+(m - n)+0:Nat):Int):=by omega
  have hidx:∀ j,j<n→((y+a:Nat):Int)*(w:Int)+((x+(m - n)+j:Nat):Int)=((dO x y w false a (m - n+j):Nat):Int):=fun j hj=>by
   unfold dO
   dsimp only
   rw [up_mul,up_add]
   apply congrArg
   omega
  rcases hcall with ⟨hm,kA⟩|hm
  ·have f5:(((x+m:Nat):Int)<(x:Int)+(bw:Int))=True:=eq_true (by omega)
   (repeat' with_reducible first|intro _|refine rz ?_|refine ra ?_ ?_|omega|simp only [go_sem,f4,f5,hq2,f6,hsub])
   refine aj.k kA ?_
   (repeat' with_reducible first|intro _|refine rz ?_|refine ra ?_ ?_|omega|simp only [go_sem,f4,f5,hq2,f6,hsub])
   refine aJ.intro (fun j:Nat=>⟨121,[(2,.ptr 0 0),(4,.ptr 1 0),(5,.ptr 3 0),(7,.ptr 4 0),(8,.ptr 5 0),(9,.ptr 6 0),(22,.ro (rls L)),(23,.int .i64 L.length),(24,.int .i64 i),(10,.int .i64 (y+a:Nat)),(11,.int .i64 n),(12,.int .i64 (x+m:Nat)),(13,.int .i64 (x+(m - n)+j:Nat))],[(0,.box 24 [.int .i64 w,.int .i64 h,.ro (.bools p)]),(1,.box 24 [.int .i64 0,.int .i64 0,.nilS]),(2,.row 4 (.bools (fF ((dO x y w false) a) qm (m - n) j))),(3,.box 24 [.int .i64 w,.int .i64 h,.own 2]),(4,.box 35 [.int .i64 x,.int .i64 y,.int .i64 bw,.int .i64 bh,.bool false]),(5,.box 24 [.int .i64 w,.int .i64 h,.ro (.bools p)]),(6,.box 33 [.int .i64 x,.int .i64 y,.int .i64 bw,.int .i64 bh])],7⟩) (fun j=>j≤n) (fun j=>n - j) 0 ?_ (Nat.zero_le _) fun j hj=>?_
   ·refine aS.aB rfl ?_ ?_<;>simp only [go_sem,Int.natCast_succ,fF]
    all_goals trace_state
   by_cases hjn:j<n
   case neg=>
    have e:j=n:=by omega
    subst e
    have f7:(((x+(m - j)+j:Nat):Int)<((x+m:Nat):Int))=False:=eq_false (by omega)
    (repeat' with_reducible first|intro _|refine rz ?_|refine ra ?_ ?_|omega|simp only [go_sem,f7])
    refine ⟨(m+1,0,fF ((dO x y w false) a) qm (m - j) j),aS.aB rfl ?_ ?_,⟨by dsimp only;omega,by dsimp only;omega,g1,g2,g3⟩,by dsimp only;omega⟩<;>simp only [go_sem,Int.natCast_succ]
    omega
   have f7:(((x+(m - n)+j:Nat):Int)<((x+m:Nat):Int))=True:=eq_true (by omega)
   have hm1:((y+a:Nat):Int)*(w:Int)=(((y+a)*w:Nat):Int):=up_mul _ _
   have hm2:=hidx j hjn
   rw [hm1] at hm2
   have hat1:=hat a (m - n+j) hal (by omega)
   have hcl:=jW ((dO x y w false) a) qm (m - n) j
   have hcs:fF ((dO x y w false) a) qm (m - n) (j+1)=(fF ((dO x y w false) a) qm (m - n) j).set (dO x y w false a (m - n+j)) false:=rfl
   generalize dO x y w false a (m - n+j)=at' at *
   generalize fF ((dO x y w false) a) qm (m - n) j=q2 at *
   (repeat' with_reducible first|intro _|refine rz ?_|refine ra ?_ ?_|omega|simp only [go_sem,f7,hm1,hm2,Int.toNat_natCast])
   refine ⟨j+1,aS.aB rfl ?_ ?_,by omega,by omega⟩<;>simp only [go_sem,Int.natCast_succ,hcs]
   omega
  ·have f5:(((x+m:Nat):Int)<(x:Int)+(bw:Int))=False:=eq_false (by omega)
   (repeat' with_reducible first|intro _|refine rz ?_|refine ra ?_ ?_|omega|simp only [go_sem,f4,f5,hq2,f6,hsub])
   refine aJ.intro (fun j:Nat=>⟨121,[(2,.ptr 0 0),(4,.ptr 1 0),(5,.ptr 3 0),(7,.ptr 4 0),(8,.ptr 5 0),(9,.ptr 6 0),(22,.ro (rls L)),(23,.int .i64 L.length),(24,.int .i64 i),(10,.int .i64 (y+a:Nat)),(11,.int .i64 n),(12,.int .i64 (x+m:Nat)),(13,.int .i64 (x+(m - n)+j:Nat))],[(0,.box 24 [.int .i64 w,.int .i64 h,.ro (.bools p)]),(1,.box 24 [.int .i64 0,.int .i64 0,.nilS]),(2,.row 4 (.bools (fF ((dO x y w false) a) qm (m - n) j))),(3,.box 24 [.int .i64 w,.int .i64 h,.own 2]),(4,.box 35 [.int .i64 x,.int .i64 y,.int .i64 bw,.int .i64 bh,.bool false]),(5,.box 24 [.int .i64 w,.int .i64 h,.ro (.bools p)]),(6,.box 33 [.int .i64 x,.int .i64 y,.int .i64 bw,.int .i64 bh])],7⟩) (fun j=>j≤n) (fun j=>n - j) 0 ?_ (Nat.zero_le _) fun j hj=>?_
   ·refine aS.aB rfl ?_ ?_<;>simp only [go_sem,Int.natCast_succ,fF]
    all_goals trace_state
   by_cases hjn:j<n
   case neg=>
    have e:j=n:=by omega
    subst e
    have f7:(((x+(m - j)+j:Nat):Int)<((x+m:Nat):Int))=False:=eq_false (by omega)
    (repeat' with_reducible first|intro _|refine rz ?_|refine ra ?_ ?_|omega|simp only [go_sem,f7])
    refine ⟨(m+1,0,fF ((dO x y w false) a) qm (m - j) j),aS.aB rfl ?_ ?_,⟨by dsimp only;omega,by dsimp only;omega,g1,g2,g3⟩,by dsimp only;omega⟩<;>simp only [go_sem,Int.natCast_succ]
    omega
   have f7:(((x+(m - n)+j:Nat):Int)<((x+m:Nat):Int))=True:=eq_true (by omega)
   have hm1:((y+a:Nat):Int)*(w:Int)=(((y+a)*w:Nat):Int):=up_mul _ _
   have hm2:=hidx j hjn
   rw [hm1] at hm2
   have hat1:=hat a (m - n+j) hal (by omega)
   have hcl:=jW ((dO x y w false) a) qm (m - n) j
   have hcs:fF ((dO x y w false) a) qm (m - n) (j+1)=(fF ((dO x y w false) a) qm (m - n) j).set (dO x y w false a (m - n+j)) false:=rfl
   generalize dO x y w false a (m - n+j)=at' at *
   generalize fF ((dO x y w false) a) qm (m - n) j=q2 at *
   (repeat' with_reducible first|intro _|refine rz ?_|refine ra ?_ ?_|omega|simp only [go_sem,f7,hm1,hm2,Int.toNat_natCast])
   refine ⟨j+1,aS.aB rfl ?_ ?_,by omega,by omega⟩<;>simp only [go_sem,Int.natCast_succ,hcs]
   omega
end Go.Fv.L
/- Lists of rails: Equal, Clone. -/
namespace Go.Fv.L
open Go Go.Proofs
set_option maxHeartbeats 2000000 in
theorem Kr (a:List Pl):aU Tryd.prog 7 [.ro (rls a),.ro (rls a)] (.bool true) []:=by
 refine aU.aY Tryd.func7 rfl (by decide) (by simp [Tryd.f7]) [.tmp 4] rfl fun w0 T0 _=>?_
 simp only [Tryd.f7,aK]
 (repeat' with_reducible first|intro _|refine rz ?_|refine ra ?_ ?_|omega|simp only [go_sem,List.length_map])
 refine aJ.intro (fun i:Nat=>⟨26,[(0,.ro (rls a)),(1,.ro (rls a)),(12,.int .i64 a.length),(13,.int .i64 i)],[],0⟩) (fun i=>i≤a.length) (fun i=>a.length - i) 0 ?_ (Nat.zero_le _) fun i hi=>?_
 ·refine aS.aB rfl ?_ ?_<;>simp only [go_sem,Int.natCast_succ]
 by_cases hlt:i<a.length
 ·have he:=rl_elem a hlt
  have f1:((i:Int)<(a.length:Int))=True:=eq_true (by omega)
  generalize a.getD i Pl.zero=x at *
  (repeat' with_reducible first|intro _|refine rz ?_|refine ra ?_ ?_|omega|simp only [go_sem,List.length_map,f1])
  refine aP.lex [] [] (by kernel_rfl) (by kernel_rfl) ?_
  (repeat' with_reducible first|intro _|refine rz ?_|refine ra ?_ ?_|omega|simp only [go_sem,aN,he,List.length_map])
  refine ⟨i+1,aS.aB rfl ?_ ?_,by omega,by omega⟩<;>simp only [go_sem,Int.natCast_succ]
 ·have f1:((i:Int)<(a.length:Int))=False:=eq_false (by omega)
  (repeat' with_reducible first|intro _|refine rz ?_|refine ra ?_ ?_|omega|simp only [go_sem,List.length_map,f1])
  refine eP.auto 0 ?_ rfl ?_<;>simp only [go_sem,Int.natCast_succ,Post]
theorem J6 (l:List Pl) (hl:l.length≤1000):aU Tryd.prog 9 [.ro (rls l)] (.own 0) [(0,.row 35 (rls l))]:=by
 refine aU.aY Tryd.func9 rfl (by decide) (by simp [Tryd.f9]) [.tmp 2] rfl fun w0 T0 _=>?_
 simp only [Tryd.f9,aK]
 (repeat' with_reducible first|intro _|refine rz ?_|refine ra ?_ ?_|omega|simp only [go_sem,List.length_map])
 ·rename_i h
  have:l=[]:=List.eq_nil_of_length_eq_zero (by omega)
  refine eP.auto 1 ?_ rfl ?_<;>simp only [go_sem,Int.natCast_succ,Post,this,List.map_nil]
 ·refine eP.auto 1 ?_ rfl ?_<;>simp only [go_sem,Int.natCast_succ,Post,List.map_nil]
set_option maxHeartbeats 1000000 in
theorem CP (a b:List Bool):aU Tryd.prog 54 [.ro (.bools a),.ro (.bools b)] (.bool (decide (a=b))) []:=by
 refine aU.aY Tryd.func54 rfl (by decide) (by simp [Tryd.f54]) [.tmp 4] rfl fun w0 T0 _=>?_
 simp only [Tryd.f54,aK]
 simp only [go_sem]
 refine qA.intro fun _=>qA.intro fun _=>Ite.decide (fun h=>?_) fun h=>?_
 ·simp only [go_sem]
  refine eP.auto 0 ?_ rfl (by simp [bU])
  have:a≠b:=by intro e;subst e;exact h rfl
  simp only [go_sem,Int.natCast_succ,Post,this,decide_false,decide_true]
 have hl:a.length=b.length:=by omega
 simp only [go_sem]
 refine qA.intro fun _=>aJ.intro (fun i:Nat=>⟨26,[(0,.ro (.bools a)),(1,.ro (.bools b)),(12,.int .i64 a.length),(13,.int .i64 i)],[],0⟩) (fun i=>i≤a.length∧∀ j,j<i→a.getD j false=b.getD j false) (fun i=>a.length - i) 0 ?_ ⟨by omega,fun j hj=>by omega⟩ fun i hi=>?_
 ·refine aS.aB rfl ?_ ?_<;>simp only [go_sem,Int.natCast_succ]
 simp only [go_sem]
 refine Ite.decide (fun h1=>?_) (fun h1=>?_)
 ·simp only [go_sem]
  refine aP.lex [] [] (by kernel_rfl) (by kernel_rfl) ?_
  simp only [go_sem]
  (repeat' first|(with_reducible refine qA.intro fun _=>?_)|((with_reducible refine aZ.intro ?_ ?_);(· first|omega|(with_reducible refine aZ.intro ?_ ?_<;>omega)|(simp;done)|(simp;omega)))|((with_reducible refine dh.i64 ?_ ?_ ?_);(· omega);(· omega))|((with_reducible refine Ite.decide (fun _=>?_) (fun _=>?_))<;>first|(exfalso;omega)|simp only [go_sem])|((with_reducible refine Ite.bool (fun _=>?_) (fun _=>?_))<;>simp only [go_sem])|(with_reducible refine And.intro ?_ ?_))
  ·rename_i h2
   refine eP.auto 0 ?_ rfl (by simp [bU])
   have:a≠b:=by intro e;subst e;exact h2 rfl
   simp only [go_sem,Int.natCast_succ,Post,this]
  ·rename_i h2
   refine ⟨i+1,aS.aB rfl ?_ ?_,⟨by omega,fun j hj=>?_⟩,by omega⟩
   ·simp only [go_sem,Int.natCast_succ]
    all_goals omega
   ·simp only [go_sem,Int.natCast_succ]
   ·by_cases e:j=i
    ·subst e;exact Decidable.of_not_not h2
    ·exact hi.2 j (by omega)
 ·simp only [go_sem]
  refine eP.auto 0 ?_ rfl (by simp [bU])
  have:a=b:=Kq false hl fun j hj=>hi.2 j (by omega)
  simp only [go_sem,Int.natCast_succ,Post,this,decide_false,decide_true]
set_option maxHeartbeats 1000000 in
theorem Jg (w h w' h':Int) (p p':List Bool):aU Tryd.prog 41 [.agg [.int .i64 w,.int .i64 h,.ro (.bools p)],.agg [.int .i64 w',.int .i64 h',.ro (.bools p')]] (.bool (decide (w=w'∧h=h'∧p=p'))) []:=by
 refine aU.aY Tryd.func41 rfl (by decide) (by simp [Tryd.f41]) [.tmp 4] rfl fun w0 T0 _=>?_
 simp only [Tryd.f41,aK]
 simp only [go_sem]
 (repeat' first|(with_reducible refine qA.intro fun _=>?_)|((with_reducible refine aZ.intro ?_ ?_);(· first|omega|(with_reducible refine aZ.intro ?_ ?_<;>omega)|(simp;done)|(simp;omega)))|((with_reducible refine dh.i64 ?_ ?_ ?_);(· omega);(· omega))|((with_reducible refine Ite.decide (fun _=>?_) (fun _=>?_))<;>first|(exfalso;omega)|simp only [go_sem])|((with_reducible refine Ite.bool (fun _=>?_) (fun _=>?_))<;>simp only [go_sem])|(with_reducible refine And.intro ?_ ?_))
 ·refine aj.fr (args':=[.ro (.bools p),.ro (.bools p')]) (dW.dP (CP p p') rfl rfl) (by simp [aV,bf,aH]) 0 rfl (by simp [bn]) ?_
  try simp only [go_sem]
  (repeat' first|(with_reducible refine qA.intro fun _=>?_)|((with_reducible refine aZ.intro ?_ ?_);(· first|omega|(with_reducible refine aZ.intro ?_ ?_<;>omega)|(simp;done)|(simp;omega)))|((with_reducible refine dh.i64 ?_ ?_ ?_);(· omega);(· omega))|((with_reducible refine Ite.decide (fun _=>?_) (fun _=>?_))<;>first|(exfalso;omega)|simp only [go_sem])|((with_reducible refine Ite.bool (fun _=>?_) (fun _=>?_))<;>simp only [go_sem])|(with_reducible refine And.intro ?_ ?_))
  rename_i h1
  refine eP.auto 0 ?_ rfl ?_<;>simp only [go_sem,Int.natCast_succ,Post]
  simp [h1.1,h1.2]
 ·rename_i h1
  refine eP.auto 0 ?_ rfl ?_<;>simp only [go_sem,Int.natCast_succ,Post]
  exact (decide_eq_false fun x=>h1 ⟨x.1,x.2.1⟩).symm
set_option maxHeartbeats 1000000 in
theorem Oe (w h:Int) (p:List Bool) (e w' h':Int) (p':List Bool) (f:Int) (hf:f≠0):aU Tryd.prog 14 [.agg [.int .i64 w,.int .i64 h,.ro (.bools p)],.int .i64 e,.agg [.int .i64 w',.int .i64 h',.ro (.bools p')],.int .i64 f] (.bool (decide (((e=f∧w=0)∧h=0)∧(p.length:Int)=0))) []:=by
 refine aU.aY Tryd.func14 rfl (by decide) (by simp [Tryd.f14]) [.tmp 8] rfl fun w0 T0 _=>?_
 simp only [Tryd.f14,aK]
 simp only [go_sem]
 (repeat' first|(with_reducible refine qA.intro fun _=>?_)|((with_reducible refine aZ.intro ?_ ?_);(· first|omega|(with_reducible refine aZ.intro ?_ ?_<;>omega)|(simp;done)|(simp;omega)))|((with_reducible refine dh.i64 ?_ ?_ ?_);(· omega);(· omega))|((with_reducible refine Ite.decide (fun _=>?_) (fun _=>?_))<;>first|(exfalso;omega)|simp only [go_sem])|((with_reducible refine Ite.bool (fun _=>?_) (fun _=>?_))<;>simp only [go_sem])|(with_reducible refine And.intro ?_ ?_))
 refine eP.auto 0 ?_ rfl ?_<;>simp only [go_sem,Int.natCast_succ,Post]
set_option maxHeartbeats 1000000 in
theorem PV (w h:Int) (p:List Bool) (e w' h':Int) (p':List Bool):aU Tryd.prog 14 [.agg [.int .i64 w,.int .i64 h,.ro (.bools p)],.int .i64 e,.agg [.int .i64 w',.int .i64 h',.ro (.bools p')],.int .i64 0] (.bool (decide (e=0∧w=w'∧h=h'∧p=p'))) []:=by
 refine aU.aY Tryd.func14 rfl (by decide) (by simp [Tryd.f14]) [.tmp 8] rfl fun w0 T0 _=>?_
 simp only [Tryd.f14,aK]
 simp only [go_sem]
 (repeat' first|(with_reducible refine qA.intro fun _=>?_)|((with_reducible refine aZ.intro ?_ ?_);(· first|omega|(with_reducible refine aZ.intro ?_ ?_<;>omega)|(simp;done)|(simp;omega)))|((with_reducible refine dh.i64 ?_ ?_ ?_);(· omega);(· omega))|((with_reducible refine Ite.decide (fun _=>?_) (fun _=>?_))<;>first|(exfalso;omega)|simp only [go_sem])|((with_reducible refine Ite.bool (fun _=>?_) (fun _=>?_))<;>simp only [go_sem])|(with_reducible refine And.intro ?_ ?_))
 ·rename_i h1
  refine aj.fr (args':=[.agg [.int .i64 w,.int .i64 h,.ro (.bools p)],.agg [.int .i64 w',.int .i64 h',.ro (.bools p')]]) (dW.dP (Jg w h w' h' p p') rfl rfl) (by simp [aV,bf,aH]) 0 rfl (by simp [bn]) ?_
  simp only [go_sem]
  (repeat' first|(with_reducible refine qA.intro fun _=>?_)|((with_reducible refine aZ.intro ?_ ?_);(· first|omega|(with_reducible refine aZ.intro ?_ ?_<;>omega)|(simp;done)|(simp;omega)))|((with_reducible refine dh.i64 ?_ ?_ ?_);(· omega);(· omega))|((with_reducible refine Ite.decide (fun _=>?_) (fun _=>?_))<;>first|(exfalso;omega)|simp only [go_sem])|((with_reducible refine Ite.bool (fun _=>?_) (fun _=>?_))<;>simp only [go_sem])|(with_reducible refine And.intro ?_ ?_))
  refine eP.auto 0 ?_ rfl ?_<;>simp only [go_sem,Int.natCast_succ,Post]
  simp [h1]
 ·rename_i h1
  refine eP.auto 0 ?_ rfl ?_<;>simp only [go_sem,Int.natCast_succ,Post]
  exact (decide_eq_false fun x=>h1 x.1).symm
theorem J9 {tab:List Bool} {n:Nat} (h:n<tab.length):(tab.map AV.bool).drop n=.bool (tab.getD n false)::(tab.map AV.bool).drop (n+1):=by
 rw [List.drop_eq_getElem_cons (by simpa using h)]
 simp [List.getD,h]
set_option maxHeartbeats 1000000 in
theorem H8 (tab:List Bool) (b:Int) (hl:tab.length=256) (h0:0≤b) (h1:b<256):aU Tryd.prog 66 [.cell (tab.map .bool),.int .u8 b] (.bool (tab.getD b.toNat false)) []:=by
 refine aU.aY Tryd.func66 rfl (by decide) (by simp [Tryd.f66]) [.tmp 4] rfl fun w0 T0 _=>?_
 simp only [Tryd.f66,aK]
 have hd:=J9 (tab:=tab) (n:=b.toNat) (by omega)
 simp only [go_sem,Nat.mul_one,hd]
 (repeat' first|(with_reducible refine qA.intro fun _=>?_)|((with_reducible refine aZ.intro ?_ ?_);(· first|omega|(with_reducible refine aZ.intro ?_ ?_<;>omega)|(simp;done)|(simp;omega)))|((with_reducible refine dh.i64 ?_ ?_ ?_);(· omega);(· omega))|((with_reducible refine Ite.decide (fun _=>?_) (fun _=>?_))<;>first|(exfalso;omega)|simp only [go_sem])|((with_reducible refine Ite.bool (fun _=>?_) (fun _=>?_))<;>simp only [go_sem])|(with_reducible refine And.intro ?_ ?_))
 refine eP.auto 0 ?_ rfl ?_<;>simp only [go_sem,Int.natCast_succ,Post]
theorem z107:zeroOf Tryd.prog 107=some (.agg (Array.replicate 256 (.bool false))):=by kernel_rfl
theorem c107:Tryd.prog.cellsOf 107=256:=by kernel_rfl
attribute [go_sem] z107 c107
def eY (s:List UInt8):Nat→List Bool
 | 0=>List.replicate 256 false
 | i+1=>(eY s i).set (s.getD i 0).toNat true
theorem mZ (s:List UInt8):∀ i,(eY s i).length=256
 | 0=>by simp [eY]
 | i+1=>by simp [eY,mZ s i]
set_option maxHeartbeats 1000000 in
theorem FD (s:List UInt8) (hs:∀ i,i<s.length→(s.getD i 0).toNat<128):aU Tryd.prog 57 [.str s] (.tup [.agg ((eY s s.length).map .bool),.bool true]) []:=by
 refine aU.aY Tryd.func57 rfl (by decide) (by simp [Tryd.f57]) [.cell 2 107,.tmp 3] rfl fun w0 T0 _=>?_
 simp only [Tryd.f57,aK]
 simp only [go_sem]
 refine aJ.intro (fun i:Nat=>⟨21,[(0,.str s),(2,.ptr 0 0),(4,.int .i64 i)],[(0,.box 107 ((eY s i).map .bool))],1⟩) (fun i=>i≤s.length) (fun i=>s.length - i) 0 ?_ (Nat.zero_le _) fun i hi=>?_
 ·refine aS.aB rfl ?_ ?_<;>simp only [go_sem,Int.natCast_succ,eY]
 have hlen:=mZ s i
 simp only [go_sem]
 (repeat' first|(with_reducible refine qA.intro fun _=>?_)|((with_reducible refine aZ.intro ?_ ?_);(· first|omega|(with_reducible refine aZ.intro ?_ ?_<;>omega)|(simp;done)|(simp;omega)))|((with_reducible refine dh.i64 ?_ ?_ ?_);(· omega);(· omega))|((with_reducible refine Ite.decide (fun _=>?_) (fun _=>?_))<;>first|(exfalso;omega)|simp only [go_sem])|((with_reducible refine Ite.bool (fun _=>?_) (fun _=>?_))<;>simp only [go_sem])|(with_reducible refine And.intro ?_ ?_))
 ·have:=hs i (by omega)
  omega
 ·refine ⟨i+1,aS.aB rfl ?_ ?_,by omega,by omega⟩
  ·simp only [go_sem,Int.natCast_succ]
  ·simp only [go_sem,Int.natCast_succ,eY]
 ·have e:i=s.length:=by omega
  subst e
  have e2:((eY s s.length).map AV.bool).take 256=(eY s s.length).map AV.bool:=List.take_of_length_le (by simp [hlen])
  have e3:spl ((eY s s.length).map AV.bool) 0 ((eY s s.length).map AV.bool)=(eY s s.length).map AV.bool:=NI rfl
  refine eP.auto 0 ?_ ?_ ?_<;>simp only [go_sem,Int.natCast_succ,Post,e2,e3]
  simp only [go_sem,e2,hlen,List.length_map]
def cutset:List UInt8:=[97,98,99,100,101,102,103,104,105,106,107,108,109,110,111,112,113,114,115,116,117,118,119,120,121,122,48,49,50,51,52,53,54,55,56,57,45]
theorem cut_small:∀ i,i<cutset.length→(cutset.getD i 0).toNat<128:=by decide
end Go.Fv.L
