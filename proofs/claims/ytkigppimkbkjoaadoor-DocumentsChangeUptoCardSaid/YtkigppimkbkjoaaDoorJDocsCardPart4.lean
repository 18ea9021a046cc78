/-
  A part of the proof of the claim: walks over the program's functions and the plain laws that these need. No condition of its own.
-/
import Derived.Test.YtkigppimkbkjoaaDoorJDocsCardPart3
set_option linter.unusedSimpArgs false
set_option linter.unusedVariables false
set_option linter.unnecessarySimpa false
set_option maxRecDepth 8000
/- The law DocumentsChange. -/
namespace Go.Fv.J
open Go Go.Proofs
def Nv (l:List Dc) (f p t a:Int):Int × List Dc:=if Ae l f p t then (uD l f.toNat p.toNat t.toNat a,if uD l f.toNat p.toNat t.toNat a=0 then mv3 l f.toNat p.toNat t.toNat a.toNat else []) else (10,[])
def KD (l:List Dc) (f p t a:Int):Int × List Dc:=if aT l=0 then Nv l f p t a else (aT l,[])
theorem KC (l:List Dc) (f p t a:Int) (hl:l.length≤8) (hpg:∀ d,d∈l→d.pages.length≤2000000) :
  aN Tryd.prog 7 [.ro (jD l),.int .i64 f,.int .i64 p,.int .i64 t,.int .i64 a] (.tup [.own 0,.int .i64 (KD l f p t a).1]) [(0,.row 27 (jD (KD l f p t a).2))]:=by
 unfold KD
 by_cases h:aT l=0
 ·rw [if_pos h]
  unfold Nv
  by_cases hv:Ae l f p t
  ·rw [if_pos hv]
   obtain ⟨h1,h2,h3,h4,h5,h6⟩:=hv
   have k:=KA l f.toNat p.toNat t.toNat a h (by omega) (by omega) (by omega) hl hpg
   rw [Int.toNat_of_nonneg h1,Int.toNat_of_nonneg h3,Int.toNat_of_nonneg h5] at k
   exact k
  ·rw [if_neg hv]
   exact GR l f p t a h hv
 ·rw [if_neg h]
  exact I9 l f p t a h
theorem GN (l:List Dc) (f p t a:Int) (h:aT l=0) (hl:l.length≤8) (hpg:∀ d,d∈l→d.pages.length≤2000000) :
  aN Tryd.prog 8 [.ro (jD l),.int .i64 f,.int .i64 p,.int .i64 t,.int .i64 a] (.tup [.own 0,.int .i64 (KD l f p t a).1]) [(0,.row 27 (jD (KD l f p t a).2))]:=by
 unfold KD
 rw [if_pos h]
 unfold Nv
 by_cases hv:Ae l f p t
 ·rw [if_pos hv]
  obtain ⟨h1,h2,h3,h4,h5,h6⟩:=hv
  have k:=GL l f.toNat p.toNat t.toNat a (by omega) (by omega) (by omega) hl hpg
  rw [Int.toNat_of_nonneg h1,Int.toNat_of_nonneg h3,Int.toNat_of_nonneg h5,Kr l _ _ _ _ (by omega) (by omega) h] at k
  exact k
 ·rw [if_neg hv]
  exact Df l f p t a hv
theorem aN.weak {P:Program} {f:Nat} {args:List AV} {out out':AV} {rows:List (Nat × Item)} (k:aN P f args out rows) (h:gG rows out out'):aN P f args out' []:=
 ⟨k.1,fun w T vals hg hv=>Calls.mono (k.2 w T vals hg hv) fun e w' ⟨v,he,hb,ho⟩=>⟨v,he,hb,ho.ro h⟩⟩
def Kw (a b:Dc):Dc:=if fV a b=0 then mergeD a b else Dc.zero
theorem CW (a b:Dc) (hA:a.pages.length≤2000000) (hB:b.pages.length≤2000000):aN Tryd.prog 10 [.agg a.av,.agg b.av] (.tup [.agg (Kw a b).av,.int .i64 (fV a b)]) []:=by
 unfold Kw
 by_cases h:fV a b=0
 ·rw [if_pos h,h];exact GI a b h hA hB
 ·rw [if_neg h]
  refine aN.weak (IZ a b h) ?_
  simp [gG,aW,aZ,aB,Dc.av,Dc.zero,nilRow]
def ct1 (d:Dc) (n:Int):Dc:=if mY d n=0 then ⟨d.kind,d.pages.take n.toNat⟩ else Dc.zero
def Lj (d:Dc) (n:Int):Dc:=if mY d n=0 then ⟨[],d.pages.drop n.toNat⟩ else Dc.zero
theorem sJ {d:Dc} {n:Int} (h:mY d n=0):aI d=0∧1≤n∧n<d.pages.length:=by
 unfold mY at h
 split at h
 ·rename_i h1;exact absurd h h1
 ·rename_i h1
  split at h
  ·cases h
  ·exact ⟨by omega,by omega,by omega⟩
theorem Lm (d:Dc) (n:Int) (hP:d.pages.length≤2000000):aN Tryd.prog 17 [.agg d.av,.int .i64 n] (.tup [.agg (ct1 d n).av,.agg (Lj d n).av,.int .i64 (mY d n)]) []:=by
 unfold ct1 Lj
 by_cases h:mY d n=0
 ·rw [if_pos h,if_pos h,h]
  obtain ⟨h1,h2,h3⟩:=sJ h
  have k:=JW d n.toNat h1 (by omega) (by omega) hP
  rw [Int.toNat_of_nonneg (by omega)] at k
  exact k
 ·rw [if_neg h,if_neg h]
  refine aN.weak (Ll d n h) ?_
  simp [gG,aW,aZ,aB,Dc.av,Dc.zero,nilRow]
theorem Ig {d:Dc} {n:Int} (h:mY d n=0):fV ⟨d.kind,d.pages.take n.toNat⟩ ⟨[],d.pages.drop n.toNat⟩=0∧Kw ⟨d.kind,d.pages.take n.toNat⟩ ⟨[],d.pages.drop n.toNat⟩=d:=by
 obtain ⟨h1,h2,h3⟩:=sJ h
 have e:fV ⟨d.kind,d.pages.take n.toNat⟩ ⟨[],d.pages.drop n.toNat⟩=0:=by
  unfold fV
  rw [BK h1 (by omega),BJ h1 (by omega)]
  have hb:jY ⟨d.kind,d.pages.take n.toNat⟩ ⟨[],d.pages.drop n.toNat⟩=false:=by
   unfold jY
   rw [List.any_eq_false]
   intro x hx
   simpa using Dk h1 n.toNat x hx
  rw [hb]
  rfl
 refine ⟨e,?_⟩
 unfold Kw mergeD
 rw [if_pos e]
 dsimp only
 rw [List.take_append_drop]
 obtain ⟨k,P⟩:=d
 congr 1
 split
 ·rename_i h;exact h.symm
 ·rfl
theorem zM (l:List Dc) {i:Nat} (h:i<l.length):aT (l.take (i+1))=aA [aT (l.take i),aI (l.getD i Dc.zero)]:=by
 unfold aT
 rw [List.take_succ_eq_append_getElem h,List.map_append,qL,qM,getD_lt h]
 split
 ·simp only [List.map_cons,List.map_nil,aA];split<;>simp_all
 ·rfl
set_option maxHeartbeats 8000000 in
theorem qh (l0:List Dc) (f p t a:Int) (hpg0:∀ d,d∈l0→d.pages.length≤2000000) :
  aN Tryd.prog 3 [.ro (jD l0),.int .i64 f,.int .i64 p,.int .i64 t,.int .i64 a] (.bool true) []:=by
 have hm:min (l0.length:Int) 8=((min l0.length 8:Nat):Int):=by omega
 have hcut:(l0.map Dc.av).take (min l0.length 8)=(l0.take (min l0.length 8)).map Dc.av:=List.map_take.symm
 have hcl:min l0.length 8≤l0.length:=Nat.min_le_left _ _
 have hl:(l0.take (min l0.length 8)).length≤8:=by rw [List.length_take];omega
 have hpg:∀ d,d∈l0.take (min l0.length 8)→d.pages.length≤2000000:=fun d hd=>hpg0 d (List.mem_of_mem_take hd)
 generalize hL:l0.take (min l0.length 8)=l at *
 generalize min l0.length 8=c8 at *
 refine aN.of_run Tryd.func3 rfl (by decide) (by simp [Tryd.f3]) [.tmp 10] rfl fun w0 T0 _=>?_
 simp only [Tryd.f3,aH]
 refine aG.fJ ?_
 (repeat' with_reducible first|intro _|exact dn|refine rn ?_|refine ra ?_ ?_)
 refine aX.of (aG.fJ ?_)
 (repeat' with_reducible first|intro _|exact dn|refine rn ?_|refine ra ?_ ?_)
 refine ak.k Gv ?_
 (repeat' with_reducible first|intro _|exact dn|refine rn ?_|refine ra ?_ ?_)
 refine aX.of (aG.fJ ?_)
 (repeat' with_reducible first|intro _|refine rz ?_|refine ra ?_ ?_|omega|simp only [go_sem,List.length_map,hm,Nat.sub_zero,hcut])
 have h02:jD l=jD l:=rfl
 refine aX.of (aG.fJ ?_)
 (repeat' with_reducible first|intro _|exact dn|refine rn ?_|refine ra ?_ ?_)
 refine aX.of (aG.fJ ?_)
 (repeat' with_reducible first|intro _|refine rz ?_|refine ra ?_ ?_|omega|simp only [go_sem,List.length_map])
 refine bY.intro (fun i:Nat=>⟨231,[(36,.ro (jD l)),(37,.int .i64 l.length),(38,.int .i64 i),(11,.int .i64 (aT (l.take i))),(0,.ro (jD l)),(1,.int .i64 f),(2,.int .i64 p),(3,.int .i64 t),(4,.int .i64 a)],[],0⟩) (fun i=>i≤l.length) (fun i=>l.length - i) 0 ?_ (Nat.zero_le _) fun i hi=>?_
 ·refine bJ.bG rfl ?_ ?_<;>simp only [go_sem,Int.natCast_succ]
  all_goals rfl
 by_cases hlt:i<l.length
 ·have he:=dH l hlt
  have ke:=ni (l.getD i Dc.zero)
  have hst:=zM l hlt
  have kf:=kU [aT (l.take i),aI (l.getD i Dc.zero)] (by simp)
  rw [←hst] at kf
  unfold Dc.av at ke
  generalize aI (l.getD i Dc.zero)=q at *
  generalize aT (l.take i)=r at *
  generalize hr2:aT (l.take (i+1))=r2 at *
  (repeat' with_reducible first|intro _|refine rz ?_|refine ra ?_ ?_|omega|simp only [go_sem,List.length_map,bg,he])
  refine ak.k ke ?_
  (repeat' with_reducible first|intro _|exact dn|refine rn ?_|refine ra ?_ ?_)
  refine ak.k kf ?_
  (repeat' with_reducible first|intro _|exact dn|refine rn ?_|refine ra ?_ ?_)
  refine ⟨i+1,bJ.bG rfl ?_ ?_,by omega,by omega⟩<;>simp only [go_sem,Int.natCast_succ,hr2]
 have ei:i=l.length:=by omega
 subst ei
 rw [List.take_length]
 have kM:=KC l f p t a hl hpg
 have kR:=fun h=>GN l f p t a h hl hpg
 have hR:aT l≠0→KD l f p t a=(aT l,[]):=fun h=>by unfold KD;rw [if_neg h]
 (repeat' with_reducible first|intro _|refine rz ?_|refine ra ?_ ?_|omega|simp only [go_sem,List.length_map])
 refine aX.of (aG.fJ ?_)
 (repeat' with_reducible first|intro _|exact dn|refine rn ?_|refine ra ?_ ?_)
 generalize hmv:KD l f p t a=M at *
 obtain ⟨e1,R⟩:=M
 dsimp only at *
 refine ak.MS (.tup [.ro (jD R),.int .i64 e1]) kM (by simp only [bI,aW,eF,aZ,aB,List.drop_zero,lk,reduceIte,reduceCtorEq,Nat.reduceEqDiff,Option.some.injEq,Item.row.injEq,Item.box.injEq,AV.ro.injEq,exists_eq_left,exists_and_left,exists_eq_left',exists_eq_right,and_assoc,and_true,true_and,List.cons.injEq,exists_eq',exists_eq]) (by simp [gG,aW,aZ,eF,aB,lk,bI]) rfl ?_
 (repeat' with_reducible first|intro _|exact dn|refine rn ?_|refine ra ?_ ?_)
 refine aX.of (aG.cut (fun _:Unit=>⟨231,[(0,.ro (jD l)),(4,.int .i64 a)],[],0⟩) (fun _=>True) (aG.of ?_) fun _ _=>?_)
 ·by_cases h0:aT l=0
  ·have kR:=kR h0
   have kS:=Dw R
   have g0:(aT l=0)=True:=eq_true h0
   (repeat' with_reducible first|intro _|refine rz ?_|refine ra ?_ ?_|omega|simp only [go_sem,g0])
   refine ak.MS (.tup [.ro (jD R),.int .i64 e1]) kR (by simp only [bI,aW,eF,aZ,aB,List.drop_zero,lk,reduceIte,reduceCtorEq,Nat.reduceEqDiff,Option.some.injEq,Item.row.injEq,Item.box.injEq,AV.ro.injEq,exists_eq_left,exists_and_left,exists_eq_left',exists_eq_right,and_assoc,and_true,true_and,List.cons.injEq,exists_eq',exists_eq]) (by simp [gG,aW,aZ,eF,aB,lk,bI]) rfl ?_
   (repeat' with_reducible first|intro _|exact dn|refine rn ?_|refine ra ?_ ?_)
   refine ak.k kS ?_
   (repeat' with_reducible first|intro _|exact dn|refine rn ?_|refine ra ?_ ?_)
   refine ⟨(),?_⟩
   refine bJ.bG rfl ?_ ?_<;>simp only [go_sem,Int.natCast_succ]
  ·have hE:=hR h0
   cases hE
   have g0:(aT l=0)=False:=eq_false h0
   (repeat' with_reducible first|intro _|refine rz ?_|refine ra ?_ ?_|omega|simp only [go_sem,g0])
   refine ⟨(),?_⟩
   refine bJ.bG rfl ?_ ?_<;>simp only [go_sem,Int.natCast_succ]
 clear hm hcut hcl kM kR hR hmv
 refine aG.fJ ?_
 by_cases hl2:l.length<2
 ·have g2:((l.length:Int)<2)=True:=eq_true (by omega)
  (repeat' with_reducible first|intro _|refine rz ?_|refine ra ?_ ?_|omega|simp only [go_sem,List.length_map,g2])
  refine dM.auto 0 ?_ rfl ?_<;>simp only [go_sem,Int.natCast_succ,Post]
 have g2:((l.length:Int)<2)=False:=eq_false (by omega)
 (repeat' with_reducible first|intro _|refine rz ?_|refine ra ?_ ?_|omega|simp only [go_sem,List.length_map,g2])
 have heA:=dH l (i:=0) (by omega)
 have heB:=dH l (i:=1) (by omega)
 have hpA:=hpg _ (show l.getD 0 Dc.zero∈l by rw [getD_lt (by omega)];exact List.getElem_mem _)
 have hpB:=hpg _ (show l.getD 1 Dc.zero∈l by rw [getD_lt (by omega)];exact List.getElem_mem _)
 generalize l.getD 0 Dc.zero=A at *
 generalize l.getD 1 Dc.zero=B at *
 have hn0:(0:Nat)<l.length:=by omega
 have hn1:(1:Nat)<l.length:=by omega
 have hn2:((0:Int)<l.length)=True:=eq_true (by omega)
 have hn3:((1:Int)<l.length)=True:=eq_true (by omega)
 refine aX.of (aG.fJ ?_)
 (repeat' with_reducible first|intro _|exact dn|refine rn ?_|refine ra ?_ ?_)
 refine bT.JZ (.quiet 0 (.quiet 1 (.quiet 2 (.quiet 3 (.quiet 4 (.quiet 5 (.eff 6 [5,4,3,2,1,0] (.eff 7 [5,4,3,2,1,0] (.eff 8 [5,4,3] (.eff 9 [] .done .none) .none) .none) (.eff 7 [5,4,3,2,1,0] (.eff 6 [5,4,3,2,1,0] (.eff 8 [5,4,3] (.eff 9 [] .done .none) .none) .none) .none)))))))) (by kernel_rfl) (by kernel_rfl) (by kernel_rfl)
  ⟨231,[(0,.ro (jD l)),(4,.int .i64 a),(18,.ptr 0 0),(19,.ptr 1 0)],[(0,.box 27 A.av),(1,.box 27 B.av)],2⟩ ?_ ?_
 ·unfold Dc.av
  (repeat' with_reducible first|intro _|refine rz ?_|refine ra ?_ ?_|omega|simp only [go_sem,List.length_map,bg,heA,heB,hn2,hn3])
  all_goals refine bJ.bG rfl ?_ ?_<;>simp only [go_sem,Int.natCast_succ]
 have kG:=CW A B hpA hpB
 have hG0:fV A B=0→Kw A B=mergeD A B:=fun h=>by unfold Kw;rw [if_pos h]
 have hG1:fV A B≠0→(Kw A B).pages.length=0:=fun h=>by unfold Kw;rw [if_neg h];rfl
 have kc:=fun cc=>@lM A.pages 12 [.cell B.av] cc (fun p=>decide (p∈B.pages)) fun n hn=>gJ.gU (J9 n B) rfl rfl
 have kc:=kc ⟨rfl⟩
 have hb:(A.pages.any fun p=>decide (p∈B.pages))=jY A B:=rfl
 rw [hb] at kc
 have kA:=ni A
 have kB:=ni B
 have kw:=l9 (jY A B) 11
 have kf:=kU [aI A,aI B,if jY A B=true then 11 else 0] (by simp)
 have hmE:aA [aI A,aI B,if jY A B=true then 11 else 0]=fV A B:=rfl
 rw [hmE] at kf
 generalize hE:fV A B=E at *
 generalize jY A B=bq at *
 generalize (if bq=true then (11:Int) else 0)=wq at *
 generalize hG:Kw A B=G at *
 unfold Dc.av at *
 refine aX.of (aG.fJ ?_)
 (repeat' with_reducible first|intro _|exact dn|refine rn ?_|refine ra ?_ ?_)
 refine ak.MS (.tup [.agg [.str G.kind,.ro (.ints .i64 G.pages)],.int .i64 E]) kG (by simp only [bI,aW,eF,aZ,aB,List.drop_zero,lk,reduceIte,reduceCtorEq,Nat.reduceEqDiff,Option.some.injEq,Item.row.injEq,Item.box.injEq,AV.ro.injEq,exists_eq_left,exists_and_left,exists_eq_left',exists_eq_right,and_assoc,and_true,true_and,List.cons.injEq,exists_eq',exists_eq]) (by simp [gG,aW,aZ,eF,aB,lk,bI]) rfl ?_
 (repeat' with_reducible first|intro _|exact dn|refine rn ?_|refine ra ?_ ?_)
 refine aX.of (aG.fJ ?_)
 (repeat' with_reducible first|intro _|exact dn|refine rn ?_|refine ra ?_ ?_)
 refine ak.k kc ?_
 (repeat' with_reducible first|intro _|exact dn|refine rn ?_|refine ra ?_ ?_)
 refine aX.of (aG.cut (fun _:Unit=>⟨231,[(4,.int .i64 a),(18,.ptr 0 0)],[(0,.box 27 A.av)],1⟩) (fun _=>True) (aG.of ?_) fun _ _=>?_)
 ·(repeat' with_reducible first|intro _|exact dn|refine rn ?_|refine ra ?_ ?_)
  refine bT.lex [6] [] (by kernel_rfl) (by kernel_rfl) ?_
  (repeat' with_reducible first|intro _|exact dn|refine rn ?_|refine ra ?_ ?_)
  (refine QV.intro (.int .i64 (aI A)) ?_ ?_;focus ((repeat' with_reducible first|intro _|exact dn|refine rn ?_|refine ra ?_ ?_);refine ak.k (kA) ?_;(repeat' with_reducible first|intro _|exact dn|refine rn ?_|refine ra ?_ ?_)))
  (repeat' with_reducible first|intro _|exact dn|refine rn ?_|refine ra ?_ ?_)
  (refine QV.intro (.int .i64 (aI B)) ?_ ?_;focus ((repeat' with_reducible first|intro _|exact dn|refine rn ?_|refine ra ?_ ?_);refine ak.k (kB) ?_;(repeat' with_reducible first|intro _|exact dn|refine rn ?_|refine ra ?_ ?_)))
  (repeat' with_reducible first|intro _|exact dn|refine rn ?_|refine ra ?_ ?_)
  (refine QV.intro (.int .i64 wq) ?_ ?_;focus ((repeat' with_reducible first|intro _|exact dn|refine rn ?_|refine ra ?_ ?_);refine ak.k (kw) ?_;(repeat' with_reducible first|intro _|exact dn|refine rn ?_|refine ra ?_ ?_)))
  (repeat' with_reducible first|intro _|exact dn|refine rn ?_|refine ra ?_ ?_)
  (refine QV.intro (.int .i64 E) ?_ ?_;focus ((repeat' with_reducible first|intro _|exact dn|refine rn ?_|refine ra ?_ ?_);refine ak.k (kf) ?_;(repeat' with_reducible first|intro _|exact dn|refine rn ?_|refine ra ?_ ?_)))
  by_cases h0:E=0
  ·have g0:(E=0)=True:=eq_true h0
   have hG0:=hG0 h0
   have hkind:G.kind=if A.kind=[] then B.kind else A.kind:=by rw [hG0];rfl
   have hpages:G.pages=A.pages++B.pages:=by rw [hG0];rfl
   have kC:=vS A.pages B.pages hpA hpB
   have kQ:=sN G.pages (A.pages++B.pages)
   rw [decide_eq_true hpages] at kQ
   by_cases hk:A.kind=[]
   ·rw [if_pos hk] at hkind
    generalize hkg:G.kind=kg at *
    generalize hka:A.kind=ka at *
    subst hk
    subst hkind
    (repeat' with_reducible first|intro _|refine rz ?_|refine ra ?_ ?_|omega|simp only [go_sem,g0])
    refine bT.lex [15,16] [(9,[1,2]),(10,[1,2])] (by kernel_rfl) (by kernel_rfl) ?_
    (repeat' with_reducible first|intro _|refine rz ?_|refine ra ?_ ?_|omega|simp only [go_sem,g0])
    refine QE.intro (.own 4) [(4,.row 25 (.objs 1 [[.ro (.ints .i64 A.pages)],[.ro (.ints .i64 B.pages)]])),(3,.row 24 (.ints .i64 [aI A,aI B,wq])),(2,.box 27 [.str B.kind,.ro (.ints .i64 G.pages)]),(0,.box 27 [.str [],.ro (.ints .i64 A.pages)]),(1,.box 27 [.str B.kind,.ro (.ints .i64 B.pages)])] 5 ?_ ?_
    ·(repeat' with_reducible first|intro _|refine rz ?_|refine ra ?_ ?_|omega|simp only [go_sem,g0])
    (repeat' with_reducible first|intro _|refine rz ?_|refine ra ?_ ?_|omega|simp only [go_sem,g0])
    refine QE.intro (.ro (.ints .i64 (A.pages++B.pages))) [(4,.row 25 (.objs 1 [[.ro (.ints .i64 A.pages)],[.ro (.ints .i64 B.pages)]])),(3,.row 24 (.ints .i64 [aI A,aI B,wq])),(2,.box 27 [.str B.kind,.ro (.ints .i64 G.pages)]),(0,.box 27 [.str [],.ro (.ints .i64 A.pages)]),(1,.box 27 [.str B.kind,.ro (.ints .i64 B.pages)])] 5 ?_ ?_
    ·(repeat' with_reducible first|intro _|refine rz ?_|refine ra ?_ ?_|omega|simp only [go_sem,g0])
     refine ak.ro (.ro (.ints .i64 (A.pages++B.pages))) (gJ.gU kC rfl rfl) (by simp only [bI,aW,eF,aZ,aB,List.drop_zero,lk,reduceIte,reduceCtorEq,Nat.reduceEqDiff,Option.some.injEq,Item.row.injEq,Item.box.injEq,AV.ro.injEq,exists_eq_left,exists_and_left,exists_eq_left',exists_eq_right,and_assoc,and_true,true_and,List.cons.injEq,exists_eq',exists_eq]) (by simp [gG,eF,aB,lk]) rfl ?_
     (repeat' with_reducible first|intro _|exact dn|refine rn ?_|refine ra ?_ ?_)
    (repeat' with_reducible first|intro _|refine rz ?_|refine ra ?_ ?_|omega|simp only [go_sem,g0])
    refine QV.intro (.bool true) ?_ ?_
    ·(repeat' with_reducible first|intro _|refine rz ?_|refine ra ?_ ?_|omega|simp only [go_sem,g0])
     refine ak.k kQ ?_
     (repeat' with_reducible first|intro _|exact dn|refine rn ?_|refine ra ?_ ?_)
    (repeat' with_reducible first|intro _|refine rz ?_|refine ra ?_ ?_|omega|simp only [go_sem,g0])
    refine ⟨(),?_⟩
    refine bJ.bG rfl ?_ ?_<;>simp only [go_sem,Int.natCast_succ,Dc.av,hka]
   ·rw [if_neg hk] at hkind
    generalize hkg:G.kind=kg at *
    subst hkind
    (repeat' with_reducible first|intro _|refine rz ?_|refine ra ?_ ?_|omega|simp only [go_sem,g0,hk])
    refine bT.lex [15,16] [(9,[1,2]),(10,[1,2])] (by kernel_rfl) (by kernel_rfl) ?_
    (repeat' with_reducible first|intro _|refine rz ?_|refine ra ?_ ?_|omega|simp only [go_sem,g0,hk])
    refine QE.intro (.own 4) [(4,.row 25 (.objs 1 [[.ro (.ints .i64 A.pages)],[.ro (.ints .i64 B.pages)]])),(3,.row 24 (.ints .i64 [aI A,aI B,wq])),(2,.box 27 [.str A.kind,.ro (.ints .i64 G.pages)]),(0,.box 27 [.str A.kind,.ro (.ints .i64 A.pages)]),(1,.box 27 [.str B.kind,.ro (.ints .i64 B.pages)])] 5 ?_ ?_
    ·(repeat' with_reducible first|intro _|refine rz ?_|refine ra ?_ ?_|omega|simp only [go_sem,g0,hk])
    (repeat' with_reducible first|intro _|refine rz ?_|refine ra ?_ ?_|omega|simp only [go_sem,g0,hk])
    refine QE.intro (.ro (.ints .i64 (A.pages++B.pages))) [(4,.row 25 (.objs 1 [[.ro (.ints .i64 A.pages)],[.ro (.ints .i64 B.pages)]])),(3,.row 24 (.ints .i64 [aI A,aI B,wq])),(2,.box 27 [.str A.kind,.ro (.ints .i64 G.pages)]),(0,.box 27 [.str A.kind,.ro (.ints .i64 A.pages)]),(1,.box 27 [.str B.kind,.ro (.ints .i64 B.pages)])] 5 ?_ ?_
    ·(repeat' with_reducible first|intro _|refine rz ?_|refine ra ?_ ?_|omega|simp only [go_sem,g0,hk])
     refine ak.ro (.ro (.ints .i64 (A.pages++B.pages))) (gJ.gU kC rfl rfl) (by simp only [bI,aW,eF,aZ,aB,List.drop_zero,lk,reduceIte,reduceCtorEq,Nat.reduceEqDiff,Option.some.injEq,Item.row.injEq,Item.box.injEq,AV.ro.injEq,exists_eq_left,exists_and_left,exists_eq_left',exists_eq_right,and_assoc,and_true,true_and,List.cons.injEq,exists_eq',exists_eq]) (by simp [gG,eF,aB,lk]) rfl ?_
     (repeat' with_reducible first|intro _|exact dn|refine rn ?_|refine ra ?_ ?_)
    (repeat' with_reducible first|intro _|refine rz ?_|refine ra ?_ ?_|omega|simp only [go_sem,g0,hk])
    refine QV.intro (.bool true) ?_ ?_
    ·(repeat' with_reducible first|intro _|refine rz ?_|refine ra ?_ ?_|omega|simp only [go_sem,g0,hk])
     refine ak.k kQ ?_
     (repeat' with_reducible first|intro _|exact dn|refine rn ?_|refine ra ?_ ?_)
    (repeat' with_reducible first|intro _|refine rz ?_|refine ra ?_ ?_|omega|simp only [go_sem,g0,hk])
    refine ⟨(),?_⟩
    refine bJ.bG rfl ?_ ?_<;>simp only [go_sem,Int.natCast_succ,Dc.av]
  ·have g0:(E=0)=False:=eq_false h0
   have hG1:=hG1 h0
   have g1:((G.pages.length:Int))=0:=by rw [hG1];rfl
   (repeat' with_reducible first|intro _|refine rz ?_|refine ra ?_ ?_|omega|simp only [go_sem,g0,g1])
   refine ⟨(),?_⟩
   refine bJ.bG rfl ?_ ?_<;>simp only [go_sem,Int.natCast_succ,Dc.av]
 clear hG0 hG1 kf kw hmE hG kG hE hb heB kc kB
 have kX:=Lm A a hpA
 have hX1:mY A a=0→ct1 A a=⟨A.kind,A.pages.take a.toNat⟩:=fun h=>by unfold ct1;rw [if_pos h]
 have hX2:mY A a=0→Lj A a=⟨[],A.pages.drop a.toNat⟩:=fun h=>by unfold Lj;rw [if_pos h]
 have hX3:mY A a≠0→ct1 A a=Dc.zero∧Lj A a=Dc.zero:=fun h=>by unfold ct1 Lj;rw [if_neg h,if_neg h];exact ⟨rfl,rfl⟩
 have hcz:mY A a=0→aI A=0∧1≤a∧a<A.pages.length:=sJ
 have kw:=l9 (decide (a<1∨(A.pages.length:Int) - 1<a)) 3
 have hcE:aA [aI A,if decide (a<1∨(A.pages.length:Int) - 1<a)=true then 3 else 0]=mY A a:=by
  unfold mY
  simp only [aA,decide_eq_true_eq]
  have e:(a<1∨(A.pages.length:Int) - 1<a)↔(a<1∨(A.pages.length:Int)≤a):=by omega
  simp only [e]
  (repeat' split)<;>simp_all
 have kf:=kU [aI A,if decide (a<1∨(A.pages.length:Int) - 1<a)=true then 3 else 0] (by simp)
 rw [hcE] at kf
 generalize hwq:(if decide (a<1∨(A.pages.length:Int) - 1<a)=true then (3:Int) else 0)=wq2 at *
 generalize hC:mY A a=C at *
 generalize hX:ct1 A a=X at *
 generalize hY:Lj A a=Y at *
 unfold Dc.av at *
 refine aG.fJ ?_
 (repeat' with_reducible first|intro _|exact dn|refine rn ?_|refine ra ?_ ?_)
 refine ak.MS (.tup [.agg [.str X.kind,.ro (.ints .i64 X.pages)],.agg [.str Y.kind,.ro (.ints .i64 Y.pages)],.int .i64 C]) kX (by simp only [bI,aW,eF,aZ,aB,List.drop_zero,lk,reduceIte,reduceCtorEq,Nat.reduceEqDiff,Option.some.injEq,Item.row.injEq,Item.box.injEq,AV.ro.injEq,exists_eq_left,exists_and_left,exists_eq_left',exists_eq_right,and_assoc,and_true,true_and,List.cons.injEq,exists_eq',exists_eq]) (by simp [gG,aW,aZ,eF,aB,lk,bI]) rfl ?_
 (repeat' with_reducible first|intro _|exact dn|refine rn ?_|refine ra ?_ ?_)
 refine aX.of (aG.fJ ?_)
 (repeat' with_reducible first|intro _|exact dn|refine rn ?_|refine ra ?_ ?_)
 refine ak.k kA ?_
 (repeat' with_reducible first|intro _|exact dn|refine rn ?_|refine ra ?_ ?_)
 refine ak.k kw ?_
 (repeat' with_reducible first|intro _|exact dn|refine rn ?_|refine ra ?_ ?_)
 refine ak.k kf ?_
 (repeat' with_reducible first|intro _|exact dn|refine rn ?_|refine ra ?_ ?_)
 by_cases hC0:C=0
 case neg=>
  have g0:(C=0)=False:=eq_false hC0
  obtain ⟨hx,hy⟩:=hX3 hC0
  have g1:((X.pages.length:Int))=0:=by rw [hx];rfl
  have g2:((Y.pages.length:Int))=0:=by rw [hy];rfl
  refine aX.of (aG.fJ ?_)
  (repeat' with_reducible first|intro _|refine rz ?_|refine ra ?_ ?_|omega|simp only [go_sem,g0,g1,g2])
  refine dM.auto 0 ?_ rfl ?_<;>simp only [go_sem,Int.natCast_succ,Post]
 have g0:(C=0)=True:=eq_true hC0
 refine aX.of (aG.fJ ?_)
 (repeat' with_reducible first|intro _|refine rz ?_|refine ra ?_ ?_|omega|simp only [go_sem,g0])
 obtain ⟨hn0,hn1,hn2⟩:=hcz hC0
 obtain ⟨n,rfl⟩:∃ n:Nat,a=n:=⟨a.toNat,by omega⟩
 obtain ⟨hm1,hm2⟩:=Ig (d:=A) (n:=n) (hC.trans hC0)
 have hx:=hX1 hC0
 have hy:=hX2 hC0
 rw [Int.toNat_natCast] at hx hy hm1 hm2
 rw [←hx,←hy] at hm1 hm2
 have kM2:=CW X Y (by rw [hx];simp only [List.length_take];omega) (by rw [hy];simp only [List.length_drop];omega)
 rw [hm1,hm2] at kM2
 have hxk:X.kind=A.kind:=by rw [hx]
 have hyk:Y.kind=[]:=by rw [hy]
 have hxl:((X.pages.length:Nat):Int)=n:=by rw [hx];simp only [List.length_take];omega
 have kQ:=sN A.pages A.pages
 rw [decide_eq_true rfl] at kQ
 unfold Dc.av at kM2
 refine aX.of (aG.fJ ?_)
 (repeat' with_reducible first|intro _|exact dn|refine rn ?_|refine ra ?_ ?_)
 refine ak.MS (.tup [.agg [.str A.kind,.ro (.ints .i64 A.pages)],.int .i64 0]) kM2 (by simp only [bI,aW,eF,aZ,aB,List.drop_zero,lk,reduceIte,reduceCtorEq,Nat.reduceEqDiff,Option.some.injEq,Item.row.injEq,Item.box.injEq,AV.ro.injEq,exists_eq_left,exists_and_left,exists_eq_left',exists_eq_right,and_assoc,and_true,true_and,List.cons.injEq,exists_eq',exists_eq]) (by simp [gG,aW,aZ,eF,aB,lk,bI]) rfl ?_
 (repeat' with_reducible first|intro _|exact dn|refine rn ?_|refine ra ?_ ?_)
 refine aX.of (aG.of ?_)
 (repeat' with_reducible first|intro _|refine rz ?_|refine ra ?_ ?_|omega|simp only [go_sem,g0,hxk,hyk,hxl])
 refine ak.k kQ ?_
 (repeat' with_reducible first|intro _|refine rz ?_|refine ra ?_ ?_|omega|simp only [go_sem,hxl])
 refine dM.auto 0 ?_ rfl ?_<;>simp only [go_sem,Int.natCast_succ,Post]
end Go.Fv.J
