/-
  A part of the proof of the claim: walks over the program's functions and the plain laws that these need. No condition of its own.
-/
import Derived.Test.YtodlgmmbfbiilaaGreatDoorHTopPkCardPart9
import Derived.Test.YtodlgmmbfbiilaaGreatDoorHTopPkCardPart10
set_option linter.unusedSimpArgs false
set_option linter.unusedVariables false
set_option linter.unnecessarySimpa false
set_option maxRecDepth 8000
/- TopPacked: the law. -/
namespace Go.Fv.H
open Go Go.Proofs
set_option maxHeartbeats 4000000 in
theorem PU (w h:Nat) (p:List Bool) (g:lC w h p):aC Tryz.prog 50 [.agg [.int .i64 w,.int .i64 h,.ro (.bools p)],.agg [.int .i64 w,.int .i64 h,.ro (.bools p)]] (.tup [.int .i64 0,.int .i64 0]) []:=by
 have kc:=jk (w:Int) (h:Int) p
 rw [g.err] at kc
 have hpl:p.length≤1048576:=by rw [g.p];exact g.wh
 refine aC.aJ Tryz.func50 rfl (by decide) (by simp [Tryz.f50]) [.tmp 4,.tmp 5] rfl fun w0 T0 _=>?_
 simp only [Tryz.f50,aB]
 (repeat' with_reducible first|intro _|exact dn|refine rn ?_|refine ra ?_ ?_)
 refine aI.intro (fun i:Nat=>⟨57,[(16,.int .i64 i),(15,.int .i64 2),(14,.own 2),(2,.ptr 0 0),(3,.ptr 1 0)],[(0,.box 24 [.int .i64 w,.int .i64 h,.ro (.bools p)]),(1,.box 24 [.int .i64 w,.int .i64 h,.ro (.bools p)]),(2,.row 24 (.objs 3 [[.int .i64 w,.int .i64 h,.ro (.bools p)],[.int .i64 w,.int .i64 h,.ro (.bools p)]]))],3⟩) (fun i=>i≤2) (fun i=>2 - i) 0 ?_ (Nat.zero_le _) fun i hi=>?_
 ·refine aO.ak rfl ?_ ?_<;>simp only [go_sem,Int.natCast_succ]
  all_goals first|rfl|exact ⟨rfl,rfl⟩|trace_state
 by_cases hlt:i<2
 ·have f7:((i:Int)<2)=True:=eq_true (by omega)
  have hee:([[.int .i64 w,.int .i64 h,.ro (.bools p)],[.int .i64 w,.int .i64 h,.ro (.bools p)]]:List (List AV)).getD i []=[.int .i64 w,.int .i64 h,.ro (.bools p)]:=by
   have:i=0∨i=1:=by omega
   rcases this with rfl|rfl<;>rfl
  (repeat' with_reducible first|intro _|refine rz ?_|refine ra ?_ ?_|omega|simp only [go_sem,f7,dY,hee])
  refine ah.k kc ?_
  (repeat' with_reducible first|intro _|exact dn|refine rn ?_|refine ra ?_ ?_)
  refine ⟨i+1,aO.ak rfl ?_ ?_,by omega,by omega⟩<;>simp only [go_sem,Int.natCast_succ]
 have f7:((i:Int)<2)=False:=eq_false (by omega)
 (repeat' with_reducible first|intro _|refine rz ?_|refine ra ?_ ?_|omega|simp only [go_sem,f7])
 refine aI.intro (fun i:Nat=>⟨57,[(41,.int .i64 i),(40,.int .i64 p.length),(39,.ro (.bools p)),(9,.int .i64 0),(3,.ptr 0 0)],[(0,.box 24 [.int .i64 w,.int .i64 h,.ro (.bools p)])],1⟩) (fun i=>i≤p.length) (fun i=>p.length - i) 0 ?_ (Nat.zero_le _) fun i hi=>?_
 ·refine aO.ak rfl ?_ ?_<;>simp only [go_sem,Int.natCast_succ]
  all_goals first|rfl|exact ⟨rfl,rfl⟩|trace_state
 by_cases hlt:i<p.length
 ·have f8:((i:Int)<(p.length:Int))=True:=eq_true (by omega)
  (repeat' with_reducible first|intro _|refine rz ?_|refine ra ?_ ?_|omega|simp only [go_sem,f8,dY,Int.toNat_natCast])
  refine ⟨i+1,aO.ak rfl ?_ ?_,by omega,by omega⟩<;>simp only [go_sem,Int.natCast_succ]
 ·have f8:((i:Int)<(p.length:Int))=False:=eq_false (by omega)
  (repeat' with_reducible first|intro _|refine rz ?_|refine ra ?_ ?_|omega|simp only [go_sem,f8])
  refine bf.auto 0 ?_ rfl ?_<;>simp only [go_sem,Int.natCast_succ,Post]
theorem LC {w h:Nat} {p:List Bool} (g:lC w h p) (hw:w≤32) (hh:h≤32) (kind:Int):(dN w h p kind).length≤200000:=by
 have hp:=g.p
 have hwh:w*h≤32*32:=Nat.mul_le_mul hw hh
 have b0:(w+1)*h≤33*32:=Nat.mul_le_mul (by omega) hh
 have h1:=sV g.w1 hp h (Nat.le_refl _)
 have h2:=pV g.w1 hp h (Nat.le_refl _)
 have h3:=FQ w h p
 rw [Nat.mul_assoc] at h1 h2
 rw [ou]
 unfold dw
 split
 ·rw [iG,jL];omega
 ·split
  ·omega
  ·split
   ·rw [iG];omega
   ·rw [iG];omega
def YG (most:Int) (x:Pg):List Bool:=(gQ (!true) (rG most) (U8 x).p (pieces ⟨(U8 x).p,bT x.W 31,bT x.H 31,true,true⟩)).p
def Zr (i:Nat):Bytes:=[112,UInt8.ofNat (97+i)]
def XO (most:Int) (i:Nat) (x:Pg):NP:=⟨Zr i,bT x.W 31,bT x.H 31,YG most x⟩
def zD (most:Int) (q:List Pg) (n:Nat):List NP:=(List.range n).map fun i=>XO most i (q.getD i Pg.zero)
theorem Sl (most:Int) (q:List Pg) (n:Nat):zD most q (n+1)=zD most q n++[XO most n (q.getD n Pg.zero)]:=by unfold zD;rw [List.range_succ,List.map_append];rfl
theorem zF (most:Int) (q:List Pg) (n:Nat):(zD most q n).length=n:=by unfold zD;rw [List.length_map,List.length_range]
theorem Lj (most:Int) (i:Nat) (x:Pg):(XO most i x).Ok:=by
 obtain ⟨w1,w2,_⟩:=(show 1≤bT x.W 31∧bT x.W 31≤32∧1+dh .and .i64 x.W 31=((bT x.W 31:Nat):Int) from jo x.W 31 (by decide))
 obtain ⟨h1,h2,_⟩:=(show 1≤bT x.H 31∧bT x.H 31≤32∧1+dh .and .i64 x.H 31=((bT x.H 31:Nat):Int) from jo x.H 31 (by decide))
 have hl:(YG most x).length=bT x.W 31*bT x.H 31:=by
  unfold YG
  rw [(Ak _ _ _ _).1]
  exact zS _ _
 have hwh:bT x.W 31*bT x.H 31≤32*32:=Nat.mul_le_mul w2 h2
 unfold NP.Ok XO
 dsimp only
 rw [Int.toNat_natCast,Int.toNat_natCast]
 exact ⟨w1,by omega,h1,by omega,by omega,hl⟩
theorem Yd:∀ i,i<5→fQ (Zr i)=true:=by decide
theorem WA:∀ i,i<5→∀ j,j<5→Zr i=Zr j→i=j:=by decide
theorem zG {most:Int} {q:List Pg} {n:Nat} {x:NP} (h:x∈zD most q n):∃ i,i<n∧x=XO most i (q.getD i Pg.zero):=by
 unfold zD at h
 obtain ⟨i,hi,rfl⟩:=List.mem_map.1 h
 exact ⟨i,List.mem_range.1 hi,rfl⟩
theorem Si (most:Int) (q:List Pg) {n:Nat} (hn:n≤5):uZ (zD most q n):=by
 refine ⟨fun x hx=>?_,fun x hx=>?_,?_⟩
 ·obtain ⟨i,hi,rfl⟩:=zG hx
  exact Yd i (by omega)
 ·obtain ⟨i,hi,rfl⟩:=zG hx
  exact Lj _ _ _
 ·unfold zD
  rw [List.map_map]
  have key:∀ n,n≤5→((List.range n).map (NP.n ∘ fun i=>XO most i (q.getD i Pg.zero))).Nodup:=by
   intro n
   induction n with
   | zero=>intro _;simp
   | succ n ih=>
    intro hn
    rw [List.range_succ,List.map_append,List.nodup_append]
    refine ⟨ih (by omega),by simp,fun a ha b hb=>?_⟩
    obtain ⟨i,hi,rfl⟩:=List.mem_map.1 ha
    rw [List.map_singleton,List.mem_singleton] at hb
    subst hb
    intro h
    have:=WA i (by have:=List.mem_range.1 hi;omega) n (by omega) h
    have:=List.mem_range.1 hi
    omega
  exact key n hn
theorem Sj (most:Int) (q:List Pg) {n:Nat} (hn:n≤5) {kind:Int} (hk:1≤kind∧kind≤5):(mG (zD most q n) kind).2=0:=by
 have hP:=Si most q hn
 have hl:=zF most q n
 have hc:∀ x,x∈pz kind (zD most q n)→x.2.length≤200000∧x.1.length≤40:=fun x hx=>by
  obtain ⟨y,hy,rfl⟩:=List.mem_map.1 hx
  obtain ⟨i,hi,rfl⟩:=zG hy
  obtain ⟨k,k1,k2,e⟩:=Aj kind hk (XO most i (q.getD i Pg.zero))
  dsimp only
  rw [e]
  refine ⟨LC (Lj _ _ _) ?_ ?_ k,(uH (hP.name _ hy)).2⟩
  ·show ((bT (q.getD i Pg.zero).W 31:Nat):Int).toNat≤32
   rw [Int.toNat_natCast]
   exact (jo _ 31 (by decide)).2.1
  ·show ((bT (q.getD i Pg.zero).H 31:Nat):Int).toNat≤32
   rw [Int.toNat_natCast]
   exact (jo _ 31 (by decide)).2.1
 have key:∀ m:List (Bytes × Bytes),(∀ x,x∈m→x.2.length≤200000∧x.1.length≤40)→(eF m).length≤m.length*200000∧(m.flatMap jO).length≤m.length*45:=by
  intro m
  induction m with
  | nil=>intro _;exact ⟨Nat.zero_le _,Nat.zero_le _⟩
  | cons y m ih=>
   intro hm
   have h1:=hm y List.mem_cons_self
   have h2:=ih fun x hx=>hm x (List.mem_cons_of_mem _ hx)
   have h3:=Az y
   unfold eF at h2 ⊢
   rw [List.flatMap_cons,List.flatMap_cons,List.length_append,List.length_append,List.length_cons,Nat.succ_mul,Nat.succ_mul];omega
 have hb:=key _ hc
 rw [vJ,hl] at hb
 have e1:=vw (pz kind (zD most q n))
 have e2:=F9 (pz kind (zD most q n))
 unfold mG
 rw [Yi hP (by omega) hk,if_neg (by simp),if_neg (by omega)]
theorem Nh (x:Pg):dG Tryz.prog 49 [.agg [.int .i64 x.W,.int .i64 x.H,.ro (.bools x.p)]] (.agg [.int .i64 (bT x.W 31),.int .i64 (bT x.H 31),.ro (.bools (U8 x).p)]) []:=
 dG.GZ (dG.gJ (Nj x) rfl rfl) (by simp [fK,aU,bD,dO,aH,lk,aT,U8])
theorem QT (x:Pg) (most:Int) (hm:0≤most∧most≤1048576):∃ n:Int,dG Tryz.prog 48 [.agg [.int .i64 (bT x.W 31),.int .i64 (bT x.H 31),.ro (.bools (U8 x).p)],.int .i64 most] (.tup [.agg [.int .i64 (bT x.W 31),.int .i64 (bT x.H 31),.ro (.bools (YG most x))],.int .i64 n,.int .i64 0]) []:=by
 obtain ⟨w1,w2,_⟩:=(show 1≤bT x.W 31∧bT x.W 31≤32∧1+dh .and .i64 x.W 31=((bT x.W 31:Nat):Int) from jo x.W 31 (by decide))
 obtain ⟨h1,h2,_⟩:=(show 1≤bT x.H 31∧bT x.H 31≤32∧1+dh .and .i64 x.H 31=((bT x.H 31:Nat):Int) from jo x.H 31 (by decide))
 have k:=QW (bT x.W 31) (bT x.H 31) w1 (by omega) h1 (by omega) (U8 x).p (zS _ _) most hm
 exact ⟨(gQ (!true) (rG most) (U8 x).p (pieces ⟨(U8 x).p,bT x.W 31,bT x.H 31,true,true⟩)).n,dG.GZ (dG.gJ k rfl rfl) (by simp [fK,aU,bD,dO,aH,lk,aT,YG])⟩
theorem QU (x:Pg) (most:Int) (hm:most<0∨1048576<most):aC Tryz.prog 48 [.agg [.int .i64 (bT x.W 31),.int .i64 (bT x.H 31),.ro (.bools (U8 x).p)],.int .i64 most] (.tup [.agg [.int .i64 0,.int .i64 0,.nilS],.int .i64 0,.int .i64 3]) []:=by
 obtain ⟨w1,w2,_⟩:=(show 1≤bT x.W 31∧bT x.W 31≤32∧1+dh .and .i64 x.W 31=((bT x.W 31:Nat):Int) from jo x.W 31 (by decide))
 obtain ⟨h1,h2,_⟩:=(show 1≤bT x.H 31∧bT x.H 31≤32∧1+dh .and .i64 x.H 31=((bT x.H 31:Nat):Int) from jo x.H 31 (by decide))
 exact Nl (bT x.W 31) (bT x.H 31) w1 (by omega) h1 (by omega) (U8 x).p (zS _ _) most hm
set_option maxHeartbeats 32000000 in
theorem G5 (ps:List Pg) (kind most rows:Int):aC Tryz.prog 10 [.ro (pgs ps),.int .i64 kind,.int .i64 most,.int .i64 rows] (.bool true) []:=by
 have hl5:(ps.take 5).length=min ps.length 5:=by simp [Nat.min_comm]
 have hsub:List.take (min ps.length 5 - 0) (ps.map Pg.av)=(ps.take 5).map Pg.av:=by
  simp only [←List.map_take,Nat.sub_zero]
  rcases Nat.le_total ps.length 5 with h|h
  ·rw [Nat.min_eq_left h,List.take_of_length_le (Nat.le_refl _),List.take_of_length_le h]
  ·rw [Nat.min_eq_right h]
 have hmin:min (ps.length:Int) 5=((min ps.length 5:Nat):Int):=by omega
 have hq5:(ps.take 5).length≤5:=List.length_take_le _ _
 generalize ps.take 5=q at *
 refine aC.aJ Tryz.func10 rfl (by decide) (by simp [Tryz.f10]) [.tmp 8] rfl fun w0 T0 _=>?_
 simp only [Tryz.f10,aB]
 (repeat' with_reducible first|intro _|exact dn|refine rn ?_|refine ra ?_ ?_)
 refine ah.k LX ?_
 (repeat' with_reducible first|intro _|refine rz ?_|refine ra ?_ ?_|omega|simp only [go_sem,nT,hmin,Int.toNat_natCast,hsub,List.length_map])
 refine aI.intro (fun i:Nat=>⟨156,[(35,.int .i64 i),(34,.int .i64 q.length),(33,.ro (pgs q)),(9,.own 0),(1,.int .i64 kind),(2,.int .i64 most),(3,.int .i64 rows)],[(0,.row 63 (YL (zD most q i)))],1⟩) (fun i=>i≤q.length) (fun i=>q.length - i) 0 ?_ (Nat.zero_le _) fun i hi=>?_
 ·refine aO.ak rfl ?_ ?_<;>simp only [go_sem,Int.natCast_succ,List.length_map]
  all_goals first|rfl|exact ⟨rfl,rfl⟩|trace_state
 have hcl:=zF most q i
 by_cases hlt:i<q.length
 ·have f7:((i:Int)<(q.length:Int))=True:=eq_true (by omega)
  have hee:=WC q hlt
  have hst:=congrArg (List.map NP.av) (Sl most q i)
  rw [List.map_append] at hst
  generalize q.getD i Pg.zero=x at *
  have ks:=Nh x
  have e97:(97:Int)+(i:Int)=((97+i:Nat):Int):=by omega
  have hst2:(zD most q (i+1)).map NP.av=(zD most q i).map NP.av++[[.str [112,UInt8.ofNat (97+i)],.int .i64 (bT x.W 31),.int .i64 (bT x.H 31),.ro (.bools (YG most x))]]:=hst
  by_cases hm:0≤most∧most≤1048576
  ·obtain ⟨n,kc⟩:=QT x most hm
   (repeat' with_reducible first|intro _|refine rz ?_|refine ra ?_ ?_|omega|simp only [go_sem,f7,hee,dY,List.length_map])
   refine ah.f ks 0 ?_
   (repeat' with_reducible first|intro _|exact dn|refine rn ?_|refine ra ?_ ?_)
   refine ah.f kc 0 ?_
   (repeat' with_reducible first|intro _|refine rz ?_|refine ra ?_ ?_|omega|simp only [go_sem,e97,Int.toNat_natCast,hcl,List.length_map])
   refine ⟨i+1,aO.ak rfl ?_ ?_,by omega,by omega⟩<;>simp only [go_sem,Int.natCast_succ,hst2]
  ·have kc:=QU x most (by omega)
   (repeat' with_reducible first|intro _|refine rz ?_|refine ra ?_ ?_|omega|simp only [go_sem,f7,hee,dY,List.length_map])
   refine ah.f ks 0 ?_
   (repeat' with_reducible first|intro _|exact dn|refine rn ?_|refine ra ?_ ?_)
   refine ah.k kc ?_
   by_cases h0:most<0
   ·have y1:(most<0)=True:=eq_true h0
    (repeat' with_reducible first|intro _|refine rz ?_|refine ra ?_ ?_|omega|simp only [go_sem,y1])
    refine bf.auto 0 ?_ rfl ?_<;>simp only [go_sem,Int.natCast_succ,Post]
   ·have y1:(most<0)=False:=eq_false h0
    have y2:(1048576<most)=True:=eq_true (by omega)
    (repeat' with_reducible first|intro _|refine rz ?_|refine ra ?_ ?_|omega|simp only [go_sem,y1,y2])
    refine bf.auto 0 ?_ rfl ?_<;>simp only [go_sem,Int.natCast_succ,Post]
 have e:i=q.length:=by omega
 subst e
 have f7:((q.length:Int)<(q.length:Int))=False:=eq_false (by omega)
 have hPk:=WB (zD most q q.length) kind
 by_cases hk:1≤kind∧kind≤5
 rotate_left
 ·have hE:mG (zD most q q.length) kind=([],1):=by
   have e:OW (zD most q q.length) kind=1:=by
    unfold OW
    rw [if_neg (by rw [zF];omega),ML (Si most q hq5) _ (Nat.le_refl _),if_neg (by simp),if_neg hk]
   unfold mG
   rw [e,if_pos (by decide)]
  rw [hE] at hPk
  dsimp only at hPk
  by_cases h1:kind<1
  ·have y1:(kind<1)=True:=eq_true h1
   (repeat' with_reducible first|intro _|refine rz ?_|refine ra ?_ ?_|omega|simp only [go_sem,f7])
   refine ah.k hPk ?_
   (repeat' with_reducible first|intro _|refine rz ?_|refine ra ?_ ?_|omega|simp only [go_sem,y1])
   refine bf.auto 0 ?_ rfl ?_<;>simp only [go_sem,Int.natCast_succ,Post]
  ·have y1:(kind<1)=False:=eq_false h1
   have y2:(5<kind)=True:=eq_true (by omega)
   (repeat' with_reducible first|intro _|refine rz ?_|refine ra ?_ ?_|omega|simp only [go_sem,f7])
   refine ah.k hPk ?_
   (repeat' with_reducible first|intro _|refine rz ?_|refine ra ?_ ?_|omega|simp only [go_sem,y1,y2])
   refine bf.auto 0 ?_ rfl ?_<;>simp only [go_sem,Int.natCast_succ,Post]
 have hR:=Sj most q hq5 hk
 have htk:=fun j (hj:j<(zD most q q.length).length)=>UY hR hj
 have hAl:(mG (zD most q q.length) kind).1.length≤4194304:=by
  obtain ⟨e,hA,_⟩:=N9 hR
  rw [e];exact hA.long
 have hmem:=fun x (hx:x∈zD most q q.length)=>zG hx
 have hln:=zF most q q.length
 generalize mG (zD most q q.length) kind=R at *
 obtain ⟨A,e⟩:=R
 dsimp only at hPk hR htk hAl
 subst hR
 generalize hLL:zD most q q.length=L at *
 (repeat' with_reducible first|intro _|refine rz ?_|refine ra ?_ ?_|omega|simp only [go_sem,f7])
 refine ah.k hPk ?_
 (repeat' with_reducible first|intro _|refine rz ?_|refine ra ?_ ?_|omega|simp only [go_sem,List.length_map,hln])
 refine aI.intro (fun j:Nat=>⟨156,[(87,.int .i64 j),(86,.int .i64 q.length),(85,.own 0),(15,.str A),(1,.int .i64 kind),(3,.int .i64 rows)],[(0,.row 63 (YL L))],1⟩) (fun j=>j≤q.length) (fun j=>q.length - j) 0 ?_ (Nat.zero_le _) fun j hj=>?_
 ·refine aO.ak rfl ?_ ?_<;>simp only [go_sem,Int.natCast_succ]
  all_goals first|rfl|exact ⟨rfl,rfl⟩|trace_state
 by_cases hlt:j<q.length
 rotate_left
 ·have f8:((j:Int)<(q.length:Int))=False:=eq_false (by omega)
  (repeat' with_reducible first|intro _|refine rz ?_|refine ra ?_ ?_|omega|simp only [go_sem,f8])
  refine bf.auto 0 ?_ rfl ?_<;>simp only [go_sem,Int.natCast_succ,Post]
 have f8:((j:Int)<(q.length:Int))=True:=eq_true (by omega)
 have hlt2:j<L.length:=by omega
 have hee:=Gt L hlt2
 have ht:=htk j hlt2
 have hx:(L.getD j NP.zero).Ok:=by
  obtain ⟨i,_,e⟩:=hmem (L.getD j NP.zero) (by rw [getD_lt hlt2];exact List.getElem_mem hlt2)
  rw [e];exact Lj _ _ _
 have hxw:=hx.w
 generalize L.getD j NP.zero=x at *
 obtain ⟨xn,xw,xh,xp⟩:=x
 dsimp only at hee ht hxw
 have g:lC xw.toNat xh.toNat xp:=hx
 obtain ⟨w,hw⟩:∃ w,xw.toNat=w:=⟨_,rfl⟩
 obtain ⟨h,hh⟩:∃ h,xh.toNat=h:=⟨_,rfl⟩
 rw [hw] at g ht hxw
 rw [hh] at g ht hxw
 obtain ⟨rfl,rfl⟩:xw=w∧xh=h:=⟨hxw.1.symm,hxw.2.symm⟩
 clear hx hxw hw hh
 have kt:=W9 A xn (by omega)
 rw [ht] at kt
 unfold Xl at kt
 dsimp only at kt
 have kd:=PU w h xp g
 have hwb:=g.w1
 have hhb:=g.h1
 by_cases h5:kind=5
 ·have y1:(kind=5)=True:=eq_true h5
  (repeat' with_reducible first|intro _|refine rz ?_|refine ra ?_ ?_|omega|simp only [go_sem,f8,hee,dY,List.length_map,hln])
  refine ah.f kt 0 ?_
  (repeat' with_reducible first|intro _|exact dn|refine rn ?_|refine ra ?_ ?_)
  refine ah.k kd ?_
  (repeat' with_reducible first|intro _|refine rz ?_|refine ra ?_ ?_|omega|simp only [go_sem,y1])
  refine ⟨j+1,aO.ak rfl ?_ ?_,by omega,by omega⟩<;>simp only [go_sem,Int.natCast_succ]
 have y1:(kind=5)=False:=eq_false h5
 by_cases h6:rows<1
 ·have y2:(rows<1)=True:=eq_true h6
  (repeat' with_reducible first|intro _|refine rz ?_|refine ra ?_ ?_|omega|simp only [go_sem,f8,hee,dY,List.length_map,hln])
  refine ah.f kt 0 ?_
  (repeat' with_reducible first|intro _|exact dn|refine rn ?_|refine ra ?_ ?_)
  refine ah.k kd ?_
  (repeat' with_reducible first|intro _|refine rz ?_|refine ra ?_ ?_|omega|simp only [go_sem,y1,y2])
  refine ⟨j+1,aO.ak rfl ?_ ?_,by omega,by omega⟩<;>simp only [go_sem,Int.natCast_succ]
 have y2:(rows<1)=False:=eq_false h6
 by_cases h7:4000<rows
 ·have y3:(4000<rows)=True:=eq_true h7
  (repeat' with_reducible first|intro _|refine rz ?_|refine ra ?_ ?_|omega|simp only [go_sem,f8,hee,dY,List.length_map,hln])
  refine ah.f kt 0 ?_
  (repeat' with_reducible first|intro _|exact dn|refine rn ?_|refine ra ?_ ?_)
  refine ah.k kd ?_
  (repeat' with_reducible first|intro _|refine rz ?_|refine ra ?_ ?_|omega|simp only [go_sem,y1,y2,y3])
  refine ⟨j+1,aO.ak rfl ?_ ?_,by omega,by omega⟩<;>simp only [go_sem,Int.natCast_succ]
 have y3:(4000<rows)=False:=eq_false h7
 obtain ⟨r,rfl⟩:∃ r:Nat,rows=r:=⟨rows.toNat,by omega⟩
 have ks:=QX w h xp g r (by omega) (by omega) kind (by omega)
 have hfs:=X4 g (rows:=r) (by omega) (kind:=kind) (by omega)
 have hNl:=wK w h xp r kind (zV h r)
 have hNh:zV h r≤4000:=by
  refine Classical.byContradiction fun hc=>?_
  have h2:=(qg (h:=h) (rows:=r) (i:=4000) (by omega)).1 (by omega)
  have:4000*1≤4000*r:=Nat.mul_le_mul_left _ (by omega)
  omega
 have hshort:∀ s,s∈Kr w h xp r kind (zV h r)→s.length≤200000000000000:=fun s hs=>by
  unfold Kr at hs
  obtain ⟨i,hi,rfl⟩:=List.mem_map.1 hs
  have g2:=Np g (by omega) ((qg (by omega)).1 (List.mem_range.1 hi))
  have:=lZ g2 kind
  unfold Yt;omega
 have kfs:=Dx (Kr w h xp r kind (zV h r)) (by omega) hshort
 rw [hfs] at kfs
 generalize Kr w h xp r kind (zV h r)=S at *
 (repeat' with_reducible first|intro _|refine rz ?_|refine ra ?_ ?_|omega|simp only [go_sem,f8,hee,dY,List.length_map,hln])
 refine ah.f kt 0 ?_
 (repeat' with_reducible first|intro _|exact dn|refine rn ?_|refine ra ?_ ?_)
 refine ah.k kd ?_
 (repeat' with_reducible first|intro _|refine rz ?_|refine ra ?_ ?_|omega|simp only [go_sem,y1,y2,y3])
 refine ah.o ks 1 ?_
 (repeat' with_reducible first|intro _|exact dn|refine rn ?_|refine ra ?_ ?_)
 refine ah.o kfs 1 ?_
 (repeat' with_reducible first|intro _|exact dn|refine rn ?_|refine ra ?_ ?_)
 refine ah.k kd ?_
 (repeat' with_reducible first|intro _|exact dn|refine rn ?_|refine ra ?_ ?_)
 refine ⟨j+1,aO.ak rfl ?_ ?_,by omega,by omega⟩<;>simp only [go_sem,Int.natCast_succ]
end Go.Fv.H
