/-
  A part of the proof of the claim: walks over the program's functions and the plain laws that these need. No condition of its own.
-/
import Derived.Test.YtodlgmmbfbiilaaGreatDoorHArcGCardPart8
import Derived.Test.YtodlgmmbfbiilaaGreatDoorHArcGCardPart7
import Derived.Test.YtodlgmmbfbiilaaGreatDoorFvPart10
import Derived.Test.YtodlgmmbfbiilaaGreatDoorHArcGCardPart1
import Derived.Shelf.Strings.Shaped
import Derived.Lib.CountLaws
import Derived.Lib.SplitLaws
import Derived.Test.YtodlgmmbfbiilaaGreatDoorHArcGCardPart9
import Derived.Test.YtodlgmmbfbiilaaGreatDoorHArcGCardPart10
set_option linter.unusedSimpArgs false
set_option linter.unusedVariables false
set_option linter.unnecessarySimpa false
set_option maxRecDepth 8000
/- The laws' own parts: pages with names made right; lists of entries compared. -/
namespace Go.Fv.H
open Go Go.Proofs
def o7 (x:NP):NP:=⟨x.n,(yI x.W x.H x.p).w,(yI x.W x.H x.p).h,(yI x.W x.H x.p).p⟩
def WL (l:List NP):List NP:=(l.take 6).map o7
theorem TT (l:List NP):(WL l).length≤6:=by unfold WL;rw [List.length_map];exact List.length_take_le _ _
set_option maxHeartbeats 4000000 in
theorem named_ok (l:List NP):aC Tryz.prog 33 [.ro (Jf l)] (.own 0) [(0,.row 63 (Jf (WL l)))]:=by
 have hl5:(l.take 6).length=min l.length 6:=by simp [Nat.min_comm]
 have hsub:List.take (min l.length 6 - 0) (l.map NP.av)=(l.take 6).map NP.av:=by
  simp only [←List.map_take,Nat.sub_zero]
  rcases Nat.le_total l.length 6 with h|h
  ·rw [Nat.min_eq_left h,List.take_of_length_le (Nat.le_refl _),List.take_of_length_le h]
  ·rw [Nat.min_eq_right h]
 have hmin:min (l.length:Int) 6=((min l.length 6:Nat):Int):=by omega
 have hD:WL l=(l.take 6).map o7:=rfl
 rw [hD]
 generalize l.take 6=q at *
 refine aC.aJ Tryz.func33 rfl (by decide) (by simp [Tryz.f33]) [.tmp 2] rfl fun w0 T0 _=>?_
 simp only [Tryz.f33,aB]
 (repeat' with_reducible first|intro _|refine rz ?_|refine ra ?_ ?_|omega|simp only [go_sem,Qi,hmin,Int.toNat_natCast,hsub,List.length_map])
 refine aH.intro (fun i:Nat=>⟨26,[(12,.int .i64 i),(11,.int .i64 q.length),(10,.ro (Jf q)),(3,.own 0)],[(0,.row 63 (Jf ((q.take i).map o7)))],1⟩) (fun i=>i≤q.length) (fun i=>q.length - i) 0 ?_ (Nat.zero_le _) fun i hi=>?_
 ·refine aK.ak rfl ?_ ?_<;>simp only [go_sem,Int.natCast_succ,List.length_map]
  all_goals first|rfl|exact ⟨rfl,rfl⟩|trace_state
 have hql:((q.take i).map o7).length=i:=by rw [List.length_map,List.length_take];omega
 by_cases hlt:i<q.length
 ·have f7:((i:Int)<(q.length:Int))=True:=eq_true (by omega)
  have hee:=vG q hlt
  have hst:(q.take (i+1)).map o7=(q.take i).map o7++[o7 (q.getD i NP.zero)]:=by
   rw [List.take_succ_eq_append_getElem hlt,List.map_append,getD_lt hlt];rfl
  generalize q.getD i NP.zero=x at *
  obtain ⟨xn,xw,xh,xp⟩:=x
  have kf:=PI xw xh xp
  have hst2:((q.take (i+1)).map o7).map NP.av=((q.take i).map o7).map NP.av++[[.str xn,.int .i64 (yI xw xh xp).w,.int .i64 (yI xw xh xp).h,.ro (.bools (yI xw xh xp).p)]]:=by rw [hst,List.map_append];rfl
  generalize yI xw xh xp=b at *
  dsimp only at hee
  generalize (q.take i).map o7=A at *
  (repeat' with_reducible first|intro _|refine rz ?_|refine ra ?_ ?_|omega|simp only [go_sem,f7,hee,dM,List.length_map])
  refine ah.f kf 0 ?_
  (repeat' with_reducible first|intro _|refine rz ?_|refine ra ?_ ?_|omega|simp only [go_sem,hql,List.length_map])
  refine ⟨i+1,aK.ak rfl ?_ ?_,by omega,by omega⟩<;>simp only [go_sem,Int.natCast_succ,hst2]
 ·have e:i=q.length:=by omega
  subst e
  have f7:((q.length:Int)<(q.length:Int))=False:=eq_false (by omega)
  rw [List.take_length]
  (repeat' with_reducible first|intro _|refine rz ?_|refine ra ?_ ?_|omega|simp only [go_sem,f7])
  refine bg.auto 1 ?_ rfl ?_<;>simp only [go_sem,Int.natCast_succ,Post]
end Go.Fv.H
/- The laws' first question. -/
namespace Go.Fv.H
open Go Go.Proofs
theorem NW:aC Tryz.prog 11 [] (.bool true) []:=by
 have k:=wO [97]
 refine aC.aJ Tryz.func11 rfl (by decide) (by simp [Tryz.f11]) [.tmp 0] rfl fun w0 T0 _=>?_
 simp only [Tryz.f11,aB]
 have e:dJ [97]=true:=by decide
 rw [e] at k
 (repeat' with_reducible first|intro _|exact dn|refine rn ?_|refine ra ?_ ?_)
 refine ah.k k ?_
 (repeat' with_reducible first|intro _|exact dn|refine rn ?_|refine ra ?_ ?_)
 refine bg.auto 0 ?_ rfl ?_<;>simp only [go_sem,Int.natCast_succ,Post]
end Go.Fv.H
/- strings.Index, strings.Count, by the contracts of the shelf. -/
namespace Go.Proofs
open Go.Shelf
def Tryz.yc:Go.Shelf.Ren:=⟨fun|143=>85|219=>119|217=>163|225=>164|224=>165|267=>166|266=>185|314=>186|n=>n,fun|9=>9|3=>3|4=>4|5=>5|46=>140|146=>194|51=>172|n=>n,fun|1=>0|n=>n⟩
theorem Tryz.lays143:Go.Proofs.LaysM.n143 Tryz.prog Tryz.yc:={
 mixed:=by kernel_rfl
 f143:=Tryz.func85.trans (congrArg some (by kernel_rfl))
 f217:=Tryz.func163.trans (congrArg some (by kernel_rfl))
 f219:=Tryz.func119.trans (congrArg some (by kernel_rfl))
 f224:=Tryz.func165.trans (congrArg some (by kernel_rfl))
 f225:=Tryz.func164.trans (congrArg some (by kernel_rfl))
 f266:=Tryz.func185.trans (congrArg some (by kernel_rfl))
 f267:=Tryz.func166.trans (congrArg some (by kernel_rfl))
 f314:=Tryz.func186.trans (congrArg some (by kernel_rfl))
 t3:=Tryz.underlying3
 a3:=Tryz.isAgg3
 z3:=Tryz.sizeOf3
 v3:=Tryz.zeroValue3
 t4:=Tryz.underlying4
 a4:=Tryz.isAgg4
 z4:=Tryz.sizeOf4
 v4:=Tryz.zeroValue4
 t5:=Tryz.underlying5
 a5:=Tryz.isAgg5
 z5:=Tryz.sizeOf5
 v5:=Tryz.zeroValue5
 t9:=Tryz.underlying9
 a9:=Tryz.isAgg9
 z9:=Tryz.sizeOf9
 v9:=Tryz.zeroValue9
 t46:=Tryz.underlying140
 a46:=Tryz.isAgg140
 z46:=Tryz.sizeOf140
 v46:=Tryz.zeroValue140
 t51:=Tryz.underlying172
 a51:=Tryz.isAgg172
 z51:=Tryz.sizeOf172
 v51:=Tryz.zeroValue172
 t146:=Tryz.underlying194
 a146:=Tryz.isAgg194
 z146:=Tryz.sizeOf194
 v146:=Tryz.zeroValue194
 g1:=by kernel_rfl
 i3:=by kernel_rfl
 i4:=by kernel_rfl
 i5:=by kernel_rfl
 i9:=by kernel_rfl
 i46:=by kernel_rfl
 i51:=by kernel_rfl
 i146:=by kernel_rfl
 m1:=by kernel_rfl
 s1_3:=fun w h=>Go.Proofs.cell_of_shapedOpen_int (zero:=#[.int .i64 0]) (t:=3) h (of_decide_eq_true (by kernel_rfl)) (by kernel_rfl) rfl (by kernel_rfl) (by kernel_rfl) Tryz.underlying3 }
def Tryz.x9:Go.Shelf.Ren:=⟨fun|138=>83|195=>116|218=>117|143=>85|219=>119|217=>163|225=>164|224=>165|267=>166|266=>185|314=>186|n=>n,fun|9=>9|3=>3|4=>4|5=>5|0=>0|46=>140|146=>194|51=>172|n=>n,fun|1=>0|n=>n⟩
theorem Tryz.lays138:Go.Proofs.LaysM.n138 Tryz.prog Tryz.x9:={
 mixed:=by kernel_rfl
 f138:=Tryz.func83.trans (congrArg some (by kernel_rfl))
 f143:=Tryz.func85.trans (congrArg some (by kernel_rfl))
 f195:=Tryz.func116.trans (congrArg some (by kernel_rfl))
 f217:=Tryz.func163.trans (congrArg some (by kernel_rfl))
 f218:=Tryz.func117.trans (congrArg some (by kernel_rfl))
 f219:=Tryz.func119.trans (congrArg some (by kernel_rfl))
 f224:=Tryz.func165.trans (congrArg some (by kernel_rfl))
 f225:=Tryz.func164.trans (congrArg some (by kernel_rfl))
 f266:=Tryz.func185.trans (congrArg some (by kernel_rfl))
 f267:=Tryz.func166.trans (congrArg some (by kernel_rfl))
 f314:=Tryz.func186.trans (congrArg some (by kernel_rfl))
 t0:=Tryz.underlying0
 a0:=Tryz.isAgg0
 z0:=Tryz.sizeOf0
 v0:=Tryz.zeroValue0
 t3:=Tryz.underlying3
 a3:=Tryz.isAgg3
 z3:=Tryz.sizeOf3
 v3:=Tryz.zeroValue3
 t4:=Tryz.underlying4
 a4:=Tryz.isAgg4
 z4:=Tryz.sizeOf4
 v4:=Tryz.zeroValue4
 t5:=Tryz.underlying5
 a5:=Tryz.isAgg5
 z5:=Tryz.sizeOf5
 v5:=Tryz.zeroValue5
 t9:=Tryz.underlying9
 a9:=Tryz.isAgg9
 z9:=Tryz.sizeOf9
 v9:=Tryz.zeroValue9
 t46:=Tryz.underlying140
 a46:=Tryz.isAgg140
 z46:=Tryz.sizeOf140
 v46:=Tryz.zeroValue140
 t51:=Tryz.underlying172
 a51:=Tryz.isAgg172
 z51:=Tryz.sizeOf172
 v51:=Tryz.zeroValue172
 t146:=Tryz.underlying194
 a146:=Tryz.isAgg194
 z146:=Tryz.sizeOf194
 v146:=Tryz.zeroValue194
 g1:=by kernel_rfl
 i0:=by kernel_rfl
 i3:=by kernel_rfl
 i4:=by kernel_rfl
 i5:=by kernel_rfl
 i9:=by kernel_rfl
 i46:=by kernel_rfl
 i51:=by kernel_rfl
 i146:=by kernel_rfl
 m1:=by kernel_rfl
 s1_3:=fun w h=>Go.Proofs.cell_of_shapedOpen_int (zero:=#[.int .i64 0]) (t:=3) h (of_decide_eq_true (by kernel_rfl)) (by kernel_rfl) rfl (by kernel_rfl) (by kernel_rfl) Tryz.underlying3 }
end Go.Proofs
namespace Go.Fv.H
open Go Go.Proofs
theorem PW (s t:List UInt8) (hs:s.length≤100000000):aC Tryz.prog 85 [.str s,.str t] (.int .i64 (Lib.index s t)) []:=by
 refine ⟨⟨_,Tryz.func85,by kernel_rfl,by kernel_rfl⟩,fun w T vals hg hv=>?_⟩
 obtain ⟨m,t0,_,hm⟩:=hg.int (g:=0) (k:=.i64) (by kernel_rfl)
 cases hv with
 | cons _ _ _ _ h1 hv=>cases hv with
  | cons _ _ _ _ h2 hv=>
   cases hv
   cases h1 with
   | str _ e1=>cases h2 with
    | str _ e2=>
     have L:=Tryz.lays143
     refine (Any.strings_Index { L with } ⟨s.toArray⟩ ⟨t.toArray⟩ m w ?_ ?_).mono ?_
     ·show s.toArray.size<4294967281
      simp;omega
     ·simp [World.cell?,Tryz.yc,hm]
     ·rintro e w' ⟨rfl,rfl⟩
      refine ⟨_,rfl,iY.refl _ _,fun _=>undef,0,?_,?_,?_⟩
      ·have h1:=Lib.index_ge s t
       have h2:=Lib.index_le s t
       have e1:IntKind.i64.min=-9223372036854775808:=by decide
       have e2:IntKind.i64.max=9223372036854775807:=by decide
       exact .int .i64 _ ⟨by rw [e1];omega,by rw [e2];omega⟩
      ·intro i it h;cases h
      ·intro i j it jt b h;cases h
theorem Pn (s:List UInt8) (c:UInt8):aC Tryz.prog 83 [.str s,.str [c]] (.int .i64 ((s.count c:Nat):Int)) []:=by
 refine ⟨⟨_,Tryz.func83,by kernel_rfl,by kernel_rfl⟩,fun w T vals hg hv=>?_⟩
 cases hv with
 | cons _ _ _ _ h1 hv=>cases hv with
  | cons _ _ _ _ h2 hv=>
   cases hv
   cases h1 with
   | str _ e1=>cases h2 with
    | str _ e2=>
     have L:=Tryz.lays138
     refine (Any.strings_Count_one { L with } ⟨s.toArray⟩ c w).mono ?_
     rintro e w' ⟨rfl,rfl⟩
     refine ⟨_,rfl,iY.refl _ _,fun _=>undef,0,?_,?_,?_⟩
     ·have h1:s.count c≤s.length:=List.count_le_length
      have h3:s.length≤9223372036854775807:=e1
      have e1:IntKind.i64.min=-9223372036854775808:=by decide
      have e2:IntKind.i64.max=9223372036854775807:=by decide
      exact .int .i64 _ ⟨by rw [e1];omega,by rw [e2];omega⟩
     ·intro i it h;cases h
     ·intro i j it jt b h;cases h
end Go.Fv.H
/- strings.Count at any substring but the empty one. -/
namespace Go.Fv.H
open Go Go.Proofs
theorem Ny (s t:List UInt8) (hs:s.length≤100000000) (ht:2≤t.length):aC Tryz.prog 83 [.str s,.str t] (.int .i64 ((Lib.count s t:Nat):Int)) []:=by
 refine ⟨⟨_,Tryz.func83,by kernel_rfl,by kernel_rfl⟩,fun w T vals hg hv=>?_⟩
 obtain ⟨m,t0,_,hm⟩:=hg.int (g:=0) (k:=.i64) (by kernel_rfl)
 cases hv with
 | cons _ _ _ _ h1 hv=>cases hv with
  | cons _ _ _ _ h2 hv=>
   cases hv
   cases h1 with
   | str _ e1=>cases h2 with
    | str _ e2=>
     have L:=Tryz.lays138
     refine (Any.strings_Count { L with } ⟨s.toArray⟩ ⟨t.toArray⟩ m w ?_ ?_ ?_).mono ?_
     ·show s.toArray.size<4294967281
      simp;omega
     ·simp [World.cell?,Tryz.x9,hm]
     ·show 2≤t.toArray.size
      simp;omega
     ·rintro e w' ⟨rfl,rfl⟩
      have hc:=Lib.count_le s t
      refine ⟨_,rfl,iY.refl _ _,fun _=>undef,0,?_,?_,?_⟩
      ·have e1:IntKind.i64.min=-9223372036854775808:=by decide
       have e2:IntKind.i64.max=9223372036854775807:=by decide
       exact .int .i64 _ ⟨by rw [e1];omega,by rw [e2];omega⟩
      ·intro i it h;cases h
      ·intro i j it jt b h;cases h
theorem Nz (s t:List UInt8) (hs:s.length≤100000000) (ht:1≤t.length):aC Tryz.prog 83 [.str s,.str t] (.int .i64 ((Lib.count s t:Nat):Int)) []:=by
 match t,ht with
 | [c],_=>rw [Lib.count_one];exact Pn s c
 | a::b::r,_=>exact Ny s _ hs (by simp)
end Go.Fv.H
/- strings.Replace, of one place. -/
namespace Go.Fv.H
open Go Go.Proofs
def qE (s f t:List UInt8):List UInt8:=if Lib.index s f=-1 then s else s.take (Lib.index s f).toNat++(t++s.drop ((Lib.index s f).toNat+f.length))
theorem index_room {s f:List UInt8} (hf:f≠[]) (h:¬Lib.index s f=-1):(Lib.index s f).toNat+f.length≤s.length∧0≤Lib.index s f:=by
 have h0:=Lib.index_ge s f
 refine ⟨?_,by omega⟩
 rcases Lib.indexB_cases ⟨s.toArray⟩ ⟨f.toArray⟩ with e|⟨i,e,hi⟩
 ·exact absurd e h
 ·have e:Lib.index s f=(i:Int):=e
  have hi:i+f.length≤s.length:=hi
  rw [e];simpa using hi
theorem Ot (s f t:List UInt8) (hf:f≠[]):(qE s f t).length≤s.length+t.length:=by
 unfold qE
 split
 ·omega
 ·rename_i h
  have:=index_room hf h
  simp only [List.length_append,List.length_take,List.length_drop];omega
theorem NC {s f:List UInt8} (hf:f≠[]):Lib.count s f=0↔Lib.index s f=-1:=by
 constructor
 ·intro h
  rcases Classical.em (Lib.index s f=-1) with e|e
  ·exact e
  ·have h1:=index_room hf e
   have:=Lib.count_hit (i:=(Lib.index s f).toNat) hf (by omega:Lib.index s f=_)
   omega
 ·exact Lib.count_miss
structure RP where
 j:Nat
 b:List UInt8
 st:Nat
set_option maxHeartbeats 8000000 in
theorem Kr (s f t:List UInt8) (hs:s.length≤100000000) (hf:f≠[]) (hfl:f.length≤10) (ht:t≠[]) (htl:t.length≤10) (hne:f≠t):aC Tryz.prog 35 [.str s,.str f,.str t,.int .i64 1] (.str (qE s f t)) []:=by
 have k1:=Nz s f (by omega) (List.length_pos_iff.2 hf)
 have hc0:=@NC s f hf
 have hcl:=Lib.count_le s f
 have hfp:0<f.length:=List.length_pos_iff.2 hf
 have htp:0<t.length:=List.length_pos_iff.2 ht
 refine aC.aJ Tryz.func35 rfl (by decide) (by simp [Tryz.f35]) [.tmp 8] rfl fun w0 T0 _=>?_
 simp only [Tryz.f35,aB]
 (repeat' with_reducible first|intro _|refine rz ?_|refine ra ?_ ?_|omega|simp only [go_sem,hne])
 refine ah.k k1 ?_
 by_cases h0:Lib.index s f=-1
 ·have hz:Lib.count s f=0:=hc0.2 h0
  have hr:qE s f t=s:=by unfold qE;rw [if_pos h0]
  rw [hz]
  (repeat' with_reducible first|intro _|exact dn|refine rn ?_|refine ra ?_ ?_)
  refine bg.auto 0 ?_ rfl ?_<;>simp only [go_sem,Int.natCast_succ,Post,hr]
 have hz:¬Lib.count s f=0:=fun e=>h0 (hc0.1 e)
 obtain ⟨hi1,hi2⟩:=index_room hf h0
 have ki:=PW s f (by omega)
 obtain ⟨i,hi⟩:∃ i:Nat,Lib.index s f=i:=⟨(Lib.index s f).toNat,by omega⟩
 have hr:qE s f t=s.take i++(t++s.drop (i+f.length)):=by unfold qE;rw [if_neg h0,hi];rfl
 rw [hi] at ki hi1 hi2 h0
 simp only [Int.toNat_natCast] at hi1
 generalize Lib.count s f=C at *
 have hn:((s.length:Int)+1*((t.length:Int) - (f.length:Int)))=((s.length+t.length - f.length:Nat):Int):=by omega
 have kg:=KW (s.length+t.length - f.length) (by omega) (by omega)
 (repeat' with_reducible first|intro _|refine rz ?_|refine ra ?_ ?_|omega|simp only [go_sem,hn])
 refine ah.i [0] kg 2 ?_
 (repeat' with_reducible first|intro _|exact dn|refine rn ?_|refine ra ?_ ?_)
 refine aH.intro (fun x:RP=>⟨104,[(0,.str s),(1,.str f),(2,.str t),(10,.ptr 0 0),(11,.int .i64 x.st),(52,.int .i64 1),(53,.int .i64 x.j)],[(0,.box 89 [.ptr 0 0,.own 1]),(1,.row 5 (.ints .u8 (aj x.b)))],2⟩) (fun x=>(x.j=0∧x.b=[]∧x.st=0)∨(x.j=1∧x.b=s.take i++t∧x.st=i+f.length)) (fun x=>1 - x.j) ⟨0,[],0⟩ ?_ (.inl ⟨rfl,rfl,rfl⟩) fun x hx=>?_
 ·refine aK.ak rfl ?_ ?_<;>simp only [go_sem,Int.natCast_succ,aj,List.map_nil]
 obtain ⟨j,b,st⟩:=x
 dsimp only at hx ⊢
 rcases hx with ⟨rfl,rfl,rfl⟩|⟨rfl,rfl,rfl⟩
 ·have kw1:=bK [] (s.take i) (by simp) (by simp;omega)
  have kw2:=bK ([]++s.take i) t (by simp;omega) (by omega)
  (repeat' with_reducible first|intro _|refine rz ?_|refine ra ?_ ?_|omega|simp only [go_sem,Nat.sub_zero,List.take_length,Int.zero_add,Int.toNat_natCast])
  refine ah.fr (args':=[.str s,.str f]) (fD.iF ki rfl rfl) (by simp only [aI,aO,bT,aT,aF,List.drop_zero,lk,reduceIte,reduceCtorEq,Nat.reduceEqDiff,Option.some.injEq,Item.row.injEq,Item.box.injEq,AV.ro.injEq,exists_eq_left,exists_and_left,exists_eq_left',exists_eq_right,and_assoc,and_true,true_and,List.cons.injEq,exists_eq',exists_eq]) 0 rfl (by simp [gG,Item.below,Fv.below,aP,gQ]) ?_
  (repeat' with_reducible first|intro _|refine rz ?_|refine ra ?_ ?_|omega|simp only [go_sem,Nat.sub_zero,List.take_length,Int.zero_add,Int.toNat_natCast])
  refine ah.i [0,1] kw1 3 ?_
  (repeat' with_reducible first|intro _|exact dn|refine rn ?_|refine ra ?_ ?_)
  refine ah.i [0,2] kw2 3 ?_
  (repeat' with_reducible first|intro _|exact dn|refine rn ?_|refine ra ?_ ?_)
  refine ⟨⟨1,s.take i++t,i+f.length⟩,aK.ak rfl ?_ ?_,.inr ⟨rfl,rfl,rfl⟩,by simp⟩<;>simp only [go_sem,Int.natCast_succ,Int.natCast_add,Int.zero_add,Int.cast_ofNat_Int]
 ·have kw1:=bK (s.take i++t) (s.drop (i+f.length)) (by simp;omega) (by simp;omega)
  have ks:=eF (s.take i++t++s.drop (i+f.length)) (by simp;omega)
  have hdr:List.take (s.length - (i+f.length)) (List.drop (i+f.length) s)=List.drop (i+f.length) s:=List.take_of_length_le (by simp)
  (repeat' with_reducible first|intro _|refine rz ?_|refine ra ?_ ?_|omega|simp only [go_sem,hdr])
  refine ah.i [0,1] kw1 3 ?_
  (repeat' with_reducible first|intro _|exact dn|refine rn ?_|refine ra ?_ ?_)
  refine ah.i [0,2] ks 2 ?_
  (repeat' with_reducible first|intro _|exact dn|refine rn ?_|refine ra ?_ ?_)
  refine bg.auto 0 ?_ rfl ?_<;>simp only [go_sem,Int.natCast_succ,Post,hr,List.append_assoc]
end Go.Fv.H
/- ArchivesGrow: the law. -/
namespace Go.Fv.H
open Go Go.Proofs
theorem Td (l:List (Bytes × Bytes)):(bF (qE (iR l) [70,66,65,49] [70,66,65,50])).2≠0:=by
 intro h
 have hm:=(uX h).mag
 obtain ⟨T,hT⟩:∃ T,iR l=70::66::65::49::T:=by
  refine ⟨bP 2 l.length++l.flatMap jJ++(dL l++jc (hdB l)),?_⟩
  unfold iR hdB qp
  rfl
 rw [hT] at hm
 have hi:Lib.index (70::66::65::49::T) [70,66,65,49]=0:=by
  unfold Lib.index
  rw [if_pos (by simp [List.isPrefixOf])]
 unfold qE at hm
 rw [hi] at hm
 exact absurd hm (by
  rw [if_neg (by decide)]
  show ¬([70,66,65,50]:Bytes)=qp
  decide)
set_option maxHeartbeats 16000000 in
theorem yF (l0:List NP) (y:NP) (kind:Int) (dm:Bool):aC Tryz.prog 7 [.ro (Jf l0),.agg [.str y.n,.int .i64 y.W,.int .i64 y.H,.ro (.bools y.p)],.int .i64 kind,.bool dm] (.bool true) []:=by
 have kn:=named_ok l0
 obtain ⟨L,hL⟩:∃ L,WL l0=L:=⟨_,rfl⟩
 have hL6:=TT l0
 rw [hL] at kn hL6
 have kf:=PI y.W y.H y.p
 obtain ⟨x,hx⟩:∃ x,o7 y=x:=⟨_,rfl⟩
 have kq:=Az L 5
 have hpl:(fA L 5).2=0→(fA L 5).1.length≤4194304∧(bF (qE (fA L 5).1 [70,66,65,49] [70,66,65,50])).2≠0:=fun h=>by
  obtain ⟨e,hA,_⟩:=yT h
  rw [e];exact ⟨hA.long,Td _⟩
 have hap:=fun (h:(fA L 5).2=0)=>OU (x:=x) h
 generalize fA L 5=R at *
 obtain ⟨A,e⟩:=R
 dsimp only at kq hpl hap
 have kp5:=MQ (L++[x]) 5
 have hmap:L.map NP.av++[[.str x.n,.int .i64 x.W,.int .i64 x.H,.ro (.bools x.p)]]=(L++[x]).map NP.av:=by rw [List.map_append];rfl
 obtain ⟨yn,yw,yh,yp⟩:=y
 unfold o7 at hx
 dsimp only at kf hx
 generalize yI yw yh yp=b at *
 subst hx
 dsimp only at hmap
 refine aC.aJ Tryz.func7 rfl (by decide) (by simp [Tryz.f7]) [.tmp 8] rfl fun w0 T0 _=>?_
 simp only [Tryz.f7,aB]
 (repeat' with_reducible first|intro _|exact dn|refine rn ?_|refine ra ?_ ?_)
 refine ah.k NW ?_
 (repeat' with_reducible first|intro _|exact dn|refine rn ?_|refine ra ?_ ?_)
 refine ah.shr kn (by simp only [aI,aO,bT,aT,aF,List.drop_zero,lk,reduceIte,reduceCtorEq,Nat.reduceEqDiff,Option.some.injEq,Item.row.injEq,Item.box.injEq,AV.ro.injEq,exists_eq_left,exists_and_left,exists_eq_left',exists_eq_right,and_assoc,and_true,true_and,List.cons.injEq,exists_eq',exists_eq]) 1 rfl (by simp [gG,Item.below,gQ]) ?_
 (repeat' with_reducible first|intro _|exact dn|refine rn ?_|refine ra ?_ ?_)
 refine ah.f kf 0 ?_
 (repeat' with_reducible first|intro _|exact dn|refine rn ?_|refine ra ?_ ?_)
 refine ah.k kq ?_
 by_cases he:e=0
 rotate_left
 ·have f1:(e=0)=False:=eq_false he
  (repeat' with_reducible first|intro _|refine rz ?_|refine ra ?_ ?_|omega|simp only [go_sem,f1])
  refine bg.auto 0 ?_ rfl ?_<;>simp only [go_sem,Int.natCast_succ,Post]
 obtain ⟨hAl,hdm⟩:=hpl he
 have hap2:=hap he
 subst he
 clear hpl kq kn kf
 cases dm with
 | true=>
  have kr:=Kr A [70,66,65,49] [70,66,65,50] (by omega) (by decide) (by decide) (by decide) (by decide) (by decide)
  have hrl:=Ot A [70,66,65,49] [70,66,65,50] (by decide)
  generalize qE A [70,66,65,49] [70,66,65,50]=B at *
  have ka:=OT B (by simp at hrl;omega) ⟨yn,b.w,b.h,b.p⟩ kind
  have kt:=Gl B (by simp at hrl;omega) ⟨yn,b.w,b.h,b.p⟩ kind
  have hR2:(pF B ⟨yn,b.w,b.h,b.p⟩ kind).2≠0:=by
   unfold pF
   rw [if_pos hdm]
   exact hdm
  generalize pF B ⟨yn,b.w,b.h,b.p⟩ kind=Q at *
  dsimp only at ka kt
  have f2:(Q.2=0)=False:=eq_false hR2
  (repeat' with_reducible first|intro _|exact dn|refine rn ?_|refine ra ?_ ?_)
  refine ah.k kr ?_
  (repeat' with_reducible first|intro _|exact dn|refine rn ?_|refine ra ?_ ?_)
  refine ah.k ka ?_
  (repeat' with_reducible first|intro _|exact dn|refine rn ?_|refine ra ?_ ?_)
  refine ah.k kt ?_
  (repeat' with_reducible first|intro _|refine rz ?_|refine ra ?_ ?_|omega|simp only [go_sem,f2])
  refine bg.auto 0 ?_ rfl ?_<;>simp only [go_sem,Int.natCast_succ,Post]
 | false=>
  have ka:=OT A (by omega) ⟨yn,b.w,b.h,b.p⟩ kind
  have kt:=Gl A (by omega) ⟨yn,b.w,b.h,b.p⟩ kind
  by_cases h5:kind=5
  rotate_left
  ·have f3:(kind=5)=False:=eq_false h5
   generalize pF A ⟨yn,b.w,b.h,b.p⟩ kind=Q at *
   dsimp only at ka kt
   by_cases h2:Q.2=0
   ·have f2:(Q.2=0)=True:=eq_true h2
    (repeat' with_reducible first|intro _|exact dn|refine rn ?_|refine ra ?_ ?_)
    refine ah.k ka ?_
    (repeat' with_reducible first|intro _|exact dn|refine rn ?_|refine ra ?_ ?_)
    refine ah.k kt ?_
    (repeat' with_reducible first|intro _|refine rz ?_|refine ra ?_ ?_|omega|simp only [go_sem,f2,f3])
    refine bg.auto 0 ?_ rfl ?_<;>simp only [go_sem,Int.natCast_succ,Post]
   ·have f2:(Q.2=0)=False:=eq_false h2
    (repeat' with_reducible first|intro _|exact dn|refine rn ?_|refine ra ?_ ?_)
    refine ah.k ka ?_
    (repeat' with_reducible first|intro _|exact dn|refine rn ?_|refine ra ?_ ?_)
    refine ah.k kt ?_
    (repeat' with_reducible first|intro _|refine rz ?_|refine ra ?_ ?_|omega|simp only [go_sem,f2,f3])
    refine bg.auto 0 ?_ rfl ?_<;>simp only [go_sem,Int.natCast_succ,Post]
  subst h5
  by_cases h2:(pF A ⟨yn,b.w,b.h,b.p⟩ 5).2=0
  ·rw [←hap2 h2] at kp5
   generalize pF A ⟨yn,b.w,b.h,b.p⟩ 5=Q at *
   dsimp only at ka kt
   have f2:(Q.2=0)=True:=eq_true h2
   (repeat' with_reducible first|intro _|exact dn|refine rn ?_|refine ra ?_ ?_)
   refine ah.k ka ?_
   (repeat' with_reducible first|intro _|exact dn|refine rn ?_|refine ra ?_ ?_)
   refine ah.k kt ?_
   (repeat' with_reducible first|intro _|refine rz ?_|refine ra ?_ ?_|omega|simp only [go_sem,f2,List.length_map,hmap])
   refine ah.k kp5 ?_
   (repeat' with_reducible first|intro _|refine rz ?_|refine ra ?_ ?_|omega|simp only [go_sem,f2])
   refine bg.auto 0 ?_ rfl ?_<;>simp only [go_sem,Int.natCast_succ,Post]
  ·generalize pF A ⟨yn,b.w,b.h,b.p⟩ 5=Q at *
   dsimp only at ka kt
   have f2:(Q.2=0)=False:=eq_false h2
   (repeat' with_reducible first|intro _|exact dn|refine rn ?_|refine ra ?_ ?_)
   refine ah.k ka ?_
   (repeat' with_reducible first|intro _|exact dn|refine rn ?_|refine ra ?_ ?_)
   refine ah.k kt ?_
   (repeat' with_reducible first|intro _|refine rz ?_|refine ra ?_ ?_|omega|simp only [go_sem,f2])
   refine bg.auto 0 ?_ rfl ?_<;>simp only [go_sem,Int.natCast_succ,Post]
end Go.Fv.H
