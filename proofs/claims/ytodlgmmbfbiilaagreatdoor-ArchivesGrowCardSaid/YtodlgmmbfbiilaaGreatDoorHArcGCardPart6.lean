/-
  A part of the proof of the claim: walks over the program's functions and the plain laws that these need. No condition of its own.
-/
import Derived.Test.YtodlgmmbfbiilaaGreatDoorHArcGCardPart5
import Derived.Test.YtodlgmmbfbiilaaGreatDoorFvPart12
import Derived.Test.YtodlgmmbfbiilaaGreatDoorHArcGCardPart3
import Derived.Test.YtodlgmmbfbiilaaGreatDoorHArcGCardPart4
set_option linter.unusedSimpArgs false
set_option linter.unusedVariables false
set_option linter.unnecessarySimpa false
set_option maxRecDepth 8000
/- strings.Builder: what its methods do to a caller's builder. -/
namespace Go.Fv.H
open Go Go.Proofs
theorem XC {a it:Item} {i:Nat} (h:lk [(0,a)] i=some it):i=0∧it=a:=by
 simp only [lk] at h
 split at h
 ·rename_i e;exact ⟨e.symm,(Option.some.inj h).symm⟩
 ·cases h
theorem Xd {a b it:Item} {i:Nat} (h:lk [(0,a),(1,b)] i=some it):(i=0∧it=a)∨(i=1∧it=b):=by
 simp only [lk] at h
 split at h
 ·rename_i e;exact .inl ⟨e.symm,(Option.some.inj h).symm⟩
 ·split at h
  ·rename_i e;exact .inr ⟨e.symm,(Option.some.inj h).symm⟩
  ·cases h
theorem oD:gU Tryz.prog 96 [.ptr 0 0] [(0,.box 89 [.raw (.pointer none),.nilS])] 1 (.tup []) [(0,.box 89 [.ptr 0 0,.nilS])]:=by
 refine ⟨⟨_,Tryz.func96,by kernel_rfl,by kernel_rfl⟩,fun w T g m0 vals ⟨hrow,_,hd⟩ hgl hng hv=>?_⟩
 obtain ⟨_,g0,vs,hm,hO,hl,hh⟩:=hrow 0 _ rfl
 cases hv with
 | cons _ v0 _ vs0 h0 hvs=>
 cases hvs
 cases h0 with
 | ptr _ _ gp hi hg=>
 have hg:blk (m0 0)=some gp:=hg
 rw [hm] at hg
 cases hg
 cases hl with
 | cons _ a _ _ ha _ hl=>
 cases ha
 cases hl with
 | cons _ b _ _ hb _ hl=>
 cases hb
 cases hl
 have hh':w.heap[g0]?=some (.cells #[.pointer none,.slice none 0 0] 89 (0,0)):=hh
 refine (Nw g0 w (by simp [World.cell?,hh']) (by simp [World.shape?,hh']) (by simp [World.frozen?,hh'])).mono ?_
 rintro e w' ⟨rfl,rfl⟩
 refine ⟨_,rfl,⟨rfl,rfl,rfl,by simp [World.setCell],trivial,fun k hk hn=>Bc w g0 k _ fun e=>hn (e▸hO)⟩,m0,1,fun _ _=>rfl,Nat.le_refl _,.tup [] [] .nil,fun i it hi=>?_,fun i j it jt b hi hj _ _=>?_⟩
 ·obtain ⟨rfl,rfl⟩:=XC hi
  refine ⟨Nat.one_pos,g0,[.pointer (some ⟨g0,0,none⟩),.slice none 0 0],hm,.inr ⟨hO,.inr hO⟩,?_,Fj w g0 _ _ _ _ hh'⟩
  exact .cons _ _ _ _ (.ptr 0 0 g0 Nat.one_pos (by show blk (m0 0)=some g0;rw [hm];rfl)) rfl (.cons _ _ _ _ .nilS rfl .nil)
 ·rw [(XC hi).1,(XC hj).1]
theorem xP (e:TypeId) (l:List Int):gU Tryz.prog 96 [.ptr 0 0] [(0,.box 89 [.ptr 0 0,.own 1]),(1,.row e (.ints .u8 l))] 2 (.tup []) [(0,.box 89 [.ptr 0 0,.own 1]),(1,.row e (.ints .u8 l))]:=by
 refine ⟨⟨_,Tryz.func96,by kernel_rfl,by kernel_rfl⟩,fun w T g m0 vals ⟨hrow,hsep,hd⟩ hgl hng hv=>?_⟩
 obtain ⟨_,g0,vs,hm,hO,hl,hh⟩:=hrow 0 _ rfl
 obtain ⟨_,n,cells,hr,hn,how,hO2⟩:=hrow 1 _ rfl
 cases hv with
 | cons _ v0 _ vs0 h0 hvs=>
 cases hvs
 cases h0 with
 | ptr _ _ gp hi hg=>
 have hg:blk (m0 0)=some gp:=hg
 rw [hm] at hg
 cases hg
 cases hl with
 | cons _ a _ _ ha _ hl=>
 cases ha with
 | ptr _ _ ga _ hga=>
 have hga:blk (m0 0)=some ga:=hga
 rw [hm] at hga
 cases hga
 cases hl with
 | cons _ b _ _ hb hb1 hl=>
 cases hl
 have hh':w.heap[g0]?=some (.cells #[.pointer (some ⟨g0,0,none⟩),b] 89 (0,0)):=hh
 refine (Pm g0 w (by simp [World.cell?,hh'])).mono ?_
 rintro e w' ⟨rfl,rfl⟩
 refine ⟨_,rfl,bn.refl _ _,m0,2,fun _ _=>rfl,Nat.le_refl _,.tup [] [] .nil,fun i it hi=>?_,fun i j it jt b hi hj h1 h2=>?_⟩
 ·rcases Xd hi with ⟨rfl,rfl⟩|⟨rfl,rfl⟩
  ·refine ⟨by decide,g0,[.pointer (some ⟨g0,0,none⟩),b],hm,.inr ⟨hO,.inr hO⟩,?_,hh'⟩
   cases hb with
   | own _ h5 h6=>exact .cons _ _ _ _ (.ptr 0 0 g0 (show 0<2 by decide) (by show blk (m0 0)=some g0;rw [hm];rfl)) rfl (.cons _ _ _ _ (.own 1 (show 1<2 by decide) h6) hb1 .nil)
  ·refine ⟨by decide,n,cells,?_,hn,how,fun b hb=>.inr ⟨hO2 b hb,.inr (hO2 b hb)⟩⟩
   cases hr with
   | ints _ _ h7=>exact .ints _ _ h7
 ·exact hsep i j it jt b hi hj h1 h2
theorem Po {a b:Item}:∀ j,j<2→∃ it,lk [(0,a),(1,b)] j=some it:=fun j hj=>by
 have:j=0∨j=1:=by omega
 rcases this with rfl|rfl
 ·exact ⟨a,rfl⟩
 ·exact ⟨b,rfl⟩
theorem Gz {a:Item}:∀ j,j<1→∃ it,lk [(0,a)] j=some it:=fun j hj=>by
 obtain rfl:j=0:=by omega
 exact ⟨a,rfl⟩
set_option maxHeartbeats 2000000 in
theorem eG (s:List UInt8) (hs:s.length≤100000000000):gU Tryz.prog 60 [.ptr 0 0,.str s] [(0,.box 89 [.raw (.pointer none),.nilS])] 1 (.tup [.int .i64 s.length,.raw .nilIface]) [(0,.box 89 [.ptr 0 0,.own 1]),(1,.row 5 (.ints .u8 (aj s)))]:=by
 have k:=oD
 refine gU.aJ Tryz.func60 rfl (by decide) (by simp [Tryz.f60]) Gz [.tmp 4,.tmp 5] rfl fun w0 T0 _=>?_
 simp only [Tryz.f60,aB]
 (repeat' with_reducible first|intro _|exact dn|refine rn ?_|refine ra ?_ ?_)
 refine ah.i [0] k 1 ?_
 (repeat' with_reducible first|intro _|refine rz ?_|refine ra ?_ ?_|omega|simp only [go_sem,S.PX,nD,nO,zL,Item.ren,ren,gK,List.getElem?_cons_zero,List.getElem?_cons_succ,List.getElem?_nil,List.filter])
 refine kU.of [(1,2)] 3 (by decide) (by decide) ?_ rfl ?_<;>simp only [go_sem,Int.natCast_succ,aj]
set_option maxHeartbeats 2000000 in
theorem bK (b s:List UInt8) (hb:b.length≤100000000000) (hs:s.length≤10000000000):gU Tryz.prog 60 [.ptr 0 0,.str s] [(0,.box 89 [.ptr 0 0,.own 1]),(1,.row 5 (.ints .u8 (aj b)))] 2 (.tup [.int .i64 s.length,.raw .nilIface]) [(0,.box 89 [.ptr 0 0,.own 2]),(2,.row 5 (.ints .u8 (aj (b++s))))]:=by
 have k:=xP 5 (aj b)
 have hbl:=kY b
 have he:aj (b++s)=aj b++s.map (fun b=>(b.toNat:Int)):=by unfold aj;rw [List.map_append]
 generalize aj b=B at *
 generalize aj (b++s)=C at *
 refine gU.aJ Tryz.func60 rfl (by decide) (by simp [Tryz.f60]) Po [.tmp 4,.tmp 5] rfl fun w0 T0 _=>?_
 simp only [Tryz.f60,aB]
 (repeat' with_reducible first|intro _|exact dn|refine rn ?_|refine ra ?_ ?_)
 refine ah.i [0,1] k 2 ?_
 (repeat' with_reducible first|intro _|exact dn|refine rn ?_|refine ra ?_ ?_)
 refine kU.of [(2,2)] 3 (by decide) (by decide) ?_ rfl ?_<;>simp only [go_sem,Int.natCast_succ,he]
set_option maxHeartbeats 2000000 in
theorem gq:gU Tryz.prog 57 [.ptr 0 0] [(0,.box 89 [.raw (.pointer none),.nilS])] 1 (.str []) []:=by
 refine gU.aJ Tryz.func57 rfl (by decide) (by simp [Tryz.f57]) Gz [.tmp 2] rfl fun w0 T0 _=>?_
 simp only [Tryz.f57,aB]
 (repeat' with_reducible first|intro _|exact dn|refine rn ?_|refine ra ?_ ?_)
 refine bC.lex [] [] (by kernel_rfl) (by kernel_rfl) ?_
 (repeat' with_reducible first|intro _|exact dn|refine rn ?_|refine ra ?_ ?_)
 refine QV.intro (.raw (.pointer none)) ?_ ?_
 ·(repeat' with_reducible first|intro _|exact dn|refine rn ?_|refine ra ?_ ?_)
 (repeat' with_reducible first|intro _|exact dn|refine rn ?_|refine ra ?_ ?_)
 refine QV.intro (.str []) ?_ ?_
 ·(repeat' with_reducible first|intro _|exact dn|refine rn ?_|refine ra ?_ ?_)
 (repeat' with_reducible first|intro _|exact dn|refine rn ?_|refine ra ?_ ?_)
 refine kU.auto 1 (Nat.le_refl 1) ?_ rfl ?_<;>simp only [go_sem,Int.natCast_succ]
set_option maxHeartbeats 2000000 in
theorem eF (b:List UInt8) (hb:0<b.length):gU Tryz.prog 57 [.ptr 0 0] [(0,.box 89 [.ptr 0 0,.own 1]),(1,.row 5 (.ints .u8 (aj b)))] 2 (.str b) []:=by
 have hbl:=kY b
 have hz:((aj b).map fun n=>UInt8.ofNat n.toNat)=b:=wE b
 have hne:aj b≠[]:=fun e=>by rw [e] at hbl;simp at hbl;omega
 generalize aj b=B at *
 refine gU.aJ Tryz.func57 rfl (by decide) (by simp [Tryz.f57]) Po [.tmp 2] rfl fun w0 T0 _=>?_
 simp only [Tryz.f57,aB]
 (repeat' with_reducible first|intro _|exact dn|refine rn ?_|refine ra ?_ ?_)
 refine bC.lex [10] [] (by kernel_rfl) (by kernel_rfl) ?_
 (repeat' with_reducible first|intro _|refine rz ?_|refine ra ?_ ?_|omega|simp only [go_sem,hne,hbl,hz])
 refine QV.intro (.elt 1 1 0 0) ?_ ?_
 ·(repeat' with_reducible first|intro _|refine rz ?_|refine ra ?_ ?_|omega|simp only [go_sem,hne,hbl,hz])
 (repeat' with_reducible first|intro _|refine rz ?_|refine ra ?_ ?_|omega|simp only [go_sem,hne,hbl,hz])
 trace_state
 refine QE.intro (.str b) [(2,.row 5 (.ints .u8 [])),(0,.box 89 [.ptr 0 0,.own 1])] 3 ?_ ?_
 ·(repeat' with_reducible first|intro _|refine rz ?_|refine ra ?_ ?_|omega|simp only [go_sem,hne,hbl,hz])
 (repeat' with_reducible first|intro _|refine rz ?_|refine ra ?_ ?_|omega|simp only [go_sem,hne,hbl,hz])
 refine kU.auto 2 (Nat.le_refl 2) ?_ rfl ?_<;>simp only [go_sem,Int.natCast_succ]
end Go.Fv.H
/- shrink.line: the walk. -/
namespace Go.Fv.H
open Go Go.Proofs
theorem Au {k:Nat} (h:k≤6):0<(bH.getD k []).length:=by
 have:k=0∨k=1∨k=2∨k=3∨k=4∨k=5∨k=6:=by omega
 rcases this with rfl|rfl|rfl|rfl|rfl|rfl|rfl<;>decide
structure XU where
 p:Nat
 k:Bool
 o:Bytes
 u:Bool
structure X9 (row above:List Bool) (x:XU):Prop where
 s:UO row above ⟨x.p,x.k,x.o⟩
 u1:x.u=true→0<x.o.length
 u2:x.u=false→x.o=[]∧x.p=0
 u3:row.length=0→x.u=false
set_option maxHeartbeats 16000000 in
theorem TJ (row above:List Bool) (hr:row.length≤4000) (hw:above.length=row.length) :
  aC Tryz.prog 151 [.ro (.bools row),.ro (.bools above)] (.str (jv row above)) []:=by
 refine aC.aJ Tryz.func151 rfl (by decide) (by simp [Tryz.f151]) [.tmp 4] rfl fun w0 T0 _=>?_
 simp only [Tryz.f151,aB]
 (repeat' with_reducible first|intro _|exact dn|refine rn ?_|refine ra ?_ ?_)
 refine aH.intro (fun x:XU=>⟨76,[(5,.ptr 0 0),(8,.int .i64 ((x.p:Int) - 1)),(7,.bool x.k),(6,.int .i64 row.length),(1,.ro (.bools above)),(0,.ro (.bools row))],bif x.u then [(0,.box 89 [.ptr 0 0,.own 1]),(1,.row 5 (.ints .u8 (aj x.o)))] else [(0,.box 89 [.raw (.pointer none),.nilS])],bif x.u then 2 else 1⟩) (X9 row above) (fun x=>row.length+1 - x.p) ⟨0,false,[],false⟩ ?_ ⟨⟨by dsimp only;omega,rfl,by simp,fun _=>rfl⟩,(by intro h;cases h),fun _=>⟨rfl,rfl⟩,fun _=>rfl⟩ fun x hI=>?_
 ·refine aK.ak rfl ?_ ?_<;>simp only [go_sem,Int.natCast_succ]
  all_goals first|rfl|exact ⟨rfl,rfl⟩
 obtain ⟨p,k,o,u⟩:=x
 obtain ⟨hI0,hu1,hu2,hu3⟩:=hI
 have hI:=hI0
 obtain ⟨hp,ho,hl,_⟩:=hI
 dsimp only at *
 by_cases hlt:p≤row.length∧0<row.length
 rotate_left
 ·have hres:=hI0.done hlt
  by_cases h0:0<row.length
  ·have f1:((p:Int) - 1<(row.length:Int))=False:=eq_false (by omega)
   cases u with
   | false=>have:=(hu2 rfl).2;omega
   | true=>
    have kst:=eF o (hu1 rfl)
    simp only [cond_true,cond_false,List.cons_append,List.nil_append]
    (repeat' with_reducible first|intro _|refine rz ?_|refine ra ?_ ?_|omega|simp only [go_sem,f1])
    refine ah.i [0,1] kst 2 ?_
    (repeat' with_reducible first|intro _|exact dn|refine rn ?_|refine ra ?_ ?_)
    refine bg.auto 0 ?_ rfl ?_<;>simp only [go_sem,Int.natCast_succ,Post,hres]
  ·have f2:((row.length:Int)=0)=True:=eq_true (by omega)
   have hu:=hu3 (by omega)
   subst hu
   obtain ⟨h0a,h0b⟩:=hu2 rfl
   subst h0a
   have f1:((p:Int) - 1<(row.length:Int))=True:=eq_true (by omega)
   have kst:=gq
   simp only [cond_true,cond_false,List.cons_append,List.nil_append]
   (repeat' with_reducible first|intro _|refine rz ?_|refine ra ?_ ?_|omega|simp only [go_sem,f1,f2])
   refine ah.i [0] kst 1 ?_
   (repeat' with_reducible first|intro _|exact dn|refine rn ?_|refine ra ?_ ?_)
   refine bg.auto 0 ?_ rfl ?_<;>simp only [go_sem,Int.natCast_succ,Post,←hres]
 obtain ⟨hle,hw0⟩:=hlt
 have f1:((p:Int) - 1<(row.length:Int))=True:=eq_true (by omega)
 have f2:((row.length:Int)=0)=False:=eq_false (by omega)
 have k1:=nK row p ((p:Int) - 1) rfl (by omega) hr
 have c1:=iy row p
 have c2:=jo hle
 have k3:=Gw above p ((p:Int) - 1) (!k) rfl (by omega) (by omega)
 obtain ⟨a1,hA⟩:∃ a1,dU row p=a1:=⟨_,rfl⟩
 rw [hA] at k1 c1 c2
 obtain ⟨a2,hA2⟩:∃ a2,dU row (a1+1)=a2:=⟨_,rfl⟩
 have c3:=iy row (a1+1)
 have k2:=nK row (a1+1) (a1:Int) (by omega) (by omega) hr
 rw [hA2] at c3 k2
 have c4:a1≤a2:=by
  by_cases h:a1<row.length
  ·have:=jo (r:=row) (i:=a1+1) (by omega);omega
  ·rw [iW (by omega)] at hA2;omega
 obtain ⟨b1,hB1⟩:∃ b1,fG above p (!k)=b1:=⟨_,rfl⟩
 have hb1:=mX (r:=above) (i:=p) (by omega) (!k)
 rw [hB1] at k3 hb1
 obtain ⟨b2,hB2⟩:∃ b2,dU above (b1+1)=b2:=⟨_,rfl⟩
 have k4:=nK above (b1+1) (b1:Int) (by omega) (by omega) (by omega)
 rw [hB2] at k4
 cases u with
 | true=>
  simp only [cond_true,cond_false,List.cons_append,List.nil_append]
  have hop:=hu1 rfl
  (repeat' with_reducible first|intro _|refine rz ?_|refine ra ?_ ?_|omega|simp only [go_sem,f1,f2])
  refine ah.k k1 ?_
  (repeat' with_reducible first|intro _|exact dn|refine rn ?_|refine ra ?_ ?_)
  refine ah.k k2 ?_
  (repeat' with_reducible first|intro _|exact dn|refine rn ?_|refine ra ?_ ?_)
  refine ah.k k3 ?_
  (repeat' with_reducible first|intro _|exact dn|refine rn ?_|refine ra ?_ ?_)
  refine ah.k k4 ?_
  by_cases s1:b2<a1
  ·have f5:((b2:Int)<(a1:Int))=True:=eq_true (by omega)
   have e:aN row above p k=⟨fP,b2+1,k⟩:=by unfold aN;rw [hB1,hB2,hA,if_pos s1]
   obtain ⟨q1,q2,q3,q4⟩:=hI0.step hw hr hle hw0 e
   have kw2:=bK o ([48,48,48,49]) (by omega) (by decide)
   have hpl:0<fP.length:=by decide
   (repeat' with_reducible first|intro _|refine rz ?_|refine ra ?_ ?_|omega|simp only [go_sem,f5])
   refine ah.i [0,1] kw2 3 ?_
   (repeat' with_reducible first|intro _|exact dn|refine rn ?_|refine ra ?_ ?_)
   refine ⟨⟨b2+1,k,o++fP,true⟩,aK.ak rfl ?_ ?_,⟨q3,fun _=>?_,(by intro h;cases h),fun h=>by omega⟩,by dsimp only;omega⟩
   ·simp only [go_sem,Int.natCast_succ,List.append_assoc,fP]
    all_goals first|rfl|omega|(refine ⟨?_,?_⟩<;>first|rfl|omega)
   ·simp only [go_sem,Int.natCast_succ,List.append_assoc,fP]
    all_goals first|rfl|omega|(refine ⟨?_,?_⟩<;>first|rfl|omega)
   ·dsimp only;rw [List.length_append];omega
  have f5:((b2:Int)<(a1:Int))=False:=eq_false (by omega)
  by_cases s2:a1≤b1+3∧b1≤a1+3
  ·have f6:(-3≤(a1:Int) - (b1:Int))=True:=eq_true (by omega)
   have f7:((a1:Int) - (b1:Int)≤3)=True:=eq_true (by omega)
   have e:aN row above p k=⟨bH.getD (a1+3 - b1) [],a1+1,!k⟩:=by unfold aN;rw [hB1,hB2,hA,if_neg s1,if_pos s2]
   obtain ⟨q1,q2,q3,q4⟩:=hI0.step hw hr hle hw0 e
   have hix:((a1:Int) - (b1:Int)+3).toNat=a1+3 - b1:=by omega
   have hnl:bH.length=7:=rfl
   have hpl:=Au (k:=a1+3 - b1) (by omega)
   have kw2:=bK o (bH.getD (a1+3 - b1) []) (by omega) (by omega)
   generalize hcd:bH.getD (a1+3 - b1) []=cd at *
   (repeat' with_reducible first|intro _|refine rz ?_|refine ra ?_ ?_|omega|simp only [go_sem,f5,f6,f7])
   refine ah.o vk 1 ?_
   (repeat' with_reducible first|intro _|refine rz ?_|refine ra ?_ ?_|omega|simp only [go_sem,hix,hnl,hcd,f6,f7])
   refine ah.i [0,1] kw2 3 ?_
   (repeat' with_reducible first|intro _|exact dn|refine rn ?_|refine ra ?_ ?_)
   refine ⟨⟨a1+1,!k,o++cd,true⟩,aK.ak rfl ?_ ?_,⟨q3,fun _=>?_,(by intro h;cases h),fun h=>by omega⟩,by dsimp only;omega⟩
   ·simp only [go_sem,Int.natCast_succ,List.append_assoc]
    all_goals first|rfl|omega|(refine ⟨?_,?_⟩<;>first|rfl|omega)
   ·simp only [go_sem,Int.natCast_succ,List.append_assoc]
    all_goals first|rfl|omega|(refine ⟨?_,?_⟩<;>first|rfl|omega)
   ·dsimp only;rw [List.length_append];omega
  have e:aN row above p k=⟨fU++(eH (a1 - (p - 1)+1)++eH (a2 - a1+1)),a2+1,k⟩:=by unfold aN;rw [hB1,hB2,hA,if_neg s1,if_neg s2,hA2]
  obtain ⟨q1,q2,q3,q4⟩:=hI0.step hw hr hle hw0 e
  have hmx:max ((p:Int) - 1) 0=((p - 1:Nat):Int):=by omega
  have g1:=qh (a1 - (p - 1)+1) (by omega)
  rw [show ((a1 - (p - 1)+1:Nat):Int)=(a1:Int) - ((p - 1:Nat):Int)+1 by omega] at g1
  have g2:=qh (a2 - a1+1) (by omega)
  rw [show ((a2 - a1+1:Nat):Int)=(a2:Int) - (a1:Int)+1 by omega] at g2
  have hs1:=bU (n:=a1 - (p - 1)+1) (by omega)
  have hs2:=bU (n:=a2 - a1+1) (by omega)
  generalize eH (a1 - (p - 1)+1)=x1 at *
  generalize eH (a2 - a1+1)=x2 at *
  have kw2:=bK o (48::48::49::(x1++x2)) (by omega) (by simp only [List.length_cons,List.length_append];omega)
  have hpl:0<(fU++(x1++x2)).length:=by rw [List.length_append];have:fU.length=3:=rfl;omega
  by_cases s3:a1+3<b1
  ·have f6:(-3≤(a1:Int) - (b1:Int))=False:=eq_false (by omega)
   (repeat' with_reducible first|intro _|refine rz ?_|refine ra ?_ ?_|omega|simp only [go_sem,f5,f6,hmx])
   refine ah.k g1 ?_
   (repeat' with_reducible first|intro _|exact dn|refine rn ?_|refine ra ?_ ?_)
   refine ah.k g2 ?_
   (repeat' with_reducible first|intro _|exact dn|refine rn ?_|refine ra ?_ ?_)
   refine ah.i [0,1] kw2 3 ?_
   (repeat' with_reducible first|intro _|exact dn|refine rn ?_|refine ra ?_ ?_)
   refine ⟨⟨a2+1,k,o++(fU++(x1++x2)),true⟩,aK.ak rfl ?_ ?_,⟨q3,fun _=>?_,(by intro h;cases h),fun h=>by omega⟩,by dsimp only;omega⟩
   ·simp only [go_sem,Int.natCast_succ,List.append_assoc,fU]
    all_goals first|rfl|omega|(refine ⟨?_,?_⟩<;>first|rfl|omega)
   ·simp only [go_sem,Int.natCast_succ,List.append_assoc,fU]
    all_goals first|rfl|omega|(refine ⟨?_,?_⟩<;>first|rfl|omega)
   ·dsimp only;rw [List.length_append];omega
  ·have f6:(-3≤(a1:Int) - (b1:Int))=True:=eq_true (by omega)
   have f7:((a1:Int) - (b1:Int)≤3)=False:=eq_false (by omega)
   (repeat' with_reducible first|intro _|refine rz ?_|refine ra ?_ ?_|omega|simp only [go_sem,f5,f6,f7,hmx])
   refine ah.k g1 ?_
   (repeat' with_reducible first|intro _|exact dn|refine rn ?_|refine ra ?_ ?_)
   refine ah.k g2 ?_
   (repeat' with_reducible first|intro _|exact dn|refine rn ?_|refine ra ?_ ?_)
   refine ah.i [0,1] kw2 3 ?_
   (repeat' with_reducible first|intro _|exact dn|refine rn ?_|refine ra ?_ ?_)
   refine ⟨⟨a2+1,k,o++(fU++(x1++x2)),true⟩,aK.ak rfl ?_ ?_,⟨q3,fun _=>?_,(by intro h;cases h),fun h=>by omega⟩,by dsimp only;omega⟩
   ·simp only [go_sem,Int.natCast_succ,List.append_assoc,fU]
    all_goals first|rfl|omega|(refine ⟨?_,?_⟩<;>first|rfl|omega)
   ·simp only [go_sem,Int.natCast_succ,List.append_assoc,fU]
    all_goals first|rfl|omega|(refine ⟨?_,?_⟩<;>first|rfl|omega)
   ·dsimp only;rw [List.length_append];omega
 | false=>
  simp only [cond_true,cond_false,List.cons_append,List.nil_append]
  obtain ⟨h0a,h0b⟩:=hu2 rfl
  subst h0a
  (repeat' with_reducible first|intro _|refine rz ?_|refine ra ?_ ?_|omega|simp only [go_sem,f1,f2])
  refine ah.k k1 ?_
  (repeat' with_reducible first|intro _|exact dn|refine rn ?_|refine ra ?_ ?_)
  refine ah.k k2 ?_
  (repeat' with_reducible first|intro _|exact dn|refine rn ?_|refine ra ?_ ?_)
  refine ah.k k3 ?_
  (repeat' with_reducible first|intro _|exact dn|refine rn ?_|refine ra ?_ ?_)
  refine ah.k k4 ?_
  by_cases s1:b2<a1
  ·have f5:((b2:Int)<(a1:Int))=True:=eq_true (by omega)
   have e:aN row above p k=⟨fP,b2+1,k⟩:=by unfold aN;rw [hB1,hB2,hA,if_pos s1]
   obtain ⟨q1,q2,q3,q4⟩:=hI0.step hw hr hle hw0 e
   have kw2:=eG ([48,48,48,49]) (by decide)
   have hpl:0<fP.length:=by decide
   (repeat' with_reducible first|intro _|refine rz ?_|refine ra ?_ ?_|omega|simp only [go_sem,f5])
   refine ah.i [0] kw2 2 ?_
   (repeat' with_reducible first|intro _|exact dn|refine rn ?_|refine ra ?_ ?_)
   refine ⟨⟨b2+1,k,[]++fP,true⟩,aK.ak rfl ?_ ?_,⟨q3,fun _=>?_,(by intro h;cases h),fun h=>by omega⟩,by dsimp only;omega⟩
   ·simp only [go_sem,Int.natCast_succ,List.append_assoc,fP]
    all_goals first|rfl|omega|(refine ⟨?_,?_⟩<;>first|rfl|omega)
   ·simp only [go_sem,Int.natCast_succ,List.append_assoc,fP]
    all_goals first|rfl|omega|(refine ⟨?_,?_⟩<;>first|rfl|omega)
   ·dsimp only;rw [List.length_append];omega
  have f5:((b2:Int)<(a1:Int))=False:=eq_false (by omega)
  by_cases s2:a1≤b1+3∧b1≤a1+3
  ·have f6:(-3≤(a1:Int) - (b1:Int))=True:=eq_true (by omega)
   have f7:((a1:Int) - (b1:Int)≤3)=True:=eq_true (by omega)
   have e:aN row above p k=⟨bH.getD (a1+3 - b1) [],a1+1,!k⟩:=by unfold aN;rw [hB1,hB2,hA,if_neg s1,if_pos s2]
   obtain ⟨q1,q2,q3,q4⟩:=hI0.step hw hr hle hw0 e
   have hix:((a1:Int) - (b1:Int)+3).toNat=a1+3 - b1:=by omega
   have hnl:bH.length=7:=rfl
   have hpl:=Au (k:=a1+3 - b1) (by omega)
   have kw2:=eG (bH.getD (a1+3 - b1) []) (by omega)
   generalize hcd:bH.getD (a1+3 - b1) []=cd at *
   (repeat' with_reducible first|intro _|refine rz ?_|refine ra ?_ ?_|omega|simp only [go_sem,f5,f6,f7])
   refine ah.o vk 1 ?_
   (repeat' with_reducible first|intro _|refine rz ?_|refine ra ?_ ?_|omega|simp only [go_sem,hix,hnl,hcd,f6,f7])
   refine ah.i [0] kw2 2 ?_
   (repeat' with_reducible first|intro _|exact dn|refine rn ?_|refine ra ?_ ?_)
   refine ⟨⟨a1+1,!k,[]++cd,true⟩,aK.ak rfl ?_ ?_,⟨q3,fun _=>?_,(by intro h;cases h),fun h=>by omega⟩,by dsimp only;omega⟩
   ·simp only [go_sem,Int.natCast_succ,List.append_assoc]
    all_goals first|rfl|omega|(refine ⟨?_,?_⟩<;>first|rfl|omega)
   ·simp only [go_sem,Int.natCast_succ,List.append_assoc]
    all_goals first|rfl|omega|(refine ⟨?_,?_⟩<;>first|rfl|omega)
   ·dsimp only;rw [List.length_append];omega
  have e:aN row above p k=⟨fU++(eH (a1 - (p - 1)+1)++eH (a2 - a1+1)),a2+1,k⟩:=by unfold aN;rw [hB1,hB2,hA,if_neg s1,if_neg s2,hA2]
  obtain ⟨q1,q2,q3,q4⟩:=hI0.step hw hr hle hw0 e
  have hmx:max ((p:Int) - 1) 0=((p - 1:Nat):Int):=by omega
  have g1:=qh (a1 - (p - 1)+1) (by omega)
  rw [show ((a1 - (p - 1)+1:Nat):Int)=(a1:Int) - ((p - 1:Nat):Int)+1 by omega] at g1
  have g2:=qh (a2 - a1+1) (by omega)
  rw [show ((a2 - a1+1:Nat):Int)=(a2:Int) - (a1:Int)+1 by omega] at g2
  have hs1:=bU (n:=a1 - (p - 1)+1) (by omega)
  have hs2:=bU (n:=a2 - a1+1) (by omega)
  generalize eH (a1 - (p - 1)+1)=x1 at *
  generalize eH (a2 - a1+1)=x2 at *
  have kw2:=eG (48::48::49::(x1++x2)) (by simp only [List.length_cons,List.length_append];omega)
  have hpl:0<(fU++(x1++x2)).length:=by rw [List.length_append];have:fU.length=3:=rfl;omega
  by_cases s3:a1+3<b1
  ·have f6:(-3≤(a1:Int) - (b1:Int))=False:=eq_false (by omega)
   (repeat' with_reducible first|intro _|refine rz ?_|refine ra ?_ ?_|omega|simp only [go_sem,f5,f6,hmx])
   refine ah.k g1 ?_
   (repeat' with_reducible first|intro _|exact dn|refine rn ?_|refine ra ?_ ?_)
   refine ah.k g2 ?_
   (repeat' with_reducible first|intro _|exact dn|refine rn ?_|refine ra ?_ ?_)
   refine ah.i [0] kw2 2 ?_
   (repeat' with_reducible first|intro _|exact dn|refine rn ?_|refine ra ?_ ?_)
   refine ⟨⟨a2+1,k,[]++(fU++(x1++x2)),true⟩,aK.ak rfl ?_ ?_,⟨q3,fun _=>?_,(by intro h;cases h),fun h=>by omega⟩,by dsimp only;omega⟩
   ·simp only [go_sem,Int.natCast_succ,List.append_assoc,fU]
    all_goals first|rfl|omega|(refine ⟨?_,?_⟩<;>first|rfl|omega)
   ·simp only [go_sem,Int.natCast_succ,List.append_assoc,fU]
    all_goals first|rfl|omega|(refine ⟨?_,?_⟩<;>first|rfl|omega)
   ·dsimp only;rw [List.length_append];omega
  ·have f6:(-3≤(a1:Int) - (b1:Int))=True:=eq_true (by omega)
   have f7:((a1:Int) - (b1:Int)≤3)=False:=eq_false (by omega)
   (repeat' with_reducible first|intro _|refine rz ?_|refine ra ?_ ?_|omega|simp only [go_sem,f5,f6,f7,hmx])
   refine ah.k g1 ?_
   (repeat' with_reducible first|intro _|exact dn|refine rn ?_|refine ra ?_ ?_)
   refine ah.k g2 ?_
   (repeat' with_reducible first|intro _|exact dn|refine rn ?_|refine ra ?_ ?_)
   refine ah.i [0] kw2 2 ?_
   (repeat' with_reducible first|intro _|exact dn|refine rn ?_|refine ra ?_ ?_)
   refine ⟨⟨a2+1,k,[]++(fU++(x1++x2)),true⟩,aK.ak rfl ?_ ?_,⟨q3,fun _=>?_,(by intro h;cases h),fun h=>by omega⟩,by dsimp only;omega⟩
   ·simp only [go_sem,Int.natCast_succ,List.append_assoc,fU]
    all_goals first|rfl|omega|(refine ⟨?_,?_⟩<;>first|rfl|omega)
   ·simp only [go_sem,Int.natCast_succ,List.append_assoc,fU]
    all_goals first|rfl|omega|(refine ⟨?_,?_⟩<;>first|rfl|omega)
   ·dsimp only;rw [List.length_append];omega
end Go.Fv.H
/- shrink.dataOf: the walk. -/
namespace Go.Fv.H
open Go Go.Proofs
theorem tH {row above:List Bool} (hr:row.length≤4000) (hw:above.length=row.length):(jv row above).length≤100*(row.length+1):=by
 have key:∀ (f p:Nat) (ink:Bool),row.length+1 - p≤f→(yL row above p ink).length≤100*f:=by
  intro f
  induction f with
  | zero=>intro p ink h;rw [lY (by omega)];simp
  | succ f ih=>
   intro p ink h
   by_cases hp:p≤row.length
   ·have hs:=lM hw hp ink
    have hsh:=uZ (above:=above) hr p ink
    rw [nT hw hp,List.length_append]
    have:=ih (aN row above p ink).p (aN row above p ink).k (by omega)
    omega
   ·rw [lY hp];simp
 unfold jv
 split
 ·simp
 ·exact key (row.length+1) 0 false (by omega)
theorem zi {w h:Nat} {p:List Bool} (hp:p.length=w*h) {y:Nat} (hy:y<h):(yC w p y).length=w:=by
 unfold yC
 split
 ·exact List.length_replicate
 ·exact iH hp (by omega)
theorem mY (w:Nat) (p:List Bool) (y:Nat):dX w p (y+1)=dX w p y++jv (rowP w p y) (yC w p y):=by
 unfold dX;rw [List.range_succ,List.flatMap_append];simp
theorem oU (w:Nat) (p:List Bool) (y:Nat):iQ w p (y+1)=iQ w p y++dZ (jA (rowP w p y)):=by
 unfold iQ;rw [List.range_succ,List.flatMap_append];simp
theorem A8 {l:List Int} {j:Nat} (h:j<l.length):dZ (l.take (j+1))=dZ (l.take j)++eH (l.getD j 0+1).toNat:=by
 unfold dZ;rw [List.take_succ_eq_append_getElem h,List.flatMap_append,getD_lt h];simp
theorem rF (r:List Bool):(jA r).length≤r.length+1∧∀ x,x∈jA r→0≤x∧x≤r.length:=by
 obtain ⟨h1,_,h3⟩:=oQ r r.length
 exact ⟨h1,h3⟩
theorem oM {w h:Nat} {p:List Bool} (hw:w≤4000) (hp:p.length=w*h):∀ y,y≤h→(dX w p y).length≤100*(w+1)*y
 | 0,_=>by simp [dX]
 | y+1,hy=>by
  have h1:=oM hw hp y (by omega)
  have hl:=iH hp (y:=y) (by omega)
  have h2:=tH (row:=rowP w p y) (above:=yC w p y) (by omega) (by rw [zi hp (by omega),hl])
  rw [hl] at h2
  rw [mY,List.length_append,Nat.mul_succ];omega
theorem xq {l:List Int} (hl:∀ x,x∈l→0≤x∧x≤4000):(dZ l).length≤41*l.length:=by
 induction l with
 | nil=>simp [dZ]
 | cons x l ih=>
  have h1:=ih fun y hy=>hl y (.tail _ hy)
  have h2:=hl x (.head _)
  have h3:=bU (n:=(x+1).toNat) (by omega)
  have e:dZ (x::l)=eH (x+1).toNat++dZ l:=by unfold dZ;simp
  rw [e,List.length_append,List.length_cons];omega
theorem rG {w h:Nat} {p:List Bool} (hw:w≤4000) (hp:p.length=w*h):∀ y,y≤h→(iQ w p y).length≤41*(w+1)*y
 | 0,_=>by simp [iQ]
 | y+1,hy=>by
  have h1:=rG hw hp y (by omega)
  have hl:=iH hp (y:=y) (by omega)
  obtain ⟨h2,h3⟩:=rF (rowP w p y)
  have h4:=xq (l:=jA (rowP w p y)) fun x hx=>by have:=h3 x hx;omega
  rw [oU,List.length_append,Nat.mul_succ]
  rw [hl] at h2
  have h5:41*(jA (rowP w p y)).length≤41*(w+1):=Nat.mul_le_mul_left _ h2
  omega
theorem Dx {row above:List Bool} (h0:0<row.length) (hr:row.length≤4000) (hw:above.length=row.length):0<(jv row above).length:=by
 unfold jv
 rw [if_neg (by omega),nT hw (by omega),List.length_append]
 have hs:0<(aN row above 0 false).c.length:=by
  unfold aN
  split
  ·exact (by decide:0<fP.length)
  ·split
   ·dsimp only;exact Au (by omega)
   ·dsimp only;rw [List.length_append];have:fU.length=3:=rfl;omega
 omega
structure DX where
 y:Nat
 u:Bool
structure DR where
 j:Nat
 u:Bool
structure BU (o:Bytes) (u:Bool):Prop where
 h1:u=true→0<o.length
 h2:u=false→o=[]
theorem LX (n:Nat):0<(eH n).length:=by
 have:=uD n
 rw [EG];omega
set_option maxHeartbeats 16000000 in
theorem NG (w h:Nat) (hw0:0<w) (hw:w≤4000) (hh:h≤4000) (hwh:w*h≤1048576) (p:List Bool) (hp:p.length=w*h) (kind:Int) :
  aC Tryz.prog 107 [.agg [.int .i64 w,.int .i64 h,.ro (.bools p)],.int .i64 kind] (.own 0) [(0,.row 5 (.ints .u8 (aj (dh w h p kind))))]:=by
 refine aC.aJ Tryz.func107 rfl (by decide) (by simp [Tryz.f107]) [.tmp 4] rfl fun w0 T0 _=>?_
 simp only [Tryz.f107,aB]
 by_cases c1:kind=1
 ·have e:dh w h p kind=l9 (fO p):=if_pos c1
  rw [e]
  have k1:=Nu (w:Int) (h:Int) p (by omega)
  have k2:=wX (fO p) (by rw [jI];omega)
  have g1:(kind=1)=True:=eq_true c1
  (repeat' with_reducible first|intro _|refine rz ?_|refine ra ?_ ?_|omega|simp only [go_sem,g1])
  refine ah.k k1 ?_
  (repeat' with_reducible first|intro _|exact dn|refine rn ?_|refine ra ?_ ?_)
  refine ah.o k2 1 ?_
  (repeat' with_reducible first|intro _|exact dn|refine rn ?_|refine ra ?_ ?_)
  refine bg.auto 1 ?_ rfl ?_<;>simp only [go_sem,Int.natCast_succ,Post]
 have g1:(kind=1)=False:=eq_false c1
 by_cases c4:kind=4
 ·have e:dh w h p kind=OI w h p:=by unfold dh;rw [if_neg c1,if_pos c4]
  rw [e]
  have k1:=Gj w h hw0 hw hh hwh p hp
  have g4:(kind=4)=True:=eq_true c4
  (repeat' with_reducible first|intro _|refine rz ?_|refine ra ?_ ?_|omega|simp only [go_sem,g1,g4])
  refine ah.o k1 1 ?_
  (repeat' with_reducible first|intro _|exact dn|refine rn ?_|refine ra ?_ ?_)
  refine bg.auto 1 ?_ rfl ?_<;>simp only [go_sem,Int.natCast_succ,Post]
 have g4:(kind=4)=False:=eq_false c4
 have b1:41*(w+1)*h≤100000000:=by
  have:(w+1)*h≤1052576:=by rw [Nat.add_mul,Nat.one_mul];omega
  rw [Nat.mul_assoc];omega
 have b2:100*(w+1)*h≤200000000:=by
  have:(w+1)*h≤1052576:=by rw [Nat.add_mul,Nat.one_mul];omega
  rw [Nat.mul_assoc];omega
 by_cases c2:kind=2
 ·have e:dh w h p kind=l9 (iQ w p h):=by unfold dh;rw [if_neg c1,if_neg c4,if_pos c2]
  rw [e]
  have g2:(kind=2)=True:=eq_true c2
  have bl:=rG hw hp
  (repeat' with_reducible first|intro _|refine rz ?_|refine ra ?_ ?_|omega|simp only [go_sem,g1,g4,g2])
  refine aH.intro (fun x:DX=>⟨63,[(43,.int .i64 x.y),(42,.int .i64 h),(5,.ptr 1 0),(2,.ptr 0 0)],(0,.box 24 [.int .i64 w,.int .i64 h,.ro (.bools p)])::(bif x.u then [(1,.box 89 [.ptr 1 0,.own 2]),(2,.row 5 (.ints .u8 (aj (iQ w p x.y))))] else [(1,.box 89 [.raw (.pointer none),.nilS])]),bif x.u then 3 else 2⟩) (fun x=>x.y≤h∧BU (iQ w p x.y) x.u) (fun x=>h - x.y) ⟨0,false⟩ ?_ ⟨Nat.zero_le _,fun h=>by (cases h),fun _=>rfl⟩ fun x hx=>?_
  ·refine aK.ak rfl ?_ ?_<;>simp only [go_sem,Int.natCast_succ]
   all_goals first|rfl|exact ⟨rfl,rfl⟩
  obtain ⟨y,u⟩:=x
  obtain ⟨hy,hu1,hu2⟩:=hx
  dsimp only at hy hu1 hu2 ⊢
  have hbly:=bl y hy
  have hmy:41*(w+1)*y≤41*(w+1)*h:=Nat.mul_le_mul_left _ hy
  by_cases hylt:y<h
  rotate_left
  ·have f1:((y:Int)<(h:Int))=False:=eq_false (by omega)
   have e:y=h:=by omega
   subst e
   have k2:=wX (iQ w p y) (by omega)
   cases u with
   | true=>
    have kst:=eF (iQ w p y) (hu1 rfl)
    simp only [cond_true,cond_false,List.cons_append,List.nil_append]
    (repeat' with_reducible first|intro _|refine rz ?_|refine ra ?_ ?_|omega|simp only [go_sem,f1])
    refine ah.i [1,2] kst 2 ?_
    (repeat' with_reducible first|intro _|exact dn|refine rn ?_|refine ra ?_ ?_)
    refine ah.o k2 1 ?_
    (repeat' with_reducible first|intro _|exact dn|refine rn ?_|refine ra ?_ ?_)
    refine bg.auto 1 ?_ rfl ?_<;>simp only [go_sem,Int.natCast_succ,Post]
   | false=>
    have hz:=hu2 rfl
    rw [hz] at k2 ⊢
    have kst:=gq
    simp only [cond_true,cond_false,List.cons_append,List.nil_append]
    (repeat' with_reducible first|intro _|refine rz ?_|refine ra ?_ ?_|omega|simp only [go_sem,f1])
    refine ah.i [1] kst 1 ?_
    (repeat' with_reducible first|intro _|exact dn|refine rn ?_|refine ra ?_ ?_)
    refine ah.o k2 1 ?_
    (repeat' with_reducible first|intro _|exact dn|refine rn ?_|refine ra ?_ ?_)
    refine bg.auto 1 ?_ rfl ?_<;>simp only [go_sem,Int.natCast_succ,Post]
  have f1:((y:Int)<(h:Int))=True:=eq_true (by omega)
  have hl:=iH hp hylt
  have kr:=Ro w h hw hh p hp y hylt
  have kn:=Ul (rowP w p y) (by omega)
  obtain ⟨n1,n2⟩:=rF (rowP w p y)
  have hsucc:=oU w p y
  have hbly2:=bl (y+1) (by omega)
  have hrr:(aW (rowP w p y) (rowP w p y).length).1=jA (rowP w p y):=rfl
  rw [hrr] at kn
  generalize hL:jA (rowP w p y)=L at *
  generalize rowP w p y=rw_ at *
  generalize iQ w p y=o0 at *
  (repeat' with_reducible first|intro _|refine rz ?_|refine ra ?_ ?_|omega|simp only [go_sem,f1])
  refine ah.OJ (.ro (.bools rw_)) kr (by simp only [aI,aO,bT,aT,aF,List.drop_zero,lk,reduceIte,reduceCtorEq,Nat.reduceEqDiff,Option.some.injEq,Item.row.injEq,Item.box.injEq,AV.ro.injEq,exists_eq_left,exists_and_left,exists_eq_left',exists_eq_right,and_assoc,and_true,true_and,List.cons.injEq,exists_eq',exists_eq]) (by simp [fH,aO,aT,bT,aF,lk,aI]) rfl ?_
  (repeat' with_reducible first|intro _|exact dn|refine rn ?_|refine ra ?_ ?_)
  refine ah.ro (.ro (.ints .i64 L)) (fD.iF kn rfl (by simp [iE,iD,lq,iU,mP])) (by simp only [aI,aO,bT,aT,aF,List.drop_zero,lk,reduceIte,reduceCtorEq,Nat.reduceEqDiff,Option.some.injEq,Item.row.injEq,Item.box.injEq,AV.ro.injEq,exists_eq_left,exists_and_left,exists_eq_left',exists_eq_right,and_assoc,and_true,true_and,List.cons.injEq,exists_eq',exists_eq]) (by simp [fH,aO,aT,bT,aF,lk,aI]) rfl ?_
  (repeat' with_reducible first|intro _|exact dn|refine rn ?_|refine ra ?_ ?_)
  refine aH.intro (fun x:DR=>⟨63,[(51,.int .i64 x.j),(50,.int .i64 L.length),(49,.ro (.ints .i64 L)),(43,.int .i64 y),(42,.int .i64 h),(5,.ptr 1 0),(2,.ptr 0 0)],(0,.box 24 [.int .i64 w,.int .i64 h,.ro (.bools p)])::(bif x.u then [(1,.box 89 [.ptr 1 0,.own 2]),(2,.row 5 (.ints .u8 (aj (o0++dZ (L.take x.j)))))] else [(1,.box 89 [.raw (.pointer none),.nilS])]),bif x.u then 3 else 2⟩) (fun x=>x.j≤L.length∧BU (o0++dZ (L.take x.j)) x.u) (fun x=>L.length - x.j) ⟨0,u⟩ ?_ ⟨Nat.zero_le _,by
   have e:o0++dZ (L.take 0)=o0:=by simp [dZ]
   rw [e];exact ⟨hu1,hu2⟩⟩ fun x hx=>?_
  ·have e:dZ []=[]:=rfl
   cases u<;>(simp only [cond_true,cond_false];refine aK.ak rfl ?_ ?_<;>simp only [go_sem,Int.natCast_succ,e])
   all_goals first|rfl|exact ⟨rfl,rfl⟩
  obtain ⟨j,v⟩:=x
  obtain ⟨hj,hv1,hv2⟩:=hx
  dsimp only at hj hv1 hv2 ⊢
  have hgl:(dZ (L.take j)).length≤41*4001:=by
   have h1:=xq (l:=L.take j) fun x hx=>by have:=n2 x (List.mem_of_mem_take hx);omega
   have h2:(L.take j).length≤4001:=by rw [List.length_take];omega
   omega
  have hbq:41*(w+1)*y≤100000000:=by omega
  by_cases hjlt:j<L.length
  rotate_left
  ·have fj:((j:Int)<(L.length:Int))=False:=eq_false (by omega)
   have hjl:L.take j=L:=List.take_of_length_le (by omega)
   rw [hjl] at hv1 hv2 ⊢
   cases v <;>
    (simp only [cond_true,cond_false,List.cons_append,List.nil_append]
     (repeat' with_reducible first|intro _|refine rz ?_|refine ra ?_ ?_|omega|simp only [go_sem,fj]))
   ·refine ⟨⟨y+1,false⟩,aK.ak rfl ?_ ?_,⟨by dsimp only;omega,by rw [hsucc];exact ⟨hv1,hv2⟩⟩,by dsimp only;omega⟩<;>simp only [go_sem,Int.natCast_succ,hsucc]
    all_goals first|rfl|exact ⟨rfl,rfl⟩
   ·refine ⟨⟨y+1,true⟩,aK.ak rfl ?_ ?_,⟨by dsimp only;omega,by rw [hsucc];exact ⟨hv1,hv2⟩⟩,by dsimp only;omega⟩<;>simp only [go_sem,Int.natCast_succ,hsucc]
    all_goals first|rfl|exact ⟨rfl,rfl⟩
  have fj:((j:Int)<(L.length:Int))=True:=eq_true (by omega)
  have htk:=A8 hjlt
  have hnb:=n2 (L.getD j 0) (by rw [getD_lt hjlt];exact List.getElem_mem hjlt)
  have kg:=qh (L.getD j 0+1).toNat (by omega)
  rw [show (((L.getD j 0+1).toNat:Nat):Int)=L.getD j 0+1 by omega] at kg
  have hgp:=LX (L.getD j 0+1).toNat
  have hgs:=bU (n:=(L.getD j 0+1).toNat) (by omega)
  generalize eH (L.getD j 0+1).toNat=g at *
  generalize hn0:L.getD j 0=n0 at *
  cases v with
  | true=>
   have kw2:=bK (o0++dZ (L.take j)) g (by rw [List.length_append];omega) (by omega)
   simp only [cond_true,cond_false,List.cons_append,List.nil_append]
   (repeat' with_reducible first|intro _|refine rz ?_|refine ra ?_ ?_|omega|simp only [go_sem,fj,hn0])
   refine ah.k kg ?_
   (repeat' with_reducible first|intro _|exact dn|refine rn ?_|refine ra ?_ ?_)
   refine ah.i [1,2] kw2 3 ?_
   (repeat' with_reducible first|intro _|exact dn|refine rn ?_|refine ra ?_ ?_)
   refine ⟨⟨j+1,true⟩,aK.ak rfl ?_ ?_,⟨by dsimp only;omega,fun _=>by dsimp only;rw [htk,List.length_append,List.length_append];omega,fun h=>by (cases h)⟩,by dsimp only;omega⟩<;>simp only [go_sem,Int.natCast_succ,htk,List.append_assoc]
   all_goals first|rfl|exact ⟨rfl,rfl⟩
  | false=>
   have hz:=hv2 rfl
   have kw2:=eG g (by omega)
   simp only [cond_true,cond_false,List.cons_append,List.nil_append]
   (repeat' with_reducible first|intro _|refine rz ?_|refine ra ?_ ?_|omega|simp only [go_sem,fj,hn0])
   refine ah.k kg ?_
   (repeat' with_reducible first|intro _|exact dn|refine rn ?_|refine ra ?_ ?_)
   refine ah.i [1] kw2 2 ?_
   (repeat' with_reducible first|intro _|exact dn|refine rn ?_|refine ra ?_ ?_)
   have hz2:o0++dZ (L.take (j+1))=g:=by rw [htk,←List.append_assoc,hz,List.nil_append]
   refine ⟨⟨j+1,true⟩,aK.ak rfl ?_ ?_,⟨by dsimp only;omega,fun _=>by dsimp only;rw [hz2];omega,fun h=>by (cases h)⟩,by dsimp only;omega⟩<;>simp only [go_sem,Int.natCast_succ,hz2]
   all_goals first|rfl|exact ⟨rfl,rfl⟩
 have e:dh w h p kind=l9 (dX w p h):=by unfold dh;rw [if_neg c1,if_neg c4,if_neg c2]
 rw [e]
 have g2:(kind=2)=False:=eq_false c2
 have bl:=oM hw hp
 (repeat' with_reducible first|intro _|refine rz ?_|refine ra ?_ ?_|omega|simp only [go_sem,g1,g4,g2])
 refine aH.intro (fun x:DX=>⟨63,[(17,.int .i64 x.y),(16,.int .i64 h),(9,.ro (.bools (yC w p x.y))),(5,.ptr 1 0),(2,.ptr 0 0)],(0,.box 24 [.int .i64 w,.int .i64 h,.ro (.bools p)])::(bif x.u then [(1,.box 89 [.ptr 1 0,.own 2]),(2,.row 5 (.ints .u8 (aj (dX w p x.y))))] else [(1,.box 89 [.raw (.pointer none),.nilS])]),bif x.u then 3 else 2⟩) (fun x=>x.y≤h∧BU (dX w p x.y) x.u) (fun x=>h - x.y) ⟨0,false⟩ ?_ ⟨Nat.zero_le _,fun h=>by (cases h),fun _=>rfl⟩ fun x hx=>?_
 ·have e0:yC w p 0=List.replicate w false:=rfl
  refine aK.trans (aK.fz 3 (e:=4) (r:=.bools (List.replicate w false)) rfl rfl (Nat.zero_le _)) (aK.ak rfl ?_ ?_)<;>simp only [go_sem,Int.natCast_succ,e0]
  all_goals first|rfl|exact ⟨rfl,rfl⟩|trace_state
 obtain ⟨y,u⟩:=x
 obtain ⟨hy,hu1,hu2⟩:=hx
 dsimp only at hy hu1 hu2 ⊢
 have hbly:=bl y hy
 have hmy:100*(w+1)*y≤100*(w+1)*h:=Nat.mul_le_mul_left _ hy
 by_cases hylt:y<h
 rotate_left
 ·have f1:((y:Int)<(h:Int))=False:=eq_false (by omega)
  have e:y=h:=by omega
  subst e
  have k2:=wX (dX w p y) (by omega)
  cases u with
  | true=>
   have kst:=eF (dX w p y) (hu1 rfl)
   simp only [cond_true,cond_false,List.cons_append,List.nil_append]
   (repeat' with_reducible first|intro _|refine rz ?_|refine ra ?_ ?_|omega|simp only [go_sem,f1])
   refine ah.i [1,2] kst 2 ?_
   (repeat' with_reducible first|intro _|exact dn|refine rn ?_|refine ra ?_ ?_)
   refine ah.o k2 1 ?_
   (repeat' with_reducible first|intro _|exact dn|refine rn ?_|refine ra ?_ ?_)
   refine bg.auto 1 ?_ rfl ?_<;>simp only [go_sem,Int.natCast_succ,Post]
  | false=>
   have hz:=hu2 rfl
   rw [hz] at k2 ⊢
   have kst:=gq
   simp only [cond_true,cond_false,List.cons_append,List.nil_append]
   (repeat' with_reducible first|intro _|refine rz ?_|refine ra ?_ ?_|omega|simp only [go_sem,f1])
   refine ah.i [1] kst 1 ?_
   (repeat' with_reducible first|intro _|exact dn|refine rn ?_|refine ra ?_ ?_)
   refine ah.o k2 1 ?_
   (repeat' with_reducible first|intro _|exact dn|refine rn ?_|refine ra ?_ ?_)
   refine bg.auto 1 ?_ rfl ?_<;>simp only [go_sem,Int.natCast_succ,Post]
 have f1:((y:Int)<(h:Int))=True:=eq_true (by omega)
 have hl:=iH hp hylt
 have hul:=zi hp hylt
 have kr:=Ro w h hw hh p hp y hylt
 have kl:=TJ (rowP w p y) (yC w p y) (by omega) (by omega)
 have hll:=tH (row:=rowP w p y) (above:=yC w p y) (by omega) (by omega)
 have hlp:0<(jv (rowP w p y) (yC w p y)).length:=Dx (by omega) (by omega) (by omega)
 have hsucc:=mY w p y
 have hbly2:=bl (y+1) (by omega)
 have hup:yC w p (y+1)=rowP w p y:=by unfold yC;rw [if_neg (by omega)];rfl
 generalize jv (rowP w p y) (yC w p y)=lb at *
 generalize rowP w p y=rw_ at *
 generalize hup0:yC w p y=ab at *
 generalize hlb0:dX w p y=o0 at *
 cases u with
 | true=>
  have kw2:=bK o0 lb (by omega) (by omega)
  simp only [cond_true,cond_false,List.cons_append,List.nil_append]
  (repeat' with_reducible first|intro _|refine rz ?_|refine ra ?_ ?_|omega|simp only [go_sem,f1])
  refine ah.OJ (.ro (.bools rw_)) kr (by simp only [aI,aO,bT,aT,aF,List.drop_zero,lk,reduceIte,reduceCtorEq,Nat.reduceEqDiff,Option.some.injEq,Item.row.injEq,Item.box.injEq,AV.ro.injEq,exists_eq_left,exists_and_left,exists_eq_left',exists_eq_right,and_assoc,and_true,true_and,List.cons.injEq,exists_eq',exists_eq]) (by simp [fH,aO,aT,bT,aF,lk,aI]) rfl ?_
  (repeat' with_reducible first|intro _|exact dn|refine rn ?_|refine ra ?_ ?_)
  refine ah.k kl ?_
  (repeat' with_reducible first|intro _|exact dn|refine rn ?_|refine ra ?_ ?_)
  refine ah.i [1,2] kw2 3 ?_
  (repeat' with_reducible first|intro _|exact dn|refine rn ?_|refine ra ?_ ?_)
  refine ah.OJ (.ro (.bools rw_)) kr (by simp only [aI,aO,bT,aT,aF,List.drop_zero,lk,reduceIte,reduceCtorEq,Nat.reduceEqDiff,Option.some.injEq,Item.row.injEq,Item.box.injEq,AV.ro.injEq,exists_eq_left,exists_and_left,exists_eq_left',exists_eq_right,and_assoc,and_true,true_and,List.cons.injEq,exists_eq',exists_eq]) (by simp [fH,aO,aT,bT,aF,lk,aI]) rfl ?_
  (repeat' with_reducible first|intro _|exact dn|refine rn ?_|refine ra ?_ ?_)
  refine ⟨⟨y+1,true⟩,aK.ak rfl ?_ ?_,⟨by dsimp only;omega,fun _=>by dsimp only;rw [hsucc,List.length_append];omega,fun h=>by (cases h)⟩,by dsimp only;omega⟩<;>simp only [go_sem,Int.natCast_succ,hsucc,hup]
  all_goals first|rfl|exact ⟨rfl,rfl⟩
 | false=>
  have kw2:=eG lb (by omega)
  simp only [cond_true,cond_false,List.cons_append,List.nil_append]
  (repeat' with_reducible first|intro _|refine rz ?_|refine ra ?_ ?_|omega|simp only [go_sem,f1])
  refine ah.OJ (.ro (.bools rw_)) kr (by simp only [aI,aO,bT,aT,aF,List.drop_zero,lk,reduceIte,reduceCtorEq,Nat.reduceEqDiff,Option.some.injEq,Item.row.injEq,Item.box.injEq,AV.ro.injEq,exists_eq_left,exists_and_left,exists_eq_left',exists_eq_right,and_assoc,and_true,true_and,List.cons.injEq,exists_eq',exists_eq]) (by simp [fH,aO,aT,bT,aF,lk,aI]) rfl ?_
  (repeat' with_reducible first|intro _|exact dn|refine rn ?_|refine ra ?_ ?_)
  refine ah.k kl ?_
  (repeat' with_reducible first|intro _|exact dn|refine rn ?_|refine ra ?_ ?_)
  refine ah.i [1] kw2 2 ?_
  (repeat' with_reducible first|intro _|exact dn|refine rn ?_|refine ra ?_ ?_)
  refine ah.OJ (.ro (.bools rw_)) kr (by simp only [aI,aO,bT,aT,aF,List.drop_zero,lk,reduceIte,reduceCtorEq,Nat.reduceEqDiff,Option.some.injEq,Item.row.injEq,Item.box.injEq,AV.ro.injEq,exists_eq_left,exists_and_left,exists_eq_left',exists_eq_right,and_assoc,and_true,true_and,List.cons.injEq,exists_eq',exists_eq]) (by simp [fH,aO,aT,bT,aF,lk,aI]) rfl ?_
  (repeat' with_reducible first|intro _|exact dn|refine rn ?_|refine ra ?_ ?_)
  have hz2:dX w p (y+1)=lb:=by rw [hsucc,hu2 rfl,List.nil_append]
  refine ⟨⟨y+1,true⟩,aK.ak rfl ?_ ?_,⟨by dsimp only;omega,fun _=>by dsimp only;rw [hz2];exact hlp,fun h=>by (cases h)⟩,by dsimp only;omega⟩<;>simp only [go_sem,Int.natCast_succ,hz2,hup]
  all_goals first|rfl|exact ⟨rfl,rfl⟩
def dw:List Int→Int
 | []=>0
 | e::l=>if e=0 then dw l else e
set_option maxHeartbeats 2000000 in
theorem lU (l:List Int) (hl:l.length≤1000):aC Tryz.prog 28 [.ro (.ints .i64 l)] (.int .i64 (dw l)) []:=by
 refine aC.aJ Tryz.func28 rfl (by decide) (by simp [Tryz.f28]) [.tmp 2] rfl fun w0 T0 _=>?_
 simp only [Tryz.f28,aB]
 (repeat' with_reducible first|intro _|exact dn|refine rn ?_|refine ra ?_ ?_)
 refine aH.intro (fun i:Nat=>⟨15,[(7,.int .i64 i),(6,.int .i64 l.length),(5,.ro (.ints .i64 l))],[],0⟩) (fun i=>i≤l.length∧dw (l.drop i)=dw l) (fun i=>l.length - i) 0 ?_ ⟨Nat.zero_le _,rfl⟩ fun i hi=>?_
 ·refine aK.ak rfl ?_ ?_<;>simp only [go_sem,Int.natCast_succ]
 obtain ⟨hi,he⟩:=hi
 (repeat' with_reducible first|intro _|exact dn|refine rn ?_|refine ra ?_ ?_)
 ·have hlt:i<l.length:=by omega
  have hd:l.drop i=l.getD i 0::l.drop (i+1):=by rw [List.drop_eq_getElem_cons hlt,getD_lt hlt]
  rw [hd,dw,if_neg (by omega)] at he
  rw [←he]
  refine bg.auto 0 ?_ rfl ?_<;>simp only [go_sem,Int.natCast_succ,Post]
 ·have hlt:i<l.length:=by omega
  have hd:l.drop i=l.getD i 0::l.drop (i+1):=by rw [List.drop_eq_getElem_cons hlt,getD_lt hlt]
  rw [hd,dw,if_pos (by omega)] at he
  refine ⟨i+1,aK.ak rfl ?_ ?_,⟨by omega,he⟩,by omega⟩<;>simp only [go_sem,Int.natCast_succ]
  all_goals rfl
 ·have e:i=l.length:=by omega
  subst e
  rw [List.drop_length] at he
  rw [←he]
  refine bg.auto 0 ?_ rfl ?_<;>simp only [go_sem,Int.natCast_succ,Post,dw]
set_option maxHeartbeats 4000000 in
theorem AQ (w h:Int):aC Tryz.prog 72 [.int .i64 w,.int .i64 h] (.int .i64 (dB w h)) []:=by
 refine aC.aJ Tryz.func72 rfl (by decide) (by simp [Tryz.f72]) [.tmp 4] rfl fun w0 T0 _=>?_
 simp only [Tryz.f72,aB]
 by_cases hw:1≤w∧w≤4000
 ·by_cases hh:1≤h∧h≤4000
  ·have hm1:0≤w*h:=Int.mul_nonneg (by omega) (by omega)
   have hm2:w*h≤4000*4000:=Int.mul_le_mul hw.2 hh.2 (by omega) (by omega)
   have e:dB w h=dw [if false=true then 3 else 0,if decide (1048576<w*h)=true then 4 else 0]:=by
    unfold dB
    rw [if_neg (by omega)]
    by_cases hc:1048576<w*h<;>simp [dw,hc]
   rw [e]
   (repeat' with_reducible first|intro _|exact dn|refine rn ?_|refine ra ?_ ?_)
   refine ah.k (fK w 1 4000) ?_
   rw [decide_eq_true hw]
   (repeat' with_reducible first|intro _|exact dn|refine rn ?_|refine ra ?_ ?_)
   refine ah.k (fK h 1 4000) ?_
   rw [decide_eq_true hh]
   (repeat' with_reducible first|intro _|exact dn|refine rn ?_|refine ra ?_ ?_)
   refine ah.k (lG false 3) ?_
   (repeat' with_reducible first|intro _|exact dn|refine rn ?_|refine ra ?_ ?_)
   refine ah.k (fK w 1 4000) ?_
   rw [decide_eq_true hw]
   (repeat' with_reducible first|intro _|exact dn|refine rn ?_|refine ra ?_ ?_)
   refine ah.k (fK h 1 4000) ?_
   rw [decide_eq_true hh]
   (repeat' with_reducible first|intro _|exact dn|refine rn ?_|refine ra ?_ ?_)
   refine ah.fr (fD.iF (lG (decide (1048576<w*h)) 4) rfl rfl) (by simp only [aI,aO,bT,aT,aF,List.drop_zero,lk,reduceIte,reduceCtorEq,Nat.reduceEqDiff,Option.some.injEq,Item.row.injEq,Item.box.injEq,AV.ro.injEq,exists_eq_left,exists_and_left,exists_eq_left',exists_eq_right,and_assoc,and_true,true_and,List.cons.injEq,exists_eq',exists_eq]) 0 rfl (by simp [gG]) ?_
   generalize hx:(if decide (1048576<w*h)=true then (4:Int) else 0)=x
   (repeat' with_reducible first|intro _|exact dn|refine rn ?_|refine ra ?_ ?_)
   refine ah.k (lU [0,x] (by simp)) ?_
   (repeat' with_reducible first|intro _|exact dn|refine rn ?_|refine ra ?_ ?_)
   refine bg.auto 0 ?_ rfl ?_<;>simp only [go_sem,Int.natCast_succ,Post]
  ·have e:dB w h=dw [3,0]:=by
    unfold dB
    rw [if_pos (by omega)];rfl
   rw [e]
   (repeat' with_reducible first|intro _|exact dn|refine rn ?_|refine ra ?_ ?_)
   refine ah.k (fK w 1 4000) ?_
   rw [decide_eq_true hw]
   (repeat' with_reducible first|intro _|exact dn|refine rn ?_|refine ra ?_ ?_)
   refine ah.k (fK h 1 4000) ?_
   rw [decide_eq_false hh]
   (repeat' with_reducible first|intro _|exact dn|refine rn ?_|refine ra ?_ ?_)
   refine ah.k (lG true 3) ?_
   (repeat' with_reducible first|intro _|exact dn|refine rn ?_|refine ra ?_ ?_)
   refine ah.k (fK w 1 4000) ?_
   rw [decide_eq_true hw]
   (repeat' with_reducible first|intro _|exact dn|refine rn ?_|refine ra ?_ ?_)
   refine ah.k (fK h 1 4000) ?_
   rw [decide_eq_false hh]
   (repeat' with_reducible first|intro _|exact dn|refine rn ?_|refine ra ?_ ?_)
   refine ah.k (lG false 4) ?_
   (repeat' with_reducible first|intro _|exact dn|refine rn ?_|refine ra ?_ ?_)
   refine ah.k (lU [3,0] (by simp)) ?_
   (repeat' with_reducible first|intro _|exact dn|refine rn ?_|refine ra ?_ ?_)
   refine bg.auto 0 ?_ rfl ?_<;>simp only [go_sem,Int.natCast_succ,Post]
 ·have e:dB w h=dw [3,0]:=by
   unfold dB
   rw [if_pos (by omega)];rfl
  rw [e]
  (repeat' with_reducible first|intro _|exact dn|refine rn ?_|refine ra ?_ ?_)
  refine ah.k (fK w 1 4000) ?_
  rw [decide_eq_false hw]
  (repeat' with_reducible first|intro _|exact dn|refine rn ?_|refine ra ?_ ?_)
  refine ah.k (lG true 3) ?_
  (repeat' with_reducible first|intro _|exact dn|refine rn ?_|refine ra ?_ ?_)
  refine ah.k (fK w 1 4000) ?_
  rw [decide_eq_false hw]
  (repeat' with_reducible first|intro _|exact dn|refine rn ?_|refine ra ?_ ?_)
  refine ah.k (lG false 4) ?_
  (repeat' with_reducible first|intro _|exact dn|refine rn ?_|refine ra ?_ ?_)
  refine ah.k (lU [3,0] (by simp)) ?_
  (repeat' with_reducible first|intro _|exact dn|refine rn ?_|refine ra ?_ ?_)
  refine bg.auto 0 ?_ rfl ?_<;>simp only [go_sem,Int.natCast_succ,Post]
theorem BX (w h:Int) (n:Nat) (m:Int) (hm:m=IntKind.i64.wrap (w*h)):iL w h n=dw [dB w h,if decide (¬(n:Int)=m)=true then 2 else 0]:=by
 unfold iL
 by_cases e:dB w h=0
 ·have hs:=oV e
  rw [jQ (jl.2 ⟨by omega,by omega⟩)] at hm
  rw [if_pos e]
  by_cases c:(n:Int)=w*h
  ·simp [dw,e,hm,c]
  ·simp [dw,e,hm,c]
 ·rw [if_neg e];simp [dw,e]
set_option maxHeartbeats 4000000 in
theorem J6 (w h:Int) (p:List Bool):aC Tryz.prog 46 [.agg [.int .i64 w,.int .i64 h,.ro (.bools p)]] (.int .i64 (iL w h p.length)) []:=by
 obtain ⟨m,hm⟩:∃ m,m=IntKind.i64.wrap (w*h):=⟨_,rfl⟩
 have hmi:jk .i64 m:=by rw [hm];exact bV _ _
 rw [BX w h p.length m hm]
 refine aC.aJ Tryz.func46 rfl (by decide) (by simp [Tryz.f46]) [.tmp 2] rfl fun w0 T0 _=>?_
 simp only [Tryz.f46,aB]
 (repeat' with_reducible first|intro _|exact dn|refine rn ?_|refine ra ?_ ?_)
 refine bC.lex [12,15] [(0,[1]),(1,[1]),(2,[1]),(3,[1]),(4,[1]),(5,[1]),(6,[1]),(7,[1])] (by kernel_rfl) (by kernel_rfl) ?_
 (repeat' with_reducible first|intro _|exact dn|refine rn ?_|refine ra ?_ ?_)
 refine QV.intro (.int .i64 (dB w h)) ?_ ?_
 ·(repeat' with_reducible first|intro _|exact dn|refine rn ?_|refine ra ?_ ?_)
  refine ah.k (AQ w h) ?_
  (repeat' with_reducible first|intro _|exact dn|refine rn ?_|refine ra ?_ ?_)
 (repeat' with_reducible first|intro _|exact dn|refine rn ?_|refine ra ?_ ?_)
 refine QE.intro (.int .i64 m) [(0,.box 24 [.int .i64 w,.int .i64 h,.ro (.bools p)])] 1 ?_ ?_
 ·simp only [go_sem,hm]
  exact fun n hn _=>hn
 (repeat' with_reducible first|intro _|exact dn|refine rn ?_|refine ra ?_ ?_)
 refine QV.intro (.int .i64 (if decide (¬(p.length:Int)=m)=true then 2 else 0)) ?_ ?_
 ·(repeat' with_reducible first|intro _|exact dn|refine rn ?_|refine ra ?_ ?_)
  refine ah.fr (fD.iF (lG (decide (¬(p.length:Int)=m)) 2) rfl rfl) (by simp only [aI,aO,bT,aT,aF,List.drop_zero,lk,reduceIte,reduceCtorEq,Nat.reduceEqDiff,Option.some.injEq,Item.row.injEq,Item.box.injEq,AV.ro.injEq,exists_eq_left,exists_and_left,exists_eq_left',exists_eq_right,and_assoc,and_true,true_and,List.cons.injEq,exists_eq',exists_eq]) 0 rfl (by simp [gG]) ?_
  (repeat' with_reducible first|intro _|exact dn|refine rn ?_|refine ra ?_ ?_)
 generalize hx:(if decide (¬(p.length:Int)=m)=true then (2:Int) else 0)=x
 (repeat' with_reducible first|intro _|exact dn|refine rn ?_|refine ra ?_ ?_)
 refine QV.intro (.int .i64 (dw [dB w h,x])) ?_ ?_
 ·(repeat' with_reducible first|intro _|exact dn|refine rn ?_|refine ra ?_ ?_)
  refine ah.k (lU [dB w h,x] (by simp)) ?_
  (repeat' with_reducible first|intro _|exact dn|refine rn ?_|refine ra ?_ ?_)
 (repeat' with_reducible first|intro _|exact dn|refine rn ?_|refine ra ?_ ?_)
 ·refine ah.k (AQ w h) ?_
  (repeat' with_reducible first|intro _|exact dn|refine rn ?_|refine ra ?_ ?_)
 ·refine bg.auto 0 ?_ rfl ?_<;>simp only [go_sem,Int.natCast_succ,Post]
end Go.Fv.H
/- shrink.encode, Encode, best: the walk. -/
namespace Go.Fv.H
open Go Go.Proofs
theorem lN (s:Bytes):(l9 s).length=(s.length+7) / 8:=zf _ _
theorem KZ (w h:Nat) (p:List Bool):(OI w h p).length≤4+p.length:=by
 unfold OI
 rw [aS]
 have:=MZ w h p p.length
 omega
theorem Dc {w h:Nat} (hw:w≤4000) (hh:h≤4000) (hwh:w*h≤1048576) {p:List Bool} (hp:p.length=w*h) (kind:Int):(dh w h p kind).length≤100000000:=by
 have b1:41*(w+1)*h≤100000000:=by
  have:(w+1)*h≤1052576:=by rw [Nat.add_mul,Nat.one_mul];omega
  rw [Nat.mul_assoc];omega
 have b2:100*(w+1)*h≤200000000:=by
  have:(w+1)*h≤1052576:=by rw [Nat.add_mul,Nat.one_mul];omega
  rw [Nat.mul_assoc];omega
 have h1:=rG hw hp h (Nat.le_refl _)
 have h2:=oM hw hp h (Nat.le_refl _)
 have h3:=KZ w h p
 unfold dh
 split
 ·rw [lN,jI];omega
 ·split
  ·omega
  ·split
   ·rw [lN];omega
   ·rw [lN];omega
set_option maxHeartbeats 8000000 in
theorem Dh (w h:Nat) (hw0:0<w) (hw:w≤4000) (hh:h≤4000) (hwh:w*h≤1048576) (p:List Bool) (hp:p.length=w*h) (kind:Int) (hk:1≤kind∧kind≤4) :
  aC Tryz.prog 69 [.agg [.int .i64 w,.int .i64 h,.ro (.bools p)],.int .i64 kind] (.str (jW w h p kind)) []:=by
 have hdl:=Dc hw hh hwh hp kind
 have kd:=NG w h hw0 hw hh hwh p hp kind
 have n1:=sU kind kind.toNat 1 (.inl (by omega)) (by omega) (by omega) (by decide)
 have n2:=sU (w:Int) w 2 (.inl rfl) (by omega) (by omega) (by decide)
 have n3:=sU (h:Int) h 2 (.inl rfl) (by omega) (by omega) (by decide)
 have n4:=sU ((dh w h p kind).length:Int) (dh w h p kind).length 4 (.inl rfl) (by omega) (by omega) (by decide)
 rw [show ((1:Nat):Int)=1 from rfl] at n1
 rw [show ((2:Nat):Int)=2 from rfl] at n2 n3
 rw [show ((4:Nat):Int)=4 from rfl] at n4
 have henc:jW w h p kind=headB w h p kind++jc (headB w h p kind):=rfl
 have hhead:headB w h p kind=bP 1 kind.toNat++bP 2 w++bP 2 h++bP 4 (dh w h p kind).length++dh w h p kind:=rfl
 have hhl:(headB w h p kind).length=9+(dh w h p kind).length:=by
  rw [hhead];simp only [List.length_append,aS]
 have ks:=Bf (headB w h p kind) (by omega)
 have hsl:=mJ (headB w h p kind)
 rw [henc]
 have l1:=aS 1 kind.toNat
 have l2:=aS 2 w
 have l3:=aS 2 h
 have l4:=aS 4 (dh w h p kind).length
 have hbl:=cZ (dh w h p kind)
 have hbk:=iw (dh w h p kind)
 generalize headB w h p kind=hd at *
 generalize bP 1 kind.toNat=x1 at *
 generalize bP 2 w=x2 at *
 generalize bP 2 h=x3 at *
 generalize bP 4 (dh w h p kind).length=x4 at *
 generalize dh w h p kind=dt at *
 refine aC.aJ Tryz.func69 rfl (by decide) (by simp [Tryz.f69]) [.tmp 4] rfl fun w0 T0 _=>?_
 simp only [Tryz.f69,aB]
 (repeat' with_reducible first|intro _|exact dn|refine rn ?_|refine ra ?_ ?_)
 refine ah.o kd 1 ?_
 (repeat' with_reducible first|intro _|exact dn|refine rn ?_|refine ra ?_ ?_)
 refine bC.lex [] [] (by kernel_rfl) (by kernel_rfl) ?_
 (repeat' with_reducible first|intro _|exact dn|refine rn ?_|refine ra ?_ ?_)
 (refine QV.intro (.str x1) ?_ ?_;focus ((repeat' with_reducible first|intro _|exact dn|refine rn ?_|refine ra ?_ ?_);refine ah.k (n1) ?_;(repeat' with_reducible first|intro _|exact dn|refine rn ?_|refine ra ?_ ?_)))
 (repeat' with_reducible first|intro _|exact dn|refine rn ?_|refine ra ?_ ?_)
 (refine QV.intro (.str x2) ?_ ?_;focus ((repeat' with_reducible first|intro _|exact dn|refine rn ?_|refine ra ?_ ?_);refine ah.k (n2) ?_;(repeat' with_reducible first|intro _|exact dn|refine rn ?_|refine ra ?_ ?_)))
 (repeat' with_reducible first|intro _|exact dn|refine rn ?_|refine ra ?_ ?_)
 (refine QV.intro (.str x3) ?_ ?_;focus ((repeat' with_reducible first|intro _|exact dn|refine rn ?_|refine ra ?_ ?_);refine ah.k (n3) ?_;(repeat' with_reducible first|intro _|exact dn|refine rn ?_|refine ra ?_ ?_)))
 (repeat' with_reducible first|intro _|refine rz ?_|refine ra ?_ ?_|omega|simp only [go_sem,hbl])
 (refine QV.intro (.str x4) ?_ ?_;focus ((repeat' with_reducible first|intro _|exact dn|refine rn ?_|refine ra ?_ ?_);refine ah.k (n4) ?_;(repeat' with_reducible first|intro _|exact dn|refine rn ?_|refine ra ?_ ?_)))
 (repeat' with_reducible first|intro _|refine rz ?_|refine ra ?_ ?_|omega|simp only [go_sem,hbl,hbk])
 rw [←hhead]
 refine ah.k ks ?_
 (repeat' with_reducible first|intro _|exact dn|refine rn ?_|refine ra ?_ ?_)
 refine bg.auto 0 ?_ rfl ?_<;>simp only [go_sem,Int.natCast_succ,Post]
end Go.Fv.H
