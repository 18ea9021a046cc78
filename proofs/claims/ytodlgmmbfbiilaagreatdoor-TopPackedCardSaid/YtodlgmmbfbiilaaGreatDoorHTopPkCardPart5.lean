/-
  A part of the proof of the claim: walks over the program's functions and the plain laws that these need. No condition of its own.
-/
import Derived.Test.YtodlgmmbfbiilaaGreatDoorHTopPkCardPart4
import Derived.Test.YtodlgmmbfbiilaaGreatDoorFvPart10
import Derived.Shelf.Bits.Mul64
import Derived.Test.YtodlgmmbfbiilaaGreatDoorHTopPkCardPart3
import Derived.Test.YtodlgmmbfbiilaaGreatDoorHTopPkCardPart1
import Derived.Test.YtodlgmmbfbiilaaGreatDoorFvPart5
import Derived.Shelf.Strings.BuilderX
import Derived.Shelf.RegionOpenPlain
import Derived.Lib.Builder
import Derived.Lib.Walk
import Derived.WalkKit
import Derived.Laws.Externs
import Derived.Test.YtodlgmmbfbiilaaGreatDoorFvPart11
set_option linter.unusedSimpArgs false
set_option linter.unusedVariables false
set_option linter.unnecessarySimpa false
set_option maxRecDepth 8000
/- strings.Repeat of a zero, up to twenty times. -/
namespace Go.Proofs
open Go.Shelf
def Tryz.Jk:Go.Shelf.Ren:=⟨fun|212=>121|263=>167|264=>168|n=>n,fun|46=>140|51=>172|146=>194|53=>103|148=>196|n=>n,fun|n=>n⟩
theorem Tryz.lays212:Go.Proofs.Lays.n212 Tryz.prog Tryz.Jk:={
 mixed:=by kernel_rfl
 f212:=Tryz.func121.trans (congrArg some (by kernel_rfl))
 f263:=Tryz.func167.trans (congrArg some (by kernel_rfl))
 f264:=Tryz.func168.trans (congrArg some (by kernel_rfl))
 t46:=Tryz.underlying140
 a46:=Tryz.isAgg140
 z46:=Tryz.sizeOf140
 v46:=Tryz.zeroValue140
 t51:=Tryz.underlying172
 a51:=Tryz.isAgg172
 z51:=Tryz.sizeOf172
 v51:=Tryz.zeroValue172
 t53:=Tryz.underlying103
 a53:=Tryz.isAgg103
 z53:=Tryz.sizeOf103
 v53:=Tryz.zeroValue103
 t146:=Tryz.underlying194
 a146:=Tryz.isAgg194
 z146:=Tryz.sizeOf194
 v146:=Tryz.zeroValue194
 t148:=Tryz.underlying196
 a148:=Tryz.isAgg196
 z148:=Tryz.sizeOf196
 v148:=Tryz.zeroValue196 }
end Go.Proofs
namespace Go.Fv.H
open Go Go.Proofs
theorem Wv (k:Nat) (hk:k≤1000):aC Tryz.prog 121 [.int .u64 1,.int .u64 k] (.tup [.int .u64 0,.int .u64 k]) []:=by
 refine ⟨⟨_,Tryz.func121,by kernel_rfl,by kernel_rfl⟩,fun w T vals hg hv=>?_⟩
 cases hv with
 | cons _ _ _ _ h1 hv=>cases hv with
  | cons _ _ _ _ h2 hv=>
   cases hv
   cases h1 with
   | int _ _ e1=>cases h2 with
    | int _ _ e2=>
     refine (Any.bits_Mul Tryz.lays212 1 k (by omega) (by omega) w).mono ?_
     rintro e w' ⟨rfl,rfl⟩
     refine ⟨_,rfl,lV.refl _ _,fun _=>undef,0,?_,?_,?_⟩
     ·rw [Nat.one_mul,show k / 18446744073709551616=0 by omega,Nat.mod_eq_of_lt (by omega:k<18446744073709551616)]
      exact .tup _ [_,_] (.cons _ _ _ _ (.int _ _ (lu.2 (by omega))) (.cons _ _ _ _ (.int _ _ (lu.2 (by omega))) .nil))
     ·intro i it h;cases h
     ·intro i j it jt b h;cases h
theorem NK (k:Nat) (h:k≤64):(List.replicate 64 (48:UInt8)).take k=List.replicate k 48:=by rw [List.take_replicate,Nat.min_eq_left h]
theorem Zd (l r:List UInt8):([48]:List UInt8).isPrefixOf ((32::l).append r)=false:=rfl
theorem Ze (l r:List UInt8):([48]:List UInt8).isPrefixOf ((45::l).append r)=false:=rfl
theorem Zf (l:List UInt8):([48]:List UInt8).isPrefixOf (48::l)=true:=rfl
set_option maxHeartbeats 4000000 in
theorem WO (k:Nat) (hk:k≤20):aC Tryz.prog 92 [.str [48],.int .i64 k] (.str (List.replicate k 48)) []:=by
 have km:=Wv k (by omega)
 refine aC.aJ Tryz.func92 rfl (by decide) (by simp [Tryz.f92]) [.tmp 4] rfl fun w0 T0 _=>?_
 simp only [Tryz.f92,aB]
 by_cases h0:k=0
 ·subst h0
  (repeat' with_reducible first|intro _|exact dn|refine rn ?_|refine ra ?_ ?_)
  refine bf.auto 0 ?_ rfl ?_<;>simp only [go_sem,Int.natCast_succ,Post]
 by_cases h1:k=1
 ·subst h1
  (repeat' with_reducible first|intro _|exact dn|refine rn ?_|refine ra ?_ ?_)
  refine bf.auto 0 ?_ rfl ?_<;>simp only [go_sem,Int.natCast_succ,Post]
  all_goals rfl
 have hg:((([48]:List UInt8).getD 0 0).toNat:Int)=48:=rfl
 have b1:((k:Int)≤128)=True:=eq_true (by omega)
 have b2:((k:Int)≤64)=True:=eq_true (by omega)
 have b3:(9223372036854775807<(k:Int))=False:=eq_false (by omega)
 have b4:((k:Int)<0)=False:=eq_false (by omega)
 have b5:((k:Int)=0)=False:=eq_false (by omega)
 have b6:((k:Int)=1)=False:=eq_false (by omega)
 (repeat' with_reducible first|intro _|refine rz ?_|refine ra ?_ ?_|omega|simp only [go_sem,b3,b4,b5,b6])
 refine ah.k km ?_
 (repeat' with_reducible first|intro _|refine rz ?_|refine ra ?_ ?_|omega|simp only [go_sem,hg,b1,b2,b3])
 refine ah.k (jr _ [48]) ?_ rfl rfl ⟨_,_,rfl,⟨_,_,rfl,rfl,rfl⟩,rfl⟩
 (repeat' with_reducible first|intro _|refine rz ?_|refine ra ?_ ?_|omega|simp only [go_sem,hg,b1,b2,b3,Zd])
 refine ah.k (jr _ [48]) ?_ rfl rfl ⟨_,_,rfl,⟨_,_,rfl,rfl,rfl⟩,rfl⟩
 (repeat' with_reducible first|intro _|refine rz ?_|refine ra ?_ ?_|omega|simp only [go_sem,hg,b1,b2,b3,Ze])
 refine ah.k (jr _ [48]) ?_ rfl rfl ⟨_,_,rfl,⟨_,_,rfl,rfl,rfl⟩,rfl⟩
 (repeat' with_reducible first|intro _|refine rz ?_|refine ra ?_ ?_|omega|simp only [go_sem,hg,b1,b2,b3,Zf])
 refine bf.auto 0 ?_ rfl ?_<;>simp only [go_sem,Int.natCast_succ,Post]
 exact NK k (by omega)
end Go.Fv.H
/- Writing numbers: the walk. -/
namespace Go.Fv.H
open Go Go.Proofs
theorem qP (n:Nat) (hn:n≤1048576):aC Tryz.prog 157 [.int .i64 n] (.str (gq n)) []:=by
 have k1:=PX n hn
 have hl:=vF 20 n (by rw [show (2:Nat) ^ (20+1)=2097152 from rfl];omega)
 have hp:=vG n
 have k2:=WO ((iK n).length - 1) (by omega)
 have e:(((iK n).length - 1:Nat):Int)=((iK n).length:Int) - 1:=by omega
 rw [e] at k2
 refine aC.aJ Tryz.func157 rfl (by decide) (by simp [Tryz.f157]) [.tmp 2] rfl fun w0 T0 _=>?_
 simp only [Tryz.f157,aB]
 (repeat' with_reducible first|intro _|exact dn|refine rn ?_|refine ra ?_ ?_)
 refine ah.k k1 ?_
 (repeat' with_reducible first|intro _|exact dn|refine rn ?_|refine ra ?_ ?_)
 refine ah.k k2 ?_
 (repeat' with_reducible first|intro _|refine rz ?_|refine ra ?_ ?_|omega|simp only [go_sem,List.length_replicate])
 refine bf.auto 0 ?_ rfl ?_<;>simp only [go_sem,Int.natCast_succ,Post,gq]
end Go.Fv.H
/- The reference's Line: the walk. -/
namespace Go.Fv.H
open Go Go.Proofs
theorem iW {n:Nat} (h:n≤1048576):(gq n).length≤41:=by
 have h1:=vF 20 n (by rw [show (2:Nat) ^ (20+1)=2097152 from rfl];omega)
 rw [zJ];omega
theorem Me (k:Nat):(aQ.getD k []).length≤7:=by
 by_cases h:k≤6
 ·have:k=0∨k=1∨k=2∨k=3∨k=4∨k=5∨k=6:=by omega
  rcases this with rfl|rfl|rfl|rfl|rfl|rfl|rfl<;>decide
 ·rw [List.getD_eq_getElem?_getD,List.getElem?_eq_none (by show 7≤k;omega)];decide
theorem wo {row above:List Bool} (hr:row.length≤4000) (p:Nat) (ink:Bool):(bK row above p ink).c.length≤85:=by
 have h1:=gU row p
 have h2:=gU row (dQ row p+1)
 unfold bK
 split
 ·exact (by decide:gZ.length≤85)
 ·split
  ·dsimp only;have:=Me (dQ row p+3 - gy above p (!ink));omega
  ·dsimp only
   rw [List.length_append,List.length_append]
   have g1:=iW (n:=dQ row p - (p - 1)+1) (by omega)
   have g2:=iW (n:=dQ row (dQ row p+1) - dQ row p+1) (by omega)
   have:fP.length=3:=rfl
   omega
structure LSx where
 p:Nat
 k:Bool
 o:Bytes
structure YD (row above:List Bool) (x:LSx):Prop where
 hp:x.p≤row.length+1
 ho:x.o++kU row above x.p x.k=kU row above 0 false
 hl:x.o.length≤100*x.p
 hz:row.length=0→x.o=[]
theorem YD.step {row above:List Bool} (hw:above.length=row.length) (hr:row.length≤4000) {p:Nat} {k:Bool} {o:Bytes} (h:YD row above ⟨p,k,o⟩) (hp:p≤row.length) (h0:0<row.length) {c:Bytes} {q:Nat} {k2:Bool} (e:bK row above p k=⟨c,q,k2⟩):p<q∧q≤row.length+1∧YD row above ⟨q,k2,o++c⟩∧c.length≤85:=by
 obtain ⟨h1,h2,h3,h4⟩:=h
 have hs:=jR hw hp k
 have hsh:=wo (above:=above) hr p k
 have hg:=lS hw hp k
 rw [e] at hs hsh hg
 dsimp only at *
 refine ⟨hs.1,hs.2,⟨hs.2,?_,?_,fun h=>by omega⟩,hsh⟩
 ·dsimp only;rw [List.append_assoc,←hg];exact h2
 ·dsimp only;rw [List.length_append];omega
theorem YD.done {row above:List Bool} {p:Nat} {k:Bool} {o:Bytes} (h:YD row above ⟨p,k,o⟩) (hp:¬(p≤row.length∧0<row.length)):o=dZ row above:=by
 obtain ⟨h1,h2,h3,h4⟩:=h
 unfold dZ
 by_cases h0:row.length=0
 ·rw [if_pos h0];exact h4 h0
 ·dsimp only at h2
  rw [if_neg h0,←h2,jv (by omega),List.append_nil]
end Go.Fv.H
/- A text is one word just where its tokens are that word alone; small letters. -/
namespace Go.Fv.H
open Go
end Go.Fv.H
/- Small letters: the bytes on the way. -/
namespace Go.Fv.H
open Go Go.Proofs
theorem pq (l:List UInt8):(aj l).length=l.length:=by simp [aj]
theorem xB (l:List UInt8):bytesOf (aj l)=l:=by
 unfold bytesOf aj
 rw [List.map_map]
 conv=>rhs;rw [←List.map_id l]
 refine List.map_congr_left fun b _=>?_
 simp
end Go.Fv.H
/- strings.Builder: copyCheck at this program. -/
namespace Go.Fv.H
open Go Go.Proofs Go.RowKit
theorem GV (w:World) (g:Nat) (a b v:Value) (t:TypeId) (h:w.heap[g]?=some (.cells #[a,b] t (0,0))):(w.setCell ⟨g,0,none⟩ v).heap[g]?=some (.cells #[v,b] t (0,0)):=by
 unfold World.setCell
 simp [h,Array.getElem?_modify]
theorem Cj (w:World) (g k:Nat) (v:Value) (h:k≠g):(w.setCell ⟨g,0,none⟩ v).heap[k]?=w.heap[k]?:=by
 unfold World.setCell
 simp only [Array.getElem?_modify]
 rw [if_neg (fun e=>h e.symm)]
theorem Xu:(Tryz.prog.info? 89).map (·.size)=some 2:=by kernel_rfl
theorem Y9:liesAt Tryz.prog Tryz.prog.depth 89 (2 / Tryz.prog.cellsOf 89) 0 89 1=true:=by kernel_rfl
theorem ntB:Tryz.f96.ntmps=20:=rfl
set_option maxHeartbeats 1000000 in
set_option maxRecDepth 100000 in
theorem Sm (b:Nat) (w:World) (h0:w.cell? ⟨b,0,none⟩=some (.pointer (some ⟨b,0,none⟩))) :
  Calls Tryz.prog 96 #[.pointer (some ⟨b,0,none⟩)] w fun e w'=>e=.returned (.tuple #[])∧w'=w:=by
 have t70:=Tryz.underlying87
 have t72:=Tryz.underlying89
 have a72:=Tryz.isAgg89
 have z72:=Tryz.sizeOf89
 have a70:=Tryz.isAgg87
 have z70:=Tryz.sizeOf87
 have hf:=Tryz.func96
 have mixed:Tryz.prog.follows .mixedOrders=true:=by kernel_rfl
 obtain ⟨j,hj,hjs⟩:=Option.map_eq_some_iff.1 Xu
 have u70:=run_underlying t70
 have u72:=run_underlying t72
 have hn:=ntB
 generalize Tryz.prog=P at *
 go_enter hf,hn
 go_wp2
 rw [Lib.run_neq_ptr_same w _ t70 hj]
 go_wp2
 go_end0
 exact ⟨rfl,rfl⟩
set_option maxHeartbeats 1000000 in
set_option maxRecDepth 100000 in
theorem Px (b:Nat) (w:World) (h0:w.cell? ⟨b,0,none⟩=some (.pointer none)) (hsh:w.shape? b=some (89,2)) (hfz:w.frozen? ⟨b,0,none⟩=false) :
  Calls Tryz.prog 96 #[.pointer (some ⟨b,0,none⟩)] w fun e w'=>e=.returned (.tuple #[])∧w'=w.setCell ⟨b,0,none⟩ (.pointer (some ⟨b,0,none⟩)):=by
 have t70:=Tryz.underlying87
 have t72:=Tryz.underlying89
 have t164:=Tryz.underlying168
 have a72:=Tryz.isAgg89
 have z72:=Tryz.sizeOf89
 have a70:=Tryz.isAgg87
 have z70:=Tryz.sizeOf87
 have hf:=Tryz.func96
 have hx:=Tryz.func135
 have mixed:Tryz.prog.follows .mixedOrders=true:=by kernel_rfl
 obtain ⟨j,hj,hjs⟩:=Option.map_eq_some_iff.1 Xu
 have hlies:=Y9
 have u70:=run_underlying t70
 have u72:=run_underlying t72
 have hn:=ntB
 generalize Tryz.prog=P at *
 go_enter hf,hn
 go_wp2
 rw [Lib.run_to_unsafe w ⟨b,0,none⟩ t70 t164 hj (by rw [hjs];decide) hsh (Nat.zero_lt_succ 1)]
 simp only [Result.andThen]
 rw [Oper.upon_value]
 go_wp2
 rw [run_callFunc_extern hx (by kernel_rfl) (by kernel_rfl) (by kernel_rfl) (e:=Extern.AbiNoEscape.same) (by kernel_rfl)]
 rw [Lib.run_noEscape]
 simp only [Result.andThen]
 rw [Oper.upon_value]
 go_wp2
 rw [Lib.run_from_unsafe w ⟨b,0,none⟩ t164 t70 hj hsh hlies]
 simp only [Result.andThen]
 rw [Oper.upon_value]
 go_wp2
 go_end0
 exact ⟨rfl,rfl⟩
end Go.Fv.H
/- strings.Builder: what its methods do to a caller's builder. -/
namespace Go.Fv.H
open Go Go.Proofs
theorem Z5 {a it:Item} {i:Nat} (h:lk [(0,a)] i=some it):i=0∧it=a:=by
 simp only [lk] at h
 split at h
 ·rename_i e;exact ⟨e.symm,(Option.some.inj h).symm⟩
 ·cases h
theorem lk2 {a b it:Item} {i:Nat} (h:lk [(0,a),(1,b)] i=some it):(i=0∧it=a)∨(i=1∧it=b):=by
 simp only [lk] at h
 split at h
 ·rename_i e;exact .inl ⟨e.symm,(Option.some.inj h).symm⟩
 ·split at h
  ·rename_i e;exact .inr ⟨e.symm,(Option.some.inj h).symm⟩
  ·cases h
theorem FY:iC Tryz.prog 96 [.ptr 0 0] [(0,.box 89 [.raw (.pointer none),.nilS])] 1 (.tup []) [(0,.box 89 [.ptr 0 0,.nilS])]:=by
 refine ⟨⟨_,Tryz.func96,by kernel_rfl,by kernel_rfl⟩,fun w T g m0 vals ⟨hrow,_,hd⟩ hgl hng hv=>?_⟩
 obtain ⟨_,g0,vs,hm,hO,hl,hh⟩:=hrow 0 _ rfl
 cases hv with
 | cons _ v0 _ vs0 h0 hvs=>
 cases hvs
 cases h0 with
 | ptr _ _ gp hi hg=>
 have hg:blk (m0 0)=some gp:=hg
 rw [hm] at hg
 cases hg
 cases hl with
 | cons _ a _ _ ha _ hl=>
 cases ha
 cases hl with
 | cons _ b _ _ hb _ hl=>
 cases hb
 cases hl
 have hh':w.heap[g0]?=some (.cells #[.pointer none,.slice none 0 0] 89 (0,0)):=hh
 refine (Px g0 w (by simp [World.cell?,hh']) (by simp [World.shape?,hh']) (by simp [World.frozen?,hh'])).mono ?_
 rintro e w' ⟨rfl,rfl⟩
 refine ⟨_,rfl,⟨rfl,rfl,rfl,by simp [World.setCell],trivial,fun k hk hn=>Cj w g0 k _ fun e=>hn (e▸hO)⟩,m0,1,fun _ _=>rfl,Nat.le_refl _,.tup [] [] .nil,fun i it hi=>?_,fun i j it jt b hi hj _ _=>?_⟩
 ·obtain ⟨rfl,rfl⟩:=Z5 hi
  refine ⟨Nat.one_pos,g0,[.pointer (some ⟨g0,0,none⟩),.slice none 0 0],hm,.inr ⟨hO,.inr hO⟩,?_,GV w g0 _ _ _ _ hh'⟩
  exact .cons _ _ _ _ (.ptr 0 0 g0 Nat.one_pos (by show blk (m0 0)=some g0;rw [hm];rfl)) rfl (.cons _ _ _ _ .nilS rfl .nil)
 ·rw [(Z5 hi).1,(Z5 hj).1]
theorem IW (e:TypeId) (l:List Int):iC Tryz.prog 96 [.ptr 0 0] [(0,.box 89 [.ptr 0 0,.own 1]),(1,.row e (.ints .u8 l))] 2 (.tup []) [(0,.box 89 [.ptr 0 0,.own 1]),(1,.row e (.ints .u8 l))]:=by
 refine ⟨⟨_,Tryz.func96,by kernel_rfl,by kernel_rfl⟩,fun w T g m0 vals ⟨hrow,hsep,hd⟩ hgl hng hv=>?_⟩
 obtain ⟨_,g0,vs,hm,hO,hl,hh⟩:=hrow 0 _ rfl
 obtain ⟨_,n,cells,hr,hn,how,hO2⟩:=hrow 1 _ rfl
 cases hv with
 | cons _ v0 _ vs0 h0 hvs=>
 cases hvs
 cases h0 with
 | ptr _ _ gp hi hg=>
 have hg:blk (m0 0)=some gp:=hg
 rw [hm] at hg
 cases hg
 cases hl with
 | cons _ a _ _ ha _ hl=>
 cases ha with
 | ptr _ _ ga _ hga=>
 have hga:blk (m0 0)=some ga:=hga
 rw [hm] at hga
 cases hga
 cases hl with
 | cons _ b _ _ hb hb1 hl=>
 cases hl
 have hh':w.heap[g0]?=some (.cells #[.pointer (some ⟨g0,0,none⟩),b] 89 (0,0)):=hh
 refine (Sm g0 w (by simp [World.cell?,hh'])).mono ?_
 rintro e w' ⟨rfl,rfl⟩
 refine ⟨_,rfl,aZ.refl _ _,m0,2,fun _ _=>rfl,Nat.le_refl _,.tup [] [] .nil,fun i it hi=>?_,fun i j it jt b hi hj h1 h2=>?_⟩
 ·rcases lk2 hi with ⟨rfl,rfl⟩|⟨rfl,rfl⟩
  ·refine ⟨by decide,g0,[.pointer (some ⟨g0,0,none⟩),b],hm,.inr ⟨hO,.inr hO⟩,?_,hh'⟩
   cases hb with
   | own _ h5 h6=>exact .cons _ _ _ _ (.ptr 0 0 g0 (show 0<2 by decide) (by show blk (m0 0)=some g0;rw [hm];rfl)) rfl (.cons _ _ _ _ (.own 1 (show 1<2 by decide) h6) hb1 .nil)
  ·refine ⟨by decide,n,cells,?_,hn,how,fun b hb=>.inr ⟨hO2 b hb,.inr (hO2 b hb)⟩⟩
   cases hr with
   | ints _ _ h7=>exact .ints _ _ h7
 ·exact hsep i j it jt b hi hj h1 h2
theorem Au {a b:Item}:∀ j,j<2→∃ it,lk [(0,a),(1,b)] j=some it:=fun j hj=>by
 have:j=0∨j=1:=by omega
 rcases this with rfl|rfl
 ·exact ⟨a,rfl⟩
 ·exact ⟨b,rfl⟩
theorem Sr {a:Item}:∀ j,j<1→∃ it,lk [(0,a)] j=some it:=fun j hj=>by
 obtain rfl:j=0:=by omega
 exact ⟨a,rfl⟩
set_option maxHeartbeats 2000000 in
theorem iO (s:List UInt8) (hs:s.length≤100000000000):iC Tryz.prog 60 [.ptr 0 0,.str s] [(0,.box 89 [.raw (.pointer none),.nilS])] 1 (.tup [.int .i64 s.length,.raw .nilIface]) [(0,.box 89 [.ptr 0 0,.own 1]),(1,.row 5 (.ints .u8 (aj s)))]:=by
 have k:=FY
 refine iC.aJ Tryz.func60 rfl (by decide) (by simp [Tryz.f60]) Sr [.tmp 4,.tmp 5] rfl fun w0 T0 _=>?_
 simp only [Tryz.f60,aB]
 (repeat' with_reducible first|intro _|exact dn|refine rn ?_|refine ra ?_ ?_)
 refine ah.i [0] k 1 ?_
 (repeat' with_reducible first|intro _|refine rz ?_|refine ra ?_ ?_|omega|simp only [go_sem,S.V9,qU,pK,FZ,Item.ren,ren,gG,List.getElem?_cons_zero,List.getElem?_cons_succ,List.getElem?_nil,List.filter])
 refine kT.of [(1,2)] 3 (by decide) (by decide) ?_ rfl ?_<;>simp only [go_sem,Int.natCast_succ,aj]
set_option maxHeartbeats 2000000 in
theorem jJ (b s:List UInt8) (hb:b.length≤100000000000) (hs:s.length≤10000000000):iC Tryz.prog 60 [.ptr 0 0,.str s] [(0,.box 89 [.ptr 0 0,.own 1]),(1,.row 5 (.ints .u8 (aj b)))] 2 (.tup [.int .i64 s.length,.raw .nilIface]) [(0,.box 89 [.ptr 0 0,.own 2]),(2,.row 5 (.ints .u8 (aj (b++s))))]:=by
 have k:=IW 5 (aj b)
 have hbl:=pq b
 have he:aj (b++s)=aj b++s.map (fun b=>(b.toNat:Int)):=by unfold aj;rw [List.map_append]
 generalize aj b=B at *
 generalize aj (b++s)=C at *
 refine iC.aJ Tryz.func60 rfl (by decide) (by simp [Tryz.f60]) Au [.tmp 4,.tmp 5] rfl fun w0 T0 _=>?_
 simp only [Tryz.f60,aB]
 (repeat' with_reducible first|intro _|exact dn|refine rn ?_|refine ra ?_ ?_)
 refine ah.i [0,1] k 2 ?_
 (repeat' with_reducible first|intro _|exact dn|refine rn ?_|refine ra ?_ ?_)
 refine kT.of [(2,2)] 3 (by decide) (by decide) ?_ rfl ?_<;>simp only [go_sem,Int.natCast_succ,he]
set_option maxHeartbeats 2000000 in
theorem mP:iC Tryz.prog 57 [.ptr 0 0] [(0,.box 89 [.raw (.pointer none),.nilS])] 1 (.str []) []:=by
 refine iC.aJ Tryz.func57 rfl (by decide) (by simp [Tryz.f57]) Sr [.tmp 2] rfl fun w0 T0 _=>?_
 simp only [Tryz.f57,aB]
 (repeat' with_reducible first|intro _|exact dn|refine rn ?_|refine ra ?_ ?_)
 refine bC.lex [] [] (by kernel_rfl) (by kernel_rfl) ?_
 (repeat' with_reducible first|intro _|exact dn|refine rn ?_|refine ra ?_ ?_)
 refine QV.intro (.raw (.pointer none)) ?_ ?_
 ·(repeat' with_reducible first|intro _|exact dn|refine rn ?_|refine ra ?_ ?_)
 (repeat' with_reducible first|intro _|exact dn|refine rn ?_|refine ra ?_ ?_)
 refine QV.intro (.str []) ?_ ?_
 ·(repeat' with_reducible first|intro _|exact dn|refine rn ?_|refine ra ?_ ?_)
 (repeat' with_reducible first|intro _|exact dn|refine rn ?_|refine ra ?_ ?_)
 refine kT.auto 1 (Nat.le_refl 1) ?_ rfl ?_<;>simp only [go_sem,Int.natCast_succ]
set_option maxHeartbeats 2000000 in
theorem nV (b:List UInt8) (hb:0<b.length):iC Tryz.prog 57 [.ptr 0 0] [(0,.box 89 [.ptr 0 0,.own 1]),(1,.row 5 (.ints .u8 (aj b)))] 2 (.str b) []:=by
 have hbl:=pq b
 have hz:((aj b).map fun n=>UInt8.ofNat n.toNat)=b:=xB b
 have hne:aj b≠[]:=fun e=>by rw [e] at hbl;simp at hbl;omega
 generalize aj b=B at *
 refine iC.aJ Tryz.func57 rfl (by decide) (by simp [Tryz.f57]) Au [.tmp 2] rfl fun w0 T0 _=>?_
 simp only [Tryz.f57,aB]
 (repeat' with_reducible first|intro _|exact dn|refine rn ?_|refine ra ?_ ?_)
 refine bC.lex [10] [] (by kernel_rfl) (by kernel_rfl) ?_
 (repeat' with_reducible first|intro _|refine rz ?_|refine ra ?_ ?_|omega|simp only [go_sem,hne,hbl,hz])
 refine QV.intro (.elt 1 1 0 0) ?_ ?_
 ·(repeat' with_reducible first|intro _|refine rz ?_|refine ra ?_ ?_|omega|simp only [go_sem,hne,hbl,hz])
 (repeat' with_reducible first|intro _|refine rz ?_|refine ra ?_ ?_|omega|simp only [go_sem,hne,hbl,hz])
 trace_state
 refine QE.intro (.str b) [(2,.row 5 (.ints .u8 [])),(0,.box 89 [.ptr 0 0,.own 1])] 3 ?_ ?_
 ·(repeat' with_reducible first|intro _|refine rz ?_|refine ra ?_ ?_|omega|simp only [go_sem,hne,hbl,hz])
 (repeat' with_reducible first|intro _|refine rz ?_|refine ra ?_ ?_|omega|simp only [go_sem,hne,hbl,hz])
 refine kT.auto 2 (Nat.le_refl 2) ?_ rfl ?_<;>simp only [go_sem,Int.natCast_succ]
end Go.Fv.H
/- shrink.line: the walk. -/
namespace Go.Fv.H
open Go Go.Proofs
theorem BF {k:Nat} (h:k≤6):0<(aQ.getD k []).length:=by
 have:k=0∨k=1∨k=2∨k=3∨k=4∨k=5∨k=6:=by omega
 rcases this with rfl|rfl|rfl|rfl|rfl|rfl|rfl<;>decide
structure LSy where
 p:Nat
 k:Bool
 o:Bytes
 u:Bool
structure LSJ (row above:List Bool) (x:LSy):Prop where
 s:YD row above ⟨x.p,x.k,x.o⟩
 u1:x.u=true→0<x.o.length
 u2:x.u=false→x.o=[]∧x.p=0
 u3:row.length=0→x.u=false
set_option maxHeartbeats 16000000 in
theorem OE (row above:List Bool) (hr:row.length≤4000) (hw:above.length=row.length) :
  aC Tryz.prog 151 [.ro (.bools row),.ro (.bools above)] (.str (dZ row above)) []:=by
 refine aC.aJ Tryz.func151 rfl (by decide) (by simp [Tryz.f151]) [.tmp 4] rfl fun w0 T0 _=>?_
 simp only [Tryz.f151,aB]
 (repeat' with_reducible first|intro _|exact dn|refine rn ?_|refine ra ?_ ?_)
 refine aI.intro (fun x:LSy=>⟨76,[(5,.ptr 0 0),(8,.int .i64 ((x.p:Int) - 1)),(7,.bool x.k),(6,.int .i64 row.length),(1,.ro (.bools above)),(0,.ro (.bools row))],bif x.u then [(0,.box 89 [.ptr 0 0,.own 1]),(1,.row 5 (.ints .u8 (aj x.o)))] else [(0,.box 89 [.raw (.pointer none),.nilS])],bif x.u then 2 else 1⟩) (LSJ row above) (fun x=>row.length+1 - x.p) ⟨0,false,[],false⟩ ?_ ⟨⟨by dsimp only;omega,rfl,by simp,fun _=>rfl⟩,(by intro h;cases h),fun _=>⟨rfl,rfl⟩,fun _=>rfl⟩ fun x hI=>?_
 ·refine aO.ak rfl ?_ ?_<;>simp only [go_sem,Int.natCast_succ]
  all_goals first|rfl|exact ⟨rfl,rfl⟩
 obtain ⟨p,k,o,u⟩:=x
 obtain ⟨hI0,hu1,hu2,hu3⟩:=hI
 have hI:=hI0
 obtain ⟨hp,ho,hl,_⟩:=hI
 dsimp only at *
 by_cases hlt:p≤row.length∧0<row.length
 rotate_left
 ·have hres:=hI0.done hlt
  by_cases h0:0<row.length
  ·have f1:((p:Int) - 1<(row.length:Int))=False:=eq_false (by omega)
   cases u with
   | false=>have:=(hu2 rfl).2;omega
   | true=>
    have kst:=nV o (hu1 rfl)
    simp only [cond_true,cond_false,List.cons_append,List.nil_append]
    (repeat' with_reducible first|intro _|refine rz ?_|refine ra ?_ ?_|omega|simp only [go_sem,f1])
    refine ah.i [0,1] kst 2 ?_
    (repeat' with_reducible first|intro _|exact dn|refine rn ?_|refine ra ?_ ?_)
    refine bf.auto 0 ?_ rfl ?_<;>simp only [go_sem,Int.natCast_succ,Post,hres]
  ·have f2:((row.length:Int)=0)=True:=eq_true (by omega)
   have hu:=hu3 (by omega)
   subst hu
   obtain ⟨h0a,h0b⟩:=hu2 rfl
   subst h0a
   have f1:((p:Int) - 1<(row.length:Int))=True:=eq_true (by omega)
   have kst:=mP
   simp only [cond_true,cond_false,List.cons_append,List.nil_append]
   (repeat' with_reducible first|intro _|refine rz ?_|refine ra ?_ ?_|omega|simp only [go_sem,f1,f2])
   refine ah.i [0] kst 1 ?_
   (repeat' with_reducible first|intro _|exact dn|refine rn ?_|refine ra ?_ ?_)
   refine bf.auto 0 ?_ rfl ?_<;>simp only [go_sem,Int.natCast_succ,Post,←hres]
 obtain ⟨hle,hw0⟩:=hlt
 have f1:((p:Int) - 1<(row.length:Int))=True:=eq_true (by omega)
 have f2:((row.length:Int)=0)=False:=eq_false (by omega)
 have k1:=lM row p ((p:Int) - 1) rfl (by omega) hr
 have c1:=gU row p
 have c2:=jl hle
 have k3:=yO above p ((p:Int) - 1) (!k) rfl (by omega) (by omega)
 obtain ⟨a1,hA⟩:∃ a1,dQ row p=a1:=⟨_,rfl⟩
 rw [hA] at k1 c1 c2
 obtain ⟨a2,hA2⟩:∃ a2,dQ row (a1+1)=a2:=⟨_,rfl⟩
 have c3:=gU row (a1+1)
 have k2:=lM row (a1+1) (a1:Int) (by omega) (by omega) hr
 rw [hA2] at c3 k2
 have c4:a1≤a2:=by
  by_cases h:a1<row.length
  ·have:=jl (r:=row) (i:=a1+1) (by omega);omega
  ·rw [iP (by omega)] at hA2;omega
 obtain ⟨b1,hB1⟩:∃ b1,gy above p (!k)=b1:=⟨_,rfl⟩
 have hb1:=vM (r:=above) (i:=p) (by omega) (!k)
 rw [hB1] at k3 hb1
 obtain ⟨b2,hB2⟩:∃ b2,dQ above (b1+1)=b2:=⟨_,rfl⟩
 have k4:=lM above (b1+1) (b1:Int) (by omega) (by omega) (by omega)
 rw [hB2] at k4
 cases u with
 | true=>
  simp only [cond_true,cond_false,List.cons_append,List.nil_append]
  have hop:=hu1 rfl
  (repeat' with_reducible first|intro _|refine rz ?_|refine ra ?_ ?_|omega|simp only [go_sem,f1,f2])
  refine ah.k k1 ?_
  (repeat' with_reducible first|intro _|exact dn|refine rn ?_|refine ra ?_ ?_)
  refine ah.k k2 ?_
  (repeat' with_reducible first|intro _|exact dn|refine rn ?_|refine ra ?_ ?_)
  refine ah.k k3 ?_
  (repeat' with_reducible first|intro _|exact dn|refine rn ?_|refine ra ?_ ?_)
  refine ah.k k4 ?_
  by_cases s1:b2<a1
  ·have f5:((b2:Int)<(a1:Int))=True:=eq_true (by omega)
   have e:bK row above p k=⟨gZ,b2+1,k⟩:=by unfold bK;rw [hB1,hB2,hA,if_pos s1]
   obtain ⟨q1,q2,q3,q4⟩:=hI0.step hw hr hle hw0 e
   have kw2:=jJ o ([48,48,48,49]) (by omega) (by decide)
   have hpl:0<gZ.length:=by decide
   (repeat' with_reducible first|intro _|refine rz ?_|refine ra ?_ ?_|omega|simp only [go_sem,f5])
   refine ah.i [0,1] kw2 3 ?_
   (repeat' with_reducible first|intro _|exact dn|refine rn ?_|refine ra ?_ ?_)
   refine ⟨⟨b2+1,k,o++gZ,true⟩,aO.ak rfl ?_ ?_,⟨q3,fun _=>?_,(by intro h;cases h),fun h=>by omega⟩,by dsimp only;omega⟩
   ·simp only [go_sem,Int.natCast_succ,List.append_assoc,gZ]
    all_goals first|rfl|omega|(refine ⟨?_,?_⟩<;>first|rfl|omega)
   ·simp only [go_sem,Int.natCast_succ,List.append_assoc,gZ]
    all_goals first|rfl|omega|(refine ⟨?_,?_⟩<;>first|rfl|omega)
   ·dsimp only;rw [List.length_append];omega
  have f5:((b2:Int)<(a1:Int))=False:=eq_false (by omega)
  by_cases s2:a1≤b1+3∧b1≤a1+3
  ·have f6:(-3≤(a1:Int) - (b1:Int))=True:=eq_true (by omega)
   have f7:((a1:Int) - (b1:Int)≤3)=True:=eq_true (by omega)
   have e:bK row above p k=⟨aQ.getD (a1+3 - b1) [],a1+1,!k⟩:=by unfold bK;rw [hB1,hB2,hA,if_neg s1,if_pos s2]
   obtain ⟨q1,q2,q3,q4⟩:=hI0.step hw hr hle hw0 e
   have hix:((a1:Int) - (b1:Int)+3).toNat=a1+3 - b1:=by omega
   have hnl:aQ.length=7:=rfl
   have hpl:=BF (k:=a1+3 - b1) (by omega)
   have kw2:=jJ o (aQ.getD (a1+3 - b1) []) (by omega) (by omega)
   generalize hcd:aQ.getD (a1+3 - b1) []=cd at *
   (repeat' with_reducible first|intro _|refine rz ?_|refine ra ?_ ?_|omega|simp only [go_sem,f5,f6,f7])
   refine ah.o lI 1 ?_
   (repeat' with_reducible first|intro _|refine rz ?_|refine ra ?_ ?_|omega|simp only [go_sem,hix,hnl,hcd,f6,f7])
   refine ah.i [0,1] kw2 3 ?_
   (repeat' with_reducible first|intro _|exact dn|refine rn ?_|refine ra ?_ ?_)
   refine ⟨⟨a1+1,!k,o++cd,true⟩,aO.ak rfl ?_ ?_,⟨q3,fun _=>?_,(by intro h;cases h),fun h=>by omega⟩,by dsimp only;omega⟩
   ·simp only [go_sem,Int.natCast_succ,List.append_assoc]
    all_goals first|rfl|omega|(refine ⟨?_,?_⟩<;>first|rfl|omega)
   ·simp only [go_sem,Int.natCast_succ,List.append_assoc]
    all_goals first|rfl|omega|(refine ⟨?_,?_⟩<;>first|rfl|omega)
   ·dsimp only;rw [List.length_append];omega
  have e:bK row above p k=⟨fP++(gq (a1 - (p - 1)+1)++gq (a2 - a1+1)),a2+1,k⟩:=by unfold bK;rw [hB1,hB2,hA,if_neg s1,if_neg s2,hA2]
  obtain ⟨q1,q2,q3,q4⟩:=hI0.step hw hr hle hw0 e
  have hmx:max ((p:Int) - 1) 0=((p - 1:Nat):Int):=by omega
  have g1:=qP (a1 - (p - 1)+1) (by omega)
  rw [show ((a1 - (p - 1)+1:Nat):Int)=(a1:Int) - ((p - 1:Nat):Int)+1 by omega] at g1
  have g2:=qP (a2 - a1+1) (by omega)
  rw [show ((a2 - a1+1:Nat):Int)=(a2:Int) - (a1:Int)+1 by omega] at g2
  have hs1:=iW (n:=a1 - (p - 1)+1) (by omega)
  have hs2:=iW (n:=a2 - a1+1) (by omega)
  generalize gq (a1 - (p - 1)+1)=x1 at *
  generalize gq (a2 - a1+1)=x2 at *
  have kw2:=jJ o (48::48::49::(x1++x2)) (by omega) (by simp only [List.length_cons,List.length_append];omega)
  have hpl:0<(fP++(x1++x2)).length:=by rw [List.length_append];have:fP.length=3:=rfl;omega
  by_cases s3:a1+3<b1
  ·have f6:(-3≤(a1:Int) - (b1:Int))=False:=eq_false (by omega)
   (repeat' with_reducible first|intro _|refine rz ?_|refine ra ?_ ?_|omega|simp only [go_sem,f5,f6,hmx])
   refine ah.k g1 ?_
   (repeat' with_reducible first|intro _|exact dn|refine rn ?_|refine ra ?_ ?_)
   refine ah.k g2 ?_
   (repeat' with_reducible first|intro _|exact dn|refine rn ?_|refine ra ?_ ?_)
   refine ah.i [0,1] kw2 3 ?_
   (repeat' with_reducible first|intro _|exact dn|refine rn ?_|refine ra ?_ ?_)
   refine ⟨⟨a2+1,k,o++(fP++(x1++x2)),true⟩,aO.ak rfl ?_ ?_,⟨q3,fun _=>?_,(by intro h;cases h),fun h=>by omega⟩,by dsimp only;omega⟩
   ·simp only [go_sem,Int.natCast_succ,List.append_assoc,fP]
    all_goals first|rfl|omega|(refine ⟨?_,?_⟩<;>first|rfl|omega)
   ·simp only [go_sem,Int.natCast_succ,List.append_assoc,fP]
    all_goals first|rfl|omega|(refine ⟨?_,?_⟩<;>first|rfl|omega)
   ·dsimp only;rw [List.length_append];omega
  ·have f6:(-3≤(a1:Int) - (b1:Int))=True:=eq_true (by omega)
   have f7:((a1:Int) - (b1:Int)≤3)=False:=eq_false (by omega)
   (repeat' with_reducible first|intro _|refine rz ?_|refine ra ?_ ?_|omega|simp only [go_sem,f5,f6,f7,hmx])
   refine ah.k g1 ?_
   (repeat' with_reducible first|intro _|exact dn|refine rn ?_|refine ra ?_ ?_)
   refine ah.k g2 ?_
   (repeat' with_reducible first|intro _|exact dn|refine rn ?_|refine ra ?_ ?_)
   refine ah.i [0,1] kw2 3 ?_
   (repeat' with_reducible first|intro _|exact dn|refine rn ?_|refine ra ?_ ?_)
   refine ⟨⟨a2+1,k,o++(fP++(x1++x2)),true⟩,aO.ak rfl ?_ ?_,⟨q3,fun _=>?_,(by intro h;cases h),fun h=>by omega⟩,by dsimp only;omega⟩
   ·simp only [go_sem,Int.natCast_succ,List.append_assoc,fP]
    all_goals first|rfl|omega|(refine ⟨?_,?_⟩<;>first|rfl|omega)
   ·simp only [go_sem,Int.natCast_succ,List.append_assoc,fP]
    all_goals first|rfl|omega|(refine ⟨?_,?_⟩<;>first|rfl|omega)
   ·dsimp only;rw [List.length_append];omega
 | false=>
  simp only [cond_true,cond_false,List.cons_append,List.nil_append]
  obtain ⟨h0a,h0b⟩:=hu2 rfl
  subst h0a
  (repeat' with_reducible first|intro _|refine rz ?_|refine ra ?_ ?_|omega|simp only [go_sem,f1,f2])
  refine ah.k k1 ?_
  (repeat' with_reducible first|intro _|exact dn|refine rn ?_|refine ra ?_ ?_)
  refine ah.k k2 ?_
  (repeat' with_reducible first|intro _|exact dn|refine rn ?_|refine ra ?_ ?_)
  refine ah.k k3 ?_
  (repeat' with_reducible first|intro _|exact dn|refine rn ?_|refine ra ?_ ?_)
  refine ah.k k4 ?_
  by_cases s1:b2<a1
  ·have f5:((b2:Int)<(a1:Int))=True:=eq_true (by omega)
   have e:bK row above p k=⟨gZ,b2+1,k⟩:=by unfold bK;rw [hB1,hB2,hA,if_pos s1]
   obtain ⟨q1,q2,q3,q4⟩:=hI0.step hw hr hle hw0 e
   have kw2:=iO ([48,48,48,49]) (by decide)
   have hpl:0<gZ.length:=by decide
   (repeat' with_reducible first|intro _|refine rz ?_|refine ra ?_ ?_|omega|simp only [go_sem,f5])
   refine ah.i [0] kw2 2 ?_
   (repeat' with_reducible first|intro _|exact dn|refine rn ?_|refine ra ?_ ?_)
   refine ⟨⟨b2+1,k,[]++gZ,true⟩,aO.ak rfl ?_ ?_,⟨q3,fun _=>?_,(by intro h;cases h),fun h=>by omega⟩,by dsimp only;omega⟩
   ·simp only [go_sem,Int.natCast_succ,List.append_assoc,gZ]
    all_goals first|rfl|omega|(refine ⟨?_,?_⟩<;>first|rfl|omega)
   ·simp only [go_sem,Int.natCast_succ,List.append_assoc,gZ]
    all_goals first|rfl|omega|(refine ⟨?_,?_⟩<;>first|rfl|omega)
   ·dsimp only;rw [List.length_append];omega
  have f5:((b2:Int)<(a1:Int))=False:=eq_false (by omega)
  by_cases s2:a1≤b1+3∧b1≤a1+3
  ·have f6:(-3≤(a1:Int) - (b1:Int))=True:=eq_true (by omega)
   have f7:((a1:Int) - (b1:Int)≤3)=True:=eq_true (by omega)
   have e:bK row above p k=⟨aQ.getD (a1+3 - b1) [],a1+1,!k⟩:=by unfold bK;rw [hB1,hB2,hA,if_neg s1,if_pos s2]
   obtain ⟨q1,q2,q3,q4⟩:=hI0.step hw hr hle hw0 e
   have hix:((a1:Int) - (b1:Int)+3).toNat=a1+3 - b1:=by omega
   have hnl:aQ.length=7:=rfl
   have hpl:=BF (k:=a1+3 - b1) (by omega)
   have kw2:=iO (aQ.getD (a1+3 - b1) []) (by omega)
   generalize hcd:aQ.getD (a1+3 - b1) []=cd at *
   (repeat' with_reducible first|intro _|refine rz ?_|refine ra ?_ ?_|omega|simp only [go_sem,f5,f6,f7])
   refine ah.o lI 1 ?_
   (repeat' with_reducible first|intro _|refine rz ?_|refine ra ?_ ?_|omega|simp only [go_sem,hix,hnl,hcd,f6,f7])
   refine ah.i [0] kw2 2 ?_
   (repeat' with_reducible first|intro _|exact dn|refine rn ?_|refine ra ?_ ?_)
   refine ⟨⟨a1+1,!k,[]++cd,true⟩,aO.ak rfl ?_ ?_,⟨q3,fun _=>?_,(by intro h;cases h),fun h=>by omega⟩,by dsimp only;omega⟩
   ·simp only [go_sem,Int.natCast_succ,List.append_assoc]
    all_goals first|rfl|omega|(refine ⟨?_,?_⟩<;>first|rfl|omega)
   ·simp only [go_sem,Int.natCast_succ,List.append_assoc]
    all_goals first|rfl|omega|(refine ⟨?_,?_⟩<;>first|rfl|omega)
   ·dsimp only;rw [List.length_append];omega
  have e:bK row above p k=⟨fP++(gq (a1 - (p - 1)+1)++gq (a2 - a1+1)),a2+1,k⟩:=by unfold bK;rw [hB1,hB2,hA,if_neg s1,if_neg s2,hA2]
  obtain ⟨q1,q2,q3,q4⟩:=hI0.step hw hr hle hw0 e
  have hmx:max ((p:Int) - 1) 0=((p - 1:Nat):Int):=by omega
  have g1:=qP (a1 - (p - 1)+1) (by omega)
  rw [show ((a1 - (p - 1)+1:Nat):Int)=(a1:Int) - ((p - 1:Nat):Int)+1 by omega] at g1
  have g2:=qP (a2 - a1+1) (by omega)
  rw [show ((a2 - a1+1:Nat):Int)=(a2:Int) - (a1:Int)+1 by omega] at g2
  have hs1:=iW (n:=a1 - (p - 1)+1) (by omega)
  have hs2:=iW (n:=a2 - a1+1) (by omega)
  generalize gq (a1 - (p - 1)+1)=x1 at *
  generalize gq (a2 - a1+1)=x2 at *
  have kw2:=iO (48::48::49::(x1++x2)) (by simp only [List.length_cons,List.length_append];omega)
  have hpl:0<(fP++(x1++x2)).length:=by rw [List.length_append];have:fP.length=3:=rfl;omega
  by_cases s3:a1+3<b1
  ·have f6:(-3≤(a1:Int) - (b1:Int))=False:=eq_false (by omega)
   (repeat' with_reducible first|intro _|refine rz ?_|refine ra ?_ ?_|omega|simp only [go_sem,f5,f6,hmx])
   refine ah.k g1 ?_
   (repeat' with_reducible first|intro _|exact dn|refine rn ?_|refine ra ?_ ?_)
   refine ah.k g2 ?_
   (repeat' with_reducible first|intro _|exact dn|refine rn ?_|refine ra ?_ ?_)
   refine ah.i [0] kw2 2 ?_
   (repeat' with_reducible first|intro _|exact dn|refine rn ?_|refine ra ?_ ?_)
   refine ⟨⟨a2+1,k,[]++(fP++(x1++x2)),true⟩,aO.ak rfl ?_ ?_,⟨q3,fun _=>?_,(by intro h;cases h),fun h=>by omega⟩,by dsimp only;omega⟩
   ·simp only [go_sem,Int.natCast_succ,List.append_assoc,fP]
    all_goals first|rfl|omega|(refine ⟨?_,?_⟩<;>first|rfl|omega)
   ·simp only [go_sem,Int.natCast_succ,List.append_assoc,fP]
    all_goals first|rfl|omega|(refine ⟨?_,?_⟩<;>first|rfl|omega)
   ·dsimp only;rw [List.length_append];omega
  ·have f6:(-3≤(a1:Int) - (b1:Int))=True:=eq_true (by omega)
   have f7:((a1:Int) - (b1:Int)≤3)=False:=eq_false (by omega)
   (repeat' with_reducible first|intro _|refine rz ?_|refine ra ?_ ?_|omega|simp only [go_sem,f5,f6,f7,hmx])
   refine ah.k g1 ?_
   (repeat' with_reducible first|intro _|exact dn|refine rn ?_|refine ra ?_ ?_)
   refine ah.k g2 ?_
   (repeat' with_reducible first|intro _|exact dn|refine rn ?_|refine ra ?_ ?_)
   refine ah.i [0] kw2 2 ?_
   (repeat' with_reducible first|intro _|exact dn|refine rn ?_|refine ra ?_ ?_)
   refine ⟨⟨a2+1,k,[]++(fP++(x1++x2)),true⟩,aO.ak rfl ?_ ?_,⟨q3,fun _=>?_,(by intro h;cases h),fun h=>by omega⟩,by dsimp only;omega⟩
   ·simp only [go_sem,Int.natCast_succ,List.append_assoc,fP]
    all_goals first|rfl|omega|(refine ⟨?_,?_⟩<;>first|rfl|omega)
   ·simp only [go_sem,Int.natCast_succ,List.append_assoc,fP]
    all_goals first|rfl|omega|(refine ⟨?_,?_⟩<;>first|rfl|omega)
   ·dsimp only;rw [List.length_append];omega
end Go.Fv.H
/- shrink.dataOf: the walk. -/
namespace Go.Fv.H
open Go Go.Proofs
theorem Bl {row above:List Bool} (hr:row.length≤4000) (hw:above.length=row.length):(dZ row above).length≤100*(row.length+1):=by
 have key:∀ (f p:Nat) (ink:Bool),row.length+1 - p≤f→(kU row above p ink).length≤100*f:=by
  intro f
  induction f with
  | zero=>intro p ink h;rw [jv (by omega)];simp
  | succ f ih=>
   intro p ink h
   by_cases hp:p≤row.length
   ·have hs:=jR hw hp ink
    have hsh:=wo (above:=above) hr p ink
    rw [lS hw hp,List.length_append]
    have:=ih (bK row above p ink).p (bK row above p ink).k (by omega)
    omega
   ·rw [jv hp];simp
 unfold dZ
 split
 ·simp
 ·exact key (row.length+1) 0 false (by omega)
theorem G8 {w h:Nat} {p:List Bool} (hp:p.length=w*h) {y:Nat} (hy:y<h):(yC w p y).length=w:=by
 unfold yC
 split
 ·exact List.length_replicate
 ·exact gu hp (by omega)
theorem qW (w:Nat) (p:List Bool) (y:Nat):fE w p (y+1)=fE w p y++dZ (rowP w p y) (yC w p y):=by
 unfold fE;rw [List.range_succ,List.flatMap_append];simp
theorem uO (w:Nat) (p:List Bool) (y:Nat):jD w p (y+1)=jD w p y++dB (iw (rowP w p y)):=by
 unfold jD;rw [List.range_succ,List.flatMap_append];simp
theorem Nb {l:List Int} {j:Nat} (h:j<l.length):dB (l.take (j+1))=dB (l.take j)++gq (l.getD j 0+1).toNat:=by
 unfold dB;rw [List.take_succ_eq_append_getElem h,List.flatMap_append,getD_lt h];simp
theorem yu (r:List Bool):(iw r).length≤r.length+1∧∀ x,x∈iw r→0≤x∧x≤r.length:=by
 obtain ⟨h1,_,h3⟩:=uN r r.length
 exact ⟨h1,h3⟩
theorem pV {w h:Nat} {p:List Bool} (hw:w≤4000) (hp:p.length=w*h):∀ y,y≤h→(fE w p y).length≤100*(w+1)*y
 | 0,_=>by simp [fE]
 | y+1,hy=>by
  have h1:=pV hw hp y (by omega)
  have hl:=gu hp (y:=y) (by omega)
  have h2:=Bl (row:=rowP w p y) (above:=yC w p y) (by omega) (by rw [G8 hp (by omega),hl])
  rw [hl] at h2
  rw [qW,List.length_append,Nat.mul_succ];omega
theorem EZ {l:List Int} (hl:∀ x,x∈l→0≤x∧x≤4000):(dB l).length≤41*l.length:=by
 induction l with
 | nil=>simp [dB]
 | cons x l ih=>
  have h1:=ih fun y hy=>hl y (.tail _ hy)
  have h2:=hl x (.head _)
  have h3:=iW (n:=(x+1).toNat) (by omega)
  have e:dB (x::l)=gq (x+1).toNat++dB l:=by unfold dB;simp
  rw [e,List.length_append,List.length_cons];omega
theorem sV {w h:Nat} {p:List Bool} (hw:w≤4000) (hp:p.length=w*h):∀ y,y≤h→(jD w p y).length≤41*(w+1)*y
 | 0,_=>by simp [jD]
 | y+1,hy=>by
  have h1:=sV hw hp y (by omega)
  have hl:=gu hp (y:=y) (by omega)
  obtain ⟨h2,h3⟩:=yu (rowP w p y)
  have h4:=EZ (l:=iw (rowP w p y)) fun x hx=>by have:=h3 x hx;omega
  rw [uO,List.length_append,Nat.mul_succ]
  rw [hl] at h2
  have h5:41*(iw (rowP w p y)).length≤41*(w+1):=Nat.mul_le_mul_left _ h2
  omega
theorem Qg {row above:List Bool} (h0:0<row.length) (hr:row.length≤4000) (hw:above.length=row.length):0<(dZ row above).length:=by
 unfold dZ
 rw [if_neg (by omega),lS hw (by omega),List.length_append]
 have hs:0<(bK row above 0 false).c.length:=by
  unfold bK
  split
  ·exact (by decide:0<gZ.length)
  ·split
   ·dsimp only;exact BF (by omega)
   ·dsimp only;rw [List.length_append];have:fP.length=3:=rfl;omega
 omega
structure DX where
 y:Nat
 u:Bool
structure DR where
 j:Nat
 u:Bool
structure BU (o:Bytes) (u:Bool):Prop where
 h1:u=true→0<o.length
 h2:u=false→o=[]
theorem VZ (n:Nat):0<(gq n).length:=by
 have:=vG n
 rw [zJ];omega
set_option maxHeartbeats 16000000 in
theorem PD (w h:Nat) (hw0:0<w) (hw:w≤4000) (hh:h≤4000) (hwh:w*h≤1048576) (p:List Bool) (hp:p.length=w*h) (kind:Int) :
  aC Tryz.prog 107 [.agg [.int .i64 w,.int .i64 h,.ro (.bools p)],.int .i64 kind] (.own 0) [(0,.row 5 (.ints .u8 (aj (dw w h p kind))))]:=by
 refine aC.aJ Tryz.func107 rfl (by decide) (by simp [Tryz.f107]) [.tmp 4] rfl fun w0 T0 _=>?_
 simp only [Tryz.f107,aB]
 by_cases c1:kind=1
 ·have e:dw w h p kind=mF (iV p):=if_pos c1
  rw [e]
  have k1:=Pq (w:Int) (h:Int) p (by omega)
  have k2:=xZ (iV p) (by rw [jL];omega)
  have g1:(kind=1)=True:=eq_true c1
  (repeat' with_reducible first|intro _|refine rz ?_|refine ra ?_ ?_|omega|simp only [go_sem,g1])
  refine ah.k k1 ?_
  (repeat' with_reducible first|intro _|exact dn|refine rn ?_|refine ra ?_ ?_)
  refine ah.o k2 1 ?_
  (repeat' with_reducible first|intro _|exact dn|refine rn ?_|refine ra ?_ ?_)
  refine bf.auto 1 ?_ rfl ?_<;>simp only [go_sem,Int.natCast_succ,Post]
 have g1:(kind=1)=False:=eq_false c1
 by_cases c4:kind=4
 ·have e:dw w h p kind=Ie w h p:=by unfold dw;rw [if_neg c1,if_pos c4]
  rw [e]
  have k1:=Io w h hw0 hw hh hwh p hp
  have g4:(kind=4)=True:=eq_true c4
  (repeat' with_reducible first|intro _|refine rz ?_|refine ra ?_ ?_|omega|simp only [go_sem,g1,g4])
  refine ah.o k1 1 ?_
  (repeat' with_reducible first|intro _|exact dn|refine rn ?_|refine ra ?_ ?_)
  refine bf.auto 1 ?_ rfl ?_<;>simp only [go_sem,Int.natCast_succ,Post]
 have g4:(kind=4)=False:=eq_false c4
 have b1:41*(w+1)*h≤100000000:=by
  have:(w+1)*h≤1052576:=by rw [Nat.add_mul,Nat.one_mul];omega
  rw [Nat.mul_assoc];omega
 have b2:100*(w+1)*h≤200000000:=by
  have:(w+1)*h≤1052576:=by rw [Nat.add_mul,Nat.one_mul];omega
  rw [Nat.mul_assoc];omega
 by_cases c2:kind=2
 ·have e:dw w h p kind=mF (jD w p h):=by unfold dw;rw [if_neg c1,if_neg c4,if_pos c2]
  rw [e]
  have g2:(kind=2)=True:=eq_true c2
  have bl:=sV hw hp
  (repeat' with_reducible first|intro _|refine rz ?_|refine ra ?_ ?_|omega|simp only [go_sem,g1,g4,g2])
  refine aI.intro (fun x:DX=>⟨63,[(43,.int .i64 x.y),(42,.int .i64 h),(5,.ptr 1 0),(2,.ptr 0 0)],(0,.box 24 [.int .i64 w,.int .i64 h,.ro (.bools p)])::(bif x.u then [(1,.box 89 [.ptr 1 0,.own 2]),(2,.row 5 (.ints .u8 (aj (jD w p x.y))))] else [(1,.box 89 [.raw (.pointer none),.nilS])]),bif x.u then 3 else 2⟩) (fun x=>x.y≤h∧BU (jD w p x.y) x.u) (fun x=>h - x.y) ⟨0,false⟩ ?_ ⟨Nat.zero_le _,fun h=>by (cases h),fun _=>rfl⟩ fun x hx=>?_
  ·refine aO.ak rfl ?_ ?_<;>simp only [go_sem,Int.natCast_succ]
   all_goals first|rfl|exact ⟨rfl,rfl⟩
  obtain ⟨y,u⟩:=x
  obtain ⟨hy,hu1,hu2⟩:=hx
  dsimp only at hy hu1 hu2 ⊢
  have hbly:=bl y hy
  have hmy:41*(w+1)*y≤41*(w+1)*h:=Nat.mul_le_mul_left _ hy
  by_cases hylt:y<h
  rotate_left
  ·have f1:((y:Int)<(h:Int))=False:=eq_false (by omega)
   have e:y=h:=by omega
   subst e
   have k2:=xZ (jD w p y) (by omega)
   cases u with
   | true=>
    have kst:=nV (jD w p y) (hu1 rfl)
    simp only [cond_true,cond_false,List.cons_append,List.nil_append]
    (repeat' with_reducible first|intro _|refine rz ?_|refine ra ?_ ?_|omega|simp only [go_sem,f1])
    refine ah.i [1,2] kst 2 ?_
    (repeat' with_reducible first|intro _|exact dn|refine rn ?_|refine ra ?_ ?_)
    refine ah.o k2 1 ?_
    (repeat' with_reducible first|intro _|exact dn|refine rn ?_|refine ra ?_ ?_)
    refine bf.auto 1 ?_ rfl ?_<;>simp only [go_sem,Int.natCast_succ,Post]
   | false=>
    have hz:=hu2 rfl
    rw [hz] at k2 ⊢
    have kst:=mP
    simp only [cond_true,cond_false,List.cons_append,List.nil_append]
    (repeat' with_reducible first|intro _|refine rz ?_|refine ra ?_ ?_|omega|simp only [go_sem,f1])
    refine ah.i [1] kst 1 ?_
    (repeat' with_reducible first|intro _|exact dn|refine rn ?_|refine ra ?_ ?_)
    refine ah.o k2 1 ?_
    (repeat' with_reducible first|intro _|exact dn|refine rn ?_|refine ra ?_ ?_)
    refine bf.auto 1 ?_ rfl ?_<;>simp only [go_sem,Int.natCast_succ,Post]
  have f1:((y:Int)<(h:Int))=True:=eq_true (by omega)
  have hl:=gu hp hylt
  have kr:=UD w h hw hh p hp y hylt
  have kn:=WS (rowP w p y) (by omega)
  obtain ⟨n1,n2⟩:=yu (rowP w p y)
  have hsucc:=uO w p y
  have hbly2:=bl (y+1) (by omega)
  have hrr:(bP (rowP w p y) (rowP w p y).length).1=iw (rowP w p y):=rfl
  rw [hrr] at kn
  generalize hL:iw (rowP w p y)=L at *
  generalize rowP w p y=rw_ at *
  generalize jD w p y=o0 at *
  (repeat' with_reducible first|intro _|refine rz ?_|refine ra ?_ ?_|omega|simp only [go_sem,f1])
  refine ah.YO (.ro (.bools rw_)) kr (by simp only [aT,aU,dO,bD,aH,List.drop_zero,lk,reduceIte,reduceCtorEq,Nat.reduceEqDiff,Option.some.injEq,Item.row.injEq,Item.box.injEq,AV.ro.injEq,exists_eq_left,exists_and_left,exists_eq_left',exists_eq_right,and_assoc,and_true,true_and,List.cons.injEq,exists_eq',exists_eq]) (by simp [fK,aU,bD,dO,aH,lk,aT]) rfl ?_
  (repeat' with_reducible first|intro _|exact dn|refine rn ?_|refine ra ?_ ?_)
  refine ah.ro (.ro (.ints .i64 L)) (dG.gJ kn rfl (by simp [jB,jy,pX,jA,oK])) (by simp only [aT,aU,dO,bD,aH,List.drop_zero,lk,reduceIte,reduceCtorEq,Nat.reduceEqDiff,Option.some.injEq,Item.row.injEq,Item.box.injEq,AV.ro.injEq,exists_eq_left,exists_and_left,exists_eq_left',exists_eq_right,and_assoc,and_true,true_and,List.cons.injEq,exists_eq',exists_eq]) (by simp [fK,aU,bD,dO,aH,lk,aT]) rfl ?_
  (repeat' with_reducible first|intro _|exact dn|refine rn ?_|refine ra ?_ ?_)
  refine aI.intro (fun x:DR=>⟨63,[(51,.int .i64 x.j),(50,.int .i64 L.length),(49,.ro (.ints .i64 L)),(43,.int .i64 y),(42,.int .i64 h),(5,.ptr 1 0),(2,.ptr 0 0)],(0,.box 24 [.int .i64 w,.int .i64 h,.ro (.bools p)])::(bif x.u then [(1,.box 89 [.ptr 1 0,.own 2]),(2,.row 5 (.ints .u8 (aj (o0++dB (L.take x.j)))))] else [(1,.box 89 [.raw (.pointer none),.nilS])]),bif x.u then 3 else 2⟩) (fun x=>x.j≤L.length∧BU (o0++dB (L.take x.j)) x.u) (fun x=>L.length - x.j) ⟨0,u⟩ ?_ ⟨Nat.zero_le _,by
   have e:o0++dB (L.take 0)=o0:=by simp [dB]
   rw [e];exact ⟨hu1,hu2⟩⟩ fun x hx=>?_
  ·have e:dB []=[]:=rfl
   cases u<;>(simp only [cond_true,cond_false];refine aO.ak rfl ?_ ?_<;>simp only [go_sem,Int.natCast_succ,e])
   all_goals first|rfl|exact ⟨rfl,rfl⟩
  obtain ⟨j,v⟩:=x
  obtain ⟨hj,hv1,hv2⟩:=hx
  dsimp only at hj hv1 hv2 ⊢
  have hgl:(dB (L.take j)).length≤41*4001:=by
   have h1:=EZ (l:=L.take j) fun x hx=>by have:=n2 x (List.mem_of_mem_take hx);omega
   have h2:(L.take j).length≤4001:=by rw [List.length_take];omega
   omega
  have hbq:41*(w+1)*y≤100000000:=by omega
  by_cases hjlt:j<L.length
  rotate_left
  ·have fj:((j:Int)<(L.length:Int))=False:=eq_false (by omega)
   have hjl:L.take j=L:=List.take_of_length_le (by omega)
   rw [hjl] at hv1 hv2 ⊢
   cases v <;>
    (simp only [cond_true,cond_false,List.cons_append,List.nil_append]
     (repeat' with_reducible first|intro _|refine rz ?_|refine ra ?_ ?_|omega|simp only [go_sem,fj]))
   ·refine ⟨⟨y+1,false⟩,aO.ak rfl ?_ ?_,⟨by dsimp only;omega,by rw [hsucc];exact ⟨hv1,hv2⟩⟩,by dsimp only;omega⟩<;>simp only [go_sem,Int.natCast_succ,hsucc]
    all_goals first|rfl|exact ⟨rfl,rfl⟩
   ·refine ⟨⟨y+1,true⟩,aO.ak rfl ?_ ?_,⟨by dsimp only;omega,by rw [hsucc];exact ⟨hv1,hv2⟩⟩,by dsimp only;omega⟩<;>simp only [go_sem,Int.natCast_succ,hsucc]
    all_goals first|rfl|exact ⟨rfl,rfl⟩
  have fj:((j:Int)<(L.length:Int))=True:=eq_true (by omega)
  have htk:=Nb hjlt
  have hnb:=n2 (L.getD j 0) (by rw [getD_lt hjlt];exact List.getElem_mem hjlt)
  have kg:=qP (L.getD j 0+1).toNat (by omega)
  rw [show (((L.getD j 0+1).toNat:Nat):Int)=L.getD j 0+1 by omega] at kg
  have hgp:=VZ (L.getD j 0+1).toNat
  have hgs:=iW (n:=(L.getD j 0+1).toNat) (by omega)
  generalize gq (L.getD j 0+1).toNat=g at *
  generalize hn0:L.getD j 0=n0 at *
  cases v with
  | true=>
   have kw2:=jJ (o0++dB (L.take j)) g (by rw [List.length_append];omega) (by omega)
   simp only [cond_true,cond_false,List.cons_append,List.nil_append]
   (repeat' with_reducible first|intro _|refine rz ?_|refine ra ?_ ?_|omega|simp only [go_sem,fj,hn0])
   refine ah.k kg ?_
   (repeat' with_reducible first|intro _|exact dn|refine rn ?_|refine ra ?_ ?_)
   refine ah.i [1,2] kw2 3 ?_
   (repeat' with_reducible first|intro _|exact dn|refine rn ?_|refine ra ?_ ?_)
   refine ⟨⟨j+1,true⟩,aO.ak rfl ?_ ?_,⟨by dsimp only;omega,fun _=>by dsimp only;rw [htk,List.length_append,List.length_append];omega,fun h=>by (cases h)⟩,by dsimp only;omega⟩<;>simp only [go_sem,Int.natCast_succ,htk,List.append_assoc]
   all_goals first|rfl|exact ⟨rfl,rfl⟩
  | false=>
   have hz:=hv2 rfl
   have kw2:=iO g (by omega)
   simp only [cond_true,cond_false,List.cons_append,List.nil_append]
   (repeat' with_reducible first|intro _|refine rz ?_|refine ra ?_ ?_|omega|simp only [go_sem,fj,hn0])
   refine ah.k kg ?_
   (repeat' with_reducible first|intro _|exact dn|refine rn ?_|refine ra ?_ ?_)
   refine ah.i [1] kw2 2 ?_
   (repeat' with_reducible first|intro _|exact dn|refine rn ?_|refine ra ?_ ?_)
   have hz2:o0++dB (L.take (j+1))=g:=by rw [htk,←List.append_assoc,hz,List.nil_append]
   refine ⟨⟨j+1,true⟩,aO.ak rfl ?_ ?_,⟨by dsimp only;omega,fun _=>by dsimp only;rw [hz2];omega,fun h=>by (cases h)⟩,by dsimp only;omega⟩<;>simp only [go_sem,Int.natCast_succ,hz2]
   all_goals first|rfl|exact ⟨rfl,rfl⟩
 have e:dw w h p kind=mF (fE w p h):=by unfold dw;rw [if_neg c1,if_neg c4,if_neg c2]
 rw [e]
 have g2:(kind=2)=False:=eq_false c2
 have bl:=pV hw hp
 (repeat' with_reducible first|intro _|refine rz ?_|refine ra ?_ ?_|omega|simp only [go_sem,g1,g4,g2])
 refine aI.intro (fun x:DX=>⟨63,[(17,.int .i64 x.y),(16,.int .i64 h),(9,.ro (.bools (yC w p x.y))),(5,.ptr 1 0),(2,.ptr 0 0)],(0,.box 24 [.int .i64 w,.int .i64 h,.ro (.bools p)])::(bif x.u then [(1,.box 89 [.ptr 1 0,.own 2]),(2,.row 5 (.ints .u8 (aj (fE w p x.y))))] else [(1,.box 89 [.raw (.pointer none),.nilS])]),bif x.u then 3 else 2⟩) (fun x=>x.y≤h∧BU (fE w p x.y) x.u) (fun x=>h - x.y) ⟨0,false⟩ ?_ ⟨Nat.zero_le _,fun h=>by (cases h),fun _=>rfl⟩ fun x hx=>?_
 ·have e0:yC w p 0=List.replicate w false:=rfl
  refine aO.trans (aO.fz 3 (e:=4) (r:=.bools (List.replicate w false)) rfl rfl (Nat.zero_le _)) (aO.ak rfl ?_ ?_)<;>simp only [go_sem,Int.natCast_succ,e0]
  all_goals first|rfl|exact ⟨rfl,rfl⟩|trace_state
 obtain ⟨y,u⟩:=x
 obtain ⟨hy,hu1,hu2⟩:=hx
 dsimp only at hy hu1 hu2 ⊢
 have hbly:=bl y hy
 have hmy:100*(w+1)*y≤100*(w+1)*h:=Nat.mul_le_mul_left _ hy
 by_cases hylt:y<h
 rotate_left
 ·have f1:((y:Int)<(h:Int))=False:=eq_false (by omega)
  have e:y=h:=by omega
  subst e
  have k2:=xZ (fE w p y) (by omega)
  cases u with
  | true=>
   have kst:=nV (fE w p y) (hu1 rfl)
   simp only [cond_true,cond_false,List.cons_append,List.nil_append]
   (repeat' with_reducible first|intro _|refine rz ?_|refine ra ?_ ?_|omega|simp only [go_sem,f1])
   refine ah.i [1,2] kst 2 ?_
   (repeat' with_reducible first|intro _|exact dn|refine rn ?_|refine ra ?_ ?_)
   refine ah.o k2 1 ?_
   (repeat' with_reducible first|intro _|exact dn|refine rn ?_|refine ra ?_ ?_)
   refine bf.auto 1 ?_ rfl ?_<;>simp only [go_sem,Int.natCast_succ,Post]
  | false=>
   have hz:=hu2 rfl
   rw [hz] at k2 ⊢
   have kst:=mP
   simp only [cond_true,cond_false,List.cons_append,List.nil_append]
   (repeat' with_reducible first|intro _|refine rz ?_|refine ra ?_ ?_|omega|simp only [go_sem,f1])
   refine ah.i [1] kst 1 ?_
   (repeat' with_reducible first|intro _|exact dn|refine rn ?_|refine ra ?_ ?_)
   refine ah.o k2 1 ?_
   (repeat' with_reducible first|intro _|exact dn|refine rn ?_|refine ra ?_ ?_)
   refine bf.auto 1 ?_ rfl ?_<;>simp only [go_sem,Int.natCast_succ,Post]
 have f1:((y:Int)<(h:Int))=True:=eq_true (by omega)
 have hl:=gu hp hylt
 have hul:=G8 hp hylt
 have kr:=UD w h hw hh p hp y hylt
 have kl:=OE (rowP w p y) (yC w p y) (by omega) (by omega)
 have hll:=Bl (row:=rowP w p y) (above:=yC w p y) (by omega) (by omega)
 have hlp:0<(dZ (rowP w p y) (yC w p y)).length:=Qg (by omega) (by omega) (by omega)
 have hsucc:=qW w p y
 have hbly2:=bl (y+1) (by omega)
 have hup:yC w p (y+1)=rowP w p y:=by unfold yC;rw [if_neg (by omega)];rfl
 generalize dZ (rowP w p y) (yC w p y)=lb at *
 generalize rowP w p y=rw_ at *
 generalize hup0:yC w p y=ab at *
 generalize hlb0:fE w p y=o0 at *
 cases u with
 | true=>
  have kw2:=jJ o0 lb (by omega) (by omega)
  simp only [cond_true,cond_false,List.cons_append,List.nil_append]
  (repeat' with_reducible first|intro _|refine rz ?_|refine ra ?_ ?_|omega|simp only [go_sem,f1])
  refine ah.YO (.ro (.bools rw_)) kr (by simp only [aT,aU,dO,bD,aH,List.drop_zero,lk,reduceIte,reduceCtorEq,Nat.reduceEqDiff,Option.some.injEq,Item.row.injEq,Item.box.injEq,AV.ro.injEq,exists_eq_left,exists_and_left,exists_eq_left',exists_eq_right,and_assoc,and_true,true_and,List.cons.injEq,exists_eq',exists_eq]) (by simp [fK,aU,bD,dO,aH,lk,aT]) rfl ?_
  (repeat' with_reducible first|intro _|exact dn|refine rn ?_|refine ra ?_ ?_)
  refine ah.k kl ?_
  (repeat' with_reducible first|intro _|exact dn|refine rn ?_|refine ra ?_ ?_)
  refine ah.i [1,2] kw2 3 ?_
  (repeat' with_reducible first|intro _|exact dn|refine rn ?_|refine ra ?_ ?_)
  refine ah.YO (.ro (.bools rw_)) kr (by simp only [aT,aU,dO,bD,aH,List.drop_zero,lk,reduceIte,reduceCtorEq,Nat.reduceEqDiff,Option.some.injEq,Item.row.injEq,Item.box.injEq,AV.ro.injEq,exists_eq_left,exists_and_left,exists_eq_left',exists_eq_right,and_assoc,and_true,true_and,List.cons.injEq,exists_eq',exists_eq]) (by simp [fK,aU,bD,dO,aH,lk,aT]) rfl ?_
  (repeat' with_reducible first|intro _|exact dn|refine rn ?_|refine ra ?_ ?_)
  refine ⟨⟨y+1,true⟩,aO.ak rfl ?_ ?_,⟨by dsimp only;omega,fun _=>by dsimp only;rw [hsucc,List.length_append];omega,fun h=>by (cases h)⟩,by dsimp only;omega⟩<;>simp only [go_sem,Int.natCast_succ,hsucc,hup]
  all_goals first|rfl|exact ⟨rfl,rfl⟩
 | false=>
  have kw2:=iO lb (by omega)
  simp only [cond_true,cond_false,List.cons_append,List.nil_append]
  (repeat' with_reducible first|intro _|refine rz ?_|refine ra ?_ ?_|omega|simp only [go_sem,f1])
  refine ah.YO (.ro (.bools rw_)) kr (by simp only [aT,aU,dO,bD,aH,List.drop_zero,lk,reduceIte,reduceCtorEq,Nat.reduceEqDiff,Option.some.injEq,Item.row.injEq,Item.box.injEq,AV.ro.injEq,exists_eq_left,exists_and_left,exists_eq_left',exists_eq_right,and_assoc,and_true,true_and,List.cons.injEq,exists_eq',exists_eq]) (by simp [fK,aU,bD,dO,aH,lk,aT]) rfl ?_
  (repeat' with_reducible first|intro _|exact dn|refine rn ?_|refine ra ?_ ?_)
  refine ah.k kl ?_
  (repeat' with_reducible first|intro _|exact dn|refine rn ?_|refine ra ?_ ?_)
  refine ah.i [1] kw2 2 ?_
  (repeat' with_reducible first|intro _|exact dn|refine rn ?_|refine ra ?_ ?_)
  refine ah.YO (.ro (.bools rw_)) kr (by simp only [aT,aU,dO,bD,aH,List.drop_zero,lk,reduceIte,reduceCtorEq,Nat.reduceEqDiff,Option.some.injEq,Item.row.injEq,Item.box.injEq,AV.ro.injEq,exists_eq_left,exists_and_left,exists_eq_left',exists_eq_right,and_assoc,and_true,true_and,List.cons.injEq,exists_eq',exists_eq]) (by simp [fK,aU,bD,dO,aH,lk,aT]) rfl ?_
  (repeat' with_reducible first|intro _|exact dn|refine rn ?_|refine ra ?_ ?_)
  have hz2:fE w p (y+1)=lb:=by rw [hsucc,hu2 rfl,List.nil_append]
  refine ⟨⟨y+1,true⟩,aO.ak rfl ?_ ?_,⟨by dsimp only;omega,fun _=>by dsimp only;rw [hz2];exact hlp,fun h=>by (cases h)⟩,by dsimp only;omega⟩<;>simp only [go_sem,Int.natCast_succ,hz2,hup]
  all_goals first|rfl|exact ⟨rfl,rfl⟩
end Go.Fv.H
/- shrink.encode, Encode, best: the walk. -/
namespace Go.Fv.H
open Go Go.Proofs
theorem iG (s:Bytes):(mF s).length=(s.length+7) / 8:=zN _ _
theorem FQ (w h:Nat) (p:List Bool):(Ie w h p).length≤4+p.length:=by
 unfold Ie
 rw [aP]
 have:=UN w h p p.length
 omega
theorem Pz {w h:Nat} (hw:w≤4000) (hh:h≤4000) (hwh:w*h≤1048576) {p:List Bool} (hp:p.length=w*h) (kind:Int):(dw w h p kind).length≤100000000:=by
 have b1:41*(w+1)*h≤100000000:=by
  have:(w+1)*h≤1052576:=by rw [Nat.add_mul,Nat.one_mul];omega
  rw [Nat.mul_assoc];omega
 have b2:100*(w+1)*h≤200000000:=by
  have:(w+1)*h≤1052576:=by rw [Nat.add_mul,Nat.one_mul];omega
  rw [Nat.mul_assoc];omega
 have h1:=sV hw hp h (Nat.le_refl _)
 have h2:=pV hw hp h (Nat.le_refl _)
 have h3:=FQ w h p
 unfold dw
 split
 ·rw [iG,jL];omega
 ·split
  ·omega
  ·split
   ·rw [iG];omega
   ·rw [iG];omega
set_option maxHeartbeats 8000000 in
theorem oC (w h:Nat) (hw0:0<w) (hw:w≤4000) (hh:h≤4000) (hwh:w*h≤1048576) (p:List Bool) (hp:p.length=w*h) (kind:Int) (hk:1≤kind∧kind≤4) :
  aC Tryz.prog 69 [.agg [.int .i64 w,.int .i64 h,.ro (.bools p)],.int .i64 kind] (.str (dN w h p kind)) []:=by
 have hdl:=Pz hw hh hwh hp kind
 have kd:=PD w h hw0 hw hh hwh p hp kind
 have n1:=uy kind kind.toNat 1 (.inl (by omega)) (by omega) (by omega) (by decide)
 have n2:=uy (w:Int) w 2 (.inl rfl) (by omega) (by omega) (by decide)
 have n3:=uy (h:Int) h 2 (.inl rfl) (by omega) (by omega) (by decide)
 have n4:=uy ((dw w h p kind).length:Int) (dw w h p kind).length 4 (.inl rfl) (by omega) (by omega) (by decide)
 rw [show ((1:Nat):Int)=1 from rfl] at n1
 rw [show ((2:Nat):Int)=2 from rfl] at n2 n3
 rw [show ((4:Nat):Int)=4 from rfl] at n4
 have henc:dN w h p kind=headB w h p kind++dX (headB w h p kind):=rfl
 have hhead:headB w h p kind=dV 1 kind.toNat++dV 2 w++dV 2 h++dV 4 (dw w h p kind).length++dw w h p kind:=rfl
 have hhl:(headB w h p kind).length=9+(dw w h p kind).length:=by
  rw [hhead];simp only [List.length_append,aP]
 have ks:=jE (headB w h p kind) (by omega)
 have hsl:=rH (headB w h p kind)
 rw [henc]
 have l1:=aP 1 kind.toNat
 have l2:=aP 2 w
 have l3:=aP 2 h
 have l4:=aP 4 (dw w h p kind).length
 have hbl:=eH (dw w h p kind)
 have hbk:=jM (dw w h p kind)
 generalize headB w h p kind=hd at *
 generalize dV 1 kind.toNat=x1 at *
 generalize dV 2 w=x2 at *
 generalize dV 2 h=x3 at *
 generalize dV 4 (dw w h p kind).length=x4 at *
 generalize dw w h p kind=dt at *
 refine aC.aJ Tryz.func69 rfl (by decide) (by simp [Tryz.f69]) [.tmp 4] rfl fun w0 T0 _=>?_
 simp only [Tryz.f69,aB]
 (repeat' with_reducible first|intro _|exact dn|refine rn ?_|refine ra ?_ ?_)
 refine ah.o kd 1 ?_
 (repeat' with_reducible first|intro _|exact dn|refine rn ?_|refine ra ?_ ?_)
 refine bC.lex [] [] (by kernel_rfl) (by kernel_rfl) ?_
 (repeat' with_reducible first|intro _|exact dn|refine rn ?_|refine ra ?_ ?_)
 (refine QV.intro (.str x1) ?_ ?_;focus ((repeat' with_reducible first|intro _|exact dn|refine rn ?_|refine ra ?_ ?_);refine ah.k (n1) ?_;(repeat' with_reducible first|intro _|exact dn|refine rn ?_|refine ra ?_ ?_)))
 (repeat' with_reducible first|intro _|exact dn|refine rn ?_|refine ra ?_ ?_)
 (refine QV.intro (.str x2) ?_ ?_;focus ((repeat' with_reducible first|intro _|exact dn|refine rn ?_|refine ra ?_ ?_);refine ah.k (n2) ?_;(repeat' with_reducible first|intro _|exact dn|refine rn ?_|refine ra ?_ ?_)))
 (repeat' with_reducible first|intro _|exact dn|refine rn ?_|refine ra ?_ ?_)
 (refine QV.intro (.str x3) ?_ ?_;focus ((repeat' with_reducible first|intro _|exact dn|refine rn ?_|refine ra ?_ ?_);refine ah.k (n3) ?_;(repeat' with_reducible first|intro _|exact dn|refine rn ?_|refine ra ?_ ?_)))
 (repeat' with_reducible first|intro _|refine rz ?_|refine ra ?_ ?_|omega|simp only [go_sem,hbl])
 (refine QV.intro (.str x4) ?_ ?_;focus ((repeat' with_reducible first|intro _|exact dn|refine rn ?_|refine ra ?_ ?_);refine ah.k (n4) ?_;(repeat' with_reducible first|intro _|exact dn|refine rn ?_|refine ra ?_ ?_)))
 (repeat' with_reducible first|intro _|refine rz ?_|refine ra ?_ ?_|omega|simp only [go_sem,hbl,hbk])
 rw [←hhead]
 refine ah.k ks ?_
 (repeat' with_reducible first|intro _|exact dn|refine rn ?_|refine ra ?_ ?_)
 refine bf.auto 0 ?_ rfl ?_<;>simp only [go_sem,Int.natCast_succ,Post]
end Go.Fv.H
