/-
  A part of the proof of the claim: walks over the program's functions and the plain laws that these need. No condition of its own.
-/
import Derived.Test.YtodlgmmbfbiilaaGreatDoorHStripsCardPart13
import Derived.Test.YtodlgmmbfbiilaaGreatDoorHStripsCardPart1
import Derived.Test.YtodlgmmbfbiilaaGreatDoorHStripsCardPart8
import Derived.Test.YtodlgmmbfbiilaaGreatDoorFvPart10
set_option linter.unusedSimpArgs false
set_option linter.unusedVariables false
set_option linter.unnecessarySimpa false
set_option maxRecDepth 8000
/- A page in strips, in plain words. -/
namespace Go.Fv.H
open Go Go.Proofs
def mM (w:Nat) (p:List Bool) (y k:Nat):List Bool:=(p.drop (y*w)).take (k*w)
theorem Lm {w h:Nat} {p:List Bool} (hp:p.length=w*h) {y k:Nat} (h1:y+k≤h):(mM w p y k).length=w*k:=by
 unfold mM
 have:y*w+k*w≤h*w:=by rw [←Nat.add_mul];exact Nat.mul_le_mul_right _ h1
 rw [List.length_take,List.length_drop,hp,Nat.mul_comm w h,Nat.mul_comm w k];omega
theorem UY {w h:Nat} {p:List Bool} (g:oV w h p) {y k:Nat} (h0:0<k) (h1:y+k≤h):oV w k (mM w p y k):=by
 have h2:=g.h1
 have h3:=g.wh
 have h4:w*k≤w*h:=Nat.mul_le_mul_left _ (by omega)
 exact ⟨g.w0,g.w1,h0,by omega,by omega,Lm g.p h1⟩
def mF (h rows i:Nat):Nat:=min rows (h - i*rows)
def Vu (w h:Nat) (p:List Bool) (rows:Nat) (kind:Int) (i:Nat):Bytes:=fE w (mF h rows i) (mM w p (i*rows) (mF h rows i)) kind
def GU (w h:Nat) (p:List Bool) (rows:Nat) (kind:Int) (n:Nat):List Bytes:=(List.range n).map (Vu w h p rows kind)
theorem Kz (w h:Nat) (p:List Bool) (rows:Nat) (kind:Int) (n:Nat):GU w h p rows kind (n+1)=GU w h p rows kind n++[Vu w h p rows kind n]:=by
 unfold GU;rw [List.range_succ,List.map_append];rfl
theorem uS (w h:Nat) (p:List Bool) (rows:Nat) (kind:Int) (n:Nat):(GU w h p rows kind n).length=n:=by unfold GU;simp
theorem OB (w h:Nat) (p:List Bool) (rows:Nat) (kind:Int) {n i:Nat} (hi:i<n):(GU w h p rows kind n).getD i []=Vu w h p rows kind i:=by
 unfold GU
 rw [List.getD_eq_getElem?_getD,List.getElem?_map,List.getElem?_range hi];rfl
def rQ (h rows:Nat):Nat:=(h+rows - 1) / rows
theorem kZ {h rows i:Nat} (hr:0<rows):i<rQ h rows↔i*rows<h:=by
 unfold rQ
 rw [Nat.lt_div_iff_mul_lt hr]
 have:rows*i=i*rows:=Nat.mul_comm _ _
 omega
theorem I8 {h rows:Nat} (hr:0<rows):h≤rQ h rows*rows:=by
 have:=(kZ (h:=h) (i:=rQ h rows) hr)
 omega
theorem uI {h rows i:Nat} (hr:0<rows) (hi:i*rows<h):0<mF h rows i∧i*rows+mF h rows i≤h:=by unfold mF;omega
theorem Dj {w h:Nat} {p:List Bool} (g:oV w h p) {rows:Nat} (hr:0<rows) {i:Nat} (hi:i*rows<h):oV w (mF h rows i) (mM w p (i*rows) (mF h rows i)):=
 UY g (uI hr hi).1 (uI hr hi).2
theorem U2 {w h:Nat} {p:List Bool} (g:oV w h p) {rows:Nat} (hr:0<rows) {kind:Int} (hk:1≤kind∧kind≤4) {i:Nat} (hi:i*rows<h):iJ (Vu w h p rows kind i)=⟨w,mF h rows i,mM w p (i*rows) (mF h rows i),0⟩:=by
 have g2:=Dj g hr hi
 have:=vV g2 kind
 exact Ku g2 hk (by omega)
theorem Po {w h:Nat} {p:List Bool} (g:oV w h p) {rows:Nat} (hr:0<rows) {kind:Int} (hk:1≤kind∧kind≤4):∀ (k i:Nat),i+k=rQ h rows →
  pY (if i=0 then 0 else w) (min (i*rows) h) (p.take (i*rows*w)) i ((GU w h p rows kind (rQ h rows)).drop i)=⟨w,h,p,0⟩
 | 0,i,e=>by
  have hn:=I8 (h:=h) hr
  have h0:=g.h0
  have e2:i=rQ h rows:=by omega
  have hi0:i≠0:=by
   intro hz
   have:(0:Nat)<rQ h rows:=(kZ hr).2 (by omega)
   omega
  rw [List.drop_of_length_le (by rw [uS];omega),if_neg hi0,e2,Nat.min_eq_right hn]
  have:p.take (rQ h rows*rows*w)=p:=List.take_of_length_le (by rw [g.p,Nat.mul_comm w h];exact Nat.mul_le_mul_right _ hn)
  rw [this];rfl
 | k+1,i,e=>by
  have hi:i*rows<h:=(kZ hr).1 (by omega)
  obtain ⟨s1,s2⟩:=uI hr hi
  rw [zC (by rw [uS];omega),OB _ _ _ _ _ (by omega),U2 g hr hk hi]
  dsimp only
  rw [if_neg (fun h=>h rfl),if_neg (by
   intro hq
   rw [if_neg (show i≠0 by omega)] at hq
   exact hq.2 rfl)]
  have ih:=Po g hr hk k (i+1) (by omega)
  rw [if_neg (show i+1≠0 by omega)] at ih
  have e1:min (i*rows) h+mF h rows i=min ((i+1)*rows) h:=by
   rw [Nat.succ_mul];unfold mF;omega
  have e3:p.take (i*rows*w)++mM w p (i*rows) (mF h rows i)=p.take ((i+1)*rows*w):=by
   unfold mM
   rw [←List.take_add,←Nat.add_mul]
   by_cases hc:h≤(i+1)*rows
   ·have e4:i*rows+mF h rows i=h:=by rw [Nat.succ_mul] at hc;unfold mF;omega
    rw [e4,List.take_of_length_le (by rw [g.p,Nat.mul_comm];exact Nat.le_refl _),List.take_of_length_le (by rw [g.p,Nat.mul_comm w h];exact Nat.mul_le_mul_right _ hc)]
   ·have e4:i*rows+mF h rows i=(i+1)*rows:=by rw [Nat.succ_mul] at hc ⊢;unfold mF;omega
    rw [e4]
  rw [e1,e3]
  exact ih
theorem VP {w h:Nat} {p:List Bool} (g:oV w h p) {rows:Nat} (hr:0<rows) {kind:Int} (hk:1≤kind∧kind≤4):yF (GU w h p rows kind (rQ h rows))=⟨w,h,p,0⟩:=by
 have k:=Po g hr hk (rQ h rows) 0 (by omega)
 rw [if_pos rfl,Nat.zero_mul,Nat.zero_mul,List.take_zero,List.drop_zero,Nat.min_eq_left (Nat.zero_le _)] at k
 have hne:GU w h p rows kind (rQ h rows)≠[]:=by
  intro h0
  have:=congrArg List.length h0
  rw [uS,List.length_nil] at this
  have h1:=g.h0
  have:=(kZ (h:=h) (i:=0) hr).2 (by omega)
  omega
 have hz:aS (w:Int) (h:Int)=0:=by
  have e:((w:Int)*(h:Int))=((w*h:Nat):Int):=(Int.natCast_mul w h).symm
  have g1:=g.w0
  have g2:=g.w1
  have g3:=g.h0
  have g4:=g.h1
  have g5:=g.wh
  exact vW (by omega) (by omega) (by omega) (by omega) (by rw [e];omega)
 unfold yF
 rw [if_neg hne,k]
 dsimp only
 rw [if_neg (fun h=>h rfl),if_neg (fun h=>h hz)]
end Go.Fv.H
/- Strips, of both: the walk. -/
namespace Go.Fv.H
open Go Go.Proofs
set_option maxHeartbeats 8000000 in
theorem PG (w h:Nat) (p:List Bool) (g:oV w h p) (rows:Nat) (hr0:0<rows) (hr:rows≤4000) (kind:Int) (hk:1≤kind∧kind≤4) :
  aA Tryz.prog 27 [.agg [.int .i64 w,.int .i64 h,.ro (.bools p)],.int .i64 rows,.int .i64 kind] (.tup [.own 0,.int .i64 0]) [(0,.row 9 (.strs (GU w h p rows kind (rQ h rows))))]:=by
 have kc:=wZ (w:Int) (h:Int) p
 rw [g.err] at kc
 have ki:=kU kind
 rw [decide_eq_true hk] at ki
 have f1:((rows:Int)<1)=False:=eq_false (by omega)
 have f2:(4000<(rows:Int))=False:=eq_false (by omega)
 have hh:=g.h1
 have hw:=g.w1
 refine aA.aG Tryz.func27 rfl (by decide) (by simp [Tryz.f27]) [.tmp 6,.tmp 7] rfl fun w0 T0 _=>?_
 simp only [Tryz.f27,au]
 (repeat' with_reducible first|intro _|exact dn|refine rn ?_|refine ra ?_ ?_)
 refine ah.k kc ?_
 (repeat' with_reducible first|intro _|refine rz ?_|refine ra ?_ ?_|omega|simp only [go_sem,f1,f2])
 refine ah.k ki ?_
 (repeat' with_reducible first|intro _|exact dn|refine rn ?_|refine ra ?_ ?_)
 refine aI.intro (fun i:Nat=>⟨62,[(10,.int .i64 (i*rows:Nat)),(9,.own 1),(3,.ptr 0 0),(1,.int .i64 rows),(2,.int .i64 kind)],[(0,.box 24 [.int .i64 w,.int .i64 h,.ro (.bools p)]),(1,.row 9 (.strs (GU w h p rows kind i)))],2⟩) (fun i=>i≤rQ h rows) (fun i=>rQ h rows - i) 0 ?_ (Nat.zero_le _) fun i hi=>?_
 ·refine aO.ak rfl ?_ ?_<;>simp only [go_sem,Int.natCast_succ,GU,List.range_zero,List.map_nil,Nat.zero_mul]
  all_goals first|rfl|exact ⟨rfl,rfl⟩|trace_state
 have hnl:=uS w h p rows kind i
 by_cases hlt:i<rQ h rows
 ·have hy:=(kZ hr0).1 hlt
  obtain ⟨s1,s2⟩:=uI hr0 hy
  have g2:=Dj g hr0 hy
  have f3:(((i*rows:Nat):Int)<(h:Int))=True:=eq_true (by omega)
  have hst:=Kz w h p rows kind i
  have hmin:min (rows:Int) ((h:Int) - ((i*rows:Nat):Int))=((mF h rows i:Nat):Int):=by unfold mF;omega
  have ke:=zh w (mF h rows i) g2.w0 g2.w1 g2.h1 g2.wh (mM w p (i*rows) (mF h rows i)) g2.p kind hk
  have he:fE w (mF h rows i) (mM w p (i*rows) (mF h rows i)) kind=Vu w h p rows kind i:=rfl
  rw [he] at ke
  generalize Vu w h p rows kind i=E at *
  obtain ⟨z,hz⟩:∃ z,(i+1)*rows=z:=⟨_,rfl⟩
  have hz2:z=i*rows+rows:=by rw [←hz,Nat.succ_mul]
  have hnext:((i*rows:Nat):Int)+(rows:Int)=(z:Int):=by omega
  have hib:i≤4000:=by have:i*1≤i*rows:=Nat.mul_le_mul_left _ hr0;omega
  have e1:((i*rows:Nat):Int)*(w:Int)=((i*rows*w:Nat):Int):=(Int.natCast_mul _ _).symm
  have e2:(((i*rows:Nat):Int)+((mF h rows i:Nat):Int))*(w:Int)=(((i*rows+mF h rows i)*w:Nat):Int):=by rw [←Int.natCast_add];exact (Int.natCast_mul _ _).symm
  have hb1:i*rows*w≤(i*rows+mF h rows i)*w:=Nat.mul_le_mul_right _ (by omega)
  have hb2:(i*rows+mF h rows i)*w≤p.length:=by rw [g.p,Nat.mul_comm w h];exact Nat.mul_le_mul_right _ s2
  have hcut:(p.drop (i*rows*w)).take ((i*rows+mF h rows i)*w - i*rows*w)=mM w p (i*rows) (mF h rows i):=by
   unfold mM
   rw [←Nat.sub_mul,Nat.add_sub_cancel_left]
  have hpl:p.length≤1048576:=by rw [g.p];exact g.wh
  generalize mF h rows i=k at *
  generalize mM w p (i*rows) k=C at *
  generalize (i*rows+k)*w=b at *
  generalize i*rows*w=a at *
  have hk1:k≤4000:=by omega
  have hy2:i*rows≤4000:=by omega
  generalize i*rows=y at *
  (repeat' with_reducible first|intro _|refine rz ?_|refine ra ?_ ?_|omega|simp only [go_sem,f3,hmin])
  refine aQ.lex [20,21] [(0,[1])] (by kernel_rfl) (by kernel_rfl) ?_
  (repeat' with_reducible first|intro _|refine rz ?_|refine ra ?_ ?_|omega|simp only [go_sem,e1,e2,hcut])
  (refine QV.intro (.str E) ?_ ?_;focus ((repeat' with_reducible first|intro _|exact dn|refine rn ?_|refine ra ?_ ?_);refine ah.k (ke) ?_;(repeat' with_reducible first|intro _|exact dn|refine rn ?_|refine ra ?_ ?_)))
  (repeat' with_reducible first|intro _|refine rz ?_|refine ra ?_ ?_|omega|simp only [go_sem,hnl,hnext])
  refine ⟨i+1,aO.ak rfl ?_ ?_,by omega,by omega⟩<;>simp only [go_sem,Int.natCast_succ,hst,hz]
  all_goals first|rfl|trace_state
 ·have e:i=rQ h rows:=by omega
  subst e
  have hn:=I8 (h:=h) hr0
  have f3:(((rQ h rows*rows:Nat):Int)<(h:Int))=False:=eq_false (by omega)
  generalize rQ h rows*rows=y at *
  (repeat' with_reducible first|intro _|refine rz ?_|refine ra ?_ ?_|omega|simp only [go_sem,f3])
  refine aV.of [(0,1)] 1 ?_ (by rfl) ?_<;>simp only [go_sem,Int.natCast_succ,Post]
set_option maxHeartbeats 4000000 in
theorem SV (w h:Nat) (p:List Bool) (g:oV w h p) (rows kind:Int) (hbad:¬(1≤rows∧rows≤4000∧1≤kind∧kind≤4)) :
  aA Tryz.prog 27 [.agg [.int .i64 w,.int .i64 h,.ro (.bools p)],.int .i64 rows,.int .i64 kind] (.tup [.own 0,.int .i64 (if rows<1∨4000<rows then 3 else 1)]) [(0,.row 9 (.strs []))]:=by
 have kc:=wZ (w:Int) (h:Int) p
 rw [g.err] at kc
 have ki:=kU kind
 refine aA.aG Tryz.func27 rfl (by decide) (by simp [Tryz.f27]) [.tmp 6,.tmp 7] rfl fun w0 T0 _=>?_
 simp only [Tryz.f27,au]
 by_cases h1:rows<1
 ·have f1:(rows<1)=True:=eq_true h1
  rw [if_pos (.inl h1)]
  (repeat' with_reducible first|intro _|exact dn|refine rn ?_|refine ra ?_ ?_)
  refine ah.k kc ?_
  (repeat' with_reducible first|intro _|refine rz ?_|refine ra ?_ ?_|omega|simp only [go_sem,f1])
  refine aV.auto 1 ?_ rfl ?_<;>simp only [go_sem,Int.natCast_succ,Post]
 have f1:(rows<1)=False:=eq_false h1
 by_cases h2:4000<rows
 ·have f2:(4000<rows)=True:=eq_true h2
  rw [if_pos (.inr h2)]
  (repeat' with_reducible first|intro _|exact dn|refine rn ?_|refine ra ?_ ?_)
  refine ah.k kc ?_
  (repeat' with_reducible first|intro _|refine rz ?_|refine ra ?_ ?_|omega|simp only [go_sem,f1,f2])
  refine aV.auto 1 ?_ rfl ?_<;>simp only [go_sem,Int.natCast_succ,Post]
 have f2:(4000<rows)=False:=eq_false h2
 rw [if_neg (fun h=>h.elim h1 h2)]
 rw [decide_eq_false (fun h=>hbad ⟨by omega,by omega,h.1,h.2⟩)] at ki
 (repeat' with_reducible first|intro _|exact dn|refine rn ?_|refine ra ?_ ?_)
 refine ah.k kc ?_
 (repeat' with_reducible first|intro _|refine rz ?_|refine ra ?_ ?_|omega|simp only [go_sem,f1,f2])
 refine ah.k ki ?_
 (repeat' with_reducible first|intro _|exact dn|refine rn ?_|refine ra ?_ ?_)
 refine aV.auto 1 ?_ rfl ?_<;>simp only [go_sem,Int.natCast_succ,Post]
theorem Rx (w h:Nat) (p:List Bool) (g:oV w h p) (y k x j:Nat) (hx:x<w) (hj:y+j<h) :
  aA Tryz.prog 79 [.int .i64 x,.int .i64 j,.cell [.int .i64 w,.int .i64 h,.ro (.bools p)],.cell [.int .i64 0,.int .i64 y,.int .i64 w,.int .i64 k]] (.bool (p.getD ((y+j)*w+x) false)) []:=by
 have ka:=D6 w h g.w1 g.h1 p g.p (x:Int) ((y+j:Nat):Int)
 rw [H8 p hx hj] at ka
 have hw:=g.w1
 have hh:=g.h1
 have e1:(y:Int)+(j:Int)=((y+j:Nat):Int):=by omega
 have e0:(0:Int)+(x:Int)=(x:Int):=by omega
 generalize p.getD ((y+j)*w+x) false=v at *
 refine aA.aG Tryz.func79 rfl (by decide) (by simp [Tryz.f79]) [.tmp 6] rfl fun w0 T0 _=>?_
 simp only [Tryz.f79,au]
 (repeat' with_reducible first|intro _|refine rz ?_|refine ra ?_ ?_|omega|simp only [go_sem,e0,e1])
 refine ah.k ka ?_
 (repeat' with_reducible first|intro _|exact dn|refine rn ?_|refine ra ?_ ?_)
 refine aV.auto 0 ?_ rfl ?_<;>simp only [go_sem,Int.natCast_succ,Post]
theorem MK {w h:Nat} {p:List Bool} (g:oV w h p) {y k:Nat} (hyk:y+k≤h):rowsOf w (fun x j=>p.getD ((y+j)*w+x) false) (k*w)=mM w p y k:=by
 have hl:=Lm g.p hyk
 apply List.ext_getElem?
 intro i
 unfold rowsOf
 rw [List.getElem?_map]
 by_cases hi:i<k*w
 ·rw [List.getElem?_range hi]
  have e:(y+i / w)*w+i%w=y*w+i:=by
   rw [Nat.add_mul,Nat.add_assoc]
   congr 1
   rw [Nat.mul_comm];exact Nat.div_add_mod i w
  have hb:y*w+i<p.length:=by
   have:y*w+k*w≤h*w:=by rw [←Nat.add_mul];exact Nat.mul_le_mul_right _ hyk
   rw [g.p,Nat.mul_comm w h];omega
  show some (p.getD ((y+i / w)*w+i%w) false)=_
  unfold mM
  rw [e,List.getElem?_take_of_lt hi,List.getElem?_drop,getD_lt hb,List.getElem?_eq_getElem hb]
 ·rw [List.getElem?_eq_none (by simp;omega),List.getElem?_eq_none (by rw [hl,Nat.mul_comm];omega)];rfl
theorem E8 (w h:Nat) (p:List Bool) (g:oV w h p) (y k:Nat) (hyk:y+k≤h) :
  aA Tryz.prog 32 [.agg [.int .i64 w,.int .i64 h,.ro (.bools p)],.agg [.int .i64 0,.int .i64 y,.int .i64 w,.int .i64 k]] (.agg [.int .i64 w,.int .i64 k,.own 0]) [(0,.row 4 (.bools (mM w p y k)))]:=by
 have hw:=g.w1
 have hh:=g.h1
 haveI c1:CW [.cell [.int .i64 w,.int .i64 h,.ro (.bools p)],.cell [.int .i64 0,.int .i64 y,.int .i64 w,.int .i64 k]]:=⟨rfl⟩
 have k1:=Ol w k (by omega) (by omega) 79 [.cell [.int .i64 w,.int .i64 h,.ro (.bools p)],.cell [.int .i64 0,.int .i64 y,.int .i64 w,.int .i64 k]] (fun x j=>p.getD ((y+j)*w+x) false)
  (fun x j hx hj=>dh.eG (Rx w h p g y k x j hx (by omega)) rfl rfl)
 rw [MK g hyk] at k1
 generalize mM w p y k=C at *
 refine aA.aG Tryz.func32 rfl (by decide) (by simp [Tryz.f32]) [.cell 4 24] rfl fun w0 T0 _=>?_
 simp only [Tryz.f32,au]
 (repeat' with_reducible first|intro _|exact dn|refine rn ?_|refine ra ?_ ?_)
 refine ah.o k1 1 ?_
 (repeat' with_reducible first|intro _|exact dn|refine rn ?_|refine ra ?_ ?_)
 refine aV.auto 1 ?_ rfl ?_<;>simp only [go_sem,Int.natCast_succ,Post]
 all_goals simp only [go_sem]
set_option maxHeartbeats 8000000 in
theorem Gy (w h:Nat) (p:List Bool) (g:oV w h p) (rows:Nat) (hr0:0<rows) (hr:rows≤4000) (kind:Int) (hk:1≤kind∧kind≤4) :
  aA Tryz.prog 31 [.agg [.int .i64 w,.int .i64 h,.ro (.bools p)],.int .i64 rows,.int .i64 kind] (.own 0) [(0,.row 9 (.strs (GU w h p rows kind (rQ h rows))))]:=by
 have hh:=g.h1
 have hw:=g.w1
 refine aA.aG Tryz.func31 rfl (by decide) (by simp [Tryz.f31]) [.tmp 6] rfl fun w0 T0 _=>?_
 simp only [Tryz.f31,au]
 (repeat' with_reducible first|intro _|exact dn|refine rn ?_|refine ra ?_ ?_)
 refine aI.intro (fun i:Nat=>⟨34,[(8,.int .i64 (i*rows:Nat)),(7,.own 1),(3,.ptr 0 0),(1,.int .i64 rows),(2,.int .i64 kind)],[(0,.box 24 [.int .i64 w,.int .i64 h,.ro (.bools p)]),(1,.row 9 (.strs (GU w h p rows kind i)))],2⟩) (fun i=>i≤rQ h rows) (fun i=>rQ h rows - i) 0 ?_ (Nat.zero_le _) fun i hi=>?_
 ·refine aO.ak rfl ?_ ?_<;>simp only [go_sem,Int.natCast_succ,GU,List.range_zero,List.map_nil,Nat.zero_mul]
  all_goals first|rfl|exact ⟨rfl,rfl⟩|trace_state
 have hnl:=uS w h p rows kind i
 by_cases hlt:i<rQ h rows
 ·have hy:=(kZ hr0).1 hlt
  obtain ⟨s1,s2⟩:=uI hr0 hy
  have g2:=Dj g hr0 hy
  have f3:(((i*rows:Nat):Int)<(h:Int))=True:=eq_true (by omega)
  have hst:=Kz w h p rows kind i
  have hmin:min (rows:Int) ((h:Int) - ((i*rows:Nat):Int))=((mF h rows i:Nat):Int):=by unfold mF;omega
  have kcut:=E8 w h p g (i*rows) (mF h rows i) s2
  have ke:=qx w (mF h rows i) g2.w0 g2.w1 g2.h1 g2.wh (mM w p (i*rows) (mF h rows i)) g2.p kind hk
  have he:fE w (mF h rows i) (mM w p (i*rows) (mF h rows i)) kind=Vu w h p rows kind i:=rfl
  rw [he] at ke
  generalize Vu w h p rows kind i=E at *
  obtain ⟨z,hz⟩:∃ z,(i+1)*rows=z:=⟨_,rfl⟩
  have hz2:z=i*rows+rows:=by rw [←hz,Nat.succ_mul]
  have hnext:((i*rows:Nat):Int)+(rows:Int)=(z:Int):=by omega
  have hib:i≤4000:=by have:i*1≤i*rows:=Nat.mul_le_mul_left _ hr0;omega
  generalize mF h rows i=k at *
  generalize mM w p (i*rows) k=C at *
  have hk1:k≤4000:=by omega
  have hy2:i*rows≤4000:=by omega
  generalize i*rows=y at *
  (repeat' with_reducible first|intro _|refine rz ?_|refine ra ?_ ?_|omega|simp only [go_sem,f3,hmin])
  refine ah.o kcut 1 ?_
  (repeat' with_reducible first|intro _|exact dn|refine rn ?_|refine ra ?_ ?_)
  refine ah.k ke ?_
  (repeat' with_reducible first|intro _|refine rz ?_|refine ra ?_ ?_|omega|simp only [go_sem,hnl,hnext])
  refine ⟨i+1,aO.ak rfl ?_ ?_,by omega,by omega⟩<;>simp only [go_sem,Int.natCast_succ,hst,hz]
  all_goals first|rfl|trace_state
 ·have e:i=rQ h rows:=by omega
  subst e
  have hn:=I8 (h:=h) hr0
  have f3:(((rQ h rows*rows:Nat):Int)<(h:Int))=False:=eq_false (by omega)
  generalize rQ h rows*rows=y at *
  (repeat' with_reducible first|intro _|refine rz ?_|refine ra ?_ ?_|omega|simp only [go_sem,f3])
  refine aV.of [(0,1)] 1 ?_ (by rfl) ?_<;>simp only [go_sem,Int.natCast_succ,Post]
end Go.Fv.H
/- The laws' first question. -/
namespace Go.Fv.H
open Go Go.Proofs
theorem Fg:aA Tryz.prog 11 [] (.bool true) []:=by
 have k:=Qy [97]
 refine aA.aG Tryz.func11 rfl (by decide) (by simp [Tryz.f11]) [.tmp 0] rfl fun w0 T0 _=>?_
 simp only [Tryz.f11,au]
 have e:MG [97]=true:=by decide
 rw [e] at k
 (repeat' with_reducible first|intro _|exact dn|refine rn ?_|refine ra ?_ ?_)
 refine ah.k k ?_
 (repeat' with_reducible first|intro _|exact dn|refine rn ?_|refine ra ?_ ?_)
 refine aV.auto 0 ?_ rfl ?_<;>simp only [go_sem,Int.natCast_succ,Post]
end Go.Fv.H
/- CodesAreChecked: the law. -/
namespace Go.Fv.H
open Go Go.Proofs
theorem X6 (a b:UInt8):fU .xor .u8 (a.toNat:Int) (b.toNat:Int)=(((a ^^^ b:UInt8).toNat:Nat):Int):=by
 obtain ⟨e1,e2⟩:=zn a.toNat b.toNat a.toNat_lt b.toNat_lt
 show IntKind.u8.wrap (((BitVec.ofInt 8 (a.toNat:Int)) ^^^ (BitVec.ofInt 8 (b.toNat:Int))).toNat:Int)=_
 rw [BitVec.toNat_xor,e1,e2,UInt8.toNat_xor,kL]
 have h:a.toNat ^^^ b.toNat<256:=Nat.xor_lt_two_pow (n:=8) a.toNat_lt b.toNat_lt
 omega
theorem NR (E:Bytes) (k:Nat) (x:UInt8):(aj E).set k (x.toNat:Int)=aj (E.set k x):=by unfold aj;rw [List.map_set]
theorem Rw (at_:Int) {n:Nat} (h:0<n):0≤((at_.tmod n+n).tmod n:Int)∧((at_.tmod n+n).tmod n:Int)<n∧-(n:Int)<at_.tmod n∧at_.tmod n<n:=by
 have h1:-(n:Int)<at_.tmod n:=by
  have:=Int.lt_tmod_of_pos (a:=at_) (b:=n) (by omega)
  exact this
 have h2:at_.tmod n<n:=Int.tmod_lt_of_pos _ (by omega)
 refine ⟨Int.tmod_nonneg _ (by omega),Int.tmod_lt_of_pos _ (by omega),h1,h2⟩
set_option maxHeartbeats 1000000 in
theorem GX (a b:List (List UInt8)):aA Tryz.prog 30 [.ro (.strs a),.ro (.strs b)] (.bool (decide (a=b))) []:=by
 refine aA.aG Tryz.func30 rfl (by decide) (by simp [Tryz.f30]) [.tmp 4] rfl fun w0 T0 _=>?_
 simp only [Tryz.f30,au]
 simp only [go_sem]
 refine qg.intro fun _=>qg.intro fun _=>Ite.decide (fun h=>?_) fun h=>?_
 ·simp only [go_sem]
  refine aV.auto 0 ?_ rfl (by simp [jy])
  have:a≠b:=by intro e;subst e;exact h rfl
  simp only [go_sem,Int.natCast_succ,Post,this,decide_false,decide_true]
 have hl:a.length=b.length:=by omega
 simp only [go_sem]
 refine qg.intro fun _=>aI.intro (fun i:Nat=>⟨26,[(0,.ro (.strs a)),(1,.ro (.strs b)),(12,.int .i64 a.length),(13,.int .i64 i)],[],0⟩) (fun i=>i≤a.length∧∀ j,j<i→a.getD j []=b.getD j []) (fun i=>a.length - i) 0 ?_ ⟨by omega,fun j hj=>by omega⟩ fun i hi=>?_
 ·refine aO.ak rfl ?_ ?_<;>simp only [go_sem,Int.natCast_succ]
 simp only [go_sem]
 refine Ite.decide (fun h1=>?_) (fun h1=>?_)
 ·simp only [go_sem]
  refine aQ.lex [] [] (by kernel_rfl) (by kernel_rfl) ?_
  simp only [go_sem]
  (repeat' first|(with_reducible refine qg.intro fun _=>?_)|((with_reducible refine bn.intro ?_ ?_);(· first|omega|(with_reducible refine bn.intro ?_ ?_<;>omega)|(simp;done)|(simp;omega)))|((with_reducible refine bW.i64 ?_ ?_ ?_);(· omega);(· omega))|((with_reducible refine Ite.decide (fun _=>?_) (fun _=>?_))<;>first|(exfalso;omega)|simp only [go_sem])|((with_reducible refine Ite.bool (fun _=>?_) (fun _=>?_))<;>simp only [go_sem])|(with_reducible refine And.intro ?_ ?_))
  ·rename_i h2
   refine aV.auto 0 ?_ rfl (by simp [jy])
   have:a≠b:=by intro e;subst e;exact h2 rfl
   simp only [go_sem,Int.natCast_succ,Post,this]
  ·rename_i h2
   refine ⟨i+1,aO.ak rfl ?_ ?_,⟨by omega,fun j hj=>?_⟩,by omega⟩
   ·simp only [go_sem,Int.natCast_succ]
    all_goals omega
   ·simp only [go_sem,Int.natCast_succ]
   ·by_cases e:j=i
    ·subst e;exact Decidable.of_not_not h2
    ·exact hi.2 j (by omega)
 ·simp only [go_sem]
  refine aV.auto 0 ?_ rfl (by simp [jy])
  have:a=b:=CJ [] hl fun j hj=>hi.2 j (by omega)
  simp only [go_sem,Int.natCast_succ,Post,this,decide_false,decide_true]
end Go.Fv.H
/- StripsMatch: the law. -/
namespace Go.Fv.H
open Go Go.Proofs
set_option maxHeartbeats 16000000 in
theorem Aw (W H:Int) (p:List Bool) (rows kind at_:Int) (c:UInt8) (hbad:¬(1≤rows∧rows≤4000∧1≤kind∧kind≤4)):aA Tryz.prog 6 [.agg [.int .i64 W,.int .i64 H,.ro (.bools p)],.int .i64 rows,.int .i64 kind,.int .i64 at_,.int .u8 c.toNat] (.bool true) []:=by
 have kf:=Ue W H p
 have hb:=OO W H p
 generalize NS W H p=b at *
 obtain ⟨w,h,q⟩:=b
 obtain ⟨g,w32,h32⟩:=hb
 dsimp only at kf g w32 h32
 have ks:=SV w h q g rows kind hbad
 refine aA.aG Tryz.func6 rfl (by decide) (by simp [Tryz.f6]) [.tmp 10] rfl fun w0 T0 _=>?_
 simp only [Tryz.f6,au]
 (repeat' with_reducible first|intro _|exact dn|refine rn ?_|refine ra ?_ ?_)
 refine ah.k Fg ?_
 (repeat' with_reducible first|intro _|exact dn|refine rn ?_|refine ra ?_ ?_)
 refine ah.f kf 0 ?_
 (repeat' with_reducible first|intro _|exact dn|refine rn ?_|refine ra ?_ ?_)
 by_cases hr1:rows<1
 ·skip
  by_cases hk1:kind<1
  ·have r1:(rows<1)=True:=eq_true hr1
   have k1:(kind<1)=True:=eq_true hk1
   rw [if_pos (by omega)] at ks
   have w1:=dP true 3
   have w2:=dP true 1
   have fe:=iK [3,1] (by decide)
   rw [show dO [3,1]=3 from rfl] at fe
   rw [if_pos rfl] at w1
   rw [if_pos rfl] at w2
   refine ah.o ks 1 ?_
   (repeat' with_reducible first|intro _|refine rz ?_|refine ra ?_ ?_|omega|simp only [go_sem,r1,k1])
   refine ah.k w1 ?_
   (repeat' with_reducible first|intro _|refine rz ?_|refine ra ?_ ?_|omega|simp only [go_sem,r1,k1])
   refine ah.k w2 ?_
   (repeat' with_reducible first|intro _|exact dn|refine rn ?_|refine ra ?_ ?_)
   refine ah.k fe ?_
   (repeat' with_reducible first|intro _|exact dn|refine rn ?_|refine ra ?_ ?_)
   refine aV.auto 0 ?_ rfl ?_<;>simp only [go_sem,Int.natCast_succ,Post]
  by_cases hk2:4<kind
  ·have r1:(rows<1)=True:=eq_true hr1
   have k1:(kind<1)=False:=eq_false hk1
   have k2:(4<kind)=True:=eq_true hk2
   rw [if_pos (by omega)] at ks
   have w1:=dP true 3
   have w2:=dP true 1
   have fe:=iK [3,1] (by decide)
   rw [show dO [3,1]=3 from rfl] at fe
   rw [if_pos rfl] at w1
   rw [if_pos rfl] at w2
   refine ah.o ks 1 ?_
   (repeat' with_reducible first|intro _|refine rz ?_|refine ra ?_ ?_|omega|simp only [go_sem,r1,k1,k2])
   refine ah.k w1 ?_
   (repeat' with_reducible first|intro _|refine rz ?_|refine ra ?_ ?_|omega|simp only [go_sem,r1,k1,k2])
   refine ah.k w2 ?_
   (repeat' with_reducible first|intro _|exact dn|refine rn ?_|refine ra ?_ ?_)
   refine ah.k fe ?_
   (repeat' with_reducible first|intro _|exact dn|refine rn ?_|refine ra ?_ ?_)
   refine aV.auto 0 ?_ rfl ?_<;>simp only [go_sem,Int.natCast_succ,Post]
  have r1:(rows<1)=True:=eq_true hr1
  have k1:(kind<1)=False:=eq_false hk1
  have k2:(4<kind)=False:=eq_false hk2
  rw [if_pos (by omega)] at ks
  have w1:=dP true 3
  have w2:=dP false 1
  have fe:=iK [3,0] (by decide)
  rw [show dO [3,0]=3 from rfl] at fe
  rw [if_pos rfl] at w1
  rw [if_neg (by decide)] at w2
  refine ah.o ks 1 ?_
  (repeat' with_reducible first|intro _|refine rz ?_|refine ra ?_ ?_|omega|simp only [go_sem,r1,k1,k2])
  refine ah.k w1 ?_
  (repeat' with_reducible first|intro _|refine rz ?_|refine ra ?_ ?_|omega|simp only [go_sem,r1,k1,k2])
  refine ah.k w2 ?_
  (repeat' with_reducible first|intro _|exact dn|refine rn ?_|refine ra ?_ ?_)
  refine ah.k fe ?_
  (repeat' with_reducible first|intro _|exact dn|refine rn ?_|refine ra ?_ ?_)
  refine aV.auto 0 ?_ rfl ?_<;>simp only [go_sem,Int.natCast_succ,Post]
 by_cases hr2:4000<rows
 ·skip
  by_cases hk1:kind<1
  ·have r1:(rows<1)=False:=eq_false hr1
   have r2:(4000<rows)=True:=eq_true hr2
   have k1:(kind<1)=True:=eq_true hk1
   rw [if_pos (by omega)] at ks
   have w1:=dP true 3
   have w2:=dP true 1
   have fe:=iK [3,1] (by decide)
   rw [show dO [3,1]=3 from rfl] at fe
   rw [if_pos rfl] at w1
   rw [if_pos rfl] at w2
   refine ah.o ks 1 ?_
   (repeat' with_reducible first|intro _|refine rz ?_|refine ra ?_ ?_|omega|simp only [go_sem,r1,r2,k1])
   refine ah.k w1 ?_
   (repeat' with_reducible first|intro _|refine rz ?_|refine ra ?_ ?_|omega|simp only [go_sem,r1,r2,k1])
   refine ah.k w2 ?_
   (repeat' with_reducible first|intro _|exact dn|refine rn ?_|refine ra ?_ ?_)
   refine ah.k fe ?_
   (repeat' with_reducible first|intro _|exact dn|refine rn ?_|refine ra ?_ ?_)
   refine aV.auto 0 ?_ rfl ?_<;>simp only [go_sem,Int.natCast_succ,Post]
  by_cases hk2:4<kind
  ·have r1:(rows<1)=False:=eq_false hr1
   have r2:(4000<rows)=True:=eq_true hr2
   have k1:(kind<1)=False:=eq_false hk1
   have k2:(4<kind)=True:=eq_true hk2
   rw [if_pos (by omega)] at ks
   have w1:=dP true 3
   have w2:=dP true 1
   have fe:=iK [3,1] (by decide)
   rw [show dO [3,1]=3 from rfl] at fe
   rw [if_pos rfl] at w1
   rw [if_pos rfl] at w2
   refine ah.o ks 1 ?_
   (repeat' with_reducible first|intro _|refine rz ?_|refine ra ?_ ?_|omega|simp only [go_sem,r1,r2,k1,k2])
   refine ah.k w1 ?_
   (repeat' with_reducible first|intro _|refine rz ?_|refine ra ?_ ?_|omega|simp only [go_sem,r1,r2,k1,k2])
   refine ah.k w2 ?_
   (repeat' with_reducible first|intro _|exact dn|refine rn ?_|refine ra ?_ ?_)
   refine ah.k fe ?_
   (repeat' with_reducible first|intro _|exact dn|refine rn ?_|refine ra ?_ ?_)
   refine aV.auto 0 ?_ rfl ?_<;>simp only [go_sem,Int.natCast_succ,Post]
  have r1:(rows<1)=False:=eq_false hr1
  have r2:(4000<rows)=True:=eq_true hr2
  have k1:(kind<1)=False:=eq_false hk1
  have k2:(4<kind)=False:=eq_false hk2
  rw [if_pos (by omega)] at ks
  have w1:=dP true 3
  have w2:=dP false 1
  have fe:=iK [3,0] (by decide)
  rw [show dO [3,0]=3 from rfl] at fe
  rw [if_pos rfl] at w1
  rw [if_neg (by decide)] at w2
  refine ah.o ks 1 ?_
  (repeat' with_reducible first|intro _|refine rz ?_|refine ra ?_ ?_|omega|simp only [go_sem,r1,r2,k1,k2])
  refine ah.k w1 ?_
  (repeat' with_reducible first|intro _|refine rz ?_|refine ra ?_ ?_|omega|simp only [go_sem,r1,r2,k1,k2])
  refine ah.k w2 ?_
  (repeat' with_reducible first|intro _|exact dn|refine rn ?_|refine ra ?_ ?_)
  refine ah.k fe ?_
  (repeat' with_reducible first|intro _|exact dn|refine rn ?_|refine ra ?_ ?_)
  refine aV.auto 0 ?_ rfl ?_<;>simp only [go_sem,Int.natCast_succ,Post]
 by_cases hk1:kind<1
 ·have r1:(rows<1)=False:=eq_false hr1
  have r2:(4000<rows)=False:=eq_false hr2
  have k1:(kind<1)=True:=eq_true hk1
  rw [if_neg (by omega)] at ks
  have w1:=dP false 3
  have w2:=dP true 1
  have fe:=iK [0,1] (by decide)
  rw [show dO [0,1]=1 from rfl] at fe
  rw [if_neg (by decide)] at w1
  rw [if_pos rfl] at w2
  refine ah.o ks 1 ?_
  (repeat' with_reducible first|intro _|refine rz ?_|refine ra ?_ ?_|omega|simp only [go_sem,r1,r2,k1])
  refine ah.k w1 ?_
  (repeat' with_reducible first|intro _|refine rz ?_|refine ra ?_ ?_|omega|simp only [go_sem,r1,r2,k1])
  refine ah.k w2 ?_
  (repeat' with_reducible first|intro _|exact dn|refine rn ?_|refine ra ?_ ?_)
  refine ah.k fe ?_
  (repeat' with_reducible first|intro _|exact dn|refine rn ?_|refine ra ?_ ?_)
  refine aV.auto 0 ?_ rfl ?_<;>simp only [go_sem,Int.natCast_succ,Post]
 by_cases hk2:4<kind
 ·have r1:(rows<1)=False:=eq_false hr1
  have r2:(4000<rows)=False:=eq_false hr2
  have k1:(kind<1)=False:=eq_false hk1
  have k2:(4<kind)=True:=eq_true hk2
  rw [if_neg (by omega)] at ks
  have w1:=dP false 3
  have w2:=dP true 1
  have fe:=iK [0,1] (by decide)
  rw [show dO [0,1]=1 from rfl] at fe
  rw [if_neg (by decide)] at w1
  rw [if_pos rfl] at w2
  refine ah.o ks 1 ?_
  (repeat' with_reducible first|intro _|refine rz ?_|refine ra ?_ ?_|omega|simp only [go_sem,r1,r2,k1,k2])
  refine ah.k w1 ?_
  (repeat' with_reducible first|intro _|refine rz ?_|refine ra ?_ ?_|omega|simp only [go_sem,r1,r2,k1,k2])
  refine ah.k w2 ?_
  (repeat' with_reducible first|intro _|exact dn|refine rn ?_|refine ra ?_ ?_)
  refine ah.k fe ?_
  (repeat' with_reducible first|intro _|exact dn|refine rn ?_|refine ra ?_ ?_)
  refine aV.auto 0 ?_ rfl ?_<;>simp only [go_sem,Int.natCast_succ,Post]
 exact absurd hbad (by omega)
set_option maxHeartbeats 32000000 in
theorem yH (W H:Int) (p:List Bool) (rows:Nat) (hr0:0<rows) (hr:rows≤4000) (kind at_:Int) (hk:1≤kind∧kind≤4) (c:UInt8):aA Tryz.prog 6 [.agg [.int .i64 W,.int .i64 H,.ro (.bools p)],.int .i64 rows,.int .i64 kind,.int .i64 at_,.int .u8 c.toNat] (.bool true) []:=by
 have kf:=Ue W H p
 have hb:=OO W H p
 generalize NS W H p=b at *
 obtain ⟨w,h,q⟩:=b
 obtain ⟨g,w32,h32⟩:=hb
 dsimp only at kf g w32 h32
 have ks:=PG w h q g rows hr0 hr kind hk
 have kr:=Gy w h q g rows hr0 hr kind hk
 have hfs:=VP g hr0 hk
 have hNl:=uS w h q rows kind (rQ h rows)
 have hget:=fun i hi=>OB w h q rows kind (n:=rQ h rows) (i:=i) hi
 have hN0:0<rQ h rows:=(kZ hr0).2 (by have:=g.h0;omega)
 have hNh:rQ h rows≤32:=by
  have h1:∀ i,i<rQ h rows→i<h:=fun i hi=>by
   have h2:=(kZ hr0).1 hi
   have:i*1≤i*rows:=Nat.mul_le_mul_left _ hr0
   omega
  have:=h1 (rQ h rows - 1) (by omega)
  omega
 have hshort:∀ s,s∈GU w h q rows kind (rQ h rows)→17≤s.length∧s.length≤1048597:=fun s hs=>by
  unfold GU at hs
  obtain ⟨i,hi,rfl⟩:=List.mem_map.1 hs
  have g2:=Dj g hr0 ((kZ hr0).1 (List.mem_range.1 hi))
  exact ⟨QZ _ _ _ _,vV g2 kind⟩
 have hiff:=fun i=>kZ (h:=h) (rows:=rows) (i:=i) hr0
 generalize hLd:GU w h q rows kind (rQ h rows)=L at *
 generalize rQ h rows=N at *
 have kq:=GX L L
 rw [decide_eq_true rfl] at kq
 have w1:=dP false 3
 have w2:=dP false 1
 have fe:=iK [0,0] (by decide)
 rw [if_neg (by decide)] at w1 w2
 rw [show dO [0,0]=0 from rfl] at fe
 have r1:((rows:Int)<1)=False:=eq_false (by omega)
 have r2:(4000<(rows:Int))=False:=eq_false (by omega)
 have k1:(kind<1)=False:=eq_false (by omega)
 have k2:(4<kind)=False:=eq_false (by omega)
 have kfs:=uZ L (by omega) fun s hs=>by have:=hshort s hs;omega
 rw [hfs] at kfs
 have ksm:=rG (w:Int) (h:Int) (w:Int) (h:Int) q q
 rw [decide_eq_true ⟨rfl,rfl,rfl⟩] at ksm
 have hm0:L.getD 0 []∈L:=by rw [getD_lt (by omega)];exact List.getElem_mem (by omega)
 obtain ⟨e1,e2⟩:=hshort _ hm0
 generalize hE:L.getD 0 []=E at *
 have hbl:=cO E
 obtain ⟨M,hM⟩:∃ M,E.length=M:=⟨_,rfl⟩
 rw [hM] at e1 e2 hbl
 obtain ⟨a1,a2,a3,a4⟩:=Rw at_ (n:=M) (by omega)
 have hMne:¬(M:Int)=0:=by omega
 obtain ⟨k,hk0⟩:∃ k:Nat,((at_.tmod M+M).tmod M:Int)=k:=⟨((at_.tmod M+M).tmod M).toNat,by omega⟩
 rw [hk0] at a1 a2
 have hkl:k<M:=by omega
 have hg:(aj E).getD k 0=((E.getD k 0).toNat:Int):=bytes_at (by omega)
 have hx:=X6 (E.getD k 0) c
 have hset:=NR E k (E.getD k 0 ^^^ c)
 have hxl:(E.set k (E.getD k 0 ^^^ c)).length=M:=by rw [List.length_set,hM]
 generalize E.set k (E.getD k 0 ^^^ c)=E' at *
 have hbk:=iG E'
 have hs2:∀ s,s∈L.set 0 E'→s.length≤200000000000000:=fun s hs=>by
  rcases List.mem_or_eq_of_mem_set hs with h1|h1
  ·have:=hshort s h1;omega
  ·rw [h1];omega
 have hl2:(L.set 0 E').length=N:=by rw [List.length_set,hNl]
 have kf1:=uZ (L.set 0 E') (by omega) hs2
 have kf2:=yP (L.set 0 E') (by omega) hs2
 have ka:=SN (L.set 0 E')
 generalize yF (L.set 0 E')=Q at *
 refine aA.aG Tryz.func6 rfl (by decide) (by simp [Tryz.f6]) [.tmp 10] rfl fun w0 T0 _=>?_
 simp only [Tryz.f6,au]
 (repeat' with_reducible first|intro _|exact dn|refine rn ?_|refine ra ?_ ?_)
 refine ah.k Fg ?_
 (repeat' with_reducible first|intro _|exact dn|refine rn ?_|refine ra ?_ ?_)
 refine ah.f kf 0 ?_
 (repeat' with_reducible first|intro _|exact dn|refine rn ?_|refine ra ?_ ?_)
 refine ah.o ks 1 ?_
 (repeat' with_reducible first|intro _|refine rz ?_|refine ra ?_ ?_|omega|simp only [go_sem,r1,r2])
 refine ah.k w1 ?_
 (repeat' with_reducible first|intro _|refine rz ?_|refine ra ?_ ?_|omega|simp only [go_sem,k1,k2])
 refine ah.k w2 ?_
 (repeat' with_reducible first|intro _|exact dn|refine rn ?_|refine ra ?_ ?_)
 refine ah.k fe ?_
 (repeat' with_reducible first|intro _|exact dn|refine rn ?_|refine ra ?_ ?_)
 refine ah.o kr 1 ?_
 (repeat' with_reducible first|intro _|exact dn|refine rn ?_|refine ra ?_ ?_)
 refine ah.k kq ?_
 (repeat' with_reducible first|intro _|refine rz ?_|refine ra ?_ ?_|omega|simp only [go_sem,hNl])
 refine aI.intro (fun i:Nat=>⟨159,[(72,.int .i64 i),(71,.int .i64 N),(70,.own 1),(11,.own 1),(5,.ptr 0 0),(1,.int .i64 rows),(3,.int .i64 at_),(4,.int .u8 c.toNat)],[(0,.box 24 [.int .i64 w,.int .i64 h,.ro (.bools q)]),(1,.row 9 (.strs L))],2⟩) (fun i=>i≤N) (fun i=>N - i) 0 ?_ (Nat.zero_le _) fun i hi=>?_
 ·refine aO.ak rfl ?_ ?_<;>simp only [go_sem,Int.natCast_succ]
  all_goals first|rfl|exact ⟨rfl,rfl⟩|trace_state
 by_cases hlt:i<N
 ·have f1:((i:Int)<(N:Int))=True:=eq_true (by omega)
  have hy:=(hiff i).1 hlt
  obtain ⟨s1,s2⟩:=uI hr0 hy
  have g2:=Dj g hr0 hy
  have kd:=NQ g2 hk
  have kcut:=E8 w h q g (i*rows) (mF h rows i) s2
  have kb2:=rG (w:Int) ((mF h rows i:Nat):Int) (w:Int) ((mF h rows i:Nat):Int) (mM w q (i*rows) (mF h rows i)) (mM w q (i*rows) (mF h rows i))
  rw [decide_eq_true ⟨rfl,rfl,rfl⟩] at kb2
  have hEi:L.getD i []=fE w (mF h rows i) (mM w q (i*rows) (mF h rows i)) kind:=hget i hlt
  rw [←hEi] at kd
  have hmin:min (rows:Int) ((h:Int) - ((i*rows:Nat):Int))=((mF h rows i:Nat):Int):=by unfold mF;omega
  have e3:(i:Int)*(rows:Int)=((i*rows:Nat):Int):=(Int.natCast_mul _ _).symm
  have hy2:i*rows≤4000:=by have:=g.h1;omega
  clear hEi hiff
  obtain ⟨Ei,hEi2⟩:∃ Ei,L.getD i []=Ei:=⟨_,rfl⟩
  rw [hEi2] at kd
  generalize mM w q (i*rows) (mF h rows i)=C at *
  have hk4:mF h rows i≤4000:=by have:=g.h1;omega
  have hwl:=g.w1
  have hhl:=g.h1
  generalize mF h rows i=kk at *
  generalize i*rows=y at *
  (repeat' with_reducible first|intro _|refine rz ?_|refine ra ?_ ?_|omega|simp only [go_sem,f1,hNl,hEi2])
  refine ah.f kd 0 ?_
  (repeat' with_reducible first|intro _|refine rz ?_|refine ra ?_ ?_|omega|simp only [go_sem,e3,hmin])
  refine aQ.lex [6] [(3,[1])] (by kernel_rfl) (by kernel_rfl) ?_
  (repeat' with_reducible first|intro _|exact dn|refine rn ?_|refine ra ?_ ?_)
  refine QE.intro (.agg [.int .i64 w,.int .i64 kk,.own 4]) [(4,.row 4 (.bools C)),(3,.box 58 [.int .i64 0,.int .i64 y,.int .i64 w,.int .i64 kk]),(2,.box 24 [.int .i64 w,.int .i64 kk,.ro (.bools C)]),(0,.box 24 [.int .i64 w,.int .i64 h,.ro (.bools q)]),(1,.row 9 (.strs L))] 5 ?_ ?_
  ·(repeat' with_reducible first|intro _|exact dn|refine rn ?_|refine ra ?_ ?_)
   refine ah.o kcut 1 ?_
   (repeat' with_reducible first|intro _|exact dn|refine rn ?_|refine ra ?_ ?_)
  (repeat' with_reducible first|intro _|exact dn|refine rn ?_|refine ra ?_ ?_)
  (refine QV.intro (.bool true) ?_ ?_;focus ((repeat' with_reducible first|intro _|exact dn|refine rn ?_|refine ra ?_ ?_);refine ah.k (kb2) ?_;(repeat' with_reducible first|intro _|exact dn|refine rn ?_|refine ra ?_ ?_)))
  (repeat' with_reducible first|intro _|exact dn|refine rn ?_|refine ra ?_ ?_)
  refine ⟨i+1,aO.ak rfl ?_ ?_,by omega,by omega⟩<;>simp only [go_sem,Int.natCast_succ]
  all_goals first|rfl|exact ⟨rfl,rfl⟩|trace_state
 ·have f1:((i:Int)<(N:Int))=False:=eq_false (by omega)
  (repeat' with_reducible first|intro _|refine rz ?_|refine ra ?_ ?_|omega|simp only [go_sem,f1])
  refine ah.o kfs 1 ?_
  (repeat' with_reducible first|intro _|exact dn|refine rn ?_|refine ra ?_ ?_)
  refine ah.k ksm ?_
  (repeat' with_reducible first|intro _|refine rz ?_|refine ra ?_ ?_|omega|simp only [go_sem,hNl,hE,hbl,hMne,hk0,hg,hx,hset,hbk])
  refine ah.o kf1 1 ?_
  (repeat' with_reducible first|intro _|exact dn|refine rn ?_|refine ra ?_ ?_)
  refine ah.o kf2 1 ?_
  (repeat' with_reducible first|intro _|exact dn|refine rn ?_|refine ra ?_ ?_)
  refine ah.k ka ?_
  (repeat' with_reducible first|intro _|exact dn|refine rn ?_|refine ra ?_ ?_)
  refine aV.auto 0 ?_ rfl ?_<;>simp only [go_sem,Int.natCast_succ,Post]
theorem BX (W H:Int) (p:List Bool) (rows kind at_:Int) (c:UInt8):aA Tryz.prog 6 [.agg [.int .i64 W,.int .i64 H,.ro (.bools p)],.int .i64 rows,.int .i64 kind,.int .i64 at_,.int .u8 c.toNat] (.bool true) []:=by
 by_cases h:1≤rows∧rows≤4000∧1≤kind∧kind≤4
 ·obtain ⟨n,rfl⟩:∃ n:Nat,rows=n:=⟨rows.toNat,by omega⟩
  exact yH W H p n (by omega) (by omega) kind at_ (by omega) c
 ·exact Aw W H p rows kind at_ c h
end Go.Fv.H
