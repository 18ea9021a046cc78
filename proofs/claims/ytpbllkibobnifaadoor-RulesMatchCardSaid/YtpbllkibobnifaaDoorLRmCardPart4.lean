/-
  A part of the proof of the claim: walks over the program's functions and the plain laws that these need. No condition of its own.
-/
import Derived.Test.YtpbllkibobnifaaDoorLRmCardPart2
import Derived.Test.YtpbllkibobnifaaDoorLRmCardPart3
import Derived.Test.YtpbllkibobnifaaDoorLRmCardPart1
import Derived.Test.YtpbllkibobnifaaDoorFvPart12
import Derived.Test.YtpbllkibobnifaaDoorFvPart11
set_option linter.unusedSimpArgs false
set_option linter.unusedVariables false
set_option linter.unnecessarySimpa false
set_option maxRecDepth 8000
/- The reference's rails: lines of runs in rows. -/
namespace Go.Fv.L
open Go Go.Proofs
def lT (w h:Nat) (p:List Bool):Nat × Item:=(0,.box 24 [.int .i64 w,.int .i64 h,.ro (.bools p)])
def Vh (w h least:Nat) (p:List Bool) (x:Nat × Nat × Nat × List Rn):Go.Fv.S:=⟨189,[(1,.int .i64 least),(2,.ptr 0 0),(6,.own 1),(7,.int .i64 x.1),(8,.int .i64 x.2.2.1),(23,.int .i64 h),(24,.int .i64 x.1),(29,.int .i64 (w+1:Nat)),(30,.int .i64 x.2.1)],[lT w h p,(1,.row 98 (Uz x.2.2.2))],2⟩
def Pz (q:Pt):List AV:=[.int .i64 q.x,.int .i64 q.y]
instance:pY Pz:=⟨fun _=>rfl⟩
def Xk (g:Nat × List Rn):Bx:=kT (g.2.map (kL false))
def WW (l:List Rn) (g:Nat × List Rn):Pt:=CU false (rg l g.1)
abbrev Wx (G:List (Nat × List Rn)):aF:=SI (G.map Xk)
abbrev WC (l:List Rn) (G:List (Nat × List Rn)):aF:=.objs 2 ((G.map (WW l)).map Pz)
def PD (w h least:Nat) (p:List Bool) (l:List Rn) (x:Nat × List Bool × List (Nat × List Rn)):Go.Fv.S:=⟨189,[(1,.int .i64 least),(2,.ptr 0 0),(6,.own 1),(10,.own 2),(11,.own 3),(12,.own 4),(63,.int .i64 l.length),(64,.int .i64 x.1)],[lT w h p,(1,.row 98 (Uz l)),(2,.row 4 (.bools x.2.1)),(3,.row 33 (Wx x.2.2)),(4,.row 55 (WC l x.2.2))],5⟩
def kI (w h least:Nat) (p:List Bool) (l:List Rn) (i:Nat) (G:List (Nat × List Rn)) (x:Nat × St):Go.Fv.S:=⟨189,[(1,.int .i64 least),(2,.ptr 0 0),(6,.own 1),(10,.own 2),(11,.own 3),(12,.own 4),(13,.int .i64 i),(14,.own 5),(15,.int .i64 x.1),(63,.int .i64 l.length),(64,.int .i64 i)],[lT w h p,(1,.row 98 (Uz l)),(2,.row 4 (.bools x.2.1)),(3,.row 33 (Wx G)),(4,.row 55 (WC l G)),(5,.row 98 (Uz x.2.2))],6⟩
def jI (w h least:Nat) (p:List Bool) (l:List Rn) (i:Nat) (G:List (Nat × List Rn)) (k:Nat) (x:Nat × St):Go.Fv.S:=⟨189,[(1,.int .i64 least),(2,.ptr 0 0),(6,.own 1),(10,.own 2),(11,.own 3),(12,.own 4),(13,.int .i64 i),(14,.own 5),(15,.int .i64 k),(63,.int .i64 l.length),(64,.int .i64 i),(85,.own 1),(86,.int .i64 l.length),(87,.int .i64 x.1)],[lT w h p,(1,.row 98 (Uz l)),(2,.row 4 (.bools x.2.1)),(3,.row 33 (Wx G)),(4,.row 55 (WC l G)),(5,.row 98 (Uz x.2.2))],6⟩
def bI (w h least:Nat) (p:List Bool) (l:List Rn) (i:Nat) (G:List (Nat × List Rn)) (s:St) (m:Nat):Go.Fv.S:=⟨189,[(1,.int .i64 least),(2,.ptr 0 0),(6,.own 1),(10,.own 2),(11,.own 3),(12,.own 4),(13,.int .i64 i),(19,.own 6),(63,.int .i64 l.length),(64,.int .i64 i),(150,.own 5),(151,.int .i64 s.2.length),(152,.int .i64 m)],[lT w h p,(1,.row 98 (Uz l)),(2,.row 4 (.bools s.1)),(3,.row 33 (Wx G)),(4,.row 55 (WC l G)),(5,.row 98 (Uz s.2)),(6,.row 33 (SI ((s.2.take m).map (kL false))))],7⟩
def uN (w h:Nat) (p:List Bool) (least:Nat):List (Nat × List Rn):=FW (runs (nV p w) h w least) (runs (nV p w) h w least).length 0 (List.replicate (runs (nV p w) h w least).length false)
theorem kQ {l:List Rn} {i:Nat} (h:i<l.length):rg l i∈l:=by unfold rg;rw [getD_lt h];exact List.getElem_mem h
theorem FZ (l:List Rn):∀ (m i:Nat) (seen:List Bool),(FW l m i seen).length≤m
 | 0,_,_=>Nat.le_refl 0
 | m+1,i,seen=>by
  unfold FW
  split
  ·have:=FZ l m (i+1) seen;omega
  ·rw [List.length_cons]
   have:=FZ l m (i+1) (G8 l i seen).1;omega
theorem Jb (l:List Rn) (m i:Nat) (seen:List Bool):FW l (m+1) i seen=if seen.getD i false=true then FW l m (i+1) seen else (i,(G8 l i seen).2)::FW l m (i+1) (G8 l i seen).1:=rfl
theorem rG {l:List Rn} {i:Nat} (h:i<l.length):(l.map FV).getD i []=[.int .i64 (rg l i).f,.int .i64 (rg l i).y,.int .i64 ((rg l i).t - (rg l i).f:Nat)]:=by
 unfold rg
 rw [getD_lt (by simpa using h),getD_lt h,List.getElem_map];rfl
theorem L9 {l:List Rn} {s:St} {k:Nat} (h:¬k<s.2.length):∀ m,G9 l m k s=s
 | 0=>rfl
 | m+1=>by unfold G9;rw [if_neg h]
def KT:List Nat:=[0,1,2,5,6,7,8,9,10,11,12,13,14,15,16,17,3,4,18,19,20]
def inv1:List Nat:=[0,1,2,16,17,3,4,5,6,7,8,9,10,11,12,13,14,15,18,19,20]
def Ya:List (Nat × List Nat):=[(0,[1,2]),(1,[1]),(2,[1]),(3,[1,2,3])]
def KU:List Nat:=[0,1,2,3,5,6,7,8,9,10,11,12,13,14,15,16,17,4,18,19,20]
def inv2:List Nat:=[0,1,2,3,17,4,5,6,7,8,9,10,11,12,13,14,15,16,18,19,20]
def Yb:List (Nat × List Nat):=[(0,[1,2]),(4,[0,2,3]),(5,[0]),(6,[0]),(7,[0]),(8,[0]),(9,[0]),(10,[0]),(11,[0]),(12,[0]),(13,[0]),(14,[0]),(15,[0])]
def KW:List Nat:=[0,1,2,3,4,5,6,7,8,9,10,11,12,13,14,15,16,17,18,19,20]
def KC:List Nat:=[0,1,2,3,4,5,6,7,8,9,10,11,12,13,14,15,16,17,18,19,20]
def Yc:List (Nat × List Nat):=[(0,[1]),(5,[0,1,3]),(6,[0,1]),(7,[0,1]),(8,[0,1]),(9,[0,1]),(10,[0,1]),(11,[0,1]),(12,[0,1]),(13,[0,1]),(14,[0,1]),(15,[0,1]),(16,[0,1])]
set_option maxHeartbeats 16000000 in
theorem I8 (w h least:Nat) (p:List Bool) (hw1:1≤w) (hw:w≤100) (hh1:1≤h) (hh:h≤100) (hp:p.length=w*h) (hl:1≤least) (hl2:least≤4000) :
  aU Tryd.prog 30 [.agg [.int .i64 w,.int .i64 h,.ro (.bools p)],.int .i64 least] (.tup [.own 0,.own 1]) [(0,.row 33 (Wx (uN w h p least))),(1,.row 55 (WC (runs (nV p w) h w least) (uN w h p least)))]:=by
 refine aU.aY Tryd.func30 rfl (by decide) (by simp [Tryd.f30]) [.tmp 4,.tmp 5] rfl fun w0 T0 _=>?_
 simp only [Tryd.f30,aK]
 (repeat' with_reducible first|intro _|exact dn|refine rn ?_|refine ra ?_ ?_)
 refine aJ.intro (fun y:Nat=>⟨189,[(1,.int .i64 least),(2,.ptr 0 0),(6,.own 1),(23,.int .i64 h),(24,.int .i64 y)],[lT w h p,(1,.row 98 (Uz (runs (nV p w) y w least)))],2⟩) (fun y=>y≤h) (fun y=>h - y) 0 ?_ (Nat.zero_le _) fun y hy=>?_
 ·refine aS.aB rfl ?_ ?_<;>simp only [go_sem,Int.natCast_succ,lT]
  all_goals rfl
 by_cases hlt:y<h
 case neg=>
  have ey:y=h:=by omega
  have f1:((y:Int)<(h:Int))=False:=eq_false (by omega)
  have hrl:=fM (nV p w) w least y
  have hb:y*w≤10000:=Nat.mul_le_mul (by omega:y≤100) hw
  have hmem:∀ r,r∈runs (nV p w) y w least→r.f<r.t∧r.t≤100∧r.y≤100:=fun r hr=>by
   have:=kE hr
   omega
  have hres:uN w h p least=FW (runs (nV p w) y w least) (runs (nV p w) y w least).length 0 (List.replicate (runs (nV p w) y w least).length false):=by rw [ey];rfl
  rw [hres,show runs (nV p w) h w least=runs (nV p w) y w least by rw [ey]]
  generalize hL:runs (nV p w) y w least=l at *
  have hn:l.length≤10000:=by omega
  (repeat' with_reducible first|intro _|refine rz ?_|refine ra ?_ ?_|omega|simp only [go_sem,f1,lT,List.length_map])
  refine aJ.intro (PD w h least p l) (fun x=>x.1≤l.length∧x.2.1.length=l.length∧x.2.2++FW l (l.length - x.1) x.1 x.2.1=FW l l.length 0 (List.replicate l.length false)) (fun x=>l.length - x.1) (0,List.replicate l.length false,[]) ?_ ⟨Nat.zero_le _,by simp,by simp⟩ fun x hI=>?_
  ·refine aS.aB rfl ?_ ?_<;>simp only [go_sem,Int.natCast_succ,PD,lT]
   all_goals trace_state
  obtain ⟨i,seen,G⟩:=x
  obtain ⟨i1,i2,i3⟩:=hI
  dsimp only at i1 i2 i3 ⊢
  by_cases hin:i<l.length
  case neg=>
   have f2:((i:Int)<(l.length:Int))=False:=eq_false (by omega)
   rw [show l.length - i=0 by omega] at i3
   have i3:G=FW l l.length 0 (List.replicate l.length false):=by rw [←i3];exact (List.append_nil _).symm
   rw [←i3]
   unfold PD lT
   (repeat' with_reducible first|intro _|refine rz ?_|refine ra ?_ ?_|omega|simp only [go_sem,f2])
   refine eP.auto 2 ?_ rfl ?_<;>simp only [go_sem,Int.natCast_succ,Post]
   all_goals trace_state
  have f2:((i:Int)<(l.length:Int))=True:=eq_true (by omega)
  rw [show l.length - i=(l.length - (i+1))+1 by omega] at i3
  rw [Jb] at i3
  by_cases hs:seen.getD i false=true
  ·rw [if_pos hs] at i3
   unfold PD lT
   (repeat' with_reducible first|intro _|refine rz ?_|refine ra ?_ ?_|omega|simp only [go_sem,f2,hs,aN])
   refine ⟨(i+1,seen,G),aS.aB rfl ?_ ?_,⟨by dsimp only;omega,i2,i3⟩,by dsimp only;omega⟩<;>simp only [go_sem,Int.natCast_succ,PD,lT]
   all_goals trace_state
  rw [if_neg hs] at i3
  have hs':seen.getD i false=false:=by simpa using hs
  unfold PD lT
  (repeat' with_reducible first|intro _|refine rz ?_|refine ra ?_ ?_|omega|simp only [go_sem,f2,hs',aN,i2,rG hin,List.length_map])
  have hri:=hmem _ (kQ hin)
  have hsn:Cm l.length (seen.set i true,[rg l i]):=⟨by simpa using i2,by
   dsimp only
   rw [Ag (by omega) hs'];simp⟩
  refine aJ.intro (kI w h least p l i G) (fun x=>x.1≤x.2.2.length∧Cm l.length x.2∧(∀ r,r∈x.2.2→r.f<r.t∧r.t≤100∧r.y≤100)∧x.2.2≠[]∧G9 l (l.length+1 - x.1) x.1 x.2=G8 l i seen) (fun x=>l.length+1 - x.1) (0,seen.set i true,[rg l i]) ?_ ⟨Nat.zero_le _,hsn,fun r hr=>by rw [List.mem_singleton.1 hr];exact hri,by simp,rfl⟩ fun x hK=>?_
  ·refine aS.aB rfl ?_ ?_<;>simp only [go_sem,Int.natCast_succ,kI,lT,FV]
   all_goals trace_state
  obtain ⟨k,s⟩:=x
  obtain ⟨k1,k2,k3,k4,k5⟩:=hK
  dsimp only at k1 k2 k3 k4 k5 ⊢
  have hsl:=k2.le
  by_cases hks:k<s.2.length
  case neg=>
   have f3:((k:Int)<(s.2.length:Int))=False:=eq_false (by omega)
   rw [L9 hks] at k5
   have hel:l.map FV=l.map FV:=rfl
   have hei:=rG hin
   have hsb:∀ m,m≤s.2.length→((s.2.take m).map (kL false)).length=m:=fun m hm=>by rw [List.length_map,List.length_take];omega
   unfold kI lT
   (repeat' with_reducible first|intro _|refine rz ?_|refine ra ?_ ?_|omega|simp only [go_sem,f3,List.length_map])
   refine aJ.intro (bI w h least p l i G s) (fun m=>m≤s.2.length) (fun m=>s.2.length - m) 0 ?_ (Nat.zero_le _) fun m hm=>?_
   ·refine aS.aB rfl ?_ ?_<;>simp only [go_sem,Int.natCast_succ,bI,lT]
    all_goals trace_state
   by_cases hms:m<s.2.length
   case pos=>
    have f5:((m:Int)<(s.2.length:Int))=True:=eq_true (by omega)
    have hem:=rG hms
    have hrm:=k3 _ (kQ hms)
    have hlm:=hsb m hm
    unfold bI lT
    (repeat' with_reducible first|intro _|refine rz ?_|refine ra ?_ ?_|omega|simp only [go_sem,f5,aN,hem,List.length_map])
    refine ⟨m+1,aS.aB rfl ?_ ?_,by omega,by omega⟩
    ·simp only [go_sem,Int.natCast_succ,bI,lT]
     all_goals trace_state
    ·simp only [go_sem,Int.natCast_succ,bI,lT]
     have hbe:kL false (rg s.2 m)=⟨(rg s.2 m).f,(rg s.2 m).y,((rg s.2 m).t:Int) - (rg s.2 m).f,1⟩:=rfl
     have hts:s.2.take (m+1)=s.2.take m++[rg s.2 m]:=by rw [List.take_succ_eq_append_getElem hms];unfold rg;rw [getD_lt hms]
     rw [hts,List.map_append,List.map_append,List.map_cons,List.map_cons,List.map_nil,List.map_nil,hbe]
     simp only [Bx.av,Int.ofNat_sub (show (rg s.2 m).f≤(rg s.2 m).t by omega)]
   have em:m=s.2.length:=by omega
   have f5:((m:Int)<(s.2.length:Int))=False:=eq_false (by omega)
   unfold bI lT
   rw [em,List.take_length]
   rw [em] at f5
   (repeat' with_reducible first|intro _|refine rz ?_|refine ra ?_ ?_|omega|simp only [go_sem,f5,List.length_map])
   have hbx:∀ b,b∈s.2.map (kL false)→LW b:=fun b hb=>by
    obtain ⟨r,hr,rfl⟩:=List.mem_map.1 hb
    have:=k3 r hr
    unfold LW kL
    simp
    omega
   have hpos:0<s.2.length:=List.length_pos_iff.2 k4
   have kH:=Bl (s.2.map (kL false)) (by rw [List.length_map];omega) hbx
   generalize hHB:kT (s.2.map (kL false))=HB at *
   obtain ⟨HX,HY,HW,HH⟩:=HB
   have hgb:Xk (i,s.2)=⟨HX,HY,HW,HH⟩:=hHB
   have hgp:WW l (i,s.2)=⟨(rg l i).f,(rg l i).y⟩:=rfl
   have hGl:G.length≤l.length:=by
    have h1:=congrArg List.length i3
    rw [List.length_append] at h1
    have h2:=FZ l l.length 0 (List.replicate l.length false)
    omega
   refine aP.Uk 3 4 17 (by kernel_rfl) (by decide) (by decide) KT inv1 [15,16,17,18] Ya KU inv2 [3,16,17,18] Yb KW KC [3,4,17,18] Yc (PD w h least p l (i,s.1,G++[(i,s.2)])) ⟨by kernel_rfl,by kernel_rfl,?_⟩ ⟨by kernel_rfl,by kernel_rfl,?_⟩ ⟨by kernel_rfl,by kernel_rfl,?_⟩ ?_
   ·simp only [CS,KT,inv1,Wy,Lc,U3,List.map_cons,List.map_nil,List.getD_cons_zero,List.getD_cons_succ,Nat.reduceBEq,Bool.false_eq_true,reduceIte,List.append_nil,List.nil_append,List.cons_append]
    (repeat' with_reducible first|intro _|refine rz ?_|refine ra ?_ ?_|omega|simp only [go_sem,Ya,aN,hei,List.length_map])
    refine QV.intro (.agg [.int .i64 HX,.int .i64 HY,.int .i64 HW,.int .i64 HH]) ?_ ?_
    ·(repeat' with_reducible first|intro _|exact dn|refine rn ?_|refine ra ?_ ?_)
     refine aj.k kH ?_
     (repeat' with_reducible first|intro _|refine rz ?_|refine ra ?_ ?_|omega|simp only [go_sem,Bx.av])
    (repeat' with_reducible first|intro _|refine rz ?_|refine ra ?_ ?_|omega|simp only [go_sem,Ya,aN,hei,List.length_map])
    ·refine aj.k kH ?_
     (repeat' with_reducible first|intro _|refine rz ?_|refine ra ?_ ?_|omega|simp only [go_sem,Bx.av])
    refine aS.aB rfl ?_ ?_<;>simp only [go_sem,Int.natCast_succ,PD,lT]
    exact ⟨by rw [List.map_append,List.map_append,List.map_cons,List.map_nil,List.map_cons,List.map_nil,hgb];rfl,by rw [List.map_append,List.map_append];rfl⟩
   ·simp only [CS,KU,inv2,Wy,Lc,U3,List.map_cons,List.map_nil,List.getD_cons_zero,List.getD_cons_succ,Nat.reduceBEq,Bool.false_eq_true,reduceIte,List.append_nil,List.nil_append,List.cons_append]
    (repeat' with_reducible first|intro _|refine rz ?_|refine ra ?_ ?_|omega|simp only [go_sem,Yb,aN,hei,List.length_map])
    refine QV.intro (.agg [.int .i64 HX,.int .i64 HY,.int .i64 HW,.int .i64 HH]) ?_ ?_
    ·(repeat' with_reducible first|intro _|exact dn|refine rn ?_|refine ra ?_ ?_)
     refine aj.k kH ?_
     (repeat' with_reducible first|intro _|refine rz ?_|refine ra ?_ ?_|omega|simp only [go_sem,Bx.av])
    (repeat' with_reducible first|intro _|refine rz ?_|refine ra ?_ ?_|omega|simp only [go_sem,Yb,aN,hei,List.length_map])
    refine aS.aB rfl ?_ ?_<;>simp only [go_sem,Int.natCast_succ,PD,lT]
    exact ⟨by rw [List.map_append,List.map_append,List.map_cons,List.map_nil,List.map_cons,List.map_nil,hgb];rfl,by rw [List.map_append,List.map_append];rfl⟩
   ·simp only [CS,KW,KC,Wy,Lc,U3,List.map_cons,List.map_nil,List.getD_cons_zero,List.getD_cons_succ,Nat.reduceBEq,Bool.false_eq_true,reduceIte,List.append_nil,List.nil_append,List.cons_append]
    (repeat' with_reducible first|intro _|refine rz ?_|refine ra ?_ ?_|omega|simp only [go_sem,Yc,aN,hei,List.length_map])
    refine QV.intro (.agg [.int .i64 HX,.int .i64 HY,.int .i64 HW,.int .i64 HH]) ?_ ?_
    ·(repeat' with_reducible first|intro _|exact dn|refine rn ?_|refine ra ?_ ?_)
     refine aj.k kH ?_
     (repeat' with_reducible first|intro _|refine rz ?_|refine ra ?_ ?_|omega|simp only [go_sem,Bx.av])
    (repeat' with_reducible first|intro _|refine rz ?_|refine ra ?_ ?_|omega|simp only [go_sem,Yc,aN,hei,List.length_map])
    refine aS.aB rfl ?_ ?_<;>simp only [go_sem,Int.natCast_succ,PD,lT]
    exact ⟨by rw [List.map_append,List.map_append,List.map_cons,List.map_nil,List.map_cons,List.map_nil,hgb];rfl,by rw [List.map_append,List.map_append];rfl⟩
   ·unfold PD lT
    (repeat' with_reducible first|intro _|exact dn|refine rn ?_|refine ra ?_ ?_)
    have hbl:(G8 l i seen).1.length=l.length:=by rw [←k5];exact k2.len
    refine ⟨(i+1,s.1,G++[(i,s.2)]),aS.aB rfl ?_ ?_,⟨by dsimp only;omega,by rw [k5];exact hbl,by dsimp only;rw [k5,List.append_assoc];exact i3⟩,by dsimp only;omega⟩<;>simp only [go_sem,Int.natCast_succ,PD,lT]
    all_goals trace_state
  have f3:((k:Int)<(s.2.length:Int))=True:=eq_true (by omega)
  rw [show l.length+1 - k=(l.length - k)+1 by omega] at k5
  have k5':G9 l (l.length - k) (k+1) (yF l (rg s.2 k) l.length 0 s)=G8 l i seen:=by
   rw [←k5]
   show _=if k<s.2.length then _ else _
   rw [if_pos hks]
  have hak:=k3 _ (kQ hks)
  generalize ha:rg s.2 k=a at *
  unfold kI lT
  (repeat' with_reducible first|intro _|refine rz ?_|refine ra ?_ ?_|omega|simp only [go_sem,f3,List.length_map])
  refine aJ.intro (jI w h least p l i G k) (fun x=>x.1≤l.length∧Cm l.length x.2∧(∀ r,r∈x.2.2→r.f<r.t∧r.t≤100∧r.y≤100)∧k<x.2.2.length∧rg x.2.2 k=a∧x.2.2≠[]∧yF l a (l.length - x.1) x.1 x.2=yF l a l.length 0 s) (fun x=>l.length - x.1) (0,s) ?_ ⟨Nat.zero_le _,k2,k3,hks,ha,k4,rfl⟩ fun x hJ=>?_
  ·refine aS.aB rfl ?_ ?_<;>simp only [go_sem,Int.natCast_succ,jI,lT]
   all_goals trace_state
  obtain ⟨j,q⟩:=x
  obtain ⟨j1,j2,j3,j4,j5,j6,j7⟩:=hJ
  dsimp only at j1 j2 j3 j4 j5 j6 j7 ⊢
  by_cases hjl:j<l.length
  case neg=>
   have f4:((j:Int)<(l.length:Int))=False:=eq_false (by omega)
   rw [show l.length - j=0 by omega] at j7
   have j7:q=yF l a l.length 0 s:=j7
   rw [←j7] at k5'
   unfold jI lT
   (repeat' with_reducible first|intro _|refine rz ?_|refine ra ?_ ?_|omega|simp only [go_sem,f4])
   refine ⟨(k+1,q),aS.aB rfl ?_ ?_,⟨by dsimp only;omega,j2,j3,j6,by dsimp only;rw [show l.length+1 - (k+1)=l.length - k by omega];exact k5'⟩,by dsimp only;omega⟩<;>simp only [go_sem,Int.natCast_succ,kI,lT]
   all_goals trace_state
  have f4:((j:Int)<(l.length:Int))=True:=eq_true (by omega)
  have hql:=j2.le
  have hqn:=j2.len
  rw [show l.length - j=(l.length - (j+1))+1 by omega] at j7
  have j7':yF l a (l.length - (j+1)) (j+1) (vW l a j q)=yF l a l.length 0 s:=j7
  have j2':=j2.vW (a:=a) hjl
  have hrj:=hmem _ (kQ hjl)
  have hegk:=rG j4
  rw [j5] at hegk
  have hegj:=rG hjl
  generalize hr:rg l j=r at *
  unfold jI lT
  (repeat' with_reducible first|intro _|refine rz ?_|refine ra ?_ ?_|omega|simp only [go_sem,f4,aN,hegj,List.length_map])
  refine aP.lex [] [] (by kernel_rfl) (by kernel_rfl) ?_
  (repeat' with_reducible first|intro _|refine rz ?_|refine ra ?_ ?_|omega|simp only [go_sem,aN,hegk,List.length_map])
  refine aP.lex [] [] (by kernel_rfl) (by kernel_rfl) ?_
  have hin0:∀ b:Bool,q.1.getD j false=b→(b=true∨¬og a r)→vW l a j q=q:=fun b hb h=>by
   unfold vW
   rw [hr,if_neg]
   rintro ⟨h1,h2⟩
   rcases h with h|h
   ·rw [h] at hb;rw [hb] at h1;cases h1
   ·exact h h2
  have hin1:q.1.getD j false=false→og a r→vW l a j q=(q.1.set j true,q.2++[r]):=fun h1 h2=>by
   unfold vW
   rw [hr,if_pos ⟨h1,h2⟩]
  have hbd:(1:Int)≤1:=by omega
  cases hsj:q.1.getD j false with
  | true=>
   rw [hin0 true hsj (.inl rfl)] at j7'
   (repeat' with_reducible first|intro _|refine rz ?_|refine ra ?_ ?_|omega|simp only [go_sem,aN,hsj,hegk,hqn,List.length_map])
   refine ⟨(j+1,q),aS.aB rfl ?_ ?_,⟨by dsimp only;omega,j2,j3,j4,j5,j6,j7'⟩,by dsimp only;omega⟩<;>simp only [go_sem,Int.natCast_succ,jI,lT]
   all_goals trace_state
  | false=>
   (repeat' with_reducible first|intro _|refine rz ?_|refine ra ?_ ?_|omega|simp only [go_sem,aN,hsj,hegk,hqn,List.length_map])
   ·rename_i hx
    have hadj:og a r:=by unfold og;omega
    have e:=hin1 hsj hadj
    rw [e] at j7' j2'
    refine ⟨(j+1,(q.1.set j true,q.2++[r])),aS.aB rfl ?_ ?_,⟨by dsimp only;omega,j2',fun c hc=>?_,by simp;omega,by dsimp only;rw [←j5];unfold rg;simp [List.getD_eq_getElem?_getD,List.getElem?_append_left j4],by simp,j7'⟩,by dsimp only;omega⟩
    ·simp only [go_sem,Int.natCast_succ,jI,lT]
     all_goals trace_state
    ·simp only [go_sem,Int.natCast_succ,jI,lT]
     all_goals simp [FV]
    ·rcases List.mem_append.1 hc with hc|hc
     ·exact j3 c hc
     ·rw [List.mem_singleton.1 hc];exact hrj
   ·rename_i hx
    have hadj:¬og a r:=by unfold og;omega
    rw [hin0 false hsj (.inr hadj)] at j7'
    refine ⟨(j+1,q),aS.aB rfl ?_ ?_,⟨by dsimp only;omega,j2,j3,j4,j5,j6,j7'⟩,by dsimp only;omega⟩<;>simp only [go_sem,Int.natCast_succ,jI,lT]
    all_goals trace_state
 have f1:((y:Int)<(h:Int))=True:=eq_true (by omega)
 have hsu:=iF (nV p w) y w least
 rw [←oN (nV p w) hl w y] at hsu
 have hrl:=fM (nV p w) w least y
 have hb:y*w≤10000:=Nat.mul_le_mul (by omega:y≤100) hw
 generalize hR0:runs (nV p w) y w least=R0 at *
 have ej:(w:Int)+1=((w+1:Nat):Int):=by omega
 (repeat' with_reducible first|intro _|refine rz ?_|refine ra ?_ ?_|omega|simp only [go_sem,f1,lT,ej])
 refine aJ.intro (fun x:Nat × Nat × List Rn=>Vh w h least p (y,x.1,x.2.1,x.2.2)) (fun x=>x.1≤w+1∧x.2.1≤x.1∧x.2.2.length≤R0.length+x.1∧(x.1≤w→x.2.2++mV (nV p w y) least y (w - x.1) x.1 x.2.1=runs (nV p w) (y+1) w least)∧(x.1=w+1→x.2.2=runs (nV p w) (y+1) w least)) (fun x=>w+1 - x.1) (0,0,R0) ?_ ⟨Nat.zero_le _,Nat.le_refl _,by dsimp only;omega,fun _=>hsu.symm,fun e=>absurd e (by dsimp only;omega)⟩ fun x hI=>?_
 ·refine aS.aB rfl ?_ ?_<;>simp only [go_sem,Int.natCast_succ,Vh,lT]
  all_goals trace_state
 obtain ⟨x,n,R⟩:=x
 obtain ⟨i1,i2,i3,i4,i5⟩:=hI
 dsimp only at i1 i2 i3 i4 i5 ⊢
 by_cases hx1:x<w+1
 case neg=>
  have e:x=w+1:=by omega
  have f2:((x:Int)<((w+1:Nat):Int))=False:=eq_false (by omega)
  rw [i5 e]
  unfold Vh lT
  (repeat' with_reducible first|intro _|refine rz ?_|refine ra ?_ ?_|omega|simp only [go_sem,f2])
  refine ⟨y+1,aS.aB rfl ?_ ?_,by omega,by omega⟩<;>simp only [go_sem,Int.natCast_succ,lT]
  all_goals trace_state
 have f2:((x:Int)<((w+1:Nat):Int))=True:=eq_true (by omega)
 have i4:=i4 (by omega)
 have hstop:∀ (m:Nat),(x<w→m=w - (x+1))→R++(pG least y (x - n) x n++(if x<w then mV (nV p w y) least y m (x+1) 0 else []))=runs (nV p w) (y+1) w least→x≤w →
   ((least≤n→(x<w→(R++[⟨y,x - n,x⟩])++mV (nV p w y) least y (w - (x+1)) (x+1) 0=runs (nV p w) (y+1) w least)∧(x=w→R++[⟨y,x - n,x⟩]=runs (nV p w) (y+1) w least)) ∧
    (¬least≤n→(x<w→R++mV (nV p w y) least y (w - (x+1)) (x+1) 0=runs (nV p w) (y+1) w least)∧(x=w→R=runs (nV p w) (y+1) w least))):=by
  intro m hm he hxw
  refine ⟨fun hln=>⟨fun hx=>?_,fun hx=>?_⟩,fun hln=>⟨fun hx=>?_,fun hx=>?_⟩⟩
  ·rw [if_pos hx,hm hx] at he
   unfold pG at he
   rw [if_pos hln] at he
   rw [←he,List.append_assoc]
  ·rw [if_neg (by omega)] at he
   unfold pG at he
   rw [if_pos hln,List.append_nil] at he
   exact he
  ·rw [if_pos hx,hm hx] at he
   unfold pG at he
   rw [if_neg hln,List.nil_append] at he
   exact he
  ·rw [if_neg (by omega)] at he
   unfold pG at he
   rw [if_neg hln,List.append_nil,List.append_nil] at he
   exact he
 have hxn:(x:Int) - (n:Int)=((x - n:Nat):Int):=by omega
 have htf:x - (x - n)=n:=by omega
 by_cases hxw:x<w
 ·have kA:=mJ w h (by omega) (by omega) p hp (x:Int) (y:Int)
  rw [qH p hxw hlt] at kA
  have hA:p.getD (y*w+x) false=nV p w y x:=rfl
  rw [hA] at kA
  have hsc:mV (nV p w y) least y (w - x) x n=if nV p w y x=true then mV (nV p w y) least y (w - (x+1)) (x+1) (n+1) else pG least y (x - n) x n++mV (nV p w y) least y (w - (x+1)) (x+1) 0:=by
   rw [show w - x=(w - (x+1))+1 by omega];rfl
  rw [hsc] at i4
  have f3:((x:Int)<(w:Int))=True:=eq_true (by omega)
  cases hink:nV p w y x with
  | true=>
   rw [hink] at kA i4
   rw [if_pos rfl] at i4
   unfold Vh lT
   (repeat' with_reducible first|intro _|refine rz ?_|refine ra ?_ ?_|omega|simp only [go_sem,f2,f3])
   refine aj.k kA ?_
   (repeat' with_reducible first|intro _|exact dn|refine rn ?_|refine ra ?_ ?_)
   refine ⟨(x+1,n+1,R),aS.aB rfl ?_ ?_,⟨by dsimp only;omega,by dsimp only;omega,by dsimp only;omega,fun _=>i4,fun e=>absurd e (by dsimp only;omega)⟩,by dsimp only;omega⟩<;>simp only [go_sem,Int.natCast_succ,lT]
   all_goals trace_state
  | false=>
   rw [hink] at kA i4
   rw [if_neg (by decide)] at i4
   obtain ⟨e1,e2⟩:=hstop (w - (x+1)) (fun _=>rfl) (by rw [if_pos hxw];exact i4) (by omega)
   by_cases hln:least≤n
   ·have f4:((least:Int)≤(n:Int))=True:=eq_true (by omega)
    have e1:=(e1 hln).1 hxw
    unfold Vh lT
    (repeat' with_reducible first|intro _|refine rz ?_|refine ra ?_ ?_|omega|simp only [go_sem,f2,f3])
    refine aj.k kA ?_
    (repeat' with_reducible first|intro _|refine rz ?_|refine ra ?_ ?_|omega|simp only [go_sem,f4,hxn,List.length_map])
    refine ⟨(x+1,0,R++[⟨y,x - n,x⟩]),aS.aB rfl ?_ ?_,⟨by dsimp only;omega,by dsimp only;omega,by simp;omega,fun _=>e1,fun e=>absurd e (by dsimp only;omega)⟩,by dsimp only;omega⟩<;>simp only [go_sem,Int.natCast_succ,lT]
    simp [FV,htf]
   ·have f4:((least:Int)≤(n:Int))=False:=eq_false (by omega)
    have e2:=(e2 hln).1 hxw
    unfold Vh lT
    (repeat' with_reducible first|intro _|refine rz ?_|refine ra ?_ ?_|omega|simp only [go_sem,f2,f3])
    refine aj.k kA ?_
    (repeat' with_reducible first|intro _|refine rz ?_|refine ra ?_ ?_|omega|simp only [go_sem,f4])
    refine ⟨(x+1,0,R),aS.aB rfl ?_ ?_,⟨by dsimp only;omega,by dsimp only;omega,by dsimp only;omega,fun _=>e2,fun e=>absurd e (by dsimp only;omega)⟩,by dsimp only;omega⟩<;>simp only [go_sem,Int.natCast_succ,lT]
    all_goals trace_state
 ·have exw:x=w:=by omega
  have f3:((x:Int)<(w:Int))=False:=eq_false (by omega)
  have hsc:mV (nV p w y) least y (w - x) x n=pG least y (x - n) x n:=by rw [show w - x=0 by omega];rfl
  rw [hsc] at i4
  obtain ⟨e1,e2⟩:=hstop 0 (fun h=>absurd h hxw) (by rw [if_neg hxw,List.append_nil];exact i4) (by omega)
  by_cases hln:least≤n
  ·have f4:((least:Int)≤(n:Int))=True:=eq_true (by omega)
   have e1:=(e1 hln).2 exw
   unfold Vh lT
   (repeat' with_reducible first|intro _|refine rz ?_|refine ra ?_ ?_|omega|simp only [go_sem,f2,f3])
   (repeat' with_reducible first|intro _|refine rz ?_|refine ra ?_ ?_|omega|simp only [go_sem,f4,hxn,List.length_map])
   refine ⟨(x+1,0,R++[⟨y,x - n,x⟩]),aS.aB rfl ?_ ?_,⟨by dsimp only;omega,by dsimp only;omega,by simp;omega,fun e=>absurd e (by dsimp only;omega),fun _=>e1⟩,by dsimp only;omega⟩<;>simp only [go_sem,Int.natCast_succ,lT]
   simp [FV,htf]
  ·have f4:((least:Int)≤(n:Int))=False:=eq_false (by omega)
   have e2:=(e2 hln).2 exw
   unfold Vh lT
   (repeat' with_reducible first|intro _|refine rz ?_|refine ra ?_ ?_|omega|simp only [go_sem,f2,f3])
   (repeat' with_reducible first|intro _|refine rz ?_|refine ra ?_ ?_|omega|simp only [go_sem,f4])
   refine ⟨(x+1,0,R),aS.aB rfl ?_ ?_,⟨by dsimp only;omega,by dsimp only;omega,by dsimp only;omega,fun e=>absurd e (by dsimp only;omega),fun _=>e2⟩,by dsimp only;omega⟩<;>simp only [go_sem,Int.natCast_succ,lT]
   all_goals trace_state
end Go.Fv.L
/- The reference's firstOf: the first pixel of the line of columns that has a box (made from RefRails by gen_first.py). -/
namespace Go.Fv.L
open Go Go.Proofs
def J8 (r:Rn):List AV:=[.int .i64 r.y,.int .i64 r.f,.int .i64 (r.t - r.f:Nat)]
instance:pY J8:=⟨fun _=>rfl⟩
abbrev TJ (l:List Rn):aF:=.objs 3 (l.map J8)
theorem qK {l:List Rn} {i:Nat} (h:i<l.length):(l.map J8).getD i []=[.int .i64 (rg l i).y,.int .i64 (rg l i).f,.int .i64 ((rg l i).t - (rg l i).f:Nat)]:=by
 unfold rg
 rw [getD_lt (by simpa using h),getD_lt h,List.getElem_map];rfl
def nJ (w h:Nat) (p:List Bool) (B:Bx):List (Nat × Item):=[(0,.box 24 [.int .i64 w,.int .i64 h,.ro (.bools p)]),(1,.box 33 [.int .i64 B.x,.int .i64 B.y,.int .i64 B.w,.int .i64 B.h]),(2,.box 55 [.int .i64 0,.int .i64 0])]
def Vg (w h least:Nat) (p:List Bool) (B:Bx) (x:Nat × Nat × Nat × List Rn):Go.Fv.S:=⟨207,[(2,.int .i64 least),(3,.ptr 0 0),(4,.ptr 1 0),(6,.ptr 2 0),(7,.own 3),(8,.int .i64 x.1),(9,.int .i64 x.2.2.1),(23,.int .i64 w),(24,.int .i64 x.1),(29,.int .i64 (h+1:Nat)),(30,.int .i64 x.2.1)],nJ w h p B++[(3,.row 102 (TJ x.2.2.2))],4⟩
def V6 (w h least:Nat) (p:List Bool) (B:Bx) (l:List Rn) (x:Nat × List Bool):Go.Fv.S:=⟨207,[(2,.int .i64 least),(3,.ptr 0 0),(4,.ptr 1 0),(6,.ptr 2 0),(7,.own 3),(11,.own 4),(63,.int .i64 l.length),(64,.int .i64 x.1)],nJ w h p B++[(3,.row 102 (TJ l)),(4,.row 4 (.bools x.2))],5⟩
def kF (w h least:Nat) (p:List Bool) (B:Bx) (l:List Rn) (i:Nat) (x:Nat × St):Go.Fv.S:=⟨207,[(2,.int .i64 least),(3,.ptr 0 0),(4,.ptr 1 0),(6,.ptr 2 0),(7,.own 3),(11,.own 4),(12,.int .i64 i),(13,.own 5),(14,.int .i64 x.1),(63,.int .i64 l.length),(64,.int .i64 i)],nJ w h p B++[(3,.row 102 (TJ l)),(4,.row 4 (.bools x.2.1)),(5,.row 102 (TJ x.2.2))],6⟩
def jF (w h least:Nat) (p:List Bool) (B:Bx) (l:List Rn) (i:Nat) (k:Nat) (x:Nat × St):Go.Fv.S:=⟨207,[(2,.int .i64 least),(3,.ptr 0 0),(4,.ptr 1 0),(6,.ptr 2 0),(7,.own 3),(11,.own 4),(12,.int .i64 i),(13,.own 5),(14,.int .i64 k),(63,.int .i64 l.length),(64,.int .i64 i),(85,.own 3),(86,.int .i64 l.length),(87,.int .i64 x.1)],nJ w h p B++[(3,.row 102 (TJ l)),(4,.row 4 (.bools x.2.1)),(5,.row 102 (TJ x.2.2))],6⟩
def SK (g:List Rn) (m:Nat):Pt:=((g.take m).map (CU true)).foldl jX (CU true (rg g 0))
def bF (w h least:Nat) (p:List Bool) (B:Bx) (l:List Rn) (i:Nat) (s:St) (m:Nat):Go.Fv.S:=⟨207,[(2,.int .i64 least),(3,.ptr 0 0),(4,.ptr 1 0),(6,.ptr 2 0),(7,.own 3),(11,.own 4),(12,.int .i64 i),(13,.own 5),(18,.own 6),(19,.ptr 7 0),(63,.int .i64 l.length),(64,.int .i64 i),(159,.own 5),(160,.int .i64 s.2.length),(161,.int .i64 m)],nJ w h p B++[(3,.row 102 (TJ l)),(4,.row 4 (.bools s.1)),(5,.row 102 (TJ s.2)),(6,.row 33 (SI ((s.2.take m).map (kL true)))),(7,.box 55 [.int .i64 (SK s.2 m).x,.int .i64 (SK s.2 m).y])],8⟩
def Ig (B:Bx):List (Nat × List Rn)→Pt
 | []=>⟨0,0⟩
 | g::G=>if (kT (g.2.map (kL true))).x=B.x∧(kT (g.2.map (kL true))).y=B.y∧(kT (g.2.map (kL true))).w=B.w∧(kT (g.2.map (kL true))).h=B.h then SK g.2 g.2.length else Ig B G
def yB (w h:Nat) (p:List Bool) (least:Nat):List (Nat × List Rn):=FW (runs (isC p w) w h least) (runs (isC p w) w h least).length 0 (List.replicate (runs (isC p w) w h least).length false)
set_option maxHeartbeats 16000000 in
theorem Kt (w h least:Nat) (p:List Bool) (B:Bx) (hw1:1≤w) (hw:w≤100) (hh1:1≤h) (hh:h≤100) (hp:p.length=w*h) (hl:1≤least) (hl2:least≤4000) :
  aU Tryd.prog 32 [.agg [.int .i64 w,.int .i64 h,.ro (.bools p)],.agg [.int .i64 B.x,.int .i64 B.y,.int .i64 B.w,.int .i64 B.h],.int .i64 least] (.agg (Pz (Ig B (yB w h p least)))) []:=by
 generalize hRR:Ig B (yB w h p least)=RR
 obtain ⟨RX,RY⟩:=RR
 show aU Tryd.prog _ _ (.agg [.int .i64 RX,.int .i64 RY]) []
 refine aU.aY Tryd.func32 rfl (by decide) (by simp [Tryd.f32]) [.cell 6 55] rfl fun w0 T0 _=>?_
 simp only [Tryd.f32,aK]
 (repeat' with_reducible first|intro _|exact dn|refine rn ?_|refine ra ?_ ?_)
 refine aJ.intro (fun y:Nat=>⟨207,[(2,.int .i64 least),(3,.ptr 0 0),(4,.ptr 1 0),(6,.ptr 2 0),(7,.own 3),(23,.int .i64 w),(24,.int .i64 y)],nJ w h p B++[(3,.row 102 (TJ (runs (isC p w) y h least)))],4⟩) (fun y=>y≤w) (fun y=>w - y) 0 ?_ (Nat.zero_le _) fun y hy=>?_
 ·refine aS.aB rfl ?_ ?_<;>simp only [go_sem,Int.natCast_succ,nJ]
  all_goals rfl
 by_cases hlt:y<w
 case neg=>
  have ey:y=w:=by omega
  have f1:((y:Int)<(w:Int))=False:=eq_false (by omega)
  have hrl:=fM (isC p w) h least y
  have hb:y*h≤10000:=Nat.mul_le_mul (by omega:y≤100) hh
  have hmem:∀ r,r∈runs (isC p w) y h least→r.f<r.t∧r.t≤100∧r.y≤100:=fun r hr=>by
   have:=kE hr
   omega
  have hres:yB w h p least=FW (runs (isC p w) y h least) (runs (isC p w) y h least).length 0 (List.replicate (runs (isC p w) y h least).length false):=by rw [ey];rfl
  rw [hres] at hRR
  generalize hL:runs (isC p w) y h least=l at *
  have hn:l.length≤10000:=by omega
  (repeat' with_reducible first|intro _|refine rz ?_|refine ra ?_ ?_|omega|simp only [go_sem,f1,nJ,List.length_map])
  refine aJ.intro (V6 w h least p B l) (fun x=>x.1≤l.length∧x.2.length=l.length∧Ig B (FW l (l.length - x.1) x.1 x.2)=⟨RX,RY⟩) (fun x=>l.length - x.1) (0,List.replicate l.length false) ?_ ⟨Nat.zero_le _,by simp,hRR⟩ fun x hI=>?_
  ·refine aS.aB rfl ?_ ?_<;>simp only [go_sem,Int.natCast_succ,V6,nJ]
   all_goals trace_state
  obtain ⟨i,seen⟩:=x
  obtain ⟨i1,i2,i3⟩:=hI
  dsimp only at i1 i2 i3 ⊢
  by_cases hin:i<l.length
  case neg=>
   have f2:((i:Int)<(l.length:Int))=False:=eq_false (by omega)
   rw [show l.length - i=0 by omega] at i3
   have i3:(⟨0,0⟩:Pt)=⟨RX,RY⟩:=i3
   obtain ⟨e1,e2⟩:=Pt.mk.inj i3
   rw [←e1,←e2]
   unfold V6 nJ
   (repeat' with_reducible first|intro _|refine rz ?_|refine ra ?_ ?_|omega|simp only [go_sem,f2])
   refine eP.auto 0 ?_ rfl ?_<;>simp only [go_sem,Int.natCast_succ,Post]
   all_goals trace_state
  have f2:((i:Int)<(l.length:Int))=True:=eq_true (by omega)
  rw [show l.length - i=(l.length - (i+1))+1 by omega] at i3
  rw [Jb] at i3
  by_cases hs:seen.getD i false=true
  ·rw [if_pos hs] at i3
   unfold V6 nJ
   (repeat' with_reducible first|intro _|refine rz ?_|refine ra ?_ ?_|omega|simp only [go_sem,f2,hs,aN])
   refine ⟨(i+1,seen),aS.aB rfl ?_ ?_,⟨by dsimp only;omega,i2,i3⟩,by dsimp only;omega⟩<;>simp only [go_sem,Int.natCast_succ,V6,nJ]
   all_goals trace_state
  rw [if_neg hs] at i3
  have hs':seen.getD i false=false:=by simpa using hs
  unfold V6 nJ
  (repeat' with_reducible first|intro _|refine rz ?_|refine ra ?_ ?_|omega|simp only [go_sem,f2,hs',aN,i2,qK hin,List.length_map])
  have hri:=hmem _ (kQ hin)
  have hsn:Cm l.length (seen.set i true,[rg l i]):=⟨by simpa using i2,by
   dsimp only
   rw [Ag (by omega) hs'];simp⟩
  refine aJ.intro (kF w h least p B l i) (fun x=>x.1≤x.2.2.length∧Cm l.length x.2∧(∀ r,r∈x.2.2→r.f<r.t∧r.t≤100∧r.y≤100)∧x.2.2≠[]∧G9 l (l.length+1 - x.1) x.1 x.2=G8 l i seen) (fun x=>l.length+1 - x.1) (0,seen.set i true,[rg l i]) ?_ ⟨Nat.zero_le _,hsn,fun r hr=>by rw [List.mem_singleton.1 hr];exact hri,by simp,rfl⟩ fun x hK=>?_
  ·refine aS.aB rfl ?_ ?_<;>simp only [go_sem,Int.natCast_succ,kF,nJ,J8]
   all_goals trace_state
  obtain ⟨k,s⟩:=x
  obtain ⟨k1,k2,k3,k4,k5⟩:=hK
  dsimp only at k1 k2 k3 k4 k5 ⊢
  have hsl:=k2.le
  by_cases hks:k<s.2.length
  case neg=>
   have f3:((k:Int)<(s.2.length:Int))=False:=eq_false (by omega)
   rw [L9 hks] at k5
   have hpos:0<s.2.length:=List.length_pos_iff.2 k4
   have he0:=qK hpos
   have hsb:∀ m,m≤s.2.length→((s.2.take m).map (kL true)).length=m:=fun m hm=>by rw [List.length_map,List.length_take];omega
   have hr0:=k3 _ (kQ hpos)
   unfold kF nJ
   (repeat' with_reducible first|intro _|refine rz ?_|refine ra ?_ ?_|omega|simp only [go_sem,f3,List.length_map])
   refine aP.lex [9,10] [(0,[1]),(1,[1]),(2,[1]),(3,[1]),(4,[1]),(5,[1]),(6,[1]),(7,[1]),(8,[1])] (by kernel_rfl) (by kernel_rfl) ?_
   (repeat' with_reducible first|intro _|refine rz ?_|refine ra ?_ ?_|omega|simp only [go_sem,aN,he0,List.length_map,Int.toNat_zero])
   refine aJ.intro (bF w h least p B l i s) (fun m=>m≤s.2.length) (fun m=>s.2.length - m) 0 ?_ (Nat.zero_le _) fun m hm=>?_
   ·refine aS.aB rfl ?_ ?_<;>simp only [go_sem,Int.natCast_succ,bF,nJ]
    exact ⟨rfl,rfl⟩
   by_cases hms:m<s.2.length
   case pos=>
    have f5:((m:Int)<(s.2.length:Int))=True:=eq_true (by omega)
    have hem:=qK hms
    have hrm:=k3 _ (kQ hms)
    have hlm:=hsb m hm
    have hbe:kL true (rg s.2 m)=⟨(rg s.2 m).y,(rg s.2 m).f,1,((rg s.2 m).t:Int) - (rg s.2 m).f⟩:=rfl
    have hts:s.2.take (m+1)=s.2.take m++[rg s.2 m]:=by rw [List.take_succ_eq_append_getElem hms];unfold rg;rw [getD_lt hms]
    have hfs:SK s.2 (m+1)=jX (SK s.2 m) ⟨(rg s.2 m).y,(rg s.2 m).f⟩:=by
     unfold SK
     rw [hts,List.map_append,List.foldl_append];rfl
    have hbs:((s.2.take (m+1)).map (kL true)).map Bx.av=(((s.2.take m).map (kL true)).map Bx.av++[[.int .i64 (rg s.2 m).y,.int .i64 (rg s.2 m).f,.int .i64 1,.int .i64 ((rg s.2 m).t - (rg s.2 m).f:Nat)]]):=by
     rw [hts,List.map_append,List.map_cons,List.map_nil,hbe]
     simp only [List.map_append,List.map_cons,List.map_nil,Bx.av,Int.ofNat_sub (show (rg s.2 m).f≤(rg s.2 m).t by omega)]
    generalize hF:SK s.2 m=F at *
    obtain ⟨FX,FY⟩:=F
    unfold bF nJ
    rw [hF]
    (repeat' with_reducible first|intro _|refine rz ?_|refine ra ?_ ?_|omega|simp only [go_sem,f5,aN,hem,List.length_map,Pz])
    ·rename_i hx
     have e:=hfs.trans (Aq (p:=⟨((rg s.2 m).y:Int),((rg s.2 m).f:Int)⟩) (q:=⟨FX,FY⟩) (by dsimp only;omega))
     refine ⟨m+1,aS.aB rfl ?_ ?_,by omega,by omega⟩<;>simp only [go_sem,Int.natCast_succ,bF,nJ,hbs,e]
     all_goals trace_state
    ·rename_i hx
     have e:=hfs.trans (Ap (p:=⟨((rg s.2 m).y:Int),((rg s.2 m).f:Int)⟩) (q:=⟨FX,FY⟩) (by dsimp only;omega))
     refine ⟨m+1,aS.aB rfl ?_ ?_,by omega,by omega⟩<;>simp only [go_sem,Int.natCast_succ,bF,nJ,hbs,e]
     all_goals trace_state
   have em:m=s.2.length:=by omega
   have f5:((m:Int)<(s.2.length:Int))=False:=eq_false (by omega)
   have hbx:∀ b,b∈s.2.map (kL true)→LW b:=fun b hb=>by
    obtain ⟨r,hr,rfl⟩:=List.mem_map.1 hb
    have:=k3 r hr
    unfold LW kL
    simp
    omega
   have kH:=Bl (s.2.map (kL true)) (by rw [List.length_map];omega) hbx
   unfold bF nJ
   rw [em,List.take_length]
   rw [em] at f5
   generalize hHB:kT (s.2.map (kL true))=HB at *
   obtain ⟨HX,HY,HW,HH⟩:=HB
   (repeat' with_reducible first|intro _|refine rz ?_|refine ra ?_ ?_|omega|simp only [go_sem,f5,List.length_map])
   refine aP.lex [] [] (by kernel_rfl) (by kernel_rfl) ?_
   (repeat' with_reducible first|intro _|exact dn|refine rn ?_|refine ra ?_ ?_)
   refine QV.intro (.agg [.int .i64 HX,.int .i64 HY,.int .i64 HW,.int .i64 HH]) ?_ ?_
   ·(repeat' with_reducible first|intro _|exact dn|refine rn ?_|refine ra ?_ ?_)
    refine aj.k kH ?_
    (repeat' with_reducible first|intro _|refine rz ?_|refine ra ?_ ?_|omega|simp only [go_sem,Bx.av])
   have i4:(if (kT (s.2.map (kL true))).x=B.x∧(kT (s.2.map (kL true))).y=B.y∧(kT (s.2.map (kL true))).w=B.w∧(kT (s.2.map (kL true))).h=B.h then SK s.2 s.2.length else Ig B (FW l (l.length - (i+1)) (i+1) s.1))=⟨RX,RY⟩:=by
    rw [←k5] at i3
    exact i3
   rw [hHB] at i4
   dsimp only at i4
   (repeat' with_reducible first|intro _|exact dn|refine rn ?_|refine ra ?_ ?_)
   ·rename_i hx
    rw [if_pos hx] at i4
    rw [i4]
    refine eP.auto 0 ?_ rfl ?_<;>simp only [go_sem,Int.natCast_succ,Post]
    all_goals trace_state
   ·rename_i hx
    rw [if_neg hx] at i4
    refine ⟨(i+1,s.1),aS.aB rfl ?_ ?_,⟨by dsimp only;omega,k2.len,i4⟩,by dsimp only;omega⟩<;>simp only [go_sem,Int.natCast_succ,V6,nJ]
    all_goals trace_state
  have f3:((k:Int)<(s.2.length:Int))=True:=eq_true (by omega)
  rw [show l.length+1 - k=(l.length - k)+1 by omega] at k5
  have k5':G9 l (l.length - k) (k+1) (yF l (rg s.2 k) l.length 0 s)=G8 l i seen:=by
   rw [←k5]
   show _=if k<s.2.length then _ else _
   rw [if_pos hks]
  have hak:=k3 _ (kQ hks)
  generalize ha:rg s.2 k=a at *
  unfold kF nJ
  (repeat' with_reducible first|intro _|refine rz ?_|refine ra ?_ ?_|omega|simp only [go_sem,f3,List.length_map])
  refine aJ.intro (jF w h least p B l i k) (fun x=>x.1≤l.length∧Cm l.length x.2∧(∀ r,r∈x.2.2→r.f<r.t∧r.t≤100∧r.y≤100)∧k<x.2.2.length∧rg x.2.2 k=a∧x.2.2≠[]∧yF l a (l.length - x.1) x.1 x.2=yF l a l.length 0 s) (fun x=>l.length - x.1) (0,s) ?_ ⟨Nat.zero_le _,k2,k3,hks,ha,k4,rfl⟩ fun x hJ=>?_
  ·refine aS.aB rfl ?_ ?_<;>simp only [go_sem,Int.natCast_succ,jF,nJ]
   all_goals trace_state
  obtain ⟨j,q⟩:=x
  obtain ⟨j1,j2,j3,j4,j5,j6,j7⟩:=hJ
  dsimp only at j1 j2 j3 j4 j5 j6 j7 ⊢
  by_cases hjl:j<l.length
  case neg=>
   have f4:((j:Int)<(l.length:Int))=False:=eq_false (by omega)
   rw [show l.length - j=0 by omega] at j7
   have j7:q=yF l a l.length 0 s:=j7
   rw [←j7] at k5'
   unfold jF nJ
   (repeat' with_reducible first|intro _|refine rz ?_|refine ra ?_ ?_|omega|simp only [go_sem,f4])
   refine ⟨(k+1,q),aS.aB rfl ?_ ?_,⟨by dsimp only;omega,j2,j3,j6,by dsimp only;rw [show l.length+1 - (k+1)=l.length - k by omega];exact k5'⟩,by dsimp only;omega⟩<;>simp only [go_sem,Int.natCast_succ,kF,nJ]
   all_goals trace_state
  have f4:((j:Int)<(l.length:Int))=True:=eq_true (by omega)
  have hql:=j2.le
  have hqn:=j2.len
  rw [show l.length - j=(l.length - (j+1))+1 by omega] at j7
  have j7':yF l a (l.length - (j+1)) (j+1) (vW l a j q)=yF l a l.length 0 s:=j7
  have j2':=j2.vW (a:=a) hjl
  have hrj:=hmem _ (kQ hjl)
  have hegk:=qK j4
  rw [j5] at hegk
  have hegj:=qK hjl
  generalize hr:rg l j=r at *
  unfold jF nJ
  (repeat' with_reducible first|intro _|refine rz ?_|refine ra ?_ ?_|omega|simp only [go_sem,f4,aN,hegj,List.length_map])
  refine aP.lex [] [] (by kernel_rfl) (by kernel_rfl) ?_
  (repeat' with_reducible first|intro _|refine rz ?_|refine ra ?_ ?_|omega|simp only [go_sem,aN,hegk,List.length_map])
  refine aP.lex [] [] (by kernel_rfl) (by kernel_rfl) ?_
  have hin0:∀ b:Bool,q.1.getD j false=b→(b=true∨¬og a r)→vW l a j q=q:=fun b hb h=>by
   unfold vW
   rw [hr,if_neg]
   rintro ⟨h1,h2⟩
   rcases h with h|h
   ·rw [h] at hb;rw [hb] at h1;cases h1
   ·exact h h2
  have hin1:q.1.getD j false=false→og a r→vW l a j q=(q.1.set j true,q.2++[r]):=fun h1 h2=>by
   unfold vW
   rw [hr,if_pos ⟨h1,h2⟩]
  have hbd:(1:Int)≤1:=by omega
  cases hsj:q.1.getD j false with
  | true=>
   rw [hin0 true hsj (.inl rfl)] at j7'
   (repeat' with_reducible first|intro _|refine rz ?_|refine ra ?_ ?_|omega|simp only [go_sem,aN,hsj,hegk,hqn,List.length_map])
   refine ⟨(j+1,q),aS.aB rfl ?_ ?_,⟨by dsimp only;omega,j2,j3,j4,j5,j6,j7'⟩,by dsimp only;omega⟩<;>simp only [go_sem,Int.natCast_succ,jF,nJ]
   all_goals trace_state
  | false=>
   (repeat' with_reducible first|intro _|refine rz ?_|refine ra ?_ ?_|omega|simp only [go_sem,aN,hsj,hegk,hqn,List.length_map])
   ·rename_i hx
    have hadj:og a r:=by unfold og;omega
    have e:=hin1 hsj hadj
    rw [e] at j7' j2'
    refine ⟨(j+1,(q.1.set j true,q.2++[r])),aS.aB rfl ?_ ?_,⟨by dsimp only;omega,j2',fun c hc=>?_,by simp;omega,by dsimp only;rw [←j5];unfold rg;simp [List.getD_eq_getElem?_getD,List.getElem?_append_left j4],by simp,j7'⟩,by dsimp only;omega⟩
    ·simp only [go_sem,Int.natCast_succ,jF,nJ]
     all_goals trace_state
    ·simp only [go_sem,Int.natCast_succ,jF,nJ]
     all_goals simp [J8]
    ·rcases List.mem_append.1 hc with hc|hc
     ·exact j3 c hc
     ·rw [List.mem_singleton.1 hc];exact hrj
   ·rename_i hx
    have hadj:¬og a r:=by unfold og;omega
    rw [hin0 false hsj (.inr hadj)] at j7'
    refine ⟨(j+1,q),aS.aB rfl ?_ ?_,⟨by dsimp only;omega,j2,j3,j4,j5,j6,j7'⟩,by dsimp only;omega⟩<;>simp only [go_sem,Int.natCast_succ,jF,nJ]
    all_goals trace_state
 have f1:((y:Int)<(w:Int))=True:=eq_true (by omega)
 have hsu:=iF (isC p w) y h least
 rw [←oN (isC p w) hl h y] at hsu
 have hrl:=fM (isC p w) h least y
 have hb:y*h≤10000:=Nat.mul_le_mul (by omega:y≤100) hh
 generalize hR0:runs (isC p w) y h least=R0 at *
 have ej:(h:Int)+1=((h+1:Nat):Int):=by omega
 (repeat' with_reducible first|intro _|refine rz ?_|refine ra ?_ ?_|omega|simp only [go_sem,f1,nJ,ej])
 refine aJ.intro (fun x:Nat × Nat × List Rn=>Vg w h least p B (y,x.1,x.2.1,x.2.2)) (fun x=>x.1≤h+1∧x.2.1≤x.1∧x.2.2.length≤R0.length+x.1∧(x.1≤h→x.2.2++mV (isC p w y) least y (h - x.1) x.1 x.2.1=runs (isC p w) (y+1) h least)∧(x.1=h+1→x.2.2=runs (isC p w) (y+1) h least)) (fun x=>h+1 - x.1) (0,0,R0) ?_ ⟨Nat.zero_le _,Nat.le_refl _,by dsimp only;omega,fun _=>hsu.symm,fun e=>absurd e (by dsimp only;omega)⟩ fun x hI=>?_
 ·refine aS.aB rfl ?_ ?_<;>simp only [go_sem,Int.natCast_succ,Vg,nJ]
  all_goals trace_state
 obtain ⟨x,n,R⟩:=x
 obtain ⟨i1,i2,i3,i4,i5⟩:=hI
 dsimp only at i1 i2 i3 i4 i5 ⊢
 by_cases hx1:x<h+1
 case neg=>
  have e:x=h+1:=by omega
  have f2:((x:Int)<((h+1:Nat):Int))=False:=eq_false (by omega)
  rw [i5 e]
  unfold Vg nJ
  (repeat' with_reducible first|intro _|refine rz ?_|refine ra ?_ ?_|omega|simp only [go_sem,f2])
  refine ⟨y+1,aS.aB rfl ?_ ?_,by omega,by omega⟩<;>simp only [go_sem,Int.natCast_succ,nJ]
  all_goals trace_state
 have f2:((x:Int)<((h+1:Nat):Int))=True:=eq_true (by omega)
 have i4:=i4 (by omega)
 have hstop:∀ (m:Nat),(x<h→m=h - (x+1))→R++(pG least y (x - n) x n++(if x<h then mV (isC p w y) least y m (x+1) 0 else []))=runs (isC p w) (y+1) h least→x≤h →
   ((least≤n→(x<h→(R++[⟨y,x - n,x⟩])++mV (isC p w y) least y (h - (x+1)) (x+1) 0=runs (isC p w) (y+1) h least)∧(x=h→R++[⟨y,x - n,x⟩]=runs (isC p w) (y+1) h least)) ∧
    (¬least≤n→(x<h→R++mV (isC p w y) least y (h - (x+1)) (x+1) 0=runs (isC p w) (y+1) h least)∧(x=h→R=runs (isC p w) (y+1) h least))):=by
  intro m hm he hxw
  refine ⟨fun hln=>⟨fun hx=>?_,fun hx=>?_⟩,fun hln=>⟨fun hx=>?_,fun hx=>?_⟩⟩
  ·rw [if_pos hx,hm hx] at he
   unfold pG at he
   rw [if_pos hln] at he
   rw [←he,List.append_assoc]
  ·rw [if_neg (by omega)] at he
   unfold pG at he
   rw [if_pos hln,List.append_nil] at he
   exact he
  ·rw [if_pos hx,hm hx] at he
   unfold pG at he
   rw [if_neg hln,List.nil_append] at he
   exact he
  ·rw [if_neg (by omega)] at he
   unfold pG at he
   rw [if_neg hln,List.append_nil,List.append_nil] at he
   exact he
 have hxn:(x:Int) - (n:Int)=((x - n:Nat):Int):=by omega
 have htf:x - (x - n)=n:=by omega
 by_cases hxw:x<h
 ·have kA:=mJ w h (by omega) (by omega) p hp (y:Int) (x:Int)
  rw [qH p hlt hxw] at kA
  have hA:p.getD (x*w+y) false=isC p w y x:=rfl
  rw [hA] at kA
  have hsc:mV (isC p w y) least y (h - x) x n=if isC p w y x=true then mV (isC p w y) least y (h - (x+1)) (x+1) (n+1) else pG least y (x - n) x n++mV (isC p w y) least y (h - (x+1)) (x+1) 0:=by
   rw [show h - x=(h - (x+1))+1 by omega];rfl
  rw [hsc] at i4
  have f3:((x:Int)<(h:Int))=True:=eq_true (by omega)
  cases hink:isC p w y x with
  | true=>
   rw [hink] at kA i4
   rw [if_pos rfl] at i4
   unfold Vg nJ
   (repeat' with_reducible first|intro _|refine rz ?_|refine ra ?_ ?_|omega|simp only [go_sem,f2,f3])
   refine aj.k kA ?_
   (repeat' with_reducible first|intro _|exact dn|refine rn ?_|refine ra ?_ ?_)
   refine ⟨(x+1,n+1,R),aS.aB rfl ?_ ?_,⟨by dsimp only;omega,by dsimp only;omega,by dsimp only;omega,fun _=>i4,fun e=>absurd e (by dsimp only;omega)⟩,by dsimp only;omega⟩<;>simp only [go_sem,Int.natCast_succ,nJ]
   all_goals trace_state
  | false=>
   rw [hink] at kA i4
   rw [if_neg (by decide)] at i4
   obtain ⟨e1,e2⟩:=hstop (h - (x+1)) (fun _=>rfl) (by rw [if_pos hxw];exact i4) (by omega)
   by_cases hln:least≤n
   ·have f4:((least:Int)≤(n:Int))=True:=eq_true (by omega)
    have e1:=(e1 hln).1 hxw
    unfold Vg nJ
    (repeat' with_reducible first|intro _|refine rz ?_|refine ra ?_ ?_|omega|simp only [go_sem,f2,f3])
    refine aj.k kA ?_
    (repeat' with_reducible first|intro _|refine rz ?_|refine ra ?_ ?_|omega|simp only [go_sem,f4,hxn,List.length_map])
    refine ⟨(x+1,0,R++[⟨y,x - n,x⟩]),aS.aB rfl ?_ ?_,⟨by dsimp only;omega,by dsimp only;omega,by simp;omega,fun _=>e1,fun e=>absurd e (by dsimp only;omega)⟩,by dsimp only;omega⟩<;>simp only [go_sem,Int.natCast_succ,nJ]
    simp [J8,htf]
   ·have f4:((least:Int)≤(n:Int))=False:=eq_false (by omega)
    have e2:=(e2 hln).1 hxw
    unfold Vg nJ
    (repeat' with_reducible first|intro _|refine rz ?_|refine ra ?_ ?_|omega|simp only [go_sem,f2,f3])
    refine aj.k kA ?_
    (repeat' with_reducible first|intro _|refine rz ?_|refine ra ?_ ?_|omega|simp only [go_sem,f4])
    refine ⟨(x+1,0,R),aS.aB rfl ?_ ?_,⟨by dsimp only;omega,by dsimp only;omega,by dsimp only;omega,fun _=>e2,fun e=>absurd e (by dsimp only;omega)⟩,by dsimp only;omega⟩<;>simp only [go_sem,Int.natCast_succ,nJ]
    all_goals trace_state
 ·have exw:x=h:=by omega
  have f3:((x:Int)<(h:Int))=False:=eq_false (by omega)
  have hsc:mV (isC p w y) least y (h - x) x n=pG least y (x - n) x n:=by rw [show h - x=0 by omega];rfl
  rw [hsc] at i4
  obtain ⟨e1,e2⟩:=hstop 0 (fun h=>absurd h hxw) (by rw [if_neg hxw,List.append_nil];exact i4) (by omega)
  by_cases hln:least≤n
  ·have f4:((least:Int)≤(n:Int))=True:=eq_true (by omega)
   have e1:=(e1 hln).2 exw
   unfold Vg nJ
   (repeat' with_reducible first|intro _|refine rz ?_|refine ra ?_ ?_|omega|simp only [go_sem,f2,f3])
   (repeat' with_reducible first|intro _|refine rz ?_|refine ra ?_ ?_|omega|simp only [go_sem,f4,hxn,List.length_map])
   refine ⟨(x+1,0,R++[⟨y,x - n,x⟩]),aS.aB rfl ?_ ?_,⟨by dsimp only;omega,by dsimp only;omega,by simp;omega,fun e=>absurd e (by dsimp only;omega),fun _=>e1⟩,by dsimp only;omega⟩<;>simp only [go_sem,Int.natCast_succ,nJ]
   simp [J8,htf]
  ·have f4:((least:Int)≤(n:Int))=False:=eq_false (by omega)
   have e2:=(e2 hln).2 exw
   unfold Vg nJ
   (repeat' with_reducible first|intro _|refine rz ?_|refine ra ?_ ?_|omega|simp only [go_sem,f2,f3])
   (repeat' with_reducible first|intro _|refine rz ?_|refine ra ?_ ?_|omega|simp only [go_sem,f4])
   refine ⟨(x+1,0,R),aS.aB rfl ?_ ?_,⟨by dsimp only;omega,by dsimp only;omega,by dsimp only;omega,fun e=>absurd e (by dsimp only;omega),fun _=>e2⟩,by dsimp only;omega⟩<;>simp only [go_sem,Int.natCast_succ,nJ]
   all_goals trace_state
end Go.Fv.L
/- The reference's lines and the program's have the same boxes and the same first pixels. -/
namespace Go.Fv.L
open Go Go.Proofs
theorem sN {l:List Rn} {c:Nat→Nat} {i:Nat} (hi:i<l.length) (hc:c i=i):rg l i∈fQ c l l.length i:=mF.2 ⟨i,hi,hc,rfl⟩
theorem Ji {l:List Rn} {c:Nat→Nat} {G:List (Nat × List Rn)} {U:List (List Rn)} (d:Bool) (h:tq l c G U):G.map (fun g=>kT (g.2.map (kL d)))=U.map (iE d):=by
 induction h with
 | nil=>rfl
 | cons hi hc hu hm _ ih=>
  rw [List.map_cons,List.map_cons,ih]
  congr 1
  subst hu
  exact MW d (List.ne_nil_of_mem (sN hi hc)) hm
theorem RU {l:List Rn} {c:Nat→Nat} {G:List (Nat × List Rn)} {U:List (List Rn)} (h:tq l c G U):G.map (fun g=>SK g.2 g.2.length)=U.map (nX true):=by
 induction h with
 | nil=>rfl
 | @cons i g u G U hi hc hu hm _ ih=>
  rw [List.map_cons,List.map_cons,ih]
  congr 1
  subst hu
  have hg:rg l i∈g:=(hm _).2 (sN hi hc)
  have hpos:0<g.length:=List.length_pos_of_mem hg
  unfold SK
  dsimp only
  rw [List.take_length]
  exact U6 true (List.mem_map.2 ⟨_,kQ hpos,rfl⟩) hm
theorem UD {l:List Rn} {c:Nat→Nat} (hb:l.Pairwise Pv) (hpos:∀ r,r∈l→r.f<r.t) (hle:∀ x,x<l.length→c x≤x) {G:List (Nat × List Rn)} {U:List (List Rn)} (h:tq l c G U):G.map (WW l)=U.map (nX false):=by
 induction h with
 | nil=>rfl
 | @cons i g u G U hi hc hu hm _ ih=>
  rw [List.map_cons,List.map_cons,ih]
  congr 1
  subst hu
  have hin:=sN hi hc
  have e:=U6 (g:=fQ c l l.length i) (u:=fQ c l l.length i) false (List.mem_map.2 ⟨_,hin,rfl⟩) (fun r=>Iff.rfl)
  rw [←e]
  obtain ⟨h1,h2,h3⟩:=zu ((fQ c l l.length i).map (CU false)) (CU false (rg l i))
  show CU false (rg l i)=_
  refine Pt.eq_of h2 ?_
  have key:∀ p,p∈(fQ c l l.length i).map (CU false)→¬p.lt (CU false (rg l i)):=fun p hp=>by
   obtain ⟨r,hr,rfl⟩:=List.mem_map.1 hp
   obtain ⟨j,hj,hcj,rfl⟩:=mF.1 hr
   have hij:i≤j:=by rw [←hcj];exact hle j hj
   rcases Nat.lt_or_eq_of_le hij with hlt|rfl
   ·have hbd:Pv (rg l i) (rg l j):=by
     unfold rg
     rw [getD_lt hi,getD_lt hj]
     exact List.pairwise_iff_getElem.1 hb i j hi hj hlt
    unfold Pv at hbd
    have hfi:=hpos _ (kQ hi)
    unfold Pt.lt CU
    simp only [Bool.false_eq_true,if_false]
    omega
   ·exact Pt.lt_irrefl _
  rcases h1 with h1|h1
  ·rw [h1];exact Pt.lt_irrefl _
  ·exact key _ h1
end Go.Fv.L
/- firstOf of a line's box is the line's first pixel. -/
namespace Go.Fv.L
open Go Go.Proofs
theorem TP {l:List Rn} {c:Nat→Nat} (hb:l.Pairwise Pv) (hc:fG l.length (fZ l) c) (hpos:∀ k,k<l.length→(rg l k).f<(rg l k).t) {j:Nat} (hj:j<l.length) (hcj:c j=j) {G:List (Nat × List Rn)} {U:List (List Rn)} (h:tq l c G U) (hu:fQ c l l.length j∈U):Ig (iE true (fQ c l l.length j)) G=nX true (fQ c l l.length j):=by
 induction h with
 | nil=>cases hu
 | @cons i g u G U hi hci hu0 hm hs ih=>
  subst hu0
  have e1:=MW true (List.ne_nil_of_mem (sN hi hci)) hm
  unfold Ig
  dsimp only
  rw [e1]
  by_cases hij:i=j
  ·subst hij
   rw [if_pos ⟨rfl,rfl,rfl,rfl⟩]
   exact List.cons.inj (RU (tq.cons hi hci rfl hm hs)) |>.1
  ·have hne:=Kz hb hc hpos hi hci hj hcj hij
   rw [if_neg]
   ·refine ih ?_
    rcases List.mem_cons.1 hu with e|hu
    ·exact absurd (by rw [e]) hne
    ·exact hu
   ·rintro ⟨k1,k2,k3,k4⟩
    apply hne
    generalize iE true (fQ c l l.length i)=A at *
    generalize iE true (fQ c l l.length j)=B at *
    cases A;cases B
    dsimp only at k1 k2 k3 k4
    subst k1 k2 k3 k4
    rfl
end Go.Fv.L
/- The reference's across: rows and columns exchanged. -/
namespace Go.Fv.L
open Go Go.Proofs
def PU (p:List Bool) (w:Nat) (x y:Nat):Bool:=p.getD (x*w+y) false
def Jw (p:List Bool) (w h:Nat):List Bool:=rowsOf h (PU p w) (w*h)
theorem NV (p:List Bool) (w h:Nat):(Jw p w h).length=w*h:=uS _ _ _
theorem NU (p:List Bool) {w h x y:Nat} (hx:x<h) (hy:y<w):(Jw p w h).getD (y*h+x) false=p.getD (x*w+y) false:=by
 have hlt:y*h+x<w*h:=by
  have h1:(y+1)*h≤w*h:=Nat.mul_le_mul_right h hy
  rw [Nat.succ_mul] at h1
  omega
 have e1:(y*h+x)%h=x:=by rw [Nat.mul_comm,Nat.mul_add_mod,Nat.mod_eq_of_lt hx]
 have e2:(y*h+x) / h=y:=by rw [Nat.mul_comm,Nat.mul_add_div (by omega),Nat.div_eq_of_lt hx,Nat.add_zero]
 unfold Jw rowsOf
 rw [List.getD_eq_getElem?_getD,List.getElem?_map,List.getElem?_range hlt,Option.map_some,Option.getD_some,e1,e2]
 rfl
theorem VQ (p:List Bool) {w h y x:Nat} (hy:y<w) (hx:x<h):nV (Jw p w h) h y x=isC p w y x:=NU p hx hy
theorem Tj (w h:Nat) (hw:w≤4000) (hh:h≤4000) (p:List Bool) (hp:p.length=w*h) (x y:Nat) (hx:x<h) (hy:y<w) :
  aU Tryd.prog 52 ([.int .i64 x,.int .i64 y]++[.cell [.int .i64 w,.int .i64 h,.ro (.bools p)]]) (.bool (PU p w x y)) []:=by
 have kA:=mJ w h hw hh p hp (y:Int) (x:Int)
 rw [qH p hy hx] at kA
 have e:p.getD (x*w+y) false=PU p w x y:=rfl
 rw [e] at kA
 refine aU.aY Tryd.func52 rfl (by decide) (by simp [Tryd.f52]) [.tmp 5] rfl fun w0 T0 _=>?_
 simp only [Tryd.f52,aK,List.cons_append,List.nil_append]
 (repeat' with_reducible first|intro _|exact dn|refine rn ?_|refine ra ?_ ?_)
 refine aj.k kA ?_
 (repeat' with_reducible first|intro _|exact dn|refine rn ?_|refine ra ?_ ?_)
 refine eP.auto 0 ?_ rfl ?_<;>simp only [go_sem,Int.natCast_succ,Post]
theorem DI (w h:Nat) (hw:w≤4000) (hh:h≤4000) (p:List Bool) (hp:p.length=w*h) :
  aU Tryd.prog 31 [.agg [.int .i64 w,.int .i64 h,.ro (.bools p)]] (.agg [.int .i64 h,.int .i64 w,.own 0]) [(0,.row 4 (.bools (Jw p w h)))]:=by
 haveI c1:qC [.cell [.int .i64 w,.int .i64 h,.ro (.bools p)]]:=⟨rfl⟩
 have k1:=Np h w hh hw 52 [.cell [.int .i64 w,.int .i64 h,.ro (.bools p)]] (PU p w)
  (fun x y hx hy=>dW.dP (Tj w h hw hh p hp x y hx hy) rfl rfl)
 have e:rowsOf h (PU p w) (w*h)=Jw p w h:=rfl
 rw [e] at k1
 generalize Jw p w h=out at *
 refine aU.aY Tryd.func31 rfl (by decide) (by simp [Tryd.f31]) [.cell 2 24] rfl fun w0 T0 _=>?_
 simp only [Tryd.f31,aK]
 (repeat' with_reducible first|intro _|exact dn|refine rn ?_|refine ra ?_ ?_)
 refine aj.o k1 1 ?_
 (repeat' with_reducible first|intro _|exact dn|refine rn ?_|refine ra ?_ ?_)
 refine eP.auto 1 ?_ rfl ?_<;>simp only [go_sem,Int.natCast_succ,Post]
end Go.Fv.L
/- Runs go by what is ink within the page. -/
namespace Go.Fv.L
open Go Go.Proofs
theorem xY {is is':Nat→Bool} (least y:Nat):∀ (m x n:Nat),(∀ k,x≤k→k<x+m→is k=is' k)→mV is least y m x n=mV is' least y m x n
 | 0,x,n,_=>rfl
 | m+1,x,n,h=>by
  unfold mV
  rw [h x (Nat.le_refl _) (by omega),xY least y m (x+1) (n+1) (fun k h1 h2=>h k (by omega) (by omega)),xY least y m (x+1) 0 (fun k h1 h2=>h k (by omega) (by omega))]
theorem Bv {is is':Nat→Nat→Bool} {least:Nat} (hl:1≤least) (long:Nat):∀ n,(∀ y x,y<n→x<long→is y x=is' y x)→runs is n long least=runs is' n long least
 | 0,_=>rfl
 | n+1,h=>by
  rw [iF,iF,Bv hl long n (fun y x hy hx=>h y x (by omega) hx),←oN is hl,←oN is' hl,xY least n long 0 0 (fun k _ hk=>h n k (by omega) (by omega))]
theorem OY (w h:Nat) (p:List Bool) {least:Nat} (hl:1≤least):uN h w (Jw p w h) least=yB w h p least:=by
 have e:runs (nV (Jw p w h) h) w h least=runs (isC p w) w h least:=Bv hl h w fun y x hy hx=>VQ p hy hx
 unfold uN yB
 rw [e]
end Go.Fv.L
/- The closure root: what it does to the parents. -/
namespace Go.Fv.L
open Go Go.Proofs
def tZ (l:List Int):List (Nat × Item):=[(0,.box 86 [.own 1]),(1,.row 3 (.ints .i64 l)),(2,.box 87 [.fn 45 [.ptr 0 0,.ptr 2 0]])]
theorem Ah {a b c:Item}:∀ j,j<3→∃ it,lk [(0,a),(1,b),(2,c)] j=some it:=fun j hj=>by
 rcases (by omega:j=0∨j=1∨j=2) with rfl|rfl|rfl<;>exact ⟨_,rfl⟩
def Oa (l:List Int) (i r:Nat) (l':List Int):Prop:=dD Tryd.prog 45 [.int .i64 i,.ptr 0 0,.ptr 2 0] (tZ l) 3 (.int .i64 r) (tZ l')
set_option maxHeartbeats 4000000 in
theorem F5 (c:Nat→Nat):∀ (i:Nat) (l:List Int),UF l c→i<l.length→∃ l':List Int,UF l' c∧l'.length=l.length∧Oa l i (c i) l':=by
 intro i
 induction i using Nat.strongRecOn with
 | ind i ih=>
  intro l hu hi
  obtain ⟨p,p1,p2,p3,p4⟩:=hu.par i hi
  by_cases hpi:p=i
  ·refine ⟨l,hu,rfl,?_⟩
   rw [p4.1 hpi]
   subst hpi
   unfold Oa
   refine dD.aY Tryd.func45 rfl (by decide) (by simp [Tryd.f45]) Ah [.tmp 4] rfl fun w0 T0 _=>?_
   simp only [Tryd.f45,aK,tZ]
   (repeat' with_reducible first|intro _|refine rz ?_|refine ra ?_ ?_|omega|simp only [go_sem,p1])
   refine dN.auto 3 (Nat.le_refl 3) ?_ rfl ?_<;>simp only [go_sem,Int.natCast_succ,aI,tZ]
   all_goals trace_state
  ·have hn:c i≠i:=fun e=>hpi (p4.2 e)
   obtain ⟨l1,u1,n1,k1⟩:=ih p (by omega) l hu (by omega)
   rw [p3] at k1
   refine ⟨l1.set i (c i:Nat),u1.near (by omega) hn,by rw [List.length_set];exact n1,?_⟩
   have f1:((p:Int)=(i:Int))=False:=eq_false (by omega)
   have hg:=xH (l:=l1) (i:=i) (j:=i) (v:=((c i:Nat):Int)) (by omega)
   rw [if_pos rfl] at hg
   have hl1:i<l1.length:=by omega
   have hset:(l1.set i ((c i:Nat):Int)).length=l1.length:=List.length_set
   unfold Oa tZ at k1
   unfold Oa
   refine dD.aY Tryd.func45 rfl (by decide) (by simp [Tryd.f45]) Ah [.tmp 4] rfl fun w0 T0 _=>?_
   simp only [Tryd.f45,aK,tZ]
   generalize c i=r at *
   (repeat' with_reducible first|intro _|refine rz ?_|refine ra ?_ ?_|omega|simp only [go_sem,p1,f1])
   refine aP.lex [7,9] [(0,[1]),(1,[1])] (by kernel_rfl) (by kernel_rfl) ?_
   (repeat' with_reducible first|intro _|refine rz ?_|refine ra ?_ ?_|omega|simp only [go_sem,p1])
   refine QE.intro _ _ _ (by
    (repeat' with_reducible first|intro _|refine rz ?_|refine ra ?_ ?_|omega|simp only [go_sem,p1])
    refine aj.i [0,1,2] k1 3 ?_ (hcov:=Ah)
    exact ⟨rfl,rfl,rfl⟩) ?_
   (repeat' with_reducible first|intro _|refine rz ?_|refine ra ?_ ?_|omega|simp only [go_sem,hg,hset])
   refine dN.of [] 3 (fun x hx=>by cases hx) (by decide) ?_ rfl ?_<;>simp only [go_sem,Int.natCast_succ,tZ,bV]
   all_goals trace_state
end Go.Fv.L
