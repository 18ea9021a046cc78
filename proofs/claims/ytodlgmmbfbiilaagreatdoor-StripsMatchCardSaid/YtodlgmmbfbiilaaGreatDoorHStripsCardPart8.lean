/-
  A part of the proof of the claim: walks over the program's functions and the plain laws that these need. No condition of its own.
-/
import Derived.Test.YtodlgmmbfbiilaaGreatDoorHStripsCardPart7
import Derived.Test.YtodlgmmbfbiilaaGreatDoorFvPart10
import Derived.Test.YtodlgmmbfbiilaaGreatDoorHStripsCardPart6
import Derived.Test.YtodlgmmbfbiilaaGreatDoorHStripsCardPart4
import Derived.Test.YtodlgmmbfbiilaaGreatDoorHStripsCardPart5
set_option linter.unusedSimpArgs false
set_option linter.unusedVariables false
set_option linter.unnecessarySimpa false
set_option maxRecDepth 8000
/- strings.Trim at any set of small letters; IsName. -/
namespace Go.Fv.H
open Go Go.Proofs
def iw (p:UInt8→Bool) (s:List UInt8):List UInt8:=(s.reverse.dropWhile p).reverse
def oM (cut:List UInt8) (c:UInt8):Bool:=decide (c∈cut)
theorem Ag (s:List UInt8) (c:UInt8):∀ i,i≤s.length→(gy s i).getD c.toNat false=decide (c∈s.take i)
 | 0,_=>by
  have h:c.toNat<256:=c.toNat_lt
  rw [List.take_zero]
  show (List.replicate 256 false).getD c.toNat false=_
  rw [List.getD_eq_getElem?_getD,List.getElem?_replicate,if_pos h]
  simp
 | i+1,h=>by
  have ih:=Ag s c i (by omega)
  have hlen:=oz s i
  have hlt:i<s.length:=by omega
  have hc:=c.toNat_lt
  have htk:=List.take_succ_eq_append_getElem hlt
  rw [htk]
  simp only [gy,List.getD_eq_getElem?_getD] at ih ⊢
  rw [List.getElem?_set]
  have e:s[i]?.getD 0=s[i]:=by simp [hlt]
  rw [e]
  by_cases hq:s[i].toNat=c.toNat
  ·have hq2:s[i]=c:=UInt8.toNat_inj.1 hq
   rw [if_pos hq,if_pos (by rw [hlen];omega)]
   simp [hq2]
  ·rw [if_neg hq,ih]
   have hq2:¬c=s[i]:=fun h=>hq (by rw [h])
   rw [Bool.eq_iff_iff,decide_eq_true_eq,decide_eq_true_eq,List.mem_append,List.mem_singleton]
   exact ⟨.inl,fun h=>h.elim id fun h=>absurd h hq2⟩
theorem BN {s:List UInt8} (h0:0<s.length):s=s.take (s.length - 1)++[s.getD (s.length - 1) 0]:=by
 rw [getD_lt (by omega),List.take_append_getElem (by omega),List.take_of_length_le (by omega)]
theorem zT (p:UInt8→Bool) (t:List UInt8) (c:UInt8):iw p (t++[c])=if p c=true then iw p t else t++[c]:=by
 unfold iw
 rw [List.reverse_append,List.reverse_singleton,List.singleton_append,List.dropWhile_cons]
 split<;>simp_all
theorem RQ {p:UInt8→Bool} {s:List UInt8} (h0:0<s.length) (h:p (s.getD (s.length - 1) 0)=true):iw p (s.take (s.length - 1))=iw p s:=by
 conv=>rhs;rw [BN h0,zT,if_pos h]
theorem Lc {p:UInt8→Bool} {s:List UInt8} (h:0<s.length→p (s.getD (s.length - 1) 0)=false):iw p s=s:=by
 by_cases h0:0<s.length
 ·conv=>lhs;rw [BN h0,zT,if_neg (by rw [h h0];decide)]
  exact (BN h0).symm
 ·have:s=[]:=List.eq_nil_of_length_eq_zero (by omega)
  subst this;rfl
theorem Us {p:UInt8→Bool} {s:List UInt8} (h0:0<s.length) (h:p (s.getD 0 0)=true):(s.drop 1).dropWhile p=s.dropWhile p:=by
 cases s with
 | nil=>simp at h0
 | cons c t=>
  have h':p c=true:=h
  rw [List.dropWhile_cons,if_pos h'];rfl
theorem OM {p:UInt8→Bool} {s:List UInt8} (h:0<s.length→p (s.getD 0 0)=false):s.dropWhile p=s:=by
 cases s with
 | nil=>rfl
 | cons c t=>rw [List.dropWhile_cons,if_neg (by have:=h (by simp);rw [show (c::t).getD 0 0=c from rfl] at this;rw [this];decide)]
theorem uD {p:UInt8→Bool}:∀ {s:List UInt8},s.dropWhile p=[]↔s.all p=true
 | []=>by simp
 | c::t=>by
  rw [List.dropWhile_cons,List.all_cons]
  cases h:p c with
  | true=>simpa using uD
  | false=>simp
theorem JQ (p:UInt8→Bool) (s:List UInt8):(iw p s).dropWhile p=[]↔s.all p=true:=by
 rw [uD]
 unfold iw
 rw [List.all_reverse,←uD]
 have hd:(s.reverse.dropWhile p).dropWhile p=s.reverse.dropWhile p:=by
  generalize s.reverse=t
  induction t with
  | nil=>rfl
  | cons c t ih=>
   rw [List.dropWhile_cons]
   cases h:p c with
   | true=>simpa using ih
   | false=>simp [List.dropWhile_cons,h]
 rw [hd,uD,List.all_reverse]
theorem xB (tab:List Bool) (hl:tab.length=256) (c:UInt8):aA Tryz.prog 170 [.cell (tab.map .bool),.int .u8 c.toNat] (.bool (tab.getD c.toNat false)) []:=by
 have h:=Jz tab c.toNat hl (by omega) (by have:=c.toNat_lt;omega)
 rwa [Int.toNat_natCast] at h
set_option maxHeartbeats 1000000 in
theorem Hu (tab:List Bool) (hl:tab.length=256) (p:UInt8→Bool) (hp:∀ c:UInt8,tab.getD c.toNat false=p c) (s:List UInt8) :
  aA Tryz.prog 131 [.str s,.cell (tab.map .bool)] (.str (s.dropWhile p)) []:=by
 refine aA.aG Tryz.func131 rfl (by decide) (by simp [Tryz.f131]) [.tmp 4] rfl fun w0 T0 _=>?_
 simp only [Tryz.f131,au]
 (repeat' with_reducible first|intro _|exact dn|refine rn ?_|refine ra ?_ ?_)
 refine aI.intro (fun t:List UInt8=>⟨16,[(0,.str t),(1,.cell (tab.map .bool))],[],0⟩) (fun t=>t.dropWhile p=s.dropWhile p) (fun t=>t.length) s ?_ rfl fun t he=>?_
 ·refine aO.ak rfl ?_ ?_<;>simp only [go_sem,Int.natCast_succ]
 (repeat' with_reducible first|intro _|exact dn|refine rn ?_|refine ra ?_ ?_)
 ·have k:=xB tab hl (t.getD 0 0)
  rw [hp] at k
  refine ah.fr (args':=[.cell (tab.map .bool),.int .u8 (t.getD 0 0).toNat]) (dh.eG k rfl rfl) (by simp [aP,aU,aF]) 0 rfl (by simp [iL]) ?_
  cases hq:p (t.getD 0 0) with
  | true=>
   (repeat' with_reducible first|intro _|exact dn|refine rn ?_|refine ra ?_ ?_)
   refine ⟨t.drop 1,aO.ak rfl ?_ ?_,?_,?_⟩
   ·simp only [go_sem,Int.natCast_succ]
    all_goals first|rfl|exact List.take_of_length_le (by simp)
   ·simp only [go_sem,Int.natCast_succ]
   ·rw [Us (by omega) hq];exact he
   ·simp;omega
  | false=>
   have e:t=s.dropWhile p:=by rw [←he,OM (fun _=>hq)]
   (repeat' with_reducible first|intro _|exact dn|refine rn ?_|refine ra ?_ ?_)
   refine aV.auto 0 ?_ rfl ?_<;>simp only [go_sem,Int.natCast_succ,Post,e]
 ·have e:t=s.dropWhile p:=by rw [←he,OM (fun h=>by omega)]
  refine aV.auto 0 ?_ rfl ?_<;>simp only [go_sem,Int.natCast_succ,Post,e]
set_option maxHeartbeats 1000000 in
theorem ET (tab:List Bool) (hl:tab.length=256) (p:UInt8→Bool) (hp:∀ c:UInt8,tab.getD c.toNat false=p c) (s:List UInt8) :
  aA Tryz.prog 132 [.str s,.cell (tab.map .bool)] (.str (iw p s)) []:=by
 refine aA.aG Tryz.func132 rfl (by decide) (by simp [Tryz.f132]) [.tmp 4] rfl fun w0 T0 _=>?_
 simp only [Tryz.f132,au]
 (repeat' with_reducible first|intro _|exact dn|refine rn ?_|refine ra ?_ ?_)
 refine aI.intro (fun t:List UInt8=>⟨22,[(0,.str t),(1,.cell (tab.map .bool))],[],0⟩) (fun t=>iw p t=iw p s) (fun t=>t.length) s ?_ rfl fun t he=>?_
 ·refine aO.ak rfl ?_ ?_<;>simp only [go_sem,Int.natCast_succ]
 have et:((t.length:Int) - 1).toNat=t.length - 1:=by omega
 (repeat' with_reducible first|intro _|refine rz ?_|refine ra ?_ ?_|omega|simp only [go_sem,et])
 ·have k:=xB tab hl (t.getD (t.length - 1) 0)
  rw [hp] at k
  refine ah.fr (args':=[.cell (tab.map .bool),.int .u8 (t.getD (t.length - 1) 0).toNat]) (dh.eG k rfl rfl) (by simp [aP,aU,aF]) 0 rfl (by simp [iL]) ?_
  cases hq:p (t.getD (t.length - 1) 0) with
  | true=>
   (repeat' with_reducible first|intro _|refine rz ?_|refine ra ?_ ?_|omega|simp only [go_sem,et])
   refine ⟨t.take (t.length - 1),aO.ak rfl ?_ ?_,?_,?_⟩
   ·simp only [go_sem,Int.natCast_succ,et]
    all_goals rfl
   ·simp only [go_sem,Int.natCast_succ]
   ·rw [RQ (by omega) hq];exact he
   ·simp;omega
  | false=>
   have e:t=iw p s:=by rw [←he,Lc (fun _=>hq)]
   (repeat' with_reducible first|intro _|exact dn|refine rn ?_|refine ra ?_ ?_)
   refine aV.auto 0 ?_ rfl ?_<;>simp only [go_sem,Int.natCast_succ,Post,e]
 ·have e:t=iw p s:=by rw [←he,Lc (fun h=>by omega)]
  refine aV.auto 0 ?_ rfl ?_<;>simp only [go_sem,Int.natCast_succ,Post,e]
set_option maxHeartbeats 1000000 in
theorem JD (s cut:List UInt8) (hc:∀ i,i<cut.length→(cut.getD i 0).toNat<128) (h2:2≤cut.length) :
  aA Tryz.prog 95 [.str s,.str cut] (.str ((iw (oM cut) s).dropWhile (oM cut))) []:=by
 have hlen:=oz cut cut.length
 have km:=IJ cut hc
 have hg:∀ c:UInt8,(gy cut cut.length).getD c.toNat false=oM cut c:=fun c=>by
  rw [Ag cut c _ (Nat.le_refl _),List.take_length];rfl
 have hne:¬cut=[]:=fun e=>by subst e;simp at h2
 refine aA.aG Tryz.func95 rfl (by decide) (by simp [Tryz.f95]) [.tmp 4] rfl fun w0 T0 _=>?_
 simp only [Tryz.f95,au]
 by_cases h0:s=[]
 ·have e:(iw (oM cut) []).dropWhile (oM cut)=[]:=rfl
  (repeat' with_reducible first|intro _|refine rz ?_|refine ra ?_ ?_|omega|simp only [go_sem,h0])
  refine aV.auto 0 ?_ rfl ?_<;>simp only [go_sem,Int.natCast_succ,Post,e]
 generalize oM cut=p at *
 (repeat' with_reducible first|intro _|refine rz ?_|refine ra ?_ ?_|omega|simp only [go_sem,h0,hne])
 refine ah.fr (args':=[.str cut]) (dh.eG km (by simp [lQ,iP,zM]) rfl) (by simp [aP,aU,aF]) 0 (by simp [Fv.below,aY,ql]) (by simp [iL]) ?_
 generalize gy cut cut.length=tab at hlen hg ⊢
 simp only [go_sem]
 have e1:spl (List.replicate 256 (AV.bool false)) 0 (tab.map .bool)=tab.map .bool:=O8 (by simp [hlen])
 refine bn.intro (by simp [hlen]) ?_
 rw [e1]
 refine bn.intro (by omega) ?_
 refine ah.fr (args':=[.str s,.cell (tab.map .bool)]) (dh.eG (ET tab hlen p hg s) rfl rfl) ?_ 0 rfl (by simp [iL]) ?_
 ·exact ⟨_,_,rfl,⟨_,_,⟨_,_,_,rfl,rU _ 4 _,rfl⟩,rfl,rfl⟩,rfl⟩
 simp only [go_sem]
 refine ah.fr (args':=[.str (iw p s),.cell (tab.map .bool)]) (dh.eG (Hu tab hlen p hg (iw p s)) rfl rfl) ?_ 0 rfl (by simp [iL]) ?_
 ·exact ⟨_,_,rfl,⟨_,_,⟨_,_,_,rfl,rU _ 4 _,rfl⟩,rfl,rfl⟩,rfl⟩
 simp only [go_sem]
 refine aV.auto 0 ?_ rfl ?_<;>simp only [go_sem,Int.natCast_succ,Post]
def nameB (c:UInt8):Bool:=decide (97≤c.toNat) && decide (c.toNat≤122) || decide (48≤c.toNat) && decide (c.toNat≤57) || decide (c.toNat=45)
def MG (s:List UInt8):Bool:=decide (s≠[]) && decide (s.length≤40) && (decide (97≤(s.getD 0 0).toNat) && decide ((s.getD 0 0).toNat≤122)) && s.all nameB
set_option maxRecDepth 20000 in
theorem TK:∀ n:Nat,n<256→oM cutset (UInt8.ofNat n)=nameB (UInt8.ofNat n):=by decide
theorem MB:oM cutset=nameB:=funext fun c=>by
 have h:=TK c.toNat c.toNat_lt
 simpa using h
set_option maxHeartbeats 1000000 in
theorem Qy (s:List UInt8):aA Tryz.prog 51 [.str s] (.bool (MG s)) []:=by
 have k:=JD s cutset cut_small (by decide)
 rw [MB] at k
 have ht:=JQ nameB s
 have hcut:cutset=[97,98,99,100,101,102,103,104,105,106,107,108,109,110,111,112,113,114,115,116,117,118,119,120,121,122,48,49,50,51,52,53,54,55,56,57,45]:=rfl
 unfold MG
 generalize iw nameB s=t at *
 generalize t.dropWhile nameB=t at *
 generalize s.all nameB=a at *
 refine aA.aG Tryz.func51 rfl (by decide) (by simp [Tryz.f51]) [.tmp 2] rfl fun w0 T0 _=>?_
 simp only [Tryz.f51,au]
 by_cases h0:s=[]
 ·(repeat' with_reducible first|intro _|refine rz ?_|refine ra ?_ ?_|omega|simp only [go_sem,h0])
  refine aV.auto 0 ?_ rfl ?_<;>simp only [go_sem,Int.natCast_succ,Post]
  all_goals simp
 ·have hlp:0<s.length:=List.length_pos_iff.2 h0
  (repeat' with_reducible first|intro _|refine rz ?_|refine ra ?_ ?_|omega|simp only [go_sem,h0])
  all_goals first
   |(refine ah.fr (args':=[.str s,.str cutset]) (dh.eG k rfl rfl) (by simp [aP,aU,aF,cutset]) 0 rfl (by simp [iL]) ?_
     (repeat' with_reducible first|intro _|exact dn|refine rn ?_|refine ra ?_ ?_)
     refine aV.auto 0 ?_ rfl ?_<;>simp only [go_sem,Int.natCast_succ,Post])
   |(refine aV.auto 0 ?_ rfl ?_<;>simp only [go_sem,Int.natCast_succ,Post])
  all_goals
   rw [Bool.eq_iff_iff]
   simp only [Bool.and_eq_true,decide_eq_true_eq,ht,Bool.false_eq_true,false_iff]
   first
    | exact ⟨fun ha=>⟨⟨⟨h0,by omega⟩,by omega,by omega⟩,ha⟩,fun h=>h.2⟩
    |(intro h;omega)
end Go.Fv.H
/- Reading a number: the walk of ReadGamma. -/
namespace Go.Fv.H
open Go Go.Proofs
theorem U8:oM [48,49]=fK:=funext fun c=>by
 unfold oM fK
 simp
theorem WI (l:Bytes):((iw (oM [48,49]) l).dropWhile (oM [48,49])=[])↔l.all fK=true:=by rw [U8];exact JQ fK l
set_option maxHeartbeats 4000000 in
theorem KO (s:Bytes) (hs:s.length≤300000000000000):aA Tryz.prog 105 [.str s] (.tup [.int .i64 (Aq s),.int .i64 (Az s),.int .i64 (Et 8 s)]) []:=by
 have hle:=IB s
 have hat:=Ho s
 have hst:=yJ s
 refine aA.aG Tryz.func105 rfl (by decide) (by simp [Tryz.f105]) [.tmp 2,.tmp 3,.tmp 4] rfl fun w0 T0 _=>?_
 simp only [Tryz.f105,au]
 (repeat' with_reducible first|intro _|exact dn|refine rn ?_|refine ra ?_ ?_)
 refine aI.intro (fun z:Nat=>⟨62,[(5,.int .i64 z),(0,.str s)],[],0⟩) (fun z=>z≤aH s) (fun z=>s.length - z) 0 ?_ (Nat.zero_le _) fun z hz=>?_
 ·refine aO.ak rfl ?_ ?_<;>simp only [go_sem,Int.natCast_succ]
 by_cases hlt:z<aH s
 ·have e:=hat z hlt
  have f1:((z:Int)<(s.length:Int))=True:=eq_true (by omega)
  have f2:(((s.getD z 0).toNat:Int)=48)=True:=eq_true (by rw [e];rfl)
  (repeat' with_reducible first|intro _|refine rz ?_|refine ra ?_ ?_|omega|simp only [go_sem,f1,f2])
  refine ⟨z+1,aO.ak rfl ?_ ?_,by omega,by omega⟩<;>simp only [go_sem,Int.natCast_succ]
 have hz:z=aH s:=by omega
 subst hz
 have hno:∀ h:oq s=none,Aq s=0∧Az s=0∧Et 8 s=8:=fun h=>by unfold Aq Az Et;rw [h];exact ⟨rfl,rfl,rfl⟩
 have fin:aH s<s.length→(((s.getD (aH s) 0).toNat:Int)=48)=False:=fun c0=>eq_false fun h=>hst c0 (UInt8.toNat_inj.1 (by show _=48;omega))
 by_cases c1:20<aH s
 ·obtain ⟨r1,r2,r3⟩:=hno (nP fun h=>by omega)
  have f3:(20<(aH s:Int))=True:=eq_true (by omega)
  by_cases c0:aH s<s.length
  ·have f1:((aH s:Int)<(s.length:Int))=True:=eq_true (by omega)
   have f2:=fin c0
   (repeat' with_reducible first|intro _|refine rz ?_|refine ra ?_ ?_|omega|simp only [go_sem,f1,f2,f3])
   refine aV.auto 0 ?_ rfl ?_<;>simp only [go_sem,Int.natCast_succ,Post,r1,r2,r3]
  ·have f1:((aH s:Int)<(s.length:Int))=False:=eq_false (by omega)
   (repeat' with_reducible first|intro _|refine rz ?_|refine ra ?_ ?_|omega|simp only [go_sem,f1,f3])
   refine aV.auto 0 ?_ rfl ?_<;>simp only [go_sem,Int.natCast_succ,Post,r1,r2,r3]
 have f3:(20<(aH s:Int))=False:=eq_false (by omega)
 by_cases c2:s.length<2*aH s+1
 ·obtain ⟨r1,r2,r3⟩:=hno (nP fun h=>by omega)
  have f4:((s.length:Int)<2*(aH s:Int)+1)=True:=eq_true (by omega)
  by_cases c0:aH s<s.length
  ·have f1:((aH s:Int)<(s.length:Int))=True:=eq_true (by omega)
   have f2:=fin c0
   (repeat' with_reducible first|intro _|refine rz ?_|refine ra ?_ ?_|omega|simp only [go_sem,f1,f2,f3,f4])
   refine aV.auto 0 ?_ rfl ?_<;>simp only [go_sem,Int.natCast_succ,Post,r1,r2,r3]
  ·have f1:((aH s:Int)<(s.length:Int))=False:=eq_false (by omega)
   (repeat' with_reducible first|intro _|refine rz ?_|refine ra ?_ ?_|omega|simp only [go_sem,f1,f3,f4])
   refine aV.auto 0 ?_ rfl ?_<;>simp only [go_sem,Int.natCast_succ,Post,r1,r2,r3]
 have f4:((s.length:Int)<2*(aH s:Int)+1)=False:=eq_false (by omega)
 have c0:aH s<s.length:=by omega
 have f1:((aH s:Int)<(s.length:Int))=True:=eq_true (by omega)
 have f2:=fin c0
 obtain ⟨m1,m2⟩:=JA (s:=s) (by omega)
 have hcut:(2*(aH s:Int)+1).toNat - aH s=aH s+1:=by omega
 by_cases c3:s.getD (aH s) 0=49
 rotate_left
 ·obtain ⟨r1,r2,r3⟩:=hno (nP fun h=>by
   have:=zA (l:=(s.drop (aH s)).take (aH s+1)) (p:=0) (by omega) h.2.2.1
   rw [m2] at this
   exact this.elim (hst c0) c3)
  have f5:(((s.getD (aH s) 0).toNat:Int)=49)=False:=eq_false fun h=>c3 (UInt8.toNat_inj.1 (by show _=49;omega))
  (repeat' with_reducible first|intro _|refine rz ?_|refine ra ?_ ?_|omega|simp only [go_sem,f1,f2,f3,f4,f5,Bool.false_or,Bool.or_false])
  ·rename_i h;simp at h
  ·refine aV.auto 0 ?_ rfl ?_<;>simp only [go_sem,Int.natCast_succ,Post,r1,r2,r3]
 have f5:(((s.getD (aH s) 0).toNat:Int)=49)=True:=eq_true (by rw [c3];rfl)
 have kt:=JD ((s.drop (aH s)).take (aH s+1)) [48,49] (by intro i hi;have:i=0∨i=1:=(by simp at hi;omega);rcases this with rfl|rfl<;>decide) (by decide)
 have ht:=WI ((s.drop (aH s)).take (aH s+1))
 have hsome:=@J8 s
 have hnone:=@nP s
 generalize (iw (oM [48,49]) ((s.drop (aH s)).take (aH s+1))).dropWhile (oM [48,49])=tr at *
 by_cases c4:((s.drop (aH s)).take (aH s+1)).all fK=true
 rotate_left
 ·obtain ⟨r1,r2,r3⟩:=hno (hnone fun h=>c4 h.2.2.1)
  have f6:(tr=[])=False:=eq_false fun h=>c4 (ht.1 h)
  (repeat' with_reducible first|intro _|refine rz ?_|refine ra ?_ ?_|omega|simp only [go_sem,f1,f2,f3,f4,f5,hcut,Bool.false_or,Bool.or_false])
  refine ah.k kt ?_
  (repeat' with_reducible first|intro _|refine rz ?_|refine ra ?_ ?_|omega|simp only [go_sem,f6])
  refine aV.auto 0 ?_ rfl ?_<;>simp only [go_sem,Int.natCast_succ,Post,r1,r2,r3]
 have f6:(tr=[])=True:=eq_true (ht.2 c4)
 have kp:=Qs ((s.drop (aH s)).take (aH s+1)) c4 (fun e=>by rw [e] at m1;simp at m1) (by omega)
 by_cases c5:ig ((s.drop (aH s)).take (aH s+1))≤1048576
 ·have hr:=hsome ⟨by omega,by omega,c4,c5⟩
  have r1:Aq s=(ig ((s.drop (aH s)).take (aH s+1)):Int):=by unfold Aq;rw [hr]
  have r2:Az s=2*(aH s:Int)+1:=by unfold Az;rw [hr];rfl
  have r3:Et 8 s=0:=by unfold Et;rw [hr]
  generalize ig ((s.drop (aH s)).take (aH s+1))=v at *
  have f7:(1048576<(v:Int))=False:=eq_false (by omega)
  (repeat' with_reducible first|intro _|refine rz ?_|refine ra ?_ ?_|omega|simp only [go_sem,f1,f2,f3,f4,f5,hcut,Bool.false_or,Bool.or_false])
  refine ah.k kt ?_
  (repeat' with_reducible first|intro _|refine rz ?_|refine ra ?_ ?_|omega|simp only [go_sem,f6,hcut])
  refine ah.k kp ?_
  (repeat' with_reducible first|intro _|refine rz ?_|refine ra ?_ ?_|omega|simp only [go_sem,f7])
  refine aV.auto 0 ?_ rfl ?_<;>simp only [go_sem,Int.natCast_succ,Post,r1,r2,r3]
 ·obtain ⟨r1,r2,r3⟩:=hno (hnone fun h=>c5 h.2.2.2)
  generalize ig ((s.drop (aH s)).take (aH s+1))=v at *
  have f7:(1048576<(v:Int))=True:=eq_true (by omega)
  (repeat' with_reducible first|intro _|refine rz ?_|refine ra ?_ ?_|omega|simp only [go_sem,f1,f2,f3,f4,f5,hcut,Bool.false_or,Bool.or_false])
  refine ah.k kt ?_
  (repeat' with_reducible first|intro _|refine rz ?_|refine ra ?_ ?_|omega|simp only [go_sem,f6,hcut])
  refine ah.k kp ?_
  (repeat' with_reducible first|intro _|refine rz ?_|refine ra ?_ ?_|omega|simp only [go_sem,f7])
  refine aV.auto 0 ?_ rfl ?_<;>simp only [go_sem,Int.natCast_succ,Post,r1,r2,r3]
end Go.Fv.H
/- The closures of shrink.readLine. -/
namespace Go.Fv.H
open Go Go.Proofs
theorem Eo (s:Bytes) (n:Nat) (code:Bytes) (hs:s.length≤300000000000000) (hn:n≤s.length) (hc:code.length≤100) (hp:code.isPrefixOf (s.drop n)=true) :
  gX Tryz.prog 145 [.str code,.ptr 0 0,.ptr 1 0] [(0,.box 9 [.str s]),(1,.box 3 [.int .i64 n])] 2 (.bool true) [(0,.box 9 [.str s]),(1,.box 3 [.int .i64 (n+code.length:Nat)])]:=by
 have k:=gu (s.drop n) code
 rw [hp] at k
 refine gX.aG Tryz.func145 rfl (by decide) (by simp [Tryz.f145]) xR [.tmp 4] rfl fun w0 T0 _=>?_
 simp only [Tryz.f145,au]
 have htk:(s.drop n).take (s.length - n)=s.drop n:=List.take_of_length_le (by rw [List.length_drop];exact Nat.le_refl _)
 (repeat' with_reducible first|intro _|refine rz ?_|refine ra ?_ ?_|omega|simp only [go_sem,htk])
 refine ah.k k ?_
 (repeat' with_reducible first|intro _|exact dn|refine rn ?_|refine ra ?_ ?_)
 refine kE.auto 2 (Nat.le_refl 2) ?_ rfl ?_<;>simp only [go_sem,Int.natCast_succ,gZ]
 omega
theorem yc (s:Bytes) (n:Nat) (code:Bytes) (hs:s.length≤300000000000000) (hn:n≤s.length) (hp:code.isPrefixOf (s.drop n)=false) :
  gX Tryz.prog 145 [.str code,.ptr 0 0,.ptr 1 0] [(0,.box 9 [.str s]),(1,.box 3 [.int .i64 n])] 2 (.bool false) [(0,.box 9 [.str s]),(1,.box 3 [.int .i64 n])]:=by
 have k:=gu (s.drop n) code
 rw [hp] at k
 refine gX.aG Tryz.func145 rfl (by decide) (by simp [Tryz.f145]) xR [.tmp 4] rfl fun w0 T0 _=>?_
 simp only [Tryz.f145,au]
 have htk:(s.drop n).take (s.length - n)=s.drop n:=List.take_of_length_le (by rw [List.length_drop];exact Nat.le_refl _)
 (repeat' with_reducible first|intro _|refine rz ?_|refine ra ?_ ?_|omega|simp only [go_sem,htk])
 refine ah.k k ?_
 (repeat' with_reducible first|intro _|exact dn|refine rn ?_|refine ra ?_ ?_)
 refine kE.auto 2 (Nat.le_refl 2) ?_ rfl ?_<;>simp only [go_sem,Int.natCast_succ,gZ]
theorem XE (s:Bytes) (n:Nat) (hn:n≤s.length):(s.drop n).take (min s.length (n+64) - n)=(s.drop n).take 64:=by
 rw [List.take_eq_take_iff,List.length_drop];omega
theorem FH (s:Bytes) (n:Nat) (hs:s.length≤300000000000000) (hn:n≤s.length) :
  gX Tryz.prog 146 [.ptr 0 0,.ptr 1 0] [(0,.box 9 [.str s]),(1,.box 3 [.int .i64 n])] 2 (.tup [.int .i64 (Aq (s.drop n) - 1),.bool (decide (Et 8 (s.drop n)=0))]) [(0,.box 9 [.str s]),(1,.box 3 [.int .i64 (n+Az (s.drop n))])]:=by
 have hg:oq ((s.drop n).take 64)=oq (s.drop n):=JC _ 64 (Nat.le_refl _)
 have e1:Aq ((s.drop n).take 64)=Aq (s.drop n):=by unfold Aq;rw [hg]
 have e2:Az ((s.drop n).take 64)=Az (s.drop n):=by unfold Az;rw [hg]
 have e3:Et 8 ((s.drop n).take 64)=Et 8 (s.drop n):=by unfold Et;rw [hg]
 have k:=KO ((s.drop n).take 64) (by rw [List.length_take];omega)
 rw [e1,e2,e3] at k
 have hb:0≤Aq (s.drop n)∧Aq (s.drop n)≤1048576∧0≤Az (s.drop n)∧Az (s.drop n)≤41:=by
  unfold Aq Az
  cases hr:oq (s.drop n) with
  | none=>dsimp only;omega
  | some x=>
   obtain ⟨m,l⟩:=x
   have h:=jT hr
   have h2:m≤1048576:=by
    unfold oq at hr
    split at hr
    ·rename_i hc;cases hr;exact hc.2.2.2
    ·cases hr
   dsimp only;omega
 generalize Aq (s.drop n)=a at *
 generalize Az (s.drop n)=b at *
 generalize Et 8 (s.drop n)=c at *
 have hm:min (s.length:Int) ((n:Int)+64)=((min s.length (n+64):Nat):Int):=by omega
 have hc:=XE s n hn
 have hm1:n≤min s.length (n+64):=by omega
 have hm2:min s.length (n+64)≤s.length:=by omega
 generalize min s.length (n+64)=mm at *
 refine gX.aG Tryz.func146 rfl (by decide) (by simp [Tryz.f146]) xR [.tmp 2,.tmp 3] rfl fun w0 T0 _=>?_
 simp only [Tryz.f146,au]
 (repeat' with_reducible first|intro _|refine rz ?_|refine ra ?_ ?_|omega|simp only [go_sem,hm,hc])
 refine ah.k k ?_
 (repeat' with_reducible first|intro _|exact dn|refine rn ?_|refine ra ?_ ?_)
 refine kE.auto 2 (Nat.le_refl 2) ?_ rfl ?_<;>simp only [go_sem,Int.natCast_succ,gZ]
def Ph (s:Bytes) (n:Nat) (j:Int) (m:Nat):Prop:=
 gX Tryz.prog 149 [.ro (.strs aK),.fn 145 [.ptr 0 0,.ptr 1 0]] [(0,.box 9 [.str s]),(1,.box 3 [.int .i64 n])] 2 (.int .i64 j) [(0,.box 9 [.str s]),(1,.box 3 [.int .i64 m])]
set_option maxHeartbeats 2000000 in
theorem Tj (s:Bytes) (n:Nat) (hs:s.length≤300000000000000) (hn:n≤s.length) (j:Nat) (hj:j≤7) (hno:∀ i,i<j→(aK.getD i []).isPrefixOf (s.drop n)=false) (hy:j<7→(aK.getD j []).isPrefixOf (s.drop n)=true) :
  Ph s n (if j<7 then j else -1) (n+if j<7 then (aK.getD j []).length else 0):=by
 unfold Ph
 have hnl:aK.length=7:=rfl
 refine gX.aG Tryz.func149 rfl (by decide) (by simp [Tryz.f149]) xR [.tmp 4] rfl fun w0 T0 _=>?_
 simp only [Tryz.f149,au]
 (repeat' with_reducible first|intro _|refine rz ?_|refine ra ?_ ?_|omega|simp only [go_sem,hnl])
 refine aI.intro (fun i:Nat=>⟨19,[(8,.int .i64 i),(7,.int .i64 7),(1,.fn 145 [.ptr 0 0,.ptr 1 0]),(0,.ro (.strs aK))],[(0,.box 9 [.str s]),(1,.box 3 [.int .i64 n])],2⟩) (fun i=>i≤j) (fun i=>8 - i) 0 ?_ (Nat.zero_le _) fun i hi=>?_
 ·refine aO.Dq 2 rfl (Nat.le_refl 2) ?_ ?_<;>simp only [go_sem,Int.natCast_succ,gZ]
 by_cases hlt:i<j
 ·have kt:=yc s n (aK.getD i []) hs hn (hno i hlt)
  have f1:((i:Int)<7)=True:=eq_true (by omega)
  (repeat' with_reducible first|intro _|refine rz ?_|refine ra ?_ ?_|omega|simp only [go_sem,f1,hnl])
  refine ah.i [0,1] kt 2 ?_
  (repeat' with_reducible first|intro _|exact dn|refine rn ?_|refine ra ?_ ?_)
  refine ⟨i+1,aO.Dq 2 rfl (Nat.le_refl 2) ?_ ?_,by omega,by omega⟩<;>simp only [go_sem,Int.natCast_succ,gZ]
 have e:i=j:=by omega
 subst e
 by_cases h7:i<7
 ·rw [if_pos h7,if_pos h7]
  have hlen:(aK.getD i []).length≤7:=by
   have:i=0∨i=1∨i=2∨i=3∨i=4∨i=5∨i=6:=by omega
   rcases this with rfl|rfl|rfl|rfl|rfl|rfl|rfl<;>decide
  have kt:=Eo s n (aK.getD i []) hs hn (by omega) (hy h7)
  have f1:((i:Int)<7)=True:=eq_true (by omega)
  (repeat' with_reducible first|intro _|refine rz ?_|refine ra ?_ ?_|omega|simp only [go_sem,f1,hnl])
  refine ah.i [0,1] kt 2 ?_
  (repeat' with_reducible first|intro _|exact dn|refine rn ?_|refine ra ?_ ?_)
  refine kE.auto 2 (Nat.le_refl 2) ?_ rfl ?_<;>simp only [go_sem,Int.natCast_succ,gZ]
 ·rw [if_neg h7,if_neg h7,Nat.add_zero]
  have f1:((i:Int)<7)=False:=eq_false (by omega)
  (repeat' with_reducible first|intro _|refine rz ?_|refine ra ?_ ?_|omega|simp only [go_sem,f1,hnl])
  refine kE.auto 2 (Nat.le_refl 2) ?_ rfl ?_<;>simp only [go_sem,Int.natCast_succ,gZ]
def sG (l:List Bool) (a t:Nat) (c:Bool):List Bool:=l.take a++(List.replicate (t - a) c++l.drop t)
theorem Fa {l:List Bool} {a t:Nat} {c:Bool} (h1:a≤t) (h2:t≤l.length):(sG l a t c).length=l.length:=by
 unfold sG
 rw [List.length_append,List.length_append,List.length_take,List.length_replicate,List.length_drop];omega
theorem QL {l:List Bool} {a t:Nat} {c:Bool} (h1:a≤t) (h2:t<l.length):(sG l a t c).set t c=sG l a (t+1) c:=by
 apply List.ext_getElem?
 intro i
 have hl:=Fa (l:=l) (c:=c) h1 (by omega)
 unfold sG at *
 rw [List.getElem?_set]
 by_cases hi:t=i
 ·subst hi
  rw [if_pos rfl,if_pos (by rw [hl];exact h2),List.getElem?_append_right (by rw [List.length_take];omega),List.getElem?_append_left (by rw [List.length_take,List.length_replicate];omega),List.getElem?_replicate,if_pos (by rw [List.length_take];omega)]
 ·rw [if_neg hi]
  simp only [List.getElem?_append,List.length_take,List.length_replicate,List.getElem?_take,List.getElem?_drop,List.getElem?_replicate]
  by_cases ha:i<min a l.length
  ·rw [if_pos ha,if_pos ha]
  ·rw [if_neg ha,if_neg ha]
   by_cases hb:i - min a l.length<t - a
   ·rw [if_pos hb,if_pos hb,if_pos (by omega),if_pos (by omega)]
   ·rw [if_neg hb,if_neg (by omega)]
    congr 1;omega
set_option maxHeartbeats 2000000 in
theorem Bg (l:List Bool) (a:Nat) (v:Int) (t:Nat) (c:Bool) (hv:max v 0=(a:Int)) (hvb:-1≤v∧v≤5000) (h1:a≤t) (h2:t≤l.length) (hl:l.length≤4000) :
  gX Tryz.prog 144 [.int .i64 v,.int .i64 t,.bool c,.ptr 0 0] [(0,.box 22 [.own 1]),(1,.row 4 (.bools l))] 2 (.tup []) [(0,.box 22 [.own 1]),(1,.row 4 (.bools (sG l a t c)))]:=by
 refine gX.aG Tryz.func144 rfl (by decide) (by simp [Tryz.f144]) xR [] rfl fun w0 T0 _=>?_
 simp only [Tryz.f144,au]
 (repeat' with_reducible first|intro _|refine rz ?_|refine ra ?_ ?_|omega|simp only [go_sem,hv])
 refine aI.intro (fun i:Nat=>⟨19,[(7,.int .i64 i),(3,.ptr 0 0),(2,.bool c),(1,.int .i64 t)],[(0,.box 22 [.own 1]),(1,.row 4 (.bools (sG l a i c)))],2⟩) (fun i=>a≤i∧i≤t) (fun i=>t - i) a ?_ ⟨Nat.le_refl _,h1⟩ fun i hi=>?_
 ·have e0:sG l a a c=l:=by unfold sG;rw [Nat.sub_self,List.replicate_zero,List.nil_append,List.take_append_drop]
  refine aO.Dq 2 rfl (Nat.le_refl 2) ?_ ?_<;>simp only [go_sem,Int.natCast_succ,gZ,e0]
  all_goals first|rfl|omega
 obtain ⟨hi1,hi2⟩:=hi
 have hfl:=Fa (l:=l) (c:=c) hi1 (by omega)
 by_cases hlt:i<t
 ·have f1:((i:Int)<(t:Int))=True:=eq_true (by omega)
  have hst:=QL (l:=l) (c:=c) hi1 (by omega)
  (repeat' with_reducible first|intro _|refine rz ?_|refine ra ?_ ?_|omega|simp only [go_sem,f1,hfl,hst])
  refine ⟨i+1,aO.Dq 2 rfl (Nat.le_refl 2) ?_ ?_,⟨by omega,by omega⟩,by omega⟩<;>simp only [go_sem,Int.natCast_succ,gZ,hst]
 ·have e:i=t:=by omega
  subst e
  have f1:((i:Int)<(i:Int))=False:=eq_false (by omega)
  (repeat' with_reducible first|intro _|refine rz ?_|refine ra ?_ ?_|omega|simp only [go_sem,f1])
  refine kE.auto 2 (Nat.le_refl 2) ?_ rfl ?_<;>simp only [go_sem,Int.natCast_succ,gZ]
end Go.Fv.H
/- shrink.readLine: the walk. -/
namespace Go.Fv.H
open Go Go.Proofs
theorem BK (y:Bytes):(eX.isPrefixOf y=true∧codeOf y=0) ∨
  (eX.isPrefixOf y=false∧∃ j,j<7∧codeOf y=j+1∧(∀ i,i<j→(aK.getD i []).isPrefixOf y=false)∧(aK.getD j []).isPrefixOf y=true) ∨
  (eX.isPrefixOf y=false∧(∀ i,i<7→(aK.getD i []).isPrefixOf y=false)∧((dV.isPrefixOf y=true∧codeOf y=8)∨(dV.isPrefixOf y=false∧codeOf y=9))):=by
 unfold codeOf
 cases hp:eX.isPrefixOf y with
 | true=>exact .inl ⟨rfl,rfl⟩
 | false=>
 cases h0:(aK.getD 0 []).isPrefixOf y with
 | true=>
  refine .inr (.inl ⟨rfl,0,by decide,rfl,?_,h0⟩)
  exact fun i hi=>by omega
 | false=>
 cases h1:(aK.getD 1 []).isPrefixOf y with
 | true=>
  refine .inr (.inl ⟨rfl,1,by decide,rfl,?_,h1⟩)
  exact fun i hi=>by
   have hi:i=0:=by omega
   rcases hi with rfl
   ·exact h0
 | false=>
 cases h2:(aK.getD 2 []).isPrefixOf y with
 | true=>
  refine .inr (.inl ⟨rfl,2,by decide,rfl,?_,h2⟩)
  exact fun i hi=>by
   have hi:i=0∨i=1:=by omega
   rcases hi with rfl|rfl
   ·exact h0
   ·exact h1
 | false=>
 cases h3:(aK.getD 3 []).isPrefixOf y with
 | true=>
  refine .inr (.inl ⟨rfl,3,by decide,rfl,?_,h3⟩)
  exact fun i hi=>by
   have hi:i=0∨i=1∨i=2:=by omega
   rcases hi with rfl|rfl|rfl
   ·exact h0
   ·exact h1
   ·exact h2
 | false=>
 cases h4:(aK.getD 4 []).isPrefixOf y with
 | true=>
  refine .inr (.inl ⟨rfl,4,by decide,rfl,?_,h4⟩)
  exact fun i hi=>by
   have hi:i=0∨i=1∨i=2∨i=3:=by omega
   rcases hi with rfl|rfl|rfl|rfl
   ·exact h0
   ·exact h1
   ·exact h2
   ·exact h3
 | false=>
 cases h5:(aK.getD 5 []).isPrefixOf y with
 | true=>
  refine .inr (.inl ⟨rfl,5,by decide,rfl,?_,h5⟩)
  exact fun i hi=>by
   have hi:i=0∨i=1∨i=2∨i=3∨i=4:=by omega
   rcases hi with rfl|rfl|rfl|rfl|rfl
   ·exact h0
   ·exact h1
   ·exact h2
   ·exact h3
   ·exact h4
 | false=>
 cases h6:(aK.getD 6 []).isPrefixOf y with
 | true=>
  refine .inr (.inl ⟨rfl,6,by decide,rfl,?_,h6⟩)
  exact fun i hi=>by
   have hi:i=0∨i=1∨i=2∨i=3∨i=4∨i=5:=by omega
   rcases hi with rfl|rfl|rfl|rfl|rfl|rfl
   ·exact h0
   ·exact h1
   ·exact h2
   ·exact h3
   ·exact h4
   ·exact h5
 | false=>
 have hall:∀ i,i<7→(aK.getD i []).isPrefixOf y=false:=fun i hi=>by
  have hi:i=0∨i=1∨i=2∨i=3∨i=4∨i=5∨i=6:=by omega
  rcases hi with rfl|rfl|rfl|rfl|rfl|rfl|rfl
  ·exact h0
  ·exact h1
  ·exact h2
  ·exact h3
  ·exact h4
  ·exact h5
  ·exact h6
 cases hf:dV.isPrefixOf y with
 | true=>exact .inr (.inr ⟨rfl,hall,.inl ⟨rfl,rfl⟩⟩)
 | false=>exact .inr (.inr ⟨rfl,hall,.inr ⟨rfl,rfl⟩⟩)
structure XM where
 p:Nat
 k:Bool
 n:Nat
 R:List Bool
structure Ri (above:List Bool) (s:Bytes) (x:XM):Prop where
 hp:x.p≤above.length+1
 hn:x.n≤s.length
 hR:x.R.length=x.p - 1
 hz:above.length=0→x.n=0
 hq:pK true above s 0 false=match pK true above (s.drop x.n) x.p x.k with|none=>none|some (l,m)=>some (x.R++l,x.n+m)
theorem Ri.first (above:List Bool) (s:Bytes):Ri above s ⟨0,false,0,[]⟩:=by
 refine ⟨Nat.zero_le _,Nat.zero_le _,rfl,fun _=>rfl,?_⟩
 dsimp only
 rw [List.drop_zero]
 cases pK true above s 0 false with
 | none=>rfl
 | some x=>obtain ⟨l,m⟩:=x;dsimp only;rw [List.nil_append,Nat.zero_add]
theorem Ri.step {above:List Bool} {s:Bytes} {p n:Nat} {k:Bool} {R:List Bool} (h:Ri above s ⟨p,k,n,R⟩) (hp:p≤above.length) (h0:0<above.length) {y:VL} (hy:rdStep true above (s.drop n) p k=some y) :
  Ri above s ⟨y.p,y.k,n+y.n,R++y.px⟩∧p<y.p:=by
 obtain ⟨h1,h2,h3,_,h4⟩:=h
 obtain ⟨g1,g2,g3,g4⟩:=oN hp hy
 dsimp only at *
 rw [List.length_drop] at g4
 refine ⟨⟨g2,by dsimp only;omega,by dsimp only;rw [List.length_append,h3,g3];omega,fun h=>by omega,?_⟩,g1⟩
 dsimp only
 rw [h4,nC hp hy,List.drop_drop]
 cases pK true above (s.drop (n+y.n)) y.p y.k with
 | none=>rfl
 | some x=>obtain ⟨l,m⟩:=x;dsimp only;rw [List.append_assoc,Nat.add_assoc]
theorem Ri.fail {above:List Bool} {s:Bytes} {p n:Nat} {k:Bool} {R:List Bool} (h:Ri above s ⟨p,k,n,R⟩) (hp:p≤above.length) (h0:0<above.length) (hy:rdStep true above (s.drop n) p k=none):lN true above s=none:=by
 unfold lN
 rw [if_neg (by omega),h.hq,zf hp hy]
theorem Ri.done {above:List Bool} {s:Bytes} {p n:Nat} {k:Bool} {R:List Bool} (h:Ri above s ⟨p,k,n,R⟩) (hp:¬(p≤above.length∧0<above.length)):lN true above s=some (R,n)∧R.length=above.length:=by
 have h1:p≤above.length+1:=h.hp
 have h2:R.length=p - 1:=h.hR
 have h3:above.length=0→n=0:=h.hz
 refine ⟨?_,by omega⟩
 unfold lN
 by_cases h0:above.length=0
 ·have hR0:R.length=0:=by
   have h5:p≤1:=by rw [h0] at h1;exact h1
   rw [h2];exact Nat.sub_eq_zero_of_le h5
  rw [if_pos h0,h3 h0,List.eq_nil_of_length_eq_zero hR0]
 ·have h6:¬p≤above.length:=by omega
  rw [if_neg h0,h.hq,pV h6]
  dsimp only
  rw [List.append_nil,Nat.add_zero]
theorem xX {s:Bytes} {m l:Nat} (h:oq s=some (m,l)):m≤1048576:=by
 unfold oq at h
 split at h
 ·rename_i hc;cases h;exact hc.2.2.2
 ·cases h
def yM (w:Nat) (R:List Bool):List Bool:=R++List.replicate (w - R.length) false
theorem J4 {w:Nat} {R:List Bool} (h:R.length≤w):(yM w R).length=w:=by unfold yM;rw [List.length_append,List.length_replicate];omega
theorem uM {w:Nat} {R:List Bool} {t:Nat} (c:Bool) (h:R.length≤t) (ht:t≤w):sG (yM w R) R.length t c=yM w (R++List.replicate (t - R.length) c):=by
 unfold sG yM
 rw [List.take_left,List.length_append,List.length_replicate,List.append_assoc]
 congr 2
 rw [List.drop_append,List.drop_replicate,List.drop_of_length_le h,List.nil_append]
 congr 1;omega
def Td (s:Bytes) (above:List Bool):Option (List Bool × Nat)→AV
 | none=>.tup [.nilS,.int .i64 0,.bool false]
 | some (l,n)=>.tup [.own 0,.int .i64 n,.bool (decide (eu l above=s.take n))]
def L8:Option (List Bool × Nat)→List (Nat × Item)
 | none=>[]
 | some (l,n)=>[(0,.row 4 (.bools l))]
theorem kT (s:Bytes) (above:List Bool):Td s above none=.tup [.nilS,.int .i64 0,.bool false]:=rfl
theorem jM:L8 none=[]:=rfl
theorem Di (s:Bytes) (above l:List Bool) (n:Nat):Td s above (some (l,n))=.tup [.own 0,.int .i64 n,.bool (decide (eu l above=s.take n))]:=rfl
theorem zQ (l:List Bool) (n:Nat):L8 (some (l,n))=[(0,.row 4 (.bools l))]:=rfl
theorem pO {s:Bytes} (h:oq s=none):Aq s=0∧Az s=0∧Et 8 s=8:=by unfold Aq Az Et;rw [h];exact ⟨rfl,rfl,rfl⟩
theorem pX {s:Bytes} {m l:Nat} (h:oq s=some (m,l)):Aq s=m∧Az s=l∧Et 8 s=0:=by unfold Aq Az Et;rw [h];exact ⟨rfl,rfl,rfl⟩
set_option maxHeartbeats 16000000 in
theorem Jm (s:Bytes) (above:List Bool) (hs:s.length≤290000000000000) (hw:above.length≤4000) :
  aA Tryz.prog 106 [.str s,.ro (.bools above)] (Td s above (lN true above s)) (L8 (lN true above s)):=by
 refine aA.aG Tryz.func106 rfl (by decide) (by simp [Tryz.f106]) [.cell 4 22,.cell 5 3,.tmp 6] rfl fun w0 T0 _=>?_
 simp only [Tryz.f106,au]
 (repeat' with_reducible first|intro _|exact dn|refine rn ?_|refine ra ?_ ?_)
 refine aI.intro (fun x:XM=>⟨140,[(12,.int .i64 ((x.p:Int) - 1)),(11,.fn 146 [.ptr 0 0,.ptr 2 0]),(10,.fn 145 [.ptr 0 0,.ptr 2 0]),(9,.bool x.k),(8,.fn 144 [.ptr 1 0]),(7,.int .i64 above.length),(6,.bool false),(5,.ptr 2 0),(4,.ptr 1 0),(2,.ptr 0 0),(1,.ro (.bools above))],[(0,.box 9 [.str s]),(1,.box 22 [.own 3]),(2,.box 3 [.int .i64 x.n]),(3,.row 4 (.bools (yM above.length x.R)))],4⟩) (Ri above s) (fun x=>above.length+1 - x.p) ⟨0,false,0,[]⟩ ?_ (Ri.first above s) fun x hI=>?_
 ·refine aO.ak rfl ?_ ?_<;>simp only [go_sem,Int.natCast_succ,yM]
  all_goals first|rfl|omega
 obtain ⟨p,k,n,R⟩:=x
 have hI0:=hI
 obtain ⟨hp,hn,hR,_,_⟩:=hI
 dsimp only at hp hn hR ⊢
 by_cases hlt:p≤above.length∧0<above.length
 rotate_left
 ·obtain ⟨hrd,hRl⟩:=hI0.done hlt
  have hrow:yM above.length R=R:=by unfold yM;rw [hRl,Nat.sub_self,List.replicate_zero,List.append_nil]
  have kl:=OZ R above (by omega) hRl.symm
  rw [hrd,hrow]
  rw [Di,zQ]
  generalize eu R above=lb at *
  by_cases h1:(p:Int) - 1<(above.length:Int)
  ·have f1:((p:Int) - 1<(above.length:Int))=True:=eq_true h1
   have f2:(0<(above.length:Int))=False:=eq_false (by omega)
   (repeat' with_reducible first|intro _|refine rz ?_|refine ra ?_ ?_|omega|simp only [go_sem,f1,f2])
   refine aQ.lex [9,10] [(1,[1]),(5,[1,2]),(7,[1,2]),(8,[1,2])] (by kernel_rfl) (by kernel_rfl) ?_
   (repeat' with_reducible first|intro _|exact dn|refine rn ?_|refine ra ?_ ?_)
   (refine QV.intro (.str lb) ?_ ?_;focus ((repeat' with_reducible first|intro _|exact dn|refine rn ?_|refine ra ?_ ?_);refine ah.k (kl) ?_;(repeat' with_reducible first|intro _|exact dn|refine rn ?_|refine ra ?_ ?_)))
   (repeat' with_reducible first|intro _|exact dn|refine rn ?_|refine ra ?_ ?_)
   refine aV.of [(0,3)] 1 ?_ rfl ?_<;>simp only [go_sem,Int.natCast_succ,Post,Nat.sub_zero]
  ·have f1:((p:Int) - 1<(above.length:Int))=False:=eq_false h1
   (repeat' with_reducible first|intro _|refine rz ?_|refine ra ?_ ?_|omega|simp only [go_sem,f1])
   refine aQ.lex [9,10] [(1,[1]),(5,[1,2]),(7,[1,2]),(8,[1,2])] (by kernel_rfl) (by kernel_rfl) ?_
   (repeat' with_reducible first|intro _|exact dn|refine rn ?_|refine ra ?_ ?_)
   (refine QV.intro (.str lb) ?_ ?_;focus ((repeat' with_reducible first|intro _|exact dn|refine rn ?_|refine ra ?_ ?_);refine ah.k (kl) ?_;(repeat' with_reducible first|intro _|exact dn|refine rn ?_|refine ra ?_ ?_)))
   (repeat' with_reducible first|intro _|exact dn|refine rn ?_|refine ra ?_ ?_)
   refine aV.of [(0,3)] 1 ?_ rfl ?_<;>simp only [go_sem,Int.natCast_succ,Post,Nat.sub_zero]
 obtain ⟨hle,h0⟩:=hlt
 have f1:((p:Int) - 1<(above.length:Int))=True:=eq_true (by omega)
 have f2:(0<(above.length:Int))=True:=eq_true (by omega)
 have k3:=Ak above p ((p:Int) - 1) (!k) rfl (by omega) (by omega)
 obtain ⟨b1,hB1⟩:∃ b1,fB above p (!k)=b1:=⟨_,rfl⟩
 have hb1:=jW (r:=above) (i:=p) hle (!k)
 rw [hB1] at k3 hb1
 have hrl:=J4 (w:=above.length) (R:=R) (by omega)
 have hmx:max ((p:Int) - 1) 0=((p - 1:Nat):Int):=by omega
 (repeat' with_reducible first|intro _|refine rz ?_|refine ra ?_ ?_|omega|simp only [go_sem,f1,f2])
 refine ah.k k3 ?_
 (repeat' with_reducible first|intro _|exact dn|refine rn ?_|refine ra ?_ ?_)
 rcases BK (s.drop n) with ⟨c1,c2⟩|⟨c1,j,c3,c2,c4,c5⟩|⟨c1,c4,hc⟩
 ·have kt:=Eo s n [48,48,48,49] (by omega) hn (by decide) c1
  obtain ⟨b2,hB2⟩:∃ b2,dG above (b1+1)=b2:=⟨_,rfl⟩
  have k4:=mZ above (b1+1) (b1:Int) (by omega) (by omega) hw
  rw [hB2] at k4
  have b2a:b1≤b2:=by
   by_cases h:b1<above.length
   ·have:=iO (r:=above) (i:=b1+1) (by omega);omega
   ·rw [gY (by omega)] at hB2;omega
  have b2b:b2≤above.length:=by rw [←hB2];exact fV _ _
  have hst:rdStep true above (s.drop n) p k=some ⟨b2+1,k,List.replicate (b2 - (p - 1)) k,4⟩:=by unfold rdStep;rw [if_pos c2,hB1,hB2]
  obtain ⟨g1,g2⟩:=hI0.step hle h0 hst
  have kf:=Bg (yM above.length R) (p - 1) ((p:Int) - 1) b2 k hmx (by omega) (by omega) (by omega) (by omega)
  have hrf:=uM (w:=above.length) (R:=R) (t:=b2) k (by omega) b2b
  rw [hR] at hrf
  rw [hrf] at kf
  have f3:((b2:Int)=(p:Int) - 1)=False:=eq_false (by omega)
  refine ah.i [0,2] kt 2 ?_
  (repeat' with_reducible first|intro _|exact dn|refine rn ?_|refine ra ?_ ?_)
  refine ah.k k4 ?_
  (repeat' with_reducible first|intro _|refine rz ?_|refine ra ?_ ?_|omega|simp only [go_sem,f3])
  refine ah.i [1,3] kf 2 ?_
  (repeat' with_reducible first|intro _|exact dn|refine rn ?_|refine ra ?_ ?_)
  refine ⟨⟨b2+1,k,n+4,R++List.replicate (b2 - (p - 1)) k⟩,aO.ak rfl ?_ ?_,g1,by dsimp only;omega⟩<;>simp only [go_sem,Int.natCast_succ]
  all_goals first|rfl|omega|(refine ⟨?_,?_⟩<;>first|rfl|omega)
 ·have kt:=yc s n [48,48,48,49] (by omega) hn c1
  have ki:=Tj s n (by omega) hn j (by omega) c4 (fun _=>c5)
  rw [if_pos c3,if_pos c3] at ki
  unfold Ph at ki
  refine ah.i [0,2] kt 2 ?_
  (repeat' with_reducible first|intro _|exact dn|refine rn ?_|refine ra ?_ ?_)
  refine ah.ro (.ro (.strs aK)) (dh.eG mG rfl (by simp [fZ,gQ,jA,iP,lQ])) (by simp only [aJ,aP,bH,aU,aF,List.drop_zero,lk,reduceIte,reduceCtorEq,Nat.reduceEqDiff,Option.some.injEq,Item.row.injEq,Item.box.injEq,AV.ro.injEq,exists_eq_left,exists_and_left,exists_eq_left',exists_eq_right,and_assoc,and_true,true_and,List.cons.injEq,exists_eq',exists_eq]) (by simp [dN,aP,aU,bH,aF,lk,aJ]) rfl ?_
  (repeat' with_reducible first|intro _|exact dn|refine rn ?_|refine ra ?_ ?_)
  refine ah.i [0,2] ki 2 ?_
  have f3:(0≤(j:Int))=True:=eq_true (by omega)
  by_cases hok:p+3≤b1+j∧b1+j≤above.length+3
  ·obtain ⟨t,ht⟩:∃ t,t+3=b1+j:=⟨b1+j - 3,by omega⟩
   have hst:rdStep true above (s.drop n) p k=some ⟨t+1,!k,List.replicate (t - (p - 1)) k,(aK.getD j []).length⟩:=by
    unfold rdStep
    rw [c2,if_neg (by omega),if_pos (by omega),hB1,if_pos (by omega),show b1+(j+1) - 4=t by omega,Nat.add_sub_cancel]
   obtain ⟨g1,g2⟩:=hI0.step hle h0 hst
   have kf:=Bg (yM above.length R) (p - 1) ((p:Int) - 1) t k hmx (by omega) (by omega) (by omega) (by omega)
   have hrf:=uM (w:=above.length) (R:=R) (t:=t) k (by omega) (by omega)
   rw [hR] at hrf
   rw [hrf] at kf
   have hv:(b1:Int)+(j:Int) - 3=(t:Int):=by omega
   have f4:((t:Int)≤(p:Int) - 1)=False:=eq_false (by omega)
   have f5:((above.length:Int)<(t:Int))=False:=eq_false (by omega)
   (repeat' with_reducible first|intro _|refine rz ?_|refine ra ?_ ?_|omega|simp only [go_sem,f3,hv,f4,f5])
   refine ah.i [1,3] kf 2 ?_
   (repeat' with_reducible first|intro _|exact dn|refine rn ?_|refine ra ?_ ?_)
   refine ⟨⟨t+1,!k,n+(aK.getD j []).length,R++List.replicate (t - (p - 1)) k⟩,aO.ak rfl ?_ ?_,g1,by dsimp only;omega⟩<;>simp only [go_sem,Int.natCast_succ]
   all_goals first|rfl|omega|(refine ⟨?_,?_⟩<;>first|rfl|omega)
  ·have hst:rdStep true above (s.drop n) p k=none:=by
    unfold rdStep
    rw [c2,if_neg (by omega),if_pos (by omega),hB1,if_neg (by omega)]
   rw [hI0.fail hle h0 hst,kT,jM]
   by_cases h4:(b1:Int)+(j:Int) - 3≤(p:Int) - 1
   ·have f4:((b1:Int)+(j:Int) - 3≤(p:Int) - 1)=True:=eq_true h4
    (repeat' with_reducible first|intro _|refine rz ?_|refine ra ?_ ?_|omega|simp only [go_sem,f3,f4])
    refine aV.auto 0 ?_ rfl ?_<;>simp only [go_sem,Int.natCast_succ,Post]
   ·have f4:((b1:Int)+(j:Int) - 3≤(p:Int) - 1)=False:=eq_false h4
    have f5:((above.length:Int)<(b1:Int)+(j:Int) - 3)=True:=eq_true (by omega)
    (repeat' with_reducible first|intro _|refine rz ?_|refine ra ?_ ?_|omega|simp only [go_sem,f3,f4,f5])
    refine aV.auto 0 ?_ rfl ?_<;>simp only [go_sem,Int.natCast_succ,Post]
 have kt:=yc s n [48,48,48,49] (by omega) hn c1
 have ki:=Tj s n (by omega) hn 7 (by omega) c4 (fun h=>absurd h (by decide))
 rw [if_neg (by decide),if_neg (by decide),Nat.add_zero] at ki
 unfold Ph at ki
 refine ah.i [0,2] kt 2 ?_
 (repeat' with_reducible first|intro _|exact dn|refine rn ?_|refine ra ?_ ?_)
 refine ah.ro (.ro (.strs aK)) (dh.eG mG rfl (by simp [fZ,gQ,jA,iP,lQ])) (by simp only [aJ,aP,bH,aU,aF,List.drop_zero,lk,reduceIte,reduceCtorEq,Nat.reduceEqDiff,Option.some.injEq,Item.row.injEq,Item.box.injEq,AV.ro.injEq,exists_eq_left,exists_and_left,exists_eq_left',exists_eq_right,and_assoc,and_true,true_and,List.cons.injEq,exists_eq',exists_eq]) (by simp [dN,aP,aU,bH,aF,lk,aJ]) rfl ?_
 (repeat' with_reducible first|intro _|exact dn|refine rn ?_|refine ra ?_ ?_)
 refine ah.i [0,2] ki 2 ?_
 (repeat' with_reducible first|intro _|exact dn|refine rn ?_|refine ra ?_ ?_)
 rcases hc with ⟨c5,c2⟩|⟨c5,c2⟩
 rotate_left
 ·have kt2:=yc s n [48,48,49] (by omega) hn c5
  have hst:rdStep true above (s.drop n) p k=none:=by
   unfold rdStep
   rw [c2,if_neg (by decide),if_neg (by decide),if_neg (by decide)]
  rw [hI0.fail hle h0 hst,kT,jM]
  refine ah.i [0,2] kt2 2 ?_
  (repeat' with_reducible first|intro _|exact dn|refine rn ?_|refine ra ?_ ?_)
  refine aV.auto 0 ?_ rfl ?_<;>simp only [go_sem,Int.natCast_succ,Post]
 have h3:=(wG (s:=s.drop n) (by omega)).2.1 c2
 rw [List.length_drop] at h3
 have kt2:=Eo s n [48,48,49] (by omega) hn (by decide) c5
 have e3:(s.drop n).drop 3=s.drop (n+3):=List.drop_drop
 have hst0:rdStep true above (s.drop n) p k=qQ true above.length (s.drop n) p k:=by
  unfold rdStep
  rw [c2,if_neg (by decide),if_neg (by decide),if_pos rfl]
 have kn:=FH s (n+3) (by omega) (by omega)
 refine ah.i [0,2] kt2 2 ?_
 (repeat' with_reducible first|intro _|exact dn|refine rn ?_|refine ra ?_ ?_)
 cases hg1:oq (s.drop (n+3)) with
 | none=>
  obtain ⟨r1,r2,r3⟩:=pO hg1
  rw [r1,r2,r3] at kn
  have hst:rdStep true above (s.drop n) p k=none:=by rw [hst0];unfold qQ;rw [e3,hg1]
  rw [hI0.fail hle h0 hst,kT,jM]
  refine ah.i [0,2] kn 2 ?_
  (repeat' with_reducible first|intro _|exact dn|refine rn ?_|refine ra ?_ ?_)
  refine aV.auto 0 ?_ rfl ?_<;>simp only [go_sem,Int.natCast_succ,Post]
 | some z1=>
 obtain ⟨m1,l1⟩:=z1
 obtain ⟨r1,r2,r3⟩:=pX hg1
 rw [r1,r2,r3,show ((n+3:Nat):Int)+(l1:Int)=((n+3+l1:Nat):Int) by omega] at kn
 obtain ⟨w1,w2,w3⟩:=jT hg1
 have w4:=xX hg1
 rw [List.length_drop] at w1
 have kn2:=FH s (n+3+l1) (by omega) (by omega)
 have e4:(s.drop n).drop (3+l1)=s.drop (n+3+l1):=by rw [List.drop_drop,Nat.add_assoc]
 have hv1:((p - 1:Nat):Int)+((m1:Int) - 1)=((p - 1+(m1 - 1):Nat):Int):=by omega
 refine ah.i [0,2] kn 2 ?_
 (repeat' with_reducible first|intro _|exact dn|refine rn ?_|refine ra ?_ ?_)
 cases hg2:oq (s.drop (n+3+l1)) with
 | none=>
  obtain ⟨r1,r2,r3⟩:=pO hg2
  rw [r1,r2,r3] at kn2
  have hst:rdStep true above (s.drop n) p k=none:=by rw [hst0];unfold qQ;rw [e3,hg1];dsimp only;rw [e4,hg2]
  rw [hI0.fail hle h0 hst,kT,jM]
  refine ah.i [0,2] kn2 2 ?_
  (repeat' with_reducible first|intro _|refine rz ?_|refine ra ?_ ?_|omega|simp only [go_sem,hmx])
  refine aV.auto 0 ?_ rfl ?_<;>simp only [go_sem,Int.natCast_succ,Post]
 | some z2=>
 obtain ⟨m2,l2⟩:=z2
 obtain ⟨r1,r2,r3⟩:=pX hg2
 rw [r1,r2,r3,show ((n+3+l1:Nat):Int)+(l2:Int)=((n+3+l1+l2:Nat):Int) by omega] at kn2
 obtain ⟨w5,w6,w7⟩:=jT hg2
 have w8:=xX hg2
 rw [List.length_drop] at w5
 obtain ⟨A1,hA1⟩:∃ A1,p - 1+(m1 - 1)=A1:=⟨_,rfl⟩
 obtain ⟨A2,hA2⟩:∃ A2,A1+(m2 - 1)=A2:=⟨_,rfl⟩
 rw [hA1] at hv1
 have hv2:(A1:Int)+((m2:Int) - 1)=(A2:Int):=by omega
 have hstf:rdStep true above (s.drop n) p k=if (true=true→p≤A1)∧A2≤above.length∧p≤A2 then some ⟨A2+1,k,List.replicate (m1 - 1) k++List.replicate (m2 - 1) (!k),3+l1+l2⟩ else none:=by
  rw [hst0];unfold qQ;rw [e3,hg1];dsimp only;rw [e4,hg2];dsimp only;rw [hA1,hA2]
 refine ah.i [0,2] kn2 2 ?_
 by_cases hok:p≤A1∧A2≤above.length∧p≤A2
 ·have hst:=hstf
  rw [if_pos ⟨fun _=>hok.1,hok.2⟩] at hst
  obtain ⟨g1,g2⟩:=hI0.step hle h0 hst
  have kf:=Bg (yM above.length R) (p - 1) ((p:Int) - 1) A1 k hmx (by omega) (by omega) (by omega) (by omega)
  have hrf:=uM (w:=above.length) (R:=R) (t:=A1) k (by omega) (by omega)
  rw [hR,show A1 - (p - 1)=m1 - 1 by omega] at hrf
  rw [hrf] at kf
  have hRl:(R++List.replicate (m1 - 1) k).length=A1:=by rw [List.length_append,List.length_replicate];omega
  have hrl2:=J4 (w:=above.length) (R:=R++List.replicate (m1 - 1) k) (by omega)
  have kf2:=Bg (yM above.length (R++List.replicate (m1 - 1) k)) A1 (A1:Int) A2 (!k) (by omega) (by omega) (by omega) (by omega) (by omega)
  have hrf2:=uM (w:=above.length) (R:=R++List.replicate (m1 - 1) k) (t:=A2) (!k) (by omega) (by omega)
  rw [hRl,show A2 - A1=m2 - 1 by omega,List.append_assoc] at hrf2
  rw [hrf2] at kf2
  have f4:((p:Int) - 1<(A1:Int))=True:=eq_true (by omega)
  have f5:((A2:Int)≤(above.length:Int))=True:=eq_true (by omega)
  have f6:((p:Int) - 1<(A2:Int))=True:=eq_true (by omega)
  (repeat' with_reducible first|intro _|refine rz ?_|refine ra ?_ ?_|omega|simp only [go_sem,hmx,hv1,hv2,f4,f5,f6])
  refine ah.i [1,3] kf 2 ?_
  (repeat' with_reducible first|intro _|exact dn|refine rn ?_|refine ra ?_ ?_)
  refine ah.i [1,3] kf2 2 ?_
  (repeat' with_reducible first|intro _|exact dn|refine rn ?_|refine ra ?_ ?_)
  refine ⟨⟨A2+1,k,n+(3+l1+l2),R++(List.replicate (m1 - 1) k++List.replicate (m2 - 1) (!k))⟩,aO.ak rfl ?_ ?_,g1,by dsimp only;omega⟩<;>simp only [go_sem,Int.natCast_succ]
  all_goals first|rfl|omega|(refine ⟨?_,?_⟩<;>first|rfl|omega)
 ·have hst:=hstf
  rw [if_neg (fun h=>hok ⟨h.1 rfl,h.2⟩)] at hst
  rw [hI0.fail hle h0 hst,kT,jM]
  by_cases h4:(p:Int) - 1<(A1:Int)
  ·have f4:((p:Int) - 1<(A1:Int))=True:=eq_true h4
   by_cases h5:(A2:Int)≤(above.length:Int)
   ·have f5:((A2:Int)≤(above.length:Int))=True:=eq_true h5
    exact absurd ⟨by omega,by omega,by omega⟩ hok
   ·have f5:((A2:Int)≤(above.length:Int))=False:=eq_false h5
    (repeat' with_reducible first|intro _|refine rz ?_|refine ra ?_ ?_|omega|simp only [go_sem,hmx,hv1,hv2,f4,f5])
    refine aV.auto 0 ?_ rfl ?_<;>simp only [go_sem,Int.natCast_succ,Post]
  ·have f4:((p:Int) - 1<(A1:Int))=False:=eq_false h4
   (repeat' with_reducible first|intro _|refine rz ?_|refine ra ?_ ?_|omega|simp only [go_sem,hmx,hv1,hv2,f4])
   refine aV.auto 0 ?_ rfl ?_<;>simp only [go_sem,Int.natCast_succ,Post]
end Go.Fv.H
/- shrink.pageOf: the walk, kind by kind. -/
namespace Go.Fv.H
open Go Go.Proofs
set_option maxHeartbeats 4000000 in
theorem LX (w h:Nat) (hw0:0<w) (hw:w≤4000) (hh:h≤4000) (hwh:w*h≤1048576) (d:Bytes) (hd:d.length≤100000000) :
  aA Tryz.prog 68 [.str d,.int .i64 4,.int .i64 w,.int .i64 h] (.tup [.agg [.int .i64 w,.int .i64 h,.own 0],.bool true]) [(0,.row 4 (.bools (dA w h d (w*h) (w*h)).P))]:=by
 have k:=AO w h hw0 hw hh hwh d (by omega)
 refine aA.aG Tryz.func68 rfl (by decide) (by simp [Tryz.f68]) [.cell 8 24,.tmp 9] rfl fun w0 T0 _=>?_
 simp only [Tryz.f68,au]
 (repeat' with_reducible first|intro _|exact dn|refine rn ?_|refine ra ?_ ?_)
 refine ah.o k 1 ?_
 (repeat' with_reducible first|intro _|exact dn|refine rn ?_|refine ra ?_ ?_)
 refine aV.auto 1 ?_ rfl ?_<;>simp only [go_sem,Int.natCast_succ,Post]
theorem uH (d:Bytes):(gJ d).length=8*d.length:=by unfold gJ;simp
theorem yS (s:Bytes):(nO s).length=s.length:=by unfold nO;simp
theorem Df {s:Bytes} {i:Nat} (h:i<s.length):nO (s.take (i+1))=nO (s.take i)++[decide (((s.getD i 0).toNat:Int)=49)]:=by
 unfold nO
 rw [List.take_succ_eq_append_getElem h,List.map_append,List.map_cons,List.map_nil,getD_lt h]
 congr 2
 have:(s[i]=49)↔((s[i].toNat:Int)=49):=by
  constructor
  ·intro e;rw [e];rfl
  ·intro e
   have h49:s[i].toNat=49:=by omega
   exact UInt8.toNat_inj.1 h49
 exact decide_eq_decide.2 this
set_option maxHeartbeats 4000000 in
theorem LU (w h:Nat) (hw0:0<w) (hw:w≤4000) (hh:h≤4000) (hwh:w*h≤1048576) (d:Bytes) (hd:d.length≤100000000) (hs:(gJ d).length<w*h) :
  aA Tryz.prog 68 [.str d,.int .i64 1,.int .i64 w,.int .i64 h] (.tup [.agg [.int .i64 w,.int .i64 h,.nilS],.bool false]) []:=by
 have e1:(w:Int)*(h:Int)=((w*h:Nat):Int):=(Int.natCast_mul w h).symm
 have k:=oG d (by omega)
 have f1:(((gJ d).length:Int)<((w*h:Nat):Int))=True:=eq_true (by omega)
 generalize gJ d=s at *
 obtain ⟨n,hn⟩:∃ n,w*h=n:=⟨_,rfl⟩
 rw [hn] at e1 f1 hs
 refine aA.aG Tryz.func68 rfl (by decide) (by simp [Tryz.f68]) [.cell 8 24,.tmp 9] rfl fun w0 T0 _=>?_
 simp only [Tryz.f68,au]
 (repeat' with_reducible first|intro _|exact dn|refine rn ?_|refine ra ?_ ?_)
 refine ah.k k ?_
 (repeat' with_reducible first|intro _|refine rz ?_|refine ra ?_ ?_|omega|simp only [go_sem,e1,f1])
 refine aV.auto 0 ?_ rfl ?_<;>simp only [go_sem,Int.natCast_succ,Post]
set_option maxHeartbeats 4000000 in
theorem LV (w h:Nat) (hw0:0<w) (hw:w≤4000) (hh:h≤4000) (hwh:w*h≤1048576) (d:Bytes) (hd:d.length≤100000000) (hs:w*h≤(gJ d).length) :
  aA Tryz.prog 68 [.str d,.int .i64 1,.int .i64 w,.int .i64 h] (.tup [.agg [.int .i64 w,.int .i64 h,.own 0],.bool true]) [(0,.row 4 (.bools (nO ((gJ d).take (w*h)))))]:=by
 have e1:(w:Int)*(h:Int)=((w*h:Nat):Int):=(Int.natCast_mul w h).symm
 have k:=oG d (by omega)
 have f1:(((gJ d).length:Int)<((w*h:Nat):Int))=False:=eq_false (by omega)
 have hl:=uH d
 generalize gJ d=s at *
 obtain ⟨n,hn⟩:∃ n,w*h=n:=⟨_,rfl⟩
 rw [hn] at e1 f1 hs hwh ⊢
 refine aA.aG Tryz.func68 rfl (by decide) (by simp [Tryz.f68]) [.cell 8 24,.tmp 9] rfl fun w0 T0 _=>?_
 simp only [Tryz.f68,au]
 (repeat' with_reducible first|intro _|exact dn|refine rn ?_|refine ra ?_ ?_)
 refine ah.k k ?_
 (repeat' with_reducible first|intro _|refine rz ?_|refine ra ?_ ?_|omega|simp only [go_sem,e1,f1])
 refine aI.intro (fun i:Nat=>⟨135,[(71,.int .i64 i),(70,.int .i64 n),(11,.str s),(10,.ptr 1 0),(8,.ptr 0 0)],[(0,.box 24 [.int .i64 0,.int .i64 0,.nilS]),(1,.box 24 [.int .i64 w,.int .i64 h,.own 2]),(2,.row 4 (.bools (nO (s.take i))))],3⟩) (fun i=>i≤n) (fun i=>n - i) 0 ?_ (Nat.zero_le _) fun i hi=>?_
 ·refine aO.trans (aO.iM (P:=Tryz.prog) 1 2 4 e4 rfl rfl) (aO.ak rfl ?_ ?_)<;>simp only [go_sem,Int.natCast_succ,put,nO,List.map_nil]
 by_cases hlt:i<n
 ·have f2:((i:Int)<(n:Int))=True:=eq_true (by omega)
  have hsu:=Df (s:=s) (i:=i) (by omega)
  have hpl:=yS (s.take i)
  rw [List.length_take] at hpl
  (repeat' with_reducible first|intro _|refine rz ?_|refine ra ?_ ?_|omega|simp only [go_sem,f2])
  refine aQ.lex [6,7,9] [(0,[1]),(1,[1])] (by kernel_rfl) (by kernel_rfl) ?_
  (repeat' with_reducible first|intro _|refine rz ?_|refine ra ?_ ?_|omega|simp only [go_sem,hpl])
  refine ⟨i+1,aO.ak rfl ?_ ?_,by omega,by omega⟩<;>simp only [go_sem,Int.natCast_succ,hsu]
  all_goals first|rfl|trace_state
 ·have f2:((i:Int)<(n:Int))=False:=eq_false (by omega)
  have e:i=n:=by omega
  subst e
  (repeat' with_reducible first|intro _|refine rz ?_|refine ra ?_ ?_|omega|simp only [go_sem,f2])
  refine aV.of [(0,2)] 1 ?_ (by rfl) ?_<;>simp only [go_sem,Int.natCast_succ,Post]
end Go.Fv.H
