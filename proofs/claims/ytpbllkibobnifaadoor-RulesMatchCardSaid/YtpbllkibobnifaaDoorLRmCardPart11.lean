/-
  A part of the proof of the claim: walks over the program's functions and the plain laws that these need. No condition of its own.
-/
import Derived.Test.YtpbllkibobnifaaDoorLRmCardPart10
import Derived.Test.YtpbllkibobnifaaDoorFvPart11
import Derived.Test.YtpbllkibobnifaaDoorLRmCardPart1
import Derived.Test.YtpbllkibobnifaaDoorLRmCardPart9
set_option linter.unusedSimpArgs false
set_option linter.unusedVariables false
set_option linter.unnecessarySimpa false
set_option maxRecDepth 8000
/- strings.Trim at any set of small letters; IsName. -/
namespace Go.Fv.L
open Go Go.Proofs
def gG (p:UInt8→Bool) (s:List UInt8):List UInt8:=(s.reverse.dropWhile p).reverse
def yE (cut:List UInt8) (c:UInt8):Bool:=decide (c∈cut)
theorem yx (s:List UInt8) (c:UInt8):∀ i,i≤s.length→(eY s i).getD c.toNat false=decide (c∈s.take i)
 | 0,_=>by
  have h:c.toNat<256:=c.toNat_lt
  rw [List.take_zero]
  show (List.replicate 256 false).getD c.toNat false=_
  rw [List.getD_eq_getElem?_getD,List.getElem?_replicate,if_pos h]
  simp
 | i+1,h=>by
  have ih:=yx s c i (by omega)
  have hlen:=mZ s i
  have hlt:i<s.length:=by omega
  have hc:=c.toNat_lt
  have htk:=List.take_succ_eq_append_getElem hlt
  rw [htk]
  simp only [eY,List.getD_eq_getElem?_getD] at ih ⊢
  rw [List.getElem?_set]
  have e:s[i]?.getD 0=s[i]:=by simp [hlt]
  rw [e]
  by_cases hq:s[i].toNat=c.toNat
  ·have hq2:s[i]=c:=UInt8.toNat_inj.1 hq
   rw [if_pos hq,if_pos (by rw [hlen];omega)]
   simp [hq2]
  ·rw [if_neg hq,ih]
   have hq2:¬c=s[i]:=fun h=>hq (by rw [h])
   rw [Bool.eq_iff_iff,decide_eq_true_eq,decide_eq_true_eq,List.mem_append,List.mem_singleton]
   exact ⟨.inl,fun h=>h.elim id fun h=>absurd h hq2⟩
theorem AU {s:List UInt8} (h0:0<s.length):s=s.take (s.length - 1)++[s.getD (s.length - 1) 0]:=by
 rw [getD_lt (by omega),List.take_append_getElem (by omega),List.take_of_length_le (by omega)]
theorem yD (p:UInt8→Bool) (t:List UInt8) (c:UInt8):gG p (t++[c])=if p c=true then gG p t else t++[c]:=by
 unfold gG
 rw [List.reverse_append,List.reverse_singleton,List.singleton_append,List.dropWhile_cons]
 split<;>simp_all
theorem Qp {p:UInt8→Bool} {s:List UInt8} (h0:0<s.length) (h:p (s.getD (s.length - 1) 0)=true):gG p (s.take (s.length - 1))=gG p s:=by
 conv=>rhs;rw [AU h0,yD,if_pos h]
theorem Ia {p:UInt8→Bool} {s:List UInt8} (h:0<s.length→p (s.getD (s.length - 1) 0)=false):gG p s=s:=by
 by_cases h0:0<s.length
 ·conv=>lhs;rw [AU h0,yD,if_neg (by rw [h h0];decide)]
  exact (AU h0).symm
 ·have:s=[]:=List.eq_nil_of_length_eq_zero (by omega)
  subst this;rfl
theorem TK {p:UInt8→Bool} {s:List UInt8} (h0:0<s.length) (h:p (s.getD 0 0)=true):(s.drop 1).dropWhile p=s.dropWhile p:=by
 cases s with
 | nil=>simp at h0
 | cons c t=>
  have h':p c=true:=h
  rw [List.dropWhile_cons,if_pos h'];rfl
theorem MG {p:UInt8→Bool} {s:List UInt8} (h:0<s.length→p (s.getD 0 0)=false):s.dropWhile p=s:=by
 cases s with
 | nil=>rfl
 | cons c t=>rw [List.dropWhile_cons,if_neg (by have:=h (by simp);rw [show (c::t).getD 0 0=c from rfl] at this;rw [this];decide)]
theorem su {p:UInt8→Bool}:∀ {s:List UInt8},s.dropWhile p=[]↔s.all p=true
 | []=>by simp
 | c::t=>by
  rw [List.dropWhile_cons,List.all_cons]
  cases h:p c with
  | true=>simpa using su
  | false=>simp
theorem Sv (p:UInt8→Bool) (s:List UInt8):(gG p s).dropWhile p=[]↔s.all p=true:=by
 rw [su]
 unfold gG
 rw [List.all_reverse,←su]
 have hd:(s.reverse.dropWhile p).dropWhile p=s.reverse.dropWhile p:=by
  generalize s.reverse=t
  induction t with
  | nil=>rfl
  | cons c t ih=>
   rw [List.dropWhile_cons]
   cases h:p c with
   | true=>simpa using ih
   | false=>simp [List.dropWhile_cons,h]
 rw [hd,su,List.all_reverse]
theorem vH (tab:List Bool) (hl:tab.length=256) (c:UInt8):aU Tryd.prog 66 [.cell (tab.map .bool),.int .u8 c.toNat] (.bool (tab.getD c.toNat false)) []:=by
 have h:=H8 tab c.toNat hl (by omega) (by have:=c.toNat_lt;omega)
 rwa [Int.toNat_natCast] at h
set_option maxHeartbeats 1000000 in
theorem Gm (tab:List Bool) (hl:tab.length=256) (p:UInt8→Bool) (hp:∀ c:UInt8,tab.getD c.toNat false=p c) (s:List UInt8) :
  aU Tryd.prog 58 [.str s,.cell (tab.map .bool)] (.str (s.dropWhile p)) []:=by
 refine aU.aY Tryd.func58 rfl (by decide) (by simp [Tryd.f58]) [.tmp 4] rfl fun w0 T0 _=>?_
 simp only [Tryd.f58,aK]
 (repeat' with_reducible first|intro _|exact dn|refine rn ?_|refine ra ?_ ?_)
 refine aJ.intro (fun t:List UInt8=>⟨16,[(0,.str t),(1,.cell (tab.map .bool))],[],0⟩) (fun t=>t.dropWhile p=s.dropWhile p) (fun t=>t.length) s ?_ rfl fun t he=>?_
 ·refine aS.aB rfl ?_ ?_<;>simp only [go_sem,Int.natCast_succ]
 (repeat' with_reducible first|intro _|exact dn|refine rn ?_|refine ra ?_ ?_)
 ·have k:=vH tab hl (t.getD 0 0)
  rw [hp] at k
  refine aj.fr (args':=[.cell (tab.map .bool),.int .u8 (t.getD 0 0).toNat]) (dW.dP k rfl rfl) (by simp [aV,bf,aH]) 0 rfl (by simp [bn]) ?_
  cases hq:p (t.getD 0 0) with
  | true=>
   (repeat' with_reducible first|intro _|exact dn|refine rn ?_|refine ra ?_ ?_)
   refine ⟨t.drop 1,aS.aB rfl ?_ ?_,?_,?_⟩
   ·simp only [go_sem,Int.natCast_succ]
    all_goals first|rfl|exact List.take_of_length_le (by simp)
   ·simp only [go_sem,Int.natCast_succ]
   ·rw [TK (by omega) hq];exact he
   ·simp;omega
  | false=>
   have e:t=s.dropWhile p:=by rw [←he,MG (fun _=>hq)]
   (repeat' with_reducible first|intro _|exact dn|refine rn ?_|refine ra ?_ ?_)
   refine eP.auto 0 ?_ rfl ?_<;>simp only [go_sem,Int.natCast_succ,Post,e]
 ·have e:t=s.dropWhile p:=by rw [←he,MG (fun h=>by omega)]
  refine eP.auto 0 ?_ rfl ?_<;>simp only [go_sem,Int.natCast_succ,Post,e]
set_option maxHeartbeats 1000000 in
theorem C9 (tab:List Bool) (hl:tab.length=256) (p:UInt8→Bool) (hp:∀ c:UInt8,tab.getD c.toNat false=p c) (s:List UInt8) :
  aU Tryd.prog 59 [.str s,.cell (tab.map .bool)] (.str (gG p s)) []:=by
 refine aU.aY Tryd.func59 rfl (by decide) (by simp [Tryd.f59]) [.tmp 4] rfl fun w0 T0 _=>?_
 simp only [Tryd.f59,aK]
 (repeat' with_reducible first|intro _|exact dn|refine rn ?_|refine ra ?_ ?_)
 refine aJ.intro (fun t:List UInt8=>⟨22,[(0,.str t),(1,.cell (tab.map .bool))],[],0⟩) (fun t=>gG p t=gG p s) (fun t=>t.length) s ?_ rfl fun t he=>?_
 ·refine aS.aB rfl ?_ ?_<;>simp only [go_sem,Int.natCast_succ]
 have et:((t.length:Int) - 1).toNat=t.length - 1:=by omega
 (repeat' with_reducible first|intro _|refine rz ?_|refine ra ?_ ?_|omega|simp only [go_sem,et])
 ·have k:=vH tab hl (t.getD (t.length - 1) 0)
  rw [hp] at k
  refine aj.fr (args':=[.cell (tab.map .bool),.int .u8 (t.getD (t.length - 1) 0).toNat]) (dW.dP k rfl rfl) (by simp [aV,bf,aH]) 0 rfl (by simp [bn]) ?_
  cases hq:p (t.getD (t.length - 1) 0) with
  | true=>
   (repeat' with_reducible first|intro _|refine rz ?_|refine ra ?_ ?_|omega|simp only [go_sem,et])
   refine ⟨t.take (t.length - 1),aS.aB rfl ?_ ?_,?_,?_⟩
   ·simp only [go_sem,Int.natCast_succ,et]
    all_goals rfl
   ·simp only [go_sem,Int.natCast_succ]
   ·rw [Qp (by omega) hq];exact he
   ·simp;omega
  | false=>
   have e:t=gG p s:=by rw [←he,Ia (fun _=>hq)]
   (repeat' with_reducible first|intro _|exact dn|refine rn ?_|refine ra ?_ ?_)
   refine eP.auto 0 ?_ rfl ?_<;>simp only [go_sem,Int.natCast_succ,Post,e]
 ·have e:t=gG p s:=by rw [←he,Ia (fun h=>by omega)]
  refine eP.auto 0 ?_ rfl ?_<;>simp only [go_sem,Int.natCast_succ,Post,e]
set_option maxHeartbeats 1000000 in
theorem Sr (s cut:List UInt8) (hc:∀ i,i<cut.length→(cut.getD i 0).toNat<128) (h2:2≤cut.length) :
  aU Tryd.prog 43 [.str s,.str cut] (.str ((gG (yE cut) s).dropWhile (yE cut))) []:=by
 have hlen:=mZ cut cut.length
 have km:=FD cut hc
 have hg:∀ c:UInt8,(eY cut cut.length).getD c.toNat false=yE cut c:=fun c=>by
  rw [yx cut c _ (Nat.le_refl _),List.take_length];rfl
 have hne:¬cut=[]:=fun e=>by subst e;simp at h2
 refine aU.aY Tryd.func43 rfl (by decide) (by simp [Tryd.f43]) [.tmp 4] rfl fun w0 T0 _=>?_
 simp only [Tryd.f43,aK]
 by_cases h0:s=[]
 ·have e:(gG (yE cut) []).dropWhile (yE cut)=[]:=rfl
  (repeat' with_reducible first|intro _|refine rz ?_|refine ra ?_ ?_|omega|simp only [go_sem,h0])
  refine eP.auto 0 ?_ rfl ?_<;>simp only [go_sem,Int.natCast_succ,Post,e]
 generalize yE cut=p at *
 (repeat' with_reducible first|intro _|refine rz ?_|refine ra ?_ ?_|omega|simp only [go_sem,h0,hne])
 refine aj.fr (args':=[.str cut]) (dW.dP km (by simp [iL,fK,yR]) rfl) (by simp [aV,bf,aH]) 0 (by simp [Fv.below,aQ,pq]) (by simp [bn]) ?_
 generalize eY cut cut.length=tab at hlen hg ⊢
 simp only [go_sem]
 have e1:spl (List.replicate 256 (AV.bool false)) 0 (tab.map .bool)=tab.map .bool:=NI (by simp [hlen])
 refine aZ.intro (by simp [hlen]) ?_
 rw [e1]
 refine aZ.intro (by omega) ?_
 refine aj.fr (args':=[.str s,.cell (tab.map .bool)]) (dW.dP (C9 tab hlen p hg s) rfl rfl) ?_ 0 rfl (by simp [bn]) ?_
 ·exact ⟨_,_,rfl,⟨_,_,⟨_,_,_,rfl,qG _ 4 _,rfl⟩,rfl,rfl⟩,rfl⟩
 simp only [go_sem]
 refine aj.fr (args':=[.str (gG p s),.cell (tab.map .bool)]) (dW.dP (Gm tab hlen p hg (gG p s)) rfl rfl) ?_ 0 rfl (by simp [bn]) ?_
 ·exact ⟨_,_,rfl,⟨_,_,⟨_,_,_,rfl,qG _ 4 _,rfl⟩,rfl,rfl⟩,rfl⟩
 simp only [go_sem]
 refine eP.auto 0 ?_ rfl ?_<;>simp only [go_sem,Int.natCast_succ,Post]
def nameB (c:UInt8):Bool:=decide (97≤c.toNat) && decide (c.toNat≤122) || decide (48≤c.toNat) && decide (c.toNat≤57) || decide (c.toNat=45)
def KL (s:List UInt8):Bool:=decide (s≠[]) && decide (s.length≤40) && (decide (97≤(s.getD 0 0).toNat) && decide ((s.getD 0 0).toNat≤122)) && s.all nameB
set_option maxRecDepth 20000 in
theorem Ql:∀ n:Nat,n<256→yE cutset (UInt8.ofNat n)=nameB (UInt8.ofNat n):=by decide
theorem KA:yE cutset=nameB:=funext fun c=>by
 have h:=Ql c.toNat c.toNat_lt
 simpa using h
set_option maxHeartbeats 1000000 in
theorem OB (s:List UInt8):aU Tryd.prog 16 [.str s] (.bool (KL s)) []:=by
 have k:=Sr s cutset cut_small (by decide)
 rw [KA] at k
 have ht:=Sv nameB s
 have hcut:cutset=[97,98,99,100,101,102,103,104,105,106,107,108,109,110,111,112,113,114,115,116,117,118,119,120,121,122,48,49,50,51,52,53,54,55,56,57,45]:=rfl
 unfold KL
 generalize gG nameB s=t at *
 generalize t.dropWhile nameB=t at *
 generalize s.all nameB=a at *
 refine aU.aY Tryd.func16 rfl (by decide) (by simp [Tryd.f16]) [.tmp 2] rfl fun w0 T0 _=>?_
 simp only [Tryd.f16,aK]
 by_cases h0:s=[]
 ·(repeat' with_reducible first|intro _|refine rz ?_|refine ra ?_ ?_|omega|simp only [go_sem,h0])
  refine eP.auto 0 ?_ rfl ?_<;>simp only [go_sem,Int.natCast_succ,Post]
  all_goals simp
 ·have hlp:0<s.length:=List.length_pos_iff.2 h0
  (repeat' with_reducible first|intro _|refine rz ?_|refine ra ?_ ?_|omega|simp only [go_sem,h0])
  all_goals first
   |(refine aj.fr (args':=[.str s,.str cutset]) (dW.dP k rfl rfl) (by simp [aV,bf,aH,cutset]) 0 rfl (by simp [bn]) ?_
     (repeat' with_reducible first|intro _|exact dn|refine rn ?_|refine ra ?_ ?_)
     refine eP.auto 0 ?_ rfl ?_<;>simp only [go_sem,Int.natCast_succ,Post])
   |(refine eP.auto 0 ?_ rfl ?_<;>simp only [go_sem,Int.natCast_succ,Post])
  all_goals
   rw [Bool.eq_iff_iff]
   simp only [Bool.and_eq_true,decide_eq_true_eq,ht,Bool.false_eq_true,false_iff]
   first
    | exact ⟨fun ha=>⟨⟨⟨h0,by omega⟩,by omega,by omega⟩,ha⟩,fun h=>h.2⟩
    |(intro h;omega)
end Go.Fv.L
/- The laws' first question. -/
namespace Go.Fv.L
open Go Go.Proofs
theorem OC:aU Tryd.prog 4 [] (.bool true) []:=by
 have k:=OB [97]
 refine aU.aY Tryd.func4 rfl (by decide) (by simp [Tryd.f4]) [.tmp 0] rfl fun w0 T0 _=>?_
 simp only [Tryd.f4,aK]
 have e:KL [97]=true:=by decide
 rw [e] at k
 (repeat' with_reducible first|intro _|exact dn|refine rn ?_|refine ra ?_ ?_)
 refine aj.k k ?_
 (repeat' with_reducible first|intro _|exact dn|refine rn ?_|refine ra ?_ ?_)
 refine eP.auto 0 ?_ rfl ?_<;>simp only [go_sem,Int.natCast_succ,Post]
theorem Vz (a:Int) (m:Nat) (hm:m<2 ^ 63):0≤iJ .and .i64 a m∧iJ .and .i64 a m≤m:=by
 unfold iJ
 dsimp only
 have h1:(BitVec.ofInt 64 a &&& BitVec.ofInt 64 (m:Int)).toNat≤m:=by
  rw [BitVec.toNat_and]
  refine Nat.le_trans Nat.and_le_right ?_
  rw [BitVec.ofInt_natCast,BitVec.toNat_ofNat]
  exact Nat.mod_le _ _
 rw [show IntKind.i64.bits=64 from rfl]
 rw [Cj (kY.2 ⟨by omega,by omega⟩)]
 omega
def lC (a:Int) (m:Nat):Nat:=(1+iJ .and .i64 a m).toNat
theorem zq (a:Int) (m:Nat) (hm:m<2 ^ 63):1≤lC a m∧lC a m≤m+1∧1+iJ .and .i64 a m=((lC a m:Nat):Int):=by
 have:=Vz a m hm
 unfold lC;omega
def Ku (p:List Bool) (w x y:Nat):Bool:=decide (0<p.length) && p.getD ((y*w+x)%p.length) false
set_option maxHeartbeats 2000000 in
theorem TQ (W H:Int) (p:List Bool) (w x y:Nat) (hw:w≤32) (hx:x<w) (hy:y<32) :
  aU Tryd.prog 18 [.int .i64 x,.int .i64 y,.cell [.int .i64 W,.int .i64 H,.ro (.bools p)],.cell [.int .i64 w]] (.bool (Ku p w x y)) []:=by
 have b1:y*w≤32*32:=Nat.mul_le_mul (by omega) hw
 have hm:=Nat.mod_lt (y*w+x) (y:=p.length)
 refine aU.aY Tryd.func18 rfl (by decide) (by simp [Tryd.f18]) [.tmp 6] rfl fun w0 T0 _=>?_
 simp only [Tryd.f18,aK]
 (repeat' with_reducible first|intro _|exact dn|refine rn ?_|refine ra ?_ ?_)
 refine aP.lex [] [] (by kernel_rfl) (by kernel_rfl) ?_
 (repeat' with_reducible first|intro _|refine rz ?_|refine ra ?_ ?_|omega|simp only [go_sem,up_mul,up_add,up_tmod,Int.toNat_natCast])
 refine eP.auto 0 ?_ rfl ?_<;>simp only [go_sem,Int.natCast_succ,Post,Ku]
 simp
set_option maxHeartbeats 2000000 in
theorem VL (W H:Int) (p:List Bool) :
  aU Tryd.prog 5 [.agg [.int .i64 W,.int .i64 H,.ro (.bools p)]] (.agg [.int .i64 (lC W 31),.int .i64 (lC H 31),.own 0]) [(0,.row 4 (.bools (rowsOf (lC W 31) (Ku p (lC W 31)) (lC H 31*lC W 31))))]:=by
 obtain ⟨w1,w2,w3⟩:=zq W 31 (by decide)
 obtain ⟨h1,h2,h3⟩:=zq H 31 (by decide)
 replace w3:1+iJ .and .i64 W 31=((lC W 31:Nat):Int):=w3
 replace h3:1+iJ .and .i64 H 31=((lC H 31:Nat):Int):=h3
 generalize lC W 31=w at *
 generalize lC H 31=h at *
 haveI c1:qC [.cell [.int .i64 W,.int .i64 H,.ro (.bools p)],.cell [.int .i64 w]]:=⟨rfl⟩
 have k1:=Np w h (by omega) (by omega) 18 [.cell [.int .i64 W,.int .i64 H,.ro (.bools p)],.cell [.int .i64 w]] (Ku p w)
  (fun x y hx hy=>dW.dP (TQ W H p w x y (by omega) hx (by omega)) rfl rfl)
 generalize rowsOf w (Ku p w) (h*w)=out at *
 refine aU.aY Tryd.func5 rfl (by decide) (by simp [Tryd.f5]) [.cell 2 24] rfl fun w0 T0 _=>?_
 simp only [Tryd.f5,aK]
 (repeat' with_reducible first|intro _|exact dn|refine rn ?_|refine ra ?_ ?_)
 refine aP.lex [8,9] [(0,[1]),(1,[1]),(2,[1]),(3,[1]),(4,[1,2]),(5,[1,2]),(6,[1,2]),(7,[1,2])] (by kernel_rfl) (by kernel_rfl) ?_
 (repeat' with_reducible first|intro _|refine rz ?_|refine ra ?_ ?_|omega|simp only [go_sem,w3,h3])
 refine aj.o k1 1 ?_
 (repeat' with_reducible first|intro _|exact dn|refine rn ?_|refine ra ?_ ?_)
 refine eP.auto 1 ?_ rfl ?_<;>simp only [go_sem,Int.natCast_succ,Post]
 all_goals simp only [go_sem]
end Go.Fv.L
/- The law RulesMatch. -/
namespace Go.Fv.L
open Go Go.Proofs
def fE (w h:Nat) (M:List Pl):Int:=if M.all (fun r=>decide (lX w h r))=true then 0 else 13
theorem WS {w h:Nat} {M:List Pl} {i:Nat} (hi:i<M.length) (hb:lX w h (M.getD i Pl.zero)):jk [fE w h (M.take i),0]=fE w h (M.take (i+1)):=by
 rw [getD_lt hi] at hb
 unfold fE
 rw [List.take_succ_eq_append_getElem hi,List.all_append,List.all_cons,List.all_nil,decide_eq_true hb,Bool.and_true,Bool.and_true]
 split<;>rfl
theorem VK {w h:Nat} {M:List Pl} {i:Nat} (hi:i<M.length) (hb:¬lX w h (M.getD i Pl.zero)):jk [fE w h (M.take i),13]=fE w h (M.take (i+1)):=by
 rw [getD_lt hi] at hb
 unfold fE
 rw [List.take_succ_eq_append_getElem hi,List.all_append,List.all_cons,List.all_nil,decide_eq_false hb,Bool.false_and,Bool.and_false]
 split<;>rfl
theorem TN {w h:Nat} {M:List Pl} (hM:∀ r,r∈M→lX w h r):fE w h M=0:=by
 unfold fE
 rw [if_pos (List.all_eq_true.2 fun r hr=>decide_eq_true (hM r hr))]
theorem VJ {w h:Nat} {M:List Pl} (hM:¬∀ r,r∈M→lX w h r):fE w h M=13:=by
 unfold fE
 rw [if_neg]
 intro hf
 exact hM fun r hr=>of_decide_eq_true (List.all_eq_true.1 hf r hr)
def WE (w h:Nat) (q:List Bool) (M:List Pl) (i:Nat):Go.Fv.S:=⟨94,[(2,.ro (rls M)),(3,.ptr 0 0),(9,.int .i64 (fE w h (M.take i))),(56,.ro (rls M)),(57,.int .i64 M.length),(58,.int .i64 i)],[(0,.box 24 [.int .i64 w,.int .i64 h,.ro (.bools q)])],1⟩
set_option maxHeartbeats 32000000 in
theorem CX (W H:Int) (p:List Bool) (least:Int) (L:List Pl):aU Tryd.prog 3 [.agg [.int .i64 W,.int .i64 H,.ro (.bools p)],.int .i64 least,.ro (rls L)] (.bool true) []:=by
 obtain ⟨w1,w2,_⟩:=zq W 31 (by decide)
 obtain ⟨h1,h2,_⟩:=zq H 31 (by decide)
 have k1:=VL W H p
 have hl:=uS (lC W 31) (Ku p (lC W 31)) (lC H 31*lC W 31)
 generalize rowsOf (lC W 31) (Ku p (lC W 31)) (lC H 31*lC W 31)=q at *
 generalize lC W 31=w at *
 generalize lC H 31=h at *
 rw [Nat.mul_comm] at hl
 have hwh:w*h≤32*32:=Nat.mul_le_mul (by omega) (by omega)
 refine aU.aY Tryd.func3 rfl (by decide) (by simp [Tryd.f3]) [.tmp 6] rfl fun w0 T0 _=>?_
 simp only [Tryd.f3,aK]
 (repeat' with_reducible first|intro _|exact dn|refine rn ?_|refine ra ?_ ?_)
 refine aj.k OC ?_
 (repeat' with_reducible first|intro _|exact dn|refine rn ?_|refine ra ?_ ?_)
 refine aj.ro (.agg [.int .i64 w,.int .i64 h,.ro (.bools q)]) (dW.dP k1 rfl rfl) (by simp only [aG,aV,dI,bf,aH,List.drop_zero,lk,reduceIte,reduceCtorEq,Nat.reduceEqDiff,Option.some.injEq,Item.row.injEq,Item.box.injEq,AV.ro.injEq,exists_eq_left,exists_and_left,exists_eq_left',exists_eq_right,and_assoc,and_true,true_and,List.cons.injEq,exists_eq',exists_eq]) (by simp [gX,dI,bf,aH,lk]) rfl ?_
 (repeat' with_reducible first|intro _|exact dn|refine rn ?_|refine ra ?_ ?_)
 by_cases hle:least<2∨4000<least
 case' pos=>
  have k2:=Pg q w h w1 (by omega) h1 (by omega) hl least hle
  refine aj.ro (.tup [.ro (rls []),.int .i64 3]) (dW.dP k2 rfl (by simp [dR,dQ,gq,fK,iL,aG])) (by simp only [aG,aV,dI,bf,aH,List.drop_zero,lk,reduceIte,reduceCtorEq,Nat.reduceEqDiff,Option.some.injEq,Item.row.injEq,Item.box.injEq,AV.ro.injEq,exists_eq_left,exists_and_left,exists_eq_left',exists_eq_right,and_assoc,and_true,true_and,List.cons.injEq,exists_eq',exists_eq,aG]) (by simp [gX,aV,bf,dI,aH,lk,aG]) rfl ?_
  (repeat' with_reducible first|intro _|refine rz ?_|refine ra ?_ ?_|omega|simp only [go_sem,List.length_map,List.map_nil])
  refine aJ.intro (WE w h q L) (fun i=>i≤L.length) (fun i=>L.length - i) 0 ?_ (Nat.zero_le _) ?_
  ·refine aS.aB rfl ?_ ?_<;>simp only [go_sem,Int.natCast_succ,WE,fE]
   all_goals rfl
  have hMl:L.length≤9223372036854775807:=by assumption
  generalize L=M at hMl ⊢
  clear k2
 case' neg=>
  have g1:(least<2)=False:=eq_false (by omega)
  have g2:((4000:Int)<least)=False:=eq_false (by omega)
  obtain ⟨ls,rfl⟩:∃ k:Nat,least=k:=⟨least.toNat,by omega⟩
  obtain ⟨c1,hc1⟩:=fG.ex (nZ q w h ls).length (fZ (nZ q w h ls)) (fun x y hxy=>hxy.lt)
  obtain ⟨c2,hc2⟩:=fG.ex (nY q w h ls).length (fZ (nY q w h ls)) (fun x y hxy=>hxy.lt)
  have k2:=RP q w h w1 (by omega) h1 (by omega) hl ls (by omega) (by omega) c1 c2 hc1 hc2
  have k3:=Lh w h ls q w1 (by omega) h1 (by omega) hl (by omega) (by omega) c1 c2 hc1 hc2
  have n1:(nZ q w h ls).length≤h*w:=fM _ _ _ _
  have n2:(nY q w h ls).length≤w*h:=fM _ _ _ _
  have hwh2:h*w≤32*32:=Nat.mul_le_mul (by omega) (by omega)
  have o1:=jq c1 (nZ q w h ls) (nZ q w h ls).length
  have o2:=jq c2 (nY q w h ls) (nY q w h ls).length
  have o3:=xR (dG c1 (nZ q w h ls) (nZ q w h ls).length) (dG c2 (nY q w h ls) (nY q w h ls).length)
  have o4:=dB (jr (dG c1 (nZ q w h ls) (nZ q w h ls).length) (dG c2 (nY q w h ls) (nY q w h ls).length))
  have hZl:(aO (jr (dG c1 (nZ q w h ls) (nZ q w h ls).length) (dG c2 (nY q w h ls) (nY q w h ls).length))).length≤3000:=by omega
  clear o1 o2 o3 o4
  generalize aO (jr (dG c1 (nZ q w h ls) (nZ q w h ls).length) (dG c2 (nY q w h ls) (nY q w h ls).length))=Z at *
  have hmin:min (L.length:Int) 5=((min L.length 5:Nat):Int):=by omega
  have kc:=J6 (L.take (min L.length 5)) (by rw [List.length_take];omega)
  refine aj.ro (.tup [.ro (rls Z),.int .i64 0]) (dW.dP k2 rfl (by simp [dR,dQ,gq,fK,iL,aG,uP])) (by simp only [aG,aV,dI,bf,aH,List.drop_zero,lk,reduceIte,reduceCtorEq,Nat.reduceEqDiff,Option.some.injEq,Item.row.injEq,Item.box.injEq,AV.ro.injEq,exists_eq_left,exists_and_left,exists_eq_left',exists_eq_right,and_assoc,and_true,true_and,List.cons.injEq,exists_eq',exists_eq,aG]) (by simp [gX,aV,bf,dI,aH,lk,aG]) rfl ?_
  (repeat' with_reducible first|intro _|refine rz ?_|refine ra ?_ ?_|omega|simp only [go_sem,g1,g2])
  refine aj.ro (.ro (rls Z)) (dW.dP k3 rfl (by simp [dR,dQ,gq,fK,iL,aG,uP])) (by simp only [aG,aV,dI,bf,aH,List.drop_zero,lk,reduceIte,reduceCtorEq,Nat.reduceEqDiff,Option.some.injEq,Item.row.injEq,Item.box.injEq,AV.ro.injEq,exists_eq_left,exists_and_left,exists_eq_left',exists_eq_right,and_assoc,and_true,true_and,List.cons.injEq,exists_eq',exists_eq,aG]) (by simp [gX,aV,bf,dI,aH,lk,aG]) rfl ?_
  (repeat' with_reducible first|intro _|refine rz ?_|refine ra ?_ ?_|omega|simp only [go_sem,g1,g2])
  refine aj.fr (dW.dP (Kr Z) rfl rfl) (by simp only [aG,aV,dI,bf,aH,List.drop_zero,lk,reduceIte,reduceCtorEq,Nat.reduceEqDiff,Option.some.injEq,Item.row.injEq,Item.box.injEq,AV.ro.injEq,exists_eq_left,exists_and_left,exists_eq_left',exists_eq_right,and_assoc,and_true,true_and,List.cons.injEq,exists_eq',exists_eq,aG]) 0 rfl (by simp [bn]) ?_
  have htk:(L.map uP).take (min L.length 5)=(L.take (min L.length 5)).map uP:=List.map_take.symm
  (repeat' with_reducible first|intro _|refine rz ?_|refine ra ?_ ?_|omega|simp only [go_sem,List.length_map,FH,hmin,Int.toNat_natCast,Nat.sub_zero,htk])
  have hal:(L.take (min L.length 5)).length≤5:=by rw [List.length_take];omega
  generalize L.take (min L.length 5)=A at *
  refine aj.fr (dW.dP kc rfl (by simp [dR,dQ,gq,fK,iL,aG,uP])) (by simp only [aG,aV,dI,bf,aH,List.drop_zero,lk,reduceIte,reduceCtorEq,Nat.reduceEqDiff,Option.some.injEq,Item.row.injEq,Item.box.injEq,AV.ro.injEq,exists_eq_left,exists_and_left,exists_eq_left',exists_eq_right,and_assoc,and_true,true_and,List.cons.injEq,exists_eq',exists_eq,aG]) 1 rfl (by simp [bn,Item.below,Fv.below,aQ,ak]) ?_
  (repeat' with_reducible first|intro _|refine rz ?_|refine ra ?_ ?_|omega|simp only [go_sem,List.length_map])
  rw [show A.length+Z.length=(A++Z).length from List.length_append.symm]
  refine aJ.intro (WE w h q (A++Z)) (fun i=>i≤(A++Z).length) (fun i=>(A++Z).length - i) 0 ?_ (Nat.zero_le _) ?_
  ·refine aS.trans (aS.fz 2 (e:=35) (r:=.objs 5 (A.map uP++Z.map uP)) rfl (by rw [←List.map_append];exact aG _) (Nat.zero_le _)) (aS.aB rfl ?_ ?_)<;>simp only [go_sem,Int.natCast_succ,WE,fE,List.map_append]
   all_goals rfl
  have hMl:(A++Z).length≤9223372036854775807:=by rw [List.length_append];omega
  generalize A++Z=M at hMl ⊢
  clear k2 k3 kc
 all_goals
  intro i hi
  by_cases hlt:i<M.length
  case pos=>
   have f1:((i:Int)<(M.length:Int))=True:=eq_true (by omega)
   have he:=rl_elem M hlt
   have kI:=FQ w h w1 (by omega) h1 (by omega) (M.getD i Pl.zero).a1 (M.getD i Pl.zero).a2 (M.getD i Pl.zero).a3 (M.getD i Pl.zero).a4
   unfold WE
   by_cases hb:lX w h (M.getD i Pl.zero)
   ·have hE:=WS hlt hb
    unfold lX at hb
    rw [decide_eq_true hb] at kI
    have kw:=NY false 13
    rw [if_neg (by decide)] at kw
    have k2:=Ih [fE w h (M.take i),0] (by show 2≤1000;decide)
    rw [hE] at k2
    generalize fE w h (M.take i)=E0 at *
    (repeat' with_reducible first|intro _|refine rz ?_|refine ra ?_ ?_|omega|simp only [go_sem,f1,aN,he,List.length_map])
    refine aj.k kI ?_
    (repeat' with_reducible first|intro _|exact dn|refine rn ?_|refine ra ?_ ?_)
    refine aj.k kw ?_
    (repeat' with_reducible first|intro _|exact dn|refine rn ?_|refine ra ?_ ?_)
    refine aj.k k2 ?_
    (repeat' with_reducible first|intro _|exact dn|refine rn ?_|refine ra ?_ ?_)
    refine ⟨i+1,aS.aB rfl ?_ ?_,by omega,by omega⟩<;>simp only [go_sem,Int.natCast_succ]
   ·have hE:=VK hlt hb
    unfold lX at hb
    rw [decide_eq_false hb] at kI
    have kw:=NY true 13
    rw [if_pos rfl] at kw
    have k2:=Ih [fE w h (M.take i),13] (by show 2≤1000;decide)
    rw [hE] at k2
    generalize fE w h (M.take i)=E0 at *
    (repeat' with_reducible first|intro _|refine rz ?_|refine ra ?_ ?_|omega|simp only [go_sem,f1,aN,he,List.length_map])
    refine aj.k kI ?_
    (repeat' with_reducible first|intro _|exact dn|refine rn ?_|refine ra ?_ ?_)
    refine aj.k kw ?_
    (repeat' with_reducible first|intro _|exact dn|refine rn ?_|refine ra ?_ ?_)
    refine aj.k k2 ?_
    (repeat' with_reducible first|intro _|exact dn|refine rn ?_|refine ra ?_ ?_)
    refine ⟨i+1,aS.aB rfl ?_ ?_,by omega,by omega⟩<;>simp only [go_sem,Int.natCast_succ]
  have e:i=M.length:=by omega
  subst e
  have f1:((M.length:Int)<(M.length:Int))=False:=eq_false (by omega)
  unfold WE
  rw [List.take_length]
  by_cases hM:∀ r,r∈M→lX w h r
  ·have k4:=LV w h w1 (by omega) h1 (by omega) q hl M hM
   have k5:=G7 w h w1 (by omega) h1 (by omega) q hl M hM
   rw [TN hM]
   have ka:=PV w h (NZ q w M) 0 w h (NZ q w M)
   generalize NZ q w M=Q at *
   (repeat' with_reducible first|intro _|refine rz ?_|refine ra ?_ ?_|omega|simp only [go_sem,f1])
   refine aj.ro (.tup [.agg [.int .i64 w,.int .i64 h,.ro (.bools Q)],.int .i64 0]) (dW.dP k4 rfl rfl) (by simp only [aG,aV,dI,bf,aH,List.drop_zero,lk,reduceIte,reduceCtorEq,Nat.reduceEqDiff,Option.some.injEq,Item.row.injEq,Item.box.injEq,AV.ro.injEq,exists_eq_left,exists_and_left,exists_eq_left',exists_eq_right,and_assoc,and_true,true_and,List.cons.injEq,exists_eq',exists_eq,aG]) (by simp [gX,aV,bf,dI,aH,lk,aG]) rfl ?_
   (repeat' with_reducible first|intro _|exact dn|refine rn ?_|refine ra ?_ ?_)
   refine aP.lex [] [] (by kernel_rfl) (by kernel_rfl) ?_
   (repeat' with_reducible first|intro _|exact dn|refine rn ?_|refine ra ?_ ?_)
   refine QV.intro (.agg [.int .i64 w,.int .i64 h,.ro (.bools Q)]) ?_ ?_
   ·(repeat' with_reducible first|intro _|exact dn|refine rn ?_|refine ra ?_ ?_)
    refine aj.ro (.agg [.int .i64 w,.int .i64 h,.ro (.bools Q)]) (dW.dP k5 rfl rfl) (by simp only [aG,aV,dI,bf,aH,List.drop_zero,lk,reduceIte,reduceCtorEq,Nat.reduceEqDiff,Option.some.injEq,Item.row.injEq,Item.box.injEq,AV.ro.injEq,exists_eq_left,exists_and_left,exists_eq_left',exists_eq_right,and_assoc,and_true,true_and,List.cons.injEq,exists_eq',exists_eq,aG]) (by simp [gX,aV,bf,dI,aH,lk,aG]) rfl ?_
    (repeat' with_reducible first|intro _|exact dn|refine rn ?_|refine ra ?_ ?_)
   (repeat' with_reducible first|intro _|exact dn|refine rn ?_|refine ra ?_ ?_)
   refine QV.intro (.bool true) ?_ ?_
   ·(repeat' with_reducible first|intro _|exact dn|refine rn ?_|refine ra ?_ ?_)
    refine aj.k ka ?_
    (repeat' with_reducible first|intro _|exact dn|refine rn ?_|refine ra ?_ ?_)
   (repeat' with_reducible first|intro _|exact dn|refine rn ?_|refine ra ?_ ?_)
   refine eP.auto 0 ?_ rfl ?_<;>simp only [go_sem,Int.natCast_succ,Post]
  ·have k4:=JH w h w1 (by omega) h1 (by omega) q hl M hM
   rw [VJ hM]
   have ka:=Oe 0 0 [] 13 w h q 13 (by decide)
   (repeat' with_reducible first|intro _|refine rz ?_|refine ra ?_ ?_|omega|simp only [go_sem,f1])
   refine aj.fr (dW.dP k4 rfl rfl) (by simp only [aG,aV,dI,bf,aH,List.drop_zero,lk,reduceIte,reduceCtorEq,Nat.reduceEqDiff,Option.some.injEq,Item.row.injEq,Item.box.injEq,AV.ro.injEq,exists_eq_left,exists_and_left,exists_eq_left',exists_eq_right,and_assoc,and_true,true_and,List.cons.injEq,exists_eq',exists_eq,aG]) 0 rfl (by simp [bn]) ?_
   (repeat' with_reducible first|intro _|exact dn|refine rn ?_|refine ra ?_ ?_)
   refine aj.fr (dW.dP ka rfl rfl) (by simp [aV,bf,aH,nilRow,lk]) 0 rfl (by simp [bn]) ?_
   (repeat' with_reducible first|intro _|exact dn|refine rn ?_|refine ra ?_ ?_)
   refine eP.auto 0 ?_ rfl ?_<;>simp only [go_sem,Int.natCast_succ,Post]
end Go.Fv.L
