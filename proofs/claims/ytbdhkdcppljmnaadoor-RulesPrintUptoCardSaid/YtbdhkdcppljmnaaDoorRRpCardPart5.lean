/-
  A part of the proof of the claim: walks over the program's functions and the plain laws that these need. No condition of its own.
-/
import Derived.Test.YtbdhkdcppljmnaaDoorRRpCardPart4
import Derived.Test.YtbdhkdcppljmnaaDoorRRpCardPart3
import Derived.Test.YtbdhkdcppljmnaaDoorRRpCardPart1
import Derived.Test.YtbdhkdcppljmnaaDoorFvPart10
import Derived.Shelf.Small.Strs
import Derived.Test.YtbdhkdcppljmnaaDoorFvPart6
import Derived.Lib.MapLaws
import Derived.Lib.DecodeN
set_option linter.unusedSimpArgs false
set_option linter.unusedVariables false
set_option linter.unnecessarySimpa false
set_option maxRecDepth 8000
/- ParseRules. -/
namespace Go.Fv.R
open Go Go.Proofs
theorem Aw (c:UInt8) (s:Bytes):(cZ c s).length≤s.length:=by
 have:=congrArg List.length (dW c s);rw [List.length_append] at this;omega
theorem yG (k:Nat):∀ (n:Nat) (s:Bytes) (acc:List Bytes),s.length≤k→(∀ w,w∈acc→w.length≤k)→∀ w,w∈(uo n s acc).1→w.length≤k
 | 0,s,acc,_,_=>fun w hw=>by cases hw
 | n+1,s,acc,hs,ha=>by
  have hb:=Aw 32 s
  have hap:∀ w,w∈acc++[cZ 32 s]→w.length≤k:=fun w hw=>by
   rcases List.mem_append.1 hw with h|h
   ·exact ha w h
   ·rw [List.mem_singleton.1 h];omega
  unfold uo
  split
  ·split<;>exact ha
  ·split
   ·exact ha
   ·split
    ·rename_i h
     have:=pU h
     exact yG k n _ _ (by omega) hap
    ·exact hap
theorem Jj (s:Bytes):∀ w,w∈(BF s).1.words→w.length≤s.length:=by
 unfold BF
 cases h:sp1 (fE 58 s) with
 | none=>intro w hw;cases hw
 | some m=>
  dsimp only
  have hm:m.length≤s.length:=by
   have h1:=wE 58 s
   cases h2:fE 58 s with
   | nil=>rw [h2] at h;cases h
   | cons x t=>
    rw [h2] at h h1
    have:=(Ih (x:=x) (s:=t)).2 m
    have:=congrArg List.length (this.1 h)
    rw [List.length_cons] at h1 this
    omega
  split
  ·intro w hw;cases hw
  ·exact fun w hw=>Nat.le_trans (yG m.length _ m [] (Nat.le_refl _) (fun w hw=>by cases hw) w hw) hm
def zW (s:Bytes):List Ru × Int × Int:=if 1048576<s.length then ([],0,4) else
 if (oZ (s.length+1) s [] 0).2.2≠0 then oZ (s.length+1) s [] 0 else
 if bn (oZ (s.length+1) s [] 0).1≠0 then ([],0,bn (oZ (s.length+1) s [] 0).1) else ((oZ (s.length+1) s [] 0).1,0,0)
theorem KX (n:Nat) (s:Bytes) (acc:List Ru) (i:Nat) (h:s≠[]):oZ (n+1) s acc i=if 10∈s∧(BF (cZ 10 s)).2=true then oZ n ((fE 10 s).drop 1) (acc++[(BF (cZ 10 s)).1]) (i+1) else ([],i,8):=by
 conv=>lhs;unfold oZ
 rw [if_neg h]
 have hm:=oD 10 s
 cases h2:fE 10 s with
 | nil=>
  rw [h2] at hm
  rw [if_neg (fun e=>hm.1 e.1 rfl)]
 | cons x t=>
  have hm:10∈s:=hm.2 (by rw [h2];simp)
  dsimp only
  rw [ND]
  by_cases hq:(BF (cZ 10 s)).2=true
  ·rw [if_pos hq,if_pos ⟨hm,hq⟩];rfl
  ·rw [if_neg hq,if_neg (fun e=>hq e.2)]
theorem xJ:∀ (n m:Nat) (s:Bytes) (acc:List Ru) (i:Nat),s.length<n→s.length<m→oZ n s acc i=oZ m s acc i
 | 0,_,s,_,_,h,_=>absurd h (by omega)
 | _,0,s,_,_,_,h=>absurd h (by omega)
 | n+1,m+1,s,acc,i,h1,h2=>by
  unfold oZ
  cases h:fE 10 s with
  | nil=>rfl
  | cons x t=>
   have:=pU h
   dsimp only
   cases LW (cZ 10 s) with
   | none=>rfl
   | some r=>dsimp only;rw [xJ n m t _ _ (by omega) (by omega)]
def OE (x:Bytes × List Ru × Nat):Go.Fv.S:=⟨49,[(0,.str x.1),(5,.own 0),(6,.int .i64 x.2.2)],[(0,.row 36 (iC x.2.1))],1⟩
set_option maxHeartbeats 4000000 in
theorem xI (s0:Bytes):aC Tryd.prog 8 [.str s0] (.tup [.own 0,.int .i64 (zW s0).2.1,.int .i64 (zW s0).2.2]) [(0,.row 36 (iC (zW s0).1))]:=by
 refine aC.aO Tryd.func8 rfl (by decide) (by simp [Tryd.f8]) [.tmp 2,.tmp 3,.tmp 4] rfl fun w0 T0 _=>?_
 simp only [Tryd.f8,aB]
 have hP:zW s0=if 1048576<s0.length then ([],0,4) else
  if (oZ (s0.length+1) s0 [] 0).2.2≠0 then oZ (s0.length+1) s0 [] 0 else
  if bn (oZ (s0.length+1) s0 [] 0).1≠0 then ([],0,bn (oZ (s0.length+1) s0 [] 0).1) else ((oZ (s0.length+1) s0 [] 0).1,0,0):=rfl
 generalize zW s0=R at *
 by_cases hl:1048576<s0.length
 ·have g1:((1048576:Int)<(s0.length:Int))=True:=eq_true (by omega)
  rw [if_pos hl] at hP
  subst hP
  (repeat' with_reducible first|intro _|refine rz ?_|refine ra ?_ ?_|omega|simp only [go_sem,g1])
  refine aZ.auto 1 ?_ rfl ?_<;>simp only [go_sem,Int.natCast_succ,Post,List.map_nil]
 have g1:((1048576:Int)<(s0.length:Int))=False:=eq_false (by omega)
 rw [if_neg hl] at hP
 (repeat' with_reducible first|intro _|refine rz ?_|refine ra ?_ ?_|omega|simp only [go_sem,g1])
 refine aU.intro OE (fun x=>x.1.length≤1048576∧x.2.2+x.1.length≤1048576∧x.2.1.length≤x.2.2∧dF x.2.1∧oZ (x.1.length+1) x.1 x.2.1 x.2.2=oZ (s0.length+1) s0 [] 0) (fun x=>x.1.length) (s0,[],0) ?_ ⟨by dsimp only;omega,by dsimp only;omega,Nat.le_refl _,fun i hi=>by simp at hi,rfl⟩ fun x hI=>?_
 ·refine bC.aA rfl ?_ ?_<;>simp only [go_sem,Int.natCast_succ,OE,List.map_nil]
 obtain ⟨s,acc,i⟩:=x
 dsimp only at hI
 obtain ⟨h1,h2,h3,h4,h5⟩:=hI
 generalize oZ (s0.length+1) s0 [] 0=E at *
 by_cases hs:s=[]
 ·have g2:(s=[])=True:=eq_true hs
  rw [hs] at h5
  have hE:E=(acc,0,0):=h5.symm
  rw [hE] at hP
  rw [if_neg (by simp)] at hP
  have kc:=jW acc h4
  by_cases he:bn acc=0
  ·rw [he,if_neg (by decide)] at hP
   rw [he] at kc
   subst hP
   dsimp only [OE]
   (repeat' with_reducible first|intro _|refine rz ?_|refine ra ?_ ?_|omega|simp only [go_sem,g2])
   refine ah.k kc ?_
   (repeat' with_reducible first|intro _|exact dn|refine rn ?_|refine ra ?_ ?_)
   refine aZ.auto 1 ?_ rfl ?_<;>simp only [go_sem,Int.natCast_succ,Post]
  ·rw [if_pos he] at hP
   subst hP
   have g3:(bn acc=0)=False:=eq_false he
   dsimp only [OE]
   (repeat' with_reducible first|intro _|refine rz ?_|refine ra ?_ ?_|omega|simp only [go_sem,g2])
   refine ah.k kc ?_
   (repeat' with_reducible first|intro _|refine rz ?_|refine ra ?_ ?_|omega|simp only [go_sem,g3])
   refine aZ.auto 1 ?_ rfl ?_<;>simp only [go_sem,Int.natCast_succ,Post,List.map_nil]
 have g2:(s=[])=False:=eq_false hs
 rw [KX _ _ _ _ hs] at h5
 have kc:=vH s 10 (by omega)
 have hb:=Aw 10 s
 have kr:=Ey (cZ 10 s) (by omega)
 have hsm:=Jj (cZ 10 s)
 have hbl:=congrArg List.length (dW 10 s)
 rw [List.length_append] at hbl
 generalize hQ:BF (cZ 10 s)=q at *
 generalize cZ 10 s=b at *
 obtain ⟨⟨k,ws,c⟩,ok⟩:=q
 dsimp only [Ru.av] at *
 by_cases hf:10∈s∧ok=true
 ·obtain ⟨hf1,hf2⟩:=hf
  have ha:=(oD 10 s).1 hf1
  rw [if_pos ⟨hf1,hf2⟩] at h5
  rw [decide_eq_true hf1] at kc
  subst hf2
  generalize fE 10 s=a at *
  obtain ⟨y,t,rfl⟩:∃ y t,a=y::t:=by
   cases a with
   | nil=>exact absurd rfl ha
   | cons y t=>exact ⟨y,t,rfl⟩
  rw [List.drop_succ_cons,List.drop_zero] at *
  rw [List.length_cons] at hbl
  have hne:¬acc++[⟨k,ws,c⟩]=[]:=by simp
  have hnx:t.length≤1048576∧i+1+t.length≤1048576∧(acc++[(⟨k,ws,c⟩:Ru)]).length≤i+1∧dF (acc++[⟨k,ws,c⟩])∧oZ (t.length+1) t (acc++[⟨k,ws,c⟩]) (i+1)=E:=by
   refine ⟨by omega,by omega,by rw [List.length_append,List.length_singleton];omega,dS.2 fun r hr=>?_,?_⟩
   ·rcases List.mem_append.1 hr with h|h
    ·exact dS.1 h4 r h
    ·rw [List.mem_singleton.1 h]
     exact fun w hw=>Nat.le_trans (hsm w hw) (by omega)
   ·rw [←h5]
    exact xJ _ _ _ _ _ (by omega) (by omega)
  dsimp only [OE]
  (repeat' with_reducible first|intro _|refine rz ?_|refine ra ?_ ?_|omega|simp only [go_sem,g2])
  refine ah.k kc ?_
  (repeat' with_reducible first|intro _|exact dn|refine rn ?_|refine ra ?_ ?_)
  refine ah.Oc (.tup [.agg [.str k,.ro (.strs ws),.str c],.bool true]) kr (by simp only [bH,aW,fK,bf,aF,List.drop_zero,lk,reduceIte,reduceCtorEq,Nat.reduceEqDiff,Option.some.injEq,Item.row.injEq,Item.box.injEq,AV.ro.injEq,exists_eq_left,exists_and_left,exists_eq_left',exists_eq_right,and_assoc,and_true,true_and,List.cons.injEq,exists_eq',exists_eq]) (by simp [fP,aW,bf,fK,aF,lk,bH]) rfl ?_
  (repeat' with_reducible first|intro _|refine rz ?_|refine ra ?_ ?_|omega|simp only [go_sem,List.length_map])
  refine ⟨(t,acc++[⟨k,ws,c⟩],i+1),?_,hnx,by dsimp only;omega⟩
  refine bC.aA rfl ?_ ?_<;>simp only [go_sem,Int.natCast_succ,OE]
  all_goals simp [Ru.av]
 rw [if_neg hf] at h5
 have hE:E=([],(i:Int),8):=h5.symm
 rw [hE,if_pos (by simp)] at hP
 subst hP
 dsimp only [OE]
 by_cases hf1:10∈s
 ·rw [decide_eq_true hf1] at kc
  have hok:ok=false:=by simpa using fun e=>hf ⟨hf1,e⟩
  subst hok
  (repeat' with_reducible first|intro _|refine rz ?_|refine ra ?_ ?_|omega|simp only [go_sem,g2])
  refine ah.k kc ?_
  (repeat' with_reducible first|intro _|exact dn|refine rn ?_|refine ra ?_ ?_)
  refine ah.Oc (.tup [.agg [.str k,.ro (.strs ws),.str c],.bool false]) kr (by simp only [bH,aW,fK,bf,aF,List.drop_zero,lk,reduceIte,reduceCtorEq,Nat.reduceEqDiff,Option.some.injEq,Item.row.injEq,Item.box.injEq,AV.ro.injEq,exists_eq_left,exists_and_left,exists_eq_left',exists_eq_right,and_assoc,and_true,true_and,List.cons.injEq,exists_eq',exists_eq]) (by simp [fP,aW,bf,fK,aF,lk,bH]) rfl ?_
  (repeat' with_reducible first|intro _|exact dn|refine rn ?_|refine ra ?_ ?_)
  refine aZ.auto 1 ?_ rfl ?_<;>simp only [go_sem,Int.natCast_succ,Post,List.map_nil]
 ·rw [decide_eq_false hf1] at kc
  (repeat' with_reducible first|intro _|refine rz ?_|refine ra ?_ ?_|omega|simp only [go_sem,g2])
  refine ah.k kc ?_
  (repeat' with_reducible first|intro _|exact dn|refine rn ?_|refine ra ?_ ?_)
  refine ah.Oc (.tup [.agg [.str k,.ro (.strs ws),.str c],.bool ok]) kr (by simp only [bH,aW,fK,bf,aF,List.drop_zero,lk,reduceIte,reduceCtorEq,Nat.reduceEqDiff,Option.some.injEq,Item.row.injEq,Item.box.injEq,AV.ro.injEq,exists_eq_left,exists_and_left,exists_eq_left',exists_eq_right,and_assoc,and_true,true_and,List.cons.injEq,exists_eq',exists_eq]) (by simp [fP,aW,bf,fK,aF,lk,bH]) rfl ?_
  (repeat' with_reducible first|intro _|exact dn|refine rn ?_|refine ra ?_ ?_)
  refine aZ.auto 1 ?_ rfl ?_<;>simp only [go_sem,Int.natCast_succ,Post,List.map_nil]
theorem pq (s:Bytes):aC Tryd.prog 8 [.str s] (.tup [.ro (iC (zW s).1),.int .i64 (zW s).2.1,.int .i64 (zW s).2.2]) []:=
 aC.weak (xI s) (by simp [fP,aW,bf,aF,lk])
end Go.Fv.R
/- strings.Split at a byte. -/
namespace Go.Fv.R
open Go Go.Proofs
def oW (c:UInt8):Nat→Bytes→List Bytes
 | 0,s=>[s]
 | n+1,s=>cZ c s::oW c n ((fE c s).drop 1)
def O6 (c:UInt8) (s:Bytes):List Bytes:=oW c (s.count c) s
theorem Ea (c:UInt8):∀ (n:Nat) (s:Bytes),(oW c n s).length=n+1
 | 0,_=>rfl
 | n+1,s=>by simp [oW,Ea c n]
theorem sV {c:UInt8} {s t:Bytes} {x:UInt8} (h:fE c s=x::t):s.count c=t.count c+1:=by
 rcases nX c s with e|⟨u,e⟩
 ·rw [e] at h;cases h
 ·rw [e] at h;cases h
  conv=>lhs;rw [←dW c s,e]
  rw [List.count_append,List.count_cons_self,List.count_eq_zero_of_not_mem (Fh c s)];omega
theorem zu {c:UInt8} {s:Bytes} (h:0<s.count c):∃ t,fE c s=c::t:=by
 rcases nX c s with e|h2
 ·exact absurd e ((oD c s).1 (List.count_pos_iff.1 h))
 ·exact h2
theorem Ig (pre:List Bytes) (k:Nat) (x:Bytes):(pre++List.replicate (k+1) []).set pre.length x=(pre++[x])++List.replicate k []:=by
 rw [List.set_append_right _ _ (Nat.le_refl _),Nat.sub_self,List.replicate_succ,List.set_cons_zero,List.append_assoc];rfl
set_option maxHeartbeats 2000000 in
theorem Jv (s0:Bytes) (c:UInt8) (hs:s0.length≤2000000):aC Tryd.prog 23 [.str s0,.str [c]] (.own 0) [(0,.row 9 (.strs (O6 c s0)))]:=by
 have kc:=JM s0 c
 have hcl:s0.count c≤s0.length:=List.count_le_length
 have kg:aC Tryd.prog 43 [.str s0,.str [c],.int .i64 0,.int .i64 (-1)] (.own 0) [(0,.row 9 (.strs (O6 c s0)))]:=by
  refine aC.aO Tryd.func43 rfl (by decide) (by simp [Tryd.f43]) [.tmp 8] rfl fun w0 T0 _=>?_
  simp only [Tryd.f43,aB]
  unfold O6
  generalize hN:s0.count c=N at *
  have hm:min ((N:Int)+1) ((s0.length:Int)+1)=((N+1:Nat):Int):=by omega
  (repeat' with_reducible first|intro _|exact dn|refine rn ?_|refine ra ?_ ?_)
  refine ah.k kc ?_
  (repeat' with_reducible first|intro _|refine rz ?_|refine ra ?_ ?_|omega|simp only [go_sem,hm])
  refine aU.intro (fun x:Nat × Bytes × List Bytes=>⟨66,[(10,.int .i64 x.1),(3,.int .i64 N),(9,.own 0),(0,.str x.2.1),(1,.str [c]),(2,.int .i64 0)],[(0,.row 9 (.strs (x.2.2++List.replicate (N+1 - x.1) [])))],1⟩) (fun x=>x.1≤N∧x.2.2.length=x.1∧x.2.1.count c=N - x.1∧x.2.1.length≤2000000∧x.2.2++oW c (N - x.1) x.2.1=oW c N s0) (fun x=>N - x.1) (0,s0,[]) ?_ ⟨Nat.zero_le _,rfl,by simpa using hN,hs,rfl⟩ fun x hI=>?_
  ·refine bC.aA rfl ?_ ?_<;>simp only [go_sem,Int.natCast_succ]
   all_goals omega
  obtain ⟨i,s,pre⟩:=x
  obtain ⟨h1,h2,h3,h4,h5⟩:=hI
  dsimp only at *
  subst h2
  by_cases hlt:pre.length<N
  ·have f1:((pre.length:Int)<(N:Int))=True:=eq_true (by omega)
   have ki:=qR s [c] (by omega)
   obtain ⟨u,hu⟩:=zu (c:=c) (s:=s) (by omega)
   have hmem:c∈s:=(oD c s).2 (by rw [hu];simp)
   rw [AY,if_pos hmem] at ki
   have hbl:=congrArg List.length (dW c s)
   rw [List.length_append,hu,List.length_cons] at hbl
   have htb:=xX c s
   have hda:=JU hu
   have hcu:=sV hu
   have f2:(((cZ c s).length:Int)<0)=False:=eq_false (by omega)
   have f3:(((cZ c s).length:Int)+0)=((cZ c s).length:Int):=by omega
   have f4:(((cZ c s).length:Int)+1)=(((cZ c s).length+1:Nat):Int):=by omega
   have f5:(((cZ c s).length:Int)≤(s.length:Int))=True:=eq_true (by omega)
   have f6:((((cZ c s).length+1:Nat):Int)≤(s.length:Int))=True:=eq_true (by omega)
   have f7:u.take (s.length - ((cZ c s).length+1))=u:=List.take_of_length_le (by omega)
   have hst:=Ig pre (N - pre.length) (cZ c s)
   rw [show N - pre.length+1=N+1 - pre.length by omega] at hst
   have hnx:oW c (N - pre.length) s=cZ c s::oW c (N - (pre.length+1)) u:=by
    rw [show N - pre.length=(N - (pre.length+1))+1 by omega]
    show cZ c s::oW c _ ((fE c s).drop 1)=_
    rw [hu];rfl
   rw [hnx] at h5
   generalize cZ c s=b at *
   (repeat' with_reducible first|intro _|refine rz ?_|refine ra ?_ ?_|omega|simp only [go_sem,f1])
   refine ah.k ki ?_
   (repeat' with_reducible first|intro _|refine rz ?_|refine ra ?_ ?_|omega|simp only [go_sem,f2,f3,f4,f5,f6,f7,Nat.sub_zero,htb,hda,hst,List.length_replicate])
   refine ⟨(pre.length+1,u,pre++[b]),bC.aA rfl ?_ ?_,⟨by omega,by simp,by dsimp only;omega,by dsimp only;omega,by dsimp only;rw [←h5];simp⟩,by omega⟩<;>simp only [go_sem,Int.natCast_succ]
  ·have e:pre.length=N:=by omega
   subst e
   have f1:((pre.length:Int)<(pre.length:Int))=False:=eq_false (by omega)
   rw [Nat.sub_self] at h5
   have hst:=Ig pre 0 s
   rw [List.replicate_zero,List.append_nil] at hst
   have e1:pre.length+1 - pre.length=0+1:=by omega
   rw [e1]
   (repeat' with_reducible first|intro _|refine rz ?_|refine ra ?_ ?_|omega|simp only [go_sem,f1,hst,List.length_replicate])
   refine aZ.auto 1 ?_ rfl ?_<;>simp only [go_sem,Int.natCast_succ,Post]
   rw [show ((pre.length:Int)+1).toNat=pre.length+1 by omega,Nat.sub_zero,List.take_of_length_le (by simp)]
   exact h5
 refine aC.aO Tryd.func23 rfl (by decide) (by simp [Tryd.f23]) [.tmp 4] rfl fun w0 T0 _=>?_
 simp only [Tryd.f23,aB]
 (repeat' with_reducible first|intro _|exact dn|refine rn ?_|refine ra ?_ ?_)
 refine ah.o kg 1 ?_
 (repeat' with_reducible first|intro _|exact dn|refine rn ?_|refine ra ?_ ?_)
 refine aZ.auto 1 ?_ rfl ?_<;>simp only [go_sem,Int.natCast_succ,Post]
end Go.Fv.R
/- strings.IndexByte by the shelf. -/
namespace Go.Proofs
open Go.Shelf
def Tryd.DY:Go.Shelf.Ren:=⟨fun|137=>80|217=>74|266=>85|n=>n,fun|9=>9|5=>5|3=>3|n=>n,fun|n=>n⟩
theorem Tryd.lays137:Go.Proofs.Lays.n137 Tryd.prog Tryd.DY:={
 mixed:=by kernel_rfl
 f137:=Tryd.func80.trans (congrArg some (by kernel_rfl))
 f217:=Tryd.func74.trans (congrArg some (by kernel_rfl))
 f266:=Tryd.func85.trans (congrArg some (by kernel_rfl))
 t3:=Tryd.underlying3
 a3:=Tryd.isAgg3
 z3:=Tryd.sizeOf3
 v3:=Tryd.zeroValue3
 t5:=Tryd.underlying5
 a5:=Tryd.isAgg5
 z5:=Tryd.sizeOf5
 v5:=Tryd.zeroValue5
 t9:=Tryd.underlying9
 a9:=Tryd.isAgg9
 z9:=Tryd.sizeOf9
 v9:=Tryd.zeroValue9 }
end Go.Proofs
namespace Go.Fv.R
open Go Go.Proofs
def nc (c:UInt8):Bool:=!decide (c.toNat=32) && !decide (c.toNat=58)
theorem Ko (c:UInt8):∀ s:Bytes,-1≤Lib.indexByte s c∧Lib.indexByte s c<(s.length:Int)+1 - 1+(if s=[] then 1 else 0)
 | []=>⟨Int.le_refl _,by show (-1:Int)<_;simp⟩
 | b::l=>by
  have ih:=Ko c l
  unfold Lib.indexByte
  rw [if_neg (by simp:¬(b::l)=[])]
  have hl:((b::l).length:Int)=(l.length:Int)+1:=by simp
  split
  ·omega
  ·split
   ·omega
   ·rename_i h
    have h2:Lib.indexByte l c≠-1:=by simpa using h
    by_cases he:l=[]
    ·subst he;exact absurd rfl h2
    ·rw [if_neg he] at ih;omega
theorem qQ (s:Bytes) (c:UInt8) (hs:s.length≤9223372036854775807):aC Tryd.prog 80 [.str s,.int .u8 c.toNat] (.int .i64 (Lib.indexByte s c)) []:=by
 refine ⟨⟨_,Tryd.func80,by kernel_rfl,by kernel_rfl⟩,fun w T vals hg hv=>?_⟩
 cases hv with
 | cons _ _ _ _ h1 hv=>cases hv with
  | cons _ _ _ _ h2 hv=>
   cases hv
   cases h1 with
   | str _ e1=>cases h2 with
    | int _ _ e2=>
     have L:=Tryd.lays137
     refine (Any.strings_IndexByte L ⟨s.toArray⟩ c.toNat w).mono ?_
     rintro e w' ⟨rfl,rfl⟩
     refine ⟨_,rfl,ig.refl _ _,fun _=>undef,0,?_,?_,?_⟩
     ·have e3:(c.toNat:Int).toNat.toUInt8=c:=by simp
      rw [e3]
      have hb:=Ko c s
      have e1':s.length≤9223372036854775807:=hs
      refine .int _ _ (jK.2 ?_)
      split at hb<;>omega
     ·intro i it h;cases h
     ·intro i j it jt b h;cases h
end Go.Fv.R
/- The reference's way to read a line, in plain words. -/
namespace Go.Fv.R
open Go Go.Proofs
def EY:Nat→Bytes→List Bytes→List Bytes × Bytes × Bool
 | 0,_,_=>([],[],false)
 | n+1,s,acc=>if s=[] then (acc,[],true) else
  if cZ 32 s=bG then (acc,(fE 32 s).drop 1,decide (32∈s∧(fE 32 s).drop 1≠[]))
  else if cZ 32 s≠[]∧(32∉s∨(fE 32 s).drop 1≠[]) then EY n ((fE 32 s).drop 1) (acc++[cZ 32 s])
  else (acc++[cZ 32 s],[],false)
theorem qH {s:Bytes} (h:s≠[]):((fE 32 s).drop 1).length<s.length:=by
 have h1:=wE 32 s
 rw [List.length_drop]
 have:0<s.length:=List.length_pos_iff.2 h
 omega
theorem Ai:∀ (n m:Nat) (s:Bytes) (acc:List Bytes),s.length<n→s.length<m→EY n s acc=EY m s acc
 | 0,_,s,_,h,_=>absurd h (by omega)
 | _,0,s,_,_,h=>absurd h (by omega)
 | n+1,m+1,s,acc,h1,h2=>by
  unfold EY
  by_cases hs:s=[]
  ·rw [if_pos hs,if_pos hs]
  ·have:=qH hs
   rw [if_neg hs,if_neg hs,Ai n m _ _ (by omega) (by omega)]
def lY (s:Bytes) (acc:List Bytes):List Bytes × Bytes × Bool:=EY (s.length+1) s acc
theorem CW (s:Bytes) (acc:List Bytes):lY s acc=if s=[] then (acc,[],true) else
  if cZ 32 s=bG then (acc,(fE 32 s).drop 1,decide (32∈s∧(fE 32 s).drop 1≠[]))
  else if cZ 32 s≠[]∧(32∉s∨(fE 32 s).drop 1≠[]) then lY ((fE 32 s).drop 1) (acc++[cZ 32 s])
  else (acc++[cZ 32 s],[],false):=by
 unfold lY
 conv=>lhs;unfold EY
 by_cases hs:s=[]
 ·rw [if_pos hs,if_pos hs]
 ·have:=qH hs
  rw [if_neg hs,if_neg hs,Ai s.length (((fE 32 s).drop 1).length+1) _ _ (by omega) (by omega)]
theorem EX:∀ (n:Nat) (s:Bytes) (acc:List Bytes),s.length<n→s≠[]→CV s acc=(if (lY s acc).2.2=true then some ((lY s acc).1,(lY s acc).2.1) else none)∧((lY s acc).2.2=true→¬((lY s acc).1=[]∧(lY s acc).2.1=[]))
 | 0,s,_,h,_=>absurd h (by omega)
 | n+1,s,acc,h,hs=>by
  have hd:=qH hs
  have hm:=oD 32 s
  rw [vX]
  have hR:=CW s acc
  rw [if_neg hs] at hR
  by_cases h1:cZ 32 s=bG
  ·rw [if_pos h1] at hR ⊢
   rw [hR]
   cases ha:fE 32 s with
   | nil=>
    rw [ha] at hm
    have hn:¬32∈s:=fun e=>hm.1 e rfl
    simp [hn]
   | cons x c=>
    rw [ha] at hm
    have hn:32∈s:=hm.2 (by simp)
    by_cases hc:c=[]<;>simp [hn,hc]
  ·rw [if_neg h1] at hR ⊢
   by_cases h2:cZ 32 s=[]
   ·rw [if_neg (fun e=>e.1 h2)] at hR
    rw [if_pos h2,hR]
    exact ⟨rfl,fun e=>by cases e⟩
   ·rw [if_neg h2]
    cases ha:fE 32 s with
    | nil=>
     rw [ha] at hm hR
     have hn:¬32∈s:=fun e=>hm.1 e rfl
     rw [if_pos ⟨h2,.inl hn⟩,List.drop_nil,CW [] _,if_pos rfl] at hR
     rw [hR]
     exact ⟨rfl,fun _ e=>by simp at e⟩
    | cons x t=>
     rw [ha] at hm hd hR
     have hn:32∈s:=hm.2 (by simp)
     rw [List.drop_succ_cons,List.drop_zero] at hd hR
     by_cases ht:t=[]
     ·subst ht
      rw [if_neg (fun e=>e.2.elim (fun e=>e hn) fun e=>e rfl)] at hR
      rw [hR]
      exact ⟨rfl,fun e=>by cases e⟩
     ·rw [if_pos ⟨h2,.inr ht⟩] at hR
      rw [hR]
      exact EX n t _ (by omega) ht
def CY (s:Bytes):Bytes:=if 0≤Lib.index s [58,32] then s.take (Lib.index s [58,32]).toNat else s
def Ld (s:Bytes):Bytes:=if 0≤Lib.index s [58,32] then s.drop ((Lib.index s [58,32]).toNat+2) else []
def vS (s:Bytes):List Bytes × Bytes × Bool:=if 0≤Lib.index s [58,32] then lY (Ld s) [] else ([],[],false)
def tY (s:Bytes):Prop:=(vS s).2.2=true∧¬((vS s).1=[]∧(vS s).2.1=[])∧(CY s).all nc=true∧CY s≠[]
instance (s:Bytes):Decidable (tY s):=inferInstanceAs (Decidable (_∧_∧_∧_))
theorem JE (s:Bytes):s.all nc=true↔32∉s∧58∉s:=by
 induction s with
 | nil=>simp
 | cons c s ih=>
  have e1:(32=c)↔(c.toNat=32):=⟨fun h=>by rw [←h];rfl,fun h=>(UInt8.toNat_inj.1 h).symm⟩
  have e2:(58=c)↔(c.toNat=58):=⟨fun h=>by rw [←h];rfl,fun h=>(UInt8.toNat_inj.1 h).symm⟩
  rw [List.all_cons,Bool.and_eq_true,ih,List.mem_cons,List.mem_cons,e1,e2]
  unfold nc
  simp only [Bool.and_eq_true,Bool.not_eq_true',decide_eq_false_iff_not]
  constructor
  ·rintro ⟨⟨a,b⟩,c,d⟩;exact ⟨fun h=>h.elim a c,fun h=>h.elim b d⟩
  ·rintro ⟨a,b⟩;exact ⟨⟨fun h=>a (.inl h),fun h=>b (.inl h)⟩,fun h=>a (.inr h),fun h=>b (.inr h)⟩
theorem OL (s:Bytes):LW s=if tY s then some ⟨CY s,(vS s).1,(vS s).2.1⟩ else none:=by
 rcases J8 s with ⟨m,h1,h2⟩|⟨h1,h2⟩
 ·have hk:CY s=cZ 58 s:=by unfold CY;rw [h2,if_pos (by omega),Int.toNat_natCast,xX]
  have hm:Ld s=m:=by
   unfold Ld;rw [h2,if_pos (by omega),Int.toNat_natCast,←List.drop_drop,qJ,h1];rfl
  have hq:vS s=lY m []:=by unfold vS;rw [h2,if_pos (by omega),hm]
  have hO:tY s↔((lY m []).2.2=true∧¬((lY m []).1=[]∧(lY m []).2.1=[])∧(cZ 58 s).all nc=true∧cZ 58 s≠[]):=by unfold tY;rw [hk,hq]
  unfold LW
  rw [h1,hk,hq]
  have h58:=Fh 58 s
  have hn:=JE (cZ 58 s)
  generalize cZ 58 s=k at *
  show (if k=[]∨32∈k then none else (CV m []).map fun p=>(⟨k,p.1,p.2⟩:Ru))=_
  by_cases hb:k=[]∨32∈k
  ·rw [if_pos hb,if_neg]
   rw [hO]
   rintro ⟨_,_,e1,e2⟩
   exact hb.elim e2 fun e=>(hn.1 e1).1 e
  ·rw [if_neg hb]
   have e3:k.all nc=true:=hn.2 ⟨fun e=>hb (.inr e),h58⟩
   have e4:k≠[]:=fun e=>hb (.inl e)
   by_cases hm0:m=[]
   ·subst hm0
    rw [if_neg (by rw [hO];rintro ⟨_,e,_⟩;exact e ⟨rfl,rfl⟩)]
    rfl
   ·obtain ⟨w1,w2⟩:=EX _ m [] (Nat.lt_succ_self _) hm0
    rw [w1]
    by_cases hr:(lY m []).2.2=true
    ·rw [if_pos hr,if_pos (hO.2 ⟨hr,w2 hr,e3,e4⟩)];rfl
    ·rw [if_neg hr,if_neg (fun e=>hr (hO.1 e).1)];rfl
 ·have hs:LW s=none:=by
   unfold LW
   cases ha:fE 58 s with
   | nil=>rfl
   | cons x t=>
    cases t with
    | nil=>rfl
    | cons y t=>
     have:¬y=32:=fun e=>h1 x t (by rw [ha,e])
     simp [sp1,this]
  rw [hs,if_neg]
  rintro ⟨e1,_,e3,_⟩
  rcases h2 with h2|⟨k,h2,h3,h4⟩
  ·unfold vS at e1
   rw [h2,if_neg (by decide)] at e1
   cases e1
  ·have hk:CY s=s.take k:=by unfold CY;rw [h2,if_pos (by omega),Int.toNat_natCast]
   rw [hk] at e3
   exact ((JE _).1 e3).2 h4
end Go.Fv.R
/- A walk through a string's runes: the first great letter. -/
namespace Go.Fv.R
open Go
theorem N9 (l:List UInt8) (j:Nat):(⟨l.toArray⟩:ByteArray).get! j=l.getD j 0:=by
 show (l.toArray)[j]! = _
 by_cases h:j<l.length
 ·simp [h,List.getD]
 ·simp [h,List.getD];rfl
theorem PO (c:UInt8):c.toNat<256:=c.toNat_lt
theorem Gi {l:List UInt8} {p:Nat} (h:p<l.length):1≤iV l p∧p+iV l p≤l.length ∧
  ((((l.getD p 0).toNat:Int)=eX l p∧iV l p=1)∨(∀ j,p≤j→j<p+iV l p→128≤(l.getD j 0).toNat)):=by
 unfold iV eX
 rw [Lib.decode_at]
 have hs:(⟨l.toArray⟩:ByteArray).size=l.length:=rfl
 simp only [N9,hs]
 have b0:=PO (l.getD p 0)
 by_cases ha:(l.getD p 0).toNat<128
 ·have e:Lib.decodeN (l.length - p) (l.getD p 0).toNat (l.getD (p+1) 0).toNat (l.getD (p+2) 0).toNat (l.getD (p+3) 0).toNat=((l.getD p 0).toNat,1):=by
   unfold Lib.decodeN;rw [if_pos ha]
  rw [e]
  exact ⟨Nat.le_refl _,by show p+1≤_;omega,.inl ⟨rfl,rfl⟩⟩
 rcases Lib.decodeN_shape (l.length - p) (l.getD p 0).toNat (l.getD (p+1) 0).toNat (l.getD (p+2) 0).toNat (l.getD (p+3) 0).toNat with ⟨c,e⟩|⟨c1,c2,c3,cv,e⟩|⟨c1,c2,c3,c4,cv,cs,e⟩|⟨c1,c2,c3,c4,c5,cv,cw,e⟩|e
 ·omega
 ·rw [e]
  refine ⟨by show 1≤2;omega,by show p+2≤_;omega,.inr fun j h1 h2=>?_⟩
  have h2:j<p+2:=h2
  have:j=p∨j=p+1:=by omega
  rcases this with rfl|rfl<;>omega
 ·rw [e]
  refine ⟨by show 1≤3;omega,by show p+3≤_;omega,.inr fun j h1 h2=>?_⟩
  have h2:j<p+3:=h2
  have:j=p∨j=p+1∨j=p+2:=by omega
  rcases this with rfl|rfl|rfl<;>omega
 ·rw [e]
  refine ⟨by show 1≤4;omega,by show p+4≤_;omega,.inr fun j h1 h2=>?_⟩
  have h2:j<p+4:=h2
  have:j=p∨j=p+1∨j=p+2∨j=p+3:=by omega
  rcases this with rfl|rfl|rfl|rfl<;>omega
 ·rw [e]
  refine ⟨by show 1≤1;omega,by show p+1≤_;omega,.inr fun j h1 h2=>?_⟩
  have h2:j<p+1:=h2
  have:j=p:=by omega
  subst this;omega
theorem Ll {l:List UInt8} {p:Nat}:0≤eX l p∧eX l p≤1114111:=by
 have:=Lib.rune_le ⟨l.toArray⟩ p
 unfold eX;omega
end Go.Fv.R
/- strings.IndexAny of a space and a colon, in any text. -/
namespace Go.Fv.R
open Go Go.Proofs
theorem MS {r:Int} (h1:128≤r) (h2:r≤1114111):2≤(AL r).length∧∀ j,j<(AL r).length→128≤((AL r).getD j 0).toNat:=by
 unfold AL Utf8.encode
 have hc:128≤(if Utf8.valid r=true then r.toNat else Utf8.runeError)∧(if Utf8.valid r=true then r.toNat else Utf8.runeError)≤1114111:=by
  split
  ·omega
  ·decide
 dsimp only
 generalize (if Utf8.valid r=true then r.toNat else Utf8.runeError)=c at *
 obtain ⟨c1,c2⟩:=hc
 rw [if_neg (by omega)]
 split
 ·refine ⟨by simp,fun j hj=>?_⟩
  have hj:j<2:=by simpa using hj
  rcases (by omega:j=0∨j=1) with rfl|rfl<;>simp<;>omega
 ·split
  ·refine ⟨by simp,fun j hj=>?_⟩
   have hj:j<3:=by simpa using hj
   rcases (by omega:j=0∨j=1∨j=2) with rfl|rfl|rfl<;>simp<;>omega
  ·refine ⟨by simp,fun j hj=>?_⟩
   have hj:j<4:=by simpa using hj
   rcases (by omega:j=0∨j=1∨j=2∨j=3) with rfl|rfl|rfl|rfl<;>simp<;>omega
def NM (r:Int):Int:=if r=32 then 0 else if r=58 then 1 else -1
set_option maxHeartbeats 2000000 in
theorem BQ (r:Int):aC Tryd.prog 81 [.int .i32 r] (.bool (decide ((0≤r∧r<55296)∨(57343<r∧r≤1114111)))) []:=by
 refine aC.aO Tryd.func81 rfl (by decide) (by simp [Tryd.f81]) [.tmp 2] rfl fun w0 T0 _=>?_
 simp only [Tryd.f81,aB]
 (repeat' with_reducible first|intro _|exact dn|refine rn ?_|refine ra ?_ ?_)
 all_goals (refine aZ.auto 0 ?_ rfl ?_<;>simp only [go_sem,Int.natCast_succ,Post])
 all_goals
  symm
  first|(rw [decide_eq_true_eq];omega)|(rw [decide_eq_false_iff_not];omega)
set_option maxHeartbeats 4000000 in
theorem AZ (r:Int) (hr:0≤r∧r≤1114111):aC Tryd.prog 64 [.str [32,58],.int .i32 r] (.int .i64 (NM r)) []:=by
 refine aC.aO Tryd.func64 rfl (by decide) (by simp [Tryd.f64]) [.tmp 4] rfl fun w0 T0 _=>?_
 simp only [Tryd.f64,aB]
 have f0:(0≤r)=True:=eq_true hr.1
 by_cases h1:r<128
 ·have f1:(r<128)=True:=eq_true h1
  have k:=qQ [32,58] (UInt8.ofNat r.toNat) (by simp)
  have e1:((UInt8.ofNat r.toNat).toNat:Int)=r:=by simp;omega
  have e2:Lib.indexByte [32,58] (UInt8.ofNat r.toNat)=NM r:=by
   unfold NM
   have hn:∀ m:Nat,m<128→(UInt8.ofNat m).toNat=m:=fun m h=>by simp;omega
   have h7:=hn r.toNat (by omega)
   generalize UInt8.ofNat r.toNat=c at *
   have h3:((32:UInt8) == c)=decide (r=32):=by
    rw [Bool.eq_iff_iff,beq_iff_eq,decide_eq_true_eq,←UInt8.toNat_inj]
    show 32=c.toNat↔_
    omega
   have h5:((58:UInt8) == c)=decide (r=58):=by
    rw [Bool.eq_iff_iff,beq_iff_eq,decide_eq_true_eq,←UInt8.toNat_inj]
    show 58=c.toNat↔_
    omega
   simp only [Lib.indexByte,h3,h5,decide_eq_true_eq]
   (repeat' split)<;>first|rfl|omega|simp_all
  rw [e1,e2] at k
  (repeat' with_reducible first|intro _|refine rz ?_|refine ra ?_ ?_|omega|simp only [go_sem,f0,f1])
  refine ah.k k ?_
  (repeat' with_reducible first|intro _|exact dn|refine rn ?_|refine ra ?_ ?_)
  refine aZ.auto 0 ?_ rfl ?_<;>simp only [go_sem,Int.natCast_succ,Post]
 have f1:(r<128)=False:=eq_false h1
 have hb:NM r=-1:=by unfold NM;rw [if_neg (by omega),if_neg (by omega)]
 rw [hb]
 by_cases h2:r=65533
 ·subst h2
  (repeat' with_reducible first|intro _|exact dn|refine rn ?_|refine ra ?_ ?_)
  refine aU.intro (fun p:Nat=>⟨187,[(0,.str [32,58]),(175,.ptr 0 0)],[(0,.siter [32,58] p)],1⟩) (fun p=>p≤2) (fun p=>2 - p) 0 ?_ (Nat.zero_le _) fun p hp=>?_
  ·refine bC.aA rfl ?_ ?_<;>simp only [go_sem,Int.natCast_succ]
  have a0:eX [32,58] 0=32:=by kernel_rfl
  have a1:eX [32,58] 1=58:=by kernel_rfl
  have w0':iV [32,58] 0=1:=by kernel_rfl
  have w1':iV [32,58] 1=1:=by kernel_rfl
  rcases (by omega:p=0∨p=1∨p=2) with rfl|rfl|rfl
  ·(repeat' with_reducible first|intro _|refine rz ?_|refine ra ?_ ?_|omega|simp only [go_sem,a0,w0'])
   refine ⟨1,bC.aA rfl ?_ ?_,by omega,by omega⟩<;>simp only [go_sem,Int.natCast_succ,a0,w0']
  ·(repeat' with_reducible first|intro _|refine rz ?_|refine ra ?_ ?_|omega|simp only [go_sem,a1,w1'])
   refine ⟨2,bC.aA rfl ?_ ?_,by omega,by omega⟩<;>simp only [go_sem,Int.natCast_succ,a1,w1']
  ·(repeat' with_reducible first|intro _|exact dn|refine rn ?_|refine ra ?_ ?_)
   refine aZ.auto 0 ?_ rfl ?_<;>simp only [go_sem,Int.natCast_succ,Post]
 have f2:(r=65533)=False:=eq_false h2
 have kv:=BQ r
 by_cases h3:(0≤r∧r<55296)∨(57343<r∧r≤1114111)
 ·rw [decide_eq_true h3] at kv
  obtain ⟨n2,hall⟩:=MS (r:=r) (by omega) (by omega)
  have n4:=DC r
  have f3:(0≤r∧r<128)=False:=eq_false (by omega)
  (repeat' with_reducible first|intro _|refine rz ?_|refine ra ?_ ?_|omega|simp only [go_sem,f0,f1,f2])
  refine ah.k kv ?_
  generalize hu:AL r=u at *
  (repeat' with_reducible first|intro _|refine rz ?_|refine ra ?_ ?_|omega|simp only [go_sem,f3,hu])
  obtain ⟨m,hm⟩:∃ m,u.length=m+2:=⟨u.length - 2,by omega⟩
  have el:((u.length:Int) - 1)=((m+1:Nat):Int):=by omega
  refine aU.intro (fun x:Unit=>⟨187,[(0,.str [32,58]),(1,.int .i32 r),(7,.str u),(8,.int .i64 (m+1:Nat)),(9,.int .i64 (m+1:Nat)),(10,.int .i64 0)],[],0⟩) (fun x=>True) (fun x=>0) () ?_ trivial fun x hx=>?_
  ·refine bC.aA rfl ?_ ?_<;>simp only [go_sem,Int.natCast_succ,el]
  by_cases hm0:m=0
  ·subst hm0
   have k:=qQ [] (u.getD 1 0) (by simp)
   have e1:Lib.indexByte [] (u.getD 1 0)=-1:=rfl
   rw [e1] at k
   have h7:=hall 1 (by omega)
   have f5:((([32,58]:List UInt8).getD 1 0).toNat:Int)=((u.getD 1 0).toNat:Int)↔False:=⟨fun h=>by
    have e:(([32,58]:List UInt8).getD 1 0).toNat=58:=rfl
    omega,False.elim⟩
   (repeat' with_reducible first|intro _|exact dn|refine rn ?_|refine ra ?_ ?_)
   refine dN.lex [] [] (by kernel_rfl) (by kernel_rfl) ?_
   (repeat' with_reducible first|intro _|refine rz ?_|refine ra ?_ ?_|omega|simp only [go_sem,f5])
   refine dN.lex [] [] (by kernel_rfl) (by kernel_rfl) ?_
   (repeat' with_reducible first|intro _|exact dn|refine rn ?_|refine ra ?_ ?_)
   (refine QV.intro (.int .i64 (-1)) ?_ ?_;focus ((repeat' with_reducible first|intro _|exact dn|refine rn ?_|refine ra ?_ ?_);refine ah.k (k) ?_;(repeat' with_reducible first|intro _|exact dn|refine rn ?_|refine ra ?_ ?_)))
   (repeat' with_reducible first|intro _|exact dn|refine rn ?_|refine ra ?_ ?_)
   refine aZ.auto 0 ?_ rfl ?_<;>simp only [go_sem,Int.natCast_succ,Post]
  ·(repeat' with_reducible first|intro _|exact dn|refine rn ?_|refine ra ?_ ?_)
   refine aZ.auto 0 ?_ rfl ?_<;>simp only [go_sem,Int.natCast_succ,Post]
 ·rw [decide_eq_false h3] at kv
  (repeat' with_reducible first|intro _|refine rz ?_|refine ra ?_ ?_|omega|simp only [go_sem,f0,f1,f2])
  refine ah.k kv ?_
  (repeat' with_reducible first|intro _|exact dn|refine rn ?_|refine ra ?_ ?_)
  refine aZ.auto 0 ?_ rfl ?_<;>simp only [go_sem,Int.natCast_succ,Post]
def fC:Bytes→Nat→Int
 | [],_=>-1
 | c::t,i=>if nc c=true then fC t (i+1) else i
theorem G9 {s:Bytes} {i:Nat} (n:Nat):i+n≤s.length→(∀ j,i≤j→j<i+n→nc (s.getD j 0)=true)→fC (s.drop (i+n)) (i+n)=fC (s.drop i) i:=by
 induction n with
 | zero=>intro _ _;rfl
 | succ n ih=>
  intro hl h
  rw [←ih (by omega) (fun j h1 h2=>h j h1 (by omega))]
  have hlt:i+n<s.length:=by omega
  rw [List.drop_eq_getElem_cons hlt]
  show _=if nc s[i+n]=true then _ else _
  rw [if_pos (by have:=h (i+n) (by omega) (by omega);rwa [getD_lt hlt] at this)]
  rfl
theorem G8 {s:Bytes} {i:Nat} (hlt:i<s.length) (h:nc (s.getD i 0)=false):fC (s.drop i) i=i:=by
 rw [List.drop_eq_getElem_cons hlt]
 show (if nc s[i]=true then _ else _)=_
 rw [getD_lt hlt] at h
 rw [if_neg (by rw [h];decide)]
theorem NK {l:Bytes} {p:Nat} (h:p<l.length) (h1:128≤(l.getD p 0).toNat):128≤eX l p:=by
 unfold eX
 rw [Lib.decode_at]
 simp only [N9]
 generalize (⟨l.toArray⟩:ByteArray).size - p=n
 rcases Lib.decodeN_shape n (l.getD p 0).toNat (l.getD (p+1) 0).toNat (l.getD (p+2) 0).toNat (l.getD (p+3) 0).toNat with ⟨c,e⟩|⟨c1,c2,c3,cv,e⟩|⟨c1,c2,c3,c4,cv,cs,e⟩|⟨c1,c2,c3,c4,c5,cv,cw,e⟩|e
 ·omega
 ·rw [e];dsimp only;omega
 ·rw [e];dsimp only;omega
 ·rw [e];dsimp only;omega
 ·rw [e];decide
theorem OC (c:UInt8):decide (c∈([32,58]:List UInt8))=!nc c:=by
 have e1:(c=32)=(c.toNat=32):=propext ⟨fun h=>by rw [h];rfl,fun h=>UInt8.toNat_inj.1 h⟩
 have e2:(c=58)=(c.toNat=58):=propext ⟨fun h=>by rw [h];rfl,fun h=>UInt8.toNat_inj.1 h⟩
 unfold nc
 simp only [List.mem_cons,List.not_mem_nil,or_false,e1,e2,Bool.decide_or,Bool.not_and,Bool.not_not]
set_option maxHeartbeats 4000000 in
theorem DT (s:Bytes) (hs:s.length≤3000000):aC Tryd.prog 44 [.str s,.str [32,58]] (.int .i64 (fC s 0)) []:=by
 refine aC.aO Tryd.func44 rfl (by decide) (by simp [Tryd.f44]) [.tmp 4] rfl fun w0 T0 _=>?_
 simp only [Tryd.f44,aB]
 have kd:aC Tryd.prog 65 [.int .i64 s.length] (.bool (decide ((8:Int)<s.length))) []:=by
  refine aC.aO Tryd.func65 rfl (by decide) (by simp [Tryd.f65]) [.tmp 2] rfl fun w0 T0 _=>?_
  simp only [Tryd.f65,aB]
  (repeat' with_reducible first|intro _|exact dn|refine rn ?_|refine ra ?_ ?_)
  refine aZ.auto 0 ?_ rfl ?_<;>simp only [go_sem,Int.natCast_succ,Post]
 by_cases h8:(8:Int)<s.length
 ·rw [decide_eq_true h8] at kd
  have hlen:=iK [32,58] 2
  have km:=qW [32,58] (by intro i hi;have:i<2:=hi;rcases (by omega:i=0∨i=1) with rfl|rfl<;>decide)
  have hg:∀ c:UInt8,(bZ [32,58] 2).getD c.toNat false=!nc c:=fun c=>by
   rw [l9 [32,58] c 2 (Nat.le_refl _)]
   have e3:([32,58]:List UInt8).take 2=[32,58]:=rfl
   rw [e3,OC]
  have e2:([32,58]:List UInt8).length=2:=rfl
  rw [e2] at km
  (repeat' with_reducible first|intro _|exact dn|refine rn ?_|refine ra ?_ ?_)
  refine ah.k kd ?_
  (repeat' with_reducible first|intro _|exact dn|refine rn ?_|refine ra ?_ ?_)
  refine ah.fr (args':=[.str [32,58]]) (jr.kN km (by simp [lW,iM,ni]) rfl) (by simp [aW,bf,aF]) 0 (by simp [Fv.below,aH,je]) (by simp [dL]) ?_
  generalize bZ [32,58] 2=tab at hlen hg ⊢
  simp only [go_sem]
  have e1:Fv.spl (List.replicate 256 (AV.bool false)) 0 (tab.map .bool)=tab.map .bool:=BO (by simp [hlen])
  refine aS.intro (by omega) ?_
  refine aS.intro (by omega) ?_
  rw [e1]
  refine aU.intro (fun j:Nat=>⟨55,[(8,.int .i64 j),(6,.ptr 0 0),(0,.str s),(1,.str [32,58])],[(0,.box 72 (tab.map .bool))],1⟩) (fun j=>j≤s.length∧fC (s.drop j) j=fC s 0) (fun j=>s.length - j) 0 ?_ ⟨Nat.zero_le _,rfl⟩ fun j hj=>?_
  ·refine bC.aA rfl ?_ ?_<;>simp only [go_sem,Int.natCast_succ]
   all_goals trace_state
  obtain ⟨hj,hI⟩:=hj
  by_cases hlt:j<s.length
  ·have f1:((j:Int)<(s.length:Int))=True:=eq_true (by omega)
   have k:=lq tab hlen (s.getD j 0)
   rw [hg] at k
   (repeat' with_reducible first|intro _|refine rz ?_|refine ra ?_ ?_|omega|simp only [go_sem,f1])
   refine ah.fr (args':=[.cell (tab.map .bool),.int .u8 (s.getD j 0).toNat]) (jr.kN k rfl rfl) ?_ 0 rfl (by simp [dL]) ?_
   ·exact ⟨_,_,⟨_,_,_,rfl,jP _ 4 _,rfl⟩,⟨_,_,rfl,rfl,rfl⟩,rfl⟩
   cases hn:nc (s.getD j 0) with
   | true=>
    (repeat' with_reducible first|intro _|exact dn|refine rn ?_|refine ra ?_ ?_)
    refine ⟨j+1,bC.aA rfl ?_ ?_,⟨by omega,by rw [G9 1 (by omega) (fun i h1 h2=>by rw [show i=j by omega];exact hn)];exact hI⟩,by omega⟩<;>simp only [go_sem,Int.natCast_succ]
    all_goals trace_state
   | false=>
    rw [G8 hlt hn] at hI
    (repeat' with_reducible first|intro _|exact dn|refine rn ?_|refine ra ?_ ?_)
    refine aZ.auto 0 ?_ rfl ?_<;>simp only [go_sem,Int.natCast_succ,Post]
    all_goals exact hI
  ·have e:j=s.length:=by omega
   subst e
   rw [List.drop_length] at hI
   have f1:((s.length:Int)<(s.length:Int))=False:=eq_false (by omega)
   (repeat' with_reducible first|intro _|refine rz ?_|refine ra ?_ ?_|omega|simp only [go_sem,f1])
   refine aZ.auto 0 ?_ rfl ?_<;>simp only [go_sem,Int.natCast_succ,Post]
   all_goals exact hI
 ·rw [decide_eq_false h8] at kd
  (repeat' with_reducible first|intro _|exact dn|refine rn ?_|refine ra ?_ ?_)
  refine ah.k kd ?_
  (repeat' with_reducible first|intro _|exact dn|refine rn ?_|refine ra ?_ ?_)
  refine aU.intro (fun p:Nat=>⟨55,[(0,.str s),(1,.str [32,58]),(45,.ptr 0 0)],[(0,.siter s p)],1⟩) (fun p=>p≤s.length∧fC (s.drop p) p=fC s 0) (fun p=>s.length - p) 0 ?_ ⟨Nat.zero_le _,rfl⟩ fun p hI=>?_
  ·refine bC.aA rfl ?_ ?_<;>simp only [go_sem,Int.natCast_succ]
  obtain ⟨hp,hI⟩:=hI
  (repeat' with_reducible first|intro _|exact dn|refine rn ?_|refine ra ?_ ?_)
  ·have hlt:p<s.length:=by omega
   have hr:=@Ll s p
   obtain ⟨hw1,hw2,hc⟩:=Gi hlt
   have k:=AZ (eX s p) hr
   have h0:0≤NM (eX s p)↔(eX s p=32∨eX s p=58):=by
    unfold NM
    (repeat' split)<;>omega
   have hh:0≤NM (eX s p)→nc (s.getD p 0)=false:=fun h=>by
    rw [h0] at h
    have h9:=NK hlt
    have h10:(s.getD p 0).toNat=32∨(s.getD p 0).toNat=58:=by
     rcases hc with ⟨h3,h4⟩|h3
     ·omega
     ·have:=h9 (h3 p (Nat.le_refl _) (by omega));omega
    unfold nc
    rcases h10 with h|h<;>rw [h]<;>rfl
   have hsk:¬0≤NM (eX s p)→∀ j,p≤j→j<p+iV s p→nc (s.getD j 0)=true:=fun h j h1 h2=>by
    rw [h0] at h
    rcases hc with ⟨h3,h4⟩|h3
    ·have:j=p:=by omega
     subst this
     unfold nc
     rw [decide_eq_false (by omega),decide_eq_false (by omega)];rfl
    ·have:=h3 j h1 h2
     unfold nc
     rw [decide_eq_false (by omega),decide_eq_false (by omega)];rfl
   refine ah.k k ?_
   (repeat' with_reducible first|intro _|exact dn|refine rn ?_|refine ra ?_ ?_)
   ·rename_i h2
    rw [G8 hlt (hh h2)] at hI
    refine aZ.auto 0 ?_ rfl ?_<;>simp only [go_sem,Int.natCast_succ,Post]
    exact hI
   ·rename_i h2
    refine ⟨p+iV s p,bC.aA rfl ?_ ?_,⟨by omega,by rw [G9 _ hw2 (hsk h2)];exact hI⟩,by omega⟩<;>simp only [go_sem,Int.natCast_succ]
  ·have e:p=s.length:=by omega
   subst e
   rw [List.drop_length] at hI
   refine aZ.auto 0 ?_ rfl ?_<;>simp only [go_sem,Int.natCast_succ,Post]
   exact hI
end Go.Fv.R
