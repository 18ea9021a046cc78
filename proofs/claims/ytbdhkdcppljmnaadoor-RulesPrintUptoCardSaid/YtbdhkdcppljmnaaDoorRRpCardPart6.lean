/-
  A part of the proof of the claim: walks over the program's functions and the plain laws that these need. No condition of its own.
-/
import Derived.Test.YtbdhkdcppljmnaaDoorRRpCardPart5
import Derived.Test.YtbdhkdcppljmnaaDoorFvPart11
import Derived.Test.YtbdhkdcppljmnaaDoorRRpCardPart1
import Derived.Test.YtbdhkdcppljmnaaDoorRRpCardPart4
import Derived.Test.YtbdhkdcppljmnaaDoorRRpCardPart3
set_option linter.unusedSimpArgs false
set_option linter.unusedVariables false
set_option linter.unnecessarySimpa false
set_option maxRecDepth 8000
/- The reference's ParseSortRules. -/
namespace Go.Fv.R
open Go Go.Proofs
def LX:List Bytes→List Ru→Nat→List Ru × Int × Int
 | [],acc,_=>(acc,0,0)
 | l::[],acc,i=>if l=[] then (acc,0,0) else ([],i,8)
 | l::m::r,acc,i=>if tY l then LX (m::r) (acc++[⟨CY l,(vS l).1,(vS l).2.1⟩]) (i+1) else ([],i,8)
theorem Ie:∀ (n:Nat) (s:Bytes) (acc:List Ru) (i:Nat),s.count 10=n→LX (oW 10 n s) acc i=oZ (s.length+1) s acc i
 | 0,s,acc,i,h=>by
  have ha:fE 10 s=[]:=by
   cases e:fE 10 s with
   | nil=>rfl
   | cons x t=>have:=sV e;omega
  unfold oZ
  rw [ha]
  rfl
 | n+1,s,acc,i,h=>by
  obtain ⟨t,ht⟩:=zu (c:=10) (s:=s) (by omega)
  have hc:=sV ht
  have ih:=fun a j=>Ie n t a j (by omega)
  have hl:=pU ht
  have hs:¬s=[]:=fun e=>by rw [e] at hl;simp at hl
  have h1:oW 10 (n+1) s=cZ 10 s::oW 10 n t:=by
   show cZ 10 s::oW 10 n ((fE 10 s).drop 1)=_
   rw [ht];rfl
  rw [h1]
  obtain ⟨m,r,hmr⟩:∃ m r,oW 10 n t=m::r:=by
   cases n with
   | zero=>exact ⟨_,_,rfl⟩
   | succ n=>exact ⟨_,_,rfl⟩
  rw [hmr] at ih ⊢
  show (if tY (cZ 10 s) then LX (m::r) (acc++[⟨CY (cZ 10 s),(vS (cZ 10 s)).1,(vS (cZ 10 s)).2.1⟩]) (i+1) else ([],(i:Int),(8:Int)))=_
  conv=>rhs;unfold oZ
  rw [if_neg hs,ht]
  dsimp only
  rw [OL]
  by_cases ho:tY (cZ 10 s)
  ·rw [if_pos ho,if_pos ho,ih]
   exact xJ _ _ _ _ _ (by omega) (by omega)
  ·rw [if_neg ho,if_neg ho]
theorem NI (s:Bytes) (acc:List Ru) (i:Nat):LX (O6 10 s) acc i=oZ (s.length+1) s acc i:=Ie _ s acc i rfl
theorem JX:∀ {s:Bytes} (i:Nat),s.all nc=true→fC s i=-1
 | [],_,_=>rfl
 | c::s,i,h=>by
  rw [List.all_cons,Bool.and_eq_true] at h
  show (if nc c=true then _ else _)=_
  rw [if_pos h.1];exact JX _ h.2
theorem He:∀ {s:Bytes} (i:Nat),¬s.all nc=true→0≤fC s i
 | [],_,h=>absurd rfl h
 | c::s,i,h=>by
  show 0≤(if nc c=true then _ else _)
  by_cases hc:nc c=true
  ·rw [if_pos hc]
   exact He _ fun e=>h (by rw [List.all_cons,hc,e];rfl)
  ·rw [if_neg hc];omega
set_option maxHeartbeats 1000000 in
theorem wK (s:Bytes) (hs:s.length≤3000000):aC Tryd.prog 24 [.str s,.str [32,58]] (.bool (!s.all nc)) []:=by
 have k:=DT s hs
 refine aC.aO Tryd.func24 rfl (by decide) (by simp [Tryd.f24]) [.tmp 4] rfl fun w0 T0 _=>?_
 simp only [Tryd.f24,aB]
 by_cases h:s.all nc=true
 ·rw [JX 0 h] at k
  rw [h]
  (repeat' with_reducible first|intro _|exact dn|refine rn ?_|refine ra ?_ ?_)
  refine ah.k k ?_
  (repeat' with_reducible first|intro _|exact dn|refine rn ?_|refine ra ?_ ?_)
  refine aZ.auto 0 ?_ rfl ?_<;>simp only [go_sem,Int.natCast_succ,Post]
 ·have h2:=He 0 h
  rw [show s.all nc=false by simpa using h]
  generalize fC s 0=q at *
  have g:(0≤q)=True:=eq_true h2
  (repeat' with_reducible first|intro _|exact dn|refine rn ?_|refine ra ?_ ?_)
  refine ah.k k ?_
  (repeat' with_reducible first|intro _|refine rz ?_|refine ra ?_ ?_|omega|simp only [go_sem,g])
  refine aZ.auto 0 ?_ rfl ?_<;>simp only [go_sem,Int.natCast_succ,Post,g]
  all_goals simp [h2]
theorem Le (s:Bytes):(Ld s).length≤s.length:=by
 unfold Ld
 split
 ·rw [List.length_drop];omega
 ·simp
theorem OJ (s:Bytes):(CY s).length≤s.length:=by
 unfold CY
 split
 ·rw [List.length_take];omega
 ·omega
theorem ML (s:Bytes) (hs:s.length≤100000000):aC Tryd.prog 18 [.str s,.str [58,32]] (.tup [.str (CY s),.str (Ld s),.bool (decide (0≤Lib.index s [58,32]))]) []:=GY s [58,32] hs (by simp)
theorem Hy (c:UInt8):∀ (n:Nat) (s:Bytes) (x:Bytes),x∈oW c n s→x.length≤s.length
 | 0,s,x,h=>by rw [List.mem_singleton.1 h];exact Nat.le_refl _
 | n+1,s,x,h=>by
  rcases List.mem_cons.1 h with e|h
  ·rw [e];exact Aw c s
  ·have h1:=Hy c n _ x h
   have h2:=wE c s
   rw [List.length_drop] at h1
   omega
theorem aX.Qp {P:Program} {w0:World} {T0:Bs} {b0:Nat} {x y:Code} {s:Go.Fv.S} {Q:Exit→Go.Fv.S→Prop} (h:aX P w0 T0 b0 x s (thenS (fun s'=>@gG P w0 T0 b0 y s' ⟨Q⟩) Q)):aX P w0 T0 b0 (.seq x y) s Q:=by
 intro H a w hH hr
 refine wp_seq (wp_mono (h H a w hH hr) ?_)
 rintro e a' w' ⟨s',hq,hr'⟩
 cases e with
 | normal=>exact hq H a' w' hH hr'
 | _=>exact ⟨s',hq,hr'⟩
theorem NJ {L:List Bytes} {acc:List Ru} {i:Nat} {E:List Ru × Int × Int} (h:LX (L.drop i) acc i=E) (hi:i<L.length) :
  (i+1=L.length→L.getD i []=[]→E=(acc,0,0))∧(¬(i+1=L.length∧L.getD i []=[])→(i+1=L.length∨¬tY (L.getD i []))→E=([],(i:Int),8))∧(¬i+1=L.length→tY (L.getD i [])→i+1<L.length∧LX (L.drop (i+1)) (acc++[⟨CY (L.getD i []),(vS (L.getD i [])).1,(vS (L.getD i [])).2.1⟩]) (i+1)=E):=by
 rw [qI L [] hi] at h
 by_cases hl:i+1=L.length
 ·rw [hl,List.drop_length] at h
  have h:(if L.getD i []=[] then (acc,(0:Int),(0:Int)) else ([],(i:Int),8))=E:=h
  refine ⟨fun _ e=>?_,fun e _=>?_,fun e=>absurd hl e⟩
  ·rw [if_pos e] at h;exact h.symm
  ·rw [if_neg fun e2=>e ⟨hl,e2⟩] at h;exact h.symm
 ·obtain ⟨m,r,hmr⟩:∃ m r,L.drop (i+1)=m::r:=⟨_,_,qI L [] (by omega)⟩
  rw [hmr] at h ⊢
  have h:(if tY (L.getD i []) then LX (m::r) (acc++[⟨CY (L.getD i []),(vS (L.getD i [])).1,(vS (L.getD i [])).2.1⟩]) (i+1) else ([],(i:Int),8))=E:=h
  refine ⟨fun e=>absurd e hl,fun _ e=>?_,fun _ e=>⟨by omega,?_⟩⟩
  ·rw [if_neg (e.resolve_left hl)] at h;exact h.symm
  ·rw [if_pos e] at h;exact h
def Qq (L:List Bytes) (out:List Ru) (i:Nat) (k:Bytes) (y:Bool × Bytes × List Bytes):Go.Fv.S:=if y.2.2=[] then ⟨123,[(26,.ro (.strs L)),(27,.int .i64 L.length),(28,.int .i64 i),(7,.int .i64 (L.length - 1:Nat)),(5,.own 0),(8,.int .i64 i),(10,.str k),(11,.str y.2.1),(12,.bool y.1),(13,.ptr 1 0)],[(0,.row 36 (iC out)),(1,.box 36 [.str k,.nilS,.str []])],2⟩
 else ⟨123,[(26,.ro (.strs L)),(27,.int .i64 L.length),(28,.int .i64 i),(7,.int .i64 (L.length - 1:Nat)),(5,.own 0),(8,.int .i64 i),(10,.str k),(11,.str y.2.1),(12,.bool y.1),(13,.ptr 1 0)],[(0,.row 36 (iC out)),(1,.box 36 [.str k,.own 2,.str []]),(2,.row 9 (.strs y.2.2))],3⟩
theorem LD (L:List Bytes) (out:List Ru) (i:Nat) (k:Bytes) (b:Bool) (s:Bytes):Qq L out i k (b,s,[])=⟨123,[(26,.ro (.strs L)),(27,.int .i64 L.length),(28,.int .i64 i),(7,.int .i64 (L.length - 1:Nat)),(5,.own 0),(8,.int .i64 i),(10,.str k),(11,.str s),(12,.bool b),(13,.ptr 1 0)],[(0,.row 36 (iC out)),(1,.box 36 [.str k,.nilS,.str []])],2⟩:=rfl
theorem uY (L:List Bytes) (out:List Ru) (i:Nat) (k:Bytes) (b:Bool) (s:Bytes) {ws:List Bytes} (h:¬ws=[]):Qq L out i k (b,s,ws)=⟨123,[(26,.ro (.strs L)),(27,.int .i64 L.length),(28,.int .i64 i),(7,.int .i64 (L.length - 1:Nat)),(5,.own 0),(8,.int .i64 i),(10,.str k),(11,.str s),(12,.bool b),(13,.ptr 1 0)],[(0,.row 36 (iC out)),(1,.box 36 [.str k,.own 2,.str []]),(2,.row 9 (.strs ws))],3⟩:=if_neg h
def Qr (L:List Bytes) (out:List Ru) (i:Nat) (k:Bytes) (y:List Bytes × Bytes × Bool):Go.Fv.S:=if y.1=[] then ⟨123,[(26,.ro (.strs L)),(27,.int .i64 L.length),(28,.int .i64 i),(7,.int .i64 (L.length - 1:Nat)),(5,.own 0),(8,.int .i64 i),(10,.str k),(12,.bool y.2.2),(13,.ptr 1 0)],[(0,.row 36 (iC out)),(1,.box 36 [.str k,.nilS,.str y.2.1])],2⟩
 else ⟨123,[(26,.ro (.strs L)),(27,.int .i64 L.length),(28,.int .i64 i),(7,.int .i64 (L.length - 1:Nat)),(5,.own 0),(8,.int .i64 i),(10,.str k),(12,.bool y.2.2),(13,.ptr 1 0)],[(0,.row 36 (iC out)),(1,.box 36 [.str k,.own 2,.str y.2.1]),(2,.row 9 (.strs y.1))],3⟩
theorem xR (L:List Bytes) (out:List Ru) (i:Nat) (k c:Bytes) (b:Bool):Qr L out i k ([],c,b)=⟨123,[(26,.ro (.strs L)),(27,.int .i64 L.length),(28,.int .i64 i),(7,.int .i64 (L.length - 1:Nat)),(5,.own 0),(8,.int .i64 i),(10,.str k),(12,.bool b),(13,.ptr 1 0)],[(0,.row 36 (iC out)),(1,.box 36 [.str k,.nilS,.str c])],2⟩:=rfl
theorem yT (L:List Bytes) (out:List Ru) (i:Nat) (k c:Bytes) (b:Bool) {ws:List Bytes} (h:¬ws=[]):Qr L out i k (ws,c,b)=⟨123,[(26,.ro (.strs L)),(27,.int .i64 L.length),(28,.int .i64 i),(7,.int .i64 (L.length - 1:Nat)),(5,.own 0),(8,.int .i64 i),(10,.str k),(12,.bool b),(13,.ptr 1 0)],[(0,.row 36 (iC out)),(1,.box 36 [.str k,.own 2,.str c]),(2,.row 9 (.strs ws))],3⟩:=if_neg h
theorem yH (k:Nat):∀ (n:Nat) (s:Bytes) (acc:List Bytes),s.length≤k→(∀ w,w∈acc→w.length≤k)→∀ w,w∈(EY n s acc).1→w.length≤k
 | 0,s,acc,_,_=>fun w hw=>by cases hw
 | n+1,s,acc,hs,ha=>by
  have hb:=Aw 32 s
  have hd:((fE 32 s).drop 1).length≤s.length:=by
   have:=wE 32 s
   rw [List.length_drop];omega
  have hap:∀ w,w∈acc++[cZ 32 s]→w.length≤k:=fun w hw=>by
   rcases List.mem_append.1 hw with h|h
   ·exact ha w h
   ·rw [List.mem_singleton.1 h];omega
  unfold EY
  split
  ·exact ha
  ·split
   ·exact ha
   ·split
    ·exact yH k n _ _ (by omega) hap
    ·exact hap
theorem Jq (s:Bytes):∀ w,w∈(vS s).1→w.length≤s.length:=by
 unfold vS
 split
 ·exact fun w hw=>Nat.le_trans (yH (Ld s).length _ (Ld s) [] (Nat.le_refl _) (fun w hw=>by cases hw) w hw) (Le s)
 ·intro w hw;cases hw
def PK (L:List Bytes) (x:List Ru × Nat):Go.Fv.S:=⟨123,[(26,.ro (.strs L)),(27,.int .i64 L.length),(28,.int .i64 x.2),(7,.int .i64 (L.length - 1:Nat)),(5,.own 0)],[(0,.row 36 (iC x.1))],1⟩
set_option maxHeartbeats 4000000 in
theorem yO (s0:Bytes):aC Tryd.prog 10 [.str s0] (.tup [.own 0,.int .i64 (zW s0).2.1,.int .i64 (zW s0).2.2]) [(0,.row 36 (iC (zW s0).1))]:=by
 refine aC.aO Tryd.func10 rfl (by decide) (by simp [Tryd.f10]) [.tmp 2,.tmp 3,.tmp 4] rfl fun w0 T0 _=>?_
 simp only [Tryd.f10,aB]
 have hP:zW s0=if 1048576<s0.length then ([],0,4) else
  if (oZ (s0.length+1) s0 [] 0).2.2≠0 then oZ (s0.length+1) s0 [] 0 else
  if bn (oZ (s0.length+1) s0 [] 0).1≠0 then ([],0,bn (oZ (s0.length+1) s0 [] 0).1) else ((oZ (s0.length+1) s0 [] 0).1,0,0):=rfl
 generalize zW s0=R at *
 by_cases hl:1048576<s0.length
 ·have g1:((1048576:Int)<(s0.length:Int))=True:=eq_true (by omega)
  rw [if_pos hl] at hP
  subst hP
  (repeat' with_reducible first|intro _|refine rz ?_|refine ra ?_ ?_|omega|simp only [go_sem,g1])
  refine aZ.auto 1 ?_ rfl ?_<;>simp only [go_sem,Int.natCast_succ,Post,List.map_nil]
 have g1:((1048576:Int)<(s0.length:Int))=False:=eq_false (by omega)
 rw [if_neg hl] at hP
 have ks:=Jv s0 10 (by omega)
 have hrf:=NI s0 [] 0
 have hll:=Ea 10 (s0.count 10) s0
 have hcl:s0.count 10≤s0.length:=List.count_le_length
 have hle:=Hy 10 (s0.count 10) s0
 have hL:O6 10 s0=oW 10 (s0.count 10) s0:=rfl
 rw [←hL] at hll hle
 generalize O6 10 s0=L at *
 rw [←hrf] at hP
 generalize hE:LX L [] 0=E at *
 have hLm:(L.length:Int) - 1=((L.length - 1:Nat):Int):=by omega
 (repeat' with_reducible first|intro _|refine rz ?_|refine ra ?_ ?_|omega|simp only [go_sem,g1])
 refine ah.Oc (.ro (.strs L)) ks (by simp only [bH,aW,fK,bf,aF,List.drop_zero,lk,reduceIte,reduceCtorEq,Nat.reduceEqDiff,Option.some.injEq,Item.row.injEq,Item.box.injEq,AV.ro.injEq,exists_eq_left,exists_and_left,exists_eq_left',exists_eq_right,and_assoc,and_true,true_and,List.cons.injEq,exists_eq',exists_eq]) (by simp [fP,fK,aF,lk]) rfl ?_
 (repeat' with_reducible first|intro _|refine rz ?_|refine ra ?_ ?_|omega|simp only [go_sem,hLm])
 refine aU.run (PK L) (fun x=>x.2<L.length∧x.1.length≤x.2∧dF x.1∧LX (L.drop x.2) x.1 x.2=E) (fun x=>L.length - x.2) ([],0) ?_ ⟨by dsimp only;omega,Nat.le_refl _,fun i hi=>by simp at hi,hE⟩ fun x hI=>?_
 ·refine bC.aA rfl ?_ ?_<;>simp only [go_sem,Int.natCast_succ,PK,List.map_nil]
 obtain ⟨acc,i⟩:=x
 dsimp only at hI
 obtain ⟨hi,ha1,ha2,hI⟩:=hI
 obtain ⟨e1,e2,e3⟩:=NJ hI hi
 have hlm:=hle (L.getD i []) (by rw [getD_lt hi];exact List.getElem_mem hi)
 have f1:((i:Int)<(L.length:Int))=True:=eq_true (by omega)
 generalize hline:L.getD i []=l at *
 refine aX.Js ?_
 dsimp only [PK]
 (repeat' with_reducible first|intro _|refine rz ?_|refine ra ?_ ?_|omega|simp only [go_sem,f1])
 refine gG.of (aX.Js ?_)
 (repeat' with_reducible first|intro _|exact dn|refine rn ?_|refine ra ?_ ?_)
 refine gG.of (aX.Qp (aX.block (aX.Js ?_)))
 (repeat' with_reducible first|intro _|refine rz ?_|refine ra ?_ ?_|omega|simp only [go_sem,eu,hline])
 refine gG.of (aX.Js ?_)
 have kc:=jW acc ha2
 by_cases hq:i+1=L.length∧l=[]
 ·have f2:((i:Int)=((L.length - 1:Nat):Int))=True:=eq_true (by omega)
  have f3:(l=[])=True:=eq_true hq.2
  rw [e1 hq.1 hq.2,if_neg (by simp)] at hP
  dsimp only at hP
  clear e1 e2 e3 hI hE hrf
  by_cases he:bn acc=0
  ·rw [he,if_neg (by decide)] at hP
   rw [he] at kc
   subst hP
   (repeat' with_reducible first|intro _|refine rz ?_|refine ra ?_ ?_|omega|simp only [go_sem,f2,f3])
   refine ah.k (iJ acc ha2) ?_
   (repeat' with_reducible first|intro _|refine rz ?_|refine ra ?_ ?_|omega|simp only [go_sem,he])
   refine aZ.auto 1 ?_ rfl ?_<;>simp only [go_sem,Int.natCast_succ,Post]
  ·rw [if_pos he] at hP
   subst hP
   have g3:(bn acc=0)=False:=eq_false he
   (repeat' with_reducible first|intro _|refine rz ?_|refine ra ?_ ?_|omega|simp only [go_sem,f2,f3])
   refine ah.k (iJ acc ha2) ?_
   (repeat' with_reducible first|intro _|refine rz ?_|refine ra ?_ ?_|omega|simp only [go_sem,g3])
   refine aZ.auto 1 ?_ rfl ?_<;>simp only [go_sem,Int.natCast_succ,Post,List.map_nil]
 have hEe:(i+1=L.length∨¬tY l)→R=([],(i:Int),8):=fun e=>by
  rw [hP,e2 hq e,if_pos (by simp)]
 have kcut:=ML l (by omega)
 have hO:tY l↔((vS l).2.2=true∧¬((vS l).1=[]∧(vS l).2.1=[])∧(CY l).all nc=true∧CY l≠[]):=Iff.rfl
 have hQf:vS l=if 0≤Lib.index l [58,32] then lY (Ld l) [] else ([],[],false):=rfl
 have hMl:=Le l
 have hKl:=OJ l
 have hMn:¬0≤Lib.index l [58,32]→Ld l=[]:=fun e=>if_neg e
 have kan:=wK (CY l) (by omega)
 have hsmQ:∀ w,w∈(vS l).1→w.length≤1048576:=fun w hw=>Nat.le_trans (Jq l w hw) (by omega)
 generalize tY l=O at *
 generalize CY l=k at *
 generalize vS l=Q at *
 generalize Ld l=M at *
 generalize Lib.index l [58,32]=ix at *
 have hgo:(i:Int)=((L.length - 1:Nat):Int)↔i+1=L.length:=by omega
 by_cases hq1:i+1=L.length
 case' pos=>
  have f2:((i:Int)=((L.length - 1:Nat):Int))=True:=eq_true (by omega)
  have f3:(l=[])=False:=eq_false fun e=>hq ⟨hq1,e⟩
  (repeat' with_reducible first|intro _|refine rz ?_|refine ra ?_ ?_|omega|simp only [go_sem,f2,f3])
 case' neg=>
  have f2:((i:Int)=((L.length - 1:Nat):Int))=False:=eq_false (by omega)
  (repeat' with_reducible first|intro _|refine rz ?_|refine ra ?_ ?_|omega|simp only [go_sem,f2])
 all_goals
  refine gG.of (aX.Js ?_)
  (repeat' with_reducible first|intro _|exact dn|refine rn ?_|refine ra ?_ ?_)
  refine ah.k kcut ?_
  (repeat' with_reducible first|intro _|exact dn|refine rn ?_|refine ra ?_ ?_)
  refine gG.of (aX.Js ?_)
  (repeat' with_reducible first|intro _|exact dn|refine rn ?_|refine ra ?_ ?_)
  refine gG.of (aX.cut (Qr L acc i k) (fun y=>y=Q) (aX.of ?_) fun y hy=>?_)
  ·(repeat' with_reducible first|intro _|exact dn|refine rn ?_|refine ra ?_ ?_)
   refine aU.intro (Qq L acc i k) (fun y=>y.2.2.length+y.2.1.length≤2000000∧(if y.1=true then lY y.2.1 y.2.2=Q else (y.2.2,[],false)=Q)) (fun y=>if y.1=true then y.2.1.length+1 else 0) (decide (0≤ix),M,[]) ?_ ⟨by dsimp only;rw [List.length_nil];omega,?_⟩ fun y hI=>?_
   ·rw [LD]
    refine bC.aA rfl ?_ ?_<;>simp only [go_sem,Int.natCast_succ]
   ·dsimp only
    rw [hQf]
    by_cases hx:0≤ix
    ·rw [if_pos (by simpa using hx),if_pos hx]
    ·rw [if_neg (by simpa using hx),if_neg hx]
   clear hQf hO hsmQ kan kcut e1 e2 e3 hEe hrf hE hP kc
   obtain ⟨ok,s,ws⟩:=y
   dsimp only at hI
   obtain ⟨hn,hI⟩:=hI
   by_cases hk:ok=true
   case neg=>
    have hk:ok=false:=by simpa using hk
    subst hk
    rw [if_neg (by decide)] at hI
    subst hI
    by_cases hw:ws=[]
    ·subst hw
     rw [LD]
     (repeat' with_reducible first|intro _|exact dn|refine rn ?_|refine ra ?_ ?_)
     refine ⟨([],[],false),?_,rfl⟩
     rw [xR]
     refine bC.aA rfl ?_ ?_<;>simp only [go_sem,Int.natCast_succ]
    ·rw [uY _ _ _ _ _ _ hw]
     (repeat' with_reducible first|intro _|exact dn|refine rn ?_|refine ra ?_ ?_)
     refine ⟨(ws,[],false),?_,rfl⟩
     rw [yT _ _ _ _ _ _ hw]
     refine bC.aA rfl ?_ ?_<;>simp only [go_sem,Int.natCast_succ]
   subst hk
   rw [if_pos rfl,CW] at hI
   by_cases hs:s=[]
   ·have g2:(s=[])=True:=eq_true hs
    rw [if_pos hs] at hI
    subst hI
    by_cases hw:ws=[]
    ·subst hw
     rw [LD]
     (repeat' with_reducible first|intro _|refine rz ?_|refine ra ?_ ?_|omega|simp only [go_sem,g2])
     refine ⟨([],[],true),?_,rfl⟩
     rw [xR]
     refine bC.aA rfl ?_ ?_<;>simp only [go_sem,Int.natCast_succ]
    ·rw [uY _ _ _ _ _ _ hw]
     (repeat' with_reducible first|intro _|refine rz ?_|refine ra ?_ ?_|omega|simp only [go_sem,g2])
     refine ⟨(ws,[],true),?_,rfl⟩
     rw [yT _ _ _ _ _ _ hw]
     refine bC.aA rfl ?_ ?_<;>simp only [go_sem,Int.natCast_succ]
   have g2:(s=[])=False:=eq_false hs
   rw [if_neg hs] at hI
   have kw:=vH s 32 (by omega)
   have hd:=qH hs
   generalize cZ 32 s=b at *
   generalize (fE 32 s).drop 1=m at *
   generalize hcu:decide (32∈s)=cu at *
   by_cases hb:b=bG
   ·have g3:(b=[99,111,100,101])=True:=eq_true hb
    rw [if_pos hb] at hI
    have hcm:decide (32∈s∧m≠[])=(cu && decide (m≠[])):=by rw [←hcu,Bool.decide_and]
    rw [hcm] at hI
    subst hI
    by_cases hw:ws=[]
    ·subst hw
     rw [LD]
     (repeat' with_reducible first|intro _|refine rz ?_|refine ra ?_ ?_|omega|simp only [go_sem,g2])
     refine ah.k kw ?_
     cases cu
     ·(repeat' with_reducible first|intro _|refine rz ?_|refine ra ?_ ?_|omega|simp only [go_sem,g3])
      refine ⟨([],m,false),?_,rfl⟩
      rw [xR]
      refine bC.aA rfl ?_ ?_<;>simp only [go_sem,Int.natCast_succ]
     ·(repeat' with_reducible first|intro _|refine rz ?_|refine ra ?_ ?_|omega|simp only [go_sem,g3])
      refine ⟨([],m,decide (m≠[])),?_,rfl⟩
      rw [xR]
      refine bC.aA rfl ?_ ?_<;>simp only [go_sem,Int.natCast_succ]
    ·rw [uY _ _ _ _ _ _ hw]
     (repeat' with_reducible first|intro _|refine rz ?_|refine ra ?_ ?_|omega|simp only [go_sem,g2])
     refine ah.k kw ?_
     cases cu
     ·(repeat' with_reducible first|intro _|refine rz ?_|refine ra ?_ ?_|omega|simp only [go_sem,g3])
      refine ⟨(ws,m,false),?_,rfl⟩
      rw [yT _ _ _ _ _ _ hw]
      refine bC.aA rfl ?_ ?_<;>simp only [go_sem,Int.natCast_succ]
     ·(repeat' with_reducible first|intro _|refine rz ?_|refine ra ?_ ?_|omega|simp only [go_sem,g3])
      refine ⟨(ws,m,decide (m≠[])),?_,rfl⟩
      rw [yT _ _ _ _ _ _ hw]
      refine bC.aA rfl ?_ ?_<;>simp only [go_sem,Int.natCast_succ]
   have g3:(b=[99,111,100,101])=False:=eq_false hb
   rw [if_neg hb] at hI
   have hne:¬ws++[b]=[]:=by simp
   have hcu':(¬32∈s)↔cu=false:=by rw [←hcu];simp
   have hnx:∀ q:Bool,(q=true↔b≠[]∧(cu=false∨m≠[]))→((ws++[b]).length+m.length≤2000000∧(if q=true then lY m (ws++[b])=Q else (ws++[b],[],false)=Q))∧(if q=true then m.length+1 else 0)<(if true=true then s.length+1 else 0):=fun q hq=>by
    have hC:(b≠[]∧(32∉s∨m≠[]))↔q=true:=by rw [hcu',hq]
    refine ⟨⟨by rw [List.length_append,List.length_singleton];omega,?_⟩,?_⟩
    ·by_cases h:q=true
     ·rw [if_pos h];rw [if_pos (hC.2 h)] at hI;exact hI
     ·rw [if_neg h];rw [if_neg (fun e=>h (hC.1 e))] at hI;exact hI
    ·rw [if_pos rfl];split<;>omega
   by_cases hw:ws=[]
   ·subst hw
    rw [LD]
    (repeat' with_reducible first|intro _|refine rz ?_|refine ra ?_ ?_|omega|simp only [go_sem,g2])
    refine ah.k kw ?_
    by_cases hb0:b=[]
    ·have g4:(b=[])=True:=eq_true hb0
     (repeat' with_reducible first|intro _|refine rz ?_|refine ra ?_ ?_|omega|simp only [go_sem,g3,g4])
     refine ⟨(false,m,[]++[b]),?_,hnx false (by simp [hb0])⟩
     rw [uY _ _ _ _ _ _ hne]
     refine bC.aA rfl ?_ ?_<;>simp only [go_sem,Int.natCast_succ]
    have g4:(b=[])=False:=eq_false hb0
    cases cu with
    | false=>
     (repeat' with_reducible first|intro _|refine rz ?_|refine ra ?_ ?_|omega|simp only [go_sem,g3,g4])
     refine ⟨(true,m,[]++[b]),?_,hnx true (by simp [hb0])⟩
     rw [uY _ _ _ _ _ _ hne]
     refine bC.aA rfl ?_ ?_<;>simp only [go_sem,Int.natCast_succ]
    | true=>
     by_cases hm0:m=[]
     ·have g5:(m=[])=True:=eq_true hm0
      (repeat' with_reducible first|intro _|refine rz ?_|refine ra ?_ ?_|omega|simp only [go_sem,g3,g4,g5])
      refine ⟨(false,m,[]++[b]),?_,hnx false (by simp [hm0])⟩
      rw [uY _ _ _ _ _ _ hne]
      refine bC.aA rfl ?_ ?_<;>simp only [go_sem,Int.natCast_succ]
     ·have g5:(m=[])=False:=eq_false hm0
      (repeat' with_reducible first|intro _|refine rz ?_|refine ra ?_ ?_|omega|simp only [go_sem,g3,g4,g5])
      refine ⟨(true,m,[]++[b]),?_,hnx true (by simp [hb0,hm0])⟩
      rw [uY _ _ _ _ _ _ hne]
      refine bC.aA rfl ?_ ?_<;>simp only [go_sem,Int.natCast_succ]
   ·rw [uY _ _ _ _ _ _ hw]
    (repeat' with_reducible first|intro _|refine rz ?_|refine ra ?_ ?_|omega|simp only [go_sem,g2])
    refine ah.k kw ?_
    by_cases hb0:b=[]
    ·have g4:(b=[])=True:=eq_true hb0
     (repeat' with_reducible first|intro _|refine rz ?_|refine ra ?_ ?_|omega|simp only [go_sem,g3,g4])
     refine ⟨(false,m,ws++[b]),?_,hnx false (by simp [hb0])⟩
     rw [uY _ _ _ _ _ _ hne]
     refine bC.aA rfl ?_ ?_<;>simp only [go_sem,Int.natCast_succ]
    have g4:(b=[])=False:=eq_false hb0
    cases cu with
    | false=>
     (repeat' with_reducible first|intro _|refine rz ?_|refine ra ?_ ?_|omega|simp only [go_sem,g3,g4])
     refine ⟨(true,m,ws++[b]),?_,hnx true (by simp [hb0])⟩
     rw [uY _ _ _ _ _ _ hne]
     refine bC.aA rfl ?_ ?_<;>simp only [go_sem,Int.natCast_succ]
    | true=>
     by_cases hm0:m=[]
     ·have g5:(m=[])=True:=eq_true hm0
      (repeat' with_reducible first|intro _|refine rz ?_|refine ra ?_ ?_|omega|simp only [go_sem,g3,g4,g5])
      refine ⟨(false,m,ws++[b]),?_,hnx false (by simp [hm0])⟩
      rw [uY _ _ _ _ _ _ hne]
      refine bC.aA rfl ?_ ?_<;>simp only [go_sem,Int.natCast_succ]
     ·have g5:(m=[])=False:=eq_false hm0
      (repeat' with_reducible first|intro _|refine rz ?_|refine ra ?_ ?_|omega|simp only [go_sem,g3,g4,g5])
      refine ⟨(true,m,ws++[b]),?_,hnx true (by simp [hb0,hm0])⟩
      rw [uY _ _ _ _ _ _ hne]
      refine bC.aA rfl ?_ ?_<;>simp only [go_sem,Int.natCast_succ]
  subst hy
  obtain ⟨ws,c,ok⟩:=y
  dsimp only at hO hsmQ e3
  clear hQf kcut hrf hE hI e1 e2 kc
  by_cases hq2:i+1=L.length
  ·first
    | exact absurd hq2 hq1
    | skip
   all_goals
    have hR:=hEe (.inl hq2)
    subst hR
    cases ok
    ·by_cases hw:ws=[]
     ·subst hw
      rw [xR]
      refine aX.of ?_
      (repeat' with_reducible first|intro _|exact dn|refine rn ?_|refine ra ?_ ?_)
      refine aZ.auto 1 ?_ rfl ?_<;>simp only [go_sem,Int.natCast_succ,Post,List.map_nil]
     ·have hwl:(((ws.length:Nat):Int)=0)=False:=eq_false (by have:=List.length_pos_iff.2 hw;omega)
      rw [yT _ _ _ _ _ _ hw]
      refine aX.of ?_
      (repeat' with_reducible first|intro _|exact dn|refine rn ?_|refine ra ?_ ?_)
      refine aZ.auto 1 ?_ rfl ?_<;>simp only [go_sem,Int.natCast_succ,Post,List.map_nil]
    ·by_cases hw:ws=[]
     ·subst hw
      rw [xR]
      refine aX.of ?_
      (repeat' with_reducible first|intro _|refine rz ?_|refine ra ?_ ?_|omega|simp only [go_sem,f2])
      refine aZ.auto 1 ?_ rfl ?_<;>simp only [go_sem,Int.natCast_succ,Post,List.map_nil]
     ·have hwl:(((ws.length:Nat):Int)=0)=False:=eq_false (by have:=List.length_pos_iff.2 hw;omega)
      rw [yT _ _ _ _ _ _ hw]
      refine aX.of ?_
      (repeat' with_reducible first|intro _|refine rz ?_|refine ra ?_ ?_|omega|simp only [go_sem,f2])
      refine aZ.auto 1 ?_ rfl ?_<;>simp only [go_sem,Int.natCast_succ,Post,List.map_nil]
  first
   | exact absurd hq1 hq2
   | skip
  all_goals
   cases ok with
   | false=>
    have hR:=hEe (.inr fun e=>by have:=(hO.1 e).1;cases this)
    subst hR
    by_cases hw:ws=[]
    ·subst hw
     rw [xR]
     refine aX.of ?_
     (repeat' with_reducible first|intro _|exact dn|refine rn ?_|refine ra ?_ ?_)
     refine aZ.auto 1 ?_ rfl ?_<;>simp only [go_sem,Int.natCast_succ,Post,List.map_nil]
    ·have hwl:(((ws.length:Nat):Int)=0)=False:=eq_false (by have:=List.length_pos_iff.2 hw;omega)
     rw [yT _ _ _ _ _ _ hw]
     refine aX.of ?_
     (repeat' with_reducible first|intro _|exact dn|refine rn ?_|refine ra ?_ ?_)
     refine aZ.auto 1 ?_ rfl ?_<;>simp only [go_sem,Int.natCast_succ,Post,List.map_nil]
   | true=>
    by_cases hwc:ws=[]∧c=[]
    ·obtain ⟨rfl,rfl⟩:=hwc
     have hR:=hEe (.inr fun e=>(hO.1 e).2.1 ⟨rfl,rfl⟩)
     subst hR
     rw [xR]
     refine aX.of ?_
     (repeat' with_reducible first|intro _|refine rz ?_|refine ra ?_ ?_|omega|simp only [go_sem,f2])
     refine aZ.auto 1 ?_ rfl ?_<;>simp only [go_sem,Int.natCast_succ,Post,List.map_nil]
    by_cases hnc:k.all nc=true
    case neg=>
     have hR:=hEe (.inr fun e=>hnc (hO.1 e).2.2.1)
     subst hR
     rw [show k.all nc=false by simpa using hnc] at kan
     by_cases hw:ws=[]
     ·subst hw
      have g4:(c=[])=False:=eq_false fun e=>hwc ⟨rfl,e⟩
      rw [xR]
      refine aX.of ?_
      (repeat' with_reducible first|intro _|refine rz ?_|refine ra ?_ ?_|omega|simp only [go_sem,f2,g4])
      refine ah.k kan ?_
      (repeat' with_reducible first|intro _|exact dn|refine rn ?_|refine ra ?_ ?_)
      refine aZ.auto 1 ?_ rfl ?_<;>simp only [go_sem,Int.natCast_succ,Post,List.map_nil]
     ·have hwl:(((ws.length:Nat):Int)=0)=False:=eq_false (by have:=List.length_pos_iff.2 hw;omega)
      rw [yT _ _ _ _ _ _ hw]
      refine aX.of ?_
      (repeat' with_reducible first|intro _|refine rz ?_|refine ra ?_ ?_|omega|simp only [go_sem,f2,hwl])
      refine ah.k kan ?_
      (repeat' with_reducible first|intro _|exact dn|refine rn ?_|refine ra ?_ ?_)
      refine aZ.auto 1 ?_ rfl ?_<;>simp only [go_sem,Int.natCast_succ,Post,List.map_nil]
    rw [hnc] at kan
    by_cases hk0:k=[]
    ·have g5:(k=[])=True:=eq_true hk0
     have hR:=hEe (.inr fun e=>(hO.1 e).2.2.2 hk0)
     subst hR
     by_cases hw:ws=[]
     ·subst hw
      have g4:(c=[])=False:=eq_false fun e=>hwc ⟨rfl,e⟩
      rw [xR]
      refine aX.of ?_
      (repeat' with_reducible first|intro _|refine rz ?_|refine ra ?_ ?_|omega|simp only [go_sem,f2,g4])
      refine ah.k kan ?_
      (repeat' with_reducible first|intro _|refine rz ?_|refine ra ?_ ?_|omega|simp only [go_sem,g5])
      refine aZ.auto 1 ?_ rfl ?_<;>simp only [go_sem,Int.natCast_succ,Post,List.map_nil]
     ·have hwl:(((ws.length:Nat):Int)=0)=False:=eq_false (by have:=List.length_pos_iff.2 hw;omega)
      rw [yT _ _ _ _ _ _ hw]
      refine aX.of ?_
      (repeat' with_reducible first|intro _|refine rz ?_|refine ra ?_ ?_|omega|simp only [go_sem,f2,hwl])
      refine ah.k kan ?_
      (repeat' with_reducible first|intro _|refine rz ?_|refine ra ?_ ?_|omega|simp only [go_sem,g5])
      refine aZ.auto 1 ?_ rfl ?_<;>simp only [go_sem,Int.natCast_succ,Post,List.map_nil]
    have g5:(k=[])=False:=eq_false hk0
    obtain ⟨n1,n2⟩:=e3 hq2 (hO.2 ⟨rfl,hwc,hnc,hk0⟩)
    have hap:dF (acc++[⟨k,ws,c⟩]):=dS.2 fun r hr=>by
     rcases List.mem_append.1 hr with h|h
     ·exact dS.1 ha2 r h
     ·rw [List.mem_singleton.1 h];exact hsmQ
    have hnx:i+1<L.length∧(acc++[(⟨k,ws,c⟩:Ru)]).length≤i+1∧dF (acc++[⟨k,ws,c⟩])∧LX (L.drop (i+1)) (acc++[⟨k,ws,c⟩]) (i+1)=E:=⟨n1,by rw [List.length_append,List.length_singleton];omega,hap,n2⟩
    by_cases hw:ws=[]
    ·subst hw
     have g4:(c=[])=False:=eq_false fun e=>hwc ⟨rfl,e⟩
     rw [xR]
     refine aX.ent (bC.KG (P:=Tryd.prog) 1 1 9 e9 rfl rfl) ?_
     refine aX.of ?_
     (repeat' with_reducible first|intro _|refine rz ?_|refine ra ?_ ?_|omega|simp only [go_sem,f2,g4])
     refine ah.k kan ?_
     (repeat' with_reducible first|intro _|refine rz ?_|refine ra ?_ ?_|omega|simp only [go_sem,g5,List.length_map])
     refine gG.of (aX.of ?_)
     (repeat' with_reducible first|intro _|exact dn|refine rn ?_|refine ra ?_ ?_)
     refine ⟨(acc++[⟨k,[],c⟩],i+1),?_,hnx,by dsimp only;omega⟩
     refine bC.aA rfl ?_ ?_<;>simp only [go_sem,Int.natCast_succ,PK]
     all_goals simp [Ru.av]
    ·have hwl:(((ws.length:Nat):Int)=0)=False:=eq_false (by have:=List.length_pos_iff.2 hw;omega)
     rw [yT _ _ _ _ _ _ hw]
     refine aX.of ?_
     (repeat' with_reducible first|intro _|refine rz ?_|refine ra ?_ ?_|omega|simp only [go_sem,f2,hwl])
     refine ah.k kan ?_
     (repeat' with_reducible first|intro _|refine rz ?_|refine ra ?_ ?_|omega|simp only [go_sem,g5,List.length_map])
     refine gG.of (aX.of ?_)
     (repeat' with_reducible first|intro _|exact dn|refine rn ?_|refine ra ?_ ?_)
     refine ⟨(acc++[⟨k,ws,c⟩],i+1),?_,hnx,by dsimp only;omega⟩
     refine bC.aA rfl ?_ ?_<;>simp only [go_sem,Int.natCast_succ,PK]
     all_goals simp [Ru.av]
theorem Bo (s:Bytes):aC Tryd.prog 10 [.str s] (.tup [.ro (iC (zW s).1),.int .i64 (zW s).2.1,.int .i64 (zW s).2.2]) []:=
 aC.weak (yO s) (by simp [fP,aW,bf,aF,lk])
end Go.Fv.R
/- The laws' first question. -/
namespace Go.Fv.R
open Go Go.Proofs
theorem I4:aC Tryd.prog 4 [] (.bool true) []:=by
 have k:=zK [97]
 refine aC.aO Tryd.func4 rfl (by decide) (by simp [Tryd.f4]) [.tmp 0] rfl fun w0 T0 _=>?_
 simp only [Tryd.f4,aB]
 have e:eH [97]=true:=by decide
 rw [e] at k
 (repeat' with_reducible first|intro _|exact dn|refine rn ?_|refine ra ?_ ?_)
 refine ah.k k ?_
 (repeat' with_reducible first|intro _|exact dn|refine rn ?_|refine ra ?_ ?_)
 refine aZ.auto 0 ?_ rfl ?_<;>simp only [go_sem,Int.natCast_succ,Post]
end Go.Fv.R
/- The law RulesPrint. -/
namespace Go.Fv.R
open Go Go.Proofs
theorem Nu (l:List Ru):l.length≤(l.flatMap lS).length:=by
 induction l with
 | nil=>simp
 | cons x l ih=>
  rw [List.flatMap_cons,List.length_append,List.length_cons,lS]
  simp only [List.length_append,List.length_singleton];omega
theorem KQ {l:List Ru} (h:KL l=0):zW (Ob l)=(l,0,0):=by
 obtain ⟨h0,hr⟩:=KN h
 have hT:Ob l=l.flatMap lS:=if_pos h
 have hl:=Bq h0
 have hp:=Nu l
 rw [hT]
 unfold zW
 rw [if_neg (by omega),Ew l _ [] 0 hr (by omega)]
 simp only [List.nil_append]
 rw [h0]
 rfl
set_option maxHeartbeats 4000000 in
theorem yS (l:List Ru) (hW:dF l) (s:Bytes):aC Tryd.prog 3 [.ro (iC l),.str s] (.bool true) []:=by
 have kr:=Lj l hW
 have hW2:dF (keepR l):=uO hW (IZ l)
 refine aC.aO Tryd.func3 rfl (by decide) (by simp [Tryd.f3]) [.tmp 4] rfl fun w0 T0 _=>?_
 simp only [Tryd.f3,aB]
 (repeat' with_reducible first|intro _|exact dn|refine rn ?_|refine ra ?_ ?_)
 refine ah.k I4 ?_
 (repeat' with_reducible first|intro _|exact dn|refine rn ?_|refine ra ?_ ?_)
 refine ah.Oc (.ro (iC (keepR l))) kr (by simp only [bH,aW,fK,bf,aF,List.drop_zero,lk,reduceIte,reduceCtorEq,Nat.reduceEqDiff,Option.some.injEq,Item.row.injEq,Item.box.injEq,AV.ro.injEq,exists_eq_left,exists_and_left,exists_eq_left',exists_eq_right,and_assoc,and_true,true_and,List.cons.injEq,exists_eq',exists_eq]) (by simp [fP,fK,aF,lk]) rfl ?_
 clear kr
 generalize keepR l=k at *
 have hel:∀ i,i<2→∃ m,dF m∧([[AV.ro (iC l)],[AV.ro (iC k)]]:List (List AV)).getD i []=[.ro (iC m)]:=fun i hi=>by
  rcases (by omega:i=0∨i=1) with rfl|rfl
  ·exact ⟨l,hW,rfl⟩
  ·exact ⟨k,hW2,rfl⟩
 (repeat' with_reducible first|intro _|exact dn|refine rn ?_|refine ra ?_ ?_)
 refine aU.intro (fun i:Nat=>⟨95,[(1,.str s),(25,.own 0),(26,.int .i64 2),(27,.int .i64 i)],[(0,.row 22 (.objs 1 [[.ro (iC l)],[.ro (iC k)]]))],1⟩) (fun i=>i≤2) (fun i=>2 - i) 0 ?_ (Nat.zero_le _) fun i hi=>?_
 ·refine bC.aA rfl ?_ ?_<;>simp only [go_sem,Int.natCast_succ]
 by_cases hlt:i<2
 ·obtain ⟨m,hm,he⟩:=hel i hlt
  have f1:((i:Int)<2)=True:=eq_true (by omega)
  have k1:=yP m hm Bq
  have k2:=Bv m hm Bq
  have hb:=KQ (l:=m)
  have k3:=pq (Ob m)
  have k4:=rJ m
  generalize KL m=pe at *
  generalize Ob m=pt at *
  by_cases hp:pe=0
  ·have g:(pe=0)=True:=eq_true hp
   rw [hb hp] at k3
   (repeat' with_reducible first|intro _|refine rz ?_|refine ra ?_ ?_|omega|simp only [go_sem,f1,eu,he])
   refine ah.k k1 ?_
   (repeat' with_reducible first|intro _|exact dn|refine rn ?_|refine ra ?_ ?_)
   refine ah.k k2 ?_
   (repeat' with_reducible first|intro _|refine rz ?_|refine ra ?_ ?_|omega|simp only [go_sem,g])
   refine ah.Oc (.tup [.ro (iC m),.int .i64 0,.int .i64 0]) k3 (by simp only [bH,aW,fK,bf,aF,List.drop_zero,lk,reduceIte,reduceCtorEq,Nat.reduceEqDiff,Option.some.injEq,Item.row.injEq,Item.box.injEq,AV.ro.injEq,exists_eq_left,exists_and_left,exists_eq_left',exists_eq_right,and_assoc,and_true,true_and,List.cons.injEq,exists_eq',exists_eq]) (by simp [fP,aW,bf,fK,aF,lk,bH]) rfl ?_
   (repeat' with_reducible first|intro _|exact dn|refine rn ?_|refine ra ?_ ?_)
   refine ah.k k4 ?_
   (repeat' with_reducible first|intro _|exact dn|refine rn ?_|refine ra ?_ ?_)
   refine ⟨i+1,bC.aA rfl ?_ ?_,by omega,by omega⟩<;>simp only [go_sem,Int.natCast_succ]
  ·have g:(pe=0)=False:=eq_false hp
   (repeat' with_reducible first|intro _|refine rz ?_|refine ra ?_ ?_|omega|simp only [go_sem,f1,eu,he])
   refine ah.k k1 ?_
   (repeat' with_reducible first|intro _|exact dn|refine rn ?_|refine ra ?_ ?_)
   refine ah.k k2 ?_
   (repeat' with_reducible first|intro _|refine rz ?_|refine ra ?_ ?_|omega|simp only [go_sem,g])
   refine ⟨i+1,bC.aA rfl ?_ ?_,by omega,by omega⟩<;>simp only [go_sem,Int.natCast_succ]
 ·have f1:((i:Int)<2)=False:=eq_false (by omega)
  have k1:=pq s
  have k2:=Bo s
  have k3:=rJ (zW s).1
  generalize zW s=R at *
  (repeat' with_reducible first|intro _|refine rz ?_|refine ra ?_ ?_|omega|simp only [go_sem,f1])
  refine ah.Oc (.tup [.ro (iC R.1),.int .i64 R.2.1,.int .i64 R.2.2]) k1 (by simp only [bH,aW,fK,bf,aF,List.drop_zero,lk,reduceIte,reduceCtorEq,Nat.reduceEqDiff,Option.some.injEq,Item.row.injEq,Item.box.injEq,AV.ro.injEq,exists_eq_left,exists_and_left,exists_eq_left',exists_eq_right,and_assoc,and_true,true_and,List.cons.injEq,exists_eq',exists_eq]) (by simp [fP,aW,bf,fK,aF,lk,bH]) rfl ?_
  (repeat' with_reducible first|intro _|exact dn|refine rn ?_|refine ra ?_ ?_)
  refine ah.Oc (.tup [.ro (iC R.1),.int .i64 R.2.1,.int .i64 R.2.2]) k2 (by simp only [bH,aW,fK,bf,aF,List.drop_zero,lk,reduceIte,reduceCtorEq,Nat.reduceEqDiff,Option.some.injEq,Item.row.injEq,Item.box.injEq,AV.ro.injEq,exists_eq_left,exists_and_left,exists_eq_left',exists_eq_right,and_assoc,and_true,true_and,List.cons.injEq,exists_eq',exists_eq]) (by simp [fP,aW,bf,fK,aF,lk,bH]) rfl ?_
  (repeat' with_reducible first|intro _|exact dn|refine rn ?_|refine ra ?_ ?_)
  refine ah.k k3 ?_
  (repeat' with_reducible first|intro _|exact dn|refine rn ?_|refine ra ?_ ?_)
  refine aZ.auto 0 ?_ rfl ?_<;>simp only [go_sem,Int.natCast_succ,Post]
end Go.Fv.R
