/-
  A part of the proof of the claim: walks over the program's functions and the plain laws that these need. No condition of its own.
-/
import Derived.Test.YtkigppimkbkjoaaDoorJDocsCardPart2
import Derived.Test.YtkigppimkbkjoaaDoorJDocsCardPart1
import Derived.Test.YtkigppimkbkjoaaDoorFvPart11
import Derived.Shelf.Spec.SlicesGrow
set_option linter.unusedSimpArgs false
set_option linter.unusedVariables false
set_option linter.unnecessarySimpa false
set_option maxRecDepth 8000
/- The reference's Move. -/
namespace Go.Fv.J
open Go Go.Proofs
set_option maxHeartbeats 8000000 in
theorem GL (l:List Dc) (f p t:Nat) (a:Int) (hf:f<l.length) (ht:t<l.length) (hp:p<(l.getD f Dc.zero).pages.length) (hl:l.length≤8) (hpg:∀ d,d∈l→d.pages.length≤2000000) :
  aN Tryd.prog 8 [.ro (jD l),.int .i64 f,.int .i64 p,.int .i64 t,.int .i64 a] (.tup [.own 0,.int .i64 (uD l f p t a)]) [(0,.row 27 (jD (if uD l f p t a=0 then kept (mv2 l f p t a.toNat) else [])))]:=by
 refine aN.of_run Tryd.func8 rfl (by decide) (by simp [Tryd.f8]) [.tmp 10,.tmp 11] rfl fun w0 T0 _=>?_
 simp only [Tryd.f8,aH]
 refine aG.fJ ?_
 (repeat' with_reducible first|intro _|exact dn|refine rn ?_|refine ra ?_ ?_)
 have g1:((f:Int)<0)=False:=eq_false (by omega)
 have g2:((l.length:Int)≤f)=False:=eq_false (by omega)
 have g3:((t:Int)<0)=False:=eq_false (by omega)
 have g4:((l.length:Int)≤t)=False:=eq_false (by omega)
 have g5:((p:Int)<0)=False:=eq_false (by omega)
 have g6:(((l.getD f Dc.zero).pages.length:Int)≤p)=False:=eq_false (by omega)
 have he:=dH l hf
 (repeat' with_reducible first|intro _|exact dn|refine rn ?_|refine ra ?_ ?_)
 refine aX.of (aG.fJ ?_)
 (repeat' with_reducible first|intro _|refine rz ?_|refine ra ?_ ?_|omega|simp only [go_sem,List.length_map,bg,g1,g2,g3,g4,g5,g6,he])
 refine aX.of (aG.fJ ?_)
 (repeat' with_reducible first|intro _|exact dn|refine rn ?_|refine ra ?_ ?_)
 refine aX.of (aG.fJ ?_)
 (repeat' with_reducible first|intro _|refine rz ?_|refine ra ?_ ?_|omega|simp only [go_sem,List.length_map])
 refine bY.run (fun i:Nat=>⟨112,[(50,.int .i64 i),(49,.int .i64 l.length),(48,.ro (jD l)),(12,.own 1),(1,.int .i64 f),(2,.int .i64 p),(3,.int .i64 t),(4,.int .i64 a),(999999,.dead)],(1,.row 27 (.objs 2 (dO (fd l) 100 i)))::iy 100 ((uP (l.take i)).map (.row 3)),i+100⟩) (fun i=>i≤l.length) (fun i=>l.length - i) 0 ?_ (Nat.zero_le _) fun i hi=>?_
 ·refine bJ.BQ id (by simp [fP]) rfl (Nat.zero_le _) (fun i hi=>rfl) (by omega) ?_ ?_ (lC _) ?_ (fun i j _ _ e=>e)
  ·simp only [go_sem,Int.natCast_succ,id]
  ·simp [yg,lk,Item.ren,Item.below,dO,bW,aC,lX,dN,ren,Fv.below]
  ·intro j hj;simp [uP] at hj
 by_cases hlt:i<l.length
 ·refine aG.of ?_
  have hti:(l.take i).length=i:=by rw [List.length_take];omega
  have hei:=dH l hlt
  have hpi:=hpg _ (show l.getD i Dc.zero∈l by rw [getD_lt hlt];exact List.getElem_mem hlt)
  have kc:=jr (l.getD i Dc.zero).pages (by omega)
  have hp0:=fun x=>nV ((uP (l.take i)).map (.row 3)) 100 (i+100) x (by simp [fP];omega)
  (repeat' with_reducible first|intro _|refine rz ?_|refine ra ?_ ?_|omega|simp only [go_sem,List.length_map,bg,hei,hp0])
  have hn1:(i=i+1)=False:=by simp
  have hn2:(i+100=i+101)=False:=by simp
  have hn3:(i+100=i+102)=False:=by simp
  have q1:p2 1 (i+100+1+1+1) (i+100) (i+101) 1=i+100+1+1+1:=KR _ _ _ _
  have qn:p2 1 (i+100+1+1+1) (i+100) (i+101) (i+100)=i+101:=Jc (by omega)
  have qj:∀ j,j<i→p2 1 (i+100+1+1+1) (i+100) (i+101) (j+100)=j+100:=fun j hj=>KT (by omega) (by omega)
  have qi:∀ a b,a<i+101→b<i+101→p2 1 (i+100+1+1+1) (i+100) (i+101) a=p2 1 (i+100+1+1+1) (i+100) (i+101) b→a=b:=Jd (by omega) (by omega) (by omega)
  generalize p2 1 (i+100+1+1+1) (i+100) (i+101)=pp at *
  have htj:(l.take (i+1)).length=i+1:=by rw [List.length_take];omega
  refine bT.cut (.first 0 (.first 1 (.first 3 (.cons 2 (.cons 4 (.cons 5 (.cons 6 (.cons 7 (.cons 8 (.first 9 .done) .stop) .stop) .stop) .stop) .stop) (.cons 4 (.cons 2 (.cons 5 (.cons 6 (.cons 7 (.cons 8 (.first 9 .done) .stop) .stop) .stop) .stop) (.cons 5 (.cons 2 (.cons 6 (.cons 7 (.cons 8 (.first 9 .done) .stop) .stop) .stop) .stop) .stop)) .stop))))) (by kernel_rfl) (by kernel_rfl) (by kernel_rfl)
   ⟨112,[(50,.int .i64 i),(49,.int .i64 l.length),(48,.ro (jD l)),(12,.own 1),(1,.int .i64 f),(2,.int .i64 p),(3,.int .i64 t),(4,.int .i64 a),(999999,.dead)],(1,.row 27 (.objs 2 (dO (fd l) 100 (i+1))))::iy 100 ((uP (l.take (i+1))).map (.row 3)),i+1+100⟩ ?_ ?_
  ·(repeat' with_reducible first|intro _|refine rz ?_|refine ra ?_ ?_|omega|simp only [go_sem,hp0])
   all_goals
    refine ak.o kc 1 ?_
    (repeat' with_reducible first|intro _|refine rz ?_|refine ra ?_ ?_|omega|simp only [go_sem,hp0,bH,hn1,hn2,hn3])
   all_goals
    refine bJ.BQ pp (by rw [fP,htj]) rfl (Nat.zero_le _) (fun i hi=>by omega) (by omega) ?_ ?_ (lC _) ?_ (fun a b ha hb=>qi a b (by omega) (by omega))
    ·simp only [go_sem,Int.natCast_succ,q1]
     omega
    ·simp only [go_sem,Int.natCast_succ,yg,q1,lX]
     rw [uH qj qn]
     simp only [dN,mW (f:=fd l) (Nat.le_refl _)]
     simp [lk,fd]
    ·intro j hj
     rw [fP,htj] at hj
     by_cases e:j=i
     ·subst e
      rw [qn,gq (by omega),gq (by omega),nM,wY,jI (by omega)]
     ·rw [qj j (by omega)]
      repeat rw [gq (by omega)]
      rw [eY,if_neg (by omega),iP _ (by rw [hti];omega),wY,jI (by omega),jI (by omega)]
  ·(repeat' with_reducible first|intro _|exact dn|refine rn ?_|refine ra ?_ ?_)
   exact ⟨i+1,bJ.sub (by simp only [go_sem,Int.natCast_succ]),by omega,by omega⟩
 ·have e:i=l.length:=by omega
  subst e
  rw [List.take_length]
  have hff:(dO (fd l) 100 l.length).getD f []=[.str (l.getD f Dc.zero).kind,.own (f+100)]:=zQ (f:=fd l) 100 l.length hf
  have hlf:=iP l hf
  have hn1:(1=f+100)=False:=eq_false (by omega)
  have hpf:=hpg _ (show l.getD f Dc.zero∈l by rw [getD_lt hf];exact List.getElem_mem hf)
  have kd:=vU (l.getD f Dc.zero).pages p hp (by omega)
  refine aG.of ?_
  (repeat' with_reducible first|intro _|refine rz ?_|refine ra ?_ ?_|omega|simp only [go_sem,List.length_map])
  refine aX.of (aG.fJ ?_)
  (repeat' with_reducible first|intro _|refine rz ?_|refine ra ?_ ?_|omega|simp only [go_sem,List.length_map,bg,hff,hlf,bH,hn1])
  refine aX.of (aG.fJ ?_)
  (repeat' with_reducible first|intro _|refine rz ?_|refine ra ?_ ?_|omega|simp only [go_sem,List.length_map,bg,hff,hlf,bH,hn1])
  refine ak.io [f+100] kd (by simp) (by simp [bW,ren,iC]) rfl (by simp [eP,iC,lk,Item.ren,Item.below,iQ,bf,hlf]) qg 2 (by simp) rfl (by simp [dK,Item.below,bf]) ?_
  (repeat' with_reducible first|intro _|refine rz ?_|refine ra ?_ ?_|omega|simp only [go_sem,S.Fp,iF,iC,qI,Item.ren,ren,bW,List.map_nil,List.getElem?_cons_zero,List.getElem?_nil,Nat.reduceSub,bH,hff])
  have hfs:∀ j,j<l.length→j≠f→lk (del (iy 100 ((uP l).map (.row 3))) (f+100)) (j+100)=some (.row 3 (.ints .i64 (l.getD j Dc.zero).pages)):=fun j hj hne=>by
   rw [eY,if_neg (by omega)];exact iP l hj
  have e1:p1 (f+100) (l.length+100) 1=1:=y8 (by omega)
  refine aX.of (aG.ent (bJ.zO (D:=l) (k:=f) (K:=l.length+100) (P:=(l.getD f Dc.zero).pages.eraseIdx p) (env:=[(12,.own 1),(15,.int .i64 ((l.getD f Dc.zero).pages.getD p 0)),(1,.int .i64 f),(3,.int .i64 t),(4,.int .i64 a),(999999,.dead)]) rfl hf rfl (Nat.le_refl _) ?_ ?_ ?_ ?_) (aG.fJ ?_))
  ·simp only [go_sem,Int.natCast_succ,e1]
   omega
  ·rw [gq (by omega),nM]
  ·rw [nM]
  ·intro j hj hne
   rw [gq (by omega),gq (by omega),nN,if_neg (by omega)]
   exact hfs j hj hne
  clear hff hlf hfs hn1 kd e1 he
  have hDl:(DT l f p).length=l.length:=List.length_set
  have hDp:((DT l f p).getD t Dc.zero).pages.length≤2000000:=by
   unfold DT
   rw [lu l f _ ht]
   have h1:=hpg _ (show l.getD t Dc.zero∈l by rw [getD_lt ht];exact List.getElem_mem ht)
   split
   ·have:=List.length_eraseIdx_le (l.getD f Dc.zero).pages p;omega
   ·omega
  have hD:l.set f ⟨(l.getD f Dc.zero).kind,(l.getD f Dc.zero).pages.eraseIdx p⟩=DT l f p:=rfl
  rw [hD]
  unfold uD mv2
  generalize DT l f p=D at *
  rw [←hDl]
  have ht':t<D.length:=by omega
  have hf':f<D.length:=by omega
  have hff:(dO (fd D) 100 D.length).getD t []=[.str (D.getD t Dc.zero).kind,.own (t+100)]:=zQ (f:=fd D) 100 D.length ht'
  have hlf:=iP D ht'
  have hn1:(1=t+100)=False:=eq_false (by omega)
  generalize (l.getD f Dc.zero).pages.getD p 0=x at *
  by_cases ha0:a<0
  ·have ga:(a<0)=True:=eq_true ha0
   rw [if_pos (.inl ha0)]
   (repeat' with_reducible first|intro _|refine rz ?_|refine ra ?_ ?_|omega|simp only [go_sem,bg,ga,hff,hlf,bH,hn1])
   refine dM.auto 1 ?_ rfl ?_<;>simp only [go_sem,Int.natCast_succ,Post,List.map_nil]
  have ga:(a<0)=False:=eq_false ha0
  by_cases ha1:((D.getD t Dc.zero).pages.length:Int)<a
  ·have gb:(((D.getD t Dc.zero).pages.length:Int)<a)=True:=eq_true ha1
   rw [if_pos (.inr ha1)]
   (repeat' with_reducible first|intro _|refine rz ?_|refine ra ?_ ?_|omega|simp only [go_sem,bg,ga,gb,hff,hlf,bH,hn1])
   refine dM.auto 1 ?_ rfl ?_<;>simp only [go_sem,Int.natCast_succ,Post,List.map_nil]
  have gb:(((D.getD t Dc.zero).pages.length:Int)<a)=False:=eq_false ha1
  rw [if_neg (fun h=>h.elim ha0 ha1),if_pos rfl]
  obtain ⟨b,rfl⟩:∃ b:Nat,a=b:=⟨a.toNat,by omega⟩
  rw [Int.toNat_natCast]
  have ki:=wG (D.getD t Dc.zero).pages b x (by omega) (by omega)
  have hn2:(1=D.length+100)=False:=eq_false (by omega)
  have hn3:(D.length+100=t+100)=False:=eq_false (by omega)
  have hn4:(t+100=D.length+100)=False:=eq_false (by omega)
  have hn5:(D.length=t)=False:=eq_false (by omega)
  (repeat' with_reducible first|intro _|refine rz ?_|refine ra ?_ ?_|omega|simp only [go_sem,bg,ga,gb,hff,hlf,bH,hn1])
  refine aX.of (aG.fJ ?_)
  (repeat' with_reducible first|intro _|refine rz ?_|refine ra ?_ ?_|omega|simp only [go_sem,bg,hff,hlf,bH,hn1])
  refine ak.io [t+100,D.length+100] ki (by simp;omega) (by simp [bW,ren,iC]) rfl (by simp [eP,iC,lk,Item.ren,Item.below,iQ,bf,hlf,hn5,hn1]) Ia 3 (by simp) rfl (by simp [dK,Item.below,bf]) ?_
  (repeat' with_reducible first|intro _|refine rz ?_|refine ra ?_ ?_|omega|simp only [go_sem,S.Fp,iF,iC,qI,Item.ren,ren,bW,List.map_nil,List.getElem?_cons_zero,List.getElem?_cons_succ,List.getElem?_nil,Nat.reduceSub,bH,hff,hn1,hn2,hn3,hn4])
  have hfs:∀ j,j<D.length→j≠t→lk (iy 100 ((uP D).map (.row 3))) (j+100)=some (.row 3 (.ints .i64 (D.getD j Dc.zero).pages)):=fun j hj hne=>iP D hj
  have e1:p1 (t+100) (D.length+101) 1=1:=y8 (by omega)
  refine aX.of (aG.ent (bJ.zO (D:=D) (k:=t) (K:=D.length+101) (P:=Ce (D.getD t Dc.zero).pages b x) (env:=[(12,.own 1),(1,.int .i64 f),(999999,.dead)]) rfl ht' rfl (by omega) ?_ ?_ ?_ ?_) ?_)
  ·simp only [go_sem,Int.natCast_succ,e1]
   omega
  ·rw [gq (by omega),nM]
  ·rw [nM];rfl
  ·intro j hj hne
   rw [gq (by omega),gq (by omega),nN,if_neg (by omega),eY,if_neg (by omega),eY,if_neg (by omega)]
   exact hfs j hj hne
  have hEl:(D.set t ⟨(D.getD t Dc.zero).kind,Ce (D.getD t Dc.zero).pages b x⟩).length=D.length:=List.length_set
  generalize D.set t ⟨(D.getD t Dc.zero).kind,Ce (D.getD t Dc.zero).pages b x⟩=E at *
  rw [←hEl]
  refine aG.ent (Ir E (by simp [lk,Fv.below])) (aG.of ?_)
  have kD:=vT E (by omega)
  (repeat' with_reducible first|intro _|exact dn|refine rn ?_|refine ra ?_ ?_)
  refine ak.io [1] kD (by decide) (by simp [bW,ren,iC]) rfl (by simp [eP,iC,lk,Item.ren,Item.below,iQ,bf]) qg 2 (by decide) rfl (by simp [dK,Item.below,bf]) ?_
  (repeat' with_reducible first|intro _|refine rz ?_|refine ra ?_ ?_|omega|simp only [go_sem,S.Fp,iF,iC,qI,Item.ren,ren,bW,List.map_nil,List.getElem?_cons_zero,List.getElem?_nil,Nat.reduceSub])
  refine dM.auto 1 ?_ rfl ?_<;>simp only [go_sem,Int.natCast_succ,Post]
set_option maxHeartbeats 4000000 in
theorem Df (l:List Dc) (f p t a:Int) (hv:¬Ae l f p t):aN Tryd.prog 8 [.ro (jD l),.int .i64 f,.int .i64 p,.int .i64 t,.int .i64 a] (.tup [.own 0,.int .i64 10]) [(0,.row 27 (jD []))]:=by
 refine aN.bZ Tryd.func8 rfl (by decide) (by simp [Tryd.f8]) [.tmp 10,.tmp 11] rfl fun w0 T0 _=>?_
 simp only [Tryd.f8,aH]
 (repeat' with_reducible first|intro _|exact dn|refine rn ?_|refine ra ?_ ?_)
 by_cases h1:f<0
 ·have g1:(f<0)=True:=eq_true h1
  have he:∃ b c,(l.map Dc.av).getD f.toNat []=[]∨(l.map Dc.av).getD f.toNat []=[.str b,.ro (.ints .i64 c)]:=by
   by_cases hlt:f.toNat<l.length
   ·exact ⟨_,_,.inr (dH l hlt)⟩
   ·exact ⟨[],[],.inl (zJ l (by omega))⟩
  obtain ⟨b,c,he|he⟩:=he
  ·(repeat' with_reducible first|intro _|refine rz ?_|refine ra ?_ ?_|omega|simp only [go_sem,List.length_map,bg,g1,he])
   refine dM.auto 1 ?_ rfl ?_<;>simp only [go_sem,Int.natCast_succ,Post,List.map_nil]
  ·(repeat' with_reducible first|intro _|refine rz ?_|refine ra ?_ ?_|omega|simp only [go_sem,List.length_map,bg,g1,he])
   refine dM.auto 1 ?_ rfl ?_<;>simp only [go_sem,Int.natCast_succ,Post,List.map_nil]
 have g1:(f<0)=False:=eq_false h1
 obtain ⟨n,rfl⟩:∃ n:Nat,f=n:=⟨f.toNat,by omega⟩
 by_cases h2:(l.length:Int)≤n
 ·have g2:((l.length:Int)≤n)=True:=eq_true h2
  have he:=zJ l (i:=n) (by omega)
  (repeat' with_reducible first|intro _|refine rz ?_|refine ra ?_ ?_|omega|simp only [go_sem,List.length_map,bg,g1,g2,he])
  refine dM.auto 1 ?_ rfl ?_<;>simp only [go_sem,Int.natCast_succ,Post,List.map_nil]
 have g2:((l.length:Int)≤n)=False:=eq_false h2
 have he:=dH l (i:=n) (by omega)
 (repeat' with_reducible first|intro _|refine rz ?_|refine ra ?_ ?_|omega|simp only [go_sem,List.length_map,bg,g1,g2,he])
 ·refine dM.auto 1 ?_ rfl ?_<;>simp only [go_sem,Int.natCast_succ,Post,List.map_nil]
 ·exact (hv (by unfold Ae;rw [Int.toNat_natCast];omega)).elim
theorem zK {d:Dc} (h:aI d=0):d.pages.length≠0:=by
 intro h0
 have:d.pages=[]:=List.eq_nil_of_length_eq_zero h0
 unfold aI oH at h
 rw [if_pos this] at h
 simp only [aA] at h
 split at h<;>(try split at h)<;>simp_all
theorem BL {l:List Dc} (h:aT l=0):∀ d,d∈l→aI d=0:=by
 unfold aT at h
 induction l with
 | nil=>intro d hd;cases hd
 | cons x l ih=>
  simp only [List.map_cons,aA] at h
  split at h
  ·rename_i h0
   intro d hd
   rcases List.mem_cons.1 hd with rfl|hd
   ·exact h0
   ·exact ih h d hd
  ·contradiction
theorem Ko (D:List Dc) (f:Nat) (hf:f<D.length) (h:∀ j,j<D.length→j≠f→(D.getD j Dc.zero).pages.length≠0) :
  kept D=if (D.getD f Dc.zero).pages.length=0 then D.eraseIdx f else D:=by
 have hD:D=D.take f++D.getD f Dc.zero::D.drop (f+1):=by
  rw [getD_lt hf,←List.drop_eq_getElem_cons hf,List.take_append_drop]
 have hA:kept (D.take f)=D.take f:=List.filter_eq_self.2 fun d hd=>by
  obtain ⟨j,hj,rfl⟩:=List.mem_iff_getElem.1 hd
  rw [List.length_take] at hj
  have:=h j (by omega) (by omega)
  rw [getD_lt (by omega)] at this
  simp [Dc.bare,List.getElem_take,this]
 have hB:kept (D.drop (f+1))=D.drop (f+1):=List.filter_eq_self.2 fun d hd=>by
  obtain ⟨j,hj,rfl⟩:=List.mem_iff_getElem.1 hd
  rw [List.length_drop] at hj
  have:=h (f+1+j) (by omega) (by omega)
  rw [getD_lt (by omega)] at this
  simp [Dc.bare,List.getElem_drop,this]
 have hk:kept D=kept (D.take f)++kept (D.getD f Dc.zero::D.drop (f+1)):=by
  conv=>lhs;rw [hD]
  unfold kept;rw [List.filter_append]
 rw [hk,hA]
 by_cases h0:(D.getD f Dc.zero).pages.length=0
 ·rw [if_pos h0,List.eraseIdx_eq_take_drop_succ]
  congr 1
  unfold kept at *
  rw [List.filter_cons,if_neg (by unfold Dc.bare;rw [decide_eq_true h0];decide)]
  exact hB
 ·rw [if_neg h0]
  conv=>rhs;rw [hD]
  congr 1
  unfold kept at *
  rw [List.filter_cons,if_pos (by unfold Dc.bare;rw [decide_eq_false h0];rfl),hB]
theorem Kr (l:List Dc) (f p t a:Nat) (hf:f<l.length) (ht:t<l.length) (h:aT l=0):kept (mv2 l f p t a)=mv3 l f p t a:=by
 have hne:=BL h
 have hDl:(DT l f p).length=l.length:=List.length_set
 have h2l:(mv2 l f p t a).length=l.length:=by unfold mv2;rw [List.length_set,hDl]
 unfold mv3
 refine Ko _ f (by omega) fun j hj hjf=>?_
 unfold mv2
 rw [lu _ _ _ (by omega)]
 by_cases hjt:j=t
 ·rw [if_pos hjt]
  simp [Ce]
 ·rw [if_neg hjt]
  unfold DT
  rw [lu _ _ _ (by omega),if_neg hjf]
  exact zK (hne _ (by rw [getD_lt (by omega)];exact List.getElem_mem _))
end Go.Fv.J
/- sort.Cut. -/
namespace Go.Fv.J
open Go Go.Proofs
def mY (d:Dc) (at':Int):Int:=if aI d≠0 then aI d else if at'<1∨(d.pages.length:Int)≤at' then 3 else 0
set_option maxHeartbeats 4000000 in
theorem Ll (d:Dc) (n:Int) (h:mY d n≠0):aN Tryd.prog 17 [.agg d.av,.int .i64 n] (.tup [.agg [.str [],.nilS],.agg [.str [],.nilS],.int .i64 (mY d n)]) []:=by
 have k:=dS [d]
 have e:aT [d]=aI d:=by unfold aT;simp [aA];exact fun h=>h.symm
 rw [e] at k
 unfold mY at *
 generalize aI d=E at *
 unfold Dc.av at *
 obtain ⟨kd,P⟩:=d
 dsimp only at *
 refine aN.bZ Tryd.func17 rfl (by decide) (by simp [Tryd.f17]) [.cell 4 27,.cell 5 27,.tmp 6] rfl fun w0 T0 _=>?_
 simp only [Tryd.f17,aH]
 have hd1:jD [⟨kd,P⟩]=.objs 2 [[.str kd,.ro (.ints .i64 P)]]:=rfl
 rw [hd1] at k
 (repeat' with_reducible first|intro _|exact dn|refine rn ?_|refine ra ?_ ?_)
 refine ak.k k ?_
 by_cases h0:E=0
 ·have g0:(E=0)=True:=eq_true h0
  rw [if_neg (by rw [h0];simp)] at h ⊢
  by_cases h1:n<1
  ·have g1:(n<1)=True:=eq_true h1
   rw [if_pos (.inl h1)]
   (repeat' with_reducible first|intro _|refine rz ?_|refine ra ?_ ?_|omega|simp only [go_sem,g0,g1])
   refine dM.auto 0 ?_ rfl ?_<;>simp only [go_sem,Int.natCast_succ,Post]
  ·have g1:(n<1)=False:=eq_false h1
   by_cases h2:(P.length:Int)≤n
   ·have g2:((P.length:Int)≤n)=True:=eq_true h2
    rw [if_pos (.inr h2)]
    (repeat' with_reducible first|intro _|refine rz ?_|refine ra ?_ ?_|omega|simp only [go_sem,g0,g1,g2])
    refine dM.auto 0 ?_ rfl ?_<;>simp only [go_sem,Int.natCast_succ,Post]
   ·rw [if_neg (fun h=>h.elim h1 h2)] at h
    exact absurd rfl h
 ·have g0:(E=0)=False:=eq_false h0
  rw [if_pos h0]
  (repeat' with_reducible first|intro _|refine rz ?_|refine ra ?_ ?_|omega|simp only [go_sem,g0])
  refine dM.auto 0 ?_ rfl ?_<;>simp only [go_sem,Int.natCast_succ,Post]
set_option maxHeartbeats 4000000 in
theorem JW (d:Dc) (n:Nat) (h:aI d=0) (h1:1≤n) (h2:n<d.pages.length) (hl:d.pages.length≤2000000):aN Tryd.prog 17 [.agg d.av,.int .i64 n] (.tup [.agg [.str d.kind,.ro (.ints .i64 (d.pages.take n))],.agg [.str [],.ro (.ints .i64 (d.pages.drop n))],.int .i64 0]) []:=by
 have k:=dS [d]
 have e:aT [d]=aI d:=by unfold aT;simp [aA];exact fun h=>h.symm
 rw [e,h] at k
 clear h e
 unfold Dc.av at *
 obtain ⟨kd,P⟩:=d
 dsimp only at *
 have hd1:jD [⟨kd,P⟩]=.objs 2 [[.str kd,.ro (.ints .i64 P)]]:=rfl
 rw [hd1] at k
 have k1:=jr (P.take n) (by rw [List.length_take];omega)
 have k2:=jr (P.drop n) (by rw [List.length_drop];omega)
 refine aN.bZ Tryd.func17 rfl (by decide) (by simp [Tryd.f17]) [.cell 4 27,.cell 5 27,.tmp 6] rfl fun w0 T0 _=>?_
 simp only [Tryd.f17,aH]
 have g1:((n:Int)<1)=False:=eq_false (by omega)
 have g2:((P.length:Int)≤(n:Int))=False:=eq_false (by omega)
 (repeat' with_reducible first|intro _|exact dn|refine rn ?_|refine ra ?_ ?_)
 refine ak.k k ?_
 have g3:((n:Int)≤(P.length:Int))=True:=eq_true (by omega)
 have e3:(P.drop n).take (P.length - n)=P.drop n:=List.take_of_length_le (by rw [List.length_drop];exact Nat.le_refl _)
 (repeat' with_reducible first|intro _|refine rz ?_|refine ra ?_ ?_|omega|simp only [go_sem,g1,g2])
 refine bT.lex [14,15] [(13,[1])] (by kernel_rfl) (by kernel_rfl) ?_
 (repeat' with_reducible first|intro _|refine rz ?_|refine ra ?_ ?_|omega|simp only [go_sem,g3,Nat.sub_zero])
 refine QV.intro (.ro (.ints .i64 (P.take n))) ?_ ?_
 ·(repeat' with_reducible first|intro _|exact dn|refine rn ?_|refine ra ?_ ?_)
  refine ak.ro (.ro (.ints .i64 (P.take n))) (gJ.gU k1 rfl rfl) (by simp only [bI,aW,eF,aZ,aB,List.drop_zero,lk,reduceIte,reduceCtorEq,Nat.reduceEqDiff,Option.some.injEq,Item.row.injEq,Item.box.injEq,AV.ro.injEq,exists_eq_left,exists_and_left,exists_eq_left',exists_eq_right,and_assoc,and_true,true_and,List.cons.injEq,exists_eq',exists_eq]) (by simp [gG,eF,aB,lk]) rfl ?_
  (repeat' with_reducible first|intro _|exact dn|refine rn ?_|refine ra ?_ ?_)
 (repeat' with_reducible first|intro _|refine rz ?_|refine ra ?_ ?_|omega|simp only [go_sem,g3,e3])
 refine QV.intro (.ro (.ints .i64 (P.drop n))) ?_ ?_
 ·(repeat' with_reducible first|intro _|exact dn|refine rn ?_|refine ra ?_ ?_)
  refine ak.ro (.ro (.ints .i64 (P.drop n))) (gJ.gU k2 rfl rfl) (by simp only [bI,aW,eF,aZ,aB,List.drop_zero,lk,reduceIte,reduceCtorEq,Nat.reduceEqDiff,Option.some.injEq,Item.row.injEq,Item.box.injEq,AV.ro.injEq,exists_eq_left,exists_and_left,exists_eq_left',exists_eq_right,and_assoc,and_true,true_and,List.cons.injEq,exists_eq',exists_eq]) (by simp [gG,eF,aB,lk]) rfl ?_
  (repeat' with_reducible first|intro _|exact dn|refine rn ?_|refine ra ?_ ?_)
 (repeat' with_reducible first|intro _|exact dn|refine rn ?_|refine ra ?_ ?_)
 refine dM.auto 0 ?_ rfl ?_<;>simp only [go_sem,Int.natCast_succ,Post,Fv.spl]
end Go.Fv.J
/- slices.IndexFunc and ContainsFunc of integers. -/
namespace Go.Fv.J
open Go Go.Proofs
set_option maxHeartbeats 1000000 in
theorem yc (l:List Int) (f:Nat) (caps:List AV) [rX caps] (q:Int→Bool) (hq:∀ x:Int,x∈l→gJ Tryd.prog f ([.int .i64 x]++caps) (.bool (q x)) []) :
  aN Tryd.prog 30 [.ro (.ints .i64 l),.fn f caps] (.int .i64 (firstAt q l 0)) []:=by
 refine aN.bZ Tryd.func30 rfl (by decide) (by simp [Tryd.f30]) [.tmp 4] rfl fun w0 T0 _=>?_
 simp only [Tryd.f30,aH]
 (repeat' with_reducible first|intro _|refine rz ?_|refine ra ?_ ?_|omega|simp only [go_sem,List.length_map])
 refine bY.intro (fun i:Nat=>⟨19,[(0,.ro (.ints .i64 l)),(1,.fn f caps),(7,.int .i64 l.length),(8,.int .i64 i)],[],0⟩) (fun i=>i≤l.length∧firstAt q (l.drop i) i=firstAt q l 0) (fun i=>l.length - i) 0 ?_ ⟨Nat.zero_le _,rfl⟩ fun i hI=>?_
 ·refine bJ.bG rfl ?_ ?_<;>simp only [go_sem,Int.natCast_succ]
 obtain ⟨hl,hI⟩:=hI
 by_cases hlt:i<l.length
 ·have he:=trivial
  have hd:l.drop i=l.getD i 0::l.drop (i+1):=by rw [List.drop_eq_getElem_cons hlt,getD_lt hlt]
  rw [hd,firstAt] at hI
  (repeat' with_reducible first|intro _|refine rz ?_|refine ra ?_ ?_|omega|simp only [go_sem,List.length_map,true_and])
  refine ak.fr (args':=[.int .i64 (l.getD i 0)]++caps) (hq _ (by rw [getD_lt hlt];exact List.getElem_mem hlt)) (by simp [aW,aZ,aB,vM]) 0 rfl (by simp [dK]) ?_
  (repeat' with_reducible first|intro _|exact dn|refine rn ?_|refine ra ?_ ?_)
  ·rename_i h2
   rw [if_pos h2] at hI
   refine dM.auto 0 ?_ rfl ?_<;>simp only [go_sem,Int.natCast_succ,Post]
   rw [←hI]
  ·rename_i h2
   rw [if_neg (by rw [h2];exact Bool.false_ne_true)] at hI
   refine ⟨i+1,bJ.bG rfl ?_ ?_,⟨by omega,hI⟩,by omega⟩<;>simp only [go_sem,Int.natCast_succ]
   all_goals rfl
 ·have e:i=l.length:=by omega
  subst e
  rw [List.drop_length] at hI
  (repeat' with_reducible first|intro _|refine rz ?_|refine ra ?_ ?_|omega|simp only [go_sem,List.length_map])
  refine dM.auto 0 ?_ rfl ?_<;>simp only [go_sem,Int.natCast_succ,Post]
  rw [←hI];rfl
theorem lM (l:List Int) (f:Nat) (caps:List AV) [rX caps] (q:Int→Bool) (hq:∀ s:Int,s∈l→gJ Tryd.prog f ([.int .i64 s]++caps) (.bool (q s)) []) :
  aN Tryd.prog 11 [.ro (.ints .i64 l),.fn f caps] (.bool (l.any q)) []:=by
 have k:=yc l f caps q hq
 have e:l.any q=decide (0≤firstAt q l 0):=by rw [Bool.eq_iff_iff,decide_eq_true_eq,ny]
 rw [e]
 refine aN.bZ Tryd.func11 rfl (by decide) (by simp [Tryd.f11]) [.tmp 4] rfl fun w0 T0 _=>?_
 simp only [Tryd.f11,aH]
 (repeat' with_reducible first|intro _|exact dn|refine rn ?_|refine ra ?_ ?_)
 refine ak.fr (args':=[.ro (.ints .i64 l),.fn f caps]) (gJ.gU k rfl rfl) (by simp [aW,aZ,aB,Bh]) 0 rfl (by simp [dK]) ?_
 (repeat' with_reducible first|intro _|exact dn|refine rn ?_|refine ra ?_ ?_)
 refine dM.auto 0 ?_ rfl ?_<;>simp only [go_sem,Int.natCast_succ,Post]
end Go.Fv.J
/- slices.Concat of two rows of pages: the room by the shelf's contract of slices.Grow. -/
namespace Go.Proofs
open Go.Shelf
def Tryd.wM:Go.Shelf.Ren:=⟨fun|4=>32|n=>n,fun|22=>25|25=>3|3=>3|4=>4|9=>9|20=>20|0=>0|n=>n,fun|n=>n⟩
theorem Tryd.IJ:Go.Proofs.Lays8.n4 Tryd.prog Tryd.wM:={
 mixed:=by kernel_rfl
 f4:=⟨Tryd.f32.name,by decide,Tryd.func32.trans (congrArg some (by kernel_rfl))⟩
 t0:=Tryd.underlying0
 a0:=Tryd.isAgg0
 z0:=Tryd.sizeOf0
 v0:=Tryd.zeroValue0
 t3:=Tryd.underlying3
 a3:=Tryd.isAgg3
 z3:=Tryd.sizeOf3
 v3:=Tryd.zeroValue3
 t4:=Tryd.underlying4
 a4:=Tryd.isAgg4
 z4:=Tryd.sizeOf4
 v4:=Tryd.zeroValue4
 t9:=Tryd.underlying9
 a9:=Tryd.isAgg9
 z9:=Tryd.sizeOf9
 v9:=Tryd.zeroValue9
 t20:=Tryd.underlying20
 a20:=Tryd.isAgg20
 z20:=Tryd.sizeOf20
 v20:=Tryd.zeroValue20
 t22:=Tryd.underlying25
 a22:=Tryd.isAgg25
 z22:=Tryd.sizeOf25
 v22:=Tryd.zeroValue25 }
end Go.Proofs
namespace Go.Fv.J
open Go Go.Proofs Go.RowKit
theorem Cc (n:Nat) (hn:n≤5000000):aN Tryd.prog 32 [.nilS,.int .i64 n] (.own 0) [(0,.row 3 (.ints .i64 []))]:=by
 refine ⟨⟨_,Tryd.func32,by kernel_rfl,by kernel_rfl⟩,fun w T vals hg hv=>?_⟩
 cases hv with
 | cons _ _ _ _ h1 hv=>
 cases hv with
 | cons _ _ _ _ h2 hv=>
 cases hv
 cases h1
 cases h2
 have hone:∀ (w':World) (T':Nat→Prop) (m:Nat→Value) (v:Value),kE w' 3 1 v 0 []→m 0=v→iD w.heap.size w w'→(∀ b,blk v=some b→w.heap.size≤b)→mg T w.heap.size w' (.own 0) [(0,.row 3 (.ints .i64 []))] v:=fun w' T' m v ho hm hb hbl=>by
  refine ⟨fun _=>v,1,.own 0 (by show 0<1;decide) (by rcases ho.2 with ⟨h,_⟩|⟨_,_,_,_,h,_⟩<;>rw [h]<;>rfl),fun i it hi=>?_,fun i j it jt b hi hj _ _=>?_⟩
  ·have hi0:i=0:=by
    simp only [lk] at hi
    split at hi
    ·rename_i h;exact h.symm
    ·cases hi
   subst hi0
   have:it=Item.row 3 (.ints .i64 []):=by simp [lk] at hi;exact hi.symm
   subst this
   exact ⟨by decide,0,[],.ints .i64 [] (fun x hx=>by cases hx),rfl,ho,hbl⟩
  ·have aux:∀ q x,lk [(0,Item.row 3 (.ints .i64 []))] q=some x→q=0:=by
    intro q x hq
    simp only [lk] at hq
    split at hq
    ·rename_i h;exact h.symm
    ·cases hq
   rw [aux i it hi,aux j jt hj]
 by_cases h0:n=0
 ·subst h0
  refine (Any8.slices_Grow_room Tryd.IJ none 0 0 0 w (by decide) (by decide) (by decide) (by decide)).mono ?_
  rintro e w' ⟨rfl,rfl⟩
  exact ⟨_,rfl,iD.refl _ _,hone w' (fun _=>False) (fun _=>.slice none 0 0) _ ⟨rfl,.inl ⟨rfl,rfl⟩⟩ rfl (iD.refl _ _) (fun b hb=>by cases hb)⟩
 ·obtain ⟨i0,hi0,hz0,hs0,hb0⟩:=e3.ex
  have hsz:i0.size=1:=hs0
  refine (Any8.slices_Grow_grow Tryd.IJ i0 _ hi0 hz0 (by omega) none 0 0 n [] w (by decide) (by omega) (by
   have:(0+n)*i0.bytes≤5000000*1024:=Nat.mul_le_mul (by omega) hb0
   omega) (by omega) (by simp) (fun _=>rfl) (fun a ha=>by cases ha)).mono ?_
  rintro e w' ⟨rfl,rfl⟩
  have hg1:=grownCap_ge w (0+n) 0 (Tryd.wM.t 25)
  have hg2:=grownCap_le_maxLen w (0+n) 0 3 (by unfold maxLen;omega)
  have hb:iD w.heap.size w (w.drew.alloc (.cells (([]:List Value).toArray++Builtin.zeroCells (Value.int .i64 0).cells (0+n - 0)++Builtin.zeroCells (Value.int .i64 0).cells (grownCap w (0+n) 0 3 - (0+n))) 3)):=
   ⟨rfl,rfl,rfl,by simp,trivial,fun k hk=>Below.heap_alloc w.drew _ k hk⟩
  refine ⟨_,rfl,hb,hone _ (fun _=>False) (fun _=>.slice (some ⟨w.heap.size,0,none⟩) 0 _) _ ⟨rfl,.inr ⟨w.heap.size,_,_,(0,0),rfl,.inl rfl,heap_alloc_new w.drew _,Nat.zero_le _,hg2,?_,by simp⟩⟩ rfl hb (fun b hb=>by cases hb;exact Nat.le_refl _)⟩
  have:(Value.int .i64 0).cells.size=1:=rfl
  simp only [Array.size_append,List.size_toArray,size_zeroCells,this,List.length_nil]
  omega
set_option maxHeartbeats 4000000 in
theorem vS (A B:List Int) (hA:A.length≤2000000) (hB:B.length≤2000000):aN Tryd.prog 16 [.ro (.objs 1 [[.ro (.ints .i64 A)],[.ro (.ints .i64 B)]])] (.own 0) [(0,.row 3 (.ints .i64 (A++B)))]:=by
 have kG:=Cc (A.length+B.length) (by omega)
 rw [Int.natCast_add] at kG
 refine aN.bZ Tryd.func16 rfl (by decide) (by simp [Tryd.f16]) [.tmp 2] rfl fun w0 T0 _=>?_
 simp only [Tryd.f16,aH]
 (repeat' with_reducible first|intro _|exact dn|refine rn ?_|refine ra ?_ ?_)
 have g0:([[.ro (.ints .i64 A)],[.ro (.ints .i64 B)]]:List (List AV)).getD 0 []=[.ro (.ints .i64 A)]:=rfl
 have g1:([[.ro (.ints .i64 A)],[.ro (.ints .i64 B)]]:List (List AV)).getD 1 []=[.ro (.ints .i64 B)]:=rfl
 refine bY.intro (fun k:Nat=>⟨36,[(11,.int .i64 k),(10,.int .i64 2),(9,.ro (.objs 1 [[.ro (.ints .i64 A)],[.ro (.ints .i64 B)]])),(0,.ro (.objs 1 [[.ro (.ints .i64 A)],[.ro (.ints .i64 B)]])),(3,.int .i64 (if k=0 then 0 else if k=1 then (A.length:Int) else A.length+B.length))],[],0⟩) (fun k=>k≤2) (fun k=>2 - k) 0 ?_ (Nat.zero_le _) fun k hk=>?_
 ·refine bJ.bG rfl ?_ ?_<;>simp only [go_sem,Int.natCast_succ]
  all_goals rfl
 rcases k with _|_|_|k
 ·(repeat' with_reducible first|intro _|refine rz ?_|refine ra ?_ ?_|omega|simp only [go_sem,bg,g0,List.length_map,Int.toNat_natCast,Int.cast_ofNat_Int])
  refine ⟨1,bJ.bG rfl ?_ ?_,by omega,by omega⟩<;>simp only [go_sem,Int.natCast_succ]
  all_goals first|rfl|simp
 ·(repeat' with_reducible first|intro _|refine rz ?_|refine ra ?_ ?_|omega|simp only [go_sem,bg,g1,List.length_map,Int.toNat_natCast,Int.cast_ofNat_Int,Nat.zero_add])
  refine ⟨2,bJ.bG rfl ?_ ?_,by omega,by omega⟩<;>simp only [go_sem,Int.natCast_succ]
  all_goals first|rfl|simp
 ·(repeat' with_reducible first|intro _|refine rz ?_|refine ra ?_ ?_|omega|simp only [go_sem,List.length_map,Int.cast_ofNat_Int,Nat.zero_add])
  refine ak.fr (gJ.gU kG rfl rfl) (by simp [aW,aZ,aB]) 1 rfl (by simp [dK,Item.below,bf]) ?_
  (repeat' with_reducible first|intro _|exact dn|refine rn ?_|refine ra ?_ ?_)
  refine bY.intro (fun k:Nat=>⟨36,[(27,.int .i64 k),(26,.int .i64 2),(25,.ro (.objs 1 [[.ro (.ints .i64 A)],[.ro (.ints .i64 B)]])),(6,.own 0)],[(0,.row 3 (.ints .i64 (if k=0 then [] else if k=1 then A else A++B)))],1⟩) (fun k=>k≤2) (fun k=>2 - k) 0 ?_ (Nat.zero_le _) fun k hk=>?_
  ·refine bJ.bG rfl ?_ ?_<;>simp only [go_sem,Int.natCast_succ,List.map_nil]
   all_goals first|rfl|simp
  rcases k with _|_|_|k
  ·(repeat' with_reducible first|intro _|refine rz ?_|refine ra ?_ ?_|omega|simp only [go_sem,bg,g0,List.length_map,List.map_nil,Int.toNat_natCast,Int.cast_ofNat_Int])
   refine ⟨1,bJ.bG rfl ?_ ?_,by omega,by omega⟩<;>simp only [go_sem,Int.natCast_succ]
   all_goals first|rfl|simp
  ·(repeat' with_reducible first|intro _|refine rz ?_|refine ra ?_ ?_|omega|simp only [go_sem,bg,g1,List.length_map,Int.toNat_natCast,Int.cast_ofNat_Int,Nat.zero_add])
   refine ⟨2,bJ.bG rfl ?_ ?_,by omega,by omega⟩<;>simp only [go_sem,Int.natCast_succ,List.map_append]
   all_goals first|rfl|simp
  ·(repeat' with_reducible first|intro _|refine rz ?_|refine ra ?_ ?_|omega|simp only [go_sem,List.length_map,Int.cast_ofNat_Int,Nat.zero_add])
   refine dM.auto 1 ?_ rfl ?_<;>simp only [go_sem,Int.natCast_succ,Post]
   all_goals first|rfl|simp
  ·exact absurd hk (by omega)
 ·exact absurd hk (by omega)
/-! ### Merge -/
def jY (a b:Dc):Bool:=a.pages.any fun p=>decide (p∈b.pages)
def fV (a b:Dc):Int:=aA [aI a,aI b,if jY a b=true then 11 else 0]
def mergeD (a b:Dc):Dc:=⟨if a.kind=[] then b.kind else a.kind,a.pages++b.pages⟩
theorem Fj (n:Int) (b:Dc):aN Tryd.prog 29 [.int .i64 n,.cell b.av] (.bool (decide (n∈b.pages))) []:=by
 have k:=qG b.pages n
 unfold Dc.av
 obtain ⟨kd,P⟩:=b
 dsimp only at *
 generalize decide (n∈P)=q at *
 refine aN.bZ Tryd.func29 rfl (by decide) (by simp [Tryd.f29]) [.tmp 3] rfl fun w0 T0 _=>?_
 simp only [Tryd.f29,aH]
 (repeat' with_reducible first|intro _|exact dn|refine rn ?_|refine ra ?_ ?_)
 refine ak.k k ?_
 (repeat' with_reducible first|intro _|exact dn|refine rn ?_|refine ra ?_ ?_)
 refine dM.auto 0 ?_ rfl ?_<;>simp only [go_sem,Int.natCast_succ,Post]
theorem J9 (n:Int) (b:Dc):aN Tryd.prog 12 [.int .i64 n,.cell b.av] (.bool (decide (n∈b.pages))) []:=by
 have k:=qG b.pages n
 unfold Dc.av
 obtain ⟨kd,P⟩:=b
 dsimp only at *
 generalize decide (n∈P)=q at *
 refine aN.bZ Tryd.func12 rfl (by decide) (by simp [Tryd.f12]) [.tmp 3] rfl fun w0 T0 _=>?_
 simp only [Tryd.f12,aH]
 (repeat' with_reducible first|intro _|exact dn|refine rn ?_|refine ra ?_ ?_)
 refine ak.k k ?_
 (repeat' with_reducible first|intro _|exact dn|refine rn ?_|refine ra ?_ ?_)
 refine dM.auto 0 ?_ rfl ?_<;>simp only [go_sem,Int.natCast_succ,Post]
theorem wW (a b:Dc):fV a b=if aT [a,b]=0 then (if jY a b=true then 11 else 0) else aT [a,b]:=by
 have e:aT [a,b]=aA [aI a,aI b]:=rfl
 rw [e]
 unfold fV
 simp only [aA]
 (repeat' split)<;>simp_all
set_option maxHeartbeats 4000000 in
theorem IZ (a b:Dc) (h:fV a b≠0):aN Tryd.prog 10 [.agg a.av,.agg b.av] (.tup [.agg [.str [],.nilS],.int .i64 (fV a b)]) []:=by
 have k:=dS [a,b]
 have kc:=fun cc=>@lM a.pages 29 [.cell b.av] cc (fun p=>decide (p∈b.pages)) fun n hn=>gJ.gU (Fj n b) rfl rfl
 have kc:=kc ⟨rfl⟩
 rw [wW] at h ⊢
 have hB:(a.pages.any fun p=>decide (p∈b.pages))=jY a b:=rfl
 rw [hB] at kc
 generalize aT [a,b]=E at *
 generalize jY a b=q at *
 have hd:jD [a,b]=.objs 2 [[.str a.kind,.ro (.ints .i64 a.pages)],[.str b.kind,.ro (.ints .i64 b.pages)]]:=rfl
 rw [hd] at k
 unfold Dc.av at *
 obtain ⟨ka,A⟩:=a
 obtain ⟨kb,B⟩:=b
 dsimp only at *
 refine aN.bZ Tryd.func10 rfl (by decide) (by simp [Tryd.f10]) [.cell 4 27,.tmp 5] rfl fun w0 T0 _=>?_
 simp only [Tryd.f10,aH]
 (repeat' with_reducible first|intro _|exact dn|refine rn ?_|refine ra ?_ ?_)
 refine ak.k k ?_
 by_cases h0:E=0
 ·have g0:(E=0)=True:=eq_true h0
  rw [if_pos h0] at h ⊢
  cases q with
  | true=>
   (repeat' with_reducible first|intro _|refine rz ?_|refine ra ?_ ?_|omega|simp only [go_sem,g0])
   refine ak.k kc ?_
   (repeat' with_reducible first|intro _|exact dn|refine rn ?_|refine ra ?_ ?_)
   refine dM.auto 0 ?_ rfl ?_<;>simp only [go_sem,Int.natCast_succ,Post]
  | false=>exact absurd rfl h
 ·have g0:(E=0)=False:=eq_false h0
  rw [if_neg h0] at h ⊢
  (repeat' with_reducible first|intro _|refine rz ?_|refine ra ?_ ?_|omega|simp only [go_sem,g0])
  refine dM.auto 0 ?_ rfl ?_<;>simp only [go_sem,Int.natCast_succ,Post]
end Go.Fv.J
/- sort.Merge of documents that can be merged. -/
namespace Go.Fv.J
open Go Go.Proofs
set_option maxHeartbeats 4000000 in
theorem GI (a b:Dc) (h:fV a b=0) (hA:a.pages.length≤2000000) (hB:b.pages.length≤2000000):aN Tryd.prog 10 [.agg a.av,.agg b.av] (.tup [.agg (mergeD a b).av,.int .i64 0]) []:=by
 have k:=dS [a,b]
 have kc:=fun cc=>@lM a.pages 29 [.cell b.av] cc (fun p=>decide (p∈b.pages)) fun n hn=>gJ.gU (Fj n b) rfl rfl
 have kc:=kc ⟨rfl⟩
 rw [wW] at h
 have hb:(a.pages.any fun p=>decide (p∈b.pages))=jY a b:=rfl
 rw [hb] at kc
 have h0:aT [a,b]=0:=by
  split at h
  ·assumption
  ·exact h
 rw [h0,if_pos rfl] at h
 have hq:jY a b=false:=by
  cases e:jY a b with
  | true=>rw [e] at h;cases h
  | false=>rfl
 rw [hq] at kc
 rw [h0] at k
 clear h hq hb h0
 have hd:jD [a,b]=.objs 2 [[.str a.kind,.ro (.ints .i64 a.pages)],[.str b.kind,.ro (.ints .i64 b.pages)]]:=rfl
 rw [hd] at k
 unfold mergeD Dc.av at *
 obtain ⟨ka,A⟩:=a
 obtain ⟨kb,B⟩:=b
 dsimp only at *
 have kC:=vS A B hA hB
 refine aN.bZ Tryd.func10 rfl (by decide) (by simp [Tryd.f10]) [.cell 4 27,.tmp 5] rfl fun w0 T0 _=>?_
 simp only [Tryd.f10,aH]
 (repeat' with_reducible first|intro _|exact dn|refine rn ?_|refine ra ?_ ?_)
 refine ak.k k ?_
 (repeat' with_reducible first|intro _|exact dn|refine rn ?_|refine ra ?_ ?_)
 refine ak.k kc ?_
 (repeat' with_reducible first|intro _|exact dn|refine rn ?_|refine ra ?_ ?_)
 refine bT.cut (.first 0 (.first 2 (.first 4 (.cons 1 (.cons 3 (.cons 5 (.cons 6 (.cons 7 (.cons 8 (.cons 9 (.cons 10 .done .stop) .stop) (.cons 9 (.cons 8 (.cons 10 .done .stop) .stop) .stop)) (.cons 9 (.cons 7 (.cons 8 (.cons 10 .done .stop) .stop) .stop) .stop)) (.cons 9 (.cons 6 (.cons 7 (.cons 8 (.cons 10 .done .stop) .stop) .stop) .stop) .stop)) (.cons 9 (.cons 5 (.cons 6 (.cons 7 (.cons 8 (.cons 10 .done .stop) .stop) .stop) .stop) .stop) .stop)) (.cons 5 (.cons 3 (.cons 6 (.cons 7 (.cons 8 (.cons 9 (.cons 10 .done .stop) .stop) (.cons 9 (.cons 8 (.cons 10 .done .stop) .stop) .stop)) (.cons 9 (.cons 7 (.cons 8 (.cons 10 .done .stop) .stop) .stop) .stop)) (.cons 9 (.cons 6 (.cons 7 (.cons 8 (.cons 10 .done .stop) .stop) .stop) .stop) .stop)) (.cons 9 (.cons 3 (.cons 6 (.cons 7 (.cons 8 (.cons 10 .done .stop) .stop) .stop) .stop) .stop) .stop)) (.cons 9 (.cons 3 (.cons 5 (.cons 6 (.cons 7 (.cons 8 (.cons 10 .done .stop) .stop) .stop) .stop) .stop) (.cons 5 (.cons 3 (.cons 6 (.cons 7 (.cons 8 (.cons 10 .done .stop) .stop) .stop) .stop) .stop) .stop)) .stop))) (.cons 3 (.cons 1 (.cons 5 (.cons 6 (.cons 7 (.cons 8 (.cons 9 (.cons 10 .done .stop) .stop) (.cons 9 (.cons 8 (.cons 10 .done .stop) .stop) .stop)) (.cons 9 (.cons 7 (.cons 8 (.cons 10 .done .stop) .stop) .stop) .stop)) (.cons 9 (.cons 6 (.cons 7 (.cons 8 (.cons 10 .done .stop) .stop) .stop) .stop) .stop)) (.cons 9 (.cons 5 (.cons 6 (.cons 7 (.cons 8 (.cons 10 .done .stop) .stop) .stop) .stop) .stop) .stop)) (.cons 5 (.cons 1 (.cons 6 (.cons 7 (.cons 8 (.cons 9 (.cons 10 .done .stop) .stop) (.cons 9 (.cons 8 (.cons 10 .done .stop) .stop) .stop)) (.cons 9 (.cons 7 (.cons 8 (.cons 10 .done .stop) .stop) .stop) .stop)) (.cons 9 (.cons 6 (.cons 7 (.cons 8 (.cons 10 .done .stop) .stop) .stop) .stop) .stop)) (.cons 6 (.cons 1 (.cons 7 (.cons 8 (.cons 9 (.cons 10 .done .stop) .stop) (.cons 9 (.cons 8 (.cons 10 .done .stop) .stop) .stop)) (.cons 9 (.cons 7 (.cons 8 (.cons 10 .done .stop) .stop) .stop) .stop)) (.cons 7 (.cons 1 (.cons 8 (.cons 9 (.cons 10 .done .stop) .stop) (.cons 9 (.cons 8 (.cons 10 .done .stop) .stop) .stop)) (.cons 9 (.cons 1 (.cons 8 (.cons 10 .done .stop) .stop) .stop) .stop)) (.cons 9 (.cons 1 (.cons 7 (.cons 8 (.cons 10 .done .stop) .stop) .stop) (.cons 7 (.cons 1 (.cons 8 (.cons 10 .done .stop) .stop) .stop) .stop)) .stop))) (.cons 9 (.cons 1 (.cons 6 (.cons 7 (.cons 8 (.cons 10 .done .stop) .stop) .stop) .stop) (.cons 6 (.cons 1 (.cons 7 (.cons 8 (.cons 10 .done .stop) .stop) .stop) (.cons 7 (.cons 1 (.cons 8 (.cons 10 .done .stop) .stop) .stop) .stop)) .stop)) .stop))) (.cons 9 (.cons 1 (.cons 5 (.cons 6 (.cons 7 (.cons 8 (.cons 10 .done .stop) .stop) .stop) .stop) .stop) (.cons 5 (.cons 1 (.cons 6 (.cons 7 (.cons 8 (.cons 10 .done .stop) .stop) .stop) .stop) (.cons 6 (.cons 1 (.cons 7 (.cons 8 (.cons 10 .done .stop) .stop) .stop) (.cons 7 (.cons 1 (.cons 8 (.cons 10 .done .stop) .stop) .stop) .stop)) .stop)) .stop)) .stop))) (.cons 5 (.cons 1 (.cons 3 (.cons 6 (.cons 7 (.cons 8 (.cons 9 (.cons 10 .done .stop) .stop) (.cons 9 (.cons 8 (.cons 10 .done .stop) .stop) .stop)) (.cons 9 (.cons 7 (.cons 8 (.cons 10 .done .stop) .stop) .stop) .stop)) (.cons 9 (.cons 6 (.cons 7 (.cons 8 (.cons 10 .done .stop) .stop) .stop) .stop) .stop)) (.cons 9 (.cons 3 (.cons 6 (.cons 7 (.cons 8 (.cons 10 .done .stop) .stop) .stop) .stop) .stop) .stop)) (.cons 3 (.cons 1 (.cons 6 (.cons 7 (.cons 8 (.cons 9 (.cons 10 .done .stop) .stop) (.cons 9 (.cons 8 (.cons 10 .done .stop) .stop) .stop)) (.cons 9 (.cons 7 (.cons 8 (.cons 10 .done .stop) .stop) .stop) .stop)) (.cons 9 (.cons 6 (.cons 7 (.cons 8 (.cons 10 .done .stop) .stop) .stop) .stop) .stop)) (.cons 6 (.cons 1 (.cons 7 (.cons 8 (.cons 9 (.cons 10 .done .stop) .stop) (.cons 9 (.cons 8 (.cons 10 .done .stop) .stop) .stop)) (.cons 9 (.cons 7 (.cons 8 (.cons 10 .done .stop) .stop) .stop) .stop)) (.cons 7 (.cons 1 (.cons 8 (.cons 9 (.cons 10 .done .stop) .stop) (.cons 9 (.cons 8 (.cons 10 .done .stop) .stop) .stop)) (.cons 9 (.cons 1 (.cons 8 (.cons 10 .done .stop) .stop) .stop) .stop)) (.cons 9 (.cons 1 (.cons 7 (.cons 8 (.cons 10 .done .stop) .stop) .stop) (.cons 7 (.cons 1 (.cons 8 (.cons 10 .done .stop) .stop) .stop) .stop)) .stop))) (.cons 9 (.cons 1 (.cons 6 (.cons 7 (.cons 8 (.cons 10 .done .stop) .stop) .stop) .stop) (.cons 6 (.cons 1 (.cons 7 (.cons 8 (.cons 10 .done .stop) .stop) .stop) (.cons 7 (.cons 1 (.cons 8 (.cons 10 .done .stop) .stop) .stop) .stop)) .stop)) .stop))) (.cons 9 (.cons 1 (.cons 3 (.cons 6 (.cons 7 (.cons 8 (.cons 10 .done .stop) .stop) .stop) .stop) .stop) (.cons 3 (.cons 1 (.cons 6 (.cons 7 (.cons 8 (.cons 10 .done .stop) .stop) .stop) .stop) (.cons 6 (.cons 1 (.cons 7 (.cons 8 (.cons 10 .done .stop) .stop) .stop) (.cons 7 (.cons 1 (.cons 8 (.cons 10 .done .stop) .stop) .stop) .stop)) .stop)) .stop)) .stop))) (.cons 9 (.cons 1 (.cons 3 (.cons 5 (.cons 6 (.cons 7 (.cons 8 (.cons 10 .done .stop) .stop) .stop) .stop) .stop) (.cons 5 (.cons 3 (.cons 6 (.cons 7 (.cons 8 (.cons 10 .done .stop) .stop) .stop) .stop) .stop) .stop)) (.cons 3 (.cons 1 (.cons 5 (.cons 6 (.cons 7 (.cons 8 (.cons 10 .done .stop) .stop) .stop) .stop) .stop) (.cons 5 (.cons 1 (.cons 6 (.cons 7 (.cons 8 (.cons 10 .done .stop) .stop) .stop) .stop) (.cons 6 (.cons 1 (.cons 7 (.cons 8 (.cons 10 .done .stop) .stop) .stop) (.cons 7 (.cons 1 (.cons 8 (.cons 10 .done .stop) .stop) .stop) .stop)) .stop)) .stop)) (.cons 5 (.cons 1 (.cons 3 (.cons 6 (.cons 7 (.cons 8 (.cons 10 .done .stop) .stop) .stop) .stop) .stop) (.cons 3 (.cons 1 (.cons 6 (.cons 7 (.cons 8 (.cons 10 .done .stop) .stop) .stop) .stop) (.cons 6 (.cons 1 (.cons 7 (.cons 8 (.cons 10 .done .stop) .stop) .stop) (.cons 7 (.cons 1 (.cons 8 (.cons 10 .done .stop) .stop) .stop) .stop)) .stop)) .stop)) .stop))) .stop))))))) (by kernel_rfl) (by kernel_rfl) (by kernel_rfl)
  ⟨37,[(2,.ptr 0 0),(3,.ptr 1 0),(4,.ptr 2 0),(7,.ptr 3 0)],[(0,.box 27 [.str ka,.ro (.ints .i64 A)]),(1,.box 27 [.str kb,.ro (.ints .i64 B)]),(2,.box 27 [.str [],.nilS]),(3,.box 27 [.str ka,.ro (.ints .i64 (A++B))])],4⟩ ?_ ?_
 ·(repeat' with_reducible first|intro _|exact dn|refine rn ?_|refine ra ?_ ?_)
  all_goals
   refine ak.ro (.ro (.ints .i64 (A++B))) (gJ.gU kC rfl rfl) (by simp only [bI,aW,eF,aZ,aB,List.drop_zero,lk,reduceIte,reduceCtorEq,Nat.reduceEqDiff,Option.some.injEq,Item.row.injEq,Item.box.injEq,AV.ro.injEq,exists_eq_left,exists_and_left,exists_eq_left',exists_eq_right,and_assoc,and_true,true_and,List.cons.injEq,exists_eq',exists_eq]) (by simp [gG,eF,aB,lk]) rfl ?_
   (repeat' with_reducible first|intro _|exact dn|refine rn ?_|refine ra ?_ ?_)
  all_goals
   refine bJ.bG rfl ?_ ?_<;>simp only [go_sem,Int.natCast_succ]
 by_cases hk:ka=[]
 ·subst hk
  (repeat' with_reducible first|intro _|exact dn|refine rn ?_|refine ra ?_ ?_)
  refine dM.auto 0 ?_ rfl ?_<;>simp only [go_sem,Int.natCast_succ,Post,if_pos]
 ·(repeat' with_reducible first|intro _|refine rz ?_|refine ra ?_ ?_|omega|simp only [go_sem,hk])
  refine dM.auto 0 ?_ rfl ?_<;>simp only [go_sem,Int.natCast_succ,Post]
end Go.Fv.J
/- The right ones of the first sheets. -/
namespace Go.Fv.J
open Go Go.Proofs
theorem dY:∀ {l:List Int},aA l=0→∀ x,x∈l→x=0
 | y::l,h,x,hx=>by
  simp only [aA] at h
  split at h
  ·rename_i h1
   cases List.mem_cons.1 hx with
   | inl e=>subst e;exact h1
   | inr e=>exact dY h x e
  ·rename_i h1;exact absurd h h1
end Go.Fv.J
/- Right documents: their pages are different; parts of them are right. -/
namespace Go.Fv.J
open Go Go.Proofs
theorem pJ:∀ {l:List Int},(∀ x,x∈l→x=0)→aA l=0
 | [],_=>rfl
 | x::l,h=>by
  have h1:=h x (.head _)
  subst h1
  simp only [aA,if_pos]
  exact pJ fun y hy=>h y (.tail _ hy)
theorem G6 (l:List Int):jy l l.length=0↔(∀ x,x∈l→0≤x)∧l.Nodup:=by
 constructor
 ·intro h
  have h1:∀ i,i<l.length→nU l i=0:=fun i hi=>dY h _ (List.mem_map.2 ⟨i,List.mem_range.2 hi,rfl⟩)
  have h2:∀ i (hi:i<l.length),0≤l[i]∧l[i]∉l.take i:=by
   intro i hi
   have:=h1 i hi
   unfold nU at this
   rw [getD_lt hi] at this
   split at this
   ·cases this
   ·split at this
    ·cases this
    ·rename_i a b;exact ⟨by omega,b⟩
  refine ⟨fun x hx=>?_,?_⟩
  ·obtain ⟨i,hi,rfl⟩:=List.mem_iff_getElem.1 hx
   exact (h2 i hi).1
  ·rw [List.nodup_iff_pairwise_ne,List.pairwise_iff_getElem]
   intro i j hi hj hij e
   refine (h2 j hj).2 ?_
   rw [←e]
   exact List.mem_take_iff_getElem.2 ⟨i,by omega,rfl⟩
 ·rintro ⟨h1,h2⟩
  refine pJ fun x hx=>?_
  obtain ⟨i,hi,rfl⟩:=List.mem_map.1 hx
  have hi:=List.mem_range.1 hi
  unfold nU
  rw [getD_lt hi,if_neg (by have:=h1 _ (List.getElem_mem hi);omega),if_neg]
  intro hm
  obtain ⟨j,hj,e⟩:=List.mem_take_iff_getElem.1 hm
  rw [List.nodup_iff_pairwise_ne,List.pairwise_iff_getElem] at h2
  exact h2 j i (by omega) hi (by omega) e
theorem mZ (d:Dc):aI d=0↔(d.kind=[]∨fA d.kind=true)∧d.pages≠[]∧(∀ x,x∈d.pages→0≤x)∧d.pages.Nodup:=by
 rw [←G6]
 unfold aI oH
 have h2:(if d.kind≠[]∧fA d.kind=false then (2:Int) else 0)=0↔d.kind=[]∨fA d.kind=true:=by
  split
  ·rename_i h;constructor
   ·intro e;cases e
   ·rintro (e|e)
    ·exact absurd e h.1
    ·rw [h.2] at e;cases e
  ·rename_i h
   refine ⟨fun _=>?_,fun _=>rfl⟩
   by_cases e:d.kind=[]
   ·exact .inl e
   ·refine .inr ?_
    cases hn:fA d.kind with
    | true=>rfl
    | false=>exact absurd ⟨e,hn⟩ h
 have h9:(if d.pages=[] then (9:Int) else 0)=0↔d.pages≠[]:=by split<;>simp_all
 rw [←h2,←h9]
 generalize (if d.kind≠[]∧fA d.kind=false then (2:Int) else 0)=a
 generalize (if d.pages=[] then (9:Int) else 0)=b
 generalize jy d.pages d.pages.length=c
 constructor
 ·intro h
  have h1:=dY h _ (.head _)
  have h3:=dY h c (.tail _ (.head _))
  exact ⟨dY h1 a (.head _),dY h1 b (.tail _ (.head _)),h3⟩
 ·rintro ⟨rfl,rfl,rfl⟩;simp [aA]
theorem BK {d:Dc} (h:aI d=0) {n:Nat} (h1:1≤n):aI ⟨d.kind,d.pages.take n⟩=0:=by
 rw [mZ] at h ⊢
 obtain ⟨a,b,c,e⟩:=h
 refine ⟨a,fun hn=>?_,fun x hx=>c x (List.mem_of_mem_take hx),e.sublist (List.take_sublist _ _)⟩
 rcases List.take_eq_nil_iff.1 hn with h|h
 ·omega
 ·exact b h
theorem BJ {d:Dc} (h:aI d=0) {n:Nat} (h1:n<d.pages.length):aI ⟨[],d.pages.drop n⟩=0:=by
 rw [mZ] at h ⊢
 obtain ⟨a,b,c,e⟩:=h
 refine ⟨.inl rfl,fun hn=>?_,fun x hx=>c x (List.mem_of_mem_drop hx),e.sublist (List.drop_sublist _ _)⟩
 have:=congrArg List.length hn
 simp only [List.length_drop,List.length_nil] at this
 omega
theorem Dk {d:Dc} (h:aI d=0) (n:Nat):∀ x,x∈d.pages.take n→x∉d.pages.drop n:=by
 rw [mZ] at h
 have h2:=h.2.2.2
 rw [←List.take_append_drop n d.pages,List.nodup_append] at h2
 intro x hx hy
 exact h2.2.2 x hx x hy rfl
end Go.Fv.J
/- The laws' first question. -/
namespace Go.Fv.J
open Go Go.Proofs
theorem Gv:aN Tryd.prog 4 [] (.bool true) []:=by
 have k:=yR [97]
 refine aN.bZ Tryd.func4 rfl (by decide) (by simp [Tryd.f4]) [.tmp 0] rfl fun w0 T0 _=>?_
 simp only [Tryd.f4,aH]
 have e:fA [97]=true:=by decide
 rw [e] at k
 (repeat' with_reducible first|intro _|exact dn|refine rn ?_|refine ra ?_ ?_)
 refine ak.k k ?_
 (repeat' with_reducible first|intro _|exact dn|refine rn ?_|refine ra ?_ ?_)
 refine dM.auto 0 ?_ rfl ?_<;>simp only [go_sem,Int.natCast_succ,Post]
end Go.Fv.J
