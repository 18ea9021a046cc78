/-
  A part of the proof of the claim: walks over the program's functions and the plain laws that these need. No condition of its own.
-/
import Derived.Test.YtpbllkibobnifaaDoorFvPart12
import Derived.Test.YtpbllkibobnifaaDoorLRmCardPart2
import Derived.Test.YtpbllkibobnifaaDoorLRmCardPart4
import Derived.Test.YtpbllkibobnifaaDoorLRmCardPart1
import Derived.Test.YtpbllkibobnifaaDoorLRmCardPart3
import Derived.Test.YtpbllkibobnifaaDoorFvPart11
set_option linter.unusedSectionVars false
set_option linter.unusedVariables false
set_option linter.unusedSimpArgs false
set_option linter.unnecessarySimpa false
set_option maxRecDepth 8000
/- A map's family of owned rows becomes data. -/
namespace Go.Fv.L
open Go Go.Fv
theorem EZ (k:Nat) (q:aF):∀ l m:List AV,vP k q (l++m)=vP k q l++vP k q m
 | [],_=>rfl
 | x::l,m=>by simp only [List.cons_append,vP];rw [EZ k q l m]
theorem DW (k:Nat) (q:aF) (l:List AV) (h:bT l=true):vP k q l=l:=oz l h
theorem TW {b m:Nat} {q:aF} (D:List AV) (hD:bT D=true):vP (m+b) q (gI b (m+1)++D)=gI b m++.ro q::D:=by
 rw [EZ,DW _ _ D hD,Oq,EZ]
 have e1:vP (m+b) q (gI b m)=gI b m:=by
  have:∀ l:List Nat,(∀ i,i∈l→i<m)→vP (m+b) q (l.map fun i=>.own (i+b))=l.map fun i=>.own (i+b):=by
   intro l
   induction l with
   | nil=>intro _;rfl
   | cons x l ih=>
    intro h
    have:=h x (.head _)
    simp only [List.map_cons,vP,Fv.fz]
    rw [if_neg (by omega),ih fun i hi=>h i (.tail _ hi)]
  exact this _ fun i hi=>List.mem_range.1 hi
 rw [e1]
 simp [vP,Fv.fz]
theorem yA (n:Nat):∀ (l m:List AV),aQ n (l++m)=(aQ n l && aQ n m)
 | [],m=>by simp [aQ]
 | x::l,m=>by simp only [List.cons_append,aQ];rw [yA n l m,Bool.and_assoc]
theorem Ie (b n N:Nat) (h:n+b≤N):aQ N (gI b n)=true:=by
 have:∀ (f:Nat→AV) (l:List Nat),(∀ i,i∈l→Fv.below N (f i)=true)→aQ N (l.map f)=true:=by
  intro f l
  induction l with
  | nil=>intro _;rfl
  | cons x l ih=>intro hf;simp only [List.map_cons,aQ,hf x (.head _),Bool.true_and];exact ih fun i hi=>hf i (.tail _ hi)
 refine this _ _ fun i hi=>?_
 have:=List.mem_range.1 hi
 simp [Fv.below];omega
theorem D6 {ks D:List AV} {b m N:Nat} {q:aF} (hks:bT ks=true) (hD:bT D=true) (h:m+b≤N):(Item.map ks (gI b m++.ro q::D)).below N=true:=by
 simp only [Item.below,Bool.and_eq_true]
 refine ⟨dY _ _ hks,?_⟩
 rw [yA,Ie _ _ _ h]
 simp only [aQ,Fv.below,Bool.true_and]
 exact dY _ _ hD
section
variable {w0:World} {T0:Bs} {b0:Nat}
theorem Ox {n b c0 m:Nat} {ks:List AV} {e2:TypeId} {rs:List aF} {C:List (Nat × Item)} {env:List (Nat × AV)} {D:List AV} (hks:bT ks=true) (hD:bT D=true) (hb0:b0≤b) (hm:rs.length=m+1) (q:aF) (hq:rs[m]?=some q) (hid:∀ r,r∈rs→eG r=true)
  (henv:∀ x,x∈env→lk env x.1=some x.2∧Fv.below b x.2=true) (hc0:c0<b) (hC:∀ x,x∈C→x.1<b∧x.1≠c0∧lk C x.1=some x.2∧x.2.below b=true) :
  aS w0 T0 b0 ⟨n,env,(c0,.map ks (gI b (m+1)++D))::(C++jG b (rs.map (Item.row e2))),rs.length+b⟩
   ⟨n,env,(c0,.map ks (gI b m++.ro q::D))::(C++jG b ((rs.take m).map (Item.row e2))),m+b⟩:=by
 have hqid:eG q=true:=hid q (List.mem_of_getElem? hq)
 have hlkC:∀ x,x∈C→∀ R,lk ((c0,R)::(C++jG b (rs.map (Item.row e2)))) x.1=some x.2:=fun x hx R=>by
  obtain ⟨_,h2,h3,_⟩:=hC x hx
  rw [II (fun e=>h2 e.symm),lN,h3]
 have hlkF:∀ j (hj:j<rs.length) R,lk ((c0,R)::(C++jG b (rs.map (Item.row e2)))) (j+b)=some (.row e2 rs[j]):=fun j hj R=>by
  rw [II (by omega),lN]
  cases hx:lk C (j+b) with
  | some y=>have:=(hC _ (dM hx)).1;simp only at this;omega
  | none=>exact AY (by simp [hj])
 have hqm:rs[m]=q:=by rw [List.getElem?_eq_getElem (by omega)] at hq;exact Option.some.inj hq
 refine aS.trans (aS.fz (m+b) (e:=e2) (r:=q) (by rw [hlkF m (by omega),hqm]) hqid (by omega)) ?_
 have hN:m+b=(rs.take m).length+b:=by rw [List.length_take];omega
 refine aS.Qr (C:=(c0,.map ks (gI b m++.ro q::D))::C) id hN rfl (by omega) (fun _ _=>rfl) ?_ ?_ ?_ ?_ ?_ (fun _ _ _ _ h=>h)
 ·intro x hx
  rcases List.mem_cons.1 hx with rfl|hx
  ·exact hc0
  ·exact (hC x hx).1
 ·refine Ic fun x hx=>?_
  obtain ⟨h1,h2⟩:=henv x hx
  refine ⟨?_,below_le (by omega) _ h2⟩
  simp only [S.get,S.fz,KI,h1,Option.map_some]
  rw [xG (m+b) q b (by omega) _ h2,V4]
 ·refine NP fun x hx=>?_
  rcases List.mem_cons.1 hx with rfl|hx
  ·refine ⟨?_,?_⟩
   ·simp only [S.fz,lQ,id]
    rw [if_neg (by omega),Q7,Option.map_some]
    have hb:(Item.map ks (gI b m++.ro q::D)).below (m+b)=true:=D6 hks hD (Nat.le_refl _)
    rw [Item.Nz _ hb]
    simp only [Qw]
    rw [DW _ _ ks hks,TW D hD]
   ·exact D6 hks hD (by omega)
  ·obtain ⟨h1,h2,h3,h4⟩:=hC x hx
   refine ⟨?_,?_⟩
   ·simp only [S.fz,lQ,id]
    rw [if_neg (by omega),hlkC x hx,Option.map_some,TT (m+b) q b (by omega) _ h4,Item.Nz _ h4]
   ·cases hx2:x.2 with
    | row e' r=>rw [hx2] at h4;exact Oh (by omega) r h4
    | box e' cs=>rw [hx2] at h4;exact iy (by omega) cs h4
    | map ks vs=>rw [hx2] at h4;simp only [Item.below,Bool.and_eq_true] at h4 ⊢;exact ⟨iy (by omega) ks h4.1,iy (by omega) vs h4.2⟩
    | iter a' b' c'=>rw [hx2] at h4;simp only [Item.below,decide_eq_true_eq] at h4 ⊢;omega
    | siter a' b'=>rfl
 ·exact fun r hr=>hid r (List.mem_of_mem_take hr)
 ·intro j hj
  rw [List.length_take] at hj
  simp only [S.fz,lQ,id]
  rw [if_neg (by omega),hlkF j (by omega),Option.map_some,List.getElem_take]
  have h1:=hid rs[j] (List.getElem_mem _)
  simp only [Qw]
  haveI:jP rs[j]:=⟨h1⟩
  rw [Qz]
theorem U7 {n b c0:Nat} {ks:List AV} {e2:TypeId} {C:List (Nat × Item)} {env:List (Nat × AV)} (hks:bT ks=true) (hb0:b0≤b)
  (henv:∀ x,x∈env→lk env x.1=some x.2∧Fv.below b x.2=true) (hc0:c0<b) (hC:∀ x,x∈C→x.1<b∧x.1≠c0∧lk C x.1=some x.2∧x.2.below b=true) :
  ∀ (m:Nat) (rs:List aF) (D:List AV),rs.length=m→(∀ r,r∈rs→eG r=true)→bT D=true →
  aS w0 T0 b0 ⟨n,env,(c0,.map ks (gI b m++D))::(C++jG b (rs.map (Item.row e2))),m+b⟩
   ⟨n,env,(c0,.map ks (rs.map AV.ro++D))::C,b⟩
 | 0,rs,D,hm,_,_=>by
  have:rs=[]:=List.eq_nil_of_length_eq_zero hm
  subst this
  simp only [List.map_nil,jG,List.append_nil,gI,List.range_zero,List.map_nil,List.nil_append,Nat.zero_add]
  exact aS.refl _
 | m+1,rs,D,hm,hid,hD=>by
  have hlt:m<rs.length:=by omega
  have hstep:=Ox (w0:=w0) (T0:=T0) (b0:=b0) (n:=n) (ks:=ks) (e2:=e2) (rs:=rs) (C:=C) (env:=env) (D:=D) hks hD hb0 hm rs[m] (by simp) hid henv hc0 hC
  rw [hm] at hstep
  refine hstep.trans ?_
  have ih:=U7 (n:=n) (ks:=ks) (e2:=e2) hks hb0 henv hc0 hC m (rs.take m) (.ro rs[m]::D) (by rw [List.length_take];omega) (fun r hr=>hid r (List.mem_of_mem_take hr)) (by simp only [bT,bW,Bool.true_and];exact hD)
  have e2:rs=rs.take m++[rs[m]]:=by rw [←List.take_succ_eq_append_getElem hlt,List.take_of_length_le (by omega)]
  have e1:(rs.take m).map AV.ro++.ro rs[m]::D=rs.map AV.ro++D:=by
   rw [(congrArg (List.map AV.ro) e2).trans List.map_append]
   rw [List.append_assoc];rfl
  rw [e1] at ih
  exact ih
end
end Go.Fv.L
/- lined. -/
namespace Go.Fv.L
open Go Go.Proofs
set_option maxHeartbeats 16000000 in
theorem IG (l:List Rn) (hl:l.length≤100000) (hup:Up l) (hr:∀ r,r∈l→r.y≤100000∧r.f≤100000∧r.t≤100000) (c:Nat→Nat) (hc:fG l.length (fZ l) c) :
  aU Tryd.prog 21 [.ro (uQ l)] (.own 0) [(0,.row 51 (.objs 1 (SL (dG c l l.length))))]:=by
 refine aU.aY Tryd.func21 rfl (by decide) (by simp [Tryd.f21]) [.tmp 2] rfl fun w0 T0 _=>?_
 simp only [Tryd.f21,aK]
 (repeat' with_reducible first|intro _|refine rz ?_|refine ra ?_ ?_|omega|simp only [go_sem,List.length_map])
 refine aJ.intro (fun i:Nat=>⟨142,[(0,.ro (uQ l)),(3,.ptr 0 0),(23,.int .i64 l.length),(24,.int .i64 i)],[(0,.box 86 [.own 1]),(1,.row 3 (.ints .i64 (Py l.length i)))],2⟩) (fun i=>i≤l.length) (fun i=>l.length - i) 0 ?_ (Nat.zero_le _) fun i hi=>?_
 ·refine aS.aB rfl ?_ ?_<;>simp only [go_sem,Int.natCast_succ,QJ]
  all_goals trace_state
 by_cases hlt:i<l.length
 ·have f1:((i:Int)<(l.length:Int))=True:=eq_true (by omega)
  have hs:=Uf hlt
  have hil:=Fa hi
  (repeat' with_reducible first|intro _|refine rz ?_|refine ra ?_ ?_|omega|simp only [go_sem,f1,hil])
  refine ⟨i+1,aS.aB rfl ?_ ?_,by omega,by omega⟩<;>simp only [go_sem,Int.natCast_succ,hs]
  all_goals trace_state
 have e:i=l.length:=by omega
 have f1:((i:Int)<(l.length:Int))=False:=eq_false (by omega)
 have hu0:=Po l
 rw [e] at f1 ⊢
 generalize Py l.length l.length=o0 at *
 (repeat' with_reducible first|intro _|refine rz ?_|refine ra ?_ ?_|omega|simp only [go_sem,f1,List.length_map])
 refine aJ.intro (fun x:Nat × Nat × List Int=>⟨142,[(0,.ro (uQ l)),(33,.ro (uQ l)),(3,.ptr 0 0),(5,.ptr 2 0),(6,.int .i64 x.2.1),(34,.int .i64 l.length),(35,.int .i64 x.1)],tZ x.2.2,3⟩) (fun x=>x.1≤l.length∧yY l x.1 0 x.2.2∧x.2.1≤x.1∧∀ k j,k<x.2.1→x.1≤j→j<l.length→(rg l k).y+1<(rg l j).y) (fun x=>l.length - x.1) (0,0,o0) ?_ ⟨Nat.zero_le _,hu0,Nat.le_refl _,fun k j (hk:k<0)=>absurd hk (by omega)⟩ fun x hI=>?_
 ·refine aS.aB rfl ?_ ?_<;>simp only [go_sem,Int.natCast_succ,tZ]
  all_goals trace_state
 clear hi hlt e i f1 hu0
 obtain ⟨i,b,o⟩:=x
 obtain ⟨hi,hu,hbi,hb⟩:=hI
 dsimp only at hi hu hbi hb ⊢
 by_cases hlt:i<l.length
 case neg=>
  have e:i=l.length:=by omega
  have f1:((i:Int)<(l.length:Int))=False:=eq_false (by omega)
  rw [e] at hu f1 ⊢
  have uo:=hu.cls hc
  have hol:=hu.len
  clear hu hb hbi hi hlt e
  (repeat' with_reducible first|intro _|refine rz ?_|refine ra ?_ ?_|omega|simp only [go_sem,f1,List.length_map])
  refine aJ.intro (fun x:Nat × List Int=>⟨142,[(0,.ro (uQ l)),(106,.ro (uQ l)),(3,.ptr 0 0),(5,.ptr 2 0),(12,.own 3),(107,.int .i64 l.length),(108,.int .i64 x.1)],((3,.map (iP (xM c l x.1)) (gI 100 (xM c l x.1).length))::tZ x.2)++jG 100 ((nP (xM c l x.1)).map (Item.row 81)),(xM c l x.1).length+100⟩) (fun x=>x.1≤l.length∧UF x.2 c∧x.2.length=l.length) (fun x=>l.length - x.1) (0,o) ?_ ⟨Nat.zero_le _,uo,hol⟩ fun x hI=>?_
  ·refine aS.Qr (b:=100) id (by simp [gu]) rfl (Nat.zero_le _) (fun i hi=>rfl) ?_ ?_ ?_ (qV _) ?_ (fun i j _ _ e=>e)
   ·intro x hx
    simp [tZ] at hx
    rcases hx with rfl|rfl|rfl|rfl<;>(dsimp only;omega)
   ·simp only [go_sem,Int.natCast_succ,id]
    exact ⟨by omega,by omega,by omega⟩
   ·simp [Gi,lk,Item.ren,Item.below,iP,yJ,xM,gI,bZ,aQ,tZ,ren,Fv.below,id,uO,jh]
    all_goals trace_state
   ·intro j hj;simp [nP,xM] at hj
  clear f1 uo hol
  obtain ⟨i,o⟩:=x
  obtain ⟨hi,uo,hol⟩:=hI
  dsimp only at hi uo hol ⊢
  by_cases hlt:i<l.length
  case neg=>
   have e:i=l.length:=by omega
   subst e
   have f1:((l.length:Int)<(l.length:Int))=False:=eq_false (by omega)
   have hok:=QO c l l.length
   clear hlt hi uo hol
   generalize xM c l l.length=kg at *
   (repeat' with_reducible first|intro _|refine rz ?_|refine ra ?_ ?_|omega|simp only [go_sem,f1,tZ,List.length_map])
   refine aJ.intro (fun i:Nat=>⟨142,[(12,.own 3),(16,.own 4),(126,.int .i64 l.length),(127,.int .i64 i)],[(3,.map (iP kg) (CQ kg)),(4,.row 51 (.objs 1 (SL (dG c l i))))],100⟩) (fun i=>i≤l.length) (fun i=>l.length - i) 0 ?_ (Nat.zero_le _) fun i hi=>?_
   ·have hfz:=U7 (w0:=w0) (T0:=T0) (b0:=0) (n:=142) (b:=100) (c0:=3) (ks:=iP kg) (e2:=81) (C:=[(4,.row 51 (.objs 1 []))]) (env:=[(12,.own 3),(16,.own 4),(126,.int .i64 l.length),(127,.int .i64 0)])
     (lS fun x hx=>by obtain ⟨_,_,rfl⟩:=List.mem_map.1 hx;rfl) (Nat.zero_le _) (by intro x hx;simp at hx;rcases hx with rfl|rfl|rfl|rfl<;>exact ⟨rfl,rfl⟩) (by decide) (by intro x hx;simp at hx;subst hx;exact ⟨by dsimp only;omega,by dsimp only;omega,rfl,rfl⟩) kg.length (nP kg) [] (gu kg) (qV kg) rfl
    rw [List.append_nil,List.append_nil] at hfz
    refine aS.trans ?_ hfz
    rw [←List.cons_append]
    refine aS.Qr (b:=100) (p1 4 (kg.length+100)) (by simp [gu]) rfl (Nat.zero_le _) (fun i hi=>by omega) ?_ ?_ ?_ (qV _) ?_ ?_
    ·intro x hx
     simp at hx
     rcases hx with rfl|rfl<;>(dsimp only;omega)
    ·simp only [go_sem,Int.natCast_succ,Ef,kU (show (3:Nat)≠4 by decide)]
     exact ⟨by omega,by omega⟩
    ·simp only [go_sem,Int.natCast_succ,Gi,Ef,kU (show (3:Nat)≠4 by decide)]
     rw [oG,iQ,FT (fun i hi=>kU (by omega)),uw _ _ _ (Nat.le_refl _)]
     exact ⟨rfl,rfl,rfl⟩
    ·intro j hj
     rw [gu] at hj
     rw [kU (by omega)]
     have hq:=zC 81 kg (j:=j) (by rw [gu];exact hj)
     unfold Ui at hq
     dsimp only
     repeat rw [II (by omega)]
     exact AY hq
    ·exact KY (Nat.le_refl _)
   by_cases hlt:i<l.length
   case neg=>
    have e:i=l.length:=by omega
    subst e
    have f2:((l.length:Int)<(l.length:Int))=False:=eq_false (by omega)
    (repeat' with_reducible first|intro _|refine rz ?_|refine ra ?_ ?_|omega|simp only [go_sem,f2])
    refine eP.of [(0,4)] 1 ?_ rfl ?_<;>simp only [go_sem,Int.natCast_succ,Post,SL]
   have f2:((i:Int)<(l.length:Int))=True:=eq_true (by omega)
   have hks:yu Tryd.prog 3 (iP kg):=DC (fun c=>.int Tryd.underlying3 _) _
   have hgO:=VR kg i
   have hsu:=OV c l i
   have hol:=jq c l i
   have hul:=UL c l l.length i
   by_cases hci:c i=i
   ·rw [if_pos hci] at hsu
    have hpos:=Pq hlt hci
    cases hx:kM (yJ kg) i with
    | none=>
     have:=hok.none i hx
     rw [this] at hpos;exact absurd hpos (by simp)
    | some t=>
     rw [hx] at hgO
     obtain ⟨ht,hund⟩:=hok.some i t hx
     have hO:uG (iP kg) (CQ kg) (.int .i64 (i:Int)) .nilS=.ro (uQ (fQ c l l.length i)):=by
      have h1:=sG (z:=.nilS) hgO
      rw [getD_lt ht,hund] at h1;exact h1
     generalize fQ c l l.length i=u at *
     generalize dG c l i=out at *
     have f3:((0:Int)<(u.length:Int))=True:=eq_true (by omega)
     (repeat' with_reducible first|intro _|refine rz ?_|refine ra ?_ ?_|omega|simp only [go_sem,f2,hO,eq_true hks,f3,List.length_map,SL])
     refine ⟨i+1,aS.of [(4,101)] rfl (Nat.zero_le _) (fun x hx=>by simp at hx;subst hx;dsimp only;omega) ?_ ?_,by omega,by omega⟩<;>simp only [go_sem,Int.natCast_succ,hsu,oG,iQ,AQ,uH]
     all_goals simp [XD]
   ·rw [if_neg hci] at hsu
    have hnil:=SC (fun x hx=>hc.idem x hx) hci
    cases hx:kM (yJ kg) i with
    | none=>
     rw [hx] at hgO
     have hO:uG (iP kg) (CQ kg) (.int .i64 (i:Int)) .nilS=.nilS:=xI hgO
     (repeat' with_reducible first|intro _|refine rz ?_|refine ra ?_ ?_|omega|simp only [go_sem,f2,hO,eq_true hks])
     refine ⟨i+1,aS.of [] rfl (Nat.zero_le _) (fun x hx=>by cases hx) ?_ ?_,by omega,by omega⟩<;>simp only [go_sem,Int.natCast_succ,hsu,oG,iQ,AQ,uH]
    | some t=>
     rw [hx] at hgO
     obtain ⟨ht,hund⟩:=hok.some i t hx
     have hO:uG (iP kg) (CQ kg) (.int .i64 (i:Int)) .nilS=.ro (uQ []):=by
      have h1:=sG (z:=.nilS) hgO
      rw [getD_lt ht,hund,hnil] at h1;exact h1
     (repeat' with_reducible first|intro _|refine rz ?_|refine ra ?_ ?_|omega|simp only [go_sem,f2,hO,eq_true hks,List.map_nil])
     refine ⟨i+1,aS.of [] rfl (Nat.zero_le _) (fun x hx=>by cases hx) ?_ ?_,by omega,by omega⟩<;>simp only [go_sem,Int.natCast_succ,hsu,oG,iQ,AQ,uH]
  have f1:((i:Int)<(l.length:Int))=True:=eq_true (by omega)
  have hei:(l.map Rn.av).getD i []=[.int .i64 (rg l i).y,.int .i64 (rg l i).f,.int .i64 (rg l i).t]:=pO l hlt
  have hri:=hr (rg l i) (by unfold rg;rw [getD_lt hlt];exact List.getElem_mem hlt)
  obtain ⟨o1,u1,n1,k1⟩:=F5 c i o uo (by omega)
  have hok:=QO c l i
  have hsn:xM c l (i+1)=yI (xM c l i) (c i) (rg l i):=rfl
  have hci:=uo.le i (by omega)
  unfold Oa tZ at k1
  generalize xM c l i=kg at *
  generalize c i=ci at *
  have hp0:=fun x=>Nw (MZ 81 kg) (Nat.le_refl (kg.length+100)) x
  have hp1:=fun x=>Nw (MZ 81 kg) (Nat.le_add_right (kg.length+100) 1) x
  unfold Ui at hp0 hp1
  have hd0:=zo ((nP kg).map (Item.row 81)) 100 0 (by omega)
  have hd1:=zo ((nP kg).map (Item.row 81)) 100 1 (by omega)
  have hd2:=zo ((nP kg).map (Item.row 81)) 100 2 (by omega)
  have hgO:=Uj kg 100 ci
  have hks:yu Tryd.prog 3 (iP kg):=DC (fun c=>.int Tryd.underlying3 _) _
  have hkN:AV.int .i64 (ci:Int)=kN ci:=rfl
  have hkb:=iQ
  cases hx:kM (yJ kg) ci with
  | some t=>
   rw [hx] at hgO
   have htl:=Fg hx
   rw [vY] at htl
   have hO:uG (iP kg) (gI 100 kg.length) (.int .i64 (ci:Int)) .nilS=.own (t+100):=sG hgO
   have hlk:lk (jG 100 ((nP kg).map (Item.row 81))) (t+100)=some (.row 81 (.objs 3 (kg[t].2.map Rn.av))):=by
    have hq:=zC 81 kg (j:=t) (by rw [gu];exact htl)
    unfold Ui at hq
    rw [AY hq]
    simp [nP]
   have hne:(kg.length=t)=False:=eq_false (by omega)
   have hne1:(kg.length+1=t)=False:=eq_false (by omega)
   have hne2:(kg.length+2=t)=False:=eq_false (by omega)
   obtain ⟨_,hund⟩:=hok.some _ _ hx
   have hul:(fQ c l i ci).length≤i:=by
    unfold fQ
    rw [List.length_map]
    have:=List.length_filter_le (fun j=>decide (c j=ci)) (List.range i)
    rw [List.length_range] at this;exact this
   rw [←hund] at hul
   have hki:dL (iP kg) (.int .i64 (ci:Int))=some t:=(l9 EX _ _).trans hx
   have hK:oQ (iP kg) (.int .i64 (ci:Int))=iP kg:=by unfold oQ;rw [hki]
   have hV:∀ v,BI (iP kg) (gI 100 kg.length) (.int .i64 (ci:Int)) v=(gI 100 kg.length).set t v:=fun v=>by unfold BI;rw [hki]
   have hins:yI kg ci (rg l i)=kg.set t (ci,(kg.getD t (0,[])).2++[rg l i]):=by unfold yI;rw [hx]
   (repeat' with_reducible first|intro _|refine rz ?_|refine ra ?_ ?_|omega|simp only [go_sem,f1,aN,hei,tZ,hp0,hp1,List.length_map])
   refine aj.i [0,1,2] k1 3 ?_ (hcov:=Ah)
   (repeat' with_reducible first|intro _|refine rz ?_|refine ra ?_ ?_|omega|simp only [go_sem,hd0,hd1,hd2,hO,hlk,hne,hne1,hne2,hp0,hp1,hK,hV,eq_true hks,Nat.add_eq_left,Nat.left_eq_add,List.length_map])
   refine ⟨(i+1,o1),?_,⟨by dsimp only;omega,u1,by dsimp only;omega⟩,by dsimp only;omega⟩
   dsimp only
   rw [hsn,hins]
   rw [←List.cons_append]
   have h0:p1 (t+100) (kg.length+101+1) 0=0:=kU (by omega)
   have h1:p1 (t+100) (kg.length+101+1) 1=1:=kU (by omega)
   have h2:p1 (t+100) (kg.length+101+1) 2=2:=kU (by omega)
   have h3:p1 (t+100) (kg.length+101+1) 3=3:=kU (by omega)
   have hkk:iP (kg.set t (ci,(kg.getD t (0,[])).2++[rg l i]))=iP kg:=congrArg (List.map kN) (Na kg t _ _ (lM hx))
   refine aS.Qr (b:=100) (p1 (t+100) (kg.length+101+1)) (by simp [gu]) rfl (Nat.zero_le _) (fun i hi=>by omega) ?_ ?_ ?_ (qV _) ?_ ?_
   ·intro x hx
    simp [tZ] at hx
    rcases hx with rfl|rfl|rfl|rfl<;>(dsimp only;omega)
   ·simp only [go_sem,Int.natCast_succ,h0,h1,h2,h3,List.length_set]
    exact ⟨by omega,by omega,by omega⟩
   ·simp only [go_sem,Int.natCast_succ,Gi,oG,iQ,h0,h1,h2,h3,hkk,List.length_set,tZ]
    rw [FU htl,uw _ _ _ (Nat.le_refl _)]
    exact ⟨⟨rfl,rfl⟩,by omega,by omega,by omega⟩
   ·intro j hj
    rw [gu,List.length_set] at hj
    by_cases e:j=t
    ·subst e
     rw [Ef,Q7]
     have hgd:kg.getD j (0,[])=kg[j]:=getD_lt htl
     simp only [nP,List.map_set,List.getElem_set_self,hgd]
     simp [Rn.av]
    ·rw [kU (by omega)]
     repeat rw [II (by omega)]
     have hq:=zC 81 kg (j:=j) (by rw [gu];exact hj)
     unfold Ui at hq
     rw [xO,if_neg (by omega),mD,if_neg (by omega),AY hq]
     simp [nP,List.getElem_set,if_neg (show ¬t=j from fun h=>e h.symm)]
   ·refine KY ?_
    simp
  | none=>
   rw [hx] at hgO
   have hO:uG (iP kg) (gI 100 kg.length) (.int .i64 (ci:Int)) .nilS=.nilS:=xI hgO
   have hki:dL (iP kg) (.int .i64 (ci:Int))=none:=(l9 EX _ _).trans hx
   have hK:oQ (iP kg) (.int .i64 (ci:Int))=iP kg++[.int .i64 (ci:Int)]:=by unfold oQ;rw [hki]
   have hV:∀ v,BI (iP kg) (gI 100 kg.length) (.int .i64 (ci:Int)) v=gI 100 kg.length++[v]:=fun v=>by unfold BI;rw [hki]
   have hins:yI kg ci (rg l i)=kg++[(ci,[rg l i])]:=by unfold yI;rw [hx]
   (repeat' with_reducible first|intro _|refine rz ?_|refine ra ?_ ?_|omega|simp only [go_sem,f1,aN,hei,tZ,hp0,hp1,List.length_map])
   refine aj.i [0,1,2] k1 3 ?_ (hcov:=Ah)
   (repeat' with_reducible first|intro _|refine rz ?_|refine ra ?_ ?_|omega|simp only [go_sem,hd0,hd1,hd2,hO,hp0,hp1,hK,hV,eq_true hks,Nat.add_eq_left,Nat.left_eq_add,List.length_map])
   refine ⟨(i+1,o1),?_,⟨by dsimp only;omega,u1,by dsimp only;omega⟩,by dsimp only;omega⟩
   dsimp only
   rw [hsn,hins]
   rw [←List.cons_append]
   have h0:p1 (kg.length+100) (kg.length+101+1+1) 0=0:=kU (by omega)
   have h1:p1 (kg.length+100) (kg.length+101+1+1) 1=1:=kU (by omega)
   have h2:p1 (kg.length+100) (kg.length+101+1+1) 2=2:=kU (by omega)
   have h3:p1 (kg.length+100) (kg.length+101+1+1) 3=3:=kU (by omega)
   have hll:(kg++[(ci,[rg l i])]).length=kg.length+1:=by simp
   have hkk:iP (kg++[(ci,[rg l i])])=iP kg++[.int .i64 (ci:Int)]:=by simp [iP,yJ,kN]
   refine aS.Qr (b:=100) (p1 (kg.length+100) (kg.length+101+1+1)) (by simp [gu]) rfl (Nat.zero_le _) (fun i hi=>by omega) ?_ ?_ ?_ (qV _) ?_ ?_
   ·intro x hx
    simp [tZ] at hx
    rcases hx with rfl|rfl|rfl|rfl<;>(dsimp only;omega)
   ·simp only [go_sem,Int.natCast_succ,h0,h1,h2,h3,hll]
    exact ⟨by omega,by omega,by omega⟩
   ·simp only [go_sem,Int.natCast_succ,Gi,h0,h1,h2,h3,hll,tZ]
    rw [oG,iQ,CW,uw _ _ _ (Nat.le_refl _),hkk]
    exact ⟨⟨rfl,rfl,rfl⟩,by omega,by omega,by omega⟩
   ·intro j hj
    rw [gu,hll] at hj
    by_cases e:j=kg.length
    ·subst e
     rw [Ef,Q7]
     simp [nP,Rn.av]
    ·rw [kU (by omega)]
     repeat rw [II (by omega)]
     have hq:=zC 81 kg (j:=j) (by rw [gu];omega)
     unfold Ui at hq
     rw [xO,if_neg (by omega),mD,if_neg (by omega),AY hq]
     have hlt2:j<kg.length:=by omega
     simp only [nP,List.map_append,List.map_cons,List.map_nil]
     rw [List.getElem_append_left (by simp;omega)]
   ·refine KY ?_
    simp
 have f1:((i:Int)<(l.length:Int))=True:=eq_true (by omega)
 have hei:(l.map Rn.av).getD i []=[.int .i64 (rg l i).y,.int .i64 (rg l i).f,.int .i64 (rg l i).t]:=pO l hlt
 have hri:=hr (rg l i) (by unfold rg;rw [getD_lt hlt];exact List.getElem_mem hlt)
 (repeat' with_reducible first|intro _|refine rz ?_|refine ra ?_ ?_|omega|simp only [go_sem,f1,aN,hei,List.length_map])
 refine aJ.intro (fun b:Nat=>⟨142,[(0,.ro (uQ l)),(33,.ro (uQ l)),(3,.ptr 0 0),(5,.ptr 2 0),(6,.int .i64 b),(7,.int .i64 i),(8,.ptr 3 0),(34,.int .i64 l.length),(35,.int .i64 i)],tZ o++[(3,.box 81 [.int .i64 (rg l i).y,.int .i64 (rg l i).f,.int .i64 (rg l i).t])],4⟩) (fun b=>b≤i∧∀ k j,k<b→i≤j→j<l.length→(rg l k).y+1<(rg l j).y) (fun b=>i - b) b ?_ ⟨hbi,hb⟩ fun b hI=>?_
 ·refine aS.aB rfl ?_ ?_<;>simp only [go_sem,Int.natCast_succ,tZ]
  all_goals trace_state
 clear hbi hb
 obtain ⟨hbi,hb⟩:=hI
 have heb:(l.map Rn.av).getD b []=[.int .i64 (rg l b).y,.int .i64 (rg l b).f,.int .i64 (rg l b).t]:=pO l (show b<l.length by omega)
 have hrb:=hr (rg l b) (by unfold rg;rw [getD_lt (by omega)];exact List.getElem_mem (by omega))
 (repeat' with_reducible first|intro _|exact dn|refine rn ?_|refine ra ?_ ?_)
 refine aP.lex [] [] (by kernel_rfl) (by kernel_rfl) ?_
 (repeat' with_reducible first|intro _|refine rz ?_|refine ra ?_ ?_|omega|simp only [go_sem,tZ,aN,heb])
 ·rename_i hx
  refine ⟨b+1,aS.aB rfl ?_ ?_,⟨by omega,fun k j hk hij hj=>?_⟩,by omega⟩
  ·simp only [go_sem,Int.natCast_succ,tZ]
  ·simp only [go_sem,Int.natCast_succ,tZ]
  ·by_cases hkb:k<b
   ·exact hb k j hkb hij hj
   ·obtain rfl:k=b:=by omega
    have:=hup i j hij hj
    omega
 rename_i hx
 have hnb:∀ k,b≤k→k<i→(rg l i).y≤(rg l k).y+1:=fun k h1 h2=>by
  have:=hup b k h1 (by omega)
  omega
 have hub:yY l i b o:=hu.congr fun x y=>Qm fun x hxb ha=>by
  have h1:=hb x i hxb (Nat.le_refl _) hlt
  have h2:(rg l x).y+1=(rg l i).y:=ha.2.2.1
  omega
 clear hx hu
 refine aJ.intro (fun x:Nat × List Int=>⟨142,[(0,.ro (uQ l)),(33,.ro (uQ l)),(3,.ptr 0 0),(5,.ptr 2 0),(6,.int .i64 b),(7,.int .i64 i),(8,.ptr 3 0),(9,.int .i64 x.1),(34,.int .i64 l.length),(35,.int .i64 i)],tZ x.2++[(3,.box 81 [.int .i64 (rg l i).y,.int .i64 (rg l i).f,.int .i64 (rg l i).t])],4⟩) (fun x=>b≤x.1∧x.1≤i∧yY l i x.1 x.2) (fun x=>i - x.1) (b,o) ?_ ⟨Nat.le_refl _,hbi,hub⟩ fun x hI=>?_
 ·refine aS.aB rfl ?_ ?_<;>simp only [go_sem,Int.natCast_succ,tZ]
  all_goals trace_state
 clear hub
 obtain ⟨k,o⟩:=x
 obtain ⟨hbk,hki,hu⟩:=hI
 dsimp only at hbk hki hu ⊢
 have hek:(l.map Rn.av).getD k []=[.int .i64 (rg l k).y,.int .i64 (rg l k).f,.int .i64 (rg l k).t]:=pO l (show k<l.length by omega)
 have hrk:=hr (rg l k) (by unfold rg;rw [getD_lt (by omega)];exact List.getElem_mem (by omega))
 (repeat' with_reducible first|intro _|exact dn|refine rn ?_|refine ra ?_ ?_)
 refine aP.lex [] [] (by kernel_rfl) (by kernel_rfl) ?_
 (repeat' with_reducible first|intro _|refine rz ?_|refine ra ?_ ?_|omega|simp only [go_sem,tZ,aN,hek])
 ·rename_i hx
  have hy:(rg l k).y+1=(rg l i).y:=by have:=hnb k hbk (by omega);omega
  refine aP.lex [] [] (by kernel_rfl) (by kernel_rfl) ?_
  (repeat' with_reducible first|intro _|refine rz ?_|refine ra ?_ ?_|omega|simp only [go_sem,aN,hek])
  ·rename_i hx2
   have hadj:fZ l k i:=⟨by omega,hlt,hy,by omega,by omega⟩
   obtain ⟨hol,c0,hu0,hc0⟩:=hu
   obtain ⟨o1,u1,n1,k1⟩:=F5 c0 k o hu0 (by omega)
   obtain ⟨o2,u2,n2,k2⟩:=F5 c0 i o1 u1 (by omega)
   have u3:=u2.join (x0:=k) (y0:=i) (by omega) (by omega)
   have h3:yY l i (k+1) (o2.set (max (c0 k) (c0 i)) ((min (c0 k) (c0 i):Nat):Int)):=⟨by rw [List.length_set];omega,_,u3,QM hc0 (by omega) hlt (fun x y=>VI hadj) fun x y h=>h.lt⟩
   have ml:=hu0.le k (by omega)
   have mi:=hu0.le i (by omega)
   have hmx:max ((c0 k:Nat):Int) ((c0 i:Nat):Int)=((max (c0 k) (c0 i):Nat):Int):=by omega
   have hmn:min ((c0 k:Nat):Int) ((c0 i:Nat):Int)=((min (c0 k) (c0 i):Nat):Int):=by omega
   have hxl:max (c0 k) (c0 i)<o2.length:=by omega
   unfold Oa tZ at k1 k2
   generalize max (c0 k) (c0 i)=mx at *
   generalize min (c0 k) (c0 i)=mn at *
   refine aP.lex [2,5] [(3,[0]),(4,[0])] (by kernel_rfl) (by kernel_rfl) ?_
   (repeat' with_reducible first|intro _|exact dn|refine rn ?_|refine ra ?_ ?_)
   refine QE.intro _ _ _ (by
    (repeat' with_reducible first|intro _|exact dn|refine rn ?_|refine ra ?_ ?_)
    refine aj.i [0,1,2] k1 3 ?_ (hcov:=Ah)
    exact ⟨rfl,rfl,rfl⟩) ?_
   (repeat' with_reducible first|intro _|exact dn|refine rn ?_|refine ra ?_ ?_)
   refine QE.intro _ _ _ (by
    (repeat' with_reducible first|intro _|exact dn|refine rn ?_|refine ra ?_ ?_)
    refine aj.i [0,1,2] k2 3 ?_ (hcov:=Ah)
    exact ⟨rfl,rfl,rfl⟩) ?_
   (repeat' with_reducible first|intro _|refine rz ?_|refine ra ?_ ?_|omega|simp only [go_sem,hmx,hmn])
   refine ⟨(k+1,o2.set mx (mn:Int)),aS.aB rfl ?_ ?_,⟨by dsimp only;omega,by dsimp only;omega,h3⟩,by dsimp only;omega⟩<;>simp only [go_sem,Int.natCast_succ,tZ]
   all_goals trace_state
  ·rename_i hx2
   have hn:¬fZ l k i:=fun h=>hx2 (by have h1:(rg l k).f<(rg l i).t:=h.2.2.2.1;have h2:(rg l i).f<(rg l k).t:=h.2.2.2.2;omega)
   have h3:yY l i (k+1) o:=hu.congr fun x y=>WR hn
   refine ⟨(k+1,o),aS.aB rfl ?_ ?_,⟨by dsimp only;omega,by dsimp only;omega,h3⟩,by dsimp only;omega⟩<;>simp only [go_sem,Int.natCast_succ,tZ]
   all_goals trace_state
 ·rename_i hx
  have h3:yY l (i+1) 0 o:=hu.congr fun x y=>TL fun x h1 h2 ha=>by
   have h4:=hup k x h1 (by omega)
   have h5:(rg l x).y+1=(rg l i).y:=ha.2.2.1
   omega
  refine ⟨(i+1,b,o),aS.aB rfl ?_ ?_,⟨by dsimp only;omega,h3,by dsimp only;omega,fun k j hk hij hj=>hb k j hk (by dsimp only at hij;omega) hj⟩,by dsimp only;omega⟩<;>simp only [go_sem,Int.natCast_succ,tZ]
  all_goals trace_state
end Go.Fv.L
/- railOf. -/
namespace Go.Fv.L
open Go Go.Proofs
set_option maxHeartbeats 2000000 in
theorem QH (a b:Bx) (ha:JQ a) (hb:JQ b):aU Tryd.prog 46 [.agg a.av,.agg b.av] (.agg (cu a b).av) []:=by
 unfold JQ at ha hb
 unfold Bx.av cu
 refine aU.aY Tryd.func46 rfl (by decide) (by simp [Tryd.f46]) [.cell 4 33] rfl fun w0 T0 _=>?_
 simp only [Tryd.f46,aK]
 (repeat' with_reducible first|intro _|exact dn|refine rn ?_|refine ra ?_ ?_)
 refine aP.lex [] [] (by kernel_rfl) (by kernel_rfl) ?_
 (repeat' with_reducible first|intro _|refine rz ?_|refine ra ?_ ?_|omega|simp only [go_sem,FH])
 refine eP.auto 0 ?_ rfl ?_<;>simp only [go_sem,Int.natCast_succ,Post]
def V7 (d:Bool) (g:List Rn) (i:Nat):Go.Fv.S:=⟨82,[(1,.bool d),(4,.ptr 0 0),(5,.ptr 1 0),(6,.ptr 2 0),(7,.ptr 3 0),(12,.ro (uQ g)),(13,.int .i64 g.length),(14,.int .i64 i)],[(0,.box 35 [.int .i64 0,.int .i64 0,.int .i64 0,.int .i64 0,.bool false]),(1,.box 55 [.int .i64 0,.int .i64 0]),(2,.box 33 [.int .i64 (iE d (g.take i)).x,.int .i64 (iE d (g.take i)).y,.int .i64 (iE d (g.take i)).w,.int .i64 (iE d (g.take i)).h]),(3,.box 55 [.int .i64 (nX d (g.take i)).x,.int .i64 (nX d (g.take i)).y])],4⟩
def JM:List (Nat × List Nat):=[(0,[1,2]),(1,[1,2]),(2,[1,2]),(3,[1,2]),(4,[1,2]),(5,[1,2]),(6,[1,2]),(7,[1,2]),(8,[1,2]),(9,[1,2]),(10,[1,2,3]),(11,[1,2,3]),(12,[1,2,3]),(13,[1,2,3]),(14,[1,2,3])]
def JL (d:Bool) (g:List Rn) (i:Nat) (B:Bx) (Q:Pt) (ry rf rt:Nat):Go.Fv.S:=⟨82,[(1,.bool d),(4,.ptr 0 0),(5,.ptr 1 0),(6,.ptr 2 0),(7,.ptr 3 0),(8,.int .i64 i),(9,.ptr 4 0),(10,.ptr 5 0),(11,.ptr 6 0),(12,.ro (uQ g)),(13,.int .i64 g.length),(14,.int .i64 i)],[(0,.box 35 [.int .i64 0,.int .i64 0,.int .i64 0,.int .i64 0,.bool false]),(1,.box 55 [.int .i64 0,.int .i64 0]),(2,.box 33 [.int .i64 B.x,.int .i64 B.y,.int .i64 B.w,.int .i64 B.h]),(3,.box 55 [.int .i64 Q.x,.int .i64 Q.y]),(4,.box 81 [.int .i64 ry,.int .i64 rf,.int .i64 rt]),(5,.box 33 [.int .i64 rf,.int .i64 ry,.int .i64 ((rt:Int) - rf),.int .i64 1]),(6,.box 55 [.int .i64 rf,.int .i64 ry])],7⟩
set_option maxHeartbeats 8000000 in
theorem Eh (d:Bool) (g:List Rn) (hg:∀ r,r∈g→zi r) :
  aU Tryd.prog 22 [.ro (uQ g),.bool d] (.tup [.agg [.int .i64 (iE d g).x,.int .i64 (iE d g).y,.int .i64 (iE d g).w,.int .i64 (iE d g).h,.bool d],.agg [.int .i64 (nX d g).x,.int .i64 (nX d g).y]]) []:=by
 refine aU.aY Tryd.func22 rfl (by decide) (by simp [Tryd.f22]) [.cell 4 35,.cell 5 55] rfl fun w0 T0 _=>?_
 simp only [Tryd.f22,aK]
 (repeat' with_reducible first|intro _|refine rz ?_|refine ra ?_ ?_|omega|simp only [go_sem,List.length_map])
 refine aJ.intro (V7 d g) (fun i=>i≤g.length) (fun i=>g.length - i) 0 ?_ (Nat.zero_le _) fun i hi=>?_
 ·refine aS.aB rfl ?_ ?_<;>simp only [go_sem,Int.natCast_succ,V7,iE,nX,vV,EY,Bx.zero,List.map_nil]
  all_goals trace_state
 by_cases hlt:i<g.length
 case neg=>
  have e:i=g.length:=by omega
  subst e
  have f1:((g.length:Int)<(g.length:Int))=False:=eq_false (by omega)
  unfold V7
  rw [List.take_length]
  generalize iE d g=B at *
  generalize nX d g=Q at *
  (repeat' with_reducible first|intro _|refine rz ?_|refine ra ?_ ?_|omega|simp only [go_sem,f1])
  refine aP.lex [4,5] [(3,[1])] (by kernel_rfl) (by kernel_rfl) ?_
  (repeat' with_reducible first|intro _|exact dn|refine rn ?_|refine ra ?_ ?_)
  refine eP.auto 0 ?_ rfl ?_<;>simp only [go_sem,Int.natCast_succ,Post]
  all_goals trace_state
 have f1:((i:Int)<(g.length:Int))=True:=eq_true (by omega)
 have he:=pO g hlt
 have hrs:=hg (g.getD i Rn.zero) (by rw [getD_lt hlt];exact List.getElem_mem hlt)
 obtain ⟨ht1,ht2⟩:=UA d g hlt
 have hBs:JQ (iE d (g.take i)):=Xd d fun r hr=>hg r (List.mem_of_mem_take hr)
 have hbs:JQ (kL d (g.getD i Rn.zero)):=Qd d hrs
 have kh:=QH _ _ hBs hbs
 have hrs2:=hrs
 unfold zi at hrs2
 generalize g.getD i Rn.zero=r at *
 obtain ⟨ry,rf,rt⟩:=r
 dsimp only at he hrs2
 cases d with
 | false=>
  have hb:kL false ⟨ry,rf,rt⟩=⟨rf,ry,(rt:Int) - rf,1⟩:=rfl
  have hp:CU false ⟨ry,rf,rt⟩=⟨rf,ry⟩:=rfl
  rw [hb] at kh ht1 hbs
  rw [hp] at ht2
  by_cases h0:i=0
  ·rw [if_pos h0] at ht1 ht2
   have f2:((i:Int)=0)=True:=eq_true (by omega)
   unfold V7
   generalize iE false (g.take i)=B at *
   generalize nX false (g.take i)=Q at *
   (repeat' with_reducible first|intro _|refine rz ?_|refine ra ?_ ?_|omega|simp only [go_sem,f1,aN,he,List.length_map])
   refine aP.wo 15 [15,16,17,18] JM [15,16,17,18] JM (by kernel_rfl) (by kernel_rfl) (by kernel_rfl) (by kernel_rfl) (JL false g i B Q ry rf rt) ?_ ?_ ?_
   ·simp only [sW,o9,List.push_toArray]
    (repeat' with_reducible first|intro _|refine rz ?_|refine ra ?_ ?_|omega|simp only [go_sem,JM])
    refine aS.aB rfl ?_ ?_<;>simp only [go_sem,Int.natCast_succ,JL]
   ·simp only [sZ,o9,y7,PE,List.map_cons,List.map_nil,List.push_toArray]
    (repeat' with_reducible first|intro _|refine rz ?_|refine ra ?_ ?_|omega|simp only [go_sem,JM])
    refine aS.aB rfl ?_ ?_<;>simp only [go_sem,Int.natCast_succ,JL]
   unfold JL
   (repeat' with_reducible first|intro _|refine rz ?_|refine ra ?_ ?_|omega|simp only [go_sem,f2])
   refine aP.lex [2,3] [(1,[1])] (by kernel_rfl) (by kernel_rfl) ?_
   (repeat' with_reducible first|intro _|exact dn|refine rn ?_|refine ra ?_ ?_)
   refine ⟨i+1,?_,by omega,by omega⟩
   rw [ht1,ht2]
   refine aS.aB rfl ?_ ?_<;>simp only [go_sem,Int.natCast_succ]
   all_goals trace_state
  ·rw [if_neg h0] at ht1 ht2
   have f2:((i:Int)=0)=False:=eq_false (by omega)
   unfold V7
   unfold Bx.av at kh
   generalize iE false (g.take i)=B at *
   generalize nX false (g.take i)=Q at *
   dsimp only at kh
   generalize cu B ⟨rf,ry,(rt:Int) - rf,1⟩=H at *
   obtain ⟨Qx,Qy⟩:=Q
   dsimp only at *
   (repeat' with_reducible first|intro _|refine rz ?_|refine ra ?_ ?_|omega|simp only [go_sem,f1,aN,he,List.length_map])
   refine aP.wo 15 [15,16,17,18] JM [15,16,17,18] JM (by kernel_rfl) (by kernel_rfl) (by kernel_rfl) (by kernel_rfl) (JL false g i B ⟨Qx,Qy⟩ ry rf rt) ?_ ?_ ?_
   ·simp only [sW,o9,List.push_toArray]
    (repeat' with_reducible first|intro _|refine rz ?_|refine ra ?_ ?_|omega|simp only [go_sem,JM])
    refine aS.aB rfl ?_ ?_<;>simp only [go_sem,Int.natCast_succ,JL]
   ·simp only [sZ,o9,y7,PE,List.map_cons,List.map_nil,List.push_toArray]
    (repeat' with_reducible first|intro _|refine rz ?_|refine ra ?_ ?_|omega|simp only [go_sem,JM])
    refine aS.aB rfl ?_ ?_<;>simp only [go_sem,Int.natCast_succ,JL]
   unfold JL
   (repeat' with_reducible first|intro _|refine rz ?_|refine ra ?_ ?_|omega|simp only [go_sem,f2])
   refine aj.k kh ?_
   (repeat' with_reducible first|intro _|exact dn|refine rn ?_|refine ra ?_ ?_)
   ·rename_i hx
    rw [Aq (by dsimp only;omega)] at ht2
    refine ⟨i+1,?_,by omega,by omega⟩
    rw [ht1,ht2]
    refine aS.aB rfl ?_ ?_<;>simp only [go_sem,Int.natCast_succ]
    all_goals trace_state
   ·rename_i hx
    rw [Ap (by dsimp only;omega)] at ht2
    refine ⟨i+1,?_,by omega,by omega⟩
    rw [ht1,ht2]
    refine aS.aB rfl ?_ ?_<;>simp only [go_sem,Int.natCast_succ]
    all_goals trace_state
 | true=>
  have hb:kL true ⟨ry,rf,rt⟩=⟨ry,rf,1,(rt:Int) - rf⟩:=rfl
  have hp:CU true ⟨ry,rf,rt⟩=⟨ry,rf⟩:=rfl
  rw [hb] at kh ht1 hbs
  rw [hp] at ht2
  by_cases h0:i=0
  ·rw [if_pos h0] at ht1 ht2
   have f2:((i:Int)=0)=True:=eq_true (by omega)
   unfold V7
   generalize iE true (g.take i)=B at *
   generalize nX true (g.take i)=Q at *
   (repeat' with_reducible first|intro _|refine rz ?_|refine ra ?_ ?_|omega|simp only [go_sem,f1,aN,he,List.length_map])
   refine aP.wo 15 [15,16,17,18] JM [15,16,17,18] JM (by kernel_rfl) (by kernel_rfl) (by kernel_rfl) (by kernel_rfl) (JL true g i B Q ry rf rt) ?_ ?_ ?_
   ·simp only [sW,o9,List.push_toArray]
    (repeat' with_reducible first|intro _|refine rz ?_|refine ra ?_ ?_|omega|simp only [go_sem,JM])
    refine aS.aB rfl ?_ ?_<;>simp only [go_sem,Int.natCast_succ,JL]
   ·simp only [sZ,o9,y7,PE,List.map_cons,List.map_nil,List.push_toArray]
    (repeat' with_reducible first|intro _|refine rz ?_|refine ra ?_ ?_|omega|simp only [go_sem,JM])
    refine aS.aB rfl ?_ ?_<;>simp only [go_sem,Int.natCast_succ,JL]
   unfold JL
   (repeat' with_reducible first|intro _|refine rz ?_|refine ra ?_ ?_|omega|simp only [go_sem,f2])
   refine aP.lex [15,16] [(10,[1]),(11,[1]),(12,[1]),(13,[1]),(14,[1])] (by kernel_rfl) (by kernel_rfl) ?_
   (repeat' with_reducible first|intro _|refine rz ?_|refine ra ?_ ?_|omega|simp only [go_sem,f2])
   refine aP.lex [2,3] [(1,[1])] (by kernel_rfl) (by kernel_rfl) ?_
   (repeat' with_reducible first|intro _|exact dn|refine rn ?_|refine ra ?_ ?_)
   refine ⟨i+1,?_,by omega,by omega⟩
   rw [ht1,ht2]
   refine aS.aB rfl ?_ ?_<;>simp only [go_sem,Int.natCast_succ]
   all_goals trace_state
  ·rw [if_neg h0] at ht1 ht2
   have f2:((i:Int)=0)=False:=eq_false (by omega)
   unfold V7
   unfold Bx.av at kh
   generalize iE true (g.take i)=B at *
   generalize nX true (g.take i)=Q at *
   dsimp only at kh
   generalize cu B ⟨ry,rf,1,(rt:Int) - rf⟩=H at *
   obtain ⟨Qx,Qy⟩:=Q
   dsimp only at *
   (repeat' with_reducible first|intro _|refine rz ?_|refine ra ?_ ?_|omega|simp only [go_sem,f1,aN,he,List.length_map])
   refine aP.wo 15 [15,16,17,18] JM [15,16,17,18] JM (by kernel_rfl) (by kernel_rfl) (by kernel_rfl) (by kernel_rfl) (JL true g i B ⟨Qx,Qy⟩ ry rf rt) ?_ ?_ ?_
   ·simp only [sW,o9,List.push_toArray]
    (repeat' with_reducible first|intro _|refine rz ?_|refine ra ?_ ?_|omega|simp only [go_sem,JM])
    refine aS.aB rfl ?_ ?_<;>simp only [go_sem,Int.natCast_succ,JL]
   ·simp only [sZ,o9,y7,PE,List.map_cons,List.map_nil,List.push_toArray]
    (repeat' with_reducible first|intro _|refine rz ?_|refine ra ?_ ?_|omega|simp only [go_sem,JM])
    refine aS.aB rfl ?_ ?_<;>simp only [go_sem,Int.natCast_succ,JL]
   unfold JL
   (repeat' with_reducible first|intro _|refine rz ?_|refine ra ?_ ?_|omega|simp only [go_sem,f2])
   refine aP.lex [15,16] [(10,[1]),(11,[1]),(12,[1]),(13,[1]),(14,[1])] (by kernel_rfl) (by kernel_rfl) ?_
   (repeat' with_reducible first|intro _|refine rz ?_|refine ra ?_ ?_|omega|simp only [go_sem,f2])
   refine aj.k kh ?_
   (repeat' with_reducible first|intro _|exact dn|refine rn ?_|refine ra ?_ ?_)
   ·rename_i hx
    rw [Aq (by dsimp only;omega)] at ht2
    refine ⟨i+1,?_,by omega,by omega⟩
    rw [ht1,ht2]
    refine aS.aB rfl ?_ ?_<;>simp only [go_sem,Int.natCast_succ]
    all_goals trace_state
   ·rename_i hx
    rw [Ap (by dsimp only;omega)] at ht2
    refine ⟨i+1,?_,by omega,by omega⟩
    rw [ht1,ht2]
    refine aS.aB rfl ?_ ?_<;>simp only [go_sem,Int.natCast_succ]
    all_goals trace_state
end Go.Fv.L
/- The closures of Rules. -/
namespace Go.Fv.L
open Go Go.Proofs
theorem Ug (p:List Bool) (w h y x:Nat) (hw:w≤1000) (hy:y≤1000) (hx:x≤1000) (hl:y*w+x<p.length) :
  aU Tryd.prog 24 [.int .i64 y,.int .i64 x,.cell [.int .i64 w,.int .i64 h,.ro (.bools p)]] (.bool (p.getD (y*w+x) false)) []:=by
 have hm:(y:Int)*(w:Int)=((y*w:Nat):Int):=by simp
 have hb:y*w≤1000000:=Nat.mul_le_mul hy hw
 have ha:((y*w:Nat):Int)+(x:Int)=((y*w+x:Nat):Int):=by omega
 refine aU.aY Tryd.func24 rfl (by decide) (by simp [Tryd.f24]) [.tmp 5] rfl fun w0 T0 _=>?_
 simp only [Tryd.f24,aK]
 (repeat' with_reducible first|intro _|refine rz ?_|refine ra ?_ ?_|omega|simp only [go_sem,hm,ha,Int.toNat_natCast])
 refine eP.auto 0 ?_ rfl ?_<;>simp only [go_sem,Int.natCast_succ,Post]
theorem Uh (p:List Bool) (w h y x:Nat) (hw:w≤1000) (hy:y≤1000) (hx:x≤1000) (hl:y*w+x<p.length) :
  aU Tryd.prog 25 [.int .i64 x,.int .i64 y,.cell [.int .i64 w,.int .i64 h,.ro (.bools p)]] (.bool (p.getD (y*w+x) false)) []:=by
 have hm:(y:Int)*(w:Int)=((y*w:Nat):Int):=by simp
 have hb:y*w≤1000000:=Nat.mul_le_mul hy hw
 have ha:((y*w:Nat):Int)+(x:Int)=((y*w+x:Nat):Int):=by omega
 refine aU.aY Tryd.func25 rfl (by decide) (by simp [Tryd.f25]) [.tmp 5] rfl fun w0 T0 _=>?_
 simp only [Tryd.f25,aK]
 (repeat' with_reducible first|intro _|refine rz ?_|refine ra ?_ ?_|omega|simp only [go_sem,hm,ha,Int.toNat_natCast])
 refine eP.auto 0 ?_ rfl ?_<;>simp only [go_sem,Int.natCast_succ,Post]
set_option maxHeartbeats 4000000 in
theorem Vy (X:List Pl) (hX:X.length≤100000) (d:Bool) (l:List Rn) (hl:l.length≤100000) (hup:Up l) (hr:∀ r,r∈l→zi r) (c:Nat→Nat) (hc:fG l.length (fZ l) c) :
  dD Tryd.prog 20 [.ro (uQ l),.bool d,.ptr 0 0] [(0,.box 50 [.own 1]),(1,.row 59 (aC X))] 2 (.tup [])
   [(0,.box 50 [.own 2]),(2,.row 59 (aC (X++oL d X.length (dG c l l.length))))]:=by
 have kl:=IG l hl hup (fun r h=>by have:=hr r h;unfold zi at this;omega) c hc
 have hgl:=jq c l l.length
 have hgm:∀ g,g∈dG c l l.length→∀ r,r∈g→zi r:=fun g hg r h=>hr r (wE hg r h)
 generalize dG c l l.length=gs at *
 refine dD.aY Tryd.func20 rfl (by decide) (by simp [Tryd.f20]) (fun j hj=>by rcases (by omega:j=0∨j=1) with rfl|rfl<;>exact ⟨_,rfl⟩) [] rfl fun w0 T0 _=>?_
 simp only [Tryd.f20,aK]
 (repeat' with_reducible first|intro _|exact dn|refine rn ?_|refine ra ?_ ?_)
 refine aj.Yt (.ro (.objs 1 (SL gs))) kl (by simp only [aG,aV,dI,bf,aH,List.drop_zero,lk,reduceIte,reduceCtorEq,Nat.reduceEqDiff,Option.some.injEq,Item.row.injEq,Item.box.injEq,AV.ro.injEq,exists_eq_left,exists_and_left,exists_eq_left',exists_eq_right,and_assoc,and_true,true_and,List.cons.injEq,exists_eq',exists_eq]) (by simp [gX,dI,aH,lk,aG]) rfl ?_
 (repeat' with_reducible first|intro _|refine rz ?_|refine ra ?_ ?_|omega|simp only [go_sem,List.length_map])
 refine aJ.intro (fun k:Nat=>⟨29,[(1,.bool d),(2,.ptr 0 0),(10,.ro (.objs 1 (SL gs))),(11,.int .i64 gs.length),(12,.int .i64 k)],[(0,.box 50 [.own 2]),(2,.row 59 (aC (X++oL d X.length (gs.take k))))],3⟩) (fun k=>k≤gs.length) (fun k=>gs.length - k) 0 ?_ (Nat.zero_le _) fun k hk=>?_
 ·refine aS.of [(2,1)] rfl (by show 2≤3;decide) (fun x hx=>by simp at hx;subst hx;decide) ?_ ?_<;>simp only [go_sem,Int.natCast_succ,oL,aC]
  all_goals trace_state
 by_cases hlt:k<gs.length
 case neg=>
  have e:k=gs.length:=by omega
  subst e
  have f1:((gs.length:Int)<(gs.length:Int))=False:=eq_false (by omega)
  rw [List.take_length]
  (repeat' with_reducible first|intro _|refine rz ?_|refine ra ?_ ?_|omega|simp only [go_sem,f1])
  refine dN.of [] 3 (fun x hx=>by cases hx) (by decide) ?_ rfl ?_<;>simp only [go_sem,Int.natCast_succ,aC]
  all_goals trace_state
 have f1:((k:Int)<(gs.length:Int))=True:=eq_true (by omega)
 have he:=MS gs hlt
 have hg:=hgm (gs.getD k []) (by rw [getD_lt hlt];exact List.getElem_mem hlt)
 have kr:=Eh d (gs.getD k []) hg
 have ht:=wF d gs X.length hlt
 have hav:=zF (i:=X.length+k) (B:=iE d (gs.getD k [])) (d:=d) (P:=nX d (gs.getD k [])) (NC d hg)
 have hln:=jS d (gs.take k) X.length
 rw [List.length_take] at hln
 generalize y5 (X.length+k) (iE d (gs.getD k [])) d (nX d (gs.getD k []))=E at *
 generalize iE d (gs.getD k [])=B at *
 generalize nX d (gs.getD k [])=Q at *
 generalize gs.getD k []=g at *
 generalize oL d X.length (gs.take k)=Y at *
 (repeat' with_reducible first|intro _|refine rz ?_|refine ra ?_ ?_|omega|simp only [go_sem,f1,aN,he])
 refine aj.k kr ?_
 (repeat' with_reducible first|intro _|refine rz ?_|refine ra ?_ ?_|omega|simp only [go_sem,aC,List.length_map])
 refine ⟨k+1,aS.of [(2,6)] rfl (by show 2≤3;decide) (fun x hx=>by simp at hx;subst hx;decide) ?_ ?_,by omega,by omega⟩<;>simp only [go_sem,Int.natCast_succ,ht,aC]
 rw [←hav];simp
set_option maxHeartbeats 4000000 in
theorem Oc (d:Bool) (l:List Rn) (hl:l.length≤100000) (hup:Up l) (hr:∀ r,r∈l→zi r) (c:Nat→Nat) (hc:fG l.length (fZ l) c) :
  dD Tryd.prog 20 [.ro (uQ l),.bool d,.ptr 0 0] [(0,.box 50 [.nilS])] 1 (.tup [])
   [(0,.box 50 [.own 1]),(1,.row 59 (aC (oL d 0 (dG c l l.length))))]:=by
 have kl:=IG l hl hup (fun r h=>by have:=hr r h;unfold zi at this;omega) c hc
 have hgl:=jq c l l.length
 have hgm:∀ g,g∈dG c l l.length→∀ r,r∈g→zi r:=fun g hg r h=>hr r (wE hg r h)
 generalize dG c l l.length=gs at *
 refine dD.aY Tryd.func20 rfl (by decide) (by simp [Tryd.f20]) (fun j hj=>by obtain rfl:j=0:=(by omega);exact ⟨_,rfl⟩) [] rfl fun w0 T0 _=>?_
 simp only [Tryd.f20,aK]
 (repeat' with_reducible first|intro _|exact dn|refine rn ?_|refine ra ?_ ?_)
 refine aj.Yt (.ro (.objs 1 (SL gs))) kl (by simp only [aG,aV,dI,bf,aH,List.drop_zero,lk,reduceIte,reduceCtorEq,Nat.reduceEqDiff,Option.some.injEq,Item.row.injEq,Item.box.injEq,AV.ro.injEq,exists_eq_left,exists_and_left,exists_eq_left',exists_eq_right,and_assoc,and_true,true_and,List.cons.injEq,exists_eq',exists_eq]) (by simp [gX,dI,aH,lk,aG]) rfl ?_
 (repeat' with_reducible first|intro _|refine rz ?_|refine ra ?_ ?_|omega|simp only [go_sem,List.length_map])
 refine aJ.intro (fun k:Nat=>⟨29,[(1,.bool d),(2,.ptr 0 0),(10,.ro (.objs 1 (SL gs))),(11,.int .i64 gs.length),(12,.int .i64 k)],[(0,.box 50 [.own 1]),(1,.row 59 (aC (oL d 0 (gs.take k))))],2⟩) (fun k=>k≤gs.length) (fun k=>gs.length - k) 0 ?_ (Nat.zero_le _) fun k hk=>?_
 ·refine aS.trans (aS.Ri (P:=Tryd.prog) 0 0 59 e59 rfl rfl) (aS.of [] rfl (by show 1≤2;decide) (fun x hx=>by cases hx) ?_ ?_)<;>simp only [go_sem,Int.natCast_succ,oL,aC,put,List.map_nil]
  all_goals trace_state
 by_cases hlt:k<gs.length
 case neg=>
  have e:k=gs.length:=by omega
  subst e
  have f1:((gs.length:Int)<(gs.length:Int))=False:=eq_false (by omega)
  rw [List.take_length]
  (repeat' with_reducible first|intro _|refine rz ?_|refine ra ?_ ?_|omega|simp only [go_sem,f1])
  refine dN.of [] 2 (fun x hx=>by cases hx) (by decide) ?_ rfl ?_<;>simp only [go_sem,Int.natCast_succ,aC]
  all_goals trace_state
 have f1:((k:Int)<(gs.length:Int))=True:=eq_true (by omega)
 have he:=MS gs hlt
 have hg:=hgm (gs.getD k []) (by rw [getD_lt hlt];exact List.getElem_mem hlt)
 have kr:=Eh d (gs.getD k []) hg
 have ht:=wF d gs 0 hlt
 have hav:=zF (i:=0+k) (B:=iE d (gs.getD k [])) (d:=d) (P:=nX d (gs.getD k [])) (NC d hg)
 have hln:=jS d (gs.take k) 0
 rw [List.length_take] at hln
 generalize y5 (0+k) (iE d (gs.getD k [])) d (nX d (gs.getD k []))=E at *
 generalize iE d (gs.getD k [])=B at *
 generalize nX d (gs.getD k [])=Q at *
 generalize gs.getD k []=g at *
 generalize oL d 0 (gs.take k)=Y at *
 (repeat' with_reducible first|intro _|refine rz ?_|refine ra ?_ ?_|omega|simp only [go_sem,f1,aN,he])
 refine aj.k kr ?_
 (repeat' with_reducible first|intro _|refine rz ?_|refine ra ?_ ?_|omega|simp only [go_sem,aC,List.length_map])
 refine ⟨k+1,aS.of [(1,5)] rfl (by show 1≤2;decide) (fun x hx=>by simp at hx;subst hx;decide) ?_ ?_,by omega,by omega⟩<;>simp only [go_sem,Int.natCast_succ,ht,aC]
 rw [←hav];simp
end Go.Fv.L
/-! Cutting: the blocks do not overlap and have all ink. -/
namespace Go.Fv.L
open Go
section
variable (p:List Bool) (w:Nat)
def VA (c r:Nat × Nat) (gx gy:Nat):Prop:=0<c.2∧(r.2=0∨r.2*gx<c.2*gy)
instance (c r:Nat × Nat) (gx gy:Nat):Decidable (VA c r gx gy):=inferInstanceAs (Decidable (_∧_))
def Apart (a b:Nb):Prop:=a.x+a.w≤b.x∨b.x+b.w≤a.x∨a.y+a.h≤b.y∨b.y+b.h≤a.y
structure EI (b:Nb) (l:List Nb):Prop where
 part:∀ x,x∈l→PartOf x b
 ink:∀ x,x∈l→0<Fe p w x
 sum:(l.map (Fe p w)).sum=Fe p w b
 apart:l.Pairwise Apart
theorem EI.join {b c d:Nb} {l l':List Nb} (h:EI p w b l) (h':EI p w c l') (hb:PartOf b d) (hc:PartOf c d) (hs:Fe p w b+Fe p w c=Fe p w d) (ha:Apart b c):EI p w d (l++l') where
 part:=fun x hx=>(List.mem_append.1 hx).elim (fun h1=>(h.part x h1).trans hb) fun h1=>(h'.part x h1).trans hc
 ink:=fun x hx=>(List.mem_append.1 hx).elim (h.ink x) (h'.ink x)
 sum:=by rw [List.map_append,List.sum_append,h.sum,h'.sum,hs]
 apart:=by
  refine List.pairwise_append.2 ⟨h.apart,h'.apart,fun x hx y hy=>?_⟩
  have h1:=h.part x hx
  have h2:=h'.part y hy
  unfold PartOf Apart at *
  omega
theorem EI.of {b t:Nb} {l:List Nb} (h:EI p w t l) (hp:PartOf t b) (hi:Fe p w t=Fe p w b):EI p w b l where
 part:=fun x hx=>(h.part x hx).trans hp
 ink:=h.ink
 sum:=h.sum.trans hi
 apart:=h.apart
theorem EI.len {b:Nb} {l:List Nb} (h:EI p w b l):l.length≤Fe p w b:=by
 rw [←h.sum]
 have:=h.ink
 clear h
 induction l with
 | nil=>simp
 | cons x l ih=>
  have h1:=this x (.head _)
  have h2:=ih fun y hy=>this y (.tail _ hy)
  simp only [List.length_cons,List.map_cons,List.sum_cons]
  omega
end
end Go.Fv.L
/-! The reference's ways to cut a box: plain law. -/
namespace Go.Fv.L
open Go
section
variable (p:List Bool) (w:Nat)
end
end Go.Fv.L
/-! The ink of a page that is cut out. -/
namespace Go.Fv.L
open Go
end Go.Fv.L
/-! Columns and rows of a box, and the box as small as its ink permits: the walk. -/
namespace Go.Fv.L
open Go Go.Proofs
instance:pY Nb.av:=⟨fun _=>rfl⟩
def Xh (b:Nb) (w h:Nat):Prop:=b.x+b.w≤w∧b.y+b.h≤h
theorem Xh.of {a b:Nb} {w h:Nat} (h1:Xh b w h) (h2:PartOf a b):Xh a w h:=by unfold Xh PartOf at *;omega
end Go.Fv.L
/-! Stretches: the walk. -/
namespace Go.Fv.L
open Go Go.Proofs
def Jk (s:Nat × Nat):List AV:=[.int .i64 s.1,.int .i64 s.2]
instance:pY Jk:=⟨fun _=>rfl⟩
def PG (l:List (Nat × Nat)):aF:=.objs 2 (l.map Jk)
theorem UG (l:List (Nat × Nat)) {i:Nat} (h:i<l.length):(l.map Jk).getD i []=[.int .i64 (l.getD i (0,0)).1,.int .i64 (l.getD i (0,0)).2]:=by
 rw [getD_lt (by simpa using h),getD_lt h,List.getElem_map];rfl
theorem wI (is:Nat→Bool):∀ n i,(strs is n i).length≤n
 | 0,i=>by unfold strs;simp
 | n+1,i=>by
  unfold strs
  split
  ·have:=wI is (n - (fU is (n+1) i - i)) (fU is (n+1) i+1)
   simp only [List.length_cons];omega
  ·have:=wI is n (i+1)
   omega
termination_by n=>n
decreasing_by all_goals omega
set_option maxHeartbeats 4000000 in
theorem Gh (a z:Nat) (haz:a≤z) (hz:z≤10000) (f:Nat) (caps:List AV) [qC caps] (is:Nat→Bool) (hq:∀ i:Nat,a≤i→i<z→dW Tryd.prog f ([.int .i64 i]++caps) (.bool (is i)) []) :
  aU Tryd.prog 47 [.int .i64 a,.int .i64 z,.fn f caps] (.own 0) [(0,.row 94 (PG (strs is (z - a) a)))]:=by
 have hsl:=wI is (z - a) a
 refine aU.aY Tryd.func47 rfl (by decide) (by simp [Tryd.f47]) [.tmp 6] rfl fun w0 T0 _=>?_
 simp only [Tryd.f47,aK]
 (repeat' with_reducible first|intro _|exact dn|refine rn ?_|refine ra ?_ ?_)
 refine aJ.intro (fun x:Nat × List (Nat × Nat)=>⟨41,[(7,.own 0),(8,.int .i64 x.1),(1,.int .i64 z),(2,.fn f caps)],[(0,.row 94 (.objs 2 (x.2.map Jk)))],1⟩) (fun x=>a≤x.1∧x.1≤z+1∧x.2++strs is (z - x.1) x.1=strs is (z - a) a) (fun x=>z+1 - x.1) (a,[]) ?_ ⟨Nat.le_refl _,by omega,rfl⟩ fun x hx=>?_
 ·refine aS.aB rfl ?_ ?_<;>simp only [go_sem,Int.natCast_succ,List.map_nil]
 obtain ⟨i,l⟩:=x
 obtain ⟨h1,h2,h3⟩:=hx
 dsimp only at h1 h2 h3 ⊢
 have hll:l.length≤10000:=by
  have:=congrArg List.length h3
  rw [List.length_append] at this
  omega
 by_cases hlt:i<z
 ·obtain ⟨n,hn⟩:∃ n,z - i=n+1:=⟨z - i - 1,by omega⟩
  have hqi:=hq i h1 hlt
  have hnx:strs is (n+1) i=if is i=true then (i,fU is (n+1) i - i)::strs is (n - (fU is (n+1) i - i)) (fU is (n+1) i+1) else strs is n (i+1):=by rw [strs]
  rw [hn] at h3
  cases hi:is i with
  | false=>
   rw [hi] at hqi
   rw [if_neg (by rw [hi];decide)] at hnx
   (repeat' with_reducible first|intro _|exact dn|refine rn ?_|refine ra ?_ ?_)
   refine aj.fr (args':=[.int .i64 i]++caps) hqi (by simp [aV,bf,aH,iO]) 0 rfl (by simp [bn]) ?_
   (repeat' with_reducible first|intro _|exact dn|refine rn ?_|refine ra ?_ ?_)
   refine ⟨(i+1,l),aS.aB rfl ?_ ?_,⟨by dsimp only;omega,by dsimp only;omega,?_⟩,by dsimp only;omega⟩
   ·simp only [go_sem,Int.natCast_succ]
   ·simp only [go_sem,Int.natCast_succ]
   ·show l++strs is (z - (i+1)) (i+1)=_
    rw [show z - (i+1)=n by omega,←h3,hnx]
  | true=>
   rw [hi] at hqi
   rw [if_pos hi] at hnx
   (repeat' with_reducible first|intro _|exact dn|refine rn ?_|refine ra ?_ ?_)
   refine aj.fr (args':=[.int .i64 i]++caps) hqi (by simp [aV,bf,aH,iO]) 0 rfl (by simp [bn]) ?_
   (repeat' with_reducible first|intro _|exact dn|refine rn ?_|refine ra ?_ ?_)
   refine aJ.intro (fun k:Nat=>⟨41,[(9,.int .i64 k),(7,.own 0),(8,.int .i64 i),(1,.int .i64 z),(2,.fn f caps)],[(0,.row 94 (.objs 2 (l.map Jk)))],1⟩) (fun k=>i≤k∧k≤z∧fU is (z - k) k=fU is (n+1) i) (fun k=>z - k) i ?_ ⟨Nat.le_refl _,by omega,by rw [hn]⟩ fun k hk=>?_
   ·refine aS.aB rfl ?_ ?_<;>simp only [go_sem,Int.natCast_succ]
   obtain ⟨k1,k2,k3⟩:=hk
   have hcast:((k - i:Nat):Int)=(k:Int) - i:=by omega
   by_cases hkz:k<z
   ·have hqk:=hq k (by omega) hkz
    have hdk:decide ((k:Int)<z)=true:=by simp;exact hkz
    obtain ⟨m,hm⟩:∃ m,z - k=m+1:=⟨z - k - 1,by omega⟩
    have hrn:fU is (m+1) k=if is k=true then fU is m (k+1) else k:=rfl
    rw [hm] at k3
    cases hik:is k with
    | true=>
     rw [hik] at hqk
     rw [if_pos hik] at hrn
     (repeat' with_reducible first|intro _|refine rz ?_|refine ra ?_ ?_|omega|simp only [go_sem,hdk])
     refine aj.fr (args':=[.int .i64 k]++caps) hqk (by simp [aV,bf,aH,iO]) 0 rfl (by simp [bn]) ?_
     (repeat' with_reducible first|intro _|refine rz ?_|refine ra ?_ ?_|omega|simp only [go_sem,hdk])
     refine ⟨k+1,aS.aB rfl ?_ ?_,⟨by omega,by omega,by rw [show z - (k+1)=m by omega,←hrn];exact k3⟩,by omega⟩<;>simp only [go_sem,Int.natCast_succ]
    | false=>
     rw [hik] at hqk
     rw [if_neg (by rw [hik];decide)] at hrn
     rw [hrn] at k3
     (repeat' with_reducible first|intro _|refine rz ?_|refine ra ?_ ?_|omega|simp only [go_sem,hdk])
     refine aj.fr (args':=[.int .i64 k]++caps) hqk (by simp [aV,bf,aH,iO]) 0 rfl (by simp [bn]) ?_
     (repeat' with_reducible first|intro _|refine rz ?_|refine ra ?_ ?_|omega|simp only [go_sem,hdk,List.length_map])
     refine ⟨(k+1,l++[(i,k - i)]),aS.aB rfl ?_ ?_,⟨by dsimp only;omega,by dsimp only;omega,?_⟩,by dsimp only;omega⟩
     ·simp only [go_sem,Int.natCast_succ]
     ·simp only [go_sem,Int.natCast_succ,List.map_append,List.map_cons,List.map_nil,Jk,hcast]
     ·show (l++[(i,k - i)])++strs is (z - (k+1)) (k+1)=_
      rw [←h3,hnx,←k3,List.append_assoc,show z - (k+1)=n - (k - i) by omega];rfl
   ·have e:k=z:=by omega
    subst e
    have hdk:decide ((k:Int)<k)=false:=by simp
    have k3':k=fU is (n+1) i:=by rw [←k3,Nat.sub_self];rfl
    (repeat' with_reducible first|intro _|refine rz ?_|refine ra ?_ ?_|omega|simp only [go_sem,hdk,List.length_map])
    refine ⟨(k+1,l++[(i,k - i)]),aS.aB rfl ?_ ?_,⟨by dsimp only;omega,by dsimp only;omega,?_⟩,by dsimp only;omega⟩
    ·simp only [go_sem,Int.natCast_succ]
    ·simp only [go_sem,Int.natCast_succ,List.map_append,List.map_cons,List.map_nil,Jk,hcast]
    ·show (l++[(i,k - i)])++strs is (k - (k+1)) (k+1)=_
     rw [←h3,hnx,←k3',List.append_assoc,show k - (k+1)=n - (k - i) by omega];rfl
 ·have e0:strs is (z - i) i=[]:=by rw [show z - i=0 by omega];unfold strs;rfl
  rw [e0,List.append_nil] at h3
  subst h3
  (repeat' with_reducible first|intro _|exact dn|refine rn ?_|refine ra ?_ ?_)
  refine eP.auto 1 ?_ rfl ?_<;>simp only [go_sem,Int.natCast_succ,Post,PG]
end Go.Fv.L
