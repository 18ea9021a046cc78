/-
  A part of the proof of the claim: walks over the program's functions and the plain laws that these need. No condition of its own.
-/
import Derived.Test.YtbdhkdcppljmnaaDoorRRpCardPart3
import Derived.Shelf.Strings.Shaped
import Derived.Test.YtbdhkdcppljmnaaDoorRRpCardPart2
import Derived.Test.YtbdhkdcppljmnaaDoorRRpCardPart1
set_option linter.unusedSimpArgs false
set_option linter.unusedVariables false
set_option linter.unnecessarySimpa false
set_option maxRecDepth 8000
/- PrintRules. -/
namespace Go.Fv.R
open Go Go.Proofs
def KL (l:List Ru):Int:=if bn l≠0 then bn l else if l.any (fun r=>decide (bG∈r.words))=true then 2 else 0
def Ob (l:List Ru):Bytes:=if KL l=0 then l.flatMap lS else []
theorem Ep (l:List Ru) {i:Nat} (h:i<l.length):(l.take (i+1)).flatMap lS=(l.take i).flatMap lS++lS (l.getD i Ru.zero):=by
 rw [List.take_succ_eq_append_getElem h,List.flatMap_append,getD_lt h];simp
theorem F9 (l:List Ru) (i:Nat):((l.take i).flatMap lS).length≤(l.flatMap lS).length:=by
 conv=>rhs;rw [←List.take_append_drop i l]
 rw [List.flatMap_append,List.length_append];omega
theorem zo (l:List Ru) {i:Nat} (h:i<l.length):(l.drop i).any (fun r=>decide (bG∈r.words))=(decide (bG∈(l.getD i Ru.zero).words) || (l.drop (i+1)).any (fun r=>decide (bG∈r.words))):=by
 rw [List.drop_eq_getElem_cons h,List.any_cons,getD_lt h]
def Ou (l:List Ru) (i:Nat):Go.Fv.S:=if i=0 then ⟨49,[(0,.ro (iC l)),(15,.ro (iC l)),(16,.int .i64 l.length),(17,.int .i64 i),(5,.ptr 0 0)],[(0,.box 41 [.raw (.pointer none),.nilS])],1⟩
 else ⟨49,[(0,.ro (iC l)),(15,.ro (iC l)),(16,.int .i64 l.length),(17,.int .i64 i),(5,.ptr 0 0)],[(0,.box 41 [.ptr 0 0,.own 1]),(1,.row 5 (.ints .u8 (aJ ((l.take i).flatMap lS))))],2⟩
theorem GX (l:List Ru) {i:Nat} (h:i=0):Ou l i=⟨49,[(0,.ro (iC l)),(15,.ro (iC l)),(16,.int .i64 l.length),(17,.int .i64 i),(5,.ptr 0 0)],[(0,.box 41 [.raw (.pointer none),.nilS])],1⟩:=if_pos h
theorem Dt (l:List Ru) {i:Nat} (h:¬i=0):Ou l i=⟨49,[(0,.ro (iC l)),(15,.ro (iC l)),(16,.int .i64 l.length),(17,.int .i64 i),(5,.ptr 0 0)],[(0,.box 41 [.ptr 0 0,.own 1]),(1,.row 5 (.ints .u8 (aJ ((l.take i).flatMap lS))))],2⟩:=if_neg h
set_option maxHeartbeats 4000000 in
theorem yP (l:List Ru) (hW:dF l) (hB:bn l=0→(l.flatMap lS).length≤1048576):aC Tryd.prog 6 [.ro (iC l)] (.tup [.str (Ob l),.int .i64 (KL l)]) []:=by
 have k0:=jW l hW
 unfold Ob
 refine aC.aO Tryd.func6 rfl (by decide) (by simp [Tryd.f6]) [.tmp 2,.tmp 3] rfl fun w0 T0 _=>?_
 simp only [Tryd.f6,aB]
 have hE:KL l=if bn l≠0 then bn l else if l.any (fun r=>decide (bG∈r.words))=true then 2 else 0:=rfl
 generalize KL l=pe at *
 by_cases h0:bn l=0
 case neg=>
  rw [if_pos h0] at hE
  have g0:(bn l=0)=False:=eq_false h0
  rw [hE,if_neg h0]
  (repeat' with_reducible first|intro _|exact dn|refine rn ?_|refine ra ?_ ?_)
  refine ah.k k0 ?_
  (repeat' with_reducible first|intro _|refine rz ?_|refine ra ?_ ?_|omega|simp only [go_sem,g0])
  refine aZ.auto 0 ?_ rfl ?_<;>simp only [go_sem,Int.natCast_succ,Post]
 rw [if_neg (fun h=>h h0)] at hE
 have hB:=hB h0
 rw [h0] at k0
 clear h0
 (repeat' with_reducible first|intro _|exact dn|refine rn ?_|refine ra ?_ ?_)
 refine ah.k k0 ?_
 (repeat' with_reducible first|intro _|refine rz ?_|refine ra ?_ ?_|omega|simp only [go_sem,List.length_map])
 refine aU.intro (Ou l) (fun i=>i≤l.length∧(l.drop i).any (fun r=>decide (bG∈r.words))=l.any (fun r=>decide (bG∈r.words))) (fun i=>l.length - i) 0 ?_ ⟨Nat.zero_le _,rfl⟩ fun i hI=>?_
 ·rw [GX l rfl]
  refine bC.aA rfl ?_ ?_<;>simp only [go_sem,Int.natCast_succ]
 obtain ⟨hi,hI⟩:=hI
 by_cases hlt:i<l.length
 case neg=>
  have e:i=l.length:=by omega
  rw [e,List.drop_length,List.any_nil] at hI
  rw [←hI,if_neg (by decide)] at hE
  have f1:((i:Int)<(l.length:Int))=False:=eq_false (by omega)
  rw [hE,if_pos rfl]
  by_cases hz:i=0
  ·have e2:l=[]:=List.eq_nil_of_length_eq_zero (by omega)
   have e3:l.flatMap lS=[]:=by rw [e2];rfl
   rw [GX l hz,e3]
   (repeat' with_reducible first|intro _|refine rz ?_|refine ra ?_ ?_|omega|simp only [go_sem,f1])
   refine ah.i [0] xW 2 ?_
   (repeat' with_reducible first|intro _|exact dn|refine rn ?_|refine ra ?_ ?_)
   refine aZ.auto 0 ?_ rfl ?_<;>simp only [go_sem,Int.natCast_succ,Post]
  ·have hpos:0<(l.flatMap lS).length:=by
    obtain ⟨r,m,rfl⟩:∃ r m,l=r::m:=by
     cases l with
     | nil=>simp at e;omega
     | cons r m=>exact ⟨r,m,rfl⟩
    rw [List.flatMap_cons,lS];simp;omega
   rw [Dt l hz,e,List.take_length]
   have k:=pI _ hpos
   generalize l.flatMap lS=B at *
   rw [e] at f1
   (repeat' with_reducible first|intro _|refine rz ?_|refine ra ?_ ?_|omega|simp only [go_sem,f1])
   refine ah.i [0,1] k 3 ?_
   (repeat' with_reducible first|intro _|exact dn|refine rn ?_|refine ra ?_ ?_)
   refine aZ.auto 0 ?_ rfl ?_<;>simp only [go_sem,Int.natCast_succ,Post]
 have he:=oI l hlt
 have f1:((i:Int)<(l.length:Int))=True:=eq_true (by omega)
 rw [zo l hlt] at hI
 have hst:=Ep l hlt
 have hle:=F9 l (i+1)
 have hle0:=F9 l i
 have hp0:i=0→(l.take i).flatMap lS=[]:=fun h=>by rw [h];rfl
 generalize l.getD i Ru.zero=r at *
 have kc:=qF r.words [99,111,100,101]
 rw [show decide (([99,111,100,101]:Bytes)∈r.words)=decide (bG∈r.words) from rfl] at kc
 have hpr:lS r=r.kind++[58]++nN r.words++(if r.code=[] then [] else 32::bG++32::r.code)++[10]:=rfl
 rw [hpr] at hst
 have hln:=congrArg List.length hst
 simp only [List.length_append] at hln
 generalize hP:(l.take i).flatMap lS=P at *
 generalize hR:(l.take (i+1)).flatMap lS=R at *
 by_cases hcw:bG∈r.words
 ·rw [decide_eq_true hcw] at kc hI
  rw [Bool.true_or] at hI
  rw [←hI,if_pos rfl] at hE
  rw [hE,if_neg (by decide)]
  by_cases hz:i=0
  ·rw [GX l hz]
   (repeat' with_reducible first|intro _|refine rz ?_|refine ra ?_ ?_|omega|simp only [go_sem,f1,he])
   refine ah.k kc ?_
   (repeat' with_reducible first|intro _|exact dn|refine rn ?_|refine ra ?_ ?_)
   refine aZ.auto 0 ?_ rfl ?_<;>simp only [go_sem,Int.natCast_succ,Post]
  ·rw [Dt l hz,hP]
   (repeat' with_reducible first|intro _|refine rz ?_|refine ra ?_ ?_|omega|simp only [go_sem,f1,he])
   refine ah.k kc ?_
   (repeat' with_reducible first|intro _|exact dn|refine rn ?_|refine ra ?_ ?_)
   refine aZ.auto 0 ?_ rfl ?_<;>simp only [go_sem,Int.natCast_succ,Post]
 rw [decide_eq_false hcw] at kc hI
 rw [Bool.false_or] at hI
 have hsl:=LG r.words
 have kw1:=zl (r.kind++[58]) (by rw [List.length_append];omega)
 have kw2:=dH P (r.kind++[58]) (by omega) (by rw [List.length_append];omega)
 have hj:∃ i1:Nat,(i:Int)+1=i1∧i1=i+1:=⟨i+1,by omega,rfl⟩
 by_cases hz:i=0
 case' pos=>
  rw [show aJ (r.kind++[58])=aJ (P++(r.kind++[58])) by rw [hp0 hz,List.nil_append]] at kw1
  rw [GX l hz]
  (repeat' with_reducible first|intro _|refine rz ?_|refine ra ?_ ?_|omega|simp only [go_sem,f1,he])
  refine ah.k kc ?_
  (repeat' with_reducible first|intro _|exact dn|refine rn ?_|refine ra ?_ ?_)
  refine ah.i [0] kw1 3 ?_
  (repeat' with_reducible first|intro _|exact dn|refine rn ?_|refine ra ?_ ?_)
 case' neg=>
  rw [Dt l hz,hP]
  (repeat' with_reducible first|intro _|refine rz ?_|refine ra ?_ ?_|omega|simp only [go_sem,f1,he])
  refine ah.k kc ?_
  (repeat' with_reducible first|intro _|exact dn|refine rn ?_|refine ra ?_ ?_)
  refine ah.i [0,1] kw2 3 ?_
  (repeat' with_reducible first|intro _|exact dn|refine rn ?_|refine ra ?_ ?_)
 all_goals
  clear kw1 kw2 kc k0 hcw
  have hQ0:∃ Q,Q=P++(r.kind++[58]):=⟨_,rfl⟩
  obtain ⟨Q,hQ⟩:=hQ0
  have hQl:=congrArg List.length hQ
  rw [List.length_append,List.length_append,List.length_singleton] at hQl
  rw [List.length_singleton] at hln
  refine aU.intro (fun j:Nat=>⟨49,[(0,.ro (iC l)),(15,.ro (iC l)),(16,.int .i64 l.length),(17,.int .i64 i),(5,.ptr 0 0),(7,.ptr 2 0),(29,.ro (.strs r.words)),(30,.int .i64 r.words.length),(31,.int .i64 j)],[(0,.box 41 [.ptr 0 0,.own 1]),(1,.row 5 (.ints .u8 (aJ (Q++nN (r.words.take j))))),(2,.box 36 [.str r.kind,.ro (.strs r.words),.str r.code])],3⟩) (fun j=>j≤r.words.length) (fun j=>r.words.length - j) 0 ?_ (Nat.zero_le _) fun j hjl=>?_
  ·refine bC.aA rfl ?_ ?_<;>simp only [go_sem,Int.natCast_succ]
   all_goals simp [nN,hQ]
  by_cases hjt:j<r.words.length
  ·have g1:((j:Int)<(r.words.length:Int))=True:=eq_true (by omega)
   have hsw:=EI r.words hjt
   have hsw1:=hsl (j+1)
   have hsw2:=congrArg List.length hsw
   rw [List.length_append,List.length_cons] at hsw2
   generalize hx:r.words.getD j []=x at *
   have k2:=dH (Q++nN (r.words.take j)) (32::x) (by simp only [List.length_append];omega) (by simp only [List.length_append,List.length_cons,List.length_nil];omega)
   rw [show Q++nN (r.words.take j)++(32::x)=Q++nN (r.words.take (j+1)) by rw [hsw];simp [List.append_assoc]] at k2
   generalize hs1:nN (r.words.take (j+1))=sw1 at *
   generalize nN (r.words.take j)=sw at *
   generalize hq1:Q++sw1=q1 at *
   (repeat' with_reducible first|intro _|refine rz ?_|refine ra ?_ ?_|omega|simp only [go_sem,g1,eu,hx])
   refine ah.i [0,1] k2 3 ?_
   (repeat' with_reducible first|intro _|exact dn|refine rn ?_|refine ra ?_ ?_)
   refine ⟨j+1,bC.aA rfl ?_ ?_,by omega,by omega⟩<;>simp only [go_sem,Int.natCast_succ,hs1,hq1]
  have ej:j=r.words.length:=by omega
  have g1:((j:Int)<(r.words.length:Int))=False:=eq_false (by omega)
  rw [show r.words.take j=r.words by rw [ej,List.take_length]]
  by_cases hcd:r.code=[]
  ·have g2:(r.code=[])=True:=eq_true hcd
   rw [if_pos hcd,List.append_nil] at hst
   rw [if_pos hcd] at hln
   have k3:=dH (Q++nN r.words) [10] (by simp only [List.length_append];omega) (by decide)
   rw [show Q++nN r.words++[10]=R by rw [hst,hQ];simp [List.append_assoc]] at k3
   generalize Q++nN r.words=A at *
   (repeat' with_reducible first|intro _|refine rz ?_|refine ra ?_ ?_|omega|simp only [go_sem,g1,g2])
   refine ah.i [0,1] k3 3 ?_
   (repeat' with_reducible first|intro _|exact dn|refine rn ?_|refine ra ?_ ?_)
   refine ⟨i+1,?_,⟨by omega,hI⟩,by omega⟩
   rw [Dt l (by omega),hR]
   refine bC.aA rfl ?_ ?_<;>simp only [go_sem,Int.natCast_succ]
  ·have g2:(r.code=[])=False:=eq_false hcd
   rw [if_neg hcd] at hst hln
   simp only [List.length_append,List.length_cons] at hln
   have k2:=dH (Q++nN r.words) (32::99::111::100::101::32::r.code) (by simp only [List.length_append];omega) (by simp only [List.length_append,List.length_cons,List.length_nil];omega)
   have k3:=dH (Q++nN r.words++(32::99::111::100::101::32::r.code)) [10] (by simp only [List.length_append,List.length_cons,List.length_nil];omega) (by decide)
   rw [show Q++nN r.words++(32::99::111::100::101::32::r.code)++[10]=R by rw [hst,hQ];simp [List.append_assoc,bG]] at k3
   generalize Q++nN r.words=A at *
   generalize hA2:A++(32::99::111::100::101::32::r.code)=A2 at *
   (repeat' with_reducible first|intro _|refine rz ?_|refine ra ?_ ?_|omega|simp only [go_sem,g1,g2])
   refine ah.i [0,1] k2 3 ?_
   (repeat' with_reducible first|intro _|exact dn|refine rn ?_|refine ra ?_ ?_)
   refine ah.i [0,3] k3 3 ?_
   (repeat' with_reducible first|intro _|exact dn|refine rn ?_|refine ra ?_ ?_)
   refine ⟨i+1,?_,⟨by omega,hI⟩,by omega⟩
   rw [Dt l (by omega),hR]
   refine bC.aA rfl ?_ ?_<;>simp only [go_sem,Int.natCast_succ]
end Go.Fv.R
/- Rules without error can be read back; how long they are as a text. -/
namespace Go.Fv.R
open Go Go.Proofs
theorem uP {l:List Ru} (h:bn l=0):l.length≤100∧∀ r,r∈l→dY r=0:=by
 unfold bn at h
 split at h
 ·cases h
 ·exact ⟨by omega,fun r hr=>jX h _ (List.mem_map_of_mem hr)⟩
theorem xO {r:Ru} (h:dY r=0):eH r.kind=true∧r.words.length≤20∧r.words.all dJ=true∧codeOk r.code=true∧¬(r.words=[]∧r.code=[]):=by
 have hz:=jX h
 have h1:=hz (if eH r.kind=true then 0 else 5) (by simp)
 have h2:=hz (if 20<r.words.length then 4 else 0) (by simp)
 have h3:=hz (if r.words.all dJ=true then 0 else 2) (by simp)
 have h4:=hz (if codeOk r.code=true then 0 else 2) (by simp)
 have h5:=hz (if r.words=[]∧r.code=[] then 9 else 0) (by simp)
 refine ⟨?_,?_,?_,?_,?_⟩
 ·split at h1
  ·assumption
  ·cases h1
 ·split at h2
  ·cases h2
  ·omega
 ·split at h3
  ·assumption
  ·cases h3
 ·split at h4
  ·assumption
  ·cases h4
 ·split at h5
  ·cases h5
  ·assumption
theorem O7 {p:UInt8→Bool} {c:UInt8} {s:Bytes} (h:s.all p=true) (hc:p c=false):c∉s:=fun hm=>by
 have:=List.all_eq_true.1 h c hm
 rw [hc] at this;cases this
theorem uF {w:Bytes} (h:eG w=true):w≠[]∧w.length≤40∧yI (w.headD 0)=true∧yI (w.getLastD 0)=true∧w.all fV=true:=by
 unfold eG at h
 simp only [Bool.and_eq_true,decide_eq_true_eq] at h
 obtain ⟨⟨⟨⟨h1,h2⟩,h3⟩,h4⟩,h5⟩:=h
 exact ⟨h1,h2,h3,h4,h5⟩
theorem Jy {w:Bytes} (h:dJ w=true) (hc:w≠bG):P9 w∧w.length≤40:=by
 unfold dJ at h
 rw [Bool.and_eq_true] at h
 obtain ⟨h1,h2,_,_,h3⟩:=uF h.1
 exact ⟨⟨h1,O7 h3 (by decide),O7 h3 (by decide),hc⟩,h2⟩
theorem Lh {r:Ru} (h:dY r=0) (hc:bG∉r.words):Pm r:=by
 obtain ⟨h1,h2,h3,h4,h5⟩:=xO h
 unfold eH at h1
 simp only [Bool.and_eq_true,decide_eq_true_eq] at h1
 obtain ⟨⟨⟨n1,n2⟩,_⟩,n3⟩:=h1
 unfold codeOk at h4
 rw [Bool.and_eq_true] at h4
 refine ⟨⟨n1,O7 n3 (by decide),O7 n3 (by decide),O7 n3 (by decide)⟩,fun w hw=>(Jy (List.all_eq_true.1 h3 w hw) fun e=>hc (e▸hw)).1,O7 h4.2 (by decide),?_⟩
 by_cases e:r.words=[]
 ·exact .inr fun e2=>h5 ⟨e,e2⟩
 ·exact .inl e
theorem DJ (l:List Bytes) (k:Nat) (h:∀ w,w∈l→w.length≤k):l.flatten.length≤k*l.length:=by
 induction l with
 | nil=>simp
 | cons x l ih=>
  have h1:=h x (.head _)
  have h2:=ih fun w hw=>h w (.tail _ hw)
  rw [List.flatten_cons,List.length_append,List.length_cons,Nat.mul_succ];omega
theorem Ns {r:Ru} (h:dY r=0):(lS r).length≤1000:=by
 obtain ⟨h1,h2,h3,h4,h5⟩:=xO h
 unfold eH at h1
 simp only [Bool.and_eq_true,decide_eq_true_eq] at h1
 unfold codeOk at h4
 simp only [Bool.and_eq_true,decide_eq_true_eq] at h4
 have hw:=DJ r.words 40 fun w hw=>by
  have:=List.all_eq_true.1 h3 w hw
  unfold dJ at this
  rw [Bool.and_eq_true] at this
  exact (uF this.1).2.1
 have hs:=oJ r.words
 have e:lS r=r.kind++[58]++nN r.words++(if r.code=[] then [] else 32::bG++32::r.code)++[10]:=rfl
 have hc:(if r.code=[] then [] else 32::bG++32::r.code).length≤86:=by
  split
  ·simp
  ·simp only [List.length_append,List.length_cons,bG,List.length_nil];omega
 have:=congrArg List.length e
 simp only [List.length_append,List.length_singleton] at this
 omega
theorem Bq {l:List Ru} (h:bn l=0):(l.flatMap lS).length≤1048576:=by
 obtain ⟨h1,h2⟩:=uP h
 have:∀ k:List Ru,(∀ r,r∈k→dY r=0)→(k.flatMap lS).length≤1000*k.length:=by
  intro k
  induction k with
  | nil=>simp
  | cons x k ih=>
   intro hk
   have a1:=Ns (hk x (.head _))
   have a2:=ih fun r hr=>hk r (.tail _ hr)
   rw [List.flatMap_cons,List.length_append,List.length_cons,Nat.mul_succ];omega
 have:=this l h2
 omega
theorem KN {l:List Ru} (h:KL l=0):bn l=0∧∀ r,r∈l→Pm r:=by
 unfold KL at h
 split at h
 ·rename_i h1;exact absurd h h1
 ·rename_i h1
  have h0:bn l=0:=by simpa using h1
  split at h
  ·cases h
  ·rename_i h2
   refine ⟨h0,fun r hr=>Lh ((uP h0).2 r hr) fun hc=>h2 ?_⟩
   rw [List.any_eq_true]
   exact ⟨r,hr,decide_eq_true hc⟩
end Go.Fv.R
/- The reference's PrintSortRules. -/
namespace Go.Fv.R
open Go Go.Proofs
theorem EH (ws:List Bytes):ws.flatten.length≤(nN ws).length:=by rw [oJ];omega
set_option maxHeartbeats 4000000 in
theorem Bv (l:List Ru) (hW:dF l) (hB:bn l=0→(l.flatMap lS).length≤1048576):aC Tryd.prog 7 [.ro (iC l)] (.tup [.str (Ob l),.int .i64 (KL l)]) []:=by
 have k0:=iJ l hW
 unfold Ob
 refine aC.aO Tryd.func7 rfl (by decide) (by simp [Tryd.f7]) [.tmp 2,.tmp 3] rfl fun w0 T0 _=>?_
 simp only [Tryd.f7,aB]
 have hE:KL l=if bn l≠0 then bn l else if l.any (fun r=>decide (bG∈r.words))=true then 2 else 0:=rfl
 generalize KL l=pe at *
 by_cases h0:bn l=0
 case neg=>
  rw [if_pos h0] at hE
  have g0:(bn l=0)=False:=eq_false h0
  rw [hE,if_neg h0]
  (repeat' with_reducible first|intro _|exact dn|refine rn ?_|refine ra ?_ ?_)
  refine ah.k k0 ?_
  (repeat' with_reducible first|intro _|refine rz ?_|refine ra ?_ ?_|omega|simp only [go_sem,g0])
  refine aZ.auto 0 ?_ rfl ?_<;>simp only [go_sem,Int.natCast_succ,Post]
 rw [if_neg (fun h=>h h0)] at hE
 have hB:=hB h0
 rw [h0] at k0
 clear h0
 (repeat' with_reducible first|intro _|exact dn|refine rn ?_|refine ra ?_ ?_)
 refine ah.k k0 ?_
 (repeat' with_reducible first|intro _|refine rz ?_|refine ra ?_ ?_|omega|simp only [go_sem,List.length_map])
 refine aU.intro (fun i:Nat=>⟨45,[(0,.ro (iC l)),(14,.ro (iC l)),(15,.int .i64 l.length),(16,.int .i64 i),(5,.str ((l.take i).flatMap lS))],[],0⟩) (fun i=>i≤l.length∧(l.drop i).any (fun r=>decide (bG∈r.words))=l.any (fun r=>decide (bG∈r.words))) (fun i=>l.length - i) 0 ?_ ⟨Nat.zero_le _,rfl⟩ fun i hI=>?_
 ·refine bC.aA rfl ?_ ?_<;>simp only [go_sem,Int.natCast_succ,List.flatMap_nil]
 obtain ⟨hi,hI⟩:=hI
 by_cases hlt:i<l.length
 case neg=>
  have e:i=l.length:=by omega
  rw [e,List.drop_length,List.any_nil] at hI
  rw [←hI,if_neg (by decide)] at hE
  have f1:((i:Int)<(l.length:Int))=False:=eq_false (by omega)
  rw [hE,if_pos rfl]
  rw [e] at f1 ⊢
  rw [List.take_length]
  generalize l.flatMap lS=B at *
  (repeat' with_reducible first|intro _|refine rz ?_|refine ra ?_ ?_|omega|simp only [go_sem,f1])
  refine aZ.auto 0 ?_ rfl ?_<;>simp only [go_sem,Int.natCast_succ,Post]
 have he:=oI l hlt
 have f1:((i:Int)<(l.length:Int))=True:=eq_true (by omega)
 rw [zo l hlt] at hI
 have hst:=Ep l hlt
 have hle:=F9 l (i+1)
 generalize l.getD i Ru.zero=r at *
 have kc:=qF r.words [99,111,100,101]
 rw [show decide (([99,111,100,101]:Bytes)∈r.words)=decide (bG∈r.words) from rfl] at kc
 have hpr:lS r=r.kind++[58]++nN r.words++(if r.code=[] then [] else 32::bG++32::r.code)++[10]:=rfl
 have hln:=congrArg List.length hst
 rw [List.length_append,hpr] at hln
 simp only [List.length_append,List.length_singleton] at hln
 have hfl:=EH r.words
 have hwl:=oJ r.words
 generalize hP:(l.take i).flatMap lS=P at *
 generalize hR:(l.take (i+1)).flatMap lS=R at *
 by_cases hcw:bG∈r.words
 ·rw [decide_eq_true hcw] at kc hI
  rw [Bool.true_or] at hI
  rw [←hI,if_pos rfl] at hE
  rw [hE,if_neg (by decide)]
  (repeat' with_reducible first|intro _|refine rz ?_|refine ra ?_ ?_|omega|simp only [go_sem,f1,he])
  refine ah.k kc ?_
  (repeat' with_reducible first|intro _|exact dn|refine rn ?_|refine ra ?_ ?_)
  refine aZ.auto 0 ?_ rfl ?_<;>simp only [go_sem,Int.natCast_succ,Post]
 rw [decide_eq_false hcw] at kc hI
 rw [Bool.false_or] at hI
 by_cases hcd:r.code=[]
 ·have g2:(r.code=[])=True:=eq_true hcd
  rw [if_pos hcd] at hpr hln
  rw [List.append_nil] at hpr
  have kj:=DV ((r.kind++[58])::r.words) (by simp only [List.flatten_cons,List.length_append,List.length_singleton];simp only [List.length_append,List.length_nil] at *;omega) (by simp only [List.length_cons];simp only [List.length_append,List.length_nil] at *;omega)
  have hjl:joinL ((r.kind++[58])::r.words)++[10]=lS r:=by rw [hpr];rfl
  have hjn:=congrArg List.length (hst.trans (congrArg (P++·) hjl.symm))
  simp only [List.length_append,List.length_singleton] at hjn
  generalize joinL ((r.kind++[58])::r.words)=J at *
  (repeat' with_reducible first|intro _|refine rz ?_|refine ra ?_ ?_|omega|simp only [go_sem,f1,he,g2])
  refine ah.k kc ?_
  (repeat' with_reducible first|intro _|refine rz ?_|refine ra ?_ ?_|omega|simp only [go_sem,he,g2])
  refine ah.o kj 0 ?_
  (repeat' with_reducible first|intro _|exact dn|refine rn ?_|refine ra ?_ ?_)
  refine ⟨i+1,bC.aA rfl ?_ ?_,⟨by omega,hI⟩,by omega⟩<;>simp only [go_sem,Int.natCast_succ,hR,hst,hjl]
  all_goals trace_state
 ·have g2:(r.code=[])=False:=eq_false hcd
  rw [if_neg hcd] at hpr hln
  simp only [List.length_append,List.length_cons] at hln
  have kj:=DV ((r.kind++[58])::(r.words++[[99,111,100,101],r.code])) (by simp only [List.flatten_cons,List.flatten_append,List.flatten_nil,List.length_append,List.length_singleton,List.length_cons,List.length_nil];omega) (by simp only [List.length_cons,List.length_append,List.length_nil];omega)
  have hjl:joinL ((r.kind++[58])::(r.words++[[99,111,100,101],r.code]))++[10]=lS r:=by rw [hpr];simp [joinL,nN,bG]
  have hjn:=congrArg List.length (hst.trans (congrArg (P++·) hjl.symm))
  simp only [List.length_append,List.length_singleton] at hjn
  generalize joinL ((r.kind++[58])::(r.words++[[99,111,100,101],r.code]))=J at *
  (repeat' with_reducible first|intro _|refine rz ?_|refine ra ?_ ?_|omega|simp only [go_sem,f1,he,g2])
  refine ah.k kc ?_
  (repeat' with_reducible first|intro _|refine rz ?_|refine ra ?_ ?_|omega|simp only [go_sem,he,g2])
  refine ah.o kj 0 ?_
  (repeat' with_reducible first|intro _|exact dn|refine rn ?_|refine ra ?_ ?_)
  refine ⟨i+1,bC.aA rfl ?_ ?_,⟨by omega,hI⟩,by omega⟩<;>simp only [go_sem,Int.natCast_succ,hR,hst,hjl]
  all_goals trace_state
end Go.Fv.R
/- Where a byte stands, and where ': ' stands. -/
namespace Go.Fv.R
open Go Go.Proofs
theorem Dj (c x:UInt8) (s:Bytes):cZ c (x::s)=if x=c then [] else x::cZ c s:=by
 unfold cZ
 rw [List.takeWhile_cons]
 by_cases h:x=c<;>simp [h]
theorem JD (c x:UInt8) (s:Bytes):fE c (x::s)=if x=c then x::s else fE c s:=by
 unfold fE
 rw [List.dropWhile_cons]
 by_cases h:x=c<;>simp [h]
theorem AY (c:UInt8):∀ s:Bytes,Lib.index s [c]=if c∈s then ((cZ c s).length:Int) else -1
 | []=>by simp [Lib.index]
 | x::s=>by
  have ih:=AY c s
  unfold Lib.index
  rw [Dj]
  by_cases h:x=c
  ·subst h;simp
  ·have h2:([c].isPrefixOf (x::s))=false:=by
    simp only [List.isPrefixOf,Bool.and_true]
    simpa using fun e=>h e.symm
   rw [h2,ih]
   have h3:c∈x::s↔c∈s:=by rw [List.mem_cons];exact ⟨fun e=>e.resolve_left fun e=>h e.symm,.inr⟩
   rw [if_neg h]
   by_cases hm:c∈s
   ·rw [if_pos hm,if_pos (h3.2 hm)]
    simp only [Bool.false_eq_true,if_false]
    rw [if_neg (by simp<;>omega),List.length_cons];rfl
   ·rw [if_neg hm,if_neg (fun e=>hm (h3.1 e))]
    simp
theorem oD (c:UInt8) (s:Bytes):c∈s↔fE c s≠[]:=by
 constructor
 ·intro h e
  have h1:=dW c s
  rw [e,List.append_nil] at h1
  rw [←h1] at h
  exact Fh c s h
 ·intro h
  rcases nX c s with e|⟨t,e⟩
  ·exact absurd e h
  ·rw [←dW c s,e];simp
theorem xX (c:UInt8) (s:Bytes):s.take (cZ c s).length=cZ c s:=by
 conv=>lhs;rw [←dW c s]
 exact List.take_left' (by rw [dW])
theorem qJ (c:UInt8) (s:Bytes):s.drop (cZ c s).length=fE c s:=by
 conv=>lhs;rw [←dW c s]
 exact List.drop_left' (by rw [dW])
theorem JU {c x:UInt8} {s t:Bytes} (h:fE c s=x::t):s.drop ((cZ c s).length+1)=t:=by
 rw [←List.drop_drop,qJ,h];rfl
theorem J8:∀ s:Bytes,(∃ m,fE 58 s=58::32::m∧Lib.index s [58,32]=((cZ 58 s).length:Int))∨((∀ x m,fE 58 s≠x::32::m)∧(Lib.index s [58,32]=-1∨∃ k:Nat,Lib.index s [58,32]=k∧k≤s.length∧58∈s.take k))
 | []=>.inr ⟨fun x m e=>(by cases e),.inl rfl⟩
 | x::s=>by
  have ih:=J8 s
  unfold Lib.index
  rw [Dj,JD]
  by_cases h:x=58
  ·subst h
   rw [if_pos rfl,if_pos rfl]
   cases s with
   | nil=>exact .inr ⟨fun x m e=>(by cases e),.inl (by decide)⟩
   | cons y s=>
    by_cases hy:y=32
    ·subst hy
     exact .inl ⟨s,rfl,by simp⟩
    ·refine .inr ⟨fun x m e=>(by cases e;exact hy rfl),?_⟩
     have hp:(([58,32]:Bytes).isPrefixOf (58::y::s))=false:=by
      have e1:((32:UInt8) == y)=false:=by simpa using fun e=>hy e.symm
      simp [List.isPrefixOf,e1]
     rw [hp]
     have hge:=Lib.index_ge (y::s) [58,32]
     have hle:=Lib.index_le (y::s) [58,32]
     by_cases hn:Lib.index (y::s) [58,32]=-1
     ·exact .inl (by simp [hn])
     ·refine .inr ⟨(Lib.index (y::s) [58,32]).toNat+1,?_,?_,by simp⟩
      ·simp only [Bool.false_eq_true,if_false]
       rw [if_neg (by simpa using hn)];omega
      ·simp only [List.length_cons] at *;omega
  ·rw [if_neg h,if_neg h]
   have hp:(([58,32]:Bytes).isPrefixOf (x::s))=false:=by
    have e1:((58:UInt8) == x)=false:=by simpa using fun e=>h e.symm
    simp [List.isPrefixOf,e1]
   rw [hp]
   simp only [Bool.false_eq_true,if_false]
   rcases ih with ⟨m,h1,h2⟩|⟨h1,h2⟩
   ·refine .inl ⟨m,h1,?_⟩
    rw [h2,if_neg (by simp<;>omega),List.length_cons];omega
   ·refine .inr ⟨h1,?_⟩
    rcases h2 with h2|⟨k,h2,h3,h4⟩
    ·exact .inl (by simp [h2])
    ·refine .inr ⟨k+1,?_,by simp only [List.length_cons];omega,?_⟩
     ·rw [h2,if_neg (by simp<;>omega)];omega
     ·rw [List.take_succ_cons];exact .tail _ h4
end Go.Fv.R
/- strings.Cut, Contains, HasPrefix, CutPrefix; slices.Contains of texts. -/
namespace Go.Proofs
open Go.Shelf
def Tryd.uI:Go.Shelf.Ren:=⟨fun|219=>58|217=>74|225=>75|224=>76|267=>77|266=>85|314=>86|n=>n,fun|9=>9|3=>3|4=>4|5=>5|46=>96|146=>100|51=>99|n=>n,fun|1=>0|n=>n⟩
theorem Tryd.lays219:Go.Proofs.LaysM.n219 Tryd.prog Tryd.uI:={
 mixed:=by kernel_rfl
 f217:=Tryd.func74.trans (congrArg some (by kernel_rfl))
 f219:=Tryd.func58.trans (congrArg some (by kernel_rfl))
 f224:=Tryd.func76.trans (congrArg some (by kernel_rfl))
 f225:=Tryd.func75.trans (congrArg some (by kernel_rfl))
 f266:=Tryd.func85.trans (congrArg some (by kernel_rfl))
 f267:=Tryd.func77.trans (congrArg some (by kernel_rfl))
 f314:=Tryd.func86.trans (congrArg some (by kernel_rfl))
 t3:=Tryd.underlying3
 a3:=Tryd.isAgg3
 z3:=Tryd.sizeOf3
 v3:=Tryd.zeroValue3
 t4:=Tryd.underlying4
 a4:=Tryd.isAgg4
 z4:=Tryd.sizeOf4
 v4:=Tryd.zeroValue4
 t5:=Tryd.underlying5
 a5:=Tryd.isAgg5
 z5:=Tryd.sizeOf5
 v5:=Tryd.zeroValue5
 t9:=Tryd.underlying9
 a9:=Tryd.isAgg9
 z9:=Tryd.sizeOf9
 v9:=Tryd.zeroValue9
 t46:=Tryd.underlying96
 a46:=Tryd.isAgg96
 z46:=Tryd.sizeOf96
 v46:=Tryd.zeroValue96
 t51:=Tryd.underlying99
 a51:=Tryd.isAgg99
 z51:=Tryd.sizeOf99
 v51:=Tryd.zeroValue99
 t146:=Tryd.underlying100
 a146:=Tryd.isAgg100
 z146:=Tryd.sizeOf100
 v146:=Tryd.zeroValue100
 g1:=by kernel_rfl
 i3:=by kernel_rfl
 i4:=by kernel_rfl
 i5:=by kernel_rfl
 i9:=by kernel_rfl
 i46:=by kernel_rfl
 i51:=by kernel_rfl
 i146:=by kernel_rfl
 m1:=by kernel_rfl
 s1_3:=fun w h=>Go.Proofs.cell_of_shapedOpen_int (zero:=#[.int .i64 0]) (t:=3) h (of_decide_eq_true (by kernel_rfl)) (by kernel_rfl) rfl (by kernel_rfl) (by kernel_rfl) Tryd.underlying3 }
end Go.Proofs
namespace Go.Fv.R
open Go Go.Proofs
theorem IW (s t:List UInt8) (hs:s.length≤100000000):aC Tryd.prog 58 [.str s,.str t] (.int .i64 (Lib.index s t)) []:=by
 refine ⟨⟨_,Tryd.func58,by kernel_rfl,by kernel_rfl⟩,fun w T vals hg hv=>?_⟩
 obtain ⟨m,t0,_,hm⟩:=hg.int (g:=0) (k:=.i64) (by kernel_rfl)
 cases hv with
 | cons _ _ _ _ h1 hv=>cases hv with
  | cons _ _ _ _ h2 hv=>
   cases hv
   cases h1 with
   | str _ e1=>cases h2 with
    | str _ e2=>
     have L:=Tryd.lays219
     refine (Any.stringslite_Index { L with } ⟨s.toArray⟩ ⟨t.toArray⟩ m w ?_ ?_).mono ?_
     ·show s.toArray.size<4294967281
      simp;omega
     ·simp [World.cell?,Tryd.uI,hm]
     ·rintro e w' ⟨rfl,rfl⟩
      refine ⟨_,rfl,ig.refl _ _,fun _=>undef,0,?_,?_,?_⟩
      ·have h1:=Lib.index_ge s t
       have h2:=Lib.index_le s t
       have e1:IntKind.i64.min=-9223372036854775808:=by decide
       have e2:IntKind.i64.max=9223372036854775807:=by decide
       exact .int .i64 _ ⟨by rw [e1];omega,by rw [e2];omega⟩
      ·intro i it h;cases h
      ·intro i j it jt b h;cases h
theorem zI:∀ s t:Bytes,0≤Lib.index s t→Lib.index s t+t.length≤s.length
 | [],t,h=>by
  unfold Lib.index at h ⊢
  split at h
  ·rename_i e
   have:t=[]:=by simpa using e
   subst this;simp
  ·exact absurd h (by decide)
 | b::l,t,h=>by
  have ih:=zI l t
  unfold Lib.index at h ⊢
  split
  ·rename_i e
   have:=(List.isPrefixOf_iff_prefix.1 e).length_le
   omega
  ·rename_i e
   rw [if_neg e] at h
   split at h
   ·exact absurd h (by decide)
   ·rename_i e2
    rw [if_neg e2]
    have h3:Lib.index l t≠-1:=by simpa using e2
    have:=Lib.index_ge l t
    have:=ih (by omega)
    rw [List.length_cons];omega
set_option maxHeartbeats 1000000 in
theorem GY (s t:Bytes) (hs:s.length≤100000000) (ht:t.length≤100):aC Tryd.prog 18 [.str s,.str t]
  (.tup [.str (if 0≤Lib.index s t then s.take (Lib.index s t).toNat else s),.str (if 0≤Lib.index s t then s.drop ((Lib.index s t).toNat+t.length) else []),.bool (decide (0≤Lib.index s t))]) []:=by
 have k:=IW s t hs
 have h2:=Lib.index_le s t
 have kc:aC Tryd.prog 39 [.str s,.str t]
  (.tup [.str (if 0≤Lib.index s t then s.take (Lib.index s t).toNat else s),.str (if 0≤Lib.index s t then s.drop ((Lib.index s t).toNat+t.length) else []),.bool (decide (0≤Lib.index s t))]) []:=by
  refine aC.aO Tryd.func39 rfl (by decide) (by simp [Tryd.f39]) [.tmp 4,.tmp 5,.tmp 6] rfl fun w0 T0 _=>?_
  simp only [Tryd.f39,aB]
  have hfit:=zI s t
  generalize Lib.index s t=q at *
  (repeat' with_reducible first|intro _|exact dn|refine rn ?_|refine ra ?_ ?_)
  refine ah.k k ?_
  by_cases h:0≤q
  ·have g:(0≤q)=True:=eq_true h
   obtain ⟨n,rfl⟩:∃ n:Nat,q=n:=⟨q.toNat,by omega⟩
   rw [if_pos h,if_pos h,decide_eq_true h,Int.toNat_natCast]
   have hf:=hfit (by omega)
   have g2:((n:Int)≤(s.length:Int))=True:=eq_true (by omega)
   have e1:((n:Int)+(t.length:Int))=((n+t.length:Nat):Int):=by omega
   have g3:(((n+t.length:Nat):Int)≤(s.length:Int))=True:=eq_true (by omega)
   have e2:(s.drop (n+t.length)).take (s.length - (n+t.length))=s.drop (n+t.length):=List.take_of_length_le (by rw [List.length_drop];exact Nat.le_refl _)
   (repeat' with_reducible first|intro _|exact dn|refine rn ?_|refine ra ?_ ?_)
   refine dN.lex [] [] (by kernel_rfl) (by kernel_rfl) ?_
   (repeat' with_reducible first|intro _|refine rz ?_|refine ra ?_ ?_|omega|simp only [go_sem,g2,e1,g3,e2,Nat.sub_zero])
   refine aZ.auto 0 ?_ rfl ?_<;>simp only [go_sem,Int.natCast_succ,Post]
  ·have g:(0≤q)=False:=eq_false h
   rw [if_neg h,if_neg h,decide_eq_false h]
   (repeat' with_reducible first|intro _|refine rz ?_|refine ra ?_ ?_|omega|simp only [go_sem,g])
   refine aZ.auto 0 ?_ rfl ?_<;>simp only [go_sem,Int.natCast_succ,Post]
 refine aC.aO Tryd.func18 rfl (by decide) (by simp [Tryd.f18]) [.tmp 4,.tmp 5,.tmp 6] rfl fun w0 T0 _=>?_
 simp only [Tryd.f18,aB]
 (repeat' with_reducible first|intro _|exact dn|refine rn ?_|refine ra ?_ ?_)
 refine ah.k kc ?_
 (repeat' with_reducible first|intro _|exact dn|refine rn ?_|refine ra ?_ ?_)
 refine aZ.auto 0 ?_ rfl ?_<;>simp only [go_sem,Int.natCast_succ,Post]
end Go.Fv.R
/- Small functions on texts, at the separators that rules have. -/
namespace Go.Fv.R
open Go Go.Proofs
theorem vH (s:Bytes) (c:UInt8) (hs:s.length≤100000000):aC Tryd.prog 18 [.str s,.str [c]] (.tup [.str (cZ c s),.str ((fE c s).drop 1),.bool (decide (c∈s))]) []:=by
 have k:=GY s [c] hs (by simp)
 rw [AY] at k
 by_cases h:c∈s
 ·rw [if_pos h] at k
  rw [if_pos (by omega),if_pos (by omega),Int.toNat_natCast,xX,decide_eq_true (by omega:(0:Int)≤((cZ c s).length:Int))] at k
  rw [decide_eq_true h,←qJ,List.drop_drop]
  exact k
 ·rw [if_neg h,if_neg (by omega),if_neg (by omega),decide_eq_false (by omega)] at k
  obtain ⟨h1,h2⟩:=GV h
  rw [decide_eq_false h,h1,h2]
  exact k
theorem AB (s:Bytes) (c:UInt8) (hs:s.length≤100000000):aC Tryd.prog 40 [.str s,.str [c]] (.bool (decide (c∈s))) []:=by
 have k:=qR s [c] hs
 rw [AY] at k
 refine aC.aO Tryd.func40 rfl (by decide) (by simp [Tryd.f40]) [.tmp 4] rfl fun w0 T0 _=>?_
 simp only [Tryd.f40,aB]
 by_cases h:c∈s
 ·rw [if_pos h] at k
  rw [decide_eq_true h]
  (repeat' with_reducible first|intro _|exact dn|refine rn ?_|refine ra ?_ ?_)
  refine ah.k k ?_
  (repeat' with_reducible first|intro _|exact dn|refine rn ?_|refine ra ?_ ?_)
  refine aZ.auto 0 ?_ rfl ?_<;>simp only [go_sem,Int.natCast_succ,Post]
  all_goals simp
 ·rw [if_neg h] at k
  rw [decide_eq_false h]
  (repeat' with_reducible first|intro _|exact dn|refine rn ?_|refine ra ?_ ?_)
  refine ah.k k ?_
  (repeat' with_reducible first|intro _|exact dn|refine rn ?_|refine ra ?_ ?_)
  refine aZ.auto 0 ?_ rfl ?_<;>simp only [go_sem,Int.natCast_succ,Post]
def preB (p s:Bytes):Bool:=decide (p.length≤s.length∧s.take p.length=p)
theorem wW (s p:Bytes):aC Tryd.prog 60 [.str s,.str p] (.bool (preB p s)) []:=by
 unfold preB
 refine aC.aO Tryd.func60 rfl (by decide) (by simp [Tryd.f60]) [.tmp 4] rfl fun w0 T0 _=>?_
 simp only [Tryd.f60,aB]
 by_cases h:p.length≤s.length
 ·have f1:((p.length:Int)≤(s.length:Int))=True:=eq_true (by omega)
  have f2:((s.length:Int)<(p.length:Int))=False:=eq_false (by omega)
  (repeat' with_reducible first|intro _|refine rz ?_|refine ra ?_ ?_|omega|simp only [go_sem,f1,f2,Nat.sub_zero])
  refine aZ.auto 0 ?_ rfl ?_<;>simp only [go_sem,Int.natCast_succ,Post]
  all_goals simp [h]
 ·have f1:((p.length:Int)≤(s.length:Int))=False:=eq_false (by omega)
  (repeat' with_reducible first|intro _|refine rz ?_|refine ra ?_ ?_|omega|simp only [go_sem,f1])
  refine aZ.auto 0 ?_ rfl ?_<;>simp only [go_sem,Int.natCast_succ,Post]
  all_goals simp [h]
theorem IU (s p:Bytes):aC Tryd.prog 41 [.str s,.str p] (.bool (preB p s)) []:=by
 have k:=wW s p
 refine aC.aO Tryd.func41 rfl (by decide) (by simp [Tryd.f41]) [.tmp 4] rfl fun w0 T0 _=>?_
 simp only [Tryd.f41,aB]
 (repeat' with_reducible first|intro _|exact dn|refine rn ?_|refine ra ?_ ?_)
 refine ah.k k ?_
 (repeat' with_reducible first|intro _|exact dn|refine rn ?_|refine ra ?_ ?_)
 refine aZ.auto 0 ?_ rfl ?_<;>simp only [go_sem,Int.natCast_succ,Post]
theorem Iz (s p:Bytes):aC Tryd.prog 42 [.str s,.str p] (.tup [.str (if preB p s=true then s.drop p.length else s),.bool (preB p s)]) []:=by
 have k:=wW s p
 have kc:aC Tryd.prog 61 [.str s,.str p] (.tup [.str (if preB p s=true then s.drop p.length else s),.bool (preB p s)]) []:=by
  refine aC.aO Tryd.func61 rfl (by decide) (by simp [Tryd.f61]) [.tmp 4,.tmp 5] rfl fun w0 T0 _=>?_
  simp only [Tryd.f61,aB]
  by_cases h:preB p s=true
  ·have hl:p.length≤s.length:=by unfold preB at h;exact (of_decide_eq_true h).1
   have f1:((p.length:Int)≤(s.length:Int))=True:=eq_true (by omega)
   have e2:(s.drop p.length).take (s.length - p.length)=s.drop p.length:=List.take_of_length_le (by rw [List.length_drop];exact Nat.le_refl _)
   rw [h] at k ⊢
   rw [if_pos rfl]
   (repeat' with_reducible first|intro _|exact dn|refine rn ?_|refine ra ?_ ?_)
   refine ah.k k ?_
   (repeat' with_reducible first|intro _|refine rz ?_|refine ra ?_ ?_|omega|simp only [go_sem,f1,e2])
   refine aZ.auto 0 ?_ rfl ?_<;>simp only [go_sem,Int.natCast_succ,Post]
  ·have h':preB p s=false:=by simpa using h
   rw [h'] at k ⊢
   rw [if_neg (by decide)]
   (repeat' with_reducible first|intro _|exact dn|refine rn ?_|refine ra ?_ ?_)
   refine ah.k k ?_
   (repeat' with_reducible first|intro _|exact dn|refine rn ?_|refine ra ?_ ?_)
   refine aZ.auto 0 ?_ rfl ?_<;>simp only [go_sem,Int.natCast_succ,Post]
 refine aC.aO Tryd.func42 rfl (by decide) (by simp [Tryd.f42]) [.tmp 4,.tmp 5] rfl fun w0 T0 _=>?_
 simp only [Tryd.f42,aB]
 (repeat' with_reducible first|intro _|exact dn|refine rn ?_|refine ra ?_ ?_)
 refine ah.k kc ?_
 (repeat' with_reducible first|intro _|exact dn|refine rn ?_|refine ra ?_ ?_)
 refine aZ.auto 0 ?_ rfl ?_<;>simp only [go_sem,Int.natCast_succ,Post]
end Go.Fv.R
/- A line of rules: what readRule makes of it. -/
namespace Go.Fv.R
open Go Go.Proofs
def uo:Nat→Bytes→List Bytes→List Bytes × Bytes × Bool
 | 0,_,_=>([],[],false)
 | n+1,s,acc=>
  if cZ 32 s=bG then (match fE 32 s with
   | _::c=>(acc,c,decide (c≠[]))
   | []=>(acc,bG,false))
  else if cZ 32 s=[] then (acc,[],false)
  else match fE 32 s with
   | _::t=>uo n t (acc++[cZ 32 s])
   | []=>(acc++[cZ 32 s],[],true)
theorem Ah:∀ (n m:Nat) (s:Bytes) (acc:List Bytes),s.length<n→s.length<m→uo n s acc=uo m s acc
 | 0,_,s,_,h,_=>absurd h (by omega)
 | _,0,s,_,_,h=>absurd h (by omega)
 | n+1,m+1,s,acc,h1,h2=>by
  unfold uo
  cases h:fE 32 s with
  | nil=>rfl
  | cons x t=>
   have:=pU h
   dsimp only
   rw [Ah n m t _ (by omega) (by omega)]
def nT (s:Bytes) (acc:List Bytes):List Bytes × Bytes × Bool:=uo (s.length+1) s acc
theorem NV (s:Bytes) (acc:List Bytes):nT s acc=if cZ 32 s=bG then (match fE 32 s with
   | _::c=>(acc,c,decide (c≠[]))
   | []=>(acc,bG,false))
  else if cZ 32 s=[] then (acc,[],false)
  else match fE 32 s with
   | _::t=>nT t (acc++[cZ 32 s])
   | []=>(acc++[cZ 32 s],[],true):=by
 unfold nT
 conv=>lhs;unfold uo
 cases h:fE 32 s with
 | nil=>rfl
 | cons x t=>
  have:=pU h
  dsimp only
  rw [Ah s.length (t.length+1) t _ (by omega) (by omega)]
theorem EW:∀ (n:Nat) (s:Bytes) (acc:List Bytes),NU n s acc=if (uo n s acc).2.2=true then some ((uo n s acc).1,(uo n s acc).2.1) else none
 | 0,_,_=>rfl
 | n+1,s,acc=>by
  unfold NU uo
  by_cases h1:cZ 32 s=bG
  ·rw [if_pos h1,if_pos h1]
   cases h:fE 32 s with
   | nil=>rfl
   | cons x c=>
    dsimp only
    by_cases hc:c=[]
    ·rw [if_pos hc,if_neg (by simp [hc])]
    ·rw [if_neg hc,if_pos (by simp [hc])]
  ·rw [if_neg h1,if_neg h1]
   by_cases h2:cZ 32 s=[]
   ·rw [if_pos h2,if_pos h2];rfl
   ·rw [if_neg h2,if_neg h2]
    cases h:fE 32 s with
    | nil=>rfl
    | cons x t=>exact EW n t _
def BF (s:Bytes):Ru × Bool:=match sp1 (fE 58 s) with
 | some m=>if cZ 58 s=[]∨32∈cZ 58 s then (Ru.zero,false) else (⟨cZ 58 s,(nT m []).1,(nT m []).2.1⟩,(nT m []).2.2)
 | none=>(Ru.zero,false)
theorem ND (s:Bytes):LW s=if (BF s).2=true then some (BF s).1 else none:=by
 unfold LW BF
 cases sp1 (fE 58 s) with
 | none=>rfl
 | some m=>
  dsimp only
  by_cases h:cZ 58 s=[]∨32∈cZ 58 s
  ·simp only [if_pos h];rfl
  ·simp only [if_neg h]
   rw [show CV m []=NU (m.length+1) m [] from rfl,EW,show uo (m.length+1) m []=nT m [] from rfl]
   by_cases h2:(nT m []).2.2=true
   ·rw [if_pos h2,if_pos h2];rfl
   ·rw [if_neg h2,if_neg h2];rfl
theorem Ih {x:UInt8} {s:Bytes}:(preB [32] s=true↔∃ m,s=32::m)∧(∀ m,sp1 (x::s)=some m↔s=32::m):=by
 refine ⟨?_,fun m=>?_⟩
 ·unfold preB
  rw [decide_eq_true_eq]
  cases s with
  | nil=>simp
  | cons y s=>simp
 ·cases s with
  | nil=>simp [sp1]
  | cons y s=>
   simp only [sp1]
   by_cases hy:y=32
   ·rw [if_pos hy,hy];simp
   ·rw [if_neg hy];simp [hy]
def Qs (ws:List Bytes):AV:=if ws=[] then .nilS else .own 0
def LU (ws:List Bytes):List (Nat × Item):=if ws=[] then [] else [(0,.row 9 (.strs ws))]
def Pg (k:Bytes) (x:Option Bytes × List Bytes):Go.Fv.S:=if x.2=[] then ⟨75,[(2,.ptr 0 0),(5,.str (match x.1 with|some m=>32::m|none=>[]))],[(0,.box 36 [.str k,.nilS,.str []])],1⟩
 else ⟨75,[(2,.ptr 0 0),(5,.str (match x.1 with|some m=>32::m|none=>[]))],[(0,.box 36 [.str k,.own 1,.str []]),(1,.row 9 (.strs x.2))],2⟩
theorem aC.weak {P:Program} {f:Nat} {args:List AV} {out out':AV} {rows:List (Nat × Item)} (k:aC P f args out rows) (h:fP rows out out'):aC P f args out' []:=
 ⟨k.1,fun w T vals hg hv=>Calls.mono (k.2 w T vals hg hv) fun e w' ⟨v,he,hb,ho⟩=>⟨v,he,hb,ho.ro h⟩⟩
theorem Nz (k m:Bytes):Pg k (some m,[])=⟨75,[(2,.ptr 0 0),(5,.str (32::m))],[(0,.box 36 [.str k,.nilS,.str []])],1⟩:=rfl
theorem NC (k m:Bytes) {acc:List Bytes} (h:¬acc=[]):Pg k (some m,acc)=⟨75,[(2,.ptr 0 0),(5,.str (32::m))],[(0,.box 36 [.str k,.own 1,.str []]),(1,.row 9 (.strs acc))],2⟩:=if_neg h
theorem jl:Qs []=.nilS:=rfl
theorem fJ:LU []=[]:=rfl
theorem yF {ws:List Bytes} (h:¬ws=[]):Qs ws=.own 0:=if_neg h
theorem nS {ws:List Bytes} (h:¬ws=[]):LU ws=[(0,.row 9 (.strs ws))]:=if_neg h
set_option maxHeartbeats 4000000 in
theorem BG (s:Bytes) (hs:s.length≤2000000):aC Tryd.prog 19 [.str s] (.tup [.agg [.str (BF s).1.kind,Qs (BF s).1.words,.str (BF s).1.code],.bool (BF s).2]) (LU (BF s).1.words):=by
 have kc:=vH s 58 (by omega)
 refine aC.aO Tryd.func19 rfl (by decide) (by simp [Tryd.f19]) [.cell 2 36,.tmp 3] rfl fun w0 T0 _=>?_
 simp only [Tryd.f19,aB]
 have hR:BF s=match sp1 (fE 58 s) with
  | some m=>if cZ 58 s=[]∨32∈cZ 58 s then (Ru.zero,false) else (⟨cZ 58 s,(nT m []).1,(nT m []).2.1⟩,(nT m []).2.2)
  | none=>(Ru.zero,false):=rfl
 have hbl:=congrArg List.length (dW 58 s)
 rw [List.length_append] at hbl
 have hmem:=oD 58 s
 have k1:=AB (cZ 58 s) 32 (by omega)
 have k2:=IU ((fE 58 s).drop 1) [32]
 generalize BF s=rr at *
 generalize cZ 58 s=k at *
 generalize fE 58 s=a at *
 (repeat' with_reducible first|intro _|exact dn|refine rn ?_|refine ra ?_ ?_)
 refine ah.k kc ?_
 by_cases h58:58∈s
 case neg=>
  have ha:a=[]:=by simpa using fun e=>h58 (hmem.2 e)
  rw [ha] at hR
  rw [show rr=(Ru.zero,false) from hR,decide_eq_false h58]
  (repeat' with_reducible first|intro _|exact dn|refine rn ?_|refine ra ?_ ?_)
  refine aZ.auto 0 ?_ ?_ ?_<;>simp only [go_sem,Int.natCast_succ,Post,jl,fJ,Ru.zero]
 obtain ⟨y,r,rfl⟩:∃ y r,a=y::r:=by
  cases a with
  | nil=>exact absurd rfl (hmem.1 h58)
  | cons y r=>exact ⟨y,r,rfl⟩
 obtain ⟨hp1,hp2⟩:=Ih (x:=y) (s:=r)
 rw [List.drop_succ_cons,List.drop_zero] at *
 rw [decide_eq_true h58]
 by_cases hk:k=[]
 ·have g1:(k=[])=True:=eq_true hk
  have hR:rr=(Ru.zero,false):=by
   rw [hR]
   cases sp1 (y::r) with
   | none=>rfl
   | some m=>exact if_pos (.inl hk)
  rw [hR]
  (repeat' with_reducible first|intro _|refine rz ?_|refine ra ?_ ?_|omega|simp only [go_sem,g1])
  refine aZ.auto 0 ?_ ?_ ?_<;>simp only [go_sem,Int.natCast_succ,Post,jl,fJ,Ru.zero]
 have g1:(k=[])=False:=eq_false hk
 by_cases h32:32∈k
 ·have hR:rr=(Ru.zero,false):=by
   rw [hR]
   cases sp1 (y::r) with
   | none=>rfl
   | some m=>exact if_pos (.inr h32)
  rw [decide_eq_true h32] at k1
  rw [hR]
  (repeat' with_reducible first|intro _|refine rz ?_|refine ra ?_ ?_|omega|simp only [go_sem,g1])
  refine ah.k k1 ?_
  (repeat' with_reducible first|intro _|exact dn|refine rn ?_|refine ra ?_ ?_)
  refine aZ.auto 0 ?_ ?_ ?_<;>simp only [go_sem,Int.natCast_succ,Post,jl,fJ,Ru.zero]
 rw [decide_eq_false h32] at k1
 by_cases hpr:preB [32] r=true
 case neg=>
  have hR:rr=(Ru.zero,false):=by
   rw [hR]
   cases h:sp1 (y::r) with
   | none=>rfl
   | some m=>exact absurd (hp1.2 ⟨m,(hp2 m).1 h⟩) hpr
  rw [show preB [32] r=false by simpa using hpr] at k2
  rw [hR]
  (repeat' with_reducible first|intro _|refine rz ?_|refine ra ?_ ?_|omega|simp only [go_sem,g1])
  refine ah.k k1 ?_
  (repeat' with_reducible first|intro _|exact dn|refine rn ?_|refine ra ?_ ?_)
  refine ah.k k2 ?_
  (repeat' with_reducible first|intro _|exact dn|refine rn ?_|refine ra ?_ ?_)
  refine aZ.auto 0 ?_ ?_ ?_<;>simp only [go_sem,Int.natCast_succ,Post,jl,fJ,Ru.zero]
 obtain ⟨m0,hm0⟩:=hp1.1 hpr
 rw [hpr] at k2
 rw [(hp2 m0).2 hm0] at hR
 have hR:rr=(⟨k,(nT m0 []).1,(nT m0 []).2.1⟩,(nT m0 []).2.2):=by rw [hR];exact if_neg fun e=>e.elim hk h32
 rw [hR]
 generalize hZ:nT m0 []=Z at *
 obtain ⟨Z1,Z2,Z3⟩:=Z
 dsimp only
 have hml:m0.length≤2000000:=by
  rw [hm0] at hbl;simp only [List.length_cons] at hbl;omega
 clear hR hp1 hp2 hbl kc hmem
 subst hm0
 (repeat' with_reducible first|intro _|refine rz ?_|refine ra ?_ ?_|omega|simp only [go_sem,g1])
 refine ah.k k1 ?_
 (repeat' with_reducible first|intro _|exact dn|refine rn ?_|refine ra ?_ ?_)
 refine ah.k k2 ?_
 (repeat' with_reducible first|intro _|exact dn|refine rn ?_|refine ra ?_ ?_)
 refine aU.intro (Pg k) (fun x=>match x.1 with
  | some m=>x.2.length+m.length≤2000000∧nT m x.2=(Z1,Z2,Z3)
  | none=>(x.2,[],true)=(Z1,Z2,Z3)) (fun x=>match x.1 with|some m=>m.length+1|none=>0) (some m0,[]) ?_ ⟨by simpa using hml,hZ⟩ fun x hI=>?_
 ·unfold Pg
  rw [if_pos rfl]
  refine bC.aA rfl ?_ ?_<;>simp only [go_sem,Int.natCast_succ]
 obtain ⟨o,acc⟩:=x
 cases o with
 | none=>
  dsimp only at hI
  simp only [Prod.mk.injEq] at hI
  obtain ⟨rfl,rfl,rfl⟩:=hI
  unfold Pg
  dsimp only
  by_cases hac:acc=[]
  ·subst hac
   rw [if_pos rfl]
   (repeat' with_reducible first|intro _|exact dn|refine rn ?_|refine ra ?_ ?_)
   refine aZ.auto 0 ?_ ?_ ?_<;>simp only [go_sem,Int.natCast_succ,Post,jl,fJ,Ru.zero]
  ·rw [if_neg hac]
   (repeat' with_reducible first|intro _|exact dn|refine rn ?_|refine ra ?_ ?_)
   rw [yF hac,nS hac]
   refine aZ.auto 1 ?_ ?_ ?_<;>simp only [go_sem,Int.natCast_succ,Post]
 | some m=>
  dsimp only at hI
  obtain ⟨hml2,hI⟩:=hI
  have kc:=vH m 32 (by omega)
  rw [NV] at hI
  have hbl:=congrArg List.length (dW 32 m)
  rw [List.length_append] at hbl
  have hdr:=qJ 32 m
  have hac:=nX 32 m
  have hma:=dW 32 m
  have k5:=Iz m [99,111,100,101,32]
  have g0:((m.length:Int)+1=0)=False:=eq_false (by omega)
  generalize cZ 32 m=b at *
  generalize fE 32 m=a at *
  have hne:¬acc++[b]=[]:=by simp
  have f6:((b.length:Int)≤(m.length:Int))=True:=eq_true (by omega)
  have f7:(m.drop b.length).take (m.length - b.length)=a:=by rw [hdr];exact List.take_of_length_le (by omega)
  by_cases hb:b=bG
  ·have g1:(b=[99,111,100,101])=True:=eq_true hb
   rw [if_pos hb] at hI
   rcases hac with rfl|⟨c,rfl⟩
   ·rw [List.append_nil] at hma
    have hp:preB [99,111,100,101,32] m=false:=by rw [←hma,hb];decide
    have hm4:m=[99,111,100,101]:=hma.symm.trans hb
    rw [hp,if_neg (by decide),hm4] at k5
    dsimp only at hI
    simp only [Prod.mk.injEq] at hI
    obtain ⟨rfl,rfl,rfl⟩:=hI
    rw [hm4] at kc ⊢
    by_cases hcc:acc=[]
    ·subst hcc
     rw [Nz]
     (repeat' with_reducible first|intro _|refine rz ?_|refine ra ?_ ?_|omega|simp only [go_sem,List.take_length])
     refine ah.k kc ?_
     (repeat' with_reducible first|intro _|refine rz ?_|refine ra ?_ ?_|omega|simp only [go_sem,g1])
     refine ah.k k5 ?_
     (repeat' with_reducible first|intro _|refine rz ?_|refine ra ?_ ?_|omega|simp only [go_sem,g1])
     refine aZ.auto 0 ?_ ?_ ?_<;>simp only [go_sem,Int.natCast_succ,Post,jl,fJ,bG]
    ·rw [NC _ _ hcc,yF hcc,nS hcc]
     (repeat' with_reducible first|intro _|refine rz ?_|refine ra ?_ ?_|omega|simp only [go_sem,List.take_length])
     refine ah.k kc ?_
     (repeat' with_reducible first|intro _|refine rz ?_|refine ra ?_ ?_|omega|simp only [go_sem,g1])
     refine ah.k k5 ?_
     (repeat' with_reducible first|intro _|refine rz ?_|refine ra ?_ ?_|omega|simp only [go_sem,g1])
     refine aZ.auto 1 ?_ ?_ ?_<;>simp only [go_sem,Int.natCast_succ,Post,bG]
   ·have hm4:m=99::111::100::101::32::c:=by rw [←hma,hb];rfl
    have hp:preB [99,111,100,101,32] m=true:=by rw [hm4];simp [preB]
    rw [hp,if_pos rfl,show m.drop ([99,111,100,101,32]:Bytes).length=c by rw [hm4];rfl] at k5
    dsimp only at hI
    simp only [Prod.mk.injEq] at hI
    obtain ⟨rfl,rfl,rfl⟩:=hI
    clear hm4
    by_cases hcc:acc=[]
    ·subst hcc
     rw [Nz]
     (repeat' with_reducible first|intro _|refine rz ?_|refine ra ?_ ?_|omega|simp only [go_sem,List.take_length])
     refine ah.k kc ?_
     (repeat' with_reducible first|intro _|refine rz ?_|refine ra ?_ ?_|omega|simp only [go_sem,g1])
     refine ah.k k5 ?_
     (repeat' with_reducible first|intro _|refine rz ?_|refine ra ?_ ?_|omega|simp only [go_sem,g1])
     refine aZ.auto 0 ?_ ?_ ?_<;>simp only [go_sem,Int.natCast_succ,Post,jl,fJ,bG]
    ·rw [NC _ _ hcc,yF hcc,nS hcc]
     (repeat' with_reducible first|intro _|refine rz ?_|refine ra ?_ ?_|omega|simp only [go_sem,List.take_length])
     refine ah.k kc ?_
     (repeat' with_reducible first|intro _|refine rz ?_|refine ra ?_ ?_|omega|simp only [go_sem,g1])
     refine ah.k k5 ?_
     (repeat' with_reducible first|intro _|refine rz ?_|refine ra ?_ ?_|omega|simp only [go_sem,g1])
     refine aZ.auto 1 ?_ ?_ ?_<;>simp only [go_sem,Int.natCast_succ,Post,bG]
  have g1:(b=[99,111,100,101])=False:=eq_false hb
  rw [if_neg hb] at hI
  by_cases hb0:b=[]
  ·have g2:(b=[])=True:=eq_true hb0
   rw [if_pos hb0] at hI
   simp only [Prod.mk.injEq] at hI
   obtain ⟨rfl,rfl,rfl⟩:=hI
   by_cases hcc:acc=[]
   ·subst hcc
    rw [Nz]
    (repeat' with_reducible first|intro _|refine rz ?_|refine ra ?_ ?_|omega|simp only [go_sem,List.take_length])
    refine ah.k kc ?_
    (repeat' with_reducible first|intro _|refine rz ?_|refine ra ?_ ?_|omega|simp only [go_sem,g1,g2])
    refine aZ.auto 0 ?_ ?_ ?_<;>simp only [go_sem,Int.natCast_succ,Post,jl,fJ]
   ·rw [NC _ _ hcc,yF hcc,nS hcc]
    (repeat' with_reducible first|intro _|refine rz ?_|refine ra ?_ ?_|omega|simp only [go_sem,List.take_length])
    refine ah.k kc ?_
    (repeat' with_reducible first|intro _|refine rz ?_|refine ra ?_ ?_|omega|simp only [go_sem,g1,g2])
    refine aZ.auto 1 ?_ ?_ ?_<;>simp only [go_sem,Int.natCast_succ,Post]
  have g2:(b=[])=False:=eq_false hb0
  rw [if_neg hb0] at hI
  have hnx:∃ o:Option Bytes,a=(match o with|some m=>32::m|none=>[])∧(match o with
   | some m=>(acc++[b]).length+m.length≤2000000∧nT m (acc++[b])=(Z1,Z2,Z3)
   | none=>(acc++[b],[],true)=(Z1,Z2,Z3))∧(match o with|some m=>m.length+1|none=>0)<m.length+1:=by
   rcases hac with rfl|⟨c,rfl⟩
   ·exact ⟨none,rfl,hI,by simp⟩
   ·rw [List.length_cons] at hbl
    exact ⟨some c,rfl,⟨by rw [List.length_append,List.length_singleton];omega,hI⟩,by dsimp only;omega⟩
  obtain ⟨o,ho1,ho2,ho3⟩:=hnx
  have hS:Pg k (o,acc++[b])=⟨75,[(2,.ptr 0 0),(5,.str a)],[(0,.box 36 [.str k,.own 1,.str []]),(1,.row 9 (.strs (acc++[b])))],2⟩:=by rw [ho1];exact if_neg hne
  by_cases hcc:acc=[]
  ·subst hcc
   rw [Nz]
   (repeat' with_reducible first|intro _|refine rz ?_|refine ra ?_ ?_|omega|simp only [go_sem,List.take_length])
   refine ah.k kc ?_
   (repeat' with_reducible first|intro _|refine rz ?_|refine ra ?_ ?_|omega|simp only [go_sem,g1,g2,f6,f7])
   refine ⟨(o,[]++[b]),?_,ho2,ho3⟩
   rw [hS]
   refine bC.aA rfl ?_ ?_<;>simp only [go_sem,Int.natCast_succ]
  ·rw [NC _ _ hcc]
   (repeat' with_reducible first|intro _|refine rz ?_|refine ra ?_ ?_|omega|simp only [go_sem,List.take_length])
   refine ah.k kc ?_
   (repeat' with_reducible first|intro _|refine rz ?_|refine ra ?_ ?_|omega|simp only [go_sem,g1,g2,f6,f7])
   refine ⟨(o,acc++[b]),?_,ho2,ho3⟩
   rw [hS]
   refine bC.aA rfl ?_ ?_<;>simp only [go_sem,Int.natCast_succ]
theorem Ey (s:Bytes) (hs:s.length≤2000000):aC Tryd.prog 19 [.str s] (.tup [.agg (BF s).1.av,.bool (BF s).2]) []:=by
 have k:=BG s hs
 generalize BF s=p at *
 obtain ⟨⟨k0,ws,c⟩,q⟩:=p
 dsimp only [Ru.av] at *
 by_cases h:ws=[]
 ·subst h
  exact aC.weak k (by simp [fP,aW,bf,aF,jl,fJ,nilRow])
 ·rw [yF h,nS h] at k
  exact aC.weak k (by simp [fP,aW,bf,aF,lk])
end Go.Fv.R
