/-
  A part of the proof of the claim: walks over the program's functions and the plain laws that these need. No condition of its own.
-/
import Derived.Test.YtkigppimkbkjoaaDoorJDocsCardPart1
import Derived.Shelf.Spec.SlicesInsertGrow
import Derived.Test.YtkigppimkbkjoaaDoorFvPart12
set_option linter.unusedSimpArgs false
set_option linter.unusedVariables false
set_option linter.unnecessarySimpa false
set_option maxRecDepth 8000
/- slices.Insert of one page, by the contracts of the shelf, as a contract that writes the caller's memory. -/
namespace Go.Proofs
open Go.Shelf
def Tryd.fM:Go.Shelf.Ren:=⟨fun|21=>23|27=>35|28=>36|35=>45|39=>50|n=>n,fun|22=>25|3=>3|4=>4|0=>0|n=>n,fun|n=>n⟩
theorem Tryd.IK:Go.Proofs.Lays2.n21 Tryd.prog Tryd.fM:={
 mixed:=by kernel_rfl
 f21:=Tryd.func23.trans (congrArg some (by kernel_rfl))
 f27:=Tryd.func35.trans (congrArg some (by kernel_rfl))
 f28:=Tryd.func36.trans (congrArg some (by kernel_rfl))
 f35:=Tryd.func45.trans (congrArg some (by kernel_rfl))
 f39:=Tryd.func50.trans (congrArg some (by kernel_rfl))
 t0:=Tryd.underlying0
 a0:=Tryd.isAgg0
 z0:=Tryd.sizeOf0
 v0:=Tryd.zeroValue0
 t3:=Tryd.underlying3
 a3:=Tryd.isAgg3
 z3:=Tryd.sizeOf3
 v3:=Tryd.zeroValue3
 t4:=Tryd.underlying4
 a4:=Tryd.isAgg4
 z4:=Tryd.sizeOf4
 v4:=Tryd.zeroValue4
 t22:=Tryd.underlying25
 a22:=Tryd.isAgg25
 z22:=Tryd.sizeOf25
 v22:=Tryd.zeroValue25
 i3:=by kernel_rfl }
end Go.Proofs
namespace Go.Fv.J
open Go Go.Proofs Go.RowKit
theorem gX (P:Program) {w:World} {g o:Nat} {vs:List Value} {cur:Array Value} {e:TypeId} {fz:Nat × Nat} (hg:w.heap[g]?=some (.cells cur e fz)) (hmk:MC fz cur.size) (hl:o+vs.length≤cur.size) (h1:∀ v,v∈vs→v.oneCell'=true) :
  w.setCells g o vs=w.setRow g (cur.toList.take o++vs++cur.toList.drop (o+vs.length)).toArray:=by
 have a:=jd P g o e fz vs 0 cur w hg hmk (by simpa using hl) h1
 have hc:∀ j,j<vs.length→(w.cell? ⟨g,o+0+j,none⟩).isSome=true:=fun j hj=>by
  simp only [World.cell?,hg]
  rw [Array.getElem?_eq_getElem (by omega)];rfl
 have hf:∀ j,j<vs.length→w.frozen? ⟨g,o+0+j,none⟩=false:=fun j hj=>by
  simp only [World.frozen?,hg]
  obtain ⟨lo,hi⟩:=fz
  rcases hmk with e|e
  ·cases e;simp
  ·have:cur.size≤lo:=e
   simp;omega
 have b:=run_storeCells_cells (P:=P) g o vs 0 w hc hf h1
 rw [a] at b
 have:=Result.ok.inj b
 simpa using this.2.symm
theorem IG {w w':World} {T g:Nat→Prop} {m0:Nat→Value} {k n:Nat} {e:TypeId} {r:au} {cells:List Value} {v:Value} (hb:aP g w w') (hr:∀ c,aS c r cells) (hn:r.len=n) (how:kE w' e r.sz v n cells) (hO:∀ b,blk v=some b→g b∨w.heap.size≤b) :
  vG w T g m0 k (.own k) [(k,.row e r)] (.returned v) w':=by
 have hone:v.oneCell'=true:=by rcases how.2 with ⟨e,_⟩|⟨_,_,_,_,e,_⟩<;>rw [e]<;>rfl
 have hlk:∀ i it,lk [(k,Item.row e r)] i=some it→i=k∧it=.row e r:=by
  intro i it hi
  simp only [lk] at hi
  split at hi
  ·rename_i h;cases hi;exact ⟨h.symm,rfl⟩
  ·cases hi
 refine ⟨v,rfl,hb,fun i=>if i=k then v else m0 i,k+1,fun i hi=>if_neg (by omega),by omega,?_,?_,?_⟩
 ·have:=Rv.own (c:=⟨w',allow ⟨fun b=>T b∨g b,g⟩ w.heap.size (fun i=>if i=k then v else m0 i) [(k,.row e r)],fun i=>if i=k then v else m0 i,k+1⟩) k (Nat.lt_succ_self k) (by simpa using hone)
  simpa using this
 ·intro i it hi
  obtain ⟨rfl,rfl⟩:=hlk i it hi
  refine ⟨by omega,n,cells,hr _,hn,by simpa using how,fun b hb=>?_⟩
  simp only [if_pos] at hb
  rcases hO b hb with h|h
  ·exact .inr ⟨h,.inr h⟩
  ·exact .inl h
 ·intro i j it jt b hi hj _ _
  rw [(hlk i it hi).1,(hlk j jt hj).1]
theorem sU {w:World} {g j:Nat} {cur:Array Value} {e:TypeId} {fz:Nat × Nat} (hh:w.heap[g]?=some (.cells cur e fz)) (h:Mk e fz cur.size) (he:e≠5):w.frozen? ⟨g,j,none⟩=false:=by
 rcases h with rfl|⟨_,h⟩
 ·simp [World.frozen?,hh]
 ·exact absurd h he
theorem BD {w:World} {g n:Nat} {cur:Array Value} {e:TypeId} {fz:Nat × Nat} {cs:List Value} (hh:w.heap[g]?=some (.cells cur e fz)) (ht:cur.toList.take n=cs):∀ j v,cs[j]?=some v→w.cell? ⟨g,0+j,none⟩=some v:=by
 intro j v hj
 rw [←ht,List.getElem?_take] at hj
 split at hj
 ·simp only [World.cell?,hh,Nat.zero_add];simpa using hj
 ·cases hj
theorem Ci (l:List Int):∀ v,v∈l.map (Value.int .i64)→v.oneCell'=true:=by
 intro v hv
 obtain ⟨x,_,rfl⟩:=List.mem_map.1 hv
 rfl
set_option maxHeartbeats 1000000 in
theorem wG (l:List Int) (i:Nat) (x:Int) (hi:i≤l.length) (hl:l.length≤5000000) :
  rZ Tryd.prog 23 [.own 0,.int .i64 i,.own 1] [(0,.row 3 (.ints .i64 l)),(1,.row 3 (.ints .i64 [x]))] 2 (.own 2) [(2,.row 3 (.ints .i64 (l.take i++x::l.drop i)))]:=by
 refine ⟨⟨_,Tryd.func23,by kernel_rfl,by kernel_rfl⟩,fun w T g m0 vals ⟨hrow,hsep,hd⟩ hgl hng hv=>?_⟩
 obtain ⟨_,n,cells,hr,hn,⟨hlen,hcase⟩,hO⟩:=hrow 0 _ rfl
 obtain ⟨_,n1,cells1,hr1,hn1,⟨hlen1,hcase1⟩,hO1⟩:=hrow 1 _ rfl
 generalize hq:au.ints .i64 l=r at hr hn hlen hcase
 cases hr with
 | bools=>cases hq
 | objs=>cases hq
 | strs=>cases hq
 | ints k l' hk=>
 cases hq
 generalize hq1:au.ints .i64 [x]=r1 at hr1 hn1 hlen1 hcase1
 cases hr1 with
 | bools=>cases hq1
 | objs=>cases hq1
 | strs=>cases hq1
 | ints k1 l1 hk1=>
 cases hq1
 have hx:=hk1 x (.head _)
 have hnl:n=l.length:=by rw [←hn];rfl
 have hn1l:n1=1:=by rw [←hn1];rfl
 subst hnl hn1l
 cases hv with
 | cons _ v0 _ vs h0 hv2=>
 cases hv2 with
 | cons _ vi _ vs2 hi0 hv3=>
 cases hv3 with
 | cons _ v1 _ vs3 h1 hv4=>
 cases hv4
 cases h0 with
 | own _ _ _=>
 cases hi0 with
 | int _ _ hik=>
 cases h1 with
 | own _ _ _=>
 rcases hcase1 with ⟨_,h00⟩|⟨g1,cap1,cur1,fz1,hv1,hmk1,hh1,hnc1,hcm1,hcs1,htk1⟩
 ·omega
 rw [show (au.ints .i64 [x]).sz=1 from rfl,Nat.mul_one] at hcs1 htk1
 rw [show (au.ints .i64 l).sz=1 from rfl] at hcase hlen
 -- the result
 have hfin:∀ c,aS c (.ints .i64 (l.take i++x::l.drop i)) ((l.take i++x::l.drop i).map (Value.int .i64)):=fun c=>.ints _ _ fun y hy=>by
  rcases List.mem_append.1 hy with hy|hy
  ·exact hk y (List.mem_of_mem_take hy)
  ·rcases List.mem_cons.1 hy with rfl|hy
   ·exact hx
   ·exact hk y (List.mem_of_mem_drop hy)
 have hflen:(au.ints .i64 (l.take i++x::l.drop i)).len=l.length+1:=by
  simp only [au.len,List.length_append,List.length_cons,List.length_take,List.length_drop];omega
 have hgcap:∀ c,c<l.length+1→l.length+1≤grownCap w (l.length+1) c 3∧grownCap w (l.length+1) c 3≤maxLen:=fun c hc=>⟨grownCap_ge _ _ _ _,grownCap_le_maxLen _ _ _ _ (by simp only [maxLen];omega)⟩
 have hcells:(l.take i++x::l.drop i).map (Value.int .i64)=(l.map (Value.int .i64)).take i++Value.int .i64 x::(l.map (Value.int .i64)).drop i:=by
  rw [List.map_append,List.map_cons,List.map_take,List.map_drop]
 have hvs:∀ j v,([Value.int .i64 x])[j]?=some v→w.cell? ⟨g1,0+j,none⟩=some v:=BD hh1 (by rw [htk1];rfl)
 have h1v:∀ v∈[Value.int .i64 x],v.oneCell'=true:=Ci [x]
 rw [show [m0 0,Value.int .i64 (i:Int),m0 1].toArray=#[m0 0,.int .i64 i,m0 1] from rfl,hv1]
 have hone0:=Ci l
 -- a new block
 have newB:∀ (w':World) (cap:Nat) (cur':Array Value),aP g w w'→w'.heap[w.heap.size]?=some (.cells cur' 3 (0,0))→l.length+1≤cap→cap≤maxLen→cur'.size=cap→cur'.toList.take (l.length+1)=(l.take i++x::l.drop i).map (Value.int .i64) →
   vG w T g m0 2 (.own 2) [(2,.row 3 (.ints .i64 (l.take i++x::l.drop i)))] (.returned (.slice (some ⟨w.heap.size,0,none⟩) (l.length+1) cap)) w':=fun w' cap cur' hb hh h1 h2 h3 h4=>
  IG hb hfin hflen ⟨by rw [show (au.ints .i64 (l.take i++x::l.drop i)).sz=1 from rfl,Nat.mul_one,List.length_map,←hflen];rfl,.inr ⟨w.heap.size,cap,cur',(0,0),rfl,.inl rfl,hh,h1,h2,by rw [h3];exact (Nat.mul_one _).symm,by rw [show (au.ints .i64 (l.take i++x::l.drop i)).sz=1 from rfl,Nat.mul_one];exact h4⟩⟩ (fun b hb=>by cases hb;exact .inr (Nat.le_refl _))
 rcases hcase with ⟨hv,h00⟩|⟨g0,cap,cur,fz,hv,hMk,hh,hnc,hcm,hcs,htk⟩
 ·-- the nil slice
  have hl0:l=[]:=List.eq_nil_of_length_eq_zero h00
  subst hl0
  have hi0:i=0:=by simpa using hi
  subst hi0
  rw [hv]
  have hcall:=Any2.slices_Insert_int_end_grow Tryd.IK none 0 0 g1 0 1 cap1 [] [.int .i64 x] w (by omega) (by omega) (by omega) (by omega) rfl rfl (fun _=>rfl) (fun a ha=>by cases ha) hvs h1v
  refine Calls.mono hcall ?_
  rintro e w' ⟨rfl,rfl⟩
  have q1:0+1≤grownCap w (0+1) 0 (Tryd.fM.t 3):=(hgcap 0 (by simp)).1
  have q2:grownCap w (0+1) 0 (Tryd.fM.t 3)≤maxLen:=(hgcap 0 (by simp)).2
  generalize grownCap w (0+1) 0 (Tryd.fM.t 3)=c2 at *
  refine newB _ _ _ ⟨rfl,rfl,rfl,by simp,trivial,fun k hk _=>Below.heap_alloc w.drew _ k hk⟩ (heap_alloc_new w.drew _) q1 q2 ?_ ?_
  ·have hz:(Value.int .i64 0).cells.size=1:=rfl
   simp only [List.nil_append,Array.size_append,List.size_toArray,size_zeroCells,hz,List.length_cons,List.length_nil,Nat.mul_one]
   omega
  ·simp
 rw [Nat.mul_one] at hcs htk hlen
 have hlt:g0<w.heap.size:=(Array.getElem?_eq_some_iff.1 hh).1
 have hlt1:g1<w.heap.size:=(Array.getElem?_eq_some_iff.1 hh1).1
 have hgO:=hO g0 (by rw [hv];rfl)
 have hcs':∀ j v,(l.map (Value.int .i64))[j]?=some v→w.cell? ⟨g0,0+j,none⟩=some v:=BD hh htk
 have hsp:∀ j,j<cap→(w.cell? ⟨g0,0+j,none⟩).isSome=true:=fun j hj=>by
  simp only [World.cell?,hh,Nat.zero_add]
  rw [Array.getElem?_eq_getElem (by omega)];rfl
 have hfz:∀ j,w.frozen? ⟨g0,0+j,none⟩=false:=fun j=>sU hh hMk (by decide)
 have hmax:maxLen=9223372036854775807:=rfl
 have hml:(l.map (Value.int .i64)).length=l.length:=List.length_map _
 -- the same block
 have oldB:∀ (w':World) (cur':Array Value),w'=(w.setRow g0 cur')∨w'=(w.drew.setRow g0 cur')→l.length+1≤cap→cur'.size=cap→cur'.toList.take (l.length+1)=(l.take i++x::l.drop i).map (Value.int .i64) →
   vG w T g m0 2 (.own 2) [(2,.row 3 (.ints .i64 (l.take i++x::l.drop i)))] (.returned (.slice (some ⟨g0,0,none⟩) (l.length+1) cap)) w':=fun w' cur' hw h1 h3 h4=>by
  have hB:aP g w w'∧w'.heap[g0]?=some (.cells cur' 3 fz):=by
   rcases hw with rfl|rfl
   ·exact ⟨⟨rfl,rfl,rfl,by simp [World.setRow],trivial,fun k hk hng=>setRow_other w g0 k cur' (fun e=>hng (e▸hgO))⟩,setRow_heap w g0 cur _ _ _ hh⟩
   ·exact ⟨⟨rfl,rfl,rfl,Nat.le_of_eq (by simp only [World.setRow,Array.size_modify];rfl),trivial,fun k hk hng=>setRow_other w.drew g0 k cur' (fun e=>hng (e▸hgO))⟩,setRow_heap w.drew g0 cur _ _ _ hh⟩
  exact IG hB.1 hfin hflen ⟨by rw [show (au.ints .i64 (l.take i++x::l.drop i)).sz=1 from rfl,Nat.mul_one,List.length_map,←hflen];rfl,.inr ⟨g0,cap,cur',fz,rfl,by rw [h3,←hcs];exact hMk,hB.2,h1,hcm,by rw [h3];exact (Nat.mul_one _).symm,by rw [show (au.ints .i64 (l.take i++x::l.drop i)).sz=1 from rfl,Nat.mul_one];exact h4⟩⟩ (fun b hb=>by cases hb;exact .inl hgO)
 rw [hv]
 have hcurl:cur.toList=l.map (Value.int .i64)++cur.toList.drop l.length:=by rw [←htk,List.take_append_drop]
 have hT:(l.map (Value.int .i64)).take l.length=l.map (Value.int .i64):=List.take_of_length_le (by rw [hml];exact Nat.le_refl _)
 have hD:(l.map (Value.int .i64)).drop l.length=[]:=List.drop_of_length_le (by rw [hml];exact Nat.le_refl _)
 by_cases hroom:l.length+1≤cap
 ·by_cases hin:i<l.length
  ·have hne:g1≠g0:=fun e=>by
    have:=hsep 1 0 _ _ g0 rfl rfl (by rw [hv1,e];rfl) (by rw [hv];rfl)
    omega
   have hcall:=Any2.slices_Insert_int_shift Tryd.IK g0 0 l.length cap i g1 0 1 cap1 (l.map (Value.int .i64)) [.int .i64 x] w hin (by omega) hroom (by omega) hne hml rfl hcs' (fun j hj=>hsp j (by omega)) (fun j _=>hfz j) hvs hone0 h1v
    3 3 cur1.size cur.size (by simp only [World.shape?,hh1]) (by simp only [World.shape?,hh]) (by omega) (sU hh1 hmk1 (by decide)) (sU hh1 hmk1 (by decide))
   refine Calls.mono hcall ?_
   rintro e w' ⟨rfl,rfl⟩
   have hdl:((l.map (Value.int .i64)).drop i).length=l.length - i:=by rw [List.length_drop,hml]
   rw [Nat.zero_add,Nat.zero_add,gX Tryd.prog (w:=w.drew) (cur:=cur) hh hMk.w (by rw [hdl];omega) (fun v hv=>hone0 v (List.mem_of_mem_drop hv))]
   have hA:(cur.toList.take (i+1)++(l.map (Value.int .i64)).drop i++cur.toList.drop (i+1+((l.map (Value.int .i64)).drop i).length)).length=cap:=by
    simp only [List.length_append,List.length_take,List.length_drop,hml,Array.length_toList,hcs];omega
   generalize hAA:(cur.toList.take (i+1)++(l.map (Value.int .i64)).drop i++cur.toList.drop (i+1+((l.map (Value.int .i64)).drop i).length))=A at *
   rw [gX Tryd.prog (w:=w.drew.setRow g0 A.toArray) (cur:=A.toArray) (setRow_heap w.drew g0 cur _ _ _ hh) (by rw [List.size_toArray,hA,←hcs];exact hMk.w) (by simp [hA];omega) h1v,setRow_setRow]
   refine oldB _ _ (.inr rfl) hroom ?_ ?_
   ·simp only [List.size_toArray,List.length_append,List.length_take,List.length_drop,hA,List.length_cons,List.length_nil];omega
   ·rw [hcells]
    show List.take (l.length+1) (A.take i++[Value.int .i64 x]++A.drop (i+1))=_
    have e1:A.take i=(l.map (Value.int .i64)).take i:=by
     rw [←hAA,List.append_assoc,List.take_append_of_le_length (by rw [List.length_take,Array.length_toList];omega),List.take_take,Nat.min_eq_left (by omega),hcurl,List.take_append_of_le_length (by rw [hml];omega)]
    have e2:A.drop (i+1)=(l.map (Value.int .i64)).drop i++cur.toList.drop (i+1+((l.map (Value.int .i64)).drop i).length):=by
     rw [←hAA,List.append_assoc]
     exact List.drop_left' (by rw [List.length_take,Array.length_toList];omega)
    have e3:∀ (a b c:List Value) (y:Value),a++[y]++(b++c)=(a++y::b)++c:=fun a b c y=>by simp
    rw [e1,e2,e3]
    refine List.take_left' ?_
    simp only [List.length_append,List.length_take,List.length_cons,hdl,hml];omega
  ·have hie:i=l.length:=by omega
   subst hie
   have hcall:=Any2.slices_Insert_int_end_room Tryd.IK g0 0 l.length cap g1 0 1 cap1 [.int .i64 x] w (by omega) hroom (by omega) rfl (fun j hj=>by rw [Nat.add_assoc];exact hsp (l.length+j) (by omega)) (fun j _=>by rw [Nat.add_assoc];exact hfz (l.length+j)) hvs h1v
   refine Calls.mono hcall ?_
   rintro e w' ⟨rfl,rfl⟩
   rw [Nat.zero_add,gX Tryd.prog hh hMk.w (by simp;omega) h1v]
   refine oldB _ _ (.inl rfl) hroom ?_ ?_
   ·simp only [List.size_toArray,List.length_append,List.length_take,List.length_drop,Array.length_toList,hcs,List.length_cons,List.length_nil];omega
   ·rw [hcells]
    show List.take (l.length+1) (cur.toList.take l.length++[Value.int .i64 x]++cur.toList.drop (l.length+1))=_
    rw [htk,hT,hD]
    exact List.take_left' (by simp)
 ·by_cases hin:i<l.length
  ·have hcall:=Any2.slices_Insert_int_grow Tryd.IK g0 0 l.length cap i g1 0 1 cap1 (l.map (Value.int .i64)) [.int .i64 x] w hin (by omega) hnc (by omega) (by omega) hml rfl hcs' hvs hone0 h1v
   refine Calls.mono hcall ?_
   rintro e w' ⟨rfl,rfl⟩
   have q1:l.length+1≤grownCap w (l.length+1) cap (Tryd.fM.t 3):=(hgcap cap (by omega)).1
   have q2:grownCap w (l.length+1) cap (Tryd.fM.t 3)≤maxLen:=(hgcap cap (by omega)).2
   generalize grownCap w (l.length+1) cap (Tryd.fM.t 3)=c2 at *
   have hdl:((l.map (Value.int .i64)).drop i).length=l.length - i:=by rw [List.length_drop,hml]
   have htl:((l.map (Value.int .i64)).take i).length=i:=by rw [List.length_take,hml];omega
   have hz:(Value.int .i64 0).cells.size=1:=rfl
   generalize hO:(((l.map (Value.int .i64)).take i).toArray++Builtin.zeroCells (Value.int .i64 0).cells (l.length+1 - i)++Builtin.zeroCells (Value.int .i64 0).cells (c2 - (l.length+1)))=O
   have hOs:O.size=c2:=by
    rw [←hO]
    simp only [Array.size_append,List.size_toArray,size_zeroCells,hz,htl,Nat.mul_one];omega
   have hOt:O.toList.take i=(l.map (Value.int .i64)).take i:=by
    rw [←hO,Array.toList_append,Array.toList_append,List.append_assoc]
    exact List.take_left' (by rw [List.toList_toArray];exact htl)
   have hn0:(w.alloc (.cells O 3)).drew.heap[w.heap.size]?=some (.cells O 3 (0,0)):=heap_alloc_new w _
   have e1:(w.alloc (.cells O 3)).drew.setCells w.heap.size i [Value.int .i64 x]=(w.alloc (.cells O 3)).drew.setRow w.heap.size (O.toList.take i++[Value.int .i64 x]++O.toList.drop (i+1)).toArray:=gX Tryd.prog hn0 (.inl rfl) (by simp;omega) h1v
   have hAl:(O.toList.take i++[Value.int .i64 x]++O.toList.drop (i+1)).length=c2:=by
    simp only [List.length_append,List.length_take,List.length_drop,Array.length_toList,hOs,List.length_cons,List.length_nil];omega
   have hAt:(O.toList.take i++[Value.int .i64 x]++O.toList.drop (i+1)).take (i+1)=(l.map (Value.int .i64)).take i++[Value.int .i64 x]:=by
    rw [hOt];exact List.take_left' (by simp only [List.length_append,htl,List.length_cons,List.length_nil])
   generalize (O.toList.take i++[Value.int .i64 x]++O.toList.drop (i+1))=A at *
   have hn1:((w.alloc (.cells O 3)).drew.setRow w.heap.size A.toArray).drew.heap[w.heap.size]?=some (.cells A.toArray 3 (0,0)):=setRow_heap _ _ _ _ _ _ hn0
   have e2:(((w.alloc (.cells O 3)).drew.setRow w.heap.size A.toArray).drew.setCells w.heap.size (i+1) ((l.map (Value.int .i64)).drop i))=((w.alloc (.cells O 3)).drew.setRow w.heap.size A.toArray).drew.setRow w.heap.size (A.take (i+1)++(l.map (Value.int .i64)).drop i++A.drop (i+1+((l.map (Value.int .i64)).drop i).length)).toArray:=
    gX Tryd.prog hn1 (.inl rfl) (by rw [List.size_toArray,hAl,hdl];omega) (fun v hv=>hone0 v (List.mem_of_mem_drop hv))
   have hw:((w.alloc (.cells O 3)).drew.setCells w.heap.size i [Value.int .i64 x]).drew.setCells w.heap.size (i+1) ((l.map (Value.int .i64)).drop i)=((w.alloc (.cells O 3)).drew.setRow w.heap.size A.toArray).drew.setRow w.heap.size (A.take (i+1)++(l.map (Value.int .i64)).drop i++A.drop (i+1+((l.map (Value.int .i64)).drop i).length)).toArray:=by rw [e1,e2]
   show vG w T g m0 2 (.own 2) _ (.returned (.slice (some ⟨w.heap.size,0,none⟩) (l.length+1) c2)) (((w.alloc (.cells O 3)).drew.setCells w.heap.size i [Value.int .i64 x]).drew.setCells w.heap.size (i+1) ((l.map (Value.int .i64)).drop i))
   rw [hw]
   refine newB _ c2 _ ⟨rfl,rfl,rfl,?_,trivial,fun k hk _=>?_⟩ (setRow_heap _ _ _ _ _ _ hn1) q1 q2 ?_ ?_
   ·simp only [World.setRow,Array.size_modify]
    show w.heap.size≤((w.alloc (.cells O 3)).drew.setRow w.heap.size A.toArray).heap.size
    simp only [World.setRow,Array.size_modify]
    show w.heap.size≤(w.heap.push _).size
    rw [Array.size_push];omega
   ·rw [setRow_other _ _ k _ (by omega)]
    show ((w.alloc (.cells O 3)).drew.setRow w.heap.size A.toArray).heap[k]?=_
    rw [setRow_other _ _ k _ (by omega)]
    exact Below.heap_alloc w _ k hk
   ·simp only [List.size_toArray,List.length_append,List.length_take,List.length_drop,hml,hAl];omega
   ·rw [hcells,hAt]
    show List.take (l.length+1) ((l.map (Value.int .i64)).take i++[Value.int .i64 x]++(l.map (Value.int .i64)).drop i++_)=_
    have e3:∀ (a b:List Value) (y:Value),a++[y]++b=a++y::b:=fun a b y=>by simp
    rw [e3]
    exact List.take_left' (by simp only [List.length_append,List.length_cons,htl,hdl];omega)
  ·have hie:i=l.length:=by omega
   subst hie
   have hcall:=Any2.slices_Insert_int_end_grow Tryd.IK (some ⟨g0,0,none⟩) l.length cap g1 0 1 cap1 (l.map (Value.int .i64)) [.int .i64 x] w (by omega) hnc (by omega) (by omega) hml rfl (fun h=>by cases h) (fun a ha j v hj=>by cases ha;rw [Addr.add_lit];exact hcs' j v hj) hvs h1v
   refine Calls.mono hcall ?_
   rintro e w' ⟨rfl,rfl⟩
   have q1:l.length+1≤grownCap w (l.length+1) cap (Tryd.fM.t 3):=(hgcap cap (by omega)).1
   have q2:grownCap w (l.length+1) cap (Tryd.fM.t 3)≤maxLen:=(hgcap cap (by omega)).2
   generalize grownCap w (l.length+1) cap (Tryd.fM.t 3)=c2 at *
   refine newB _ _ _ ⟨rfl,rfl,rfl,by simp,trivial,fun k hk _=>Below.heap_alloc w.drew _ k hk⟩ (heap_alloc_new w.drew _) q1 q2 ?_ ?_
   ·have hz:(Value.int .i64 0).cells.size=1:=rfl
    simp only [Array.size_append,List.size_toArray,size_zeroCells,hz,List.length_append,hml,List.length_cons,List.length_nil,Nat.mul_one]
    omega
   ·rw [hcells,hT,hD,Array.toList_append]
    exact List.take_left' (by simp)
end Go.Fv.J
/- slices.Contains of integers. -/
namespace Go.Fv.J
open Go Go.Proofs
theorem BR (n:Int) (l:List Int) (i:Nat):(0≤firstAt (fun x=>decide (n=x)) l i)↔n∈l:=by
 rw [ny]
 simp
set_option maxHeartbeats 1000000 in
theorem Gt (l:List Int) (n:Int):aN Tryd.prog 31 [.ro (.ints .i64 l),.int .i64 n] (.int .i64 (firstAt (fun x=>decide (n=x)) l 0)) []:=by
 refine aN.bZ Tryd.func31 rfl (by decide) (by simp [Tryd.f31]) [.tmp 4] rfl fun w0 T0 _=>?_
 simp only [Tryd.f31,aH]
 (repeat' with_reducible first|intro _|exact dn|refine rn ?_|refine ra ?_ ?_)
 refine bY.intro (fun i:Nat=>⟨19,[(0,.ro (.ints .i64 l)),(1,.int .i64 n),(7,.int .i64 l.length),(8,.int .i64 i)],[],0⟩) (fun i=>i≤l.length∧firstAt (fun x=>decide (n=x)) (l.drop i) i=firstAt (fun x=>decide (n=x)) l 0) (fun i=>l.length - i) 0 ?_ ⟨Nat.zero_le _,rfl⟩ fun i hI=>?_
 ·refine bJ.bG rfl ?_ ?_<;>simp only [go_sem,Int.natCast_succ]
 obtain ⟨hl,hI⟩:=hI
 by_cases hlt:i<l.length
 ·rw [Ii l 0 hlt,firstAt] at hI
  by_cases he:n=l.getD i 0
  ·rw [if_pos (decide_eq_true he)] at hI
   (repeat' with_reducible first|intro _|refine rz ?_|refine ra ?_ ?_|omega|simp only [go_sem,←he])
   refine dM.auto 0 ?_ rfl ?_<;>simp only [go_sem,Int.natCast_succ,Post,hI]
  ·rw [if_neg (by simpa using he)] at hI
   (repeat' with_reducible first|intro _|refine rz ?_|refine ra ?_ ?_|omega|simp only [go_sem,he])
   refine ⟨i+1,bJ.bG rfl ?_ ?_,⟨by omega,hI⟩,by omega⟩<;>simp only [go_sem,Int.natCast_succ]
 ·have e:i=l.length:=by omega
  subst e
  rw [List.drop_length] at hI
  (repeat' with_reducible first|intro _|exact dn|refine rn ?_|refine ra ?_ ?_)
  refine dM.auto 0 ?_ rfl ?_<;>simp only [go_sem,Int.natCast_succ,Post]
  rw [←hI];rfl
theorem qG (l:List Int) (n:Int):aN Tryd.prog 13 [.ro (.ints .i64 l),.int .i64 n] (.bool (decide (n∈l))) []:=by
 have k:=Gt l n
 have hm:=BR n l 0
 have e:decide (n∈l)=decide (0≤firstAt (fun x=>decide (n=x)) l 0):=by rw [Bool.eq_iff_iff,decide_eq_true_eq,decide_eq_true_eq,hm]
 rw [e]
 refine aN.bZ Tryd.func13 rfl (by decide) (by simp [Tryd.f13]) [.tmp 4] rfl fun w0 T0 _=>?_
 simp only [Tryd.f13,aH]
 (repeat' with_reducible first|intro _|exact dn|refine rn ?_|refine ra ?_ ?_)
 refine ak.k k ?_
 (repeat' with_reducible first|intro _|exact dn|refine rn ?_|refine ra ?_ ?_)
 refine dM.auto 0 ?_ rfl ?_<;>simp only [go_sem,Int.natCast_succ,Post]
end Go.Fv.J
/- slices.DeleteFunc of documents: those without pages. -/
namespace Go.Fv.J
open Go Go.Proofs
def Dc.bare (d:Dc):Bool:=decide (d.pages.length=0)
theorem EY (d:Dc):aN Tryd.prog 26 [.agg d.av] (.bool d.bare) []:=by
 unfold Dc.av Dc.bare
 obtain ⟨kd,P⟩:=d
 refine aN.bZ Tryd.func26 rfl (by decide) (by simp [Tryd.f26]) [.tmp 2] rfl fun w0 T0 _=>?_
 simp only [Tryd.f26,aH]
 (repeat' with_reducible first|intro _|exact dn|refine rn ?_|refine ra ?_ ?_)
 refine dM.auto 0 ?_ rfl ?_<;>simp only [go_sem,Int.natCast_succ,Post]
 all_goals simp
set_option maxHeartbeats 1000000 in
theorem wF (l:List Dc) (f:Nat) (caps:List AV) [rX caps] (q:Dc→Bool) (hq:∀ x:Dc,x∈l→gJ Tryd.prog f ([.agg x.av]++caps) (.bool (q x)) []) :
  aN Tryd.prog 37 [.ro (jD l),.fn f caps] (.int .i64 (firstAt q l 0)) []:=by
 refine aN.bZ Tryd.func37 rfl (by decide) (by simp [Tryd.f37]) [.tmp 4] rfl fun w0 T0 _=>?_
 simp only [Tryd.f37,aH]
 (repeat' with_reducible first|intro _|refine rz ?_|refine ra ?_ ?_|omega|simp only [go_sem,List.length_map])
 refine bY.intro (fun i:Nat=>⟨19,[(0,.ro (jD l)),(1,.fn f caps),(7,.int .i64 l.length),(8,.int .i64 i)],[],0⟩) (fun i=>i≤l.length∧firstAt q (l.drop i) i=firstAt q l 0) (fun i=>l.length - i) 0 ?_ ⟨Nat.zero_le _,rfl⟩ fun i hI=>?_
 ·refine bJ.bG rfl ?_ ?_<;>simp only [go_sem,Int.natCast_succ]
 obtain ⟨hl,hI⟩:=hI
 by_cases hlt:i<l.length
 ·have he:=dH l hlt
  have hd:l.drop i=l.getD i Dc.zero::l.drop (i+1):=by rw [List.drop_eq_getElem_cons hlt,getD_lt hlt]
  rw [hd,firstAt] at hI
  (repeat' with_reducible first|intro _|refine rz ?_|refine ra ?_ ?_|omega|simp only [go_sem,List.length_map,bg,he])
  refine ak.fr (args':=[.agg [.str (l.getD i Dc.zero).kind,.ro (.ints .i64 (l.getD i Dc.zero).pages)]]++caps) (hq _ (by rw [getD_lt hlt];exact List.getElem_mem hlt)) (by simp [aW,aZ,aB,vM]) 0 rfl (by simp [dK]) ?_
  (repeat' with_reducible first|intro _|exact dn|refine rn ?_|refine ra ?_ ?_)
  ·rename_i h2
   rw [if_pos h2] at hI
   refine dM.auto 0 ?_ rfl ?_<;>simp only [go_sem,Int.natCast_succ,Post]
   rw [←hI]
  ·rename_i h2
   rw [if_neg (by rw [h2];exact Bool.false_ne_true)] at hI
   refine ⟨i+1,bJ.bG rfl ?_ ?_,⟨by omega,hI⟩,by omega⟩<;>simp only [go_sem,Int.natCast_succ]
   all_goals rfl
 ·have e:i=l.length:=by omega
  subst e
  rw [List.drop_length] at hI
  (repeat' with_reducible first|intro _|refine rz ?_|refine ra ?_ ?_|omega|simp only [go_sem,List.length_map])
  refine dM.auto 0 ?_ rfl ?_<;>simp only [go_sem,Int.natCast_succ,Post]
  rw [←hI];rfl
def kept (l:List Dc):List Dc:=l.filter fun d=>!d.bare
theorem Kq (l:List Dc):(kept l).length≤l.length:=List.length_filter_le _ _
theorem sZ (l:List Dc) (d:Dc):kept (l++[d])=if d.bare=true then kept l else kept l++[d]:=by
 unfold kept
 rw [List.filter_append]
 cases h:d.bare<;>simp [List.filter,h]
theorem qK (q:Dc→Bool) (hq:q=Dc.bare):∀ (l:List Dc) (i:Nat),(firstAt q l i=-1∧kept l=l)∨∃ j:Nat,j<l.length∧firstAt q l i=((i+j:Nat):Int)∧kept (l.take (j+1))=l.take j
 | [],_=>.inl ⟨rfl,rfl⟩
 | x::l,i=>by
  cases hx:q x with
  | true=>
   refine .inr ⟨0,by simp,by simp [firstAt,hx],?_⟩
   subst hq
   simp [kept,List.filter,hx]
  | false=>
   have e:firstAt q (x::l) i=firstAt q l (i+1):=by simp [firstAt,hx]
   rw [e]
   have hb:x.bare=false:=by rw [←hx,hq]
   rcases qK q hq l (i+1) with ⟨h1,h2⟩|⟨j,h0,h1,h2⟩
   ·exact .inl ⟨h1,by unfold kept at *;simp [List.filter,hb,h2]⟩
   ·refine .inr ⟨j+1,by rw [List.length_cons];omega,by rw [h1];omega,?_⟩
    rw [List.take_succ_cons,List.take_succ_cons]
    unfold kept at *
    simp [List.filter,hb,h2]
def lN (l:List Dc) (j:Nat):List Dc:=kept (l.take j)++l.drop (kept (l.take j)).length
theorem Ic (l:List Dc) (j:Nat):(lN l j).length=l.length:=by
 unfold lN
 have:=Kq (l.take j)
 have h2:(l.take j).length≤l.length:=by rw [List.length_take];omega
 rw [List.length_append,List.length_drop];omega
theorem JV (l:List Dc) {j:Nat} (hj:j<l.length) (h:(kept (l.take j)).length≤j):(lN l j).getD j Dc.zero=l.getD j Dc.zero:=by
 unfold lN
 rw [List.getD_eq_getElem?_getD,List.getElem?_append_right h,List.getElem?_drop,List.getD_eq_getElem?_getD]
 congr 2
 omega
theorem Ie (l:List Dc) {j:Nat} (hj:j<l.length) (h:(kept (l.take j)).length<j) (hb:(l.getD j Dc.zero).bare=false):(lN l j).set (kept (l.take j)).length (l.getD j Dc.zero)=lN l (j+1):=by
 have e:l.take (j+1)=l.take j++[l.getD j Dc.zero]:=by rw [List.take_succ_eq_append_getElem hj,getD_lt hj]
 unfold lN
 rw [e,sZ,hb]
 simp only [Bool.false_eq_true,if_false]
 rw [List.set_append_right _ _ (Nat.le_refl _),Nat.sub_self]
 have h2:(kept (l.take j)).length<l.length:=by omega
 rw [List.drop_eq_getElem_cons h2,List.set_cons_zero,List.length_append,List.append_assoc]
 rfl
theorem Gh (l:List Dc) {j:Nat} (hj:j<l.length) (hb:(l.getD j Dc.zero).bare=true):lN l (j+1)=lN l j:=by
 have e:l.take (j+1)=l.take j++[l.getD j Dc.zero]:=by rw [List.take_succ_eq_append_getElem hj,getD_lt hj]
 unfold lN
 rw [e,sZ,hb]
 simp
set_option maxHeartbeats 4000000 in
theorem vT (l:List Dc) (hl:l.length≤5000000):rZ Tryd.prog 25 [.own 0,.fn 26 []] [(0,.row 27 (jD l))] 1 (.own 1) [(1,.row 27 (jD (kept l)))]:=by
 haveI cc:rX []:=⟨rfl⟩
 have kI:=wF l 26 [] Dc.bare fun d hd=>gJ.gU (EY d) rfl rfl
 have hk:=qK Dc.bare rfl l 0
 generalize firstAt Dc.bare l 0=k at *
 refine rZ.of_run Tryd.func25 rfl (by decide) (by simp [Tryd.f25]) qg [.tmp 4] rfl fun w0 T0=>aG.ent (bJ.mark [2000037]) (aG.of ?_)
 simp only [Tryd.f25,aH,marks]
 (repeat' with_reducible first|intro _|exact dn|refine rn ?_|refine ra ?_ ?_)
 refine ak.k kI ?_
 rcases hk with ⟨rfl,hk⟩|⟨i0,hi0,rfl,hk⟩
 ·rw [hk]
  (repeat' with_reducible first|intro _|exact dn|refine rn ?_|refine ra ?_ ?_)
  refine kH.ent (bJ.pre 4 0 rfl rfl) (kH.ent (bJ.D6 4 0 (jD l).len rfl rfl (Nat.le_refl _)) (kH.auto 2 (by omega) ?_ rfl ?_))
  all_goals simp only [go_sem,Int.natCast_succ,iV]
  all_goals exact List.take_of_length_le (by simp)
 ·have g1:(((0+i0:Nat):Int)=-1)=False:=eq_false (by omega)
  (repeat' with_reducible first|intro _|refine rz ?_|refine ra ?_ ?_|omega|simp only [go_sem,g1,Nat.zero_add])
  have hkl0:(kept (l.take (i0+1))).length=i0:=by rw [hk,List.length_take];omega
  refine bY.intro (fun j:Nat=>⟨42,[(6,.int .i64 j),(5,.int .i64 (kept (l.take j)).length),(0,.own 0),(1,.fn 26 []),(2000037,.dead)],[(0,.row 27 (jD (lN l j)))],1⟩) (fun j=>j≤l.length∧(kept (l.take j)).length<j) (fun j=>l.length - j) (i0+1) ?_ ⟨by omega,by omega⟩ fun j hI=>?_
  ·have e1:lN l (i0+1)=l:=by unfold lN;rw [hk,List.length_take,Nat.min_eq_left (by omega),List.take_append_drop]
   rw [e1,hkl0]
   refine bJ.Bj 1 rfl (Nat.le_refl 1) ?_ ?_<;>simp only [go_sem,Int.natCast_succ,iV]
  obtain ⟨hj,hkj⟩:=hI
  have hcl:=Ic l j
  by_cases hlt:j<l.length
  ·have hat:=JV l hlt (by omega)
   have he:=dH (lN l j) (i:=j) (by omega)
   rw [hat] at he
   have kb:=EY (l.getD j Dc.zero)
   have hcs:=Ie l hlt hkj
   have hsm:=Gh l hlt
   have htk:kept (l.take (j+1))=if (l.getD j Dc.zero).bare=true then kept (l.take j) else kept (l.take j)++[l.getD j Dc.zero]:=by
    rw [←sZ,List.take_succ_eq_append_getElem hlt,getD_lt hlt]
   generalize hC:lN l j=C at *
   generalize hd:l.getD j Dc.zero=d at *
   generalize hK:kept (l.take j)=K at *
   have hgl:((j:Int)<(C.length:Int))=True:=eq_true (by omega)
   have hgk:K.length<C.length:=by omega
   unfold Dc.av at kb
   (repeat' with_reducible first|intro _|refine rz ?_|refine ra ?_ ?_|omega|simp only [go_sem,List.length_map,bg,he,hcl])
   refine ak.k kb ?_
   cases hb:d.bare with
   | true=>
    have hsm:=hsm hb
    rw [if_pos hb] at htk
    (repeat' with_reducible first|intro _|exact dn|refine rn ?_|refine ra ?_ ?_)
    refine ⟨j+1,?_,⟨by omega,by rw [htk];omega⟩,by omega⟩
    rw [htk,hsm]
    refine bJ.Bj 1 rfl (Nat.le_refl 1) ?_ ?_<;>simp only [go_sem,Int.natCast_succ,iV]
   | false=>
    have hcs:=hcs hb
    rw [if_neg (by rw [hb];decide)] at htk
    have hcm:(C.map Dc.av).set K.length [.str d.kind,.ro (.ints .i64 d.pages)]=(lN l (j+1)).map Dc.av:=by
     rw [←hcs,List.map_set];rfl
    have heK:=dH C (i:=K.length) (by omega)
    (repeat' with_reducible first|intro _|refine rz ?_|refine ra ?_ ?_|omega|simp only [go_sem,List.length_map,hcl,heK,hcm])
    refine ⟨j+1,?_,⟨by omega,by rw [htk,List.length_append];simp;omega⟩,by omega⟩
    rw [htk]
    refine bJ.Bj 1 rfl (Nat.le_refl 1) ?_ ?_<;>simp only [go_sem,Int.natCast_succ,iV]
  ·have e:j=l.length:=by omega
   subst e
   rw [List.take_length] at *
   (repeat' with_reducible first|intro _|refine rz ?_|refine ra ?_ ?_|omega|simp only [go_sem,List.length_map,hcl])
   have hcu:lN l l.length=kept l++l.drop (kept l).length:=by unfold lN;rw [List.take_length]
   have hfin:(List.map Dc.av (lN l l.length)).take (kept l).length=List.map Dc.av (kept l):=by
    rw [hcu,List.map_append];exact List.take_left' (by simp)
   refine kH.auto 2 (by omega) ?_ rfl ?_<;>simp only [go_sem,Int.natCast_succ,iV]
   rw [Nat.sub_zero,hfin]
   simp only [List.append_assoc]
   exact List.take_left' (by simp)
end Go.Fv.J
/- sort.Move. -/
namespace Go.Fv.J
open Go Go.Proofs
def Ae (l:List Dc) (f p t:Int):Prop:=0≤f∧f<l.length∧0≤t∧t<l.length∧0≤p∧p<(l.getD f.toNat Dc.zero).pages.length
instance (l:List Dc) (f p t:Int):Decidable (Ae l f p t):=by unfold Ae;infer_instance
set_option maxHeartbeats 4000000 in
theorem I9 (l:List Dc) (f p t a:Int) (h:aT l≠0):aN Tryd.prog 7 [.ro (jD l),.int .i64 f,.int .i64 p,.int .i64 t,.int .i64 a] (.tup [.own 0,.int .i64 (aT l)]) [(0,.row 27 (jD []))]:=by
 have k:=dS l
 generalize aT l=E at *
 refine aN.bZ Tryd.func7 rfl (by decide) (by simp [Tryd.f7]) [.tmp 10,.tmp 11] rfl fun w0 T0 _=>?_
 simp only [Tryd.f7,aH]
 have g0:(E=0)=False:=eq_false h
 (repeat' with_reducible first|intro _|exact dn|refine rn ?_|refine ra ?_ ?_)
 refine ak.k k ?_
 (repeat' with_reducible first|intro _|refine rz ?_|refine ra ?_ ?_|omega|simp only [go_sem,g0])
 refine dM.auto 1 ?_ rfl ?_<;>simp only [go_sem,Int.natCast_succ,Post,List.map_nil]
theorem zJ (l:List Dc) {i:Nat} (h:l.length≤i):(l.map Dc.av).getD i []=[]:=by
 rw [List.getD_eq_getElem?_getD,List.getElem?_eq_none (by rw [List.length_map];exact h)];rfl
set_option maxHeartbeats 4000000 in
theorem GR (l:List Dc) (f p t a:Int) (h:aT l=0) (hv:¬Ae l f p t):aN Tryd.prog 7 [.ro (jD l),.int .i64 f,.int .i64 p,.int .i64 t,.int .i64 a] (.tup [.own 0,.int .i64 10]) [(0,.row 27 (jD []))]:=by
 have k:=dS l
 rw [h] at k
 refine aN.bZ Tryd.func7 rfl (by decide) (by simp [Tryd.f7]) [.tmp 10,.tmp 11] rfl fun w0 T0 _=>?_
 simp only [Tryd.f7,aH]
 (repeat' with_reducible first|intro _|exact dn|refine rn ?_|refine ra ?_ ?_)
 refine ak.k k ?_
 by_cases h1:f<0
 ·have g1:(f<0)=True:=eq_true h1
  have he:∃ b c,(l.map Dc.av).getD f.toNat []=[]∨(l.map Dc.av).getD f.toNat []=[.str b,.ro (.ints .i64 c)]:=by
   by_cases hlt:f.toNat<l.length
   ·exact ⟨_,_,.inr (dH l hlt)⟩
   ·exact ⟨[],[],.inl (zJ l (by omega))⟩
  obtain ⟨b,c,he|he⟩:=he
  ·(repeat' with_reducible first|intro _|refine rz ?_|refine ra ?_ ?_|omega|simp only [go_sem,List.length_map,bg,g1,he])
   refine dM.auto 1 ?_ rfl ?_<;>simp only [go_sem,Int.natCast_succ,Post,List.map_nil]
  ·(repeat' with_reducible first|intro _|refine rz ?_|refine ra ?_ ?_|omega|simp only [go_sem,List.length_map,bg,g1,he])
   refine dM.auto 1 ?_ rfl ?_<;>simp only [go_sem,Int.natCast_succ,Post,List.map_nil]
 have g1:(f<0)=False:=eq_false h1
 obtain ⟨n,rfl⟩:∃ n:Nat,f=n:=⟨f.toNat,by omega⟩
 by_cases h2:(l.length:Int)≤n
 ·have g2:((l.length:Int)≤n)=True:=eq_true h2
  have he:=zJ l (i:=n) (by omega)
  (repeat' with_reducible first|intro _|refine rz ?_|refine ra ?_ ?_|omega|simp only [go_sem,List.length_map,bg,g1,g2,he])
  refine dM.auto 1 ?_ rfl ?_<;>simp only [go_sem,Int.natCast_succ,Post,List.map_nil]
 have g2:((l.length:Int)≤n)=False:=eq_false h2
 have he:=dH l (i:=n) (by omega)
 (repeat' with_reducible first|intro _|refine rz ?_|refine ra ?_ ?_|omega|simp only [go_sem,List.length_map,bg,g1,g2,he])
 ·refine dM.auto 1 ?_ rfl ?_<;>simp only [go_sem,Int.natCast_succ,Post,List.map_nil]
 ·exact (hv (by unfold Ae;rw [Int.toNat_natCast];omega)).elim
/-! ### The documents' own pages -/
def fd (l:List Dc):Nat→AV→List AV:=fun i v=>[.str (l.getD i Dc.zero).kind,v]
instance (l:List Dc):rY (fd l):=⟨fun p i v=>by simp [fd,bW,ren],fun n i v=>by simp [fd,aC,Fv.below],fun k q i v=>by simp [fd,wz,Fv.fz],fun i v=>by simp [fd,aV,bn]⟩
def uP (l:List Dc):List au:=l.map fun d=>.ints .i64 d.pages
theorem fP (l:List Dc):(uP l).length=l.length:=by simp [uP]
theorem lC (l:List Dc):∀ r,r∈uP l→cZ r=true:=by
 intro r hr
 obtain ⟨g,_,rfl⟩:=List.mem_map.1 hr
 rfl
theorem wY (l:List Dc) {j:Nat} (h:j<(uP l).length):(uP l)[j]=.ints .i64 (l.getD j Dc.zero).pages:=by
 have hj:j<l.length:=by rw [fP] at h;exact h
 simp [uP,List.getD_eq_getElem?_getD,hj]
theorem iP (l:List Dc) {j:Nat} (h:j<l.length):lk (iy 100 ((uP l).map (.row 3))) (j+100)=some (.row 3 (.ints .i64 (l.getD j Dc.zero).pages)):=by
 refine IW ?_
 simp [uP,h,List.getD_eq_getElem?_getD]
theorem jI {l:List Dc} {i j:Nat} (h:j<i):(l.take i).getD j Dc.zero=l.getD j Dc.zero:=by
 rw [List.getD_eq_getElem?_getD,List.getElem?_take_of_lt h,List.getD_eq_getElem?_getD]
def DT (l:List Dc) (f p:Nat):List Dc:=l.set f ⟨(l.getD f Dc.zero).kind,(l.getD f Dc.zero).pages.eraseIdx p⟩
def Ce (P:List Int) (a:Nat) (x:Int):List Int:=P.take a++x::P.drop a
def mv2 (l:List Dc) (f p t a:Nat):List Dc:=(DT l f p).set t ⟨((DT l f p).getD t Dc.zero).kind,Ce ((DT l f p).getD t Dc.zero).pages a ((l.getD f Dc.zero).pages.getD p 0)⟩
def mv3 (l:List Dc) (f p t a:Nat):List Dc:=if ((mv2 l f p t a).getD f Dc.zero).pages.length=0 then (mv2 l f p t a).eraseIdx f else mv2 l f p t a
def uD (l:List Dc) (f p t:Nat) (a:Int):Int:=if a<0∨((((DT l f p).getD t Dc.zero).pages.length:Nat):Int)<a then 3 else 0
theorem II (D:List Dc) (k:Nat) (P:List Int) (i:Nat):((D.set k ⟨(D.getD k Dc.zero).kind,P⟩).getD i Dc.zero).kind=(D.getD i Dc.zero).kind:=by
 simp only [List.getD_eq_getElem?_getD,List.getElem?_set]
 by_cases h:k=i
 ·subst h
  by_cases h2:k<D.length
  ·simp [h2]
  ·simp [h2]
 ·simp [h]
theorem Ls (D:List Dc) (k:Nat) (P:List Int):fd (D.set k ⟨(D.getD k Dc.zero).kind,P⟩)=fd D:=by
 funext i v
 unfold fd
 rw [II]
theorem lu (D:List Dc) (k:Nat) (P:List Int) {i:Nat} (h:i<D.length):((D.set k ⟨(D.getD k Dc.zero).kind,P⟩).getD i Dc.zero).pages=if i=k then P else (D.getD i Dc.zero).pages:=by
 simp only [List.getD_eq_getElem?_getD,List.getElem?_set]
 by_cases e:k=i
 ·subst e;simp [h]
 ·rw [if_neg e,if_neg (fun h=>e h.symm)]
theorem Ia {a b:Item}:∀ j,j<2→∃ it,lk [(0,a),(1,b)] j=some it
 | 0,_=>⟨_,rfl⟩
 | 1,_=>⟨_,rfl⟩
 | _+2,h=>absurd h (by omega)
theorem bJ.zO {w0:World} {T0:Bs} {n k K N:Nat} {env:List (Nat × AV)} {s:S} {D:List Dc} {P:List Int} (hn:n=s.n) (hk:k<D.length) (hN:N=D.length+100) (hK:N≤K) (he:kT (p1 (k+100) K) s N env)
  (h1:lk s.rows 1=some (.row 27 (.objs 2 ((dO (fd D) 100 D.length).set k [.str (D.getD k Dc.zero).kind,.own K]))))
  (h2:lk s.rows K=some (.row 3 (.ints .i64 P))) (h3:∀ j,j<D.length→j≠k→lk s.rows (j+100)=some (.row 3 (.ints .i64 (D.getD j Dc.zero).pages))) :
  bJ w0 T0 0 s ⟨n,env,(1,.row 27 (.objs 2 (dO (fd (D.set k ⟨(D.getD k Dc.zero).kind,P⟩)) 100 D.length)))::iy 100 ((uP (D.set k ⟨(D.getD k Dc.zero).kind,P⟩)).map (.row 3)),N⟩:=by
 rw [Ls]
 refine bJ.BQ (p1 (k+100) K) (by rw [fP,List.length_set];exact hN) hn (Nat.zero_le _) (fun i hi=>by omega) (by omega) he ?_ (lC _) ?_ (LH hK)
 ·refine ⟨⟨?_,?_⟩,trivial⟩
  ·rw [y8 (by omega),h1]
   simp only [Item.ren,lX]
   rw [Eu hk]
   rfl
  ·simp only [Item.below,dN]
   exact mW (by omega)
 ·intro j hj
  have hj':j<D.length:=by rw [fP,List.length_set] at hj;exact hj
  rw [wY,lu D k P hj']
  by_cases e:j=k
  ·subst e;rw [MQ,h2,if_pos rfl]
  ·rw [y8 (by omega),h3 j hj' e,if_neg e]
theorem Jo (D:List Dc):JA (fd D) (uP D)=D.map Dc.av:=by
 apply List.ext_getElem
 ·simp [JA,uP]
 ·intro i h1 h2
  have hi:i<D.length:=by simpa using h2
  simp [JA,uP,fd,Dc.av,List.getD_eq_getElem?_getD,hi]
theorem Ir {w0:World} {T0:Bs} {n:Nat} {env:List (Nat × AV)} (D:List Dc) (henv:∀ x,x∈env→lk env x.1=some x.2∧Fv.below 100 x.2=true) :
  bJ w0 T0 0 ⟨n,env,(1,.row 27 (.objs 2 (dO (fd D) 100 D.length)))::iy 100 ((uP D).map (.row 3)),D.length+100⟩ ⟨n,env,[(1,.row 27 (jD D))],100⟩:=by
 have h:=bJ.Iu (f:=fd D) (sz:=2) (w0:=w0) (T0:=T0) (b0:=0) (n:=n) (b:=100) (c0:=1) (e:=27) (e2:=3) (C:=[]) (env:=env) (Nat.zero_le _) henv (by omega) (by simp) D.length (uP D) [] (fP D) (lC D) rfl
 rw [List.append_nil,List.append_nil,Jo] at h
 exact h
set_option maxHeartbeats 8000000 in
theorem KA (l:List Dc) (f p t:Nat) (a:Int) (h:aT l=0) (hf:f<l.length) (ht:t<l.length) (hp:p<(l.getD f Dc.zero).pages.length) (hl:l.length≤8) (hpg:∀ d,d∈l→d.pages.length≤2000000) :
  aN Tryd.prog 7 [.ro (jD l),.int .i64 f,.int .i64 p,.int .i64 t,.int .i64 a] (.tup [.own 0,.int .i64 (uD l f p t a)]) [(0,.row 27 (jD (if uD l f p t a=0 then mv3 l f p t a.toNat else [])))]:=by
 have k:=dS l
 rw [h] at k
 refine aN.of_run Tryd.func7 rfl (by decide) (by simp [Tryd.f7]) [.tmp 10,.tmp 11] rfl fun w0 T0 _=>?_
 simp only [Tryd.f7,aH]
 refine aG.fJ ?_
 (repeat' with_reducible first|intro _|exact dn|refine rn ?_|refine ra ?_ ?_)
 refine aX.of (aG.fJ ?_)
 (repeat' with_reducible first|intro _|exact dn|refine rn ?_|refine ra ?_ ?_)
 refine ak.k k ?_
 have g1:((f:Int)<0)=False:=eq_false (by omega)
 have g2:((l.length:Int)≤f)=False:=eq_false (by omega)
 have g3:((t:Int)<0)=False:=eq_false (by omega)
 have g4:((l.length:Int)≤t)=False:=eq_false (by omega)
 have g5:((p:Int)<0)=False:=eq_false (by omega)
 have g6:(((l.getD f Dc.zero).pages.length:Int)≤p)=False:=eq_false (by omega)
 have he:=dH l hf
 (repeat' with_reducible first|intro _|exact dn|refine rn ?_|refine ra ?_ ?_)
 refine aX.of (aG.fJ ?_)
 (repeat' with_reducible first|intro _|refine rz ?_|refine ra ?_ ?_|omega|simp only [go_sem,List.length_map,bg,g1,g2,g3,g4,g5,g6,he])
 refine aX.of (aG.fJ ?_)
 (repeat' with_reducible first|intro _|exact dn|refine rn ?_|refine ra ?_ ?_)
 refine aX.of (aG.fJ ?_)
 (repeat' with_reducible first|intro _|refine rz ?_|refine ra ?_ ?_|omega|simp only [go_sem,List.length_map])
 refine bY.run (fun i:Nat=>⟨128,[(56,.int .i64 i),(55,.int .i64 l.length),(54,.ro (jD l)),(13,.own 1),(1,.int .i64 f),(2,.int .i64 p),(3,.int .i64 t),(4,.int .i64 a),(999999,.dead)],(1,.row 27 (.objs 2 (dO (fd l) 100 i)))::iy 100 ((uP (l.take i)).map (.row 3)),i+100⟩) (fun i=>i≤l.length) (fun i=>l.length - i) 0 ?_ (Nat.zero_le _) fun i hi=>?_
 ·refine bJ.BQ id (by simp [fP]) rfl (Nat.zero_le _) (fun i hi=>rfl) (by omega) ?_ ?_ (lC _) ?_ (fun i j _ _ e=>e)
  ·simp only [go_sem,Int.natCast_succ,id]
  ·simp [yg,lk,Item.ren,Item.below,dO,bW,aC,lX,dN,ren,Fv.below]
  ·intro j hj;simp [uP] at hj
 by_cases hlt:i<l.length
 ·refine aG.of ?_
  have hti:(l.take i).length=i:=by rw [List.length_take];omega
  have hei:=dH l hlt
  have hpi:=hpg _ (show l.getD i Dc.zero∈l by rw [getD_lt hlt];exact List.getElem_mem hlt)
  have kc:=jr (l.getD i Dc.zero).pages (by omega)
  have hp0:=fun x=>nV ((uP (l.take i)).map (.row 3)) 100 (i+100) x (by simp [fP];omega)
  (repeat' with_reducible first|intro _|refine rz ?_|refine ra ?_ ?_|omega|simp only [go_sem,List.length_map,bg,hei,hp0])
  refine ak.o kc 1 ?_
  have hn1:(i=i+1)=False:=by simp
  have hn2:(i+100=i+101)=False:=by simp
  have hn3:(i+100=i+102)=False:=by simp
  (repeat' with_reducible first|intro _|refine rz ?_|refine ra ?_ ?_|omega|simp only [go_sem,hp0,bH,hn1,hn2,hn3])
  have q1:p2 1 (i+100+1+1+1) (i+100) (i+101) 1=i+100+1+1+1:=KR _ _ _ _
  have qn:p2 1 (i+100+1+1+1) (i+100) (i+101) (i+100)=i+101:=Jc (by omega)
  have qj:∀ j,j<i→p2 1 (i+100+1+1+1) (i+100) (i+101) (j+100)=j+100:=fun j hj=>KT (by omega) (by omega)
  have qi:∀ a b,a<i+101→b<i+101→p2 1 (i+100+1+1+1) (i+100) (i+101) a=p2 1 (i+100+1+1+1) (i+100) (i+101) b→a=b:=Jd (by omega) (by omega) (by omega)
  generalize p2 1 (i+100+1+1+1) (i+100) (i+101)=pp at *
  have htj:(l.take (i+1)).length=i+1:=by rw [List.length_take];omega
  refine ⟨i+1,?_,by omega,by omega⟩
  refine bJ.BQ pp (by rw [fP,htj]) rfl (Nat.zero_le _) (fun i hi=>by omega) (by omega) ?_ ?_ (lC _) ?_ (fun a b ha hb=>qi a b (by omega) (by omega))
  ·simp only [go_sem,Int.natCast_succ,q1]
   omega
  ·simp only [go_sem,Int.natCast_succ,yg,q1,lX]
   rw [uH qj qn]
   simp only [dN,mW (f:=fd l) (Nat.le_refl _)]
   simp [lk,fd]
  ·intro j hj
   rw [fP,htj] at hj
   by_cases e:j=i
   ·subst e
    rw [qn,gq (by omega),gq (by omega),nM,wY,jI (by omega)]
   ·rw [qj j (by omega)]
    repeat rw [gq (by omega)]
    rw [eY,if_neg (by omega),iP _ (by rw [hti];omega),wY,jI (by omega),jI (by omega)]
 ·have e:i=l.length:=by omega
  subst e
  rw [List.take_length]
  have hff:(dO (fd l) 100 l.length).getD f []=[.str (l.getD f Dc.zero).kind,.own (f+100)]:=zQ (f:=fd l) 100 l.length hf
  have hlf:=iP l hf
  have hn1:(1=f+100)=False:=eq_false (by omega)
  have hpf:=hpg _ (show l.getD f Dc.zero∈l by rw [getD_lt hf];exact List.getElem_mem hf)
  have kd:=vU (l.getD f Dc.zero).pages p hp (by omega)
  refine aG.of ?_
  (repeat' with_reducible first|intro _|refine rz ?_|refine ra ?_ ?_|omega|simp only [go_sem,List.length_map])
  refine aX.of (aG.fJ ?_)
  (repeat' with_reducible first|intro _|refine rz ?_|refine ra ?_ ?_|omega|simp only [go_sem,List.length_map,bg,hff,hlf,bH,hn1])
  refine aX.of (aG.fJ ?_)
  (repeat' with_reducible first|intro _|refine rz ?_|refine ra ?_ ?_|omega|simp only [go_sem,List.length_map,bg,hff,hlf,bH,hn1])
  refine ak.io [f+100] kd (by simp) (by simp [bW,ren,iC]) rfl (by simp [eP,iC,lk,Item.ren,Item.below,iQ,bf,hlf]) qg 2 (by simp) rfl (by simp [dK,Item.below,bf]) ?_
  (repeat' with_reducible first|intro _|refine rz ?_|refine ra ?_ ?_|omega|simp only [go_sem,S.Fp,iF,iC,qI,Item.ren,ren,bW,List.map_nil,List.getElem?_cons_zero,List.getElem?_nil,Nat.reduceSub,bH,hff])
  have hfs:∀ j,j<l.length→j≠f→lk (del (iy 100 ((uP l).map (.row 3))) (f+100)) (j+100)=some (.row 3 (.ints .i64 (l.getD j Dc.zero).pages)):=fun j hj hne=>by
   rw [eY,if_neg (by omega)];exact iP l hj
  have e1:p1 (f+100) (l.length+100) 1=1:=y8 (by omega)
  refine aX.of (aG.ent (bJ.zO (D:=l) (k:=f) (K:=l.length+100) (P:=(l.getD f Dc.zero).pages.eraseIdx p) (env:=[(13,.own 1),(16,.int .i64 ((l.getD f Dc.zero).pages.getD p 0)),(1,.int .i64 f),(3,.int .i64 t),(4,.int .i64 a),(999999,.dead)]) rfl hf rfl (Nat.le_refl _) ?_ ?_ ?_ ?_) (aG.fJ ?_))
  ·simp only [go_sem,Int.natCast_succ,e1]
   omega
  ·rw [gq (by omega),nM]
  ·rw [nM]
  ·intro j hj hne
   rw [gq (by omega),gq (by omega),nN,if_neg (by omega)]
   exact hfs j hj hne
  clear hff hlf hfs hn1 kd e1 he
  have hDl:(DT l f p).length=l.length:=List.length_set
  have hDp:((DT l f p).getD t Dc.zero).pages.length≤2000000:=by
   unfold DT
   rw [lu l f _ ht]
   have h1:=hpg _ (show l.getD t Dc.zero∈l by rw [getD_lt ht];exact List.getElem_mem ht)
   split
   ·have:=List.length_eraseIdx_le (l.getD f Dc.zero).pages p;omega
   ·omega
  have hD:l.set f ⟨(l.getD f Dc.zero).kind,(l.getD f Dc.zero).pages.eraseIdx p⟩=DT l f p:=rfl
  rw [hD]
  unfold uD mv3 mv2
  generalize DT l f p=D at *
  rw [←hDl]
  have ht':t<D.length:=by omega
  have hf':f<D.length:=by omega
  have hff:(dO (fd D) 100 D.length).getD t []=[.str (D.getD t Dc.zero).kind,.own (t+100)]:=zQ (f:=fd D) 100 D.length ht'
  have hlf:=iP D ht'
  have hn1:(1=t+100)=False:=eq_false (by omega)
  generalize (l.getD f Dc.zero).pages.getD p 0=x at *
  by_cases ha0:a<0
  ·have ga:(a<0)=True:=eq_true ha0
   rw [if_pos (.inl ha0)]
   (repeat' with_reducible first|intro _|refine rz ?_|refine ra ?_ ?_|omega|simp only [go_sem,bg,ga,hff,hlf,bH,hn1])
   refine dM.auto 1 ?_ rfl ?_<;>simp only [go_sem,Int.natCast_succ,Post,List.map_nil]
  have ga:(a<0)=False:=eq_false ha0
  by_cases ha1:((D.getD t Dc.zero).pages.length:Int)<a
  ·have gb:(((D.getD t Dc.zero).pages.length:Int)<a)=True:=eq_true ha1
   rw [if_pos (.inr ha1)]
   (repeat' with_reducible first|intro _|refine rz ?_|refine ra ?_ ?_|omega|simp only [go_sem,bg,ga,gb,hff,hlf,bH,hn1])
   refine dM.auto 1 ?_ rfl ?_<;>simp only [go_sem,Int.natCast_succ,Post,List.map_nil]
  have gb:(((D.getD t Dc.zero).pages.length:Int)<a)=False:=eq_false ha1
  rw [if_neg (fun h=>h.elim ha0 ha1),if_pos rfl]
  obtain ⟨b,rfl⟩:∃ b:Nat,a=b:=⟨a.toNat,by omega⟩
  rw [Int.toNat_natCast]
  have ki:=wG (D.getD t Dc.zero).pages b x (by omega) (by omega)
  have hn2:(1=D.length+100)=False:=eq_false (by omega)
  have hn3:(D.length+100=t+100)=False:=eq_false (by omega)
  have hn4:(t+100=D.length+100)=False:=eq_false (by omega)
  have hn5:(D.length=t)=False:=eq_false (by omega)
  (repeat' with_reducible first|intro _|refine rz ?_|refine ra ?_ ?_|omega|simp only [go_sem,bg,ga,gb,hff,hlf,bH,hn1])
  refine aX.of (aG.fJ ?_)
  (repeat' with_reducible first|intro _|refine rz ?_|refine ra ?_ ?_|omega|simp only [go_sem,bg,hff,hlf,bH,hn1])
  refine ak.io [t+100,D.length+100] ki (by simp;omega) (by simp [bW,ren,iC]) rfl (by simp [eP,iC,lk,Item.ren,Item.below,iQ,bf,hlf,hn5,hn1]) Ia 3 (by simp) rfl (by simp [dK,Item.below,bf]) ?_
  (repeat' with_reducible first|intro _|refine rz ?_|refine ra ?_ ?_|omega|simp only [go_sem,S.Fp,iF,iC,qI,Item.ren,ren,bW,List.map_nil,List.getElem?_cons_zero,List.getElem?_cons_succ,List.getElem?_nil,Nat.reduceSub,bH,hff,hn1,hn2,hn3,hn4])
  have hfs:∀ j,j<D.length→j≠t→lk (iy 100 ((uP D).map (.row 3))) (j+100)=some (.row 3 (.ints .i64 (D.getD j Dc.zero).pages)):=fun j hj hne=>iP D hj
  have e1:p1 (t+100) (D.length+101) 1=1:=y8 (by omega)
  refine aX.of (aG.ent (bJ.zO (D:=D) (k:=t) (K:=D.length+101) (P:=Ce (D.getD t Dc.zero).pages b x) (env:=[(13,.own 1),(1,.int .i64 f),(999999,.dead)]) rfl ht' rfl (by omega) ?_ ?_ ?_ ?_) ?_)
  ·simp only [go_sem,Int.natCast_succ,e1]
   omega
  ·rw [gq (by omega),nM]
  ·rw [nM];rfl
  ·intro j hj hne
   rw [gq (by omega),gq (by omega),nN,if_neg (by omega),eY,if_neg (by omega),eY,if_neg (by omega)]
   exact hfs j hj hne
  have hEl:(D.set t ⟨(D.getD t Dc.zero).kind,Ce (D.getD t Dc.zero).pages b x⟩).length=D.length:=List.length_set
  generalize D.set t ⟨(D.getD t Dc.zero).kind,Ce (D.getD t Dc.zero).pages b x⟩=E at *
  rw [←hEl]
  refine aG.ent (Ir E (by simp [lk,Fv.below])) (aG.fJ ?_)
  have he2:=dH E (i:=f) (by omega)
  by_cases h0:(E.getD f Dc.zero).pages.length=0
  ·have gz:(((E.getD f Dc.zero).pages.length:Int)=0)=True:=eq_true (by omega)
   rw [if_pos h0]
   have kD:=D7 E f (by omega) (by omega)
   (repeat' with_reducible first|intro _|refine rz ?_|refine ra ?_ ?_|omega|simp only [go_sem,List.length_map,bg,he2,gz])
   refine ak.io [1] kD (by decide) (by simp [bW,ren,iC]) rfl (by simp [eP,iC,lk,Item.ren,Item.below,iQ,bf]) qg 2 (by decide) rfl (by simp [dK,Item.below,bf]) ?_
   (repeat' with_reducible first|intro _|refine rz ?_|refine ra ?_ ?_|omega|simp only [go_sem,S.Fp,iF,iC,qI,Item.ren,ren,bW,List.map_nil,List.getElem?_cons_zero,List.getElem?_nil,Nat.reduceSub])
   refine aX.of (aG.of ?_)
   (repeat' with_reducible first|intro _|exact dn|refine rn ?_|refine ra ?_ ?_)
   refine dM.auto 1 ?_ rfl ?_<;>simp only [go_sem,Int.natCast_succ,Post]
  ·have gz:(((E.getD f Dc.zero).pages.length:Int)=0)=False:=eq_false (by omega)
   rw [if_neg h0]
   (repeat' with_reducible first|intro _|refine rz ?_|refine ra ?_ ?_|omega|simp only [go_sem,List.length_map,bg,he2,gz])
   refine aX.of (aG.of ?_)
   (repeat' with_reducible first|intro _|exact dn|refine rn ?_|refine ra ?_ ?_)
   refine dM.auto 1 ?_ rfl ?_<;>simp only [go_sem,Int.natCast_succ,Post]
end Go.Fv.J
