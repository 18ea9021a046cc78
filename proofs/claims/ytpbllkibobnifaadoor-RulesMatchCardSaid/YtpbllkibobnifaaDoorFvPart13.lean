/-
  A part of the proof of the claim: walks over the program's functions and the plain laws that these need. No condition of its own.
-/
import Derived.Test.YtpbllkibobnifaaDoorFvPart11
import Derived.ChangeArms
import Derived.ChangeSlices
import Derived.Carry
import Derived.ProofKit
import Derived.Test.YtpbllkibobnifaaDoorFvPart6
import Derived.Shelf.Vars
import Derived.Handed
set_option linter.unusedSectionVars false
set_option linter.unusedVariables false
set_option linter.unusedSimpArgs false
/-
 What arrives: arguments of every shape, as the row's reading gives them.
-/
namespace Go.Fv
open Go.RowKit
inductive CG {α β:Type} (R:α→β→Prop):List α→List β→Prop
 | nil:CG R [] []
 | cons {a:α} {b:β} {l:List α} {m:List β} (h:R a b) (t:CG R l m):CG R (a::l) (b::m)
section
variable {H:Type} {enc:TypeId × Value→H} {P:Program} {w:World} {fuel:Nat} {t:TypeId} {cs:List Value} {x:DataW H × List MemPlace}
abbrev tC (w:World):Ctx:=⟨w,fun _=>True,fun _=>undef,0⟩
def Rd (enc:TypeId × Value→H) (P:Program) (w:World) (t:TypeId) (cs:List Value) (x:DataW H × List MemPlace):Prop:=∃ fuel,DataW.trod enc P w 0 (fun _=>true) true fuel t cs=some x
theorem Rd.bool (ht:P.underlying t=some .bool) (h:Rd enc P w t cs x):∃ b,cO (tC w) [.bool b] cs:=by
 obtain ⟨f,h⟩:=h
 obtain ⟨b,rfl,_⟩:=DataW.trod_bool ht h
 exact ⟨b,.cons _ _ _ _ (.bool b) rfl .nil⟩
theorem JV {k:IntKind} {n:Int} (h:(Lit.int k n).wf=true):jf k n:=by
 simpa [Lit.wf,jf] using h
theorem Rd.int {k:IntKind} (ht:P.underlying t=some (.int k)) (h:Rd enc P w t cs x):∃ n,jf k n∧cO (tC w) [.int k n] cs:=by
 obtain ⟨f,h⟩:=h
 obtain ⟨n,rfl,_,hw⟩:=DataW.trod_int ht h
 exact ⟨n,JV hw,.cons _ _ _ _ (.int k n (JV hw)) rfl .nil⟩
theorem Rd.str (ht:P.underlying t=some .string) (h:Rd enc P w t cs x):∃ s:List UInt8,x.1=.lit (.string s)∧cO (tC w) [.str s] cs:=by
 obtain ⟨f,h⟩:=h
 obtain ⟨s,rfl,rfl,hw⟩:=DataW.trod_string ht h
 exact ⟨s.data.toList,rfl,.cons _ _ _ _ (.str _ (by simpa using hw)) rfl .nil⟩
theorem H7 {base:Nat} {a:Addr} {n:Nat} {vs:List Value} (h:w.cells? base a n=some vs):vs.length=n∧∀ j u,vs[j]?=some u→w.cell? (a.add j)=some u:=by
 obtain ⟨h1,h2,h3⟩:=World.cells?_some h
 refine ⟨h2,fun j u hu=>?_⟩
 have hj:j<n:=by rw [←h2];exact (List.getElem?_eq_some_iff.1 hu).1
 rw [h3 j hj,hu]
theorem Rd.slice {e:TypeId} (ht:P.underlying t=some (.slice e)) (h:Rd enc P w t cs x) :
  (cs=[.slice none 0 0]∧x.1=.nil)∨∃ (a:Addr) (len cap:Nat) (els:List (List Value × (DataW H × List MemPlace))) (spare:List (DataW H)),cs=[.slice (some a) len cap]∧len≤cap∧cap≤maxLen∧els.length=len∧x.1=.slice (els.map (·.2.1)) spare ∧
   (∀ y,y∈els→Rd enc P w e y.1 y.2∧y.1.length=P.cellsOf e)∧∀ i y,els[i]?=some y→∀ j u,y.1[j]?=some u→w.cell? (a.add (i*P.cellsOf e+j))=some u:=by
 obtain ⟨f,h⟩:=h
 rcases DataW.trod_slice ht h with ⟨rfl,rfl⟩|⟨a,len,cap,elems,rest,n,_,rfl,rfl,_,hl,hm,hlen,hel,_,_⟩
 ·exact .inl ⟨rfl,rfl⟩
 refine .inr ?_
 have each:∀ i,i<len→∃ vs y,w.cells? 0 (a.add (i*P.cellsOf e)) (P.cellsOf e)=some vs∧DataW.trod enc P w 0 (fun _=>true) true n e vs=some y∧elems[i]?=some y:=by
  intro i hi
  have:=hel i hi
  have hi':i<elems.length:=by omega
  rw [List.getElem?_eq_getElem hi',Option.bind_eq_some_iff] at this
  obtain ⟨vs,h1,h2⟩:=this
  exact ⟨vs,_,h1,h2,List.getElem?_eq_getElem hi'⟩
 let vsAt:Nat→List Value:=fun i=>(w.cells? 0 (a.add (i*P.cellsOf e)) (P.cellsOf e)).getD []
 have hadd:∀ (m j:Nat),(a.add m).add j=a.add (m+j):=by
  intro m j
  unfold Addr.add
  by_cases hn:m=0
  ·subst hn;simp
  ·by_cases hj:j=0
   ·subst hj;simp [hn]
   ·simp [hn,hj,Nat.add_assoc]
 refine ⟨a,len,cap,elems.zipIdx.map (fun y=>(vsAt y.2,y.1)),rest.map (·.1),rfl,hl,hm,by simp [hlen],?_,?_,?_⟩
 ·simp only [List.map_map]
  congr 1
  have:(fun y:(DataW H × List MemPlace) × Nat=>y.1.1)=(fun y=>y.1) ∘ Prod.fst:=rfl
  show elems.map (·.1)=elems.zipIdx.map (fun y=>y.1.1)
  rw [this,←List.map_map]
  simp
 ·intro y hy
  obtain ⟨z,hz,rfl⟩:=List.mem_map.1 hy
  obtain ⟨i,hi⟩:=List.getElem?_of_mem hz
  rw [List.getElem?_zipIdx] at hi
  simp only [Nat.zero_add,Option.map_eq_some_iff] at hi
  obtain ⟨u,hu,rfl⟩:=hi
  have hlt:i<len:=by rw [←hlen];exact (List.getElem?_eq_some_iff.1 hu).1
  obtain ⟨vs,y',h1,h2,h3⟩:=each i hlt
  have:y'=u:=by rw [hu] at h3;exact (Option.some.inj h3).symm
  subst this
  refine ⟨⟨n,?_⟩,?_⟩
  ·show DataW.trod enc P w 0 (fun _=>true) true n e ((w.cells? 0 (a.add (i*P.cellsOf e)) (P.cellsOf e)).getD [])=_
   rw [h1];exact h2
  ·show ((w.cells? 0 (a.add (i*P.cellsOf e)) (P.cellsOf e)).getD []).length=_
   rw [h1];exact (H7 h1).1
 ·intro i y hy j u hu
  rw [List.getElem?_map,List.getElem?_zipIdx] at hy
  simp only [Nat.zero_add,Option.map_map,Option.map_eq_some_iff] at hy
  obtain ⟨z,hz,rfl⟩:=hy
  have hlt:i<len:=by rw [←hlen];exact (List.getElem?_eq_some_iff.1 hz).1
  obtain ⟨vs,y',h1,_,_⟩:=each i hlt
  have hu':vs[j]?=some u:=by
   have:((w.cells? 0 (a.add (i*P.cellsOf e)) (P.cellsOf e)).getD [])[j]?=some u:=hu
   rw [h1] at this;exact this
  rw [←hadd];exact (H7 h1).2 j u hu'
theorem J5 {els:List (List Value)} {n:Nat} {a:Addr} (hn:∀ y,y∈els→y.length=n) (h:∀ i y,els[i]?=some y→∀ j u,y[j]?=some u→w.cell? (a.add (i*n+j))=some u):∀ j u,els.flatten[j]?=some u→w.cell? (a.add j)=some u:=by
 induction els generalizing a with
 | nil=>intro j u hu;simp at hu
 | cons y l ih=>
  intro j u hu
  have hy:=hn y (.head _)
  by_cases hj:j<y.length
  ·rw [List.flatten_cons,List.getElem?_append_left hj] at hu
   have:=h 0 y rfl j u hu
   simpa using this
  ·rw [List.flatten_cons,List.getElem?_append_right (by omega)] at hu
   have hadd:∀ (m j:Nat),(a.add m).add j=a.add (m+j):=by
    intro m j
    unfold Addr.add
    by_cases hn:m=0
    ·subst hn;simp
    ·by_cases hj:j=0
     ·subst hj;simp [hn]
     ·simp [hn,hj,Nat.add_assoc]
   have:=ih (a:=a.add n) (fun z hz=>hn z (.tail _ hz)) (fun i z hz k v hv=>by
    have:=h (i+1) z (by simpa using hz) k v hv
    rw [hadd]
    rwa [show (i+1)*n+k=n+(i*n+k) by rw [Nat.succ_mul];omega] at this) (j - y.length) u hu
   rw [hadd] at this
   rwa [show n+(j - y.length)=j by omega] at this
theorem Rd.row {e:TypeId} {β:Type} (ht:P.underlying t=some (.slice e)) (row:List β→aF) (hlen:∀ l,(row l).len=l.length) (hnil:bP (tC w) (row []) [])
  (R:β→List Value→Prop) (hrow:∀ l vss,CG R l vss→bP (tC w) (row l) vss.flatten)
  (Q:β→DataW H→Prop) (hel:∀ vs y,Rd enc P w e vs y→∃ b,R b vs∧Q b y.1) (h:Rd enc P w t cs x) :
  ∃ l:List β,cO (tC w) [.ro (row l)] cs∧((x.1=.nil∧l=[])∨∃ ds sp,x.1=.slice ds sp∧CG Q l ds):=by
 rcases h.slice ht with ⟨rfl,hx⟩|⟨a,len,cap,els,sp,rfl,hl,hm,hlen',hx,hall,hcell⟩
 ·exact ⟨[],.cons _ _ _ _ (.roNil _ hnil (hnil.IU rfl)) rfl .nil,.inl ⟨hx,rfl⟩⟩
 have key:∀ els:List (List Value × (DataW H × List MemPlace)),(∀ y,y∈els→Rd enc P w e y.1 y.2)→∃ l:List β,CG R l (els.map (·.1))∧CG Q l (els.map (·.2.1)):=by
  intro els
  induction els with
  | nil=>intro _;exact ⟨[],.nil,.nil⟩
  | cons y els ih=>
   intro hh
   obtain ⟨b,h1,h2⟩:=hel y.1 y.2 (hh y (.head _))
   obtain ⟨l,h3,h4⟩:=ih fun z hz=>hh z (.tail _ hz)
   exact ⟨b::l,.cons h1 h3,.cons h2 h4⟩
 obtain ⟨l,h1,h2⟩:=key els fun y hy=>(hall y hy).1
 have hll:l.length=len:=by
  have:∀ (l:List β) (vss:List (List Value)),CG R l vss→l.length=vss.length:=by
   intro l vss h;induction h with|nil=>rfl|cons _ _ ih=>simp [ih]
  have:=this _ _ h1
  simpa [hlen'] using this
 refine ⟨l,.cons _ _ _ _ (.ro _ a len cap _ (hrow _ _ h1) (by rw [hlen,hll]) hl hm ⟨trivial,fun _=>trivial,?_⟩ ((hrow _ _ h1).IU rfl)) rfl .nil,.inr ⟨_,_,hx,h2⟩⟩
 refine J5 (n:=P.cellsOf e) (fun y hy=>?_) (fun i y hy j u hu=>?_)
 ·obtain ⟨z,hz,rfl⟩:=List.mem_map.1 hy;exact (hall z hz).2
 ·rw [List.getElem?_map] at hy
  simp only [Option.map_eq_some_iff] at hy
  obtain ⟨z,hz,rfl⟩:=hy
  exact hcell i z hz j u hu
theorem bP.intsIn {c:Ctx} {k:IntKind} {l:List Int} {cells:List Value} (h:bP c (.ints k l) cells):∀ n,n∈l→jf k n:=by
 generalize hr:aF.ints k l=r at h
 cases h<;>cases hr
 assumption
def lenD:DataW H→Nat
 | .slice ds _=>ds.length
 | .lit (.string s)=>s.length
 | _=>0
theorem CG.length {α β:Type} {R:α→β→Prop} {l:List α} {m:List β} (h:CG R l m):l.length=m.length:=by
 induction h with|nil=>rfl|cons _ _ ih=>simp [ih]
theorem Rd.bools {e:TypeId} (ht:P.underlying t=some (.slice e)) (he:P.underlying e=some .bool) (h:Rd enc P w t cs x):∃ l:List Bool,cO (tC w) [.ro (.bools l)] cs∧l.length=lenD x.1:=by
 obtain ⟨l,h1,h2⟩:=Rd.row (β:=Bool) ht .bools (fun _=>rfl) (.bools []) (fun b vs=>vs=[.bool b]) (fun l vss hv=>by
  have:vss.flatten=l.map Value.bool:=by induction hv with|nil=>rfl|cons h _ ih=>subst h;simp [ih]
  rw [this];exact .bools l) (fun _ _=>True) (fun vs y hy=>by
   obtain ⟨f,hy⟩:=hy
   obtain ⟨b,rfl,_⟩:=DataW.trod_bool he hy
   exact ⟨b,rfl,trivial⟩) h
 refine ⟨l,h1,?_⟩
 rcases h2 with ⟨e1,e2⟩|⟨ds,sp,e1,e2⟩
 ·rw [e1,e2];rfl
 ·rw [e1];exact e2.length
theorem Rd.ints {e:TypeId} {k:IntKind} (ht:P.underlying t=some (.slice e)) (he:P.underlying e=some (.int k)) (h:Rd enc P w t cs x):∃ l:List Int,(∀ n,n∈l→jf k n)∧cO (tC w) [.ro (.ints k l)] cs∧l.length=lenD x.1:=by
 obtain ⟨l,h1,h2⟩:=Rd.row (β:=Int) ht (.ints k) (fun _=>rfl) (.ints k [] (fun x hx=>by cases hx)) (fun n vs=>vs=[.int k n]∧jf k n) (fun l vss hv=>by
  have:vss.flatten=l.map (Value.int k)∧∀ n,n∈l→jf k n:=by
   induction hv with
   | nil=>exact ⟨rfl,fun n hn=>by cases hn⟩
   | cons h _ ih=>
    obtain ⟨rfl,h2⟩:=h
    refine ⟨by simp [ih.1],fun n hn=>?_⟩
    cases List.mem_cons.1 hn with
    | inl e=>subst e;exact h2
    | inr e=>exact ih.2 n e
  rw [this.1];exact .ints k l this.2) (fun _ _=>True) (fun vs y hy=>by
   obtain ⟨f,hy⟩:=hy
   obtain ⟨n,rfl,_,hw⟩:=DataW.trod_int he hy
   exact ⟨n,⟨rfl,JV hw⟩,trivial⟩) h
 have hin:∀ n,n∈l→jf k n:=by
  cases h1 with
  | cons _ v _ _ hv _ _=>
   cases hv with
   | roNil _ hr=>exact hr.intsIn
   | ro _ _ _ _ _ hr=>exact hr.intsIn
 refine ⟨l,hin,h1,?_⟩
 rcases h2 with ⟨e1,e2⟩|⟨ds,sp,e1,e2⟩
 ·rw [e1,e2];rfl
 ·rw [e1];exact e2.length
/-! ### Arguments one by one -/
theorem L8 {base:Nat} {v:Value} {d:TypeDesc} (ht:P.underlying t=some d) (hd:d=.bool∨(∃ k,d=.int k)∨d=.string∨∃ e,d=.slice e) (h:Value.okWide P w .any base t v):v.cells.toList=[v]:=by
 unfold Value.okWide at h
 rw [ht] at h
 have h':Cell.okWide P w .any base t v:=by
  rcases hd with rfl|⟨k,rfl⟩|rfl|⟨e,rfl⟩<;>exact h
 unfold Cell.okWide at h'
 rw [ht] at h'
 have h2:Cell.ok P w .any base t v:=by
  rcases hd with rfl|⟨k,rfl⟩|rfl|⟨e,rfl⟩<;>exact h'
 unfold Cell.ok at h2
 rw [ht] at h2
 cases v<;>first|rfl|(rcases hd with rfl|⟨k,rfl⟩|rfl|⟨e,rfl⟩<;>exact h2.elim)
theorem cO.hd {c:Ctx} {a:AV} {v:Value} (h:cO c [a] [v]):Rv c a v:=by cases h;assumption
theorem Trod.rd {v:Value} {d:DataW H} {ps:List MemPlace} (h:DataW.Trod enc P w 0 (fun _=>true) true t v d ps):Rd enc P w t v.cells.toList (d,ps):=h
theorem Tm {base:Nat} {v:Value} {d:DataW H} {ps:List MemPlace} {k:IntKind} (ht:P.underlying t=some (.int k)) (hv:Value.okWide P w .any base t v) (h:DataW.Trod enc P w 0 (fun _=>true) true t v d ps):∃ n,jf k n∧Rv (tC w) (.int k n) v:=by
 obtain ⟨b,hk,hb⟩:=(Trod.rd h).int ht
 rw [L8 ht (.inr (.inl ⟨k,rfl⟩)) hv] at hb
 exact ⟨b,hk,hb.hd⟩
/-! ### What the row asks behind the call -/
theorem Es (hl:laidOutB P=true) {W W':World} (hB:Below W.heap.size W W'):∀ {ts:List TypeId} {vs:List Value} {ds:List (DataW H)} {ps:List MemPlace},(∀ t,t∈ts→P.readableRec t=true∧t<P.types.size) →
  DataW.TrodAll enc P W 0 (fun _=>true) true ts vs ds ps→(∀ p,p∈ps→p.block<W.heap.size)→DataW.TrodAll enc P W' 0 (fun b=>decide (b<W.heap.size)) true ts vs ds ps
 | [],_,_,_,_,h,_=>by
  obtain ⟨rfl,rfl,rfl⟩:=ChangeShapes.trodAll_nil h
  exact h
 | t::ts,_,_,_,hr,h,hlt=>by
  obtain ⟨v,vs,d,ds,p,q,rfl,rfl,rfl,h1,h2⟩:=ChangeShapes.trodAll_cons h
  obtain ⟨k1,k2⟩:=hr t (.head _)
  exact ⟨p,q,Below.trod hl k1 k2 h1 hB (fun x hx=>hlt x (List.mem_append.2 (.inl hx))),Es hl hB (fun u hu=>hr u (.tail _ hu)) h2 (fun x hx=>hlt x (List.mem_append.2 (.inr hx))),rfl⟩
theorem L6:∀ {ts:List TypeId} {vs:List Value} {ds:List (DataW H)} {ps:List MemPlace} {W:World},DataW.TrodAll enc P W 0 (fun _=>true) true ts vs ds ps→ds.length=ts.length
 | [],_,_,_,_,h=>by obtain ⟨rfl,rfl,rfl⟩:=ChangeShapes.trodAll_nil h;rfl
 | t::ts,_,_,_,_,h=>by
  obtain ⟨v,vs,d,ds,p,q,rfl,rfl,rfl,h1,h2⟩:=ChangeShapes.trodAll_cons h
  simp [L6 h2]
theorem OX {f:Func} {s:ChangeSpec} {W W':World} {args:Array Value} {ds gs:List (DataW H)} {before:List MemPlace} {tb:TypeId}
  (hW:DataW.Whole enc P f.params.toList s.vars false W args.toList ds gs before) (hvars:s.vars=[]) (hfn:∀ l:List (DataW H),l.length=f.params.size→s.fn H l={ results:=[.lit (.bool true)],args:=l })
  (hres:f.resultTypes=#[tb]) (hb:P.underlying tb=some .bool) (hl:laidOutB P=true) (hr:∀ t,t∈f.params.toList→P.readableRec t=true∧t<P.types.size) (hB:Below W.heap.size W W') :
  s.post enc P f false true false false W args (.bool true) W':=by
 have hlt:=hW.lt
 have hW':=hW
 obtain ⟨p,q,hA,hV,rfl,_,_⟩:=hW'
 rw [hvars] at hV
 obtain ⟨rfl,rfl⟩:gs=[]∧q=[]:=by
  cases gs with
  | nil=>exact ⟨rfl,hV⟩
  | cons _ _=>exact hV.elim
 have hf:=hfn (ds++[]) (by rw [List.append_nil,L6 hA];simp)
 refine ⟨ds,[],p++[],[],p,[],hW,?_,?_,?_,hB.frame _,fun h=>by cases h⟩
 ·rw [hf,hres]
  exact ⟨[],[],RowKit.shut_bool hb true,rfl,rfl⟩
 ·rw [hf]
  have:=Es (enc:=enc) hl hB hr hA (fun x hx=>hlt x (by simpa using hx))
  simpa using this
 ·rw [hf,hvars]
  rfl
theorem J4 {fid:Nat} {f:Func} {s:ChangeSpec} {W:World} {args:Array Value} {ds gs:List (DataW H)} {before:List MemPlace} {tb:TypeId} {avs:List AV} (h:aU P fid avs (.bool true) []) (hgl:kX P W) (ha:dH (tC W) avs args.toList)
  (hW:DataW.Whole enc P f.params.toList s.vars false W args.toList ds gs before) (hvars:s.vars=[]) (hfn:∀ l:List (DataW H),l.length=f.params.size→s.fn H l={ results:=[.lit (.bool true)],args:=l })
  (hres:f.resultTypes=#[tb]) (hb:P.underlying tb=some .bool) (hl:laidOutB P=true) (hr:∀ t,t∈f.params.toList→P.readableRec t=true∧t<P.types.size) :
  Calls P fid args W fun e W'=>∃ v,e=.returned v∧s.post enc P f false true false false W args v W':=by
 refine (h.2 W (fun _=>True) args.toList hgl ha).mono ?_
 rintro e W' ⟨v,rfl,hB,m,N,hrv,_⟩
 cases hrv
 exact ⟨_,rfl,OX hW hvars hfn hres hb hl hr hB.plain⟩
end
end Go.Fv
/-
 What arrives: structs.
-/
namespace Go.Fv
open Go.RowKit
section
variable {H:Type} {enc:TypeId × Value→H} {P:Program} {w:World} {t:TypeId} {cs:List Value} {x:DataW H × List MemPlace}
theorem Rd.fields {fs:Array Field} (ht:P.underlying t=some (.struct fs)) (h:Rd enc P w t cs x):cs.length=P.cellsOf t∧∃ xs:List (DataW H × List MemPlace),x.1=.agg (xs.map (·.1))∧xs.length=fs.size ∧
  ∀ (i:Nat) (f:Field),fs[i]?=some f→∃ y,xs[i]?=some y∧Rd enc P w f.type ((cs.drop f.offset).take (P.cellsOf f.type)) y:=by
 obtain ⟨fuel,h⟩:=h
 obtain ⟨xs,n,_,rfl,hl,hn,hf⟩:=DataW.trod_struct ht h
 refine ⟨hl,xs,rfl,hn,fun i f hi=>?_⟩
 have hlt:i<xs.length:=by rw [hn];exact (Array.getElem?_eq_some_iff.1 hi).1
 refine ⟨xs[i],List.getElem?_eq_getElem hlt,n,?_⟩
 rw [hf i f hi,List.getElem?_eq_getElem hlt]
theorem JZ {base:Nat} {v:Value} {d:DataW H} {ps:List MemPlace} {fs:Array Field} (ht:P.underlying t=some (.struct fs)) (hv:Value.okWide P w .any base t v) (h:DataW.Trod enc P w 0 (fun _=>true) true t v d ps) :
  ∃ cs:List Value,v=.agg cs.toArray∧Rd enc P w t cs (d,ps):=by
 unfold Value.okWide at hv
 rw [ht] at hv
 obtain ⟨cs,rfl,_⟩:=hv
 exact ⟨cs.toList,by simp,Trod.rd h⟩
theorem cO.app {c:Ctx}:∀ {l l':List AV} {vs vs':List Value},cO c l vs→cO c l' vs'→cO c (l++l') (vs++vs')
 | _,_,_,_,.nil,h=>h
 | _,_,_,_,.cons x v l vs hx h1 ht,h=>.cons x v _ _ hx h1 (ht.app h)
theorem Rd.page {f0 f1 f2:Field} (ht:P.underlying t=some (.struct #[f0,f1,f2])) (hc:P.cellsOf t=3) (o:f0.offset=0∧f1.offset=1∧f2.offset=2) (c:P.cellsOf f0.type=1∧P.cellsOf f1.type=1∧P.cellsOf f2.type=1)
  (u0:P.underlying f0.type=some (.int .i64)) (u1:P.underlying f1.type=some (.int .i64)) {α:Type} (row:α→AV) (I:α→Prop) (len:α→Nat)
  (hrow:∀ cs x,Rd enc P w f2.type cs x→∃ l,I l∧cO (tC w) [row l] cs∧len l=lenD x.1) (h:Rd enc P w t cs x) :
  ∃ (W H':Int) (l:α),jf .i64 W∧jf .i64 H'∧I l∧cO (tC w) [.int .i64 W,.int .i64 H',row l] cs∧∃ a b d,x.1=.agg [a,b,d]∧len l=lenD d:=by
 obtain ⟨hl,xs,hx,hn,hf⟩:=h.fields ht
 rw [hc] at hl
 match cs,hl with
 | [c0,c1,c2],_=>
  obtain ⟨y0,g0,r0⟩:=hf 0 f0 rfl
  obtain ⟨y1,g1,r1⟩:=hf 1 f1 rfl
  obtain ⟨y2,g2,r2⟩:=hf 2 f2 rfl
  rw [o.1,c.1] at r0
  rw [o.2.1,c.2.1] at r1
  rw [o.2.2,c.2.2] at r2
  obtain ⟨W,k0,v0⟩:=r0.int u0
  obtain ⟨H',k1,v1⟩:=r1.int u1
  obtain ⟨l,hI,v2,hlen⟩:=hrow _ _ r2
  match xs,hn with
  | [z0,z1,z2],_=>
   simp at g0 g1 g2
   subst g0;subst g1;subst g2
   exact ⟨W,H',l,k0,k1,hI,(v0.app v1).app v2,_,_,_,hx,hlen⟩
end
end Go.Fv
/-
 What arrives: rows of texts and of structs.
-/
namespace Go.Fv
open Go.RowKit
section
variable {H:Type} {enc:TypeId × Value→H} {P:Program} {w:World} {t:TypeId} {cs:List Value} {x:DataW H × List MemPlace}
theorem cO.str1 {c:Ctx} {s:List UInt8} {vs:List Value} (h:cO c [.str s] vs):vs=[.string ⟨s.toArray⟩]∧s.length≤maxLen:=by
 cases h with
 | cons _ v _ _ hv _ ht=>
  cases ht
  cases hv with
  | str _ h=>exact ⟨rfl,h⟩
theorem Rd.strs {e:TypeId} (ht:P.underlying t=some (.slice e)) (he:P.underlying e=some .string) (h:Rd enc P w t cs x):∃ l:List (List UInt8),(∀ s,s∈l→s.length≤maxLen)∧cO (tC w) [.ro (.strs l)] cs:=by
 obtain ⟨l,h1,h2⟩:=Rd.row (β:=List UInt8) ht .strs (fun _=>rfl) (.strs [] (fun x hx=>by cases hx)) (fun b vs=>cO (tC w) [.str b] vs) (fun l vss hv=>by
  have:vss.flatten=l.map (fun s=>Value.string ⟨s.toArray⟩)∧∀ s,s∈l→s.length≤maxLen:=by
   induction hv with
   | nil=>exact ⟨rfl,fun s hs=>by cases hs⟩
   | cons h _ ih=>
    obtain ⟨rfl,hl⟩:=h.str1
    refine ⟨by simp [ih.1],fun s hs=>?_⟩
    cases List.mem_cons.1 hs with
    | inl e=>subst e;exact hl
    | inr e=>exact ih.2 s e
  rw [this.1];exact .strs l this.2) (fun _ _=>True) (fun vs y hy=>by
   obtain ⟨s,_,hs⟩:=hy.str he
   exact ⟨s,hs,trivial⟩) h
 refine ⟨l,?_,h1⟩
 cases h1 with
 | cons _ v _ _ hv _ _=>
  have go:∀ {cells:List Value},bP (tC w) (.strs l) cells→∀ s,s∈l→s.length≤maxLen:=by
   intro cells hr
   generalize hq:aF.strs l=r at hr
   cases hr<;>cases hq
   assumption
  cases hv with
  | roNil _ hr=>exact go hr
  | ro _ _ _ _ _ hr=>exact go hr
theorem Rd.objs {e:TypeId} {β:Type} (ht:P.underlying t=some (.slice e)) (n:Nat) (hn:0<n) (av:β→List AV) (hid:∀ b,bT (av b)=true) (hlen:∀ b,(av b).length=n) (I:β→Prop)
  (hel:∀ vs y,Rd enc P w e vs y→∃ b,cO (tC w) (av b) vs∧I b) (h:Rd enc P w t cs x):∃ l:List β,(∀ b,b∈l→I b)∧cO (tC w) [.ro (.objs n (l.map av))] cs:=by
 obtain ⟨l,h1,h2⟩:=Rd.row (β:={ b:β // I b }) ht (fun l=>.objs n (l.map fun b=>av b.1)) (fun l=>by simp [aF.len]) (.objs n [] [] hn (.nil n)) (fun b vs=>cO (tC w) (av b.1) vs) (fun l vss hv=>by
  refine .objs n _ _ hn ?_
  induction hv with
  | nil=>exact .nil n
  | cons h _ ih=>exact .cons n _ _ _ _ h (by rw [h.length];exact hlen _) ih) (fun _ _=>True) (fun vs y hy=>by
   obtain ⟨b,hb,hI⟩:=hel vs y hy
   exact ⟨⟨b,hI⟩,hb,trivial⟩) h
 refine ⟨l.map (·.1),fun b hb=>?_,?_⟩
 ·obtain ⟨y,_,rfl⟩:=List.mem_map.1 hb;exact y.2
 ·rw [List.map_map];exact h1
theorem PY {base:Nat} {v:Value} {d:DataW H} {ps:List MemPlace} {e:TypeId} {β:Type} (ht:P.underlying t=some (.slice e)) (n:Nat) (hn:0<n) (av:β→List AV) (hid:∀ b,bT (av b)=true) (hlen:∀ b,(av b).length=n) (I:β→Prop)
  (hel:∀ vs y,Rd enc P w e vs y→∃ b,cO (tC w) (av b) vs∧I b) (hv:Value.okWide P w .any base t v) (h:DataW.Trod enc P w 0 (fun _=>true) true t v d ps) :
  ∃ l:List β,(∀ b,b∈l→I b)∧Rv (tC w) (.ro (.objs n (l.map av))) v:=by
 obtain ⟨b,hb,hk⟩:=(Trod.rd h).objs ht n hn av hid hlen I hel
 rw [L8 ht (.inr (.inr (.inr ⟨e,rfl⟩))) hv] at hk
 exact ⟨b,hb,hk.hd⟩
end
end Go.Fv
/-
 What arrives: structs, field by field.
-/
namespace Go.Fv
open Go.RowKit
section
variable {H:Type} {enc:TypeId × Value→H} {P:Program} {w:World} {t:TypeId} {cs:List Value} {x:DataW H × List MemPlace}
theorem Rd.at {fs:Array Field} (ht:P.underlying t=some (.struct fs)) (h:Rd enc P w t cs x) (i:Nat) (f:Field) (hf:fs[i]?=some f) (o n:Nat) (ho:f.offset=o) (hn:P.cellsOf f.type=n):∃ y,Rd enc P w f.type ((cs.drop o).take n) y:=by
 obtain ⟨_,xs,_,_,hx⟩:=h.fields ht
 obtain ⟨y,_,hy⟩:=hx i f hf
 rw [ho,hn] at hy
 exact ⟨y,hy⟩
theorem Rd.len {fs:Array Field} (ht:P.underlying t=some (.struct fs)) (h:Rd enc P w t cs x):cs.length=P.cellsOf t:=(h.fields ht).1
theorem WQ {α:Type} (l:List α) (a b:Nat) (h:l.length=a+b):l=(l.drop 0).take a++(l.drop a).take b:=by
 rw [List.drop_zero]
 have:(l.drop a).take b=l.drop a:=List.take_of_length_le (by simp;omega)
 rw [this,List.take_append_drop]
theorem Xu {α:Type} (l:List α) (a b c:Nat) (h:l.length=a+b+c):l=(l.drop 0).take a++((l.drop a).take b++(l.drop (a+b)).take c):=by
 have:=WQ (l.drop a) b c (by simp;omega)
 simp only [List.drop_drop,Nat.add_zero] at this
 rw [←this,List.drop_zero,List.take_append_drop]
theorem Xv {α:Type} (l:List α) (a b c d:Nat) (h:l.length=a+b+c+d):l=(l.drop 0).take a++((l.drop a).take b++((l.drop (a+b)).take c++(l.drop (a+b+c)).take d)):=by
 have:=Xu (l.drop a) b c d (by simp;omega)
 simp only [List.drop_drop,Nat.add_zero,←Nat.add_assoc] at this
 rw [←this,List.drop_zero,List.take_append_drop]
theorem Rd.s2 {f0 f1:Field} (ht:P.underlying t=some (.struct #[f0,f1])) (a b:Nat) (hc:P.cellsOf t=a+b) (o:f0.offset=0∧f1.offset=a) (c:P.cellsOf f0.type=a∧P.cellsOf f1.type=b)
  {α β:Type} {av:α→List AV} {bv:β→List AV} (h0:∀ cs x,Rd enc P w f0.type cs x→∃ l,cO (tC w) (av l) cs) (h1:∀ cs x,Rd enc P w f1.type cs x→∃ l,cO (tC w) (bv l) cs) (h:Rd enc P w t cs x) :
  ∃ l m,cO (tC w) (av l++bv m) cs:=by
 obtain ⟨y0,r0⟩:=h.at ht 0 f0 rfl _ _ o.1 c.1
 obtain ⟨y1,r1⟩:=h.at ht 1 f1 rfl _ _ o.2 c.2
 obtain ⟨l,v0⟩:=h0 _ _ r0
 obtain ⟨m,v1⟩:=h1 _ _ r1
 refine ⟨l,m,?_⟩
 rw [WQ cs a b (by rw [h.len ht,hc])]
 exact v0.app v1
theorem Rd.s4 {f0 f1 f2 f3:Field} (ht:P.underlying t=some (.struct #[f0,f1,f2,f3])) (a b d e:Nat) (hc:P.cellsOf t=a+b+d+e) (o:f0.offset=0∧f1.offset=a∧f2.offset=a+b∧f3.offset=a+b+d) (c:P.cellsOf f0.type=a∧P.cellsOf f1.type=b∧P.cellsOf f2.type=d∧P.cellsOf f3.type=e)
  {α β γ δ:Type} {av:α→List AV} {bv:β→List AV} {gv:γ→List AV} {dv:δ→List AV} (h0:∀ cs x,Rd enc P w f0.type cs x→∃ l,cO (tC w) (av l) cs) (h1:∀ cs x,Rd enc P w f1.type cs x→∃ l,cO (tC w) (bv l) cs) (h2:∀ cs x,Rd enc P w f2.type cs x→∃ l,cO (tC w) (gv l) cs) (h3:∀ cs x,Rd enc P w f3.type cs x→∃ l,cO (tC w) (dv l) cs) (h:Rd enc P w t cs x) :
  ∃ l m n k,cO (tC w) (av l++(bv m++(gv n++dv k))) cs:=by
 obtain ⟨y0,r0⟩:=h.at ht 0 f0 rfl _ _ o.1 c.1
 obtain ⟨y1,r1⟩:=h.at ht 1 f1 rfl _ _ o.2.1 c.2.1
 obtain ⟨y2,r2⟩:=h.at ht 2 f2 rfl _ _ o.2.2.1 c.2.2.1
 obtain ⟨y3,r3⟩:=h.at ht 3 f3 rfl _ _ o.2.2.2 c.2.2.2
 obtain ⟨l,v0⟩:=h0 _ _ r0
 obtain ⟨m,v1⟩:=h1 _ _ r1
 obtain ⟨n,v2⟩:=h2 _ _ r2
 obtain ⟨k,v3⟩:=h3 _ _ r3
 refine ⟨l,m,n,k,?_⟩
 rw [Xv cs a b d e (by rw [h.len ht,hc])]
 exact v0.app (v1.app (v2.app v3))
theorem Rd.int' {k:IntKind} (ht:P.underlying t=some (.int k)) (h:Rd enc P w t cs x):∃ n:Int,cO (tC w) [.int k n] cs:=by obtain ⟨n,_,h⟩:=h.int ht;exact ⟨n,h⟩
theorem Rd.bool' (ht:P.underlying t=some .bool) (h:Rd enc P w t cs x):∃ n:Bool,cO (tC w) [.bool n] cs:=h.bool ht
end
end Go.Fv
/-
 What a row's first world gives of package-level integers.
-/
namespace Go.Fv
open Go.RowKit Go.ChangeShapes Go.WideShapes
def Vj (w:World) (P:Program) (g:Nat) (k:IntKind):Bool:=match (w.heap[g]?).bind Obj.row? with
 | some (zero,t)=>decide (zero.size=1) && P.buildable t && decide (P.cellTypes P.depth t=some [t]) && (match P.underlying t with|some (.int k')=>decide (k'=k)|_=>false)
 | none=>false
def Vk (P:Program):Bool:=(List.range P.globals.size).all fun g=>match Aw P g with
 | some k=>Vj (begin P (fun _ _=>0) default).world P g k
 | none=>true
def Sj (P:Program):Bool:=Vk P && (List.range P.globals.size).all fun g=>!MK P g
def Sl (P:Program):Bool:=Sj P && (List.range P.globals.size).all fun g=>!IZ P g
def Xe (P:Program):Bool:=Sl P && (List.range P.globals.size).all fun g=>!Ey P g
theorem kX.KO {P:Program} {w:World} (hs:Vk P=true) (h:w.ShapedOpen P) (htab:∀ g,Ey P g=true→∃ ob,w.heap[g]?=some ob∧JU .tab ob)
  (hpow:∀ g,IZ P g=true→∃ ob,w.heap[g]?=some ob∧JU .pow ob) (herr:∀ g,MK P g=true→∃ ob,w.heap[g]?=some ob∧JU .err ob):kX P w:=by
 suffices hI:∀ g k,Aw P g=some k→∃ (n:Int) (t:TypeId),jf k n∧w.heap[g]?=some (.cells #[.int k n] t (0,0)) by
  intro g k hg
  unfold Ub at hg
  split at hg
  ·rename_i k' hk
   cases hg
   obtain ⟨n,t,h1,h2⟩:=hI g k' hk
   exact ⟨_,h2,n,t,h1,rfl⟩
  ·split at hg
   ·rename_i ht
    cases hg
    exact htab g ht
   ·split at hg
    ·rename_i ht
     cases hg
     exact hpow g ht
    ·split at hg
     ·rename_i ht
      cases hg
      exact herr g ht
     ·cases hg
 intro g k hg
 have hlt:g<P.globals.size:=by
  by_cases hlt:g<P.globals.size
  ·exact hlt
  ·unfold Aw at hg
   rw [Array.getElem?_eq_none (Nat.le_of_not_lt hlt)] at hg
   cases hg
 have h1:=List.all_eq_true.1 hs g (List.mem_range.2 hlt)
 rw [hg] at h1
 dsimp only at h1
 unfold Vj at h1
 split at h1
 ·rename_i zero t hz
  simp only [Bool.and_eq_true,decide_eq_true_eq] at h1
  obtain ⟨⟨⟨hz1,hb⟩,hc⟩,hu⟩:=h1
  have hu:P.underlying t=some (.int k):=by
   split at hu
   ·rename_i k' e;rw [e,of_decide_eq_true hu]
   ·cases hu
  obtain ⟨cs,hh,hsz,hr⟩:=h.1 g zero t hlt hz
  obtain ⟨ts,hts,_,hall⟩:=hr hb
  rw [hc] at hts
  cases hts
  have h1:0<cs.size:=by omega
  obtain ⟨u,hu',hok⟩:=hall 0 cs[0] (by simp [h1])
  have:u=t:=by simpa using hu'.symm
  subst this
  unfold Cell.ok at hok
  rw [hu] at hok
  have e:cs=#[cs[0]]:=by
   apply Array.ext
   ·simp;omega
   ·intro i h1 h2
    simp at h2
    subst h2;simp
  cases hv:cs[0]<;>rw [hv] at hok<;>simp at hok
  case int k' n=>
   obtain ⟨rfl,hk⟩:=hok
   refine ⟨n,u,?_,by rw [hh,e,hv]⟩
   exact hk
 ·cases h1
theorem kX.KN {P:Program} {w:World} (hs:Sj P=true) (h:w.ShapedOpen P) (htab:∀ g,Ey P g=true→∃ ob,w.heap[g]?=some ob∧JU .tab ob)
  (hpow:∀ g,IZ P g=true→∃ ob,w.heap[g]?=some ob∧JU .pow ob):kX P w:=by
 unfold Sj at hs
 simp only [Bool.and_eq_true] at hs
 refine kX.KO hs.1 h htab hpow fun g hg=>?_
 have hlt:g<P.globals.size:=by
  by_cases hlt:g<P.globals.size
  ·exact hlt
  ·unfold MK at hg
   rw [Array.getElem?_eq_none (Nat.le_of_not_lt hlt)] at hg
   cases hg
 have:=List.all_eq_true.1 hs.2 g (List.mem_range.2 hlt)
 rw [hg] at this
 cases this
theorem kX.KP {P:Program} {w:World} (hs:Sl P=true) (h:w.ShapedOpen P) (htab:∀ g,Ey P g=true→∃ ob,w.heap[g]?=some ob∧JU .tab ob):kX P w:=by
 unfold Sl at hs
 simp only [Bool.and_eq_true] at hs
 refine kX.KN hs.1 h htab fun g hg=>?_
 have hlt:g<P.globals.size:=by
  by_cases hlt:g<P.globals.size
  ·exact hlt
  ·unfold IZ at hg
   rw [Array.getElem?_eq_none (Nat.le_of_not_lt hlt)] at hg
   cases hg
 have:=List.all_eq_true.1 hs.2 g (List.mem_range.2 hlt)
 rw [hg] at this
 cases this
theorem kX.OU {P:Program} {w:World} (hs:Xe P=true) (h:w.ShapedOpen P):kX P w:=by
 unfold Xe at hs
 simp only [Bool.and_eq_true] at hs
 refine kX.KP hs.1 h fun g hg=>?_
 have hlt:g<P.globals.size:=by
  by_cases hlt:g<P.globals.size
  ·exact hlt
  ·unfold Ey at hg
   rw [Array.getElem?_eq_none (Nat.le_of_not_lt hlt)] at hg
   cases hg
 have:=List.all_eq_true.1 hs.2 g (List.mem_range.2 hlt)
 rw [hg] at this
 cases this
variable {H:Type} {enc:TypeId × Value→H}
theorem xJ {a:Assume} {C:Checked} {os:Os} {f:FuncId} {fn:Func} {s:ChangeSpec} {conds:List PathCond} {apart fresh handsOn again:Bool} {X:World→Array Value→Prop}
  (hX:∀ (w w':World) (args:Array Value),w.heap=w'.heap→X w args→X w' args)
  (own:ownKnob C.prog.godebug=none) (started:os.Started) (noInit:C.prog.inits.idxOf? f=none) (hfn:C.prog.funcs[f]?=some fn)
  (witness:∃ (w:World) (tape:Tape) (i:Input),w.os=os∧(w.forCall tape i).Shaped C.prog∧i.vars=[]∧Input.okWide C.prog (w.forCall tape i) .any w.heap.size f i ∧
   ((s.pre enc C.prog fn conds apart (w.forCall tape i).memory i.args∧X (w.forCall tape i).memory i.args)∧sizedMet enc C.prog fn (OpenSpec.ofChange s) apart (w.forCall tape i).memory i.args)∧a.holds C.prog (lone (Frame.enter C.prog f i.args .normal) [] (w.forCall tape i)))
  (contract:∀ (W:World) (base:Nat) (args:Array Value) (ds gs:List (DataW H)) (before:List MemPlace),W.ShapedOpen C.prog →
   (∀ (j:Nat) t v,fn.params[j]?=some t→args[j]?=some v→Value.okWide C.prog W .any base t v) →
   DataW.Whole enc C.prog fn.params.toList s.vars apart W args.toList ds gs before →
   Calls C.prog f args W fun e W'=>∃ v,e=.returned v∧s.post enc C.prog fn apart fresh handsOn again W args v W') :
  ReturnsInHanded a C os f .any (fun w args=>(s.pre enc C.prog fn conds apart w args∧X w args)∧sizedMet enc C.prog fn (OpenSpec.ofChange s) apart w args) (s.post enc C.prog fn apart fresh handsOn again):=by
 refine returnsInHanded_of_calls own started noInit witness ?_
 intro w tape i _ hsh _ hok hpre hholds
 obtain ⟨_,_,_,fn',hfn',_,_,_,_,hval⟩:=hok
 have e:fn'=fn:=Option.some.inj (hfn'.symm.trans hfn)
 subst e
 obtain ⟨⟨⟨ds,gs,before,hw,hc⟩,hx⟩,hz⟩:=hpre
 have hw':=DataW.Whole.of_heap (w':=w.forCall tape i) (by rfl) hw
 refine (contract (w.forCall tape i) w.heap.size i.args ds gs before hsh hval hw').mono fun e W' ⟨v,he,hp⟩=>?_
 subst he
 exact ChangeSpec.post_blind hp
end Go.Fv
