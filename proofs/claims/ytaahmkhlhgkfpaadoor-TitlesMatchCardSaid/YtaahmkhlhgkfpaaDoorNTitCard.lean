/-
  Proved: the card of the law TitlesMatch: at every input the law's function returns true, and each argument reads behind the call as it read before.
  Conditions: none of its own; those of the given row: the library tables that it lists hold, when the call begins, what the program's text lays.
-/
import Derived.Test.YtaahmkhlhgkfpaaDoorNTitCardPart4
import Derived.Test.YtaahmkhlhgkfpaaDoorFvPart12
import Derived.Test.YtaahmkhlhgkfpaaDoorFvPart11
import Derived.Test.YtaahmkhlhgkfpaaDoorCards
import Derived.Test.YtaahmkhlhgkfpaaDoorTie
import Derived.ProofKit
import Derived.MakeChecks
import Derived.Lay
import Derived.LaidOnce
import Derived.SevenTiedAt
import Derived.Carry
import Derived.OpenShut
import Derived.Handed
import Derived.LaidLaws
namespace Go.Proofs.YtaahmkhlhgkfpaaDoor.titlesMatch
open Go.RowKit Go.ChangeShapes Go.WideShapes Go.ChangeAt Go.Fv
theorem own:ownKnob Tryd.prog.godebug=none:=by kernel_rfl
theorem laidOut:laidOutB Tryd.prog=true:=by kernel_rfl
set_option maxRecDepth 100000 in
theorem contract (H:Type) (enc:TypeId × Value→H) (W:World) (base:Nat) (args:Array Value) (ds gs:List (DataW H)) (before:List MemPlace) (hsh:W.ShapedOpen Tryd.prog) (hlaid:laidMetH Tryd.prog Rows.titlesMatchRow.laid W) (hwt:(DataW.weightsEach Tryd.prog (Tryd.f3.params.toList++(OpenSpec.ofChange Rows.titlesMatchSpec).bare.plain.varTypes Tryd.prog) (ds++gs)).all (·≤reachBytes)=true)
  (hval:∀ (j:Nat) t v,Tryd.f3.params[j]?=some t→args[j]?=some v→Value.okWide Tryd.prog W .any base t v)
  (hW:DataW.Whole enc Tryd.prog Tryd.f3.params.toList Rows.titlesMatchSpec.vars false W args.toList ds gs before) :
  Calls Tryd.prog 3 args W fun e W'=>∃ v,e=.returned v∧Rows.titlesMatchSpec.post enc Tryd.prog Tryd.f3 false true false false W args v W':=by
 have hW':=hW
 have hgl:mV Tryd.prog W:=mV.CO (by kernel_rfl) hsh (A8 (l:=Rows.titlesMatchRow.laid) (g0:=5) (t:=90) (e:=5) (by kernel_rfl) (by kernel_rfl) (by kernel_rfl) (by kernel_rfl) (by kernel_rfl) (by kernel_rfl) (by kernel_rfl) (by kernel_rfl) (by kernel_rfl) hlaid) (Az (l:=Rows.titlesMatchRow.laid) (g0:=3) (t:=84) (e:=74) (by kernel_rfl) (by kernel_rfl) (by kernel_rfl) (by kernel_rfl) (by kernel_rfl) (by kernel_rfl) (by kernel_rfl) (by kernel_rfl) (by kernel_rfl) hlaid)
 obtain ⟨p,q,hA0,hV,rfl,_,_⟩:=hW
 have hA:DataW.TrodAll enc Tryd.prog W 0 (fun _=>true) true Tryd.f3.params.toList args.toList ds p:=hA0
 rw [Tryd.params3] at hA hval
 obtain ⟨v0,vs0,d0,ds0,p0,q0,hargs,rfl,rfl,h0,r0⟩:=trodAll_cons hA
 obtain ⟨v1,vs1,d1,ds1,p1,q1,rfl,rfl,rfl,h1,r1⟩:=trodAll_cons r0
 obtain ⟨v2,vs2,d2,ds2,p2,q2,rfl,rfl,rfl,h2,r2⟩:=trodAll_cons r1
 obtain ⟨rfl,rfl,rfl⟩:=trodAll_nil r2
 obtain rfl:args=#[v0,v1,v2]:=by cases args;simp_all
 obtain ⟨t,rfl,ht⟩:=arg_str Tryd.underlying9 (hval 0 9 v0 rfl rfl) h0
 have hfc:∀ cs x,Rd enc Tryd.prog W 37 cs x→∃ y:Go.Fv.N.Fc,aS (qK W) y.av cs∧True:=fun cs x h=>by
  obtain ⟨a,b,hv⟩:=h.s2 Tryd.underlying37 1 1 Go.Fv.N.c37 ⟨rfl,rfl⟩ ⟨Go.Fv.N.c9,Go.Fv.N.c9⟩ (fun _ _ h=>h.str' Tryd.underlying9) (fun _ _ h=>h.str' Tryd.underlying9)
  exact ⟨⟨a,b⟩,hv,trivial⟩
 obtain ⟨F,_,hF⟩:=FN Tryd.underlying22 2 (by decide) Go.Fv.N.Fc.av (fun _=>rfl) (fun _=>rfl) (fun _=>True) hfc (hval 1 22 v1 rfl rfl) h1
 obtain ⟨l,hl,hlv⟩:=Eu Tryd.underlying23 Tryd.underlying9 (hval 2 23 v2 rfl rfl) h2
 have hlw:(d2.weights Tryd.prog 23).all (·≤reachBytes)=true:=by
  rw [Tryd.params3] at hwt
  have e:(OpenSpec.ofChange Rows.titlesMatchSpec).bare.plain.varTypes Tryd.prog=[]:=rfl
  rw [e] at hwt
  have e2:DataW.weightsEach Tryd.prog ((#[9,22,23]:Array TypeId).toList++[]) ([DataW.lit (.string t),d1,d2]++gs)=[t.length]++(d1.weights Tryd.prog 22++(d2.weights Tryd.prog 23++[])):=by
   show DataW.weightsEach Tryd.prog [9,22,23] (DataW.lit (.string t)::d1::d2::gs)=_
   simp only [DataW.weightsEach,DataW.weights]
  rw [e2,List.all_append,Bool.and_eq_true,List.all_append,Bool.and_eq_true,List.append_nil] at hwt
  exact hwt.2.2
 obtain ⟨hl1,hl2⟩:=hl _ hlw
 have hb16:Tryd.prog.bytesOf 9=16:=by kernel_rfl
 rw [hb16] at hl1
 unfold reachBytes at hl1 hl2
 refine BL (Go.Fv.N.uO t F l (by omega) (fun x hx=>by have:=hl2 x hx;omega)) hgl (.cons _ _ _ _ ht (.cons _ _ _ _ hF (.cons _ _ _ _ hlv .nil))) hW' rfl ?_ rfl Tryd.underlying4 laidOut ?_
 ·intro l hl
  match l,hl with
  | [a,b,c],_=>rfl
 ·intro t ht
  rw [Tryd.params3] at ht
  have hm:t∈[9,22,23]:=by simpa using ht
  have hall:([9,22,23].all fun u=>Tryd.prog.readableRec u && decide (u<Tryd.prog.types.size))=true:=by kernel_rfl
  have:=List.all_eq_true.1 hall t hm
  simpa using this
set_option maxRecDepth 100000 in
theorem lifted (os:Os) (started:os.Started) (H:Type) (enc:TypeId × Value→H) :
  ReturnsInHanded {} Tryd.checked os 3 .any (fun w args=>(Rows.titlesMatchSpec.pre enc Tryd.prog Tryd.f3 [] false w args∧laidMetH Tryd.prog Rows.titlesMatchRow.laid w)∧sizedMet enc Tryd.prog Tryd.f3 (OpenSpec.ofChange Rows.titlesMatchSpec) false w args)
   (Rows.titlesMatchSpec.post enc Tryd.prog Tryd.f3 false true false false):=by
 refine oK (C:=Tryd.checked) (X:=fun w _=>laidMetH Tryd.prog Rows.titlesMatchRow.laid w) (fun _ _ _ hh h=>h.of_heap hh) own started (by kernel_rfl) Tryd.func3
  (ChangeSpec.witness_shaped (enc:=enc) (C:=Tryd.checked) (os:=os) (X:=fun w _=>laidMetH Tryd.prog Rows.titlesMatchRow.laid w) false (World.laidAll Tryd.prog os Rows.titlesMatchRow.laid) #[.string ⟨#[]⟩,.slice none 0 0,.slice none 0 0] 8 (World.laidAll_os _ _ _)
   (World.shaped_of_ZipB (by kernel_rfl) (by kernel_rfl)) (by kernel_rfl) (by kernel_rfl) (by kernel_rfl)
   (by rw [MakeChecks.laidMetH_plain _ _ _ (by kernel_rfl)];exact laidMet_laidAll _ (by kernel_rfl) (by kernel_rfl))) ?_
 intro W base args ds gs before hsh hlaid hwt hval0 hW
 exact contract H enc W base args ds gs before hsh hlaid hwt hval0 hW
theorem holds:Rows.TitlesMatchSaid:=
 OpenClaim.holds_of_wide 3 Tryd.f3 rfl rfl rfl rfl rfl rfl rfl ⟨rfl,rfl,rfl,rfl,rfl⟩ rfl rfl rfl rfl rfl (by kernel_rfl) Tryd.func3 (by kernel_rfl)
  (of_decide_eq_true (by kernel_rfl)) (by unfold Func.isWrapper;first|(rw [if_pos (by decide +kernel)];kernel_rfl)|(rw [if_neg (by decide +kernel)];exact ⟨rfl,rfl⟩))
  (fun os started H enc _=>lifted os started H enc)
theorem plain (f:FuncId) (fn:Func) (hf:Tryd.pinned.checked.prog.funcNamed "flatbed/bedlaw1.TitlesMatch" = some f) (hfn:Tryd.pinned.checked.prog.funcs[f]?=some fn) :
  false=Tryd.pinned.checked.prog.looks []∧∀ (j:Nat) t,fn.params[j]?=some t→Tryd.pinned.checked.prog.wantsStandIn t=false:=by
 obtain rfl:f=3:=Option.some.inj ((show Tryd.prog.funcNamed "flatbed/bedlaw1.TitlesMatch" = some 3 by kernel_rfl).symm.trans hf) |>.symm
 obtain rfl:fn=Tryd.f3:=(Option.some.inj (Tryd.func3.symm.trans hfn)).symm
 refine ⟨by kernel_rfl,fun j t ht=>?_⟩
 rw [Tryd.params3] at ht
 have hm:t∈[9,22,23]:=by simpa using Array.mem_of_getElem? ht
 have hall:([9,22,23].all fun u=>!Tryd.prog.wantsStandIn u)=true:=by kernel_rfl
 exact (show Tryd.prog.wantsStandIn t=false by simpa using List.all_eq_true.1 hall t hm)
theorem card:Rows.TitlesMatchCardSaid:=
 Claim7.holds_tied_plain_at .later [] _ _ _ _ holds (fun _ h=>by cases h) (by kernel_rfl) (fun _ h=>by cases h) titlesMatch_row_tie rfl ⟨rfl,rfl⟩ (by kernel_rfl) rfl plain (by kernel_rfl)
#print axioms card
end Go.Proofs.YtaahmkhlhgkfpaaDoor.titlesMatch
