/-
  Proved: the card of the law TopPacked: at every input the law's function returns true, and each argument reads behind the call as it read before.
  Conditions: none of its own; those of the given row: the library tables that it lists hold, when the call begins, what the program's text lays.
-/
import Derived.Test.YtodlgmmbfbiilaaGreatDoorHTopPkCardPart11
import Derived.Test.YtodlgmmbfbiilaaGreatDoorFvPart12
import Derived.Test.YtodlgmmbfbiilaaGreatDoorFvPart11
import Derived.Test.YtodlgmmbfbiilaaGreatDoorCards
import Derived.Test.YtodlgmmbfbiilaaGreatDoorTie
import Derived.ProofKit
import Derived.MakeChecks
import Derived.Lay
import Derived.LaidOnce
import Derived.SevenTiedAt
import Derived.Carry
import Derived.OpenShut
import Derived.Handed
import Derived.LaidLaws
namespace Go.Proofs.YtodlgmmbfbiilaaGreatDoor.topPacked
open Go.RowKit Go.ChangeShapes Go.WideShapes Go.ChangeAt Go.Fv
theorem own:ownKnob Tryz.prog.godebug=none:=by kernel_rfl
theorem laidOut:laidOutB Tryz.prog=true:=by kernel_rfl
set_option maxRecDepth 100000 in
theorem contract (H:Type) (enc:TypeId × Value→H) (W:World) (base:Nat) (args:Array Value) (ds gs:List (DataW H)) (before:List MemPlace) (hsh:W.ShapedOpen Tryz.prog) (hlaid:laidMetH Tryz.prog Rows.topPackedRow.laid W) (hwt:(DataW.weightsEach Tryz.prog (Tryz.f10.params.toList++(OpenSpec.ofChange Rows.topPackedSpec).bare.plain.varTypes Tryz.prog) (ds++gs)).all (·≤reachBytes)=true)
  (hval:∀ (j:Nat) t v,Tryz.f10.params[j]?=some t→args[j]?=some v→Value.okWide Tryz.prog W .any base t v)
  (hW:DataW.Whole enc Tryz.prog Tryz.f10.params.toList Rows.topPackedSpec.vars false W args.toList ds gs before) :
  Calls Tryz.prog 10 args W fun e W'=>∃ v,e=.returned v∧Rows.topPackedSpec.post enc Tryz.prog Tryz.f10 false true false false W args v W':=by
 have hW':=hW
 have hgl:tJ Tryz.prog W:=tJ.MC (by kernel_rfl) hsh (Ku (l:=Rows.topPackedRow.laid) (g0:=7) (t:=224) (e:=5) (by kernel_rfl) (by kernel_rfl) (by kernel_rfl) (by kernel_rfl) (by kernel_rfl) (by kernel_rfl) (by kernel_rfl) (by kernel_rfl) (by kernel_rfl) hlaid)
 obtain ⟨p,q,hA0,hV,rfl,_,_⟩:=hW
 have hA:DataW.TrodAll enc Tryz.prog W 0 (fun _=>true) true Tryz.f10.params.toList args.toList ds p:=hA0
 rw [Tryz.params10] at hA hval
 obtain ⟨v0,vs0,d0,ds0,p0,q0,hargs,rfl,rfl,h0,r0⟩:=trodAll_cons hA
 obtain ⟨v1,vs1,d1,ds1,p1,q1,rfl,rfl,rfl,h1,r1⟩:=trodAll_cons r0
 obtain ⟨v2,vs2,d2,ds2,p2,q2,rfl,rfl,rfl,h2,r2⟩:=trodAll_cons r1
 obtain ⟨v3,vs3,d3,ds3,p3,q3,rfl,rfl,rfl,h3,r3⟩:=trodAll_cons r2
 obtain ⟨rfl,rfl,rfl⟩:=trodAll_nil r3
 obtain rfl:args=#[v0,v1,v2,v3]:=by cases args;simp_all
 have hbits:∀ cs x,Rd enc Tryz.prog W 24 cs x→∃ y:Go.Fv.H.Pg,bJ (wZ W) y.av cs∧True:=fun cs x h=>by
  obtain ⟨a,b,c,hv⟩:=h.s3 Tryz.underlying24 1 1 1 Go.Fv.H.c24 ⟨rfl,rfl,rfl⟩ ⟨Go.Fv.H.c3,Go.Fv.H.c3,Go.Fv.H.c22⟩ (fun _ _ h=>h.int' Tryz.underlying3) (fun _ _ h=>h.int' Tryz.underlying3) (fun _ _ h=>h.XJ Tryz.underlying22 Tryz.underlying4)
  exact ⟨⟨a,b,c⟩,hv,trivial⟩
 obtain ⟨a,_,ha⟩:=Rw Tryz.underlying35 3 (by decide) Go.Fv.H.Pg.av (fun _=>rfl) (fun _=>rfl) (fun _=>True) hbits (hval 0 35 v0 rfl rfl) h0
 obtain ⟨kd,_,hkd⟩:=FU Tryz.underlying3 (hval 1 3 v1 rfl rfl) h1
 obtain ⟨most,_,hmost⟩:=FU Tryz.underlying3 (hval 2 3 v2 rfl rfl) h2
 obtain ⟨rows,_,hrows⟩:=FU Tryz.underlying3 (hval 3 3 v3 rfl rfl) h3
 refine Ld (Go.Fv.H.G5 a kd most rows) hgl (.cons _ _ _ _ ha (.cons _ _ _ _ hkd (.cons _ _ _ _ hmost (.cons _ _ _ _ hrows .nil)))) hW' rfl ?_ rfl Tryz.underlying4 laidOut ?_
 ·intro l hl
  match l,hl with
  | [a,b,c,d],_=>rfl
 ·intro t ht
  rw [Tryz.params10] at ht
  have hm:t∈[35,3,3,3]:=by simpa using ht
  have hall:([35,3,3,3].all fun u=>Tryz.prog.readableRec u && decide (u<Tryz.prog.types.size))=true:=by kernel_rfl
  have:=List.all_eq_true.1 hall t hm
  simpa using this
set_option maxRecDepth 100000 in
theorem lifted (os:Os) (started:os.Started) (H:Type) (enc:TypeId × Value→H) :
  ReturnsInHanded {} Tryz.checked os 10 .any (fun w args=>(Rows.topPackedSpec.pre enc Tryz.prog Tryz.f10 [] false w args∧laidMetH Tryz.prog Rows.topPackedRow.laid w)∧sizedMet enc Tryz.prog Tryz.f10 (OpenSpec.ofChange Rows.topPackedSpec) false w args)
   (Rows.topPackedSpec.post enc Tryz.prog Tryz.f10 false true false false):=by
 refine vX (C:=Tryz.checked) (X:=fun w _=>laidMetH Tryz.prog Rows.topPackedRow.laid w) (fun _ _ _ hh h=>h.of_heap hh) own started (by kernel_rfl) Tryz.func10
  (ChangeSpec.witness_shaped (enc:=enc) (C:=Tryz.checked) (os:=os) (X:=fun w _=>laidMetH Tryz.prog Rows.topPackedRow.laid w) false (World.laidAll Tryz.prog os Rows.topPackedRow.laid) #[.slice none 0 0,.int .i64 0,.int .i64 0,.int .i64 0] 8 (World.laidAll_os _ _ _)
   (World.shaped_of_ZipB (by kernel_rfl) (by kernel_rfl)) (by kernel_rfl) (by kernel_rfl) (by kernel_rfl)
   (by rw [MakeChecks.laidMetH_plain _ _ _ (by kernel_rfl)];exact laidMet_laidAll _ (by kernel_rfl) (by kernel_rfl))) ?_
 intro W base args ds gs before hsh hlaid hwt hval0 hW
 exact contract H enc W base args ds gs before hsh hlaid hwt hval0 hW
theorem holds:Rows.TopPackedSaid:=
 OpenClaim.holds_of_wide 10 Tryz.f10 rfl rfl rfl rfl rfl rfl rfl ⟨rfl,rfl,rfl,rfl,rfl⟩ rfl rfl rfl rfl rfl (by kernel_rfl) Tryz.func10 (by kernel_rfl)
  (of_decide_eq_true (by kernel_rfl)) (by unfold Func.isWrapper;first|(rw [if_pos (by decide +kernel)];kernel_rfl)|(rw [if_neg (by decide +kernel)];exact ⟨rfl,rfl⟩))
  (fun os started H enc _=>lifted os started H enc)
theorem plain (f:FuncId) (fn:Func) (hf:Tryz.pinned.checked.prog.funcNamed "flatbed/bedtop.TopPacked" = some f) (hfn:Tryz.pinned.checked.prog.funcs[f]?=some fn) :
  true=Tryz.pinned.checked.prog.looks []∧∀ (j:Nat) t,fn.params[j]?=some t→Tryz.pinned.checked.prog.wantsStandIn t=false:=by
 obtain rfl:f=10:=Option.some.inj ((show Tryz.prog.funcNamed "flatbed/bedtop.TopPacked" = some 10 by kernel_rfl).symm.trans hf) |>.symm
 obtain rfl:fn=Tryz.f10:=(Option.some.inj (Tryz.func10.symm.trans hfn)).symm
 refine ⟨by kernel_rfl,fun j t ht=>?_⟩
 rw [Tryz.params10] at ht
 have hm:t∈[35,3,3,3]:=by simpa using Array.mem_of_getElem? ht
 have hall:([35,3,3,3].all fun u=>!Tryz.prog.wantsStandIn u)=true:=by kernel_rfl
 exact (show Tryz.prog.wantsStandIn t=false by simpa using List.all_eq_true.1 hall t hm)
theorem card:Rows.TopPackedCardSaid:=
 Claim7.holds_tied_plain_at .later [] _ _ _ _ holds (fun _ h=>by cases h) (by kernel_rfl) (fun _ h=>by cases h) topPacked_row_tie rfl ⟨rfl,rfl⟩ (by kernel_rfl) rfl plain (by kernel_rfl)
#print axioms card
end Go.Proofs.YtodlgmmbfbiilaaGreatDoor.topPacked
