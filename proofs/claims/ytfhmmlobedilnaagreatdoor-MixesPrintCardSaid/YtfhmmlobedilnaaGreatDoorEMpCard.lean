/-
  Proved: the card of the law MixesPrint: at every input the law's function returns true, and each argument reads behind the call as it read before.
  Conditions: none of its own; those of the given row: the library tables that it lists hold, when the call begins, what the program's text lays.
-/
import Derived.Test.YtfhmmlobedilnaaGreatDoorEMpCardPart4
import Derived.Test.YtfhmmlobedilnaaGreatDoorFvPart12
import Derived.Test.YtfhmmlobedilnaaGreatDoorCards
import Derived.Test.YtfhmmlobedilnaaGreatDoorTie
import Derived.ProofKit
import Derived.MakeChecks
import Derived.Lay
import Derived.LaidOnce
import Derived.SevenTiedAt
import Derived.Carry
import Derived.OpenShut
import Derived.Handed
import Derived.LaidLaws
namespace Go.Proofs.YtfhmmlobedilnaaGreatDoor.mixesPrint
open Go.RowKit Go.ChangeShapes Go.WideShapes Go.ChangeAt Go.Fv
theorem own:ownKnob Tryz.prog.godebug=none:=by kernel_rfl
theorem laidOut:laidOutB Tryz.prog=true:=by kernel_rfl
set_option maxRecDepth 100000 in
theorem contract (H:Type) (enc:TypeId × Value→H) (W:World) (base:Nat) (args:Array Value) (ds gs:List (DataW H)) (before:List MemPlace) (hsh:W.ShapedOpen Tryz.prog) (hlaid:laidMetH Tryz.prog Rows.mixesPrintRow.laid W) (hwt:(DataW.weightsEach Tryz.prog (Tryz.f3.params.toList++(OpenSpec.ofChange Rows.mixesPrintSpec).bare.plain.varTypes Tryz.prog) (ds++gs)).all (·≤reachBytes)=true)
  (hval:∀ (j:Nat) t v,Tryz.f3.params[j]?=some t→args[j]?=some v→Value.okWide Tryz.prog W .any base t v)
  (hW:DataW.Whole enc Tryz.prog Tryz.f3.params.toList Rows.mixesPrintSpec.vars false W args.toList ds gs before) :
  Calls Tryz.prog 3 args W fun e W'=>∃ v,e=.returned v∧Rows.mixesPrintSpec.post enc Tryz.prog Tryz.f3 false true false false W args v W':=by
 have hW':=hW
 have hrow:=KP (P:=Tryz.prog) (tp:=157) (by kernel_rfl) (by kernel_rfl)
 have herr:∀ g,yB Tryz.prog g=true→∃ ob,W.heap[g]?=some ob∧Ba .err ob:=fun g hg=>by
  rcases Ku (a:=1) (b:=2) (by kernel_rfl) hg with rfl|rfl
  ·exact sK (l:=Rows.mixesPrintRow.laid) (n := "strconv.ErrSyntax") (text:=[105,110,118,97,108,105,100,32,115,121,110,116,97,120]) (by kernel_rfl) (by kernel_rfl) (by kernel_rfl) (by kernel_rfl) Tryz.underlying45 hrow Tryz.underlying157 Tryz.underlying159 rfl rfl Tryz.underlying9 Go.Fv.E.c159 Go.Fv.E.c9 hlaid
  ·exact sK (l:=Rows.mixesPrintRow.laid) (n := "strconv.ErrRange") (text:=[118,97,108,117,101,32,111,117,116,32,111,102,32,114,97,110,103,101]) (by kernel_rfl) (by kernel_rfl) (by kernel_rfl) (by kernel_rfl) Tryz.underlying45 hrow Tryz.underlying157 Tryz.underlying159 rfl rfl Tryz.underlying9 Go.Fv.E.c159 Go.Fv.E.c9 hlaid
 have hgl:lH Tryz.prog W:=lH.Ei (by kernel_rfl) hsh (Dk (l:=Rows.mixesPrintRow.laid) (g0:=7) (t:=180) (e:=5) (by kernel_rfl) (by kernel_rfl) (by kernel_rfl) (by kernel_rfl) (by kernel_rfl) (by kernel_rfl) (by kernel_rfl) (by kernel_rfl) (by kernel_rfl) hlaid) (CW (l:=Rows.mixesPrintRow.laid) (g0:=3) (t:=150) (e:=121) (by kernel_rfl) (by kernel_rfl) (by kernel_rfl) (by kernel_rfl) (by kernel_rfl) (by kernel_rfl) (by kernel_rfl) (by kernel_rfl) (by kernel_rfl) hlaid) herr
 obtain ⟨p,q,hA0,hV,rfl,_,_⟩:=hW
 have hA:DataW.TrodAll enc Tryz.prog W 0 (fun _=>true) true Tryz.f3.params.toList args.toList ds p:=hA0
 rw [Tryz.params3] at hA hval
 obtain ⟨v0,vs0,d0,ds0,p0,q0,hargs,rfl,rfl,h0,r0⟩:=trodAll_cons hA
 obtain ⟨v1,vs1,d1,ds1,p1,q1,rfl,rfl,rfl,h1,r1⟩:=trodAll_cons r0
 obtain ⟨rfl,rfl,rfl⟩:=trodAll_nil r1
 obtain rfl:args=#[v0,v1]:=by cases args;simp_all
 have hmix:∀ cs x,Rd enc Tryz.prog W 35 cs x→∃ m:Go.Fv.E.Mx,aV (nV W) m.av cs∧True:=fun cs x h=>by
  obtain ⟨m1,m2,m3,hv⟩:=h.s3 Tryz.underlying35 1 1 1 Go.Fv.E.OH ⟨rfl,rfl,rfl⟩ ⟨Go.Fv.E.c9,Go.Fv.E.c9,Go.Fv.E.c3⟩ (fun _ _ h=>h.str' Tryz.underlying9) (fun _ _ h=>h.str' Tryz.underlying9) (fun _ _ h=>h.int' Tryz.underlying3)
  exact ⟨⟨m1,m2,m3⟩,hv,trivial⟩
 obtain ⟨l,_,hl⟩:=Hz Tryz.underlying22 3 (by decide) Go.Fv.E.Mx.av (fun _=>rfl) (fun _=>rfl) (fun _=>True) hmix (hval 0 22 v0 rfl rfl) h0
 obtain ⟨s,rfl,hs⟩:=arg_str Tryz.underlying9 (hval 1 9 v1 rfl rfl) h1
 have hok:aU Tryz.prog 3 [.ro (.objs 3 (l.map Go.Fv.E.Mx.av)),.str s] (.bool true) []:=Go.Fv.E.xB l s
 refine DV hok hgl (.cons _ _ _ _ hl (.cons _ _ _ _ hs .nil)) hW' rfl ?_ rfl Tryz.underlying4 laidOut ?_
 ·intro l hl
  match l,hl with
  | [a,b],_=>rfl
 ·intro t ht
  rw [Tryz.params3] at ht
  have hm:t∈[22,9]:=by simpa using ht
  have hall:([22,9].all fun u=>Tryz.prog.readableRec u && decide (u<Tryz.prog.types.size))=true:=by kernel_rfl
  have:=List.all_eq_true.1 hall t hm
  simpa using this
set_option maxRecDepth 100000 in
theorem lifted (os:Os) (started:os.Started) (H:Type) (enc:TypeId × Value→H) :
  ReturnsInHanded {} Tryz.checked os 3 .any (fun w args=>(Rows.mixesPrintSpec.pre enc Tryz.prog Tryz.f3 [] false w args∧laidMetH Tryz.prog Rows.mixesPrintRow.laid w)∧sizedMet enc Tryz.prog Tryz.f3 (OpenSpec.ofChange Rows.mixesPrintSpec) false w args)
   (Rows.mixesPrintSpec.post enc Tryz.prog Tryz.f3 false true false false):=by
 refine pX (C:=Tryz.checked) (X:=fun w _=>laidMetH Tryz.prog Rows.mixesPrintRow.laid w) (fun _ _ _ hh h=>h.of_heap hh) own started (by kernel_rfl) Tryz.func3
  (ChangeSpec.witness_shaped (enc:=enc) (C:=Tryz.checked) (os:=os) (X:=fun w _=>laidMetH Tryz.prog Rows.mixesPrintRow.laid w) false (World.laidAll Tryz.prog os Rows.mixesPrintRow.laid) #[.slice none 0 0,.string ⟨#[]⟩] 8 (World.laidAll_os _ _ _)
   (World.shaped_of_ZipB (by kernel_rfl) (by kernel_rfl)) (by kernel_rfl) (by kernel_rfl) (by kernel_rfl)
   (by rw [MakeChecks.laidMetH_plain _ _ _ (by kernel_rfl)];exact laidMet_laidAll _ (by kernel_rfl) (by kernel_rfl))) ?_
 intro W base args ds gs before hsh hlaid hwt hval0 hW
 exact contract H enc W base args ds gs before hsh hlaid hwt hval0 hW
theorem holds:Rows.MixesPrintSaid:=
 OpenClaim.holds_of_wide 3 Tryz.f3 rfl rfl rfl rfl rfl rfl rfl ⟨rfl,rfl,rfl,rfl,rfl⟩ rfl rfl rfl rfl rfl (by kernel_rfl) Tryz.func3 (by kernel_rfl)
  (of_decide_eq_true (by kernel_rfl)) (by unfold Func.isWrapper;first|(rw [if_pos (by decide +kernel)];kernel_rfl)|(rw [if_neg (by decide +kernel)];exact ⟨rfl,rfl⟩))
  (fun os started H enc _=>lifted os started H enc)
theorem plain (f:FuncId) (fn:Func) (hf:Tryz.pinned.checked.prog.funcNamed "flatbed/bedlaw1.MixesPrint" = some f) (hfn:Tryz.pinned.checked.prog.funcs[f]?=some fn) :
  true=Tryz.pinned.checked.prog.looks []∧∀ (j:Nat) t,fn.params[j]?=some t→Tryz.pinned.checked.prog.wantsStandIn t=false:=by
 obtain rfl:f=3:=Option.some.inj ((show Tryz.prog.funcNamed "flatbed/bedlaw1.MixesPrint" = some 3 by kernel_rfl).symm.trans hf) |>.symm
 obtain rfl:fn=Tryz.f3:=(Option.some.inj (Tryz.func3.symm.trans hfn)).symm
 refine ⟨by kernel_rfl,fun j t ht=>?_⟩
 rw [Tryz.params3] at ht
 have hm:t∈[22,9]:=by simpa using Array.mem_of_getElem? ht
 have hall:([22,9].all fun u=>!Tryz.prog.wantsStandIn u)=true:=by kernel_rfl
 exact (show Tryz.prog.wantsStandIn t=false by simpa using List.all_eq_true.1 hall t hm)
theorem card:Rows.MixesPrintCardSaid:=
 Claim7.holds_tied_plain_at .later [] _ _ _ _ holds (fun _ h=>by cases h) (by kernel_rfl) (fun _ h=>by cases h) mixesPrint_row_tie rfl ⟨rfl,rfl⟩ (by kernel_rfl) rfl plain (by kernel_rfl)
#print axioms card
end Go.Proofs.YtfhmmlobedilnaaGreatDoor.mixesPrint
