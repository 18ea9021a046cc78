/-
  Proved: the card of the law RulesMatch: at every input the law's function returns true, and each argument reads behind the call as it read before.
  Conditions: none of its own; those of the given row: the library tables that it lists hold, when the call begins, what the program's text lays.
-/
import Derived.Test.YtpbllkibobnifaaDoorLRmCardPart11
import Derived.Test.YtpbllkibobnifaaDoorFvPart13
import Derived.Test.YtpbllkibobnifaaDoorCards
import Derived.Test.YtpbllkibobnifaaDoorTie
import Derived.ProofKit
import Derived.MakeChecks
import Derived.Lay
import Derived.LaidOnce
import Derived.SevenTiedAt
import Derived.Carry
import Derived.OpenShut
import Derived.Handed
import Derived.LaidLaws
namespace Go.Proofs.YtpbllkibobnifaaDoor.rulesMatch
open Go.RowKit Go.ChangeShapes Go.WideShapes Go.ChangeAt Go.Fv
theorem own:ownKnob Tryd.prog.godebug=none:=by kernel_rfl
theorem laidOut:laidOutB Tryd.prog=true:=by kernel_rfl
set_option maxRecDepth 100000 in
theorem contract (H:Type) (enc:TypeId × Value→H) (W:World) (base:Nat) (args:Array Value) (ds gs:List (DataW H)) (before:List MemPlace) (hsh:W.ShapedOpen Tryd.prog)
  (hval:∀ (j:Nat) t v,Tryd.f3.params[j]?=some t→args[j]?=some v→Value.okWide Tryd.prog W .any base t v)
  (hW:DataW.Whole enc Tryd.prog Tryd.f3.params.toList Rows.rulesMatchSpec.vars false W args.toList ds gs before) :
  Calls Tryd.prog 3 args W fun e W'=>∃ v,e=.returned v∧Rows.rulesMatchSpec.post enc Tryd.prog Tryd.f3 false true false false W args v W':=by
 have hW':=hW
 have hgl:kX Tryd.prog W:=kX.OU (by kernel_rfl) hsh
 obtain ⟨p,q,hA0,hV,rfl,_,_⟩:=hW
 have hA:DataW.TrodAll enc Tryd.prog W 0 (fun _=>true) true Tryd.f3.params.toList args.toList ds p:=hA0
 rw [Tryd.params3] at hA hval
 obtain ⟨v0,vs0,d0,ds0,p0,q0,hargs,rfl,rfl,h0,r0⟩:=trodAll_cons hA
 obtain ⟨v1,vs1,d1,ds1,p1,q1,rfl,rfl,rfl,h1,r1⟩:=trodAll_cons r0
 obtain ⟨v2,vs2,d2,ds2,p2,q2,rfl,rfl,rfl,h2,r2⟩:=trodAll_cons r1
 obtain ⟨rfl,rfl,rfl⟩:=trodAll_nil r2
 obtain rfl:args=#[v0,v1,v2]:=by cases args;simp_all
 obtain ⟨cs,rfl,r0'⟩:=JZ Tryd.underlying24 (hval 0 24 v0 rfl rfl) h0
 obtain ⟨W1,H1,l,hW1,hH1,_,hv,_⟩:=r0'.page Tryd.underlying24 Go.Fv.L.c24 ⟨rfl,rfl,rfl⟩ ⟨Go.Fv.L.c3,Go.Fv.L.c3,Go.Fv.L.Ym⟩ Tryd.underlying3 Tryd.underlying3 (fun l=>.ro (.bools l)) (fun _=>True) List.length (fun cs x hx=>by obtain ⟨l,a,b⟩:=hx.bools Tryd.underlying22 Tryd.underlying4;exact ⟨l,trivial,a,b⟩)
 obtain ⟨m,_,hm⟩:=Tm Tryd.underlying3 (hval 1 3 v1 rfl rfl) h1
 have hbox:∀ cs x,Rd enc Tryd.prog W 33 cs x→∃ b:Int × Int × Int × Int,cO (tC W) [.int .i64 b.1,.int .i64 b.2.1,.int .i64 b.2.2.1,.int .i64 b.2.2.2] cs:=fun cs x h=>by
  obtain ⟨a,b,c,d,hv⟩:=h.s4 Tryd.underlying33 1 1 1 1 Go.Fv.L.Xt ⟨rfl,rfl,rfl,rfl⟩ ⟨Go.Fv.L.c3,Go.Fv.L.c3,Go.Fv.L.c3,Go.Fv.L.c3⟩ (fun _ _ h=>h.int' Tryd.underlying3) (fun _ _ h=>h.int' Tryd.underlying3) (fun _ _ h=>h.int' Tryd.underlying3) (fun _ _ h=>h.int' Tryd.underlying3)
  exact ⟨(a,b,c,d),hv⟩
 have hrl:∀ cs x,Rd enc Tryd.prog W 35 cs x→∃ r:Go.Fv.L.Pl,cO (tC W) (Go.Fv.L.uP r) cs∧True:=fun cs x h=>by
  obtain ⟨b,d,hv⟩:=h.s2 Tryd.underlying35 4 1 Go.Fv.L.Yn ⟨rfl,rfl⟩ ⟨Go.Fv.L.Xt,Go.Fv.L.c4⟩ hbox (fun _ _ h=>h.bool' Tryd.underlying4)
  cases d with
  | true=>exact ⟨⟨[0,b.1,b.2.1,b.2.2.1,b.2.2.2,1],0,0⟩,hv,trivial⟩
  | false=>exact ⟨⟨[0,b.1,b.2.1,b.2.2.1,b.2.2.2,0],0,0⟩,hv,trivial⟩
 obtain ⟨L,_,hL⟩:=PY Tryd.underlying25 5 (by decide) Go.Fv.L.uP (fun _=>rfl) (fun _=>rfl) (fun _=>True) hrl (hval 2 25 v2 rfl rfl) h2
 refine J4 (Go.Fv.L.CX W1 H1 l m L) hgl (.cons _ _ _ _ (.agg _ _ hv) (.cons _ _ _ _ hm (.cons _ _ _ _ hL .nil))) hW' rfl ?_ rfl Tryd.underlying4 laidOut ?_
 ·intro l hl
  match l,hl with
  | [a,b,c],_=>rfl
 ·intro t ht
  rw [Tryd.params3] at ht
  have hm:t∈[24,3,25]:=by simpa using ht
  have hall:([24,3,25].all fun u=>Tryd.prog.readableRec u && decide (u<Tryd.prog.types.size))=true:=by kernel_rfl
  have:=List.all_eq_true.1 hall t hm
  simpa using this
set_option maxRecDepth 100000 in
theorem lifted (os:Os) (started:os.Started) (H:Type) (enc:TypeId × Value→H) :
  ReturnsInHanded {} Tryd.checked os 3 .any (fun w args=>(Rows.rulesMatchSpec.pre enc Tryd.prog Tryd.f3 [] false w args∧laidMetH Tryd.prog Rows.rulesMatchRow.laid w)∧sizedMet enc Tryd.prog Tryd.f3 (OpenSpec.ofChange Rows.rulesMatchSpec) false w args)
   (Rows.rulesMatchSpec.post enc Tryd.prog Tryd.f3 false true false false):=by
 refine xJ (C:=Tryd.checked) (X:=fun w _=>laidMetH Tryd.prog Rows.rulesMatchRow.laid w) (fun _ _ _ hh h=>h.of_heap hh) own started (by kernel_rfl) Tryd.func3
  (ChangeSpec.witness_shaped (enc:=enc) (C:=Tryd.checked) (os:=os) (X:=fun w _=>laidMetH Tryd.prog Rows.rulesMatchRow.laid w) false (World.laidAll Tryd.prog os Rows.rulesMatchRow.laid) #[.agg #[.int .i64 0,.int .i64 0,.slice none 0 0],.int .i64 0,.slice none 0 0] 8 (World.laidAll_os _ _ _)
   (World.shaped_of_ZipB (by kernel_rfl) (by kernel_rfl)) (by kernel_rfl) (by kernel_rfl) (by kernel_rfl)
   (by rw [MakeChecks.laidMetH_plain _ _ _ (by kernel_rfl)];exact laidMet_laidAll _ (by kernel_rfl) (by kernel_rfl))) ?_
 intro W base args ds gs before hsh hval0 hW
 exact contract H enc W base args ds gs before hsh hval0 hW
theorem holds:Rows.RulesMatchSaid:=
 OpenClaim.holds_of_wide 3 Tryd.f3 rfl rfl rfl rfl rfl rfl rfl ⟨rfl,rfl,rfl,rfl,rfl⟩ rfl rfl rfl rfl rfl (by kernel_rfl) Tryd.func3 (by kernel_rfl)
  (of_decide_eq_true (by kernel_rfl)) (by unfold Func.isWrapper;first|(rw [if_pos (by decide +kernel)];kernel_rfl)|(rw [if_neg (by decide +kernel)];exact ⟨rfl,rfl⟩))
  (fun os started H enc _=>lifted os started H enc)
theorem plain (f:FuncId) (fn:Func) (hf:Tryd.pinned.checked.prog.funcNamed "flatbed/bedlaw1.RulesMatch" = some f) (hfn:Tryd.pinned.checked.prog.funcs[f]?=some fn) :
  false=Tryd.pinned.checked.prog.looks []∧∀ (j:Nat) t,fn.params[j]?=some t→Tryd.pinned.checked.prog.wantsStandIn t=false:=by
 obtain rfl:f=3:=Option.some.inj ((show Tryd.prog.funcNamed "flatbed/bedlaw1.RulesMatch" = some 3 by kernel_rfl).symm.trans hf) |>.symm
 obtain rfl:fn=Tryd.f3:=(Option.some.inj (Tryd.func3.symm.trans hfn)).symm
 refine ⟨by kernel_rfl,fun j t ht=>?_⟩
 rw [Tryd.params3] at ht
 have hm:t∈[24,3,25]:=by simpa using Array.mem_of_getElem? ht
 have hall:([24,3,25].all fun u=>!Tryd.prog.wantsStandIn u)=true:=by kernel_rfl
 exact (show Tryd.prog.wantsStandIn t=false by simpa using List.all_eq_true.1 hall t hm)
theorem card:Rows.RulesMatchCardSaid:=
 Claim7.holds_tied_plain_at .later [] _ _ _ _ holds (fun _ h=>by cases h) (by kernel_rfl) (fun _ h=>by cases h) rulesMatch_row_tie rfl ⟨rfl,rfl⟩ (by kernel_rfl) rfl plain (by kernel_rfl)
#print axioms card
end Go.Proofs.YtpbllkibobnifaaDoor.rulesMatch
