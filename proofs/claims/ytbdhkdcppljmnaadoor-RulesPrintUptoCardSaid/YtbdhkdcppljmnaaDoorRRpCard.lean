/-
  Proved: the second form's card of the law RulesPrint: at every input of bulk at most the given bound the law's function returns true, and each argument reads behind the call as it read before.
  Conditions: none of its own; those of the given row: the bound, and the library tables that it lists hold, when the call begins, what the program's text lays.
-/
import Derived.Test.YtbdhkdcppljmnaaDoorRRpCardPart6
import Derived.Test.YtbdhkdcppljmnaaDoorFvPart12
import Derived.Test.YtbdhkdcppljmnaaDoorCards
import Derived.Test.YtbdhkdcppljmnaaDoorTie
import Derived.ProofKit
import Derived.MakeChecks
import Derived.Lay
import Derived.LaidOnce
import Derived.SevenTiedAt
import Derived.Carry
import Derived.OpenShut
import Derived.Handed
import Derived.LaidLaws
import Derived.Deep.DeepHandedRow
namespace Go.Proofs.YtbdhkdcppljmnaaDoor.rulesPrint
open Go.RowKit Go.ChangeShapes Go.WideShapes Go.ChangeAt Go.Fv
theorem own:ownKnob Tryd.prog.godebug=none:=by kernel_rfl
theorem laidOut:laidOutB Tryd.prog=true:=by kernel_rfl
set_option maxRecDepth 100000 in
theorem contract (H:Type) (enc:TypeId × Value→H) (W:World) (base:Nat) (args:Array Value) (ds gs:List (DataW H)) (before:List MemPlace) (hsh:W.ShapedOpen Tryd.prog) (hk:Rows.uptoSmall H (ds++gs)=true)
  (hval:∀ (j:Nat) t v,Tryd.f3.params[j]?=some t→args[j]?=some v→Value.okWide Tryd.prog W .any base t v)
  (hW:DataW.Whole enc Tryd.prog Tryd.f3.params.toList Rows.rulesPrintSpec.vars false W args.toList ds gs before) :
  Calls Tryd.prog 3 args W fun e W'=>∃ v,e=.returned v∧Rows.rulesPrintSpec.post enc Tryd.prog Tryd.f3 false true false false W args v W':=by
 have hW':=hW
 have hgl:jU Tryd.prog W:=jU.Jf (by kernel_rfl) hsh
 obtain ⟨p,q,hA0,hV,rfl,_,_⟩:=hW
 have hA:DataW.TrodAll enc Tryd.prog W 0 (fun _=>true) true Tryd.f3.params.toList args.toList ds p:=hA0
 rw [Tryd.params3] at hA hval
 obtain ⟨v0,vs0,d0,ds0,p0,q0,hargs,rfl,rfl,h0,r0⟩:=trodAll_cons hA
 obtain ⟨v1,vs1,d1,ds1,p1,q1,rfl,rfl,rfl,h1,r1⟩:=trodAll_cons r0
 obtain ⟨rfl,rfl,rfl⟩:=trodAll_nil r1
 obtain rfl:args=#[v0,v1]:=by cases args;simp_all
 have hB:Il H Rows.uptoBulk Rows.uptoBulkAll:=⟨fun _=>by simp only [Rows.uptoBulk],fun _ _=>by simp only [Rows.uptoBulk],fun _=>by simp only [Rows.uptoBulk],by simp only [Rows.uptoBulkAll],fun _ _=>by simp only [Rows.uptoBulkAll],fun d=>by
  cases d with
  | lit l=>cases l<;>simp only [Rows.uptoBulk]<;>omega
  | _=>simp only [Rows.uptoBulk]<;>omega⟩
 have hbb:=of_decide_eq_true hk
 simp only [List.cons_append,List.nil_append,Rows.uptoBulkAll] at hbb
 have hb0:Rows.uptoBulk d0≤1048576:=by omega
 have hb1:Rows.uptoBulk d1≤1048576:=by omega
 have hrule:∀ cs x,Rd enc Tryd.prog W 36 cs x→∃ r:Go.Fv.R.Ru,aY (mF W) r.av cs∧(Rows.uptoBulk x.1≤1048576→∀ z,z∈r.words→z.length≤1048576):=fun cs x h=>by
  obtain ⟨a,b,c,hv,hi⟩:=h.Rj hB 1048576 Tryd.underlying36 1 1 1 Go.Fv.R.QD ⟨rfl,rfl,rfl⟩ ⟨Go.Fv.R.c9,Go.Fv.R.c34,Go.Fv.R.c9⟩ (fun _ _ h=>h.OT hB 1048576 Tryd.underlying9) (fun _ _ h=>h.PL hB 1048576 Tryd.underlying34 Tryd.underlying9) (fun _ _ h=>h.OT hB 1048576 Tryd.underlying9)
  exact ⟨⟨a,b,c⟩,hv,fun hb=>(hi hb).2.1.2⟩
 obtain ⟨l,_,hl,hlv⟩:=Ir hB 1048576 Tryd.underlying22 3 (by decide) Go.Fv.R.Ru.av (fun _=>rfl) _ hrule (hval 0 22 v0 rfl rfl) h0 hb0
 obtain ⟨s,rfl,hs⟩:=arg_str Tryd.underlying9 (hval 1 9 v1 rfl rfl) h1
 refine Fp (Go.Fv.R.yS l (Go.Fv.R.dS.2 hl) s) hgl (.cons _ _ _ _ hlv (.cons _ _ _ _ hs .nil)) hW' rfl ?_ rfl Tryd.underlying4 laidOut ?_
 ·intro l hl
  match l,hl with
  | [a,b],_=>rfl
 ·intro t ht
  rw [Tryd.params3] at ht
  have hm:t∈[22,9]:=by simpa using ht
  have hall:([22,9].all fun u=>Tryd.prog.readableRec u && decide (u<Tryd.prog.types.size))=true:=by kernel_rfl
  have:=List.all_eq_true.1 hall t hm
  simpa using this
theorem reads (os:Os) {H:Type} (enc:TypeId × Value→H):∃ places,DataW.whole enc Tryd.prog ((World.laidAll Tryd.prog os Rows.rulesPrintRow.laid).forCall (fun _ _=>0) ⟨#[],#[.slice none 0 0,.string ⟨#[]⟩],[]⟩).memory Tryd.f3.params.toList Rows.rulesPrintSpec.vars false (#[.slice none 0 0,.string ⟨#[]⟩]:Array Value).toList 8=some ([.nil,.lit (.string [])],[],places):=
 ⟨[],by kernel_rfl⟩
set_option maxRecDepth 100000 in
theorem lifted (os:Os) (started:os.Started) (H:Type) (enc:TypeId × Value→H) (F:Stop.Interp) :
  ReturnsInHanded {} Tryd.checked os 3 .any ((Rows.OpenSpec.upto Rows.rulesPrintSpec).preRow enc Tryd.prog Tryd.f3 Rows.rulesPrintUptoRow.domain false Rows.rulesPrintUptoRow.laid) (((Rows.OpenSpec.upto Rows.rulesPrintSpec).at F).post enc Tryd.prog Tryd.f3 false true false false):=by
 obtain ⟨places,hx⟩:=reads os enc
 have hok:Input.okWideB Tryd.checked.prog ((World.laidAll Tryd.prog os Rows.rulesPrintRow.laid).forCall (fun _ _=>0) ⟨#[],#[.slice none 0 0,.string ⟨#[]⟩],[]⟩) 3 ⟨#[],#[.slice none 0 0,.string ⟨#[]⟩],[]⟩=true:=by kernel_rfl
 refine returnsInHanded_of_row (C:=Tryd.checked) (s:=Rows.OpenSpec.upto Rows.rulesPrintSpec) own started (by kernel_rfl) Tryd.func3
  ⟨World.laidAll Tryd.prog os Rows.rulesPrintRow.laid,fun _ _=>0,⟨#[],#[.slice none 0 0,.string ⟨#[]⟩],[]⟩,World.laidAll_os _ _ _,World.shaped_of_ZipB (by kernel_rfl) (by kernel_rfl),(Input.okWide_of_okWideB (base:=0) hok).1,(Input.okWide_of_okWideB hok).2,
   OpenSpec.preRow_of_cond 8 hx (by kernel_rfl) (fun k hk=>by cases hk;kernel_rfl) (by kernel_rfl) (by rw [MakeChecks.laidMetH_plain _ _ _ (by kernel_rfl)];exact laidMet_laidAll _ (by kernel_rfl) (by kernel_rfl)),
   by simp [Assume.holds]⟩ ?_
 intro W base args ds gs before hval hW _ hcond _ _ hsh _
 exact contract H enc W base args ds gs before hsh (hcond _ rfl) hval hW
theorem holds:Rows.RulesPrintUptoSaid:=
 OpenClaim.holds_of_cond 3 Tryd.f3 rfl rfl rfl rfl rfl rfl rfl ⟨rfl,rfl,rfl,rfl,rfl⟩ rfl rfl rfl rfl rfl (by kernel_rfl) Tryd.func3 (by kernel_rfl)
  (of_decide_eq_true (by kernel_rfl)) (by unfold Func.isWrapper;first|(rw [if_pos (by decide +kernel)];kernel_rfl)|(rw [if_neg (by decide +kernel)];exact ⟨rfl,rfl⟩))
  (fun os started H enc _ F=>by rw [OpenClaim.pre_eq_preRow];exact lifted os started H enc F)
theorem plain (f:FuncId) (fn:Func) (hf:Tryd.pinned.checked.prog.funcNamed "flatbed/bedlaw1.RulesPrint" = some f) (hfn:Tryd.pinned.checked.prog.funcs[f]?=some fn) :
  false=Tryd.pinned.checked.prog.looks []∧∀ (j:Nat) t,fn.params[j]?=some t→Tryd.pinned.checked.prog.wantsStandIn t=false:=by
 obtain rfl:f=3:=Option.some.inj ((show Tryd.prog.funcNamed "flatbed/bedlaw1.RulesPrint" = some 3 by kernel_rfl).symm.trans hf) |>.symm
 obtain rfl:fn=Tryd.f3:=(Option.some.inj (Tryd.func3.symm.trans hfn)).symm
 refine ⟨by kernel_rfl,fun j t ht=>?_⟩
 rw [Tryd.params3] at ht
 have hm:t∈[22,9]:=by simpa using Array.mem_of_getElem? ht
 have hall:([22,9].all fun u=>!Tryd.prog.wantsStandIn u)=true:=by kernel_rfl
 exact (show Tryd.prog.wantsStandIn t=false by simpa using List.all_eq_true.1 hall t hm)
theorem card:Rows.RulesPrintUptoCardSaid:=
 Claim7.holds_tied_plain_at .later [] _ _ _ _ holds (fun _ h=>by cases h) (by kernel_rfl) (fun _ h=>by cases h) rulesPrintUpto_row_tie rfl ⟨rfl,rfl⟩ (by kernel_rfl) rfl plain (by kernel_rfl)
#print axioms card
end Go.Proofs.YtbdhkdcppljmnaaDoor.rulesPrint
