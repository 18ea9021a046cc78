/-
  Proved: the second form's card of the law DocumentsChange: at every input of bulk at most the given bound the law's function returns true, and each argument reads behind the call as it read before.
  Conditions: none of its own; those of the given row: the bound, and the library tables that it lists hold, when the call begins, what the program's text lays.
-/
import Derived.Test.YtkigppimkbkjoaaDoorJDocsCardPart4
import Derived.Test.YtkigppimkbkjoaaDoorFvPart13
import Derived.Test.YtkigppimkbkjoaaDoorCards
import Derived.Test.YtkigppimkbkjoaaDoorTie
import Derived.ProofKit
import Derived.MakeChecks
import Derived.Lay
import Derived.LaidOnce
import Derived.SevenTiedAt
import Derived.Carry
import Derived.OpenShut
import Derived.Handed
import Derived.LaidLaws
import Derived.Deep.DeepHandedRow
namespace Go.Proofs.YtkigppimkbkjoaaDoor.documentsChange
open Go.RowKit Go.ChangeShapes Go.WideShapes Go.ChangeAt Go.Fv
theorem own:ownKnob Tryd.prog.godebug=none:=by kernel_rfl
theorem laidOut:laidOutB Tryd.prog=true:=by kernel_rfl
set_option maxRecDepth 100000 in
theorem contract (H:Type) (enc:TypeId × Value→H) (W:World) (base:Nat) (args:Array Value) (ds gs:List (DataW H)) (before:List MemPlace) (hsh:W.ShapedOpen Tryd.prog) (hk:Rows.uptoSmall H (ds++gs)=true)
  (hval:∀ (j:Nat) t v,Tryd.f3.params[j]?=some t→args[j]?=some v→Value.okWide Tryd.prog W .any base t v)
  (hW:DataW.Whole enc Tryd.prog Tryd.f3.params.toList Rows.documentsChangeSpec.vars false W args.toList ds gs before) :
  Calls Tryd.prog 3 args W fun e W'=>∃ v,e=.returned v∧Rows.documentsChangeSpec.post enc Tryd.prog Tryd.f3 false true false false W args v W':=by
 have hW':=hW
 have hgl:kF Tryd.prog W:=kF.GY (by kernel_rfl) hsh
 obtain ⟨p,q,hA0,hV,rfl,_,_⟩:=hW
 have hA:DataW.TrodAll enc Tryd.prog W 0 (fun _=>true) true Tryd.f3.params.toList args.toList ds p:=hA0
 rw [Tryd.params3] at hA hval
 obtain ⟨v0,vs0,d0,ds0,p0,q0,hargs,rfl,rfl,h0,r0⟩:=trodAll_cons hA
 obtain ⟨v1,vs1,d1,ds1,p1,q1,rfl,rfl,rfl,h1,r1⟩:=trodAll_cons r0
 obtain ⟨v2,vs2,d2,ds2,p2,q2,rfl,rfl,rfl,h2,r2⟩:=trodAll_cons r1
 obtain ⟨v3,vs3,d3,ds3,p3,q3,rfl,rfl,rfl,h3,r3⟩:=trodAll_cons r2
 obtain ⟨v4,vs4,d4,ds4,p4,q4,rfl,rfl,rfl,h4,r4⟩:=trodAll_cons r3
 obtain ⟨rfl,rfl,rfl⟩:=trodAll_nil r4
 obtain rfl:args=#[v0,v1,v2,v3,v4]:=by cases args;simp_all
 have hB:F5 H Rows.uptoBulk Rows.uptoBulkAll:=⟨fun _=>by simp only [Rows.uptoBulk],fun _ _=>by simp only [Rows.uptoBulk],fun _=>by simp only [Rows.uptoBulk],by simp only [Rows.uptoBulkAll],fun _ _=>by simp only [Rows.uptoBulkAll],fun d=>by
  cases d with
  | lit l=>cases l<;>simp only [Rows.uptoBulk]<;>omega
  | _=>simp only [Rows.uptoBulk]<;>omega⟩
 have hbb:=of_decide_eq_true hk
 simp only [List.cons_append,List.nil_append,Rows.uptoBulkAll] at hbb
 have hb0:Rows.uptoBulk d0≤1048576:=by omega
 have hb1:Rows.uptoBulk d1≤1048576:=by omega
 have hb2:Rows.uptoBulk d2≤1048576:=by omega
 have hb3:Rows.uptoBulk d3≤1048576:=by omega
 have hb4:Rows.uptoBulk d4≤1048576:=by omega
 have hdoc:∀ cs x,Rd enc Tryd.prog W 27 cs x→∃ d:Go.Fv.J.Dc,aY (pq W) d.av cs∧(Rows.uptoBulk x.1≤1048576→d.pages.length≤2000000):=fun cs x h=>by
  obtain ⟨a,b,hv,hi⟩:=h.Oc hB 1048576 Tryd.underlying27 1 1 Go.Fv.J.NK ⟨rfl,rfl⟩ ⟨Go.Fv.J.c9,Go.Fv.J.c25⟩ (fun _ _ h=>h.Nw hB 1048576 Tryd.underlying9) (fun _ _ h=>h.MN hB 1048576 Tryd.underlying25 Tryd.underlying3)
  exact ⟨⟨a,b⟩,hv,fun hb=>by have:=(hi hb).2;show b.length≤2000000;omega⟩
 obtain ⟨l,_,hl,hlv⟩:=F8 hB 1048576 Tryd.underlying22 2 (by decide) Go.Fv.J.Dc.av (fun _=>rfl) _ hdoc (hval 0 22 v0 rfl rfl) h0 hb0
 obtain ⟨f,_,hf⟩:=uV Tryd.underlying3 (hval 1 3 v1 rfl rfl) h1
 obtain ⟨p,_,hp⟩:=uV Tryd.underlying3 (hval 2 3 v2 rfl rfl) h2
 obtain ⟨t,_,ht⟩:=uV Tryd.underlying3 (hval 3 3 v3 rfl rfl) h3
 obtain ⟨a,_,ha⟩:=uV Tryd.underlying3 (hval 4 3 v4 rfl rfl) h4
 refine DZ (Go.Fv.J.qh l f p t a hl) hgl (.cons _ _ _ _ hlv (.cons _ _ _ _ hf (.cons _ _ _ _ hp (.cons _ _ _ _ ht (.cons _ _ _ _ ha .nil))))) hW' rfl ?_ rfl Tryd.underlying4 laidOut ?_
 ·intro l hl
  match l,hl with
  | [a,b,c,d,e],_=>rfl
 ·intro t ht
  rw [Tryd.params3] at ht
  have hm:t∈[22,3,3,3,3]:=by simpa using ht
  have hall:([22,3,3,3,3].all fun u=>Tryd.prog.readableRec u && decide (u<Tryd.prog.types.size))=true:=by kernel_rfl
  have:=List.all_eq_true.1 hall t hm
  simpa using this
theorem reads (os:Os) {H:Type} (enc:TypeId × Value→H):∃ places,DataW.whole enc Tryd.prog ((World.laidAll Tryd.prog os Rows.documentsChangeRow.laid).forCall (fun _ _=>0) ⟨#[],#[.slice none 0 0,.int .i64 0,.int .i64 0,.int .i64 0,.int .i64 0],[]⟩).memory Tryd.f3.params.toList Rows.documentsChangeSpec.vars false (#[.slice none 0 0,.int .i64 0,.int .i64 0,.int .i64 0,.int .i64 0]:Array Value).toList 8=some ([.nil,.lit (.int .i64 0),.lit (.int .i64 0),.lit (.int .i64 0),.lit (.int .i64 0)],[],places):=
 ⟨[],by kernel_rfl⟩
set_option maxRecDepth 100000 in
theorem lifted (os:Os) (started:os.Started) (H:Type) (enc:TypeId × Value→H) (F:Stop.Interp) :
  ReturnsInHanded {} Tryd.checked os 3 .any ((Rows.OpenSpec.upto Rows.documentsChangeSpec).preRow enc Tryd.prog Tryd.f3 Rows.documentsChangeUptoRow.domain false Rows.documentsChangeUptoRow.laid) (((Rows.OpenSpec.upto Rows.documentsChangeSpec).at F).post enc Tryd.prog Tryd.f3 false true false false):=by
 obtain ⟨places,hx⟩:=reads os enc
 have hok:Input.okWideB Tryd.checked.prog ((World.laidAll Tryd.prog os Rows.documentsChangeRow.laid).forCall (fun _ _=>0) ⟨#[],#[.slice none 0 0,.int .i64 0,.int .i64 0,.int .i64 0,.int .i64 0],[]⟩) 3 ⟨#[],#[.slice none 0 0,.int .i64 0,.int .i64 0,.int .i64 0,.int .i64 0],[]⟩=true:=by kernel_rfl
 refine returnsInHanded_of_row (C:=Tryd.checked) (s:=Rows.OpenSpec.upto Rows.documentsChangeSpec) own started (by kernel_rfl) Tryd.func3
  ⟨World.laidAll Tryd.prog os Rows.documentsChangeRow.laid,fun _ _=>0,⟨#[],#[.slice none 0 0,.int .i64 0,.int .i64 0,.int .i64 0,.int .i64 0],[]⟩,World.laidAll_os _ _ _,World.shaped_of_ZipB (by kernel_rfl) (by kernel_rfl),(Input.okWide_of_okWideB (base:=0) hok).1,(Input.okWide_of_okWideB hok).2,
   OpenSpec.preRow_of_cond 8 hx (by kernel_rfl) (fun k hk=>by cases hk;kernel_rfl) (by kernel_rfl) (by rw [MakeChecks.laidMetH_plain _ _ _ (by kernel_rfl)];exact laidMet_laidAll _ (by kernel_rfl) (by kernel_rfl)),
   by simp [Assume.holds]⟩ ?_
 intro W base args ds gs before hval hW _ hcond _ _ hsh _
 exact contract H enc W base args ds gs before hsh (hcond _ rfl) hval hW
theorem holds:Rows.DocumentsChangeUptoSaid:=
 OpenClaim.holds_of_cond 3 Tryd.f3 rfl rfl rfl rfl rfl rfl rfl ⟨rfl,rfl,rfl,rfl,rfl⟩ rfl rfl rfl rfl rfl (by kernel_rfl) Tryd.func3 (by kernel_rfl)
  (of_decide_eq_true (by kernel_rfl)) (by unfold Func.isWrapper;first|(rw [if_pos (by decide +kernel)];kernel_rfl)|(rw [if_neg (by decide +kernel)];exact ⟨rfl,rfl⟩))
  (fun os started H enc _ F=>by rw [OpenClaim.pre_eq_preRow];exact lifted os started H enc F)
theorem plain (f:FuncId) (fn:Func) (hf:Tryd.pinned.checked.prog.funcNamed "flatbed/bedlaw1.DocumentsChange" = some f) (hfn:Tryd.pinned.checked.prog.funcs[f]?=some fn) :
  false=Tryd.pinned.checked.prog.looks []∧∀ (j:Nat) t,fn.params[j]?=some t→Tryd.pinned.checked.prog.wantsStandIn t=false:=by
 obtain rfl:f=3:=Option.some.inj ((show Tryd.prog.funcNamed "flatbed/bedlaw1.DocumentsChange" = some 3 by kernel_rfl).symm.trans hf) |>.symm
 obtain rfl:fn=Tryd.f3:=(Option.some.inj (Tryd.func3.symm.trans hfn)).symm
 refine ⟨by kernel_rfl,fun j t ht=>?_⟩
 rw [Tryd.params3] at ht
 have hm:t∈[22,3,3,3,3]:=by simpa using Array.mem_of_getElem? ht
 have hall:([22,3,3,3,3].all fun u=>!Tryd.prog.wantsStandIn u)=true:=by kernel_rfl
 exact (show Tryd.prog.wantsStandIn t=false by simpa using List.all_eq_true.1 hall t hm)
theorem card:Rows.DocumentsChangeUptoCardSaid:=
 Claim7.holds_tied_plain_at .later [] _ _ _ _ holds (fun _ h=>by cases h) (by kernel_rfl) (fun _ h=>by cases h) documentsChangeUpto_row_tie rfl ⟨rfl,rfl⟩ (by kernel_rfl) rfl plain (by kernel_rfl)
#print axioms card
end Go.Proofs.YtkigppimkbkjoaaDoor.documentsChange
