/-
  Proved: the card of the law ArchivesAreChecked: at every input the law's function returns true, and each argument reads behind the call as it read before.
  Conditions: none of its own; those of the given row: the library tables that it lists hold, when the call begins, what the program's text lays.
-/
import Derived.Test.YtodlgmmbfbiilaaGreatDoorHArcCCardPart16
import Derived.Test.YtodlgmmbfbiilaaGreatDoorFvPart12
import Derived.Test.YtodlgmmbfbiilaaGreatDoorFvPart11
import Derived.Test.YtodlgmmbfbiilaaGreatDoorCards
import Derived.Test.YtodlgmmbfbiilaaGreatDoorTie
import Derived.ProofKit
import Derived.MakeChecks
import Derived.Lay
import Derived.LaidOnce
import Derived.SevenTiedAt
import Derived.Carry
import Derived.OpenShut
import Derived.Handed
import Derived.LaidLaws
namespace Go.Proofs.YtodlgmmbfbiilaaGreatDoor.archivesAreChecked
open Go.RowKit Go.ChangeShapes Go.WideShapes Go.ChangeAt Go.Fv
theorem own:ownKnob Tryz.prog.godebug=none:=by kernel_rfl
theorem laidOut:laidOutB Tryz.prog=true:=by kernel_rfl
set_option maxRecDepth 100000 in
theorem contract (H:Type) (enc:TypeId × Value→H) (W:World) (base:Nat) (args:Array Value) (ds gs:List (DataW H)) (before:List MemPlace) (hsh:W.ShapedOpen Tryz.prog) (hlaid:laidMetH Tryz.prog Rows.archivesAreCheckedRow.laid W) (hwt:(DataW.weightsEach Tryz.prog (Tryz.f8.params.toList++(OpenSpec.ofChange Rows.archivesAreCheckedSpec).bare.plain.varTypes Tryz.prog) (ds++gs)).all (·≤reachBytes)=true)
  (hval:∀ (j:Nat) t v,Tryz.f8.params[j]?=some t→args[j]?=some v→Value.okWide Tryz.prog W .any base t v)
  (hW:DataW.Whole enc Tryz.prog Tryz.f8.params.toList Rows.archivesAreCheckedSpec.vars false W args.toList ds gs before) :
  Calls Tryz.prog 8 args W fun e W'=>∃ v,e=.returned v∧Rows.archivesAreCheckedSpec.post enc Tryz.prog Tryz.f8 false true false false W args v W':=by
 have hW':=hW
 have hgl:wu Tryz.prog W:=wu.PZ (by kernel_rfl) hsh (Oj (l:=Rows.archivesAreCheckedRow.laid) (g0:=7) (t:=224) (e:=5) (by kernel_rfl) (by kernel_rfl) (by kernel_rfl) (by kernel_rfl) (by kernel_rfl) (by kernel_rfl) (by kernel_rfl) (by kernel_rfl) (by kernel_rfl) hlaid)
 obtain ⟨p,q,hA0,hV,rfl,_,_⟩:=hW
 have hA:DataW.TrodAll enc Tryz.prog W 0 (fun _=>true) true Tryz.f8.params.toList args.toList ds p:=hA0
 rw [Tryz.params8] at hA hval
 obtain ⟨v0,vs0,d0,ds0,p0,q0,hargs,rfl,rfl,h0,r0⟩:=trodAll_cons hA
 obtain ⟨v1,vs1,d1,ds1,p1,q1,rfl,rfl,rfl,h1,r1⟩:=trodAll_cons r0
 obtain ⟨v2,vs2,d2,ds2,p2,q2,rfl,rfl,rfl,h2,r2⟩:=trodAll_cons r1
 obtain ⟨v3,vs3,d3,ds3,p3,q3,rfl,rfl,rfl,h3,r3⟩:=trodAll_cons r2
 obtain ⟨v4,vs4,d4,ds4,p4,q4,rfl,rfl,rfl,h4,r4⟩:=trodAll_cons r3
 obtain ⟨rfl,rfl,rfl⟩:=trodAll_nil r4
 obtain rfl:args=#[v0,v1,v2,v3,v4]:=by cases args;simp_all
 have hbits:∀ cs x,Rd enc Tryz.prog W 24 cs x→∃ y:Int × Int × List Bool,bW (xO W) [.int .i64 y.1,.int .i64 y.2.1,.ro (.bools y.2.2)] cs:=fun cs x h=>by
  obtain ⟨a,b,c,hv⟩:=h.s3 Tryz.underlying24 1 1 1 Go.Fv.H.c24 ⟨rfl,rfl,rfl⟩ ⟨Go.Fv.H.c3,Go.Fv.H.c3,Go.Fv.H.c22⟩ (fun _ _ h=>h.int' Tryz.underlying3) (fun _ _ h=>h.int' Tryz.underlying3) (fun _ _ h=>h.Zv Tryz.underlying22 Tryz.underlying4)
  exact ⟨(a,b,c),hv⟩
 have hnp:∀ cs x,Rd enc Tryz.prog W 63 cs x→∃ y:Go.Fv.H.NP,bW (xO W) y.av cs∧True:=fun cs x h=>by
  obtain ⟨a,b,hv⟩:=h.s2 Tryz.underlying63 1 3 Go.Fv.H.c63 ⟨rfl,rfl⟩ ⟨Go.Fv.H.c9,Go.Fv.H.c24⟩ (fun _ _ h=>h.str' Tryz.underlying9) hbits
  exact ⟨⟨a,b.1,b.2.1,b.2.2⟩,hv,trivial⟩
 obtain ⟨a,_,ha⟩:=Vb Tryz.underlying61 4 (by decide) Go.Fv.H.NP.av (fun _=>rfl) (fun _=>rfl) (fun _=>True) hnp (hval 0 61 v0 rfl rfl) h0
 obtain ⟨kd,_,hkd⟩:=CG Tryz.underlying3 (hval 1 3 v1 rfl rfl) h1
 obtain ⟨at_,_,hat⟩:=CG Tryz.underlying3 (hval 2 3 v2 rfl rfl) h2
 obtain ⟨cut,_,hcut⟩:=CG Tryz.underlying3 (hval 3 3 v3 rfl rfl) h3
 obtain ⟨n,hn,hn1⟩:=CG Tryz.underlying5 (hval 4 5 v4 rfl rfl) h4
 obtain ⟨c,rfl⟩:∃ c:UInt8,n=(c.toNat:Int):=⟨UInt8.ofNat n.toNat,by have:=sW.1 hn;simp;omega⟩
 refine O5 (Go.Fv.H.DT a kd at_ cut c) hgl (.cons _ _ _ _ ha (.cons _ _ _ _ hkd (.cons _ _ _ _ hat (.cons _ _ _ _ hcut (.cons _ _ _ _ hn1 .nil))))) hW' rfl ?_ rfl Tryz.underlying4 laidOut ?_
 ·intro l hl
  match l,hl with
  | [a,b,c,d,e],_=>rfl
 ·intro t ht
  rw [Tryz.params8] at ht
  have hm:t∈[61,3,3,3,5]:=by simpa using ht
  have hall:([61,3,3,3,5].all fun u=>Tryz.prog.readableRec u && decide (u<Tryz.prog.types.size))=true:=by kernel_rfl
  have:=List.all_eq_true.1 hall t hm
  simpa using this
set_option maxRecDepth 100000 in
theorem lifted (os:Os) (started:os.Started) (H:Type) (enc:TypeId × Value→H) :
  ReturnsInHanded {} Tryz.checked os 8 .any (fun w args=>(Rows.archivesAreCheckedSpec.pre enc Tryz.prog Tryz.f8 [] false w args∧laidMetH Tryz.prog Rows.archivesAreCheckedRow.laid w)∧sizedMet enc Tryz.prog Tryz.f8 (OpenSpec.ofChange Rows.archivesAreCheckedSpec) false w args)
   (Rows.archivesAreCheckedSpec.post enc Tryz.prog Tryz.f8 false true false false):=by
 refine yM (C:=Tryz.checked) (X:=fun w _=>laidMetH Tryz.prog Rows.archivesAreCheckedRow.laid w) (fun _ _ _ hh h=>h.of_heap hh) own started (by kernel_rfl) Tryz.func8
  (ChangeSpec.witness_shaped (enc:=enc) (C:=Tryz.checked) (os:=os) (X:=fun w _=>laidMetH Tryz.prog Rows.archivesAreCheckedRow.laid w) false (World.laidAll Tryz.prog os Rows.archivesAreCheckedRow.laid) #[.slice none 0 0,.int .i64 0,.int .i64 0,.int .i64 0,.int .u8 0] 8 (World.laidAll_os _ _ _)
   (World.shaped_of_ZipB (by kernel_rfl) (by kernel_rfl)) (by kernel_rfl) (by kernel_rfl) (by kernel_rfl)
   (by rw [MakeChecks.laidMetH_plain _ _ _ (by kernel_rfl)];exact laidMet_laidAll _ (by kernel_rfl) (by kernel_rfl))) ?_
 intro W base args ds gs before hsh hlaid hwt hval0 hW
 exact contract H enc W base args ds gs before hsh hlaid hwt hval0 hW
theorem holds:Rows.ArchivesAreCheckedSaid:=
 OpenClaim.holds_of_wide 8 Tryz.f8 rfl rfl rfl rfl rfl rfl rfl ⟨rfl,rfl,rfl,rfl,rfl⟩ rfl rfl rfl rfl rfl (by kernel_rfl) Tryz.func8 (by kernel_rfl)
  (of_decide_eq_true (by kernel_rfl)) (by unfold Func.isWrapper;first|(rw [if_pos (by decide +kernel)];kernel_rfl)|(rw [if_neg (by decide +kernel)];exact ⟨rfl,rfl⟩))
  (fun os started H enc _=>lifted os started H enc)
theorem plain (f:FuncId) (fn:Func) (hf:Tryz.pinned.checked.prog.funcNamed "flatbed/bedlaw1.ArchivesAreChecked" = some f) (hfn:Tryz.pinned.checked.prog.funcs[f]?=some fn) :
  true=Tryz.pinned.checked.prog.looks []∧∀ (j:Nat) t,fn.params[j]?=some t→Tryz.pinned.checked.prog.wantsStandIn t=false:=by
 obtain rfl:f=8:=Option.some.inj ((show Tryz.prog.funcNamed "flatbed/bedlaw1.ArchivesAreChecked" = some 8 by kernel_rfl).symm.trans hf) |>.symm
 obtain rfl:fn=Tryz.f8:=(Option.some.inj (Tryz.func8.symm.trans hfn)).symm
 refine ⟨by kernel_rfl,fun j t ht=>?_⟩
 rw [Tryz.params8] at ht
 have hm:t∈[61,3,3,3,5]:=by simpa using Array.mem_of_getElem? ht
 have hall:([61,3,3,3,5].all fun u=>!Tryz.prog.wantsStandIn u)=true:=by kernel_rfl
 exact (show Tryz.prog.wantsStandIn t=false by simpa using List.all_eq_true.1 hall t hm)
theorem card:Rows.ArchivesAreCheckedCardSaid:=
 Claim7.holds_tied_plain_at .later [] _ _ _ _ holds (fun _ h=>by cases h) (by kernel_rfl) (fun _ h=>by cases h) archivesAreChecked_row_tie rfl ⟨rfl,rfl⟩ (by kernel_rfl) rfl plain (by kernel_rfl)
#print axioms card
end Go.Proofs.YtodlgmmbfbiilaaGreatDoor.archivesAreChecked
