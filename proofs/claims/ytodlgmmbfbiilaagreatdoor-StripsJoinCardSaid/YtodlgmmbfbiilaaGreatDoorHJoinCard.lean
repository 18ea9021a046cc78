/-
  Proved: the card of the law StripsJoin: at every input the law's function returns true, and each argument reads behind the call as it read before.
  Conditions: none of its own; those of the given row: the library tables that it lists hold, when the call begins, what the program's text lays.
-/
import Derived.Test.YtodlgmmbfbiilaaGreatDoorHJoinCardPart14
import Derived.Test.YtodlgmmbfbiilaaGreatDoorFvPart12
import Derived.Test.YtodlgmmbfbiilaaGreatDoorFvPart11
import Derived.Test.YtodlgmmbfbiilaaGreatDoorCards
import Derived.Test.YtodlgmmbfbiilaaGreatDoorTie
import Derived.ProofKit
import Derived.MakeChecks
import Derived.Lay
import Derived.LaidOnce
import Derived.SevenTiedAt
import Derived.Carry
import Derived.OpenShut
import Derived.Handed
import Derived.LaidLaws
namespace Go.Proofs.YtodlgmmbfbiilaaGreatDoor.stripsJoin
open Go.RowKit Go.ChangeShapes Go.WideShapes Go.ChangeAt Go.Fv
theorem own : ownKnob Tryz.prog.godebug = none := by kernel_rfl
theorem laidOut : laidOutB Tryz.prog = true := by kernel_rfl
set_option maxRecDepth 100000 in
theorem contract (H : Type) (enc : TypeId × Value → H) (W : World) (base : Nat) (args : Array Value) (ds gs : List (DataW H)) (before : List MemPlace) (hsh : W.ShapedOpen Tryz.prog) (hlaid : laidMetH Tryz.prog Rows.stripsJoinRow.laid W) (hwt : (DataW.weightsEach Tryz.prog (Tryz.f4.params.toList ++ (OpenSpec.ofChange Rows.stripsJoinSpec).bare.plain.varTypes Tryz.prog) (ds ++ gs)).all (· ≤ reachBytes) = true)
  (hval : ∀ (j : Nat) t v, Tryz.f4.params[j]? = some t → args[j]? = some v → Value.okWide Tryz.prog W .any base t v)
  (hW : DataW.Whole enc Tryz.prog Tryz.f4.params.toList Rows.stripsJoinSpec.vars false W args.toList ds gs before) :
  Calls Tryz.prog 4 args W fun e W' => ∃ v, e = .returned v ∧ Rows.stripsJoinSpec.post enc Tryz.prog Tryz.f4 false true false false W args v W' := by
 have hW' := hW
 have hgl : GlOk Tryz.prog W := GlOk.of_shapedT (by kernel_rfl) hsh (tab_of_laid (l := Rows.stripsJoinRow.laid) (g0 := 7) (t := 224) (e := 5) (by kernel_rfl) (by kernel_rfl) (by kernel_rfl) (by kernel_rfl) (by kernel_rfl) (by kernel_rfl) (by kernel_rfl) (by kernel_rfl) (by kernel_rfl) hlaid)
 obtain ⟨p, q, hA0, hV, rfl, _, _⟩ := hW
 have hA : DataW.TrodAll enc Tryz.prog W 0 (fun _ => true) true Tryz.f4.params.toList args.toList ds p := hA0
 rw [Tryz.params4] at hA hval
 obtain ⟨v0, vs0, d0, ds0, p0, q0, hargs, rfl, rfl, h0, r0⟩ := trodAll_cons hA
 obtain ⟨v1, vs1, d1, ds1, p1, q1, rfl, rfl, rfl, h1, r1⟩ := trodAll_cons r0
 obtain ⟨rfl, rfl, rfl⟩ := trodAll_nil r1
 obtain rfl : args = #[v0, v1] := by cases args; simp_all
 have hbits : ∀ cs x, Rd enc Tryz.prog W 24 cs x → ∃ y : Go.Fv.H.Pg, RvL (cIn W) y.av cs ∧ True := fun cs x h => by
  obtain ⟨a, b, c, hv⟩ := h.s3 Tryz.underlying24 1 1 1 Go.Fv.H.c24 ⟨rfl, rfl, rfl⟩ ⟨Go.Fv.H.c3, Go.Fv.H.c3, Go.Fv.H.c22⟩ (fun _ _ h => h.int' Tryz.underlying3) (fun _ _ h => h.int' Tryz.underlying3) (fun _ _ h => h.bools' Tryz.underlying22 Tryz.underlying4)
  exact ⟨⟨a, b, c⟩, hv, trivial⟩
 obtain ⟨a, _, ha⟩ := arg_objs Tryz.underlying35 3 (by decide) Go.Fv.H.Pg.av (fun _ => rfl) (fun _ => rfl) (fun _ => True) hbits (hval 0 35 v0 rfl rfl) h0
 obtain ⟨b, _, _, hb⟩ := arg_ints Tryz.underlying36 Tryz.underlying3 (hval 1 36 v1 rfl rfl) h1
 refine calls_true (Go.Fv.H.stripsJoin_ok a b) hgl (.cons _ _ _ _ ha (.cons _ _ _ _ hb .nil)) hW' rfl ?_ rfl Tryz.underlying4 laidOut ?_
 ·intro l hl
  match l, hl with
  | [a, b], _ => rfl
 ·intro t ht
  rw [Tryz.params4] at ht
  have hm : t ∈ [35, 36] := by simpa using ht
  have hall : ([35, 36].all fun u => Tryz.prog.readableRec u && decide (u < Tryz.prog.types.size)) = true := by kernel_rfl
  have := List.all_eq_true.1 hall t hm
  simpa using this
set_option maxRecDepth 100000 in
theorem lifted (os : Os) (started : os.Started) (H : Type) (enc : TypeId × Value → H) :
  ReturnsInHanded {} Tryz.checked os 4 .any (fun w args => (Rows.stripsJoinSpec.pre enc Tryz.prog Tryz.f4 [] false w args ∧ laidMetH Tryz.prog Rows.stripsJoinRow.laid w) ∧ sizedMet enc Tryz.prog Tryz.f4 (OpenSpec.ofChange Rows.stripsJoinSpec) false w args)
   (Rows.stripsJoinSpec.post enc Tryz.prog Tryz.f4 false true false false) := by
 refine handed_of_changeX (C := Tryz.checked) (X := fun w _ => laidMetH Tryz.prog Rows.stripsJoinRow.laid w) (fun _ _ _ hh h => h.of_heap hh) own started (by kernel_rfl) Tryz.func4
  (ChangeSpec.witness_shaped (enc := enc) (C := Tryz.checked) (os := os) (X := fun w _ => laidMetH Tryz.prog Rows.stripsJoinRow.laid w) false (World.laidAll Tryz.prog os Rows.stripsJoinRow.laid) #[.slice none 0 0, .slice none 0 0] 8 (World.laidAll_os _ _ _)
   (World.shaped_of_ZipB (by kernel_rfl) (by kernel_rfl)) (by kernel_rfl) (by kernel_rfl) (by kernel_rfl)
   (by rw [MakeChecks.laidMetH_plain _ _ _ (by kernel_rfl)]; exact laidMet_laidAll _ (by kernel_rfl) (by kernel_rfl))) ?_
 intro W base args ds gs before hsh hlaid hwt hval0 hW
 exact contract H enc W base args ds gs before hsh hlaid hwt hval0 hW
theorem holds : Rows.StripsJoinSaid :=
 OpenClaim.holds_of_wide 4 Tryz.f4 rfl rfl rfl rfl rfl rfl rfl ⟨rfl, rfl, rfl, rfl, rfl⟩ rfl rfl rfl rfl rfl (by kernel_rfl) Tryz.func4 (by kernel_rfl)
  (of_decide_eq_true (by kernel_rfl)) (by unfold Func.isWrapper; first | (rw [if_pos (by decide +kernel)]; kernel_rfl) | (rw [if_neg (by decide +kernel)]; exact ⟨rfl, rfl⟩))
  (fun os started H enc _ => lifted os started H enc)
theorem plain (f : FuncId) (fn : Func) (hf : Tryz.pinned.checked.prog.funcNamed "flatbed/bedlaw1.StripsJoin" = some f) (hfn : Tryz.pinned.checked.prog.funcs[f]? = some fn) :
  true = Tryz.pinned.checked.prog.looks [] ∧ ∀ (j : Nat) t, fn.params[j]? = some t → Tryz.pinned.checked.prog.wantsStandIn t = false := by
 obtain rfl : f = 4 := Option.some.inj ((show Tryz.prog.funcNamed "flatbed/bedlaw1.StripsJoin" = some 4 by kernel_rfl).symm.trans hf) |>.symm
 obtain rfl : fn = Tryz.f4 := (Option.some.inj (Tryz.func4.symm.trans hfn)).symm
 refine ⟨by kernel_rfl, fun j t ht => ?_⟩
 rw [Tryz.params4] at ht
 have hm : t ∈ [35, 36] := by simpa using Array.mem_of_getElem? ht
 have hall : ([35, 36].all fun u => !Tryz.prog.wantsStandIn u) = true := by kernel_rfl
 exact (show Tryz.prog.wantsStandIn t = false by simpa using List.all_eq_true.1 hall t hm)
theorem card : Rows.StripsJoinCardSaid :=
 Claim7.holds_tied_plain_at .later [] _ _ _ _ holds (fun _ h => by cases h) (by kernel_rfl) (fun _ h => by cases h) stripsJoin_row_tie rfl ⟨rfl, rfl⟩ (by kernel_rfl) rfl plain (by kernel_rfl)
#print axioms card
end Go.Proofs.YtodlgmmbfbiilaaGreatDoor.stripsJoin
