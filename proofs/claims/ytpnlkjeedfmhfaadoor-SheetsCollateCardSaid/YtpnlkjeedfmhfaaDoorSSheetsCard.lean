/-
  Proved: the card of the law SheetsCollate: at every input the law's function returns true, and each argument reads behind the call as it read before.
  Conditions: none of its own; those of the given row: the library tables that it lists hold, when the call begins, what the program's text lays.
-/
import Derived.Test.YtpnlkjeedfmhfaaDoorSSheetsCardPart7
import Derived.Test.YtpnlkjeedfmhfaaDoorFvPart9
import Derived.Test.YtpnlkjeedfmhfaaDoorCards
import Derived.Test.YtpnlkjeedfmhfaaDoorTie
import Derived.ProofKit
import Derived.MakeChecks
import Derived.Lay
import Derived.LaidOnce
import Derived.SevenTiedAt
import Derived.Carry
import Derived.OpenShut
import Derived.Handed
import Derived.LaidLaws
namespace Go.Proofs.YtpnlkjeedfmhfaaDoor.sheetsCollate
open Go.RowKit Go.ChangeShapes Go.WideShapes Go.ChangeAt Go.Fv

theorem own : ownKnob Tryd.prog.godebug = none := by kernel_rfl
theorem laidOut : laidOutB Tryd.prog = true := by kernel_rfl

set_option maxRecDepth 100000 in
theorem contract (H : Type) (enc : TypeId × Value → H) (W : World) (base : Nat) (args : Array Value) (ds gs : List (DataW H)) (before : List MemPlace)
    (hval : ∀ (j : Nat) t v, Tryd.f3.params[j]? = some t → args[j]? = some v → Value.okWide Tryd.prog W .any base t v)
    (hW : DataW.Whole enc Tryd.prog Tryd.f3.params.toList Rows.sheetsCollateSpec.vars false W args.toList ds gs before) :
    Calls Tryd.prog 3 args W fun e W' => ∃ v, e = .returned v ∧ Rows.sheetsCollateSpec.post enc Tryd.prog Tryd.f3 false true false false W args v W' := by
  have hW' := hW
  obtain ⟨p, q, hA0, hV, rfl, _, _⟩ := hW
  have hA : DataW.TrodAll enc Tryd.prog W 0 (fun _ => true) true Tryd.f3.params.toList args.toList ds p := hA0
  rw [Tryd.params3] at hA hval
  obtain ⟨v0, vs0, d0, ds0, p0, q0, hargs, rfl, rfl, h0, r0⟩ := trodAll_cons hA
  obtain ⟨v1, vs1, d1, ds1, p1, q1, rfl, rfl, rfl, h1, r1⟩ := trodAll_cons r0
  obtain ⟨v2, vs2, d2, ds2, p2, q2, rfl, rfl, rfl, h2, r2⟩ := trodAll_cons r1
  obtain ⟨rfl, rfl, rfl⟩ := trodAll_nil r2
  obtain rfl : args = #[v0, v1, v2] := by cases args; simp_all
  have hbits : ∀ cs x, Rd enc Tryd.prog W 27 cs x → ∃ y : Int × Int × List Bool, RvL (cIn W) [.int .i64 y.1, .int .i64 y.2.1, .ro (.bools y.2.2)] cs := fun cs x h => by
    obtain ⟨a, b, c, hv⟩ := h.s3 Tryd.underlying27 1 1 1 S.c27 ⟨rfl, rfl, rfl⟩ ⟨S.c3, S.c3, S.c25⟩ (fun _ _ h => h.int' Tryd.underlying3) (fun _ _ h => h.int' Tryd.underlying3) (fun _ _ h => h.bools' Tryd.underlying25 Tryd.underlying4)
    exact ⟨(a, b, c), hv⟩
  have hsheet : ∀ cs x, Rd enc Tryd.prog W 30 cs x → ∃ s : S.Sh, RvL (cIn W) s.av cs ∧ True := fun cs x h => by
    obtain ⟨a, b, c, hv⟩ := h.s3 Tryd.underlying30 3 1 1 S.c30 ⟨rfl, rfl, rfl⟩ ⟨S.c27, S.c28, S.c9⟩ hbits (fun _ _ h => h.strs' Tryd.underlying28 Tryd.underlying9) (fun _ _ h => h.str' Tryd.underlying9)
    exact ⟨⟨a.1, a.2.1, a.2.2, b, c⟩, hv, trivial⟩
  obtain ⟨a, _, ha⟩ := arg_objs Tryd.underlying22 5 (by decide) S.Sh.av (fun _ => rfl) (fun _ => rfl) (fun _ => True) hsheet (hval 0 22 v0 rfl rfl) h0
  obtain ⟨b, _, hb⟩ := arg_objs Tryd.underlying22 5 (by decide) S.Sh.av (fun _ => rfl) (fun _ => rfl) (fun _ => True) hsheet (hval 1 22 v1 rfl rfl) h1
  obtain ⟨raw, hraw⟩ := arg_bool Tryd.underlying4 (hval 2 4 v2 rfl rfl) h2
  refine calls_true (S.sheetsCollate_ok a b raw) (.cons _ _ _ _ ha (.cons _ _ _ _ hb (.cons _ _ _ _ hraw .nil))) hW' rfl ?_ rfl Tryd.underlying4 laidOut ?_
  · intro l hl
    match l, hl with
    | [a, b, c], _ => rfl
  · intro t ht
    rw [Tryd.params3] at ht
    have hm : t ∈ [22, 22, 4] := by simpa using ht
    have hall : ([22, 22, 4].all fun u => Tryd.prog.readableRec u && decide (u < Tryd.prog.types.size)) = true := by kernel_rfl
    have := List.all_eq_true.1 hall t hm
    simpa using this

set_option maxRecDepth 100000 in
theorem lifted (os : Os) (started : os.Started) (H : Type) (enc : TypeId × Value → H) :
    ReturnsInHanded {} Tryd.checked os 3 .any (fun w args => (Rows.sheetsCollateSpec.pre enc Tryd.prog Tryd.f3 [] false w args ∧ laidMetH Tryd.prog Rows.sheetsCollateRow.laid w) ∧ sizedMet enc Tryd.prog Tryd.f3 (OpenSpec.ofChange Rows.sheetsCollateSpec) false w args)
      (Rows.sheetsCollateSpec.post enc Tryd.prog Tryd.f3 false true false false) := by
  refine returnsInHanded_of_change_and (C := Tryd.checked) (X := fun w _ => laidMetH Tryd.prog Rows.sheetsCollateRow.laid w) (fun _ _ _ hh h => h.of_heap hh) own started (by kernel_rfl) Tryd.func3
    (ChangeSpec.witness_shaped (enc := enc) (C := Tryd.checked) (os := os) (X := fun w _ => laidMetH Tryd.prog Rows.sheetsCollateRow.laid w) false (World.laidAll Tryd.prog os Rows.sheetsCollateRow.laid) #[.slice none 0 0, .slice none 0 0, .bool false] 8 (World.laidAll_os _ _ _)
      (World.shaped_of_ZipB (by kernel_rfl) (by kernel_rfl)) (by kernel_rfl) (by kernel_rfl) (by kernel_rfl)
      (by rw [MakeChecks.laidMetH_plain _ _ _ (by kernel_rfl)]; exact laidMet_laidAll _ (by kernel_rfl) (by kernel_rfl))) ?_
  intro W base args ds gs before hval0 hW _ _ _ _
  exact contract H enc W base args ds gs before hval0 hW

theorem holds : Rows.SheetsCollateSaid :=
  OpenClaim.holds_of_wide 3 Tryd.f3 rfl rfl rfl rfl rfl rfl rfl ⟨rfl, rfl, rfl, rfl, rfl⟩ rfl rfl rfl rfl rfl (by kernel_rfl) Tryd.func3 (by kernel_rfl)
    (of_decide_eq_true (by kernel_rfl)) (by unfold Func.isWrapper; first | (rw [if_pos (by decide +kernel)]; kernel_rfl) | (rw [if_neg (by decide +kernel)]; exact ⟨rfl, rfl⟩))
    (fun os started H enc _ => lifted os started H enc)

theorem plain (f : FuncId) (fn : Func) (hf : Tryd.pinned.checked.prog.funcNamed "flatbed/bedlaw1.SheetsCollate" = some f) (hfn : Tryd.pinned.checked.prog.funcs[f]? = some fn) :
    false = Tryd.pinned.checked.prog.looks [] ∧ ∀ (j : Nat) t, fn.params[j]? = some t → Tryd.pinned.checked.prog.wantsStandIn t = false := by
  obtain rfl : f = 3 := Option.some.inj ((show Tryd.prog.funcNamed "flatbed/bedlaw1.SheetsCollate" = some 3 by kernel_rfl).symm.trans hf) |>.symm
  obtain rfl : fn = Tryd.f3 := (Option.some.inj (Tryd.func3.symm.trans hfn)).symm
  refine ⟨by kernel_rfl, fun j t ht => ?_⟩
  rw [Tryd.params3] at ht
  have hm : t ∈ [22, 22, 4] := by simpa using Array.mem_of_getElem? ht
  have hall : ([22, 22, 4].all fun u => !Tryd.prog.wantsStandIn u) = true := by kernel_rfl
  exact (show Tryd.prog.wantsStandIn t = false by simpa using List.all_eq_true.1 hall t hm)

theorem card : Rows.SheetsCollateCardSaid :=
  Claim7.holds_tied_plain_at .later [] _ _ _ _ holds (fun _ h => by cases h) (by kernel_rfl) (fun _ h => by cases h) sheetsCollate_row_tie rfl ⟨rfl, rfl⟩ (by kernel_rfl) rfl plain (by kernel_rfl)
#print axioms card
end Go.Proofs.YtpnlkjeedfmhfaaDoor.sheetsCollate
