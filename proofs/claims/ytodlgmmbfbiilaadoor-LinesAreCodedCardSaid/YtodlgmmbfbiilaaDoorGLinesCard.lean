/-
  Proved: the card of the law LinesAreCoded: at every input the law's function returns true, and each argument reads behind the call as it read before.
  Conditions: none of its own; those of the given row: the library tables that it lists hold, when the call begins, what the program's text lays.
-/
import Derived.Test.YtodlgmmbfbiilaaDoorGLinesCardPart6
import Derived.Test.YtodlgmmbfbiilaaDoorFvPart11
import Derived.Test.YtodlgmmbfbiilaaDoorFvPart10
import Derived.Test.YtodlgmmbfbiilaaDoorCards
import Derived.Test.YtodlgmmbfbiilaaDoorTie
import Derived.ProofKit
import Derived.MakeChecks
import Derived.Lay
import Derived.LaidOnce
import Derived.SevenTiedAt
import Derived.Carry
import Derived.OpenShut
import Derived.Handed
import Derived.LaidLaws
namespace Go.Proofs.YtodlgmmbfbiilaaDoor.linesAreCoded
open Go.RowKit Go.ChangeShapes Go.WideShapes Go.ChangeAt Go.Fv

theorem own : ownKnob Tryd.prog.godebug = none := by kernel_rfl
theorem laidOut : laidOutB Tryd.prog = true := by kernel_rfl

set_option maxRecDepth 100000 in
theorem contract (H : Type) (enc : TypeId × Value → H) (W : World) (base : Nat) (args : Array Value) (ds gs : List (DataW H)) (before : List MemPlace) (hsh : W.ShapedOpen Tryd.prog) (hlaid : laidMetH Tryd.prog Rows.linesAreCodedRow.laid W) (hwt : (DataW.weightsEach Tryd.prog (Tryd.f4.params.toList ++ (OpenSpec.ofChange Rows.linesAreCodedSpec).bare.plain.varTypes Tryd.prog) (ds ++ gs)).all (· ≤ reachBytes) = true)
    (hval : ∀ (j : Nat) t v, Tryd.f4.params[j]? = some t → args[j]? = some v → Value.okWide Tryd.prog W .any base t v)
    (hW : DataW.Whole enc Tryd.prog Tryd.f4.params.toList Rows.linesAreCodedSpec.vars false W args.toList ds gs before) :
    Calls Tryd.prog 4 args W fun e W' => ∃ v, e = .returned v ∧ Rows.linesAreCodedSpec.post enc Tryd.prog Tryd.f4 false true false false W args v W' := by
  have hW' := hW
  have hgl : GlOk Tryd.prog W := GlOk.of_shapedT (by kernel_rfl) hsh (tab_of_laid (l := Rows.linesAreCodedRow.laid) (g0 := 7) (t := 130) (e := 5) (by kernel_rfl) (by kernel_rfl) (by kernel_rfl) (by kernel_rfl) (by kernel_rfl) (by kernel_rfl) (by kernel_rfl) (by kernel_rfl) (by kernel_rfl) hlaid)
  obtain ⟨p, q, hA0, hV, rfl, _, _⟩ := hW
  have hA : DataW.TrodAll enc Tryd.prog W 0 (fun _ => true) true Tryd.f4.params.toList args.toList ds p := hA0
  rw [Tryd.params4] at hA hval
  obtain ⟨v0, vs0, d0, ds0, p0, q0, hargs, rfl, rfl, h0, r0⟩ := trodAll_cons hA
  obtain ⟨v1, vs1, d1, ds1, p1, q1, rfl, rfl, rfl, h1, r1⟩ := trodAll_cons r0
  obtain ⟨v2, vs2, d2, ds2, p2, q2, rfl, rfl, rfl, h2, r2⟩ := trodAll_cons r1
  obtain ⟨rfl, rfl, rfl⟩ := trodAll_nil r2
  obtain rfl : args = #[v0, v1, v2] := by cases args; simp_all
  obtain ⟨row, _, hrow⟩ := arg_bools Tryd.underlying30 Tryd.underlying4 (hval 0 30 v0 rfl rfl) h0
  obtain ⟨above, _, habove⟩ := arg_bools Tryd.underlying30 Tryd.underlying4 (hval 1 30 v1 rfl rfl) h1
  obtain ⟨s, rfl, hs⟩ := arg_str Tryd.underlying9 (hval 2 9 v2 rfl rfl) h2
  have hlen : s.length ≤ 140737488351232 := by
    rw [Tryd.params4] at hwt
    have e : (OpenSpec.ofChange Rows.linesAreCodedSpec).bare.plain.varTypes Tryd.prog = [] := rfl
    rw [e] at hwt
    have e2 : DataW.weightsEach Tryd.prog ((#[30, 30, 9] : Array TypeId).toList ++ []) ([d0, d1, DataW.lit (.string s)] ++ gs) = d0.weights Tryd.prog 30 ++ (d1.weights Tryd.prog 30 ++ ([s.length] ++ [])) := by
      show DataW.weightsEach Tryd.prog [30, 30, 9] (d0 :: d1 :: DataW.lit (.string s) :: gs) = _
      simp only [DataW.weightsEach, DataW.weights]
    rw [e2, List.all_append, Bool.and_eq_true, List.all_append, Bool.and_eq_true] at hwt
    exact of_decide_eq_true (List.all_eq_true.1 hwt.2.2 s.length (by simp))
  refine calls_true (Go.Fv.G.linesAreCoded_ok row above s hlen) hgl (.cons _ _ _ _ hrow (.cons _ _ _ _ habove (.cons _ _ _ _ hs .nil))) hW' rfl ?_ rfl Tryd.underlying4 laidOut ?_
  · intro l hl
    match l, hl with
    | [a, b, c], _ => rfl
  · intro t ht
    rw [Tryd.params4] at ht
    have hm : t ∈ [30, 30, 9] := by simpa using ht
    have hall : ([30, 30, 9].all fun u => Tryd.prog.readableRec u && decide (u < Tryd.prog.types.size)) = true := by kernel_rfl
    have := List.all_eq_true.1 hall t hm
    simpa using this

set_option maxRecDepth 100000 in
theorem lifted (os : Os) (started : os.Started) (H : Type) (enc : TypeId × Value → H) :
    ReturnsInHanded {} Tryd.checked os 4 .any (fun w args => (Rows.linesAreCodedSpec.pre enc Tryd.prog Tryd.f4 [] false w args ∧ laidMetH Tryd.prog Rows.linesAreCodedRow.laid w) ∧ sizedMet enc Tryd.prog Tryd.f4 (OpenSpec.ofChange Rows.linesAreCodedSpec) false w args)
      (Rows.linesAreCodedSpec.post enc Tryd.prog Tryd.f4 false true false false) := by
  refine handed_of_changeX (C := Tryd.checked) (X := fun w _ => laidMetH Tryd.prog Rows.linesAreCodedRow.laid w) (fun _ _ _ hh h => h.of_heap hh) own started (by kernel_rfl) Tryd.func4
    (ChangeSpec.witness_shaped (enc := enc) (C := Tryd.checked) (os := os) (X := fun w _ => laidMetH Tryd.prog Rows.linesAreCodedRow.laid w) false (World.laidAll Tryd.prog os Rows.linesAreCodedRow.laid) #[.slice none 0 0, .slice none 0 0, .string ⟨#[]⟩] 8 (World.laidAll_os _ _ _)
      (World.shaped_of_ZipB (by kernel_rfl) (by kernel_rfl)) (by kernel_rfl) (by kernel_rfl) (by kernel_rfl)
      (by rw [MakeChecks.laidMetH_plain _ _ _ (by kernel_rfl)]; exact laidMet_laidAll _ (by kernel_rfl) (by kernel_rfl))) ?_
  intro W base args ds gs before hsh hlaid hwt hval0 hW
  exact contract H enc W base args ds gs before hsh hlaid hwt hval0 hW

theorem holds : Rows.LinesAreCodedSaid :=
  OpenClaim.holds_of_wide 4 Tryd.f4 rfl rfl rfl rfl rfl rfl rfl ⟨rfl, rfl, rfl, rfl, rfl⟩ rfl rfl rfl rfl rfl (by kernel_rfl) Tryd.func4 (by kernel_rfl)
    (of_decide_eq_true (by kernel_rfl)) (by unfold Func.isWrapper; first | (rw [if_pos (by decide +kernel)]; kernel_rfl) | (rw [if_neg (by decide +kernel)]; exact ⟨rfl, rfl⟩))
    (fun os started H enc _ => lifted os started H enc)

theorem plain (f : FuncId) (fn : Func) (hf : Tryd.pinned.checked.prog.funcNamed "flatbed/bedlaw1.LinesAreCoded" = some f) (hfn : Tryd.pinned.checked.prog.funcs[f]? = some fn) :
    true = Tryd.pinned.checked.prog.looks [] ∧ ∀ (j : Nat) t, fn.params[j]? = some t → Tryd.pinned.checked.prog.wantsStandIn t = false := by
  obtain rfl : f = 4 := Option.some.inj ((show Tryd.prog.funcNamed "flatbed/bedlaw1.LinesAreCoded" = some 4 by kernel_rfl).symm.trans hf) |>.symm
  obtain rfl : fn = Tryd.f4 := (Option.some.inj (Tryd.func4.symm.trans hfn)).symm
  refine ⟨by kernel_rfl, fun j t ht => ?_⟩
  rw [Tryd.params4] at ht
  have hm : t ∈ [30, 30, 9] := by simpa using Array.mem_of_getElem? ht
  have hall : ([30, 30, 9].all fun u => !Tryd.prog.wantsStandIn u) = true := by kernel_rfl
  exact (show Tryd.prog.wantsStandIn t = false by simpa using List.all_eq_true.1 hall t hm)

theorem card : Rows.LinesAreCodedCardSaid :=
  Claim7.holds_tied_plain_at .later [] _ _ _ _ holds (fun _ h => by cases h) (by kernel_rfl) (fun _ h => by cases h) linesAreCoded_row_tie rfl ⟨rfl, rfl⟩ (by kernel_rfl) rfl plain (by kernel_rfl)
#print axioms card
end Go.Proofs.YtodlgmmbfbiilaaDoor.linesAreCoded
