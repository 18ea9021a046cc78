/-
  Proved: the card of the law TopCorrected: at every input the law's function returns true, and each argument reads behind the call as it read before.
  Conditions: none of its own; those of the given row: the library tables that it lists hold, when the call begins, what the program's text lays.
-/
import Derived.Test.YthhdmejmdjhbkaaGreatDoorYTopCorrCardPart10
import Derived.Test.YthhdmejmdjhbkaaGreatDoorFvPart12
import Derived.Test.YthhdmejmdjhbkaaGreatDoorCards
import Derived.Test.YthhdmejmdjhbkaaGreatDoorTie
import Derived.ProofKit
import Derived.MakeChecks
import Derived.Lay
import Derived.LaidOnce
import Derived.SevenTiedAt
import Derived.Carry
import Derived.OpenShut
import Derived.Handed
import Derived.LaidLaws
namespace Go.Proofs.YthhdmejmdjhbkaaGreatDoor.topCorrected
open Go.RowKit Go.ChangeShapes Go.WideShapes Go.ChangeAt Go.Fv

theorem own : ownKnob Tryz.prog.godebug = none := by kernel_rfl
theorem laidOut : laidOutB Tryz.prog = true := by kernel_rfl

set_option maxRecDepth 100000 in
theorem contract (H : Type) (enc : TypeId × Value → H) (W : World) (base : Nat) (args : Array Value) (ds gs : List (DataW H)) (before : List MemPlace) (hsh : W.ShapedOpen Tryz.prog)
    (hval : ∀ (j : Nat) t v, Tryz.f3.params[j]? = some t → args[j]? = some v → Value.okWide Tryz.prog W .any base t v)
    (hW : DataW.Whole enc Tryz.prog Tryz.f3.params.toList Rows.topCorrectedSpec.vars false W args.toList ds gs before) :
    Calls Tryz.prog 3 args W fun e W' => ∃ v, e = .returned v ∧ Rows.topCorrectedSpec.post enc Tryz.prog Tryz.f3 false true false false W args v W' := by
  have hW' := hW
  have hgl : GlOk Tryz.prog W := GlOk.of_shaped (by kernel_rfl) hsh
  obtain ⟨p, q, hA0, hV, rfl, _, _⟩ := hW
  have hA : DataW.TrodAll enc Tryz.prog W 0 (fun _ => true) true Tryz.f3.params.toList args.toList ds p := hA0
  rw [Tryz.params3] at hA hval
  obtain ⟨v0, vs0, d0, ds0, p0, q0, hargs, rfl, rfl, h0, r0⟩ := trodAll_cons hA
  obtain ⟨v1, vs1, d1, ds1, p1, q1, rfl, rfl, rfl, h1, r1⟩ := trodAll_cons r0
  obtain ⟨v2, vs2, d2, ds2, p2, q2, rfl, rfl, rfl, h2, r2⟩ := trodAll_cons r1
  obtain ⟨rfl, rfl, rfl⟩ := trodAll_nil r2
  obtain rfl : args = #[v0, v1, v2] := by cases args; simp_all
  have hwd : ∀ cs x, Rd enc Tryz.prog W 27 cs x → ∃ y : Go.Fv.Y.Wd, RvL (cIn W) y.av cs ∧ True := fun cs x h => by
    obtain ⟨m1, m2, hv⟩ := h.s2 Tryz.underlying27 1 1 Go.Fv.Y.c27 ⟨rfl, rfl⟩ ⟨Go.Fv.Y.c9, Go.Fv.Y.c3⟩ (fun _ _ h => h.str' Tryz.underlying9) (fun _ _ h => h.int' Tryz.underlying3)
    exact ⟨⟨m1, m2⟩, hv, trivial⟩
  obtain ⟨l, _, hl⟩ := arg_objs Tryz.underlying22 2 (by decide) Go.Fv.Y.Wd.av (fun _ => rfl) (fun _ => rfl) (fun _ => True) hwd (hval 0 22 v0 rfl rfl) h0
  obtain ⟨n, _, hn⟩ := arg_int Tryz.underlying3 (hval 1 3 v1 rfl rfl) h1
  obtain ⟨cs, rfl, r2'⟩ := arg_struct Tryz.underlying24 (hval 2 24 v2 rfl rfl) h2
  obtain ⟨m1, m2, m3, hm⟩ := r2'.s3 Tryz.underlying24 1 1 1 Go.Fv.Y.c24 ⟨rfl, rfl, rfl⟩ ⟨Go.Fv.Y.c9, Go.Fv.Y.c9, Go.Fv.Y.c3⟩ (fun _ _ h => h.str' Tryz.underlying9) (fun _ _ h => h.str' Tryz.underlying9) (fun _ _ h => h.int' Tryz.underlying3)
  refine calls_true (Go.Fv.Y.topCorrected_ok l n ⟨m1, m2, m3⟩) hgl (.cons _ _ _ _ hl (.cons _ _ _ _ hn (.cons _ _ _ _ (.agg _ _ hm) .nil))) hW' rfl ?_ rfl Tryz.underlying4 laidOut ?_
  · intro l hl
    match l, hl with
    | [a, b, c], _ => rfl
  · intro t ht
    rw [Tryz.params3] at ht
    have hm : t ∈ [22, 3, 24] := by simpa using ht
    have hall : ([22, 3, 24].all fun u => Tryz.prog.readableRec u && decide (u < Tryz.prog.types.size)) = true := by kernel_rfl
    have := List.all_eq_true.1 hall t hm
    simpa using this

set_option maxRecDepth 100000 in
theorem lifted (os : Os) (started : os.Started) (H : Type) (enc : TypeId × Value → H) :
    ReturnsInHanded {} Tryz.checked os 3 .any (fun w args => (Rows.topCorrectedSpec.pre enc Tryz.prog Tryz.f3 [] false w args ∧ laidMetH Tryz.prog Rows.topCorrectedRow.laid w) ∧ sizedMet enc Tryz.prog Tryz.f3 (OpenSpec.ofChange Rows.topCorrectedSpec) false w args)
      (Rows.topCorrectedSpec.post enc Tryz.prog Tryz.f3 false true false false) := by
  refine handed_of_change (C := Tryz.checked) (X := fun w _ => laidMetH Tryz.prog Rows.topCorrectedRow.laid w) (fun _ _ _ hh h => h.of_heap hh) own started (by kernel_rfl) Tryz.func3
    (ChangeSpec.witness_shaped (enc := enc) (C := Tryz.checked) (os := os) (X := fun w _ => laidMetH Tryz.prog Rows.topCorrectedRow.laid w) false (World.laidAll Tryz.prog os Rows.topCorrectedRow.laid) #[.slice none 0 0, .int .i64 0, .agg #[.string ⟨#[]⟩, .string ⟨#[]⟩, .int .i64 0]] 8 (World.laidAll_os _ _ _)
      (World.shaped_of_ZipB (by kernel_rfl) (by kernel_rfl)) (by kernel_rfl) (by kernel_rfl) (by kernel_rfl)
      (by rw [MakeChecks.laidMetH_plain _ _ _ (by kernel_rfl)]; exact laidMet_laidAll _ (by kernel_rfl) (by kernel_rfl))) ?_
  intro W base args ds gs before hsh hval0 hW
  exact contract H enc W base args ds gs before hsh hval0 hW

theorem holds : Rows.TopCorrectedSaid :=
  OpenClaim.holds_of_wide 3 Tryz.f3 rfl rfl rfl rfl rfl rfl rfl ⟨rfl, rfl, rfl, rfl, rfl⟩ rfl rfl rfl rfl rfl (by kernel_rfl) Tryz.func3 (by kernel_rfl)
    (of_decide_eq_true (by kernel_rfl)) (by unfold Func.isWrapper; first | (rw [if_pos (by decide +kernel)]; kernel_rfl) | (rw [if_neg (by decide +kernel)]; exact ⟨rfl, rfl⟩))
    (fun os started H enc _ => lifted os started H enc)

theorem plain (f : FuncId) (fn : Func) (hf : Tryz.pinned.checked.prog.funcNamed "flatbed/bedtop.TopCorrected" = some f) (hfn : Tryz.pinned.checked.prog.funcs[f]? = some fn) :
    false = Tryz.pinned.checked.prog.looks [] ∧ ∀ (j : Nat) t, fn.params[j]? = some t → Tryz.pinned.checked.prog.wantsStandIn t = false := by
  obtain rfl : f = 3 := Option.some.inj ((show Tryz.prog.funcNamed "flatbed/bedtop.TopCorrected" = some 3 by kernel_rfl).symm.trans hf) |>.symm
  obtain rfl : fn = Tryz.f3 := (Option.some.inj (Tryz.func3.symm.trans hfn)).symm
  refine ⟨by kernel_rfl, fun j t ht => ?_⟩
  rw [Tryz.params3] at ht
  have hm : t ∈ [22, 3, 24] := by simpa using Array.mem_of_getElem? ht
  have hall : ([22, 3, 24].all fun u => !Tryz.prog.wantsStandIn u) = true := by kernel_rfl
  exact (show Tryz.prog.wantsStandIn t = false by simpa using List.all_eq_true.1 hall t hm)

theorem card : Rows.TopCorrectedCardSaid :=
  Claim7.holds_tied_plain_at .later [] _ _ _ _ holds (fun _ h => by cases h) (by kernel_rfl) (fun _ h => by cases h) topCorrected_row_tie rfl ⟨rfl, rfl⟩ (by kernel_rfl) rfl plain (by kernel_rfl)
#print axioms card
end Go.Proofs.YthhdmejmdjhbkaaGreatDoor.topCorrected
