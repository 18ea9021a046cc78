/-
  Proved: the card of the law BlanksMatch: at every input the law's function returns true, and each argument reads behind the call as it read before.
  Conditions: none of its own; those of the given row: the library tables that it lists hold, when the call begins, what the program's text lays.
-/
import Derived.Test.YtpnlkjeedfmhfaaDoorSBlanksCardPart7
import Derived.Test.YtpnlkjeedfmhfaaDoorFvPart8
import Derived.Test.YtpnlkjeedfmhfaaDoorCards
import Derived.Test.YtpnlkjeedfmhfaaDoorTie
import Derived.ProofKit
import Derived.MakeChecks
import Derived.Lay
import Derived.LaidOnce
import Derived.SevenTiedAt
import Derived.Carry
import Derived.OpenShut
import Derived.Handed
import Derived.LaidLaws
namespace Go.Proofs.YtpnlkjeedfmhfaaDoor.blanksMatch
open Go.RowKit Go.ChangeShapes Go.WideShapes Go.ChangeAt Go.Fv

theorem own : ownKnob Tryd.prog.godebug = none := by kernel_rfl
theorem laidOut : laidOutB Tryd.prog = true := by kernel_rfl

set_option maxRecDepth 100000 in
theorem contract (H : Type) (enc : TypeId × Value → H) (W : World) (base : Nat) (args : Array Value) (ds gs : List (DataW H)) (before : List MemPlace)
    (hval : ∀ (j : Nat) t v, Tryd.f4.params[j]? = some t → args[j]? = some v → Value.okWide Tryd.prog W .any base t v)
    (hW : DataW.Whole enc Tryd.prog Tryd.f4.params.toList Rows.blanksMatchSpec.vars false W args.toList ds gs before) :
    Calls Tryd.prog 4 args W fun e W' => ∃ v, e = .returned v ∧ Rows.blanksMatchSpec.post enc Tryd.prog Tryd.f4 false true false false W args v W' := by
  have hW' := hW
  obtain ⟨p, q, hA0, hV, rfl, _, _⟩ := hW
  have hA : DataW.TrodAll enc Tryd.prog W 0 (fun _ => true) true Tryd.f4.params.toList args.toList ds p := hA0
  rw [Tryd.params4] at hA hval
  obtain ⟨v0, vs0, d0, ds0, p0, q0, hargs, rfl, rfl, h0, r0⟩ := trodAll_cons hA
  obtain ⟨v1, vs1, d1, ds1, p1, q1, rfl, rfl, rfl, h1, r1⟩ := trodAll_cons r0
  obtain ⟨v2, vs2, d2, ds2, p2, q2, rfl, rfl, rfl, h2, r2⟩ := trodAll_cons r1
  obtain ⟨v3, vs3, d3, ds3, p3, q3, rfl, rfl, rfl, h3, r3⟩ := trodAll_cons r2
  obtain ⟨rfl, rfl, rfl⟩ := trodAll_nil r3
  obtain rfl : args = #[v0, v1, v2, v3] := by cases args; simp_all
  obtain ⟨cs, rfl, r0'⟩ := arg_struct Tryd.underlying27 (hval 0 27 v0 rfl rfl) h0
  obtain ⟨W1, H1, l, hW1, hH1, _, hv, _⟩ := r0'.page Tryd.underlying27 S.c27 ⟨rfl, rfl, rfl⟩ ⟨S.c3, S.c3, S.c25⟩ Tryd.underlying3 Tryd.underlying3 (fun l => .ro (.bools l)) (fun _ => True) List.length (fun cs x hx => by obtain ⟨l, a, b⟩ := hx.bools Tryd.underlying25 Tryd.underlying4; exact ⟨l, trivial, a, b⟩)
  obtain ⟨m, hm, hm1⟩ := arg_int Tryd.underlying3 (hval 1 3 v1 rfl rfl) h1
  obtain ⟨most, hmo, hmo1⟩ := arg_int Tryd.underlying3 (hval 2 3 v2 rfl rfl) h2
  obtain ⟨sd, hsd, hsd1⟩ := arg_int Tryd.underlying3 (hval 3 3 v3 rfl rfl) h3
  have hok : FnOk Tryd.prog 4 [.agg [.int .i64 W1, .int .i64 H1, .ro (.bools l)], .int .i64 m, .int .i64 most, .int .i64 sd] (.bool true) [] := by
    by_cases hc : m < 0 ∨ 4000 < m ∨ most < 0 ∨ 1000 < most
    · by_cases hs : sd < 1 ∨ 64 < sd
      · exact S.blanks_11 W1 H1 l m most hc sd hs
      · obtain ⟨k, rfl⟩ : ∃ k : Nat, sd = k := ⟨sd.toNat, by omega⟩
        exact S.blanks_10 W1 H1 l m most hc k (by omega) (by omega)
    · obtain ⟨n, rfl⟩ : ∃ k : Nat, m = k := ⟨m.toNat, by omega⟩
      by_cases hs : sd < 1 ∨ 64 < sd
      · exact S.blanks_01 W1 H1 l n (by omega) most (by omega) (by omega) sd hs
      · obtain ⟨k, rfl⟩ : ∃ k : Nat, sd = k := ⟨sd.toNat, by omega⟩
        exact S.blanks_00 W1 H1 l n (by omega) most (by omega) (by omega) k (by omega) (by omega)
  refine calls_true hok (.cons _ _ _ _ (.agg _ _ hv) (.cons _ _ _ _ hm1 (.cons _ _ _ _ hmo1 (.cons _ _ _ _ hsd1 .nil)))) hW' rfl ?_ rfl Tryd.underlying4 laidOut ?_
  · intro l hl
    match l, hl with
    | [a, b, c, d], _ => rfl
  · intro t ht
    rw [Tryd.params4] at ht
    have hm : t ∈ [27, 3, 3, 3] := by simpa using ht
    have hall : ([27, 3, 3, 3].all fun u => Tryd.prog.readableRec u && decide (u < Tryd.prog.types.size)) = true := by kernel_rfl
    have := List.all_eq_true.1 hall t hm
    simpa using this

set_option maxRecDepth 100000 in
theorem lifted (os : Os) (started : os.Started) (H : Type) (enc : TypeId × Value → H) :
    ReturnsInHanded {} Tryd.checked os 4 .any (fun w args => (Rows.blanksMatchSpec.pre enc Tryd.prog Tryd.f4 [] false w args ∧ laidMetH Tryd.prog Rows.blanksMatchRow.laid w) ∧ sizedMet enc Tryd.prog Tryd.f4 (OpenSpec.ofChange Rows.blanksMatchSpec) false w args)
      (Rows.blanksMatchSpec.post enc Tryd.prog Tryd.f4 false true false false) := by
  refine returnsInHanded_of_change_and (C := Tryd.checked) (X := fun w _ => laidMetH Tryd.prog Rows.blanksMatchRow.laid w) (fun _ _ _ hh h => h.of_heap hh) own started (by kernel_rfl) Tryd.func4
    (ChangeSpec.witness_shaped (enc := enc) (C := Tryd.checked) (os := os) (X := fun w _ => laidMetH Tryd.prog Rows.blanksMatchRow.laid w) false (World.laidAll Tryd.prog os Rows.blanksMatchRow.laid) #[.agg #[.int .i64 0, .int .i64 0, .slice none 0 0], .int .i64 0, .int .i64 0, .int .i64 0] 8 (World.laidAll_os _ _ _)
      (World.shaped_of_ZipB (by kernel_rfl) (by kernel_rfl)) (by kernel_rfl) (by kernel_rfl) (by kernel_rfl)
      (by rw [MakeChecks.laidMetH_plain _ _ _ (by kernel_rfl)]; exact laidMet_laidAll _ (by kernel_rfl) (by kernel_rfl))) ?_
  intro W base args ds gs before hval0 hW _ _ _ _
  exact contract H enc W base args ds gs before hval0 hW

theorem holds : Rows.BlanksMatchSaid :=
  OpenClaim.holds_of_wide 4 Tryd.f4 rfl rfl rfl rfl rfl rfl rfl ⟨rfl, rfl, rfl, rfl, rfl⟩ rfl rfl rfl rfl rfl (by kernel_rfl) Tryd.func4 (by kernel_rfl)
    (of_decide_eq_true (by kernel_rfl)) (by unfold Func.isWrapper; first | (rw [if_pos (by decide +kernel)]; kernel_rfl) | (rw [if_neg (by decide +kernel)]; exact ⟨rfl, rfl⟩))
    (fun os started H enc _ => lifted os started H enc)

theorem plain (f : FuncId) (fn : Func) (hf : Tryd.pinned.checked.prog.funcNamed "flatbed/bedlaw1.BlanksMatch" = some f) (hfn : Tryd.pinned.checked.prog.funcs[f]? = some fn) :
    false = Tryd.pinned.checked.prog.looks [] ∧ ∀ (j : Nat) t, fn.params[j]? = some t → Tryd.pinned.checked.prog.wantsStandIn t = false := by
  obtain rfl : f = 4 := Option.some.inj ((show Tryd.prog.funcNamed "flatbed/bedlaw1.BlanksMatch" = some 4 by kernel_rfl).symm.trans hf) |>.symm
  obtain rfl : fn = Tryd.f4 := (Option.some.inj (Tryd.func4.symm.trans hfn)).symm
  refine ⟨by kernel_rfl, fun j t ht => ?_⟩
  rw [Tryd.params4] at ht
  have hm : t ∈ [27, 3, 3, 3] := by simpa using Array.mem_of_getElem? ht
  have hall : ([27, 3, 3, 3].all fun u => !Tryd.prog.wantsStandIn u) = true := by kernel_rfl
  exact (show Tryd.prog.wantsStandIn t = false by simpa using List.all_eq_true.1 hall t hm)

theorem card : Rows.BlanksMatchCardSaid :=
  Claim7.holds_tied_plain_at .later [] _ _ _ _ holds (fun _ h => by cases h) (by kernel_rfl) (fun _ h => by cases h) blanksMatch_row_tie rfl ⟨rfl, rfl⟩ (by kernel_rfl) rfl plain (by kernel_rfl)
#print axioms card
end Go.Proofs.YtpnlkjeedfmhfaaDoor.blanksMatch
