/-
  Proved: the second form's card of the law KindsMatch: at every input of bulk at most the given bound the law's function returns true, and each argument reads behind the call as it read before.
  Conditions: none of its own; those of the given row: the bound, and the library tables that it lists hold, when the call begins, what the program's text lays.
-/
import Derived.Test.YtpnlkjeedfmhfaaDoorSKindsCardPart12
import Derived.Test.YtpnlkjeedfmhfaaDoorFvPart11
import Derived.Test.YtpnlkjeedfmhfaaDoorCards
import Derived.Test.YtpnlkjeedfmhfaaDoorTie
import Derived.ProofKit
import Derived.MakeChecks
import Derived.Lay
import Derived.LaidOnce
import Derived.SevenTiedAt
import Derived.Carry
import Derived.OpenShut
import Derived.Handed
import Derived.LaidLaws
import Derived.Deep.DeepHandedRow
namespace Go.Proofs.YtpnlkjeedfmhfaaDoor.kindsMatch
open Go.RowKit Go.ChangeShapes Go.WideShapes Go.ChangeAt Go.Fv

theorem own : ownKnob Tryd.prog.godebug = none := by kernel_rfl
theorem laidOut : laidOutB Tryd.prog = true := by kernel_rfl

set_option maxRecDepth 100000 in
theorem contract (H : Type) (enc : TypeId × Value → H) (W : World) (base : Nat) (args : Array Value) (ds gs : List (DataW H)) (before : List MemPlace) (hsh : W.ShapedOpen Tryd.prog) (hk : Rows.uptoSmall H (ds ++ gs) = true)
    (hval : ∀ (j : Nat) t v, Tryd.f7.params[j]? = some t → args[j]? = some v → Value.okWide Tryd.prog W .any base t v)
    (hW : DataW.Whole enc Tryd.prog Tryd.f7.params.toList Rows.kindsMatchSpec.vars false W args.toList ds gs before) :
    Calls Tryd.prog 7 args W fun e W' => ∃ v, e = .returned v ∧ Rows.kindsMatchSpec.post enc Tryd.prog Tryd.f7 false true false false W args v W' := by
  have hW' := hW
  have hgl : GlOk Tryd.prog W := GlOk.of_shaped (by kernel_rfl) hsh
  obtain ⟨p, q, hA0, hV, rfl, _, _⟩ := hW
  have hA : DataW.TrodAll enc Tryd.prog W 0 (fun _ => true) true Tryd.f7.params.toList args.toList ds p := hA0
  rw [Tryd.params7] at hA hval
  obtain ⟨v0, vs0, d0, ds0, p0, q0, hargs, rfl, rfl, h0, r0⟩ := trodAll_cons hA
  obtain ⟨v1, vs1, d1, ds1, p1, q1, rfl, rfl, rfl, h1, r1⟩ := trodAll_cons r0
  obtain ⟨v2, vs2, d2, ds2, p2, q2, rfl, rfl, rfl, h2, r2⟩ := trodAll_cons r1
  obtain ⟨rfl, rfl, rfl⟩ := trodAll_nil r2
  obtain rfl : args = #[v0, v1, v2] := by cases args; simp_all
  have hB : Bulk H Rows.uptoBulk Rows.uptoBulkAll := ⟨fun _ => by simp only [Rows.uptoBulk], fun _ _ => by simp only [Rows.uptoBulk], fun _ => by simp only [Rows.uptoBulk], by simp only [Rows.uptoBulkAll], fun _ _ => by simp only [Rows.uptoBulkAll], fun d => by
    cases d with
    | lit l => cases l <;> simp only [Rows.uptoBulk] <;> omega
    | _ => simp only [Rows.uptoBulk] <;> omega⟩
  have hbb := of_decide_eq_true hk
  simp only [List.cons_append, List.nil_append, Rows.uptoBulkAll] at hbb
  have hb0 : Rows.uptoBulk d0 ≤ 1048576 := by omega
  have hb1 : Rows.uptoBulk d1 ≤ 1048576 := by omega
  have hb2 : Rows.uptoBulk d2 ≤ 1048576 := by omega
  obtain ⟨cs, rfl, r0'⟩ := arg_struct Tryd.underlying30 (hval 0 30 v0 rfl rfl) h0
  have hbits : ∀ cs x, Rd enc Tryd.prog W 27 cs x → ∃ y : Int × Int × List Bool, RvL (cIn W) [.int .i64 y.1, .int .i64 y.2.1, .ro (.bools y.2.2)] cs := fun cs x h => by
    obtain ⟨a, b, c, hv⟩ := h.s3 Tryd.underlying27 1 1 1 Go.Fv.S.c27 ⟨rfl, rfl, rfl⟩ ⟨Go.Fv.S.c3, Go.Fv.S.c3, Go.Fv.S.c25⟩ (fun _ _ h => h.int' Tryd.underlying3) (fun _ _ h => h.int' Tryd.underlying3) (fun _ _ h => h.bools' Tryd.underlying25 Tryd.underlying4)
    exact ⟨(a, b, c), hv⟩
  have hsheet : ∀ cs x, Rd enc Tryd.prog W 30 cs x → ∃ s : Go.Fv.S.Sh, RvL (cIn W) s.av cs := fun cs x h => by
    obtain ⟨a, b, c, hv⟩ := h.s3 Tryd.underlying30 3 1 1 Go.Fv.S.c30 ⟨rfl, rfl, rfl⟩ ⟨Go.Fv.S.c27, Go.Fv.S.c28, Go.Fv.S.c9⟩ hbits (fun _ _ h => h.strs' Tryd.underlying28 Tryd.underlying9) (fun _ _ h => h.str' Tryd.underlying9)
    exact ⟨⟨a.1, a.2.1, a.2.2, b, c⟩, hv⟩
  obtain ⟨s, hs⟩ := hsheet _ _ r0'
  have hrule : ∀ cs x, Rd enc Tryd.prog W 141 cs x → ∃ r : Go.Fv.S.Ru, RvL (cIn W) r.av cs ∧ (Rows.uptoBulk x.1 ≤ 1048576 → ∀ z, z ∈ r.words → z.length ≤ 1048576) := fun cs x h => by
    obtain ⟨a, b, c, hv, hi⟩ := h.s3I hB 1048576 Tryd.underlying141 1 1 1 Go.Fv.S.c141 ⟨rfl, rfl, rfl⟩ ⟨Go.Fv.S.c9, Go.Fv.S.c28, Go.Fv.S.c9⟩ (fun _ _ h => h.strI hB 1048576 Tryd.underlying9) (fun _ _ h => h.strsI hB 1048576 Tryd.underlying28 Tryd.underlying9) (fun _ _ h => h.strI hB 1048576 Tryd.underlying9)
    exact ⟨⟨a, b, c⟩, hv, fun hb => (hi hb).2.1.2⟩
  obtain ⟨l, _, hl, hlv⟩ := arg_objsI hB 1048576 Tryd.underlying81 3 (by decide) Go.Fv.S.Ru.av (fun _ => rfl) _ hrule (hval 1 81 v1 rfl rfl) h1 hb1
  obtain ⟨raw, hraw⟩ := arg_bool Tryd.underlying4 (hval 2 4 v2 rfl rfl) h2
  refine calls_true (Go.Fv.S.kindsMatch_ok s l (Go.Fv.S.ruSmall_mem.2 hl) raw) hgl (.cons _ _ _ _ (.agg _ _ hs) (.cons _ _ _ _ hlv (.cons _ _ _ _ hraw .nil))) hW' rfl ?_ rfl Tryd.underlying4 laidOut ?_
  · intro l hl
    match l, hl with
    | [a, b, c], _ => rfl
  · intro t ht
    rw [Tryd.params7] at ht
    have hm : t ∈ [30, 81, 4] := by simpa using ht
    have hall : ([30, 81, 4].all fun u => Tryd.prog.readableRec u && decide (u < Tryd.prog.types.size)) = true := by kernel_rfl
    have := List.all_eq_true.1 hall t hm
    simpa using this

theorem reads (os : Os) {H : Type} (enc : TypeId × Value → H) : ∃ places, DataW.whole enc Tryd.prog ((World.laidAll Tryd.prog os Rows.kindsMatchRow.laid).forCall (fun _ _ => 0) ⟨#[], #[.agg #[.int .i64 0, .int .i64 0, .slice none 0 0, .slice none 0 0, .string ⟨#[]⟩], .slice none 0 0, .bool false], []⟩).memory Tryd.f7.params.toList Rows.kindsMatchSpec.vars false (#[.agg #[.int .i64 0, .int .i64 0, .slice none 0 0, .slice none 0 0, .string ⟨#[]⟩], .slice none 0 0, .bool false] : Array Value).toList 8 = some ([.agg [.agg [.lit (.int .i64 0), .lit (.int .i64 0), .nil], .nil, .lit (.string [])], .nil, .lit (.bool false)], [], places) :=
  ⟨[], by kernel_rfl⟩

set_option maxRecDepth 100000 in
theorem lifted (os : Os) (started : os.Started) (H : Type) (enc : TypeId × Value → H) (F : Stop.Interp) :
    ReturnsInHanded {} Tryd.checked os 7 .any ((Rows.OpenSpec.upto Rows.kindsMatchSpec).preRow enc Tryd.prog Tryd.f7 Rows.kindsMatchUptoRow.domain false Rows.kindsMatchUptoRow.laid) (((Rows.OpenSpec.upto Rows.kindsMatchSpec).at F).post enc Tryd.prog Tryd.f7 false true false false) := by
  obtain ⟨places, hx⟩ := reads os enc
  have hok : Input.okWideB Tryd.checked.prog ((World.laidAll Tryd.prog os Rows.kindsMatchRow.laid).forCall (fun _ _ => 0) ⟨#[], #[.agg #[.int .i64 0, .int .i64 0, .slice none 0 0, .slice none 0 0, .string ⟨#[]⟩], .slice none 0 0, .bool false], []⟩) 7 ⟨#[], #[.agg #[.int .i64 0, .int .i64 0, .slice none 0 0, .slice none 0 0, .string ⟨#[]⟩], .slice none 0 0, .bool false], []⟩ = true := by kernel_rfl
  refine returnsInHanded_of_row (C := Tryd.checked) (s := Rows.OpenSpec.upto Rows.kindsMatchSpec) own started (by kernel_rfl) Tryd.func7
    ⟨World.laidAll Tryd.prog os Rows.kindsMatchRow.laid, fun _ _ => 0, ⟨#[], #[.agg #[.int .i64 0, .int .i64 0, .slice none 0 0, .slice none 0 0, .string ⟨#[]⟩], .slice none 0 0, .bool false], []⟩, World.laidAll_os _ _ _, World.shaped_of_ZipB (by kernel_rfl) (by kernel_rfl), (Input.okWide_of_okWideB (base := 0) hok).1, (Input.okWide_of_okWideB hok).2,
      OpenSpec.preRow_of_cond 8 hx (by kernel_rfl) (fun k hk => by cases hk; kernel_rfl) (by kernel_rfl) (by rw [MakeChecks.laidMetH_plain _ _ _ (by kernel_rfl)]; exact laidMet_laidAll _ (by kernel_rfl) (by kernel_rfl)),
      by simp [Assume.holds]⟩ ?_
  intro W base args ds gs before hval hW _ hcond _ _ hsh _
  exact contract H enc W base args ds gs before hsh (hcond _ rfl) hval hW

theorem holds : Rows.KindsMatchUptoSaid :=
  OpenClaim.holds_of_cond 7 Tryd.f7 rfl rfl rfl rfl rfl rfl rfl ⟨rfl, rfl, rfl, rfl, rfl⟩ rfl rfl rfl rfl rfl (by kernel_rfl) Tryd.func7 (by kernel_rfl)
    (of_decide_eq_true (by kernel_rfl)) (by unfold Func.isWrapper; first | (rw [if_pos (by decide +kernel)]; kernel_rfl) | (rw [if_neg (by decide +kernel)]; exact ⟨rfl, rfl⟩))
    (fun os started H enc _ F => by rw [OpenClaim.pre_eq_preRow]; exact lifted os started H enc F)

theorem plain (f : FuncId) (fn : Func) (hf : Tryd.pinned.checked.prog.funcNamed "flatbed/bedlaw1.KindsMatch" = some f) (hfn : Tryd.pinned.checked.prog.funcs[f]? = some fn) :
    false = Tryd.pinned.checked.prog.looks [] ∧ ∀ (j : Nat) t, fn.params[j]? = some t → Tryd.pinned.checked.prog.wantsStandIn t = false := by
  obtain rfl : f = 7 := Option.some.inj ((show Tryd.prog.funcNamed "flatbed/bedlaw1.KindsMatch" = some 7 by kernel_rfl).symm.trans hf) |>.symm
  obtain rfl : fn = Tryd.f7 := (Option.some.inj (Tryd.func7.symm.trans hfn)).symm
  refine ⟨by kernel_rfl, fun j t ht => ?_⟩
  rw [Tryd.params7] at ht
  have hm : t ∈ [30, 81, 4] := by simpa using Array.mem_of_getElem? ht
  have hall : ([30, 81, 4].all fun u => !Tryd.prog.wantsStandIn u) = true := by kernel_rfl
  exact (show Tryd.prog.wantsStandIn t = false by simpa using List.all_eq_true.1 hall t hm)

theorem card : Rows.KindsMatchUptoCardSaid :=
  Claim7.holds_tied_plain_at .later [] _ _ _ _ holds (fun _ h => by cases h) (by kernel_rfl) (fun _ h => by cases h) kindsMatchUpto_row_tie rfl ⟨rfl, rfl⟩ (by kernel_rfl) rfl plain (by kernel_rfl)
#print axioms card
end Go.Proofs.YtpnlkjeedfmhfaaDoor.kindsMatch
