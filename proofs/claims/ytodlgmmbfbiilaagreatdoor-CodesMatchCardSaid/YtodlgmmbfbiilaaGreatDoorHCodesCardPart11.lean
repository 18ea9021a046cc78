/-
  A part of the proof of the claim: walks over the program's functions and the plain laws that these need. No condition of its own.
-/
import Derived.Test.YtodlgmmbfbiilaaGreatDoorHCodesCardPart2
import Derived.Test.YtodlgmmbfbiilaaGreatDoorHCodesCardPart9
import Derived.Test.YtodlgmmbfbiilaaGreatDoorHCodesCardPart10
import Derived.Test.YtodlgmmbfbiilaaGreatDoorHCodesCardPart7
import Derived.Test.YtodlgmmbfbiilaaGreatDoorHCodesCardPart1
import Derived.Test.YtodlgmmbfbiilaaGreatDoorFvPart6
import Derived.Lib.MapLaws
import Derived.Lib.DecodeN
import Derived.Test.YtodlgmmbfbiilaaGreatDoorHCodesCardPart8
import Derived.Test.YtodlgmmbfbiilaaGreatDoorHCodesCardPart6
import Derived.Test.YtodlgmmbfbiilaaGreatDoorFvPart10
import Derived.Test.YtodlgmmbfbiilaaGreatDoorHCodesCardPart4
import Derived.Test.YtodlgmmbfbiilaaGreatDoorHCodesCardPart5
/- The reference's unpackBits: the walk. -/
namespace Go.Fv.H
open Go Go.Proofs
set_option linter.unusedSimpArgs false
set_option linter.unusedVariables false
set_option linter.unnecessarySimpa false
set_option maxRecDepth 8000

end Go.Fv.H

/- bedref1.unadaptive: the walk. -/
namespace Go.Fv.H
open Go Go.Proofs
set_option linter.unusedSimpArgs false
set_option linter.unusedVariables false
set_option linter.unnecessarySimpa false
set_option maxRecDepth 8000

end Go.Fv.H

/- Runes below 128 are bytes. -/
namespace Go.Fv.H
open Go
set_option linter.unusedSimpArgs false
set_option linter.unusedVariables false
set_option linter.unnecessarySimpa false

end Go.Fv.H

/- The reference's read at plain data and by context: the walk. -/
namespace Go.Fv.H
open Go Go.Proofs
set_option linter.unusedSimpArgs false
set_option linter.unusedVariables false
set_option linter.unnecessarySimpa false
set_option maxRecDepth 8000

end Go.Fv.H

/- Reading a number: the walk of the reference's ReadGamma. -/
namespace Go.Fv.H
open Go Go.Proofs
set_option linter.unusedSimpArgs false
set_option linter.unusedVariables false
set_option linter.unnecessarySimpa false
set_option maxRecDepth 8000

end Go.Fv.H

/- The closures of the reference's ReadLine. -/
namespace Go.Fv.H
open Go Go.Proofs
set_option linter.unusedSimpArgs false
set_option linter.unusedVariables false
set_option linter.unnecessarySimpa false
set_option maxRecDepth 8000

end Go.Fv.H

/- The reference's ReadLine: the walk. -/
namespace Go.Fv.H
open Go Go.Proofs
set_option linter.unusedSimpArgs false
set_option linter.unusedVariables false
set_option linter.unnecessarySimpa false
set_option maxRecDepth 8000

structure RLG (st : Bool) (above : List Bool) (s : Bytes) (x : RLx) : Prop where
  hp : x.p ≤ above.length + 1
  hn : x.n ≤ s.length
  hR : x.R.length = x.p - 1
  hz : above.length = 0 → x.n = 0
  hq : rdGo st above s 0 false = match rdGo st above (s.drop x.n) x.p x.k with | none => none | some (l, m) => some (x.R ++ l, x.n + m)
theorem RLG.first (st : Bool) (above : List Bool) (s : Bytes) : RLG st above s ⟨0, false, 0, []⟩ := by
  refine ⟨Nat.zero_le _, Nat.zero_le _, rfl, fun _ => rfl, ?_⟩
  dsimp only
  rw [List.drop_zero]
  cases rdGo st above s 0 false with
  | none => rfl
  | some x => obtain ⟨l, m⟩ := x; dsimp only; rw [List.nil_append, Nat.zero_add]
theorem RLG.step {st : Bool} {above : List Bool} {s : Bytes} {p n : Nat} {k : Bool} {R : List Bool} (h : RLG st above s ⟨p, k, n, R⟩) (hp : p ≤ above.length) (h0 : 0 < above.length) {y : RSt} (hy : rdStep st above (s.drop n) p k = some y) :
    RLG st above s ⟨y.p, y.k, n + y.n, R ++ y.px⟩ ∧ p < y.p ∧ y.p ≤ above.length + 1 := by
  obtain ⟨h1, h2, h3, _, h4⟩ := h
  obtain ⟨g1, g2, g3, g4⟩ := rdStep_some hp hy
  dsimp only at *
  rw [List.length_drop] at g4
  refine ⟨⟨g2, by dsimp only; omega, by dsimp only; rw [List.length_append, h3, g3]; omega, fun h => by omega, ?_⟩, g1, g2⟩
  dsimp only
  rw [h4, rdGo_some hp hy, List.drop_drop]
  cases rdGo st above (s.drop (n + y.n)) y.p y.k with
  | none => rfl
  | some x => obtain ⟨l, m⟩ := x; dsimp only; rw [List.append_assoc, Nat.add_assoc]
theorem RLG.fail {st : Bool} {above : List Bool} {s : Bytes} {p n : Nat} {k : Bool} {R : List Bool} (h : RLG st above s ⟨p, k, n, R⟩) (hp : p ≤ above.length) (h0 : 0 < above.length) (hy : rdStep st above (s.drop n) p k = none) : rdLine st above s = none := by
  unfold rdLine rdAll
  rw [if_neg (by omega), h.hq, rdGo_none hp hy]
theorem RLG.done {st : Bool} {above : List Bool} {s : Bytes} {p n : Nat} {k : Bool} {R : List Bool} (h : RLG st above s ⟨p, k, n, R⟩) (hp : ¬ (p ≤ above.length ∧ 0 < above.length)) : rdAll st above s = some (R, n) ∧ R.length = above.length := by
  have h1 : p ≤ above.length + 1 := h.hp
  have h2 : R.length = p - 1 := h.hR
  have h3 : above.length = 0 → n = 0 := h.hz
  refine ⟨?_, by omega⟩
  unfold rdAll
  by_cases h0 : above.length = 0
  · have hR0 : R.length = 0 := by
      have h5 : p ≤ 1 := by rw [h0] at h1; exact h1
      rw [h2]; exact Nat.sub_eq_zero_of_le h5
    rw [if_pos h0, h3 h0, List.eq_nil_of_length_eq_zero hR0]
  · have h6 : ¬ p ≤ above.length := by omega
    rw [if_neg h0, h.hq, rdGo_end h6]
    dsimp only
    rw [List.append_nil, Nat.add_zero]
end Go.Fv.H

/- The reference's read at runs: the walk. -/
namespace Go.Fv.H
open Go Go.Proofs
set_option linter.unusedSimpArgs false
set_option linter.unusedVariables false
set_option linter.unnecessarySimpa false
set_option maxRecDepth 8000

end Go.Fv.H

/- The reference's read at lines: the walk. -/
namespace Go.Fv.H
open Go Go.Proofs
set_option linter.unusedSimpArgs false
set_option linter.unusedVariables false
set_option linter.unnecessarySimpa false
set_option maxRecDepth 8000

end Go.Fv.H

/- The reference's Decode: the walk. -/
namespace Go.Fv.H
open Go Go.Proofs
set_option linter.unusedSimpArgs false
set_option linter.unusedVariables false
set_option linter.unnecessarySimpa false
set_option maxRecDepth 8000

end Go.Fv.H

namespace Go.Fv.H
open Go Go.Proofs
set_option linter.unusedSimpArgs false
set_option linter.unusedVariables false
set_option maxRecDepth 8000
set_option maxHeartbeats 1000000 in
theorem equalBools_ok (a b : List Bool) : FnOk Tryz.prog 77 [.ro (.bools a), .ro (.bools b)] (.bool (decide (a = b))) [] := by
  refine FnOk.of_vc Tryz.func77 rfl (by decide) (by simp [Tryz.f77]) [.tmp 4] rfl fun w0 T0 _ => ?_
  simp only [Tryz.f77, argEnv]
  simp (maxSteps := 9^7) only [go_sem]
  refine Asm.intro fun _ => Asm.intro fun _ => Ite.decide (fun h => ?_) fun h => ?_
  · simp (maxSteps := 9^7) only [go_sem]
    refine Ret.auto 0 ?_ rfl (by simp [subOk])
    have : a ≠ b := by intro e; subst e; exact h rfl
    simp only [go_sem, Int.natCast_succ, Post, this, decide_false, decide_true]
  have hl : a.length = b.length := by omega
  simp (maxSteps := 9^7) only [go_sem]
  refine Asm.intro fun _ => VcLoop.intro (fun i : Nat => ⟨26, [(0, .ro (.bools a)), (1, .ro (.bools b)), (12, .int .i64 a.length), (13, .int .i64 i)], [], 0⟩) (fun i => i ≤ a.length ∧ ∀ j, j < i → a.getD j false = b.getD j false) (fun i => a.length - i) 0 ?_ ⟨by omega, fun j hj => by omega⟩ fun i hi => ?_
  · refine Ent.auto0 rfl ?_ ?_ <;> simp only [go_sem, Int.natCast_succ]
  simp (maxSteps := 9^7) only [go_sem]
  refine Ite.decide (fun h1 => ?_) (fun h1 => ?_)
  · simp (maxSteps := 9^7) only [go_sem]
    refine VcDraw.lex [] [] (by kernel_rfl) (by kernel_rfl) ?_
    simp (maxSteps := 9^7) only [go_sem]
    (repeat' first | (with_reducible refine Asm.intro fun _ => ?_) | ((with_reducible refine Chk.intro ?_ ?_); (· first | omega | (with_reducible refine Chk.intro ?_ ?_ <;> omega) | (simp; done) | (simp; omega))) | ((with_reducible refine LetW.i64 ?_ ?_ ?_); (· omega); (· omega)) | ((with_reducible refine Ite.decide (fun _ => ?_) (fun _ => ?_)) <;> first | (exfalso; omega) | simp (maxSteps := 9^7) only [go_sem]) | ((with_reducible refine Ite.bool (fun _ => ?_) (fun _ => ?_)) <;> simp (maxSteps := 9^7) only [go_sem]) | (with_reducible refine And.intro ?_ ?_))
    · rename_i h2
      refine Ret.auto 0 ?_ rfl (by simp [subOk])
      have : a ≠ b := by intro e; subst e; exact h2 rfl
      simp only [go_sem, Int.natCast_succ, Post, this]
    · rename_i h2
      refine ⟨i + 1, Ent.auto0 rfl ?_ ?_, ⟨by omega, fun j hj => ?_⟩, by omega⟩
      · simp only [go_sem, Int.natCast_succ]
        all_goals omega
      · simp only [go_sem, Int.natCast_succ]
      · by_cases e : j = i
        · subst e; exact Decidable.of_not_not h2
        · exact hi.2 j (by omega)
  · simp (maxSteps := 9^7) only [go_sem]
    refine Ret.auto 0 ?_ rfl (by simp [subOk])
    have : a = b := eq_of_getD false hl fun j hj => hi.2 j (by omega)
    simp only [go_sem, Int.natCast_succ, Post, this, decide_false, decide_true]

end Go.Fv.H

namespace Go.Fv.H
open Go Go.Proofs
set_option linter.unusedSimpArgs false
set_option linter.unusedVariables false
set_option maxRecDepth 8000
set_option maxHeartbeats 1000000 in
theorem sameBits_ok (w h w' h' : Int) (p p' : List Bool) : FnOk Tryz.prog 23 [.agg [.int .i64 w, .int .i64 h, .ro (.bools p)], .agg [.int .i64 w', .int .i64 h', .ro (.bools p')]] (.bool (decide (w = w' ∧ h = h' ∧ p = p'))) [] := by
  refine FnOk.of_vc Tryz.func23 rfl (by decide) (by simp [Tryz.f23]) [.tmp 4] rfl fun w0 T0 _ => ?_
  simp only [Tryz.f23, argEnv]
  simp (maxSteps := 9^7) only [go_sem]
  (repeat' first | (with_reducible refine Asm.intro fun _ => ?_) | ((with_reducible refine Chk.intro ?_ ?_); (· first | omega | (with_reducible refine Chk.intro ?_ ?_ <;> omega) | (simp; done) | (simp; omega))) | ((with_reducible refine LetW.i64 ?_ ?_ ?_); (· omega); (· omega)) | ((with_reducible refine Ite.decide (fun _ => ?_) (fun _ => ?_)) <;> first | (exfalso; omega) | simp (maxSteps := 9^7) only [go_sem]) | ((with_reducible refine Ite.bool (fun _ => ?_) (fun _ => ?_)) <;> simp (maxSteps := 9^7) only [go_sem]) | (with_reducible refine And.intro ?_ ?_))
  · refine VcCall.fr (args' := [.ro (.bools p), .ro (.bools p')]) (FnFr.of_ok (equalBools_ok p p') rfl rfl) (by simp [argOkL, allOk, argOkN]) 0 rfl (by simp [rowsB]) ?_
    try simp (maxSteps := 9^7) only [go_sem]
    (repeat' first | (with_reducible refine Asm.intro fun _ => ?_) | ((with_reducible refine Chk.intro ?_ ?_); (· first | omega | (with_reducible refine Chk.intro ?_ ?_ <;> omega) | (simp; done) | (simp; omega))) | ((with_reducible refine LetW.i64 ?_ ?_ ?_); (· omega); (· omega)) | ((with_reducible refine Ite.decide (fun _ => ?_) (fun _ => ?_)) <;> first | (exfalso; omega) | simp (maxSteps := 9^7) only [go_sem]) | ((with_reducible refine Ite.bool (fun _ => ?_) (fun _ => ?_)) <;> simp (maxSteps := 9^7) only [go_sem]) | (with_reducible refine And.intro ?_ ?_))
    rename_i h1
    refine Ret.auto 0 ?_ rfl ?_ <;> simp only [go_sem, Int.natCast_succ, Post]
    simp [h1.1, h1.2]
  · rename_i h1
    refine Ret.auto 0 ?_ rfl ?_ <;> simp only [go_sem, Int.natCast_succ, Post]
    exact (decide_eq_false fun x => h1 ⟨x.1, x.2.1⟩).symm
end Go.Fv.H

namespace Go.Fv.H
open Go Go.Proofs
set_option linter.unusedSimpArgs false
set_option linter.unusedVariables false
set_option maxRecDepth 8000
end Go.Fv.H

/- The reference's Shortest: the walk. -/
namespace Go.Fv.H
open Go Go.Proofs
set_option linter.unusedSimpArgs false
set_option linter.unusedVariables false
set_option linter.unnecessarySimpa false
set_option maxRecDepth 8000

set_option maxHeartbeats 4000000 in
theorem shortest_ok (w h : Nat) (p : List Bool) (g : PgOk w h p) :
    FnOk Tryz.prog 25 [.agg [.int .i64 w, .int .i64 h, .ro (.bools p)]] (.tup [.str (bstAt w h p 4).1, .int .i64 (bstAt w h p 4).2]) [] := by
  refine FnOk.of_vc Tryz.func25 rfl (by decide) (by simp [Tryz.f25]) [.tmp 2, .tmp 3] rfl fun w0 T0 _ => ?_
  simp only [Tryz.f25, argEnv]
  (repeat' with_reducible first | intro _ | refine rz ?_ | refine ra ?_ ?_ | omega | simp (maxSteps := 9^7) only [go_sem])
  refine VcLoop.intro (fun i : Nat => ⟨28, [(6, .int .i64 ((i : Int) + 1)), (5, .int .i64 (bstAt w h p i).2), (4, .str (bstAt w h p i).1), (1, .ptr 0 0)], [(0, .box 24 [.int .i64 w, .int .i64 h, .ro (.bools p)])], 1⟩) (fun i => i ≤ 4) (fun i => 4 - i) 0 ?_ (Nat.zero_le _) fun i hi => ?_
  · refine Ent.auto0 rfl ?_ ?_ <;> simp only [go_sem, Int.natCast_succ]
    all_goals first | rfl | exact ⟨rfl, rfl⟩ | exact ⟨rfl, rfl, rfl⟩
  by_cases hlt : i < 4
  · have f1 : ((i : Int) + 1 ≤ 4) = True := eq_true (by omega)
    have ke := refEncode_ok w h g.w0 g.w1 g.h1 g.wh p g.p ((i : Int) + 1) (by omega)
    have hst : bstAt w h p (i + 1) = if (bstAt w h p i).2 = 0 ∨ (encB w h p ((i : Int) + 1)).length < (bstAt w h p i).1.length then (encB w h p ((i : Int) + 1), (i : Int) + 1) else bstAt w h p i := rfl
    generalize encB w h p ((i : Int) + 1) = e at *
    generalize hb : bstAt w h p i = b at *
    obtain ⟨s, k⟩ := b
    dsimp only at *
    (repeat' with_reducible first | intro _ | refine rz ?_ | refine ra ?_ ?_ | omega | simp (maxSteps := 9^7) only [go_sem, f1])
    refine VcCall.k ke ?_
    by_cases h0 : k = 0
    · have f2 : (k = 0) = True := eq_true h0
      rw [if_pos (.inl h0)] at hst
      (repeat' with_reducible first | intro _ | refine rz ?_ | refine ra ?_ ?_ | omega | simp (maxSteps := 9^7) only [go_sem, f2])
      refine ⟨i + 1, Ent.auto0 rfl ?_ ?_, by omega, by omega⟩ <;> simp only [go_sem, Int.natCast_succ, hst]
    have f2 : (k = 0) = False := eq_false h0
    by_cases h3 : e.length < s.length
    · have f3 : ((e.length : Int) < (s.length : Int)) = True := eq_true (by omega)
      rw [if_pos (.inr h3)] at hst
      (repeat' with_reducible first | intro _ | refine rz ?_ | refine ra ?_ ?_ | omega | simp (maxSteps := 9^7) only [go_sem, f2, f3])
      refine ⟨i + 1, Ent.auto0 rfl ?_ ?_, by omega, by omega⟩ <;> simp only [go_sem, Int.natCast_succ, hst]
    · have f3 : ((e.length : Int) < (s.length : Int)) = False := eq_false (by omega)
      rw [if_neg (fun q => q.elim h0 h3)] at hst
      (repeat' with_reducible first | intro _ | refine rz ?_ | refine ra ?_ ?_ | omega | simp (maxSteps := 9^7) only [go_sem, f2, f3])
      refine ⟨i + 1, Ent.auto0 rfl ?_ ?_, by omega, by omega⟩ <;> simp only [go_sem, Int.natCast_succ, hst]
  · have f1 : ((i : Int) + 1 ≤ 4) = False := eq_false (by omega)
    have e : i = 4 := by omega
    subst e
    (repeat' with_reducible first | intro _ | refine rz ?_ | refine ra ?_ ?_ | omega | simp (maxSteps := 9^7) only [go_sem, f1])
    refine Ret.auto 0 ?_ rfl ?_ <;> simp only [go_sem, Int.natCast_succ, Post]
end Go.Fv.H

/- A page made right: the walk's result, and how long its codes are. -/
namespace Go.Fv.H
open Go Go.Proofs
set_option linter.unusedSimpArgs false
set_option linter.unusedVariables false
set_option linter.unnecessarySimpa false
set_option maxRecDepth 8000

/-- The page that fit makes. -/
structure FPg where
  (w h : Nat) (p : List Bool)
def fitG (W H : Int) (p : List Bool) : FPg := ⟨fitN W 31, fitN H 31, rowsOf (fitN W 31) (fitB p (fitN W 31)) (fitN H 31 * fitN W 31)⟩
structure FPg.Ok (b : FPg) : Prop where
  g : PgOk b.w b.h b.p
  w32 : b.w ≤ 32
  h32 : b.h ≤ 32
theorem fitG_ok (W H : Int) (p : List Bool) : (fitG W H p).Ok := by
  obtain ⟨w1, w2, _⟩ := fitN_bd W 31 (by decide)
  obtain ⟨h1, h2, _⟩ := fitN_bd H 31 (by decide)
  have hl := rowsOf_len (fitN W 31) (fitB p (fitN W 31)) (fitN H 31 * fitN W 31)
  have hm : fitN W 31 * fitN H 31 ≤ 32 * 32 := Nat.mul_le_mul w2 h2
  refine ⟨⟨w1, ?_, h1, ?_, ?_, ?_⟩, w2, h2⟩
  · show fitN W 31 ≤ 4000; omega
  · show fitN H 31 ≤ 4000; omega
  · show fitN W 31 * fitN H 31 ≤ _; omega
  · show (rowsOf _ _ _).length = fitN W 31 * fitN H 31; rw [hl, Nat.mul_comm]
def FPg.av (b : FPg) : AV := .agg [.int .i64 b.w, .int .i64 b.h, .ro (.bools b.p)]
theorem fit_fr (W H : Int) (p : List Bool) : FnFr Tryz.prog 12 [.agg [.int .i64 W, .int .i64 H, .ro (.bools p)]] (.agg [.int .i64 (fitG W H p).w, .int .i64 (fitG W H p).h, .ro (.bools (fitG W H p).p)]) [] :=
  FnFr.toRo (FnFr.of_ok (fit_ok W H p) rfl rfl) (by simp [fitG, outOk, argOkL, allOk, argOk, argOkN, lk, noIdR_ok])
theorem encB_short {w h : Nat} {p : List Bool} (g : PgOk w h p) (kind : Int) : (encB w h p kind).length ≤ 1048597 := by
  have := dataB_short g kind
  rw [encB_len]; omega
theorem bst_len {w h : Nat} {p : List Bool} (g : PgOk w h p) : ∀ k, (bstAt w h p k).1.length ≤ 1048597
  | 0 => Nat.zero_le _
  | k + 1 => by
    have h1 := bst_len g k
    have h2 := encB_short g ((k : Int) + 1)
    unfold bstAt
    split
    · exact h2
    · exact h1
/-- The shortest is one of the codes. -/
theorem bst_one (w h : Nat) (p : List Bool) : ∀ k, (bstAt w h p (k + 1)).1 = encB w h p (bstAt w h p (k + 1)).2 ∧ 1 ≤ (bstAt w h p (k + 1)).2 ∧ (bstAt w h p (k + 1)).2 ≤ (k : Int) + 1
  | 0 => by
    have e : bstAt w h p 1 = (encB w h p 1, 1) := rfl
    rw [show 0 + 1 = 1 from rfl, e]
    exact ⟨rfl, Int.le_refl _, Int.le_refl _⟩
  | k + 1 => by
    obtain ⟨h1, h2, h3⟩ := bst_one w h p k
    have e : bstAt w h p (k + 1 + 1) = if (bstAt w h p (k + 1)).2 = 0 ∨ (encB w h p (((k + 1 : Nat) : Int) + 1)).length < (bstAt w h p (k + 1)).1.length then (encB w h p (((k + 1 : Nat) : Int) + 1), ((k + 1 : Nat) : Int) + 1) else bstAt w h p (k + 1) := rfl
    rw [e]
    split
    · exact ⟨rfl, by dsimp only; omega, by dsimp only; omega⟩
    · exact ⟨h1, h2, by omega⟩
/-- A code that was made is read, by both. -/
theorem decode_enc {w h : Nat} {p : List Bool} (g : PgOk w h p) {kind : Int} (hk : 1 ≤ kind ∧ kind ≤ 4) : FnFr Tryz.prog 15 [.str (encB w h p kind)] (.tup [.agg [.int .i64 w, .int .i64 h, .ro (.bools p)], .int .i64 0]) [] := by
  have hl := encB_short g kind
  have k := decode_fr (encB w h p kind) (by omega)
  rw [decR_enc g hk (by omega)] at k
  exact k
end Go.Fv.H

/- The laws' first question. -/
namespace Go.Fv.H
open Go Go.Proofs
set_option linter.unusedSimpArgs false
set_option linter.unusedVariables false
set_option maxRecDepth 8000
theorem landed_ok : FnOk Tryz.prog 11 [] (.bool true) [] := by
  have k := isName_ok [97]
  refine FnOk.of_vc Tryz.func11 rfl (by decide) (by simp [Tryz.f11]) [.tmp 0] rfl fun w0 T0 _ => ?_
  simp only [Tryz.f11, argEnv]
  have e : nameOk [97] = true := by decide
  rw [e] at k
  (repeat' with_reducible first | intro _ | refine rz ?_ | refine ra ?_ ?_ | omega | simp (maxSteps := 9^7) only [go_sem])
  refine VcCall.k k ?_
  (repeat' with_reducible first | intro _ | refine rz ?_ | refine ra ?_ ?_ | omega | simp (maxSteps := 9^7) only [go_sem])
  refine Ret.auto 0 ?_ rfl ?_ <;> simp only [go_sem, Int.natCast_succ, Post]
end Go.Fv.H

/- CodesMatch: the law. -/
namespace Go.Fv.H
open Go Go.Proofs
set_option linter.unusedSimpArgs false
set_option linter.unusedVariables false
set_option linter.unnecessarySimpa false
set_option maxRecDepth 8000

theorem sumB_any (s : Bytes) (hs : s.length ≤ 1048597) : FnOk Tryz.prog 26 [.str s] (.str (sumB s)) [] ∧ FnOk Tryz.prog 14 [.str s] (.str (sumB s)) [] := ⟨sumOf_ok s (by omega), refSumOf_ok s (by omega)⟩
set_option maxHeartbeats 16000000 in
theorem codesMatch_ok (W H : Int) (p : List Bool) (kind x y : Int) : FnOk Tryz.prog 5 [.agg [.int .i64 W, .int .i64 H, .ro (.bools p)], .int .i64 kind, .int .i64 x, .int .i64 y] (.bool true) [] := by
  have kf := fit_fr W H p
  have hb := fitG_ok W H p
  generalize fitG W H p = b at *
  obtain ⟨w, h, q⟩ := b
  obtain ⟨g, w32, h32⟩ := hb
  dsimp only at kf g w32 h32
  have kx := contextE_ok w h q g x y
  have ke := encodeE_ok w h q g kind
  have kb := bestE_ok w h q g
  have kt := shortest_ok w h q g
  have hbl := bst_len g 4
  obtain ⟨ks1, ks2⟩ := sumB_any (bstAt w h q 4).1 hbl
  have km := sameBits_ok (w : Int) (h : Int) (w : Int) (h : Int) q q
  rw [decide_eq_true ⟨rfl, rfl, rfl⟩] at km
  have hcx := ctxP_lt w h q x y
  have hbk := (bst_one w h q 3).2
  generalize bstAt w h q 4 = B at *
  obtain ⟨B, bk⟩ := B
  dsimp only at *
  refine FnOk.of_vc Tryz.func5 rfl (by decide) (by simp [Tryz.f5]) [.tmp 8] rfl fun w0 T0 _ => ?_
  simp only [Tryz.f5, argEnv]
  by_cases hin : 0 ≤ x ∧ x < w ∧ 0 ≤ y ∧ y < h
  · have kc := contextOf_ok w h g.w1 g.h1 q g.p x y (by have := g.w1; omega) (by have := g.h1; omega)
    rw [if_pos hin, if_pos hin] at kx
    have f1 : (x < 0) = False := eq_false (by omega)
    have f2 : (y < 0) = False := eq_false (by omega)
    have f3 : ((w : Int) ≤ x) = False := eq_false (by omega)
    have f4 : ((h : Int) ≤ y) = False := eq_false (by omega)
    generalize ctxP w h q x y = c at *
    by_cases hk : 1 ≤ kind ∧ kind ≤ 4
    · have kd := decode_enc g hk
      have kr := refEncode_ok w h g.w0 g.w1 g.h1 g.wh q g.p kind hk
      rw [if_pos hk, if_pos hk] at ke
      have hel := encB_short g kind
      have g1 : (kind < 1) = False := eq_false (by omega)
      have g2 : (4 < kind) = False := eq_false (by omega)
      generalize encB w h q kind = E at *
      (repeat' with_reducible first | intro _ | refine rz ?_ | refine ra ?_ ?_ | omega | simp (maxSteps := 9^7) only [go_sem])
      refine VcCall.k landed_ok ?_
      (repeat' with_reducible first | intro _ | refine rz ?_ | refine ra ?_ ?_ | omega | simp (maxSteps := 9^7) only [go_sem])
      refine VcCall.f kf 0 ?_
      (repeat' with_reducible first | intro _ | refine rz ?_ | refine ra ?_ ?_ | omega | simp (maxSteps := 9^7) only [go_sem])
      refine VcCall.k kx ?_
      (repeat' with_reducible first | intro _ | refine rz ?_ | refine ra ?_ ?_ | omega | simp (maxSteps := 9^7) only [go_sem, f1, f2, f3, f4])
      refine VcCall.k kc ?_
      (repeat' with_reducible first | intro _ | refine rz ?_ | refine ra ?_ ?_ | omega | simp (maxSteps := 9^7) only [go_sem])
      refine VcCall.k ke ?_
      (repeat' with_reducible first | intro _ | refine rz ?_ | refine ra ?_ ?_ | omega | simp (maxSteps := 9^7) only [go_sem, g1, g2])
      refine VcCall.f kd 0 ?_
      (repeat' with_reducible first | intro _ | refine rz ?_ | refine ra ?_ ?_ | omega | simp (maxSteps := 9^7) only [go_sem])
      refine VcCall.k kr ?_
      (repeat' with_reducible first | intro _ | refine rz ?_ | refine ra ?_ ?_ | omega | simp (maxSteps := 9^7) only [go_sem])
      refine VcCall.k km ?_
      (repeat' with_reducible first | intro _ | refine rz ?_ | refine ra ?_ ?_ | omega | simp (maxSteps := 9^7) only [go_sem])
      refine VcCall.k kb ?_
      (repeat' with_reducible first | intro _ | refine rz ?_ | refine ra ?_ ?_ | omega | simp (maxSteps := 9^7) only [go_sem])
      refine VcCall.k kt ?_
      (repeat' with_reducible first | intro _ | refine rz ?_ | refine ra ?_ ?_ | omega | simp (maxSteps := 9^7) only [go_sem])
      refine VcCall.k ks1 ?_
      (repeat' with_reducible first | intro _ | refine rz ?_ | refine ra ?_ ?_ | omega | simp (maxSteps := 9^7) only [go_sem])
      refine VcCall.k ks2 ?_
      (repeat' with_reducible first | intro _ | refine rz ?_ | refine ra ?_ ?_ | omega | simp (maxSteps := 9^7) only [go_sem])
      refine Ret.auto 0 ?_ rfl ?_ <;> simp only [go_sem, Int.natCast_succ, Post]
    · rw [if_neg hk, if_neg hk] at ke
      by_cases hk1 : kind < 1
      · have g1 : (kind < 1) = True := eq_true hk1
        have g2 : (4 < kind) = False := eq_false (by omega)
        (repeat' with_reducible first | intro _ | refine rz ?_ | refine ra ?_ ?_ | omega | simp (maxSteps := 9^7) only [go_sem])
        refine VcCall.k landed_ok ?_
        (repeat' with_reducible first | intro _ | refine rz ?_ | refine ra ?_ ?_ | omega | simp (maxSteps := 9^7) only [go_sem])
        refine VcCall.f kf 0 ?_
        (repeat' with_reducible first | intro _ | refine rz ?_ | refine ra ?_ ?_ | omega | simp (maxSteps := 9^7) only [go_sem])
        refine VcCall.k kx ?_
        (repeat' with_reducible first | intro _ | refine rz ?_ | refine ra ?_ ?_ | omega | simp (maxSteps := 9^7) only [go_sem, f1, f2, f3, f4])
        refine VcCall.k kc ?_
        (repeat' with_reducible first | intro _ | refine rz ?_ | refine ra ?_ ?_ | omega | simp (maxSteps := 9^7) only [go_sem])
        refine VcCall.k ke ?_
        (repeat' with_reducible first | intro _ | refine rz ?_ | refine ra ?_ ?_ | omega | simp (maxSteps := 9^7) only [go_sem, g1, g2])
        refine VcCall.k kb ?_
        (repeat' with_reducible first | intro _ | refine rz ?_ | refine ra ?_ ?_ | omega | simp (maxSteps := 9^7) only [go_sem])
        refine VcCall.k kt ?_
        (repeat' with_reducible first | intro _ | refine rz ?_ | refine ra ?_ ?_ | omega | simp (maxSteps := 9^7) only [go_sem])
        refine VcCall.k ks1 ?_
        (repeat' with_reducible first | intro _ | refine rz ?_ | refine ra ?_ ?_ | omega | simp (maxSteps := 9^7) only [go_sem])
        refine VcCall.k ks2 ?_
        (repeat' with_reducible first | intro _ | refine rz ?_ | refine ra ?_ ?_ | omega | simp (maxSteps := 9^7) only [go_sem])
        refine Ret.auto 0 ?_ rfl ?_ <;> simp only [go_sem, Int.natCast_succ, Post]
      · have g1 : (kind < 1) = False := eq_false hk1
        have g2 : (4 < kind) = True := eq_true (by omega)
        (repeat' with_reducible first | intro _ | refine rz ?_ | refine ra ?_ ?_ | omega | simp (maxSteps := 9^7) only [go_sem])
        refine VcCall.k landed_ok ?_
        (repeat' with_reducible first | intro _ | refine rz ?_ | refine ra ?_ ?_ | omega | simp (maxSteps := 9^7) only [go_sem])
        refine VcCall.f kf 0 ?_
        (repeat' with_reducible first | intro _ | refine rz ?_ | refine ra ?_ ?_ | omega | simp (maxSteps := 9^7) only [go_sem])
        refine VcCall.k kx ?_
        (repeat' with_reducible first | intro _ | refine rz ?_ | refine ra ?_ ?_ | omega | simp (maxSteps := 9^7) only [go_sem, f1, f2, f3, f4])
        refine VcCall.k kc ?_
        (repeat' with_reducible first | intro _ | refine rz ?_ | refine ra ?_ ?_ | omega | simp (maxSteps := 9^7) only [go_sem])
        refine VcCall.k ke ?_
        (repeat' with_reducible first | intro _ | refine rz ?_ | refine ra ?_ ?_ | omega | simp (maxSteps := 9^7) only [go_sem, g1, g2])
        refine VcCall.k kb ?_
        (repeat' with_reducible first | intro _ | refine rz ?_ | refine ra ?_ ?_ | omega | simp (maxSteps := 9^7) only [go_sem])
        refine VcCall.k kt ?_
        (repeat' with_reducible first | intro _ | refine rz ?_ | refine ra ?_ ?_ | omega | simp (maxSteps := 9^7) only [go_sem])
        refine VcCall.k ks1 ?_
        (repeat' with_reducible first | intro _ | refine rz ?_ | refine ra ?_ ?_ | omega | simp (maxSteps := 9^7) only [go_sem])
        refine VcCall.k ks2 ?_
        (repeat' with_reducible first | intro _ | refine rz ?_ | refine ra ?_ ?_ | omega | simp (maxSteps := 9^7) only [go_sem])
        refine Ret.auto 0 ?_ rfl ?_ <;> simp only [go_sem, Int.natCast_succ, Post]
  rw [if_neg hin, if_neg hin] at kx
  by_cases h0 : x < 0
  · have f1 : (x < 0) = True := eq_true h0
    have f2 : True = True := rfl
    have f3 : True = True := rfl
    have f4 : True = True := rfl
    by_cases hk : 1 ≤ kind ∧ kind ≤ 4
    · have kd := decode_enc g hk
      have kr := refEncode_ok w h g.w0 g.w1 g.h1 g.wh q g.p kind hk
      rw [if_pos hk, if_pos hk] at ke
      have hel := encB_short g kind
      have g1 : (kind < 1) = False := eq_false (by omega)
      have g2 : (4 < kind) = False := eq_false (by omega)
      generalize encB w h q kind = E at *
      (repeat' with_reducible first | intro _ | refine rz ?_ | refine ra ?_ ?_ | omega | simp (maxSteps := 9^7) only [go_sem])
      refine VcCall.k landed_ok ?_
      (repeat' with_reducible first | intro _ | refine rz ?_ | refine ra ?_ ?_ | omega | simp (maxSteps := 9^7) only [go_sem])
      refine VcCall.f kf 0 ?_
      (repeat' with_reducible first | intro _ | refine rz ?_ | refine ra ?_ ?_ | omega | simp (maxSteps := 9^7) only [go_sem])
      refine VcCall.k kx ?_
      (repeat' with_reducible first | intro _ | refine rz ?_ | refine ra ?_ ?_ | omega | simp (maxSteps := 9^7) only [go_sem, f1, f2, f3, f4])
      refine VcCall.k ke ?_
      (repeat' with_reducible first | intro _ | refine rz ?_ | refine ra ?_ ?_ | omega | simp (maxSteps := 9^7) only [go_sem, g1, g2])
      refine VcCall.f kd 0 ?_
      (repeat' with_reducible first | intro _ | refine rz ?_ | refine ra ?_ ?_ | omega | simp (maxSteps := 9^7) only [go_sem])
      refine VcCall.k kr ?_
      (repeat' with_reducible first | intro _ | refine rz ?_ | refine ra ?_ ?_ | omega | simp (maxSteps := 9^7) only [go_sem])
      refine VcCall.k km ?_
      (repeat' with_reducible first | intro _ | refine rz ?_ | refine ra ?_ ?_ | omega | simp (maxSteps := 9^7) only [go_sem])
      refine VcCall.k kb ?_
      (repeat' with_reducible first | intro _ | refine rz ?_ | refine ra ?_ ?_ | omega | simp (maxSteps := 9^7) only [go_sem])
      refine VcCall.k kt ?_
      (repeat' with_reducible first | intro _ | refine rz ?_ | refine ra ?_ ?_ | omega | simp (maxSteps := 9^7) only [go_sem])
      refine VcCall.k ks1 ?_
      (repeat' with_reducible first | intro _ | refine rz ?_ | refine ra ?_ ?_ | omega | simp (maxSteps := 9^7) only [go_sem])
      refine VcCall.k ks2 ?_
      (repeat' with_reducible first | intro _ | refine rz ?_ | refine ra ?_ ?_ | omega | simp (maxSteps := 9^7) only [go_sem])
      refine Ret.auto 0 ?_ rfl ?_ <;> simp only [go_sem, Int.natCast_succ, Post]
    · rw [if_neg hk, if_neg hk] at ke
      by_cases hk1 : kind < 1
      · have g1 : (kind < 1) = True := eq_true hk1
        have g2 : (4 < kind) = False := eq_false (by omega)
        (repeat' with_reducible first | intro _ | refine rz ?_ | refine ra ?_ ?_ | omega | simp (maxSteps := 9^7) only [go_sem])
        refine VcCall.k landed_ok ?_
        (repeat' with_reducible first | intro _ | refine rz ?_ | refine ra ?_ ?_ | omega | simp (maxSteps := 9^7) only [go_sem])
        refine VcCall.f kf 0 ?_
        (repeat' with_reducible first | intro _ | refine rz ?_ | refine ra ?_ ?_ | omega | simp (maxSteps := 9^7) only [go_sem])
        refine VcCall.k kx ?_
        (repeat' with_reducible first | intro _ | refine rz ?_ | refine ra ?_ ?_ | omega | simp (maxSteps := 9^7) only [go_sem, f1, f2, f3, f4])
        refine VcCall.k ke ?_
        (repeat' with_reducible first | intro _ | refine rz ?_ | refine ra ?_ ?_ | omega | simp (maxSteps := 9^7) only [go_sem, g1, g2])
        refine VcCall.k kb ?_
        (repeat' with_reducible first | intro _ | refine rz ?_ | refine ra ?_ ?_ | omega | simp (maxSteps := 9^7) only [go_sem])
        refine VcCall.k kt ?_
        (repeat' with_reducible first | intro _ | refine rz ?_ | refine ra ?_ ?_ | omega | simp (maxSteps := 9^7) only [go_sem])
        refine VcCall.k ks1 ?_
        (repeat' with_reducible first | intro _ | refine rz ?_ | refine ra ?_ ?_ | omega | simp (maxSteps := 9^7) only [go_sem])
        refine VcCall.k ks2 ?_
        (repeat' with_reducible first | intro _ | refine rz ?_ | refine ra ?_ ?_ | omega | simp (maxSteps := 9^7) only [go_sem])
        refine Ret.auto 0 ?_ rfl ?_ <;> simp only [go_sem, Int.natCast_succ, Post]
      · have g1 : (kind < 1) = False := eq_false hk1
        have g2 : (4 < kind) = True := eq_true (by omega)
        (repeat' with_reducible first | intro _ | refine rz ?_ | refine ra ?_ ?_ | omega | simp (maxSteps := 9^7) only [go_sem])
        refine VcCall.k landed_ok ?_
        (repeat' with_reducible first | intro _ | refine rz ?_ | refine ra ?_ ?_ | omega | simp (maxSteps := 9^7) only [go_sem])
        refine VcCall.f kf 0 ?_
        (repeat' with_reducible first | intro _ | refine rz ?_ | refine ra ?_ ?_ | omega | simp (maxSteps := 9^7) only [go_sem])
        refine VcCall.k kx ?_
        (repeat' with_reducible first | intro _ | refine rz ?_ | refine ra ?_ ?_ | omega | simp (maxSteps := 9^7) only [go_sem, f1, f2, f3, f4])
        refine VcCall.k ke ?_
        (repeat' with_reducible first | intro _ | refine rz ?_ | refine ra ?_ ?_ | omega | simp (maxSteps := 9^7) only [go_sem, g1, g2])
        refine VcCall.k kb ?_
        (repeat' with_reducible first | intro _ | refine rz ?_ | refine ra ?_ ?_ | omega | simp (maxSteps := 9^7) only [go_sem])
        refine VcCall.k kt ?_
        (repeat' with_reducible first | intro _ | refine rz ?_ | refine ra ?_ ?_ | omega | simp (maxSteps := 9^7) only [go_sem])
        refine VcCall.k ks1 ?_
        (repeat' with_reducible first | intro _ | refine rz ?_ | refine ra ?_ ?_ | omega | simp (maxSteps := 9^7) only [go_sem])
        refine VcCall.k ks2 ?_
        (repeat' with_reducible first | intro _ | refine rz ?_ | refine ra ?_ ?_ | omega | simp (maxSteps := 9^7) only [go_sem])
        refine Ret.auto 0 ?_ rfl ?_ <;> simp only [go_sem, Int.natCast_succ, Post]
  have f1 : (x < 0) = False := eq_false h0
  by_cases h1 : y < 0
  · have f2 : (y < 0) = True := eq_true h1
    have f3 : True = True := rfl
    have f4 : True = True := rfl
    by_cases hk : 1 ≤ kind ∧ kind ≤ 4
    · have kd := decode_enc g hk
      have kr := refEncode_ok w h g.w0 g.w1 g.h1 g.wh q g.p kind hk
      rw [if_pos hk, if_pos hk] at ke
      have hel := encB_short g kind
      have g1 : (kind < 1) = False := eq_false (by omega)
      have g2 : (4 < kind) = False := eq_false (by omega)
      generalize encB w h q kind = E at *
      (repeat' with_reducible first | intro _ | refine rz ?_ | refine ra ?_ ?_ | omega | simp (maxSteps := 9^7) only [go_sem])
      refine VcCall.k landed_ok ?_
      (repeat' with_reducible first | intro _ | refine rz ?_ | refine ra ?_ ?_ | omega | simp (maxSteps := 9^7) only [go_sem])
      refine VcCall.f kf 0 ?_
      (repeat' with_reducible first | intro _ | refine rz ?_ | refine ra ?_ ?_ | omega | simp (maxSteps := 9^7) only [go_sem])
      refine VcCall.k kx ?_
      (repeat' with_reducible first | intro _ | refine rz ?_ | refine ra ?_ ?_ | omega | simp (maxSteps := 9^7) only [go_sem, f1, f2, f3, f4])
      refine VcCall.k ke ?_
      (repeat' with_reducible first | intro _ | refine rz ?_ | refine ra ?_ ?_ | omega | simp (maxSteps := 9^7) only [go_sem, g1, g2])
      refine VcCall.f kd 0 ?_
      (repeat' with_reducible first | intro _ | refine rz ?_ | refine ra ?_ ?_ | omega | simp (maxSteps := 9^7) only [go_sem])
      refine VcCall.k kr ?_
      (repeat' with_reducible first | intro _ | refine rz ?_ | refine ra ?_ ?_ | omega | simp (maxSteps := 9^7) only [go_sem])
      refine VcCall.k km ?_
      (repeat' with_reducible first | intro _ | refine rz ?_ | refine ra ?_ ?_ | omega | simp (maxSteps := 9^7) only [go_sem])
      refine VcCall.k kb ?_
      (repeat' with_reducible first | intro _ | refine rz ?_ | refine ra ?_ ?_ | omega | simp (maxSteps := 9^7) only [go_sem])
      refine VcCall.k kt ?_
      (repeat' with_reducible first | intro _ | refine rz ?_ | refine ra ?_ ?_ | omega | simp (maxSteps := 9^7) only [go_sem])
      refine VcCall.k ks1 ?_
      (repeat' with_reducible first | intro _ | refine rz ?_ | refine ra ?_ ?_ | omega | simp (maxSteps := 9^7) only [go_sem])
      refine VcCall.k ks2 ?_
      (repeat' with_reducible first | intro _ | refine rz ?_ | refine ra ?_ ?_ | omega | simp (maxSteps := 9^7) only [go_sem])
      refine Ret.auto 0 ?_ rfl ?_ <;> simp only [go_sem, Int.natCast_succ, Post]
    · rw [if_neg hk, if_neg hk] at ke
      by_cases hk1 : kind < 1
      · have g1 : (kind < 1) = True := eq_true hk1
        have g2 : (4 < kind) = False := eq_false (by omega)
        (repeat' with_reducible first | intro _ | refine rz ?_ | refine ra ?_ ?_ | omega | simp (maxSteps := 9^7) only [go_sem])
        refine VcCall.k landed_ok ?_
        (repeat' with_reducible first | intro _ | refine rz ?_ | refine ra ?_ ?_ | omega | simp (maxSteps := 9^7) only [go_sem])
        refine VcCall.f kf 0 ?_
        (repeat' with_reducible first | intro _ | refine rz ?_ | refine ra ?_ ?_ | omega | simp (maxSteps := 9^7) only [go_sem])
        refine VcCall.k kx ?_
        (repeat' with_reducible first | intro _ | refine rz ?_ | refine ra ?_ ?_ | omega | simp (maxSteps := 9^7) only [go_sem, f1, f2, f3, f4])
        refine VcCall.k ke ?_
        (repeat' with_reducible first | intro _ | refine rz ?_ | refine ra ?_ ?_ | omega | simp (maxSteps := 9^7) only [go_sem, g1, g2])
        refine VcCall.k kb ?_
        (repeat' with_reducible first | intro _ | refine rz ?_ | refine ra ?_ ?_ | omega | simp (maxSteps := 9^7) only [go_sem])
        refine VcCall.k kt ?_
        (repeat' with_reducible first | intro _ | refine rz ?_ | refine ra ?_ ?_ | omega | simp (maxSteps := 9^7) only [go_sem])
        refine VcCall.k ks1 ?_
        (repeat' with_reducible first | intro _ | refine rz ?_ | refine ra ?_ ?_ | omega | simp (maxSteps := 9^7) only [go_sem])
        refine VcCall.k ks2 ?_
        (repeat' with_reducible first | intro _ | refine rz ?_ | refine ra ?_ ?_ | omega | simp (maxSteps := 9^7) only [go_sem])
        refine Ret.auto 0 ?_ rfl ?_ <;> simp only [go_sem, Int.natCast_succ, Post]
      · have g1 : (kind < 1) = False := eq_false hk1
        have g2 : (4 < kind) = True := eq_true (by omega)
        (repeat' with_reducible first | intro _ | refine rz ?_ | refine ra ?_ ?_ | omega | simp (maxSteps := 9^7) only [go_sem])
        refine VcCall.k landed_ok ?_
        (repeat' with_reducible first | intro _ | refine rz ?_ | refine ra ?_ ?_ | omega | simp (maxSteps := 9^7) only [go_sem])
        refine VcCall.f kf 0 ?_
        (repeat' with_reducible first | intro _ | refine rz ?_ | refine ra ?_ ?_ | omega | simp (maxSteps := 9^7) only [go_sem])
        refine VcCall.k kx ?_
        (repeat' with_reducible first | intro _ | refine rz ?_ | refine ra ?_ ?_ | omega | simp (maxSteps := 9^7) only [go_sem, f1, f2, f3, f4])
        refine VcCall.k ke ?_
        (repeat' with_reducible first | intro _ | refine rz ?_ | refine ra ?_ ?_ | omega | simp (maxSteps := 9^7) only [go_sem, g1, g2])
        refine VcCall.k kb ?_
        (repeat' with_reducible first | intro _ | refine rz ?_ | refine ra ?_ ?_ | omega | simp (maxSteps := 9^7) only [go_sem])
        refine VcCall.k kt ?_
        (repeat' with_reducible first | intro _ | refine rz ?_ | refine ra ?_ ?_ | omega | simp (maxSteps := 9^7) only [go_sem])
        refine VcCall.k ks1 ?_
        (repeat' with_reducible first | intro _ | refine rz ?_ | refine ra ?_ ?_ | omega | simp (maxSteps := 9^7) only [go_sem])
        refine VcCall.k ks2 ?_
        (repeat' with_reducible first | intro _ | refine rz ?_ | refine ra ?_ ?_ | omega | simp (maxSteps := 9^7) only [go_sem])
        refine Ret.auto 0 ?_ rfl ?_ <;> simp only [go_sem, Int.natCast_succ, Post]
  have f2 : (y < 0) = False := eq_false h1
  by_cases h2 : (w : Int) ≤ x
  · have f3 : ((w : Int) ≤ x) = True := eq_true h2
    have f4 : True = True := rfl
    by_cases hk : 1 ≤ kind ∧ kind ≤ 4
    · have kd := decode_enc g hk
      have kr := refEncode_ok w h g.w0 g.w1 g.h1 g.wh q g.p kind hk
      rw [if_pos hk, if_pos hk] at ke
      have hel := encB_short g kind
      have g1 : (kind < 1) = False := eq_false (by omega)
      have g2 : (4 < kind) = False := eq_false (by omega)
      generalize encB w h q kind = E at *
      (repeat' with_reducible first | intro _ | refine rz ?_ | refine ra ?_ ?_ | omega | simp (maxSteps := 9^7) only [go_sem])
      refine VcCall.k landed_ok ?_
      (repeat' with_reducible first | intro _ | refine rz ?_ | refine ra ?_ ?_ | omega | simp (maxSteps := 9^7) only [go_sem])
      refine VcCall.f kf 0 ?_
      (repeat' with_reducible first | intro _ | refine rz ?_ | refine ra ?_ ?_ | omega | simp (maxSteps := 9^7) only [go_sem])
      refine VcCall.k kx ?_
      (repeat' with_reducible first | intro _ | refine rz ?_ | refine ra ?_ ?_ | omega | simp (maxSteps := 9^7) only [go_sem, f1, f2, f3, f4])
      refine VcCall.k ke ?_
      (repeat' with_reducible first | intro _ | refine rz ?_ | refine ra ?_ ?_ | omega | simp (maxSteps := 9^7) only [go_sem, g1, g2])
      refine VcCall.f kd 0 ?_
      (repeat' with_reducible first | intro _ | refine rz ?_ | refine ra ?_ ?_ | omega | simp (maxSteps := 9^7) only [go_sem])
      refine VcCall.k kr ?_
      (repeat' with_reducible first | intro _ | refine rz ?_ | refine ra ?_ ?_ | omega | simp (maxSteps := 9^7) only [go_sem])
      refine VcCall.k km ?_
      (repeat' with_reducible first | intro _ | refine rz ?_ | refine ra ?_ ?_ | omega | simp (maxSteps := 9^7) only [go_sem])
      refine VcCall.k kb ?_
      (repeat' with_reducible first | intro _ | refine rz ?_ | refine ra ?_ ?_ | omega | simp (maxSteps := 9^7) only [go_sem])
      refine VcCall.k kt ?_
      (repeat' with_reducible first | intro _ | refine rz ?_ | refine ra ?_ ?_ | omega | simp (maxSteps := 9^7) only [go_sem])
      refine VcCall.k ks1 ?_
      (repeat' with_reducible first | intro _ | refine rz ?_ | refine ra ?_ ?_ | omega | simp (maxSteps := 9^7) only [go_sem])
      refine VcCall.k ks2 ?_
      (repeat' with_reducible first | intro _ | refine rz ?_ | refine ra ?_ ?_ | omega | simp (maxSteps := 9^7) only [go_sem])
      refine Ret.auto 0 ?_ rfl ?_ <;> simp only [go_sem, Int.natCast_succ, Post]
    · rw [if_neg hk, if_neg hk] at ke
      by_cases hk1 : kind < 1
      · have g1 : (kind < 1) = True := eq_true hk1
        have g2 : (4 < kind) = False := eq_false (by omega)
        (repeat' with_reducible first | intro _ | refine rz ?_ | refine ra ?_ ?_ | omega | simp (maxSteps := 9^7) only [go_sem])
        refine VcCall.k landed_ok ?_
        (repeat' with_reducible first | intro _ | refine rz ?_ | refine ra ?_ ?_ | omega | simp (maxSteps := 9^7) only [go_sem])
        refine VcCall.f kf 0 ?_
        (repeat' with_reducible first | intro _ | refine rz ?_ | refine ra ?_ ?_ | omega | simp (maxSteps := 9^7) only [go_sem])
        refine VcCall.k kx ?_
        (repeat' with_reducible first | intro _ | refine rz ?_ | refine ra ?_ ?_ | omega | simp (maxSteps := 9^7) only [go_sem, f1, f2, f3, f4])
        refine VcCall.k ke ?_
        (repeat' with_reducible first | intro _ | refine rz ?_ | refine ra ?_ ?_ | omega | simp (maxSteps := 9^7) only [go_sem, g1, g2])
        refine VcCall.k kb ?_
        (repeat' with_reducible first | intro _ | refine rz ?_ | refine ra ?_ ?_ | omega | simp (maxSteps := 9^7) only [go_sem])
        refine VcCall.k kt ?_
        (repeat' with_reducible first | intro _ | refine rz ?_ | refine ra ?_ ?_ | omega | simp (maxSteps := 9^7) only [go_sem])
        refine VcCall.k ks1 ?_
        (repeat' with_reducible first | intro _ | refine rz ?_ | refine ra ?_ ?_ | omega | simp (maxSteps := 9^7) only [go_sem])
        refine VcCall.k ks2 ?_
        (repeat' with_reducible first | intro _ | refine rz ?_ | refine ra ?_ ?_ | omega | simp (maxSteps := 9^7) only [go_sem])
        refine Ret.auto 0 ?_ rfl ?_ <;> simp only [go_sem, Int.natCast_succ, Post]
      · have g1 : (kind < 1) = False := eq_false hk1
        have g2 : (4 < kind) = True := eq_true (by omega)
        (repeat' with_reducible first | intro _ | refine rz ?_ | refine ra ?_ ?_ | omega | simp (maxSteps := 9^7) only [go_sem])
        refine VcCall.k landed_ok ?_
        (repeat' with_reducible first | intro _ | refine rz ?_ | refine ra ?_ ?_ | omega | simp (maxSteps := 9^7) only [go_sem])
        refine VcCall.f kf 0 ?_
        (repeat' with_reducible first | intro _ | refine rz ?_ | refine ra ?_ ?_ | omega | simp (maxSteps := 9^7) only [go_sem])
        refine VcCall.k kx ?_
        (repeat' with_reducible first | intro _ | refine rz ?_ | refine ra ?_ ?_ | omega | simp (maxSteps := 9^7) only [go_sem, f1, f2, f3, f4])
        refine VcCall.k ke ?_
        (repeat' with_reducible first | intro _ | refine rz ?_ | refine ra ?_ ?_ | omega | simp (maxSteps := 9^7) only [go_sem, g1, g2])
        refine VcCall.k kb ?_
        (repeat' with_reducible first | intro _ | refine rz ?_ | refine ra ?_ ?_ | omega | simp (maxSteps := 9^7) only [go_sem])
        refine VcCall.k kt ?_
        (repeat' with_reducible first | intro _ | refine rz ?_ | refine ra ?_ ?_ | omega | simp (maxSteps := 9^7) only [go_sem])
        refine VcCall.k ks1 ?_
        (repeat' with_reducible first | intro _ | refine rz ?_ | refine ra ?_ ?_ | omega | simp (maxSteps := 9^7) only [go_sem])
        refine VcCall.k ks2 ?_
        (repeat' with_reducible first | intro _ | refine rz ?_ | refine ra ?_ ?_ | omega | simp (maxSteps := 9^7) only [go_sem])
        refine Ret.auto 0 ?_ rfl ?_ <;> simp only [go_sem, Int.natCast_succ, Post]
  have f3 : ((w : Int) ≤ x) = False := eq_false h2
  have h3 : (h : Int) ≤ y := by omega
  have f4 : ((h : Int) ≤ y) = True := eq_true h3
  by_cases hk : 1 ≤ kind ∧ kind ≤ 4
  · have kd := decode_enc g hk
    have kr := refEncode_ok w h g.w0 g.w1 g.h1 g.wh q g.p kind hk
    rw [if_pos hk, if_pos hk] at ke
    have hel := encB_short g kind
    have g1 : (kind < 1) = False := eq_false (by omega)
    have g2 : (4 < kind) = False := eq_false (by omega)
    generalize encB w h q kind = E at *
    (repeat' with_reducible first | intro _ | refine rz ?_ | refine ra ?_ ?_ | omega | simp (maxSteps := 9^7) only [go_sem])
    refine VcCall.k landed_ok ?_
    (repeat' with_reducible first | intro _ | refine rz ?_ | refine ra ?_ ?_ | omega | simp (maxSteps := 9^7) only [go_sem])
    refine VcCall.f kf 0 ?_
    (repeat' with_reducible first | intro _ | refine rz ?_ | refine ra ?_ ?_ | omega | simp (maxSteps := 9^7) only [go_sem])
    refine VcCall.k kx ?_
    (repeat' with_reducible first | intro _ | refine rz ?_ | refine ra ?_ ?_ | omega | simp (maxSteps := 9^7) only [go_sem, f1, f2, f3, f4])
    refine VcCall.k ke ?_
    (repeat' with_reducible first | intro _ | refine rz ?_ | refine ra ?_ ?_ | omega | simp (maxSteps := 9^7) only [go_sem, g1, g2])
    refine VcCall.f kd 0 ?_
    (repeat' with_reducible first | intro _ | refine rz ?_ | refine ra ?_ ?_ | omega | simp (maxSteps := 9^7) only [go_sem])
    refine VcCall.k kr ?_
    (repeat' with_reducible first | intro _ | refine rz ?_ | refine ra ?_ ?_ | omega | simp (maxSteps := 9^7) only [go_sem])
    refine VcCall.k km ?_
    (repeat' with_reducible first | intro _ | refine rz ?_ | refine ra ?_ ?_ | omega | simp (maxSteps := 9^7) only [go_sem])
    refine VcCall.k kb ?_
    (repeat' with_reducible first | intro _ | refine rz ?_ | refine ra ?_ ?_ | omega | simp (maxSteps := 9^7) only [go_sem])
    refine VcCall.k kt ?_
    (repeat' with_reducible first | intro _ | refine rz ?_ | refine ra ?_ ?_ | omega | simp (maxSteps := 9^7) only [go_sem])
    refine VcCall.k ks1 ?_
    (repeat' with_reducible first | intro _ | refine rz ?_ | refine ra ?_ ?_ | omega | simp (maxSteps := 9^7) only [go_sem])
    refine VcCall.k ks2 ?_
    (repeat' with_reducible first | intro _ | refine rz ?_ | refine ra ?_ ?_ | omega | simp (maxSteps := 9^7) only [go_sem])
    refine Ret.auto 0 ?_ rfl ?_ <;> simp only [go_sem, Int.natCast_succ, Post]
  · rw [if_neg hk, if_neg hk] at ke
    by_cases hk1 : kind < 1
    · have g1 : (kind < 1) = True := eq_true hk1
      have g2 : (4 < kind) = False := eq_false (by omega)
      (repeat' with_reducible first | intro _ | refine rz ?_ | refine ra ?_ ?_ | omega | simp (maxSteps := 9^7) only [go_sem])
      refine VcCall.k landed_ok ?_
      (repeat' with_reducible first | intro _ | refine rz ?_ | refine ra ?_ ?_ | omega | simp (maxSteps := 9^7) only [go_sem])
      refine VcCall.f kf 0 ?_
      (repeat' with_reducible first | intro _ | refine rz ?_ | refine ra ?_ ?_ | omega | simp (maxSteps := 9^7) only [go_sem])
      refine VcCall.k kx ?_
      (repeat' with_reducible first | intro _ | refine rz ?_ | refine ra ?_ ?_ | omega | simp (maxSteps := 9^7) only [go_sem, f1, f2, f3, f4])
      refine VcCall.k ke ?_
      (repeat' with_reducible first | intro _ | refine rz ?_ | refine ra ?_ ?_ | omega | simp (maxSteps := 9^7) only [go_sem, g1, g2])
      refine VcCall.k kb ?_
      (repeat' with_reducible first | intro _ | refine rz ?_ | refine ra ?_ ?_ | omega | simp (maxSteps := 9^7) only [go_sem])
      refine VcCall.k kt ?_
      (repeat' with_reducible first | intro _ | refine rz ?_ | refine ra ?_ ?_ | omega | simp (maxSteps := 9^7) only [go_sem])
      refine VcCall.k ks1 ?_
      (repeat' with_reducible first | intro _ | refine rz ?_ | refine ra ?_ ?_ | omega | simp (maxSteps := 9^7) only [go_sem])
      refine VcCall.k ks2 ?_
      (repeat' with_reducible first | intro _ | refine rz ?_ | refine ra ?_ ?_ | omega | simp (maxSteps := 9^7) only [go_sem])
      refine Ret.auto 0 ?_ rfl ?_ <;> simp only [go_sem, Int.natCast_succ, Post]
    · have g1 : (kind < 1) = False := eq_false hk1
      have g2 : (4 < kind) = True := eq_true (by omega)
      (repeat' with_reducible first | intro _ | refine rz ?_ | refine ra ?_ ?_ | omega | simp (maxSteps := 9^7) only [go_sem])
      refine VcCall.k landed_ok ?_
      (repeat' with_reducible first | intro _ | refine rz ?_ | refine ra ?_ ?_ | omega | simp (maxSteps := 9^7) only [go_sem])
      refine VcCall.f kf 0 ?_
      (repeat' with_reducible first | intro _ | refine rz ?_ | refine ra ?_ ?_ | omega | simp (maxSteps := 9^7) only [go_sem])
      refine VcCall.k kx ?_
      (repeat' with_reducible first | intro _ | refine rz ?_ | refine ra ?_ ?_ | omega | simp (maxSteps := 9^7) only [go_sem, f1, f2, f3, f4])
      refine VcCall.k ke ?_
      (repeat' with_reducible first | intro _ | refine rz ?_ | refine ra ?_ ?_ | omega | simp (maxSteps := 9^7) only [go_sem, g1, g2])
      refine VcCall.k kb ?_
      (repeat' with_reducible first | intro _ | refine rz ?_ | refine ra ?_ ?_ | omega | simp (maxSteps := 9^7) only [go_sem])
      refine VcCall.k kt ?_
      (repeat' with_reducible first | intro _ | refine rz ?_ | refine ra ?_ ?_ | omega | simp (maxSteps := 9^7) only [go_sem])
      refine VcCall.k ks1 ?_
      (repeat' with_reducible first | intro _ | refine rz ?_ | refine ra ?_ ?_ | omega | simp (maxSteps := 9^7) only [go_sem])
      refine VcCall.k ks2 ?_
      (repeat' with_reducible first | intro _ | refine rz ?_ | refine ra ?_ ?_ | omega | simp (maxSteps := 9^7) only [go_sem])
      refine Ret.auto 0 ?_ rfl ?_ <;> simp only [go_sem, Int.natCast_succ, Post]
end Go.Fv.H
