/-
  Calls whose results are only read by the caller: they stand as data, and the caller's state stays as it is.
-/
import Derived.Test.YtfebnhmnkgnofaaDoorFvLexD
namespace Go.Fv
open Go.RowKit
set_option linter.unusedVariables false
set_option linter.unusedSimpArgs false
set_option linter.unnecessarySimpa false

def outOk (rows : List (Nat × Item)) (x y : AV) : Prop := match x with
  | .tup l => ∃ l', argOkL rows l l' ∧ y = .tup l'
  | x => argOk rows x y

section
variable {P : Program} {w0 : World} {T0 : Nat → Prop}

theorem OutOk.ro {T : Nat → Prop} {B : Nat} {w : World} {out out' : AV} {rows : List (Nat × Item)} {v : Value} (h : OutOk T B w out rows v) (ho : outOk rows out out') : OutOk T B w out' [] v := by
  obtain ⟨m, N, hr, hrows, hsep⟩ := h
  have hblk : ∀ i it, lk rows i = some it → ∀ b, blk (m i) = some b → B ≤ b := fun i it hi b hb => ((hrows i it hi).2.blk b hb).1
  have hl : Lend w (⟨w, allow T B m rows, m, N⟩ : Ctx) rows (allow T B (fun _ => undef) []) :=
    { hw := rfl, t := fun b hb => ⟨hb.1, fun i it hi => by simp [lk] at hi⟩,
      own := fun i e r hi => by
        obtain ⟨n, cells, hc, hn, hq⟩ := (hrows i _ hi).2
        exact ⟨fun b hb => ⟨.inl (hblk i _ hi b hb), fun i it hi => by simp [lk] at hi⟩, n, cells, _, hc, hn, hq⟩,
      box := fun i e cs hi => by
        obtain ⟨g, vs, hv, hg, hl, hh⟩ := (hrows i _ hi).2
        exact ⟨g, vs, hv, ⟨.inl hg, fun i it hi => by simp [lk] at hi⟩, hl, hh⟩ }
  refine ⟨fun _ => undef, 0, ?_, fun i it hi => by simp [lk] at hi, fun i j it jt b hi => by simp [lk] at hi⟩
  unfold outOk at ho
  split at ho
  · obtain ⟨l', ha, rfl⟩ := ho
    cases hr with
    | tup _ vs hv => exact .tup _ _ (argOkT_rv hl _ ha hv)
  · exact argOkN_rv hl 6 _ ho hr

theorem OutOk.noid {T : Nat → Prop} {B : Nat} {w : World} {out : AV} {v : Value} (h : OutOk T B w out [] v) : OutOk T B w out [] v := h

/-- A CALL BY A CONTRACT whose results share nothing, and are only read. -/
theorem VcCall.ro {f : Nat} {args args' : List AV} {out : AV} (out' : AV) {rows : List (Nat × Item)} {s : S} {K : AV → S → Prop} (h : FnFr P f args' out rows) (ha : argOkL s.rows args args') (ho : outOk rows out out') (hn : noId out' = true)
    (hk : K out' s) : @VcCall P w0 T0 f args s ⟨K⟩ := by
  have h' : FnFr P f args' out' [] := ⟨h.1, fun w T vals hv => (h.2 w T vals hv).mono fun e w' ⟨v, he, hb, hq⟩ => ⟨v, he, hb, hq.ro ho⟩⟩
  refine VcCall.fr h' ha 0 (noId_below 0 _ hn) trivial ?_
  rw [noId_ren _ _ hn]
  exact hk
end
end Go.Fv
