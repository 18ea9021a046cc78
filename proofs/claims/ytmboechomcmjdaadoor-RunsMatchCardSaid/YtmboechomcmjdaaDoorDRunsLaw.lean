/-
  A part of the proof of the claim: walks over the program's functions and the plain laws that these need. No condition of its own.
-/
import Derived.Test.YtmboechomcmjdaaDoorDRuns
import Derived.Test.YtmboechomcmjdaaDoorDFrom
namespace Go.Fv.D
open Go Go.Proofs
set_option linter.unusedSimpArgs false
set_option linter.unusedVariables false

theorem frAt_app (l : List Int) (x : Int) : ∀ i, i ≤ l.length → frAt (l ++ [x]) i = frAt l i
  | 0, _ => rfl
  | i + 1, h => by
    simp only [frAt]
    rw [frAt_app l x i (by omega)]
    congr 2
    simp [List.getD, List.getElem?_append_left (show i < l.length by omega)]
theorem frAt_last (l : List Int) (x : Int) : frAt (l ++ [x]) (l.length + 1) = frAt l l.length ++ List.replicate x.toNat (decide (l.length % 2 = 1)) := by
  simp only [frAt]
  rw [frAt_app l x _ (Nat.le_refl _)]
  simp [List.getD]

structure RInv (row : List Bool) (i : Nat) : Prop where
  ex : ∃ init last, (runsAt row i).1 = init ++ [last] ∧ 1 ≤ last ∧ (runsAt row i).2 = decide (init.length % 2 = 1) ∧ (∀ j, j < init.length → 0 ≤ init.getD j 0 ∧ (init.getD j 0 = 0 → j = 0)) ∧ frAt (init ++ [last]) (init.length + 1) = row.take i

theorem rinv_one (row : List Bool) (h : 0 < row.length) : RInv row 1 := by
  have hr : row.take 1 = [row.getD 0 false] := by
    cases row with
    | nil => simp at h
    | cons b l => simp
  cases hb : row.getD 0 false with
  | false =>
    refine ⟨[], 1, ?_, by decide, ?_, by simp, ?_⟩
    · simp only [runsAt, runsStep, hb]; rfl
    · simp only [runsAt, runsStep, hb]; rfl
    · rw [hr, hb]; rfl
  | true =>
    refine ⟨[0], 1, ?_, by decide, ?_, ?_, ?_⟩
    · simp only [runsAt, runsStep, hb]; rfl
    · simp only [runsAt, runsStep, hb]; rfl
    · intro j hj
      have : j = 0 := by simpa using hj
      subst this
      exact ⟨by decide, fun _ => rfl⟩
    · rw [hr, hb]; rfl

theorem take_snoc (row : List Bool) (i : Nat) (h : i < row.length) : row.take (i + 1) = row.take i ++ [row.getD i false] := by
  rw [List.take_succ_eq_append_getElem h, getD_lt h]

theorem rinv_step (row : List Bool) (i : Nat) (hi : 0 < i) (h : i < row.length) (hI : RInv row i) : RInv row (i + 1) := by
  obtain ⟨init, last, h1, h2, h3, h4, h5⟩ := hI.ex
  have hne : ¬ i = 0 := by omega
  rw [frAt_last] at h5
  by_cases hp : row.getD i false = (runsAt row i).2
  · refine ⟨init, last + 1, ?_, by omega, ?_, h4, ?_⟩
    · simp only [runsAt, runsStep, if_neg hne, if_pos hp, h1]
      simp [List.getD]
    · simp only [runsAt, runsStep]
      rw [hp, h3]
    · rw [frAt_last, take_snoc row i h, ← h5, List.append_assoc, hp, h3]
      have : (last + 1).toNat = last.toNat + 1 := by omega
      rw [this, List.replicate_succ']
  · refine ⟨init ++ [last], 1, ?_, by decide, ?_, ?_, ?_⟩
    · simp only [runsAt, runsStep, if_neg hne, if_neg hp, h1]
      simp [List.getD]
    · simp only [runsAt, runsStep]
      rw [h3] at hp
      simp only [List.length_append, List.length_cons, List.length_nil]
      rcases Nat.mod_two_eq_zero_or_one init.length with e | e
      · have e2 : (init.length + (0 + 1)) % 2 = 1 := by omega
        rw [e2]; rw [e] at hp
        cases hv : row.getD i false
        · rw [hv] at hp; exact absurd rfl hp
        · rfl
      · have e2 : (init.length + (0 + 1)) % 2 = 0 := by omega
        rw [e2]; rw [e] at hp
        cases hv : row.getD i false
        · rfl
        · rw [hv] at hp; exact absurd rfl hp
    · intro j hj
      simp only [List.length_append, List.length_cons, List.length_nil] at hj
      by_cases e : j < init.length
      · have := h4 j e
        simpa [List.getD, List.getElem?_append_left e] using this
      · have e : j = init.length := by omega
        subst e
        have : (init ++ [last]).getD init.length 0 = last := by simp [List.getD]
        rw [this]
        exact ⟨by omega, fun h => by omega⟩
    · rw [frAt_last]
      have e1 : (init ++ [last]).length = init.length + 1 := by simp
      rw [e1, frAt_last, h5, take_snoc row i h]
      congr 1
      rw [h3] at hp
      have : decide ((init.length + 1) % 2 = 1) = row.getD i false := by
        rcases Nat.mod_two_eq_zero_or_one init.length with e | e
        · have e2 : (init.length + 1) % 2 = 1 := by omega
          rw [e2]; rw [e] at hp
          cases hv : row.getD i false
          · rw [hv] at hp; exact absurd rfl hp
          · rfl
        · have e2 : (init.length + 1) % 2 = 0 := by omega
          rw [e2]; rw [e] at hp
          cases hv : row.getD i false
          · rfl
          · rw [hv] at hp; exact absurd rfl hp
      rw [this]; rfl

theorem rinv (row : List Bool) : ∀ i, 0 < i → i ≤ row.length → RInv row i
  | 0, h, _ => by omega
  | 1, _, h => rinv_one row (by omega)
  | i + 2, _, h => rinv_step row (i + 1) (by omega) (by omega) (rinv row (i + 1) (by omega) (by omega))

theorem frAt_mono (l : List Int) : ∀ {i j : Nat}, i ≤ j → (frAt l i).length ≤ (frAt l j).length
  | i, 0, h => by have : i = 0 := by omega
                  subst this; exact Nat.le_refl _
  | i, j + 1, h => by
    by_cases e : i = j + 1
    · subst e; exact Nat.le_refl _
    · have := frAt_mono l (i := i) (j := j) (by omega)
      simp only [frAt, List.length_append]; omega

/-- RUNS MAKE THE ROW AGAIN. -/
theorem runs_back (row : List Bool) (h : row.length ≤ 4000) : frSpec (runsAt row row.length).1 row.length = (row, 0) := by
  unfold frSpec
  rw [if_neg (by omega), if_neg (by omega)]
  by_cases h0 : row.length = 0
  · have : row = [] := List.eq_nil_of_length_eq_zero h0
    subst this
    rw [if_pos]
    · rfl
    · exact ⟨fun j hj => by simp [runsAt] at hj, rfl⟩
  · obtain ⟨init, last, h1, h2, h3, h4, h5⟩ := (rinv row row.length (by omega) (Nat.le_refl _)).ex
    rw [List.take_length] at h5
    rw [h1]
    have hlen : (init ++ [last]).length = init.length + 1 := by simp
    rw [if_pos]
    · rw [hlen, h5]
    · rw [hlen, h5]
      refine ⟨fun j hj => ?_, rfl⟩
      have hm := frAt_mono (init ++ [last]) (show j + 1 ≤ init.length + 1 by omega)
      rw [h5] at hm
      have hs : (frAt (init ++ [last]) (j + 1)).length = (frAt (init ++ [last]) j).length + ((init ++ [last]).getD j 0).toNat := by simp [frAt]
      have hv : 0 ≤ (init ++ [last]).getD j 0 ∧ ((init ++ [last]).getD j 0 = 0 → j = 0) := by
        by_cases e : j < init.length
        · have := h4 j e
          simpa [List.getD, List.getElem?_append_left e] using this
        · have e : j = init.length := by omega
          subst e
          have : (init ++ [last]).getD init.length 0 = last := by simp [List.getD]
          rw [this]
          exact ⟨by omega, fun h => by omega⟩
      exact ⟨hv.1, hv.2, by omega⟩
end Go.Fv.D
