/-
  A part of the proof of the claim: walks over the program's functions and the plain laws that these need. No condition of its own.
-/
import Derived.Test.YtpnlkjeedfmhfaaGreatDoorFvPart6
import Derived.Shelf.Vars
import Derived.Handed
/-
  What a row's first world gives of package-level integers.
-/
namespace Go.Fv
set_option linter.unusedSectionVars false
open Go.RowKit Go.ChangeShapes Go.WideShapes
set_option linter.unusedVariables false
set_option linter.unusedSimpArgs false

def shBlk (w : World) (P : Program) (g : Nat) (k : IntKind) : Bool := match (w.heap[g]?).bind Obj.row? with
  | some (zero, t) => decide (zero.size = 1) && P.buildable t && decide (P.cellTypes P.depth t = some [t]) && (match P.underlying t with | some (.int k') => decide (k' = k) | _ => false)
  | none => false
/-- Each package-level variable of an integer type has one cell of that type. -/
def shOk (P : Program) : Bool := (List.range P.globals.size).all fun g => match intGl P g with
  | some k => shBlk (begin P (fun _ _ => 0) default).world P g k
  | none => true
theorem GlOk.of_shaped {P : Program} {w : World} (hs : shOk P = true) (h : w.ShapedOpen P) : GlOk P w := by
  intro g k hg
  have hlt : g < P.globals.size := by
    by_cases hlt : g < P.globals.size
    · exact hlt
    · unfold intGl at hg
      rw [Array.getElem?_eq_none (Nat.le_of_not_lt hlt)] at hg
      cases hg
  have h1 := List.all_eq_true.1 hs g (List.mem_range.2 hlt)
  rw [hg] at h1
  dsimp only at h1
  unfold shBlk at h1
  split at h1
  · rename_i zero t hz
    simp only [Bool.and_eq_true, decide_eq_true_eq] at h1
    obtain ⟨⟨⟨hz1, hb⟩, hc⟩, hu⟩ := h1
    have hu : P.underlying t = some (.int k) := by
      split at hu
      · rename_i k' e; rw [e, of_decide_eq_true hu]
      · cases hu
    obtain ⟨cs, hh, hsz, hr⟩ := h.1 g zero t hlt hz
    obtain ⟨ts, hts, _, hall⟩ := hr hb
    rw [hc] at hts
    cases hts
    have h1 : 0 < cs.size := by omega
    obtain ⟨u, hu', hok⟩ := hall 0 cs[0] (by simp [h1])
    have : u = t := by simpa using hu'.symm
    subst this
    unfold Cell.ok at hok
    rw [hu] at hok
    have e : cs = #[cs[0]] := by
      apply Array.ext
      · simp; omega
      · intro i h1 h2
        simp at h2
        subst h2; simp
    cases hv : cs[0] <;> rw [hv] at hok <;> simp at hok
    case int k' n =>
      obtain ⟨rfl, hk⟩ := hok
      refine ⟨n, u, ?_, by rw [hh, e, hv]⟩
      exact hk
  · cases h1

variable {H : Type} {enc : TypeId × Value → H}
end Go.Fv
