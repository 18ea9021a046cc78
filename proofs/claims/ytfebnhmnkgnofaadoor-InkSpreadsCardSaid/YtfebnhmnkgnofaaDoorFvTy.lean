/-
  Facts about types, out of one glance each.
-/
import Derived.Test.YtfebnhmnkgnofaaDoorFvCongr
namespace Go.Fv
set_option linter.unusedVariables false

def zOkB : Value → Bool
  | .int k n => inKB k n
  | .string s => s.size == 0
  | .agg cs => (cs.toList.all fun v => v.oneCell' && (match v with | .string s => s.size == 0 | _ => true)) && decide (0 < cs.size)
  | .tuple _ => false
  | _ => true
theorem zOk_of_B {v : Value} (h : zOkB v = true) : zOk v := by
  cases v <;> first | trivial | cases h; done | skip
  case int k n => exact InK_of_B h
  case string s =>
    have h' : s.size = 0 := by simpa [zOkB] using h
    show s.size ≤ maxLen
    rw [h']; exact Nat.zero_le _
  case agg cs =>
    simp only [zOkB, Bool.and_eq_true, List.all_eq_true, decide_eq_true_eq] at h
    refine ⟨fun v hv => ⟨(h.1 v hv).1, ?_⟩, h.2⟩
    have h2 := (h.1 v hv).2
    cases v <;> try trivial
    rename_i s
    have h' : s.size = 0 := by simpa using h2
    show s.size ≤ maxLen
    rw [h']; exact Nat.zero_le _
theorem ElemZ.of {P : Program} {e : TypeId} {z : Value} (h : (P.info? e).map (fun i => (i.zero, i.size, decide (i.bytes ≤ 1024))) = some (some z, z.cells.size, true)) (hz : zOkB z = true) : ElemZ P e z := by
  refine ⟨?_, zOk_of_B hz⟩
  cases hi : P.info? e with
  | none => rw [hi] at h; cases h
  | some i =>
    rw [hi] at h
    simp only [Option.map_some, Option.some.injEq, Prod.mk.injEq, decide_eq_true_eq] at h
    exact ⟨i, rfl, h.1, h.2.1, h.2.2⟩
theorem ElemZ.zero {P : Program} {e : TypeId} {z : Value} (h : ElemZ P e z) : zeroOf P e = some z := by
  obtain ⟨i, h1, h2, _⟩ := h.ex
  simp [zeroOf, h1, h2]
theorem ElemZ.cellsOf {P : Program} {e : TypeId} {z : Value} (h : ElemZ P e z) : P.cellsOf e = z.cells.size := by
  obtain ⟨i, h1, h2, h3, _⟩ := h.ex
  simp [Program.cellsOf, h1, h3]
end Go.Fv
