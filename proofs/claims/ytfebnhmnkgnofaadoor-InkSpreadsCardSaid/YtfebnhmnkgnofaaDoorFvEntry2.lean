/-
  What arrives: structs.
-/
import Derived.Test.YtfebnhmnkgnofaaDoorFvEntry
namespace Go.Fv
open Go.RowKit
set_option linter.unusedVariables false
set_option linter.unusedSimpArgs false

section
variable {H : Type} {enc : TypeId × Value → H} {P : Program} {w : World} {t : TypeId} {cs : List Value} {x : DataW H × List MemPlace}

theorem Rd.fields {fs : Array Field} (ht : P.underlying t = some (.struct fs)) (h : Rd enc P w t cs x) : cs.length = P.cellsOf t ∧ ∃ xs : List (DataW H × List MemPlace), x.1 = .agg (xs.map (·.1)) ∧ xs.length = fs.size ∧
    ∀ (i : Nat) (f : Field), fs[i]? = some f → ∃ y, xs[i]? = some y ∧ Rd enc P w f.type ((cs.drop f.offset).take (P.cellsOf f.type)) y := by
  obtain ⟨fuel, h⟩ := h
  obtain ⟨xs, n, _, rfl, hl, hn, hf⟩ := DataW.trod_struct ht h
  refine ⟨hl, xs, rfl, hn, fun i f hi => ?_⟩
  have hlt : i < xs.length := by rw [hn]; exact (Array.getElem?_eq_some_iff.1 hi).1
  refine ⟨xs[i], List.getElem?_eq_getElem hlt, n, ?_⟩
  rw [hf i f hi, List.getElem?_eq_getElem hlt]
theorem arg_struct {base : Nat} {v : Value} {d : DataW H} {ps : List MemPlace} {fs : Array Field} (ht : P.underlying t = some (.struct fs)) (hv : Value.okWide P w .any base t v) (h : DataW.Trod enc P w 0 (fun _ => true) true t v d ps) :
    ∃ cs : List Value, v = .agg cs.toArray ∧ Rd enc P w t cs (d, ps) := by
  unfold Value.okWide at hv
  rw [ht] at hv
  obtain ⟨cs, rfl, _⟩ := hv
  exact ⟨cs.toList, by simp, Trod.rd h⟩
theorem RvL.app {c : Ctx} : ∀ {l l' : List AV} {vs vs' : List Value}, RvL c l vs → RvL c l' vs' → RvL c (l ++ l') (vs ++ vs')
  | _, _, _, _, .nil, h => h
  | _, _, _, _, .cons x v l vs hx h1 ht, h => .cons x v _ _ hx h1 (ht.app h)
/-- A page: two numbers and a row. -/
theorem Rd.page {f0 f1 f2 : Field} (ht : P.underlying t = some (.struct #[f0, f1, f2])) (hc : P.cellsOf t = 3) (o : f0.offset = 0 ∧ f1.offset = 1 ∧ f2.offset = 2) (c : P.cellsOf f0.type = 1 ∧ P.cellsOf f1.type = 1 ∧ P.cellsOf f2.type = 1)
    (u0 : P.underlying f0.type = some (.int .i64)) (u1 : P.underlying f1.type = some (.int .i64)) {α : Type} (row : α → AV) (I : α → Prop) (len : α → Nat)
    (hrow : ∀ cs x, Rd enc P w f2.type cs x → ∃ l, I l ∧ RvL (cIn w) [row l] cs ∧ len l = lenD x.1) (h : Rd enc P w t cs x) :
    ∃ (W H' : Int) (l : α), InK .i64 W ∧ InK .i64 H' ∧ I l ∧ RvL (cIn w) [.int .i64 W, .int .i64 H', row l] cs ∧ ∃ a b d, x.1 = .agg [a, b, d] ∧ len l = lenD d := by
  obtain ⟨hl, xs, hx, hn, hf⟩ := h.fields ht
  rw [hc] at hl
  match cs, hl with
  | [c0, c1, c2], _ =>
    obtain ⟨y0, g0, r0⟩ := hf 0 f0 rfl
    obtain ⟨y1, g1, r1⟩ := hf 1 f1 rfl
    obtain ⟨y2, g2, r2⟩ := hf 2 f2 rfl
    rw [o.1, c.1] at r0
    rw [o.2.1, c.2.1] at r1
    rw [o.2.2, c.2.2] at r2
    obtain ⟨W, k0, v0⟩ := r0.int u0
    obtain ⟨H', k1, v1⟩ := r1.int u1
    obtain ⟨l, hI, v2, hlen⟩ := hrow _ _ r2
    match xs, hn with
    | [z0, z1, z2], _ =>
      simp at g0 g1 g2
      subst g0; subst g1; subst g2
      exact ⟨W, H', l, k0, k1, hI, (v0.app v1).app v2, _, _, _, hx, hlen⟩
end
end Go.Fv
