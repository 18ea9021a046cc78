/-
  A part of the proof of the claim: walks over the program's functions and the plain laws that these need. No condition of its own.
-/
import Derived.Test.YtjomdjmmpohaeaaDoorFvPart6
import Derived.Shelf.Vars
import Derived.Handed
/-
  What a row's first world gives of package-level integers.
-/

namespace Go.Fv
set_option linter.unusedSectionVars false
open Go.RowKit Go.ChangeShapes Go.WideShapes
set_option linter.unusedVariables false
set_option linter.unusedSimpArgs false

def shBlk (w : World) (P : Program) (g : Nat) (k : IntKind) : Bool := match (w.heap[g]?).bind Obj.row? with
  | some (zero, t) => decide (zero.size = 1) && P.buildable t && decide (P.cellTypes P.depth t = some [t]) && (match P.underlying t with | some (.int k') => decide (k' = k) | _ => false)
  | none => false
/-- Each package-level variable of an integer type has one cell of that type. -/
def shOk (P : Program) : Bool := (List.range P.globals.size).all fun g => match intGl P g with
  | some k => shBlk (begin P (fun _ _ => 0) default).world P g k
  | none => true
theorem GlOk.of_shaped {P : Program} {w : World} (hs : shOk P = true) (h : w.ShapedOpen P) : GlOk P w := by
  intro g k hg
  have hlt : g < P.globals.size := by
    by_cases hlt : g < P.globals.size
    · exact hlt
    · unfold intGl at hg
      rw [Array.getElem?_eq_none (Nat.le_of_not_lt hlt)] at hg
      cases hg
  have h1 := List.all_eq_true.1 hs g (List.mem_range.2 hlt)
  rw [hg] at h1
  dsimp only at h1
  unfold shBlk at h1
  split at h1
  · rename_i zero t hz
    simp only [Bool.and_eq_true, decide_eq_true_eq] at h1
    obtain ⟨⟨⟨hz1, hb⟩, hc⟩, hu⟩ := h1
    have hu : P.underlying t = some (.int k) := by
      split at hu
      · rename_i k' e; rw [e, of_decide_eq_true hu]
      · cases hu
    obtain ⟨cs, hh, hsz, hr⟩ := h.1 g zero t hlt hz
    obtain ⟨ts, hts, _, hall⟩ := hr hb
    rw [hc] at hts
    cases hts
    have h1 : 0 < cs.size := by omega
    obtain ⟨u, hu', hok⟩ := hall 0 cs[0] (by simp [h1])
    have : u = t := by simpa using hu'.symm
    subst this
    unfold Cell.ok at hok
    rw [hu] at hok
    have e : cs = #[cs[0]] := by
      apply Array.ext
      · simp; omega
      · intro i h1 h2
        simp at h2
        subst h2; simp
    cases hv : cs[0] <;> rw [hv] at hok <;> simp at hok
    case int k' n =>
      obtain ⟨rfl, hk⟩ := hok
      refine ⟨n, u, ?_, by rw [hh, e, hv]⟩
      exact hk
  · cases h1

variable {H : Type} {enc : TypeId × Value → H}
/-- As the kit's, the world's shape handed on. -/
theorem handed_of_change {a : Assume} {C : Checked} {os : Os} {f : FuncId} {fn : Func} {s : ChangeSpec} {conds : List PathCond} {apart fresh handsOn again : Bool} {X : World → Array Value → Prop}
    (hX : ∀ (w w' : World) (args : Array Value), w.heap = w'.heap → X w args → X w' args)
    (own : ownKnob C.prog.godebug = none) (started : os.Started) (noInit : C.prog.inits.idxOf? f = none) (hfn : C.prog.funcs[f]? = some fn)
    (witness : ∃ (w : World) (tape : Tape) (i : Input), w.os = os ∧ (w.forCall tape i).Shaped C.prog ∧ i.vars = [] ∧ Input.okWide C.prog (w.forCall tape i) .any w.heap.size f i ∧
      ((s.pre enc C.prog fn conds apart (w.forCall tape i).memory i.args ∧ X (w.forCall tape i).memory i.args) ∧ sizedMet enc C.prog fn (OpenSpec.ofChange s) apart (w.forCall tape i).memory i.args) ∧ a.holds C.prog (lone (Frame.enter C.prog f i.args .normal) [] (w.forCall tape i)))
    (contract : ∀ (W : World) (base : Nat) (args : Array Value) (ds gs : List (DataW H)) (before : List MemPlace), W.ShapedOpen C.prog →
      (∀ (j : Nat) t v, fn.params[j]? = some t → args[j]? = some v → Value.okWide C.prog W .any base t v) →
      DataW.Whole enc C.prog fn.params.toList s.vars apart W args.toList ds gs before →
      Calls C.prog f args W fun e W' => ∃ v, e = .returned v ∧ s.post enc C.prog fn apart fresh handsOn again W args v W') :
    ReturnsInHanded a C os f .any (fun w args => (s.pre enc C.prog fn conds apart w args ∧ X w args) ∧ sizedMet enc C.prog fn (OpenSpec.ofChange s) apart w args) (s.post enc C.prog fn apart fresh handsOn again) := by
  refine returnsInHanded_of_calls own started noInit witness ?_
  intro w tape i _ hsh _ hok hpre hholds
  obtain ⟨_, _, _, fn', hfn', _, _, _, _, hval⟩ := hok
  have e : fn' = fn := Option.some.inj (hfn'.symm.trans hfn)
  subst e
  obtain ⟨⟨⟨ds, gs, before, hw, hc⟩, hx⟩, hz⟩ := hpre
  have hw' := DataW.Whole.of_heap (w' := w.forCall tape i) (by rfl) hw
  refine (contract (w.forCall tape i) w.heap.size i.args ds gs before hsh hval hw').mono fun e W' ⟨v, he, hp⟩ => ?_
  subst he
  exact ChangeSpec.post_blind hp
end Go.Fv
