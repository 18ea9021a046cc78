/-
  A part of the proof of the claim: walks over the program's functions and the plain laws that these need. No condition of its own.
-/
import Derived.Test.YthhdmejmdjhbkaaGreatDoorFvPart11
import Derived.Test.YthhdmejmdjhbkaaGreatDoorFvPart6
import Derived.Shelf.Vars
import Derived.Handed
/-
  What arrives: structs, field by field.
-/
namespace Go.Fv
set_option linter.unusedSectionVars false
open Go.RowKit
set_option linter.unusedVariables false
set_option linter.unusedSimpArgs false
section
variable {H : Type} {enc : TypeId × Value → H} {P : Program} {w : World} {t : TypeId} {cs : List Value} {x : DataW H × List MemPlace}
theorem Rd.at {fs : Array Field} (ht : P.underlying t = some (.struct fs)) (h : Rd enc P w t cs x) (i : Nat) (f : Field) (hf : fs[i]? = some f) (o n : Nat) (ho : f.offset = o) (hn : P.cellsOf f.type = n) : ∃ y, Rd enc P w f.type ((cs.drop o).take n) y := by
  obtain ⟨_, xs, _, _, hx⟩ := h.fields ht
  obtain ⟨y, _, hy⟩ := hx i f hf
  rw [ho, hn] at hy
  exact ⟨y, hy⟩
theorem Rd.len {fs : Array Field} (ht : P.underlying t = some (.struct fs)) (h : Rd enc P w t cs x) : cs.length = P.cellsOf t := (h.fields ht).1
theorem cut2 {α : Type} (l : List α) (a b : Nat) (h : l.length = a + b) : l = (l.drop 0).take a ++ (l.drop a).take b := by
  rw [List.drop_zero]
  have : (l.drop a).take b = l.drop a := List.take_of_length_le (by simp; omega)
  rw [this, List.take_append_drop]
theorem cut3 {α : Type} (l : List α) (a b c : Nat) (h : l.length = a + b + c) : l = (l.drop 0).take a ++ ((l.drop a).take b ++ (l.drop (a + b)).take c) := by
  have := cut2 (l.drop a) b c (by simp; omega)
  simp only [List.drop_drop, Nat.add_zero] at this
  rw [← this, List.drop_zero, List.take_append_drop]
/-- A struct of two fields. -/
theorem Rd.s2 {f0 f1 : Field} (ht : P.underlying t = some (.struct #[f0, f1])) (a b : Nat) (hc : P.cellsOf t = a + b) (o : f0.offset = 0 ∧ f1.offset = a) (c : P.cellsOf f0.type = a ∧ P.cellsOf f1.type = b)
    {α β : Type} {av : α → List AV} {bv : β → List AV} (h0 : ∀ cs x, Rd enc P w f0.type cs x → ∃ l, RvL (cIn w) (av l) cs) (h1 : ∀ cs x, Rd enc P w f1.type cs x → ∃ l, RvL (cIn w) (bv l) cs) (h : Rd enc P w t cs x) :
    ∃ l m, RvL (cIn w) (av l ++ bv m) cs := by
  obtain ⟨y0, r0⟩ := h.at ht 0 f0 rfl _ _ o.1 c.1
  obtain ⟨y1, r1⟩ := h.at ht 1 f1 rfl _ _ o.2 c.2
  obtain ⟨l, v0⟩ := h0 _ _ r0
  obtain ⟨m, v1⟩ := h1 _ _ r1
  refine ⟨l, m, ?_⟩
  rw [cut2 cs a b (by rw [h.len ht, hc])]
  exact v0.app v1
/-- A struct of three fields. -/
theorem Rd.s3 {f0 f1 f2 : Field} (ht : P.underlying t = some (.struct #[f0, f1, f2])) (a b d : Nat) (hc : P.cellsOf t = a + b + d) (o : f0.offset = 0 ∧ f1.offset = a ∧ f2.offset = a + b) (c : P.cellsOf f0.type = a ∧ P.cellsOf f1.type = b ∧ P.cellsOf f2.type = d)
    {α β γ : Type} {av : α → List AV} {bv : β → List AV} {gv : γ → List AV} (h0 : ∀ cs x, Rd enc P w f0.type cs x → ∃ l, RvL (cIn w) (av l) cs) (h1 : ∀ cs x, Rd enc P w f1.type cs x → ∃ l, RvL (cIn w) (bv l) cs) (h2 : ∀ cs x, Rd enc P w f2.type cs x → ∃ l, RvL (cIn w) (gv l) cs) (h : Rd enc P w t cs x) :
    ∃ l m n, RvL (cIn w) (av l ++ (bv m ++ gv n)) cs := by
  obtain ⟨y0, r0⟩ := h.at ht 0 f0 rfl _ _ o.1 c.1
  obtain ⟨y1, r1⟩ := h.at ht 1 f1 rfl _ _ o.2.1 c.2.1
  obtain ⟨y2, r2⟩ := h.at ht 2 f2 rfl _ _ o.2.2 c.2.2
  obtain ⟨l, v0⟩ := h0 _ _ r0
  obtain ⟨m, v1⟩ := h1 _ _ r1
  obtain ⟨n, v2⟩ := h2 _ _ r2
  refine ⟨l, m, n, ?_⟩
  rw [cut3 cs a b d (by rw [h.len ht, hc])]
  exact v0.app (v1.app v2)
theorem Rd.int' {k : IntKind} (ht : P.underlying t = some (.int k)) (h : Rd enc P w t cs x) : ∃ n : Int, RvL (cIn w) [.int k n] cs := by obtain ⟨n, _, h⟩ := h.int ht; exact ⟨n, h⟩
theorem Rd.str' (ht : P.underlying t = some .string) (h : Rd enc P w t cs x) : ∃ n : List UInt8, RvL (cIn w) [.str n] cs := by obtain ⟨n, _, h⟩ := h.str ht; exact ⟨n, h⟩
end
end Go.Fv

/-
  What a row's first world gives of package-level integers.
-/
namespace Go.Fv
set_option linter.unusedSectionVars false
open Go.RowKit Go.ChangeShapes Go.WideShapes
set_option linter.unusedVariables false
set_option linter.unusedSimpArgs false

def shBlk (w : World) (P : Program) (g : Nat) (k : IntKind) : Bool := match (w.heap[g]?).bind Obj.row? with
  | some (zero, t) => decide (zero.size = 1) && P.buildable t && decide (P.cellTypes P.depth t = some [t]) && (match P.underlying t with | some (.int k') => decide (k' = k) | _ => false)
  | none => false
/-- Each package-level variable of an integer type has one cell of that type. -/
def shOkT (P : Program) : Bool := (List.range P.globals.size).all fun g => match intGl P g with
  | some k => shBlk (begin P (fun _ _ => 0) default).world P g k
  | none => true
/-- .. and there is no table. -/
def shOk (P : Program) : Bool := shOkT P && (List.range P.globals.size).all fun g => !tabGl P g
theorem GlOk.of_shapedT {P : Program} {w : World} (hs : shOkT P = true) (h : w.ShapedOpen P) (htab : ∀ g, tabGl P g = true → ∃ ob, w.heap[g]? = some ob ∧ GkAt .tab ob) : GlOk P w := by
  suffices hI : ∀ g k, intGl P g = some k → ∃ (n : Int) (t : TypeId), InK k n ∧ w.heap[g]? = some (.cells #[.int k n] t (0, 0)) by
    intro g k hg
    unfold glK at hg
    split at hg
    · rename_i k' hk
      cases hg
      obtain ⟨n, t, h1, h2⟩ := hI g k' hk
      exact ⟨_, h2, n, t, h1, rfl⟩
    · split at hg
      · rename_i ht
        cases hg
        exact htab g ht
      · cases hg
  intro g k hg
  have hlt : g < P.globals.size := by
    by_cases hlt : g < P.globals.size
    · exact hlt
    · unfold intGl at hg
      rw [Array.getElem?_eq_none (Nat.le_of_not_lt hlt)] at hg
      cases hg
  have h1 := List.all_eq_true.1 hs g (List.mem_range.2 hlt)
  rw [hg] at h1
  dsimp only at h1
  unfold shBlk at h1
  split at h1
  · rename_i zero t hz
    simp only [Bool.and_eq_true, decide_eq_true_eq] at h1
    obtain ⟨⟨⟨hz1, hb⟩, hc⟩, hu⟩ := h1
    have hu : P.underlying t = some (.int k) := by
      split at hu
      · rename_i k' e; rw [e, of_decide_eq_true hu]
      · cases hu
    obtain ⟨cs, hh, hsz, hr⟩ := h.1 g zero t hlt hz
    obtain ⟨ts, hts, _, hall⟩ := hr hb
    rw [hc] at hts
    cases hts
    have h1 : 0 < cs.size := by omega
    obtain ⟨u, hu', hok⟩ := hall 0 cs[0] (by simp [h1])
    have : u = t := by simpa using hu'.symm
    subst this
    unfold Cell.ok at hok
    rw [hu] at hok
    have e : cs = #[cs[0]] := by
      apply Array.ext
      · simp; omega
      · intro i h1 h2
        simp at h2
        subst h2; simp
    cases hv : cs[0] <;> rw [hv] at hok <;> simp at hok
    case int k' n =>
      obtain ⟨rfl, hk⟩ := hok
      refine ⟨n, u, ?_, by rw [hh, e, hv]⟩
      exact hk
  · cases h1
theorem GlOk.of_shaped {P : Program} {w : World} (hs : shOk P = true) (h : w.ShapedOpen P) : GlOk P w := by
  unfold shOk at hs
  simp only [Bool.and_eq_true] at hs
  refine GlOk.of_shapedT hs.1 h fun g hg => ?_
  have hlt : g < P.globals.size := by
    by_cases hlt : g < P.globals.size
    · exact hlt
    · unfold tabGl at hg
      rw [Array.getElem?_eq_none (Nat.le_of_not_lt hlt)] at hg
      cases hg
  have := List.all_eq_true.1 hs.2 g (List.mem_range.2 hlt)
  rw [hg] at this
  cases this

variable {H : Type} {enc : TypeId × Value → H}
/-- As the kit's, the world's shape handed on. -/
theorem handed_of_change {a : Assume} {C : Checked} {os : Os} {f : FuncId} {fn : Func} {s : ChangeSpec} {conds : List PathCond} {apart fresh handsOn again : Bool} {X : World → Array Value → Prop}
    (hX : ∀ (w w' : World) (args : Array Value), w.heap = w'.heap → X w args → X w' args)
    (own : ownKnob C.prog.godebug = none) (started : os.Started) (noInit : C.prog.inits.idxOf? f = none) (hfn : C.prog.funcs[f]? = some fn)
    (witness : ∃ (w : World) (tape : Tape) (i : Input), w.os = os ∧ (w.forCall tape i).Shaped C.prog ∧ i.vars = [] ∧ Input.okWide C.prog (w.forCall tape i) .any w.heap.size f i ∧
      ((s.pre enc C.prog fn conds apart (w.forCall tape i).memory i.args ∧ X (w.forCall tape i).memory i.args) ∧ sizedMet enc C.prog fn (OpenSpec.ofChange s) apart (w.forCall tape i).memory i.args) ∧ a.holds C.prog (lone (Frame.enter C.prog f i.args .normal) [] (w.forCall tape i)))
    (contract : ∀ (W : World) (base : Nat) (args : Array Value) (ds gs : List (DataW H)) (before : List MemPlace), W.ShapedOpen C.prog →
      (∀ (j : Nat) t v, fn.params[j]? = some t → args[j]? = some v → Value.okWide C.prog W .any base t v) →
      DataW.Whole enc C.prog fn.params.toList s.vars apart W args.toList ds gs before →
      Calls C.prog f args W fun e W' => ∃ v, e = .returned v ∧ s.post enc C.prog fn apart fresh handsOn again W args v W') :
    ReturnsInHanded a C os f .any (fun w args => (s.pre enc C.prog fn conds apart w args ∧ X w args) ∧ sizedMet enc C.prog fn (OpenSpec.ofChange s) apart w args) (s.post enc C.prog fn apart fresh handsOn again) := by
  refine returnsInHanded_of_calls own started noInit witness ?_
  intro w tape i _ hsh _ hok hpre hholds
  obtain ⟨_, _, _, fn', hfn', _, _, _, _, hval⟩ := hok
  have e : fn' = fn := Option.some.inj (hfn'.symm.trans hfn)
  subst e
  obtain ⟨⟨⟨ds, gs, before, hw, hc⟩, hx⟩, hz⟩ := hpre
  have hw' := DataW.Whole.of_heap (w' := w.forCall tape i) (by rfl) hw
  refine (contract (w.forCall tape i) w.heap.size i.args ds gs before hsh hval hw').mono fun e W' ⟨v, he, hp⟩ => ?_
  subst he
  exact ChangeSpec.post_blind hp
end Go.Fv
