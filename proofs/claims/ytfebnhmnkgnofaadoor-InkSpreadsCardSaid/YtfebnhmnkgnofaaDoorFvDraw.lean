/-
  Regions whose order is drawn: every order is walked, moves first.
-/
import Derived.Test.YtfebnhmnkgnofaaDoorFvCode
namespace Go.Fv
open Go.RowKit
set_option linter.unusedVariables false
set_option linter.unusedSimpArgs false
set_option linter.unnecessarySimpa false

section
variable {P : Program} {w0 : World} {T0 : Nat → Prop} {b0 : Nat} {H : List (AV × Value)}

theorem vcTree_sound {ops : Array Oper} (hs : Region.noSelect ops = true) {Q : S → Prop} : ∀ (t : DTree) (n : Nat) (listed : Array Bool) (q : Option (List Nat)), treeOk ops t n listed q = true → ∀ (s : S) (a : Act) (w : World),
    vcTree P w0 T0 ops t s Q → Rep w0 T0 H s a w →
    match q with
    | none => wpAny P .any ops (fun e a' w' => e = .normal ∧ ∃ s', Q s' ∧ Rep w0 T0 H s' a' w') n listed a w
    | some l => ∃ n', n = n' + 1 ∧ ∀ i, i ∈ l → wpOp P ops (fun e a' w' => e = .normal ∧ ∃ s', Q s' ∧ Rep w0 T0 H s' a' w') i (wpAny P .any ops (fun e a' w' => e = .normal ∧ ∃ s', Q s' ∧ Rep w0 T0 H s' a' w') n' (listed.setIfInBounds i true)) a w := by
  intro t
  induction t with
  | done =>
    intro n listed q hok s a w h hr
    cases q with
    | none =>
      have hn : Region.ready .any ops listed = [] := by
        cases n <;> simpa [treeOk, List.isEmpty_iff] using hok
      exact wpAny_done hn ⟨rfl, s, h, hr⟩ n
    | some l => cases n <;> simp [treeOk] at hok
  | first i t ih =>
    intro n listed q hok s a w h hr
    cases n with
    | zero => cases q <;> simp [treeOk] at hok
    | succ n =>
      cases q with
      | some l => simp [treeOk] at hok
      | none =>
        simp only [treeOk, Bool.and_eq_true] at hok
        obtain ⟨⟨⟨hm, hf⟩, hrd⟩, ht⟩ := hok
        unfold vcTree at h
        cases ho : ops[i]? with
        | none => rw [ho] at h; exact h.elim
        | some o =>
          rw [ho] at h hm
          have hm' : isMove o = true := by simpa using hm
          have hg : o.guard = none := by
            unfold isMove at hm'; split at hm' <;> first | assumption | cases hm'
          have go : ∀ x, (o.op = .move x ∨ o.op = .assign x) → Chk (opndOk x) (vcPut o.dst (s.ev x) s (fun s' => vcTree P w0 T0 ops t s' Q)) →
              wpAny P .any ops (fun e a' w' => e = .normal ∧ ∃ s', Q s' ∧ Rep w0 T0 H s' a' w') (n + 1) listed a w := by
            rintro x hx ⟨hxo, hk⟩
            have hrun : ∀ w, (execOp a.eval o).run P w = .ok (.value (a.eval x)) w := by
              intro w; unfold execOp; rcases hx with hx | hx <;> rw [hx] <;> rfl
            have hy : Yields P ops o (a.eval x) a := .inl ⟨by simp [Region.wanted, hg], hrun⟩
            refine wpAny_take ho hs hf hrd (by rintro c a w ⟨h, _⟩; cases h) hy ?_
            obtain ⟨m, hm⟩ := hr
            obtain ⟨s', h2, hr2⟩ := Rep.put (⟨m, hm.hold (hm.ev x hxo)⟩ : Rep w0 T0 ((s.ev x, a.eval x) :: H) s a w) hk
            exact ih n _ none ht s' _ w h2 hr2
          dsimp only at h
          cases hop : o.op <;> rw [hop] at h <;> first | exact h.elim | skip
          · exact go _ (.inl hop) h
          · exact go _ (.inr hop) h
  | cons i t r iht ihr =>
    intro n listed q hok s a w h hr
    unfold vcTree at h
    cases ho : ops[i]? with
    | none => rw [ho] at h; exact h.elim
    | some o =>
      rw [ho] at h
      obtain ⟨h1, h2⟩ := h
      have one : ∀ n', treeOk ops t n' (listed.setIfInBounds i true) none = true → wpOp P ops (fun e a' w' => e = .normal ∧ ∃ s', Q s' ∧ Rep w0 T0 H s' a' w') i (wpAny P .any ops (fun e a' w' => e = .normal ∧ ∃ s', Q s' ∧ Rep w0 T0 H s' a' w') n' (listed.setIfInBounds i true)) a w := by
        intro n' ht
        unfold wpOp
        rw [ho]
        have := vcGo_sound (Qc := fun e a' w' => e = .normal ∧ ∃ s', Q s' ∧ Rep w0 T0 H s' a' w') h1 hr fun s' a' w' hk hr' => iht n' _ none ht s' a' w' hk hr'
        dsimp only at this ⊢
        split
        · rename_i hw; rw [if_pos hw] at this; exact .inl this
        · rename_i hw; rw [if_neg hw] at this; exact this
      cases n with
      | zero => cases q <;> simp [treeOk] at hok
      | succ n =>
        cases q with
        | none =>
          cases hrd : Region.ready .any ops listed with
          | nil => simp [treeOk, hrd] at hok
          | cons j l =>
            simp only [treeOk, hrd, Bool.and_eq_true, beq_iff_eq] at hok
            obtain ⟨⟨rfl, ht⟩, hrest⟩ := hok
            have := ihr (n + 1) listed (some l) hrest s a w h2 hr
            obtain ⟨n', hn, hall⟩ := this
            cases hn
            refine wpAny_all hrd (by simp) fun k hk => ?_
            cases List.mem_cons.1 hk with
            | inl e => subst e; exact one n ht
            | inr e => exact hall k e
        | some l =>
          cases l with
          | nil => simp [treeOk] at hok
          | cons j l =>
            simp only [treeOk, Bool.and_eq_true, beq_iff_eq] at hok
            obtain ⟨⟨rfl, ht⟩, hrest⟩ := hok
            have := ihr (n + 1) listed (some l) hrest s a w h2 hr
            obtain ⟨n', hn, hall⟩ := this
            cases hn
            refine ⟨n, rfl, fun k hk => ?_⟩
            cases List.mem_cons.1 hk with
            | inl e => subst e; exact one n ht
            | inr e => exact hall k e
  | stop =>
    intro n listed q hok s a w h hr
    cases n <;> cases q <;> simp [treeOk] at hok
    subst hok
    exact ⟨_, rfl, fun i hi => by cases hi⟩

theorem RepM.drawn {s : S} {a : Act} {w : World} {m : Nat → Value} (h : RepM w0 T0 H s a w m) : RepM w0 T0 H s a w.drew m := by
  have hle : CtxLe (ctxOf T0 w0.heap.size m s w) (ctxOf T0 w0.heap.size m s w.drew) :=
    ctxLe_of (Nat.le_refl _) (fun _ _ => rfl) (fun _ _ _ => rfl) fun i it b hi hb _ => ⟨i, it, hi, hb⟩
  exact h.evolve rfl rfl hle h.below.drew (fun i it hi => ⟨(h.rows i it hi).1, (h.rows i it hi).2.mono hle fun _ _ => rfl⟩) h.sep

theorem VcDraw.intro {id : Nat} {ops : Array Oper} {s : S} {Q : S → Prop} (t : DTree) (hm : P.follows .mixedOrders = true) (hs : Region.noSelect ops = true) (ht : treeOk ops t ops.size (Array.replicate ops.size false) none = true)
    (h : vcTree P w0 T0 ops t s Q) : @VcDraw P w0 T0 b0 id ops s ⟨Q⟩ := by
  intro H a w _ hr
  refine wp_region_any hm ?_
  have hr' : Rep w0 T0 H s a { w with drawn := w.drawn + 1 } := by
    obtain ⟨m, hm⟩ := hr
    exact ⟨m, hm.drawn⟩
  exact vcTree_sound hs t _ _ none ht s a _ h hr'
/-- The same, with a join behind it. -/
theorem VcDraw.cut {id : Nat} {ops : Array Oper} {s : S} {Q : S → Prop} (t : DTree) (hm : P.follows .mixedOrders = true) (hs : Region.noSelect ops = true) (ht : treeOk ops t ops.size (Array.replicate ops.size false) none = true) (shape : S)
    (h : vcTree P w0 T0 ops t s (fun s' => Ent w0 T0 b0 s' shape)) (hk : Q shape) : @VcDraw P w0 T0 b0 id ops s ⟨Q⟩ := by
  intro H a w hH hr
  refine wp_mono (VcDraw.intro (b0 := b0) (id := id) t hm hs ht h H a w hH hr) ?_
  rintro e a' w' ⟨he, s', hq, hr'⟩
  exact ⟨he, shape, hk, hq H a' w' hH hr'⟩
end
end Go.Fv
