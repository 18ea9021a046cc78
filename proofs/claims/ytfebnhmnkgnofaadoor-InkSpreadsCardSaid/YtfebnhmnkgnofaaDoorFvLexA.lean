/-
  A part of the proof of the claim: walks over the program's functions and the plain laws that these need. No condition of its own.
-/
import Derived.Test.YtfebnhmnkgnofaaDoorFvLex
namespace Go.Fv
open Go.RowKit
set_option linter.unusedVariables false
set_option linter.unusedSimpArgs false
set_option linter.unnecessarySimpa false

section
variable {P : Program} {w0 : World} {T0 : Nat → Prop} {ops : Array Oper}

def envIn (env1 env : List (Nat × AV)) : Prop := ∀ r x, lk env1 r = some x → x = .dead ∨ lk env r = some x ∨ lk env r = some (.opt true x)

theorem RepM.restrict {H : List (AV × Value)} {s : S} {a : Act} {w : World} {m : Nat → Value} (h : RepM w0 T0 H s a w m) {env1 : List (Nat × AV)} (he : envIn env1 s.env) : RepM w0 T0 H { s with env := env1 } a w m :=
  { size := h.size, nodef := h.nodef, below := h.below, held := h.held, rows := h.rows, sep := h.sep,
    env := by
      intro r v hv
      rcases he r v hv with rfl | hx | hx
      · exact .dead _
      · exact h.env r v hx
      · have := h.env r _ hx
        cases this with
        | opt _ _ _ _ h1 _ => exact h1 rfl }

theorem OpSem.frame {o : Oper} {s : S} {env1 : List (Nat × AV)} {v : AV} {R : List (Nat × Item)} {N : Nat} (h : OpSem P w0 T0 o { s with env := env1 } (fun r s' => r = v ∧ s'.rows = R ∧ s'.next = N)) (he : envIn env1 s.env) :
    OpSem P w0 T0 o s (fun r s' => r = v ∧ s' = { s with rows := R, next := N }) := by
  intro H a w next Q ⟨m, hm⟩ hn
  let E : List (AV × Value) := s.env.map fun p => (s.get p.1, a.tmps.getD p.1 undef)
  have hE : ∀ r x, lk s.env r = some x → (x, a.tmps.getD r undef) ∈ E := by
    intro r x hx
    have : ∀ l : List (Nat × AV), lk l r = some x → ∃ p, p ∈ l ∧ p.1 = r := by
      intro l
      induction l with
      | nil => intro h; simp [lk] at h
      | cons q l ih =>
        intro h
        simp only [lk] at h
        split at h
        · rename_i e; exact ⟨q, .head _, e⟩
        · obtain ⟨p, hp, e⟩ := ih h; exact ⟨p, .tail _ hp, e⟩
    obtain ⟨p, hp, e⟩ := this _ hx
    refine List.mem_map.2 ⟨p, hp, ?_⟩
    subst e
    simp [S.get, hx]
  have hm1 : RepM w0 T0 (E ++ H) { s with env := env1 } a w m := by
    have h1 := hm.restrict he
    refine { h1 with held := ?_ }
    intro p hp
    rcases List.mem_append.1 hp with hp | hp
    · obtain ⟨q, hq, rfl⟩ := List.mem_map.1 hp
      show Rv _ (s.get q.1) _
      simp only [S.get]
      cases hl : lk s.env q.1 with
      | none => exact .dead _
      | some x => exact hm.env _ _ hl
    · exact hm.held p hp
  refine h (E ++ H) a w next Q ⟨m, hm1⟩ ?_
  rintro r s' val w' ⟨rfl, hr, hx⟩ ⟨m', hm'⟩
  refine hn _ _ val w' ⟨rfl, rfl⟩ ⟨m', ?_⟩
  subst hr; subst hx
  refine { size := hm.size, nodef := hm'.nodef, below := hm'.below, rows := hm'.rows, sep := hm'.sep, env := ?_, held := ?_ }
  · intro r x hx
    exact hm'.held _ (List.mem_cons_of_mem _ (List.mem_append_left _ (hE r x hx)))
  · intro p hp
    rcases List.mem_cons.1 hp with rfl | hp
    · exact hm'.held _ (.head _)
    · exact hm'.held p (List.mem_cons_of_mem _ (List.mem_append_right _ hp))

theorem onlyE_in (s : S) : ∀ l : List Operand, envIn (onlyE s l) s.env
  | [] => by intro r x h; simp [onlyE, lk] at h
  | .tmp t :: l => by
    intro r x h
    simp only [onlyE, lk] at h
    split at h
    · rename_i e; subst e; cases h
      simp only [S.get]
      cases hl : lk s.env t with
      | none => exact .inl rfl
      | some y => exact .inr (.inl rfl)
    · exact onlyE_in s l r x h
  | .const _ :: l => by intro r x h; exact onlyE_in s l r x h
  | .func _ :: l => by intro r x h; exact onlyE_in s l r x h
  | .global _ :: l => by intro r x h; exact onlyE_in s l r x h
theorem onlyP_in (s : S) : ∀ l : List Operand, peelC s l = true → envIn (onlyP s l) s.env
  | [], _ => by intro r x h; simp [onlyP, lk] at h
  | .tmp t :: l, hc => by
    intro r x h
    simp only [peelC] at hc
    simp only [onlyP, lk] at h
    split at h
    · rename_i e; subst e; cases h
      cases hg : s.get t with
      | opt c v =>
        rw [hg] at hc
        simp only [Bool.and_eq_true] at hc
        simp only [S.get] at hg
        cases hl : lk s.env t with
        | none => rw [hl] at hg; cases hg
        | some y => rw [hl] at hg; simp only at hg; subst hg; rw [hc.1]; exact .inr (.inr rfl)
      | _ =>
        simp only [S.get] at hg
        cases hl : lk s.env t with
        | none => rw [hl] at hg; simp only at hg; first | (cases hg; done) | (cases hg; exact .inl rfl)
        | some y => rw [hl] at hg; simp only at hg; subst hg; exact .inr (.inl rfl)
    · refine onlyP_in s l ?_ r x h
      split at hc
      · simp only [Bool.and_eq_true] at hc; exact hc.2
      · exact hc
  | .const _ :: l, hc => by intro r x h; exact onlyP_in s l (by simpa [peelC] using hc) r x h
  | .func _ :: l, hc => by intro r x h; exact onlyP_in s l (by simpa [peelC] using hc) r x h
  | .global _ :: l, hc => by intro r x h; exact onlyP_in s l (by simpa [peelC] using hc) r x h

theorem onlyE_congr {s s' : S} : ∀ l : List Operand, (∀ t, .tmp t ∈ l → s'.get t = s.get t) → onlyE s' l = onlyE s l
  | [], _ => rfl
  | .tmp t :: l, h => by simp only [onlyE]; rw [h t (.head _), onlyE_congr l fun t ht => h t (.tail _ ht)]
  | .const _ :: l, h => by simp only [onlyE]; exact onlyE_congr l fun t ht => h t (.tail _ ht)
  | .func _ :: l, h => by simp only [onlyE]; exact onlyE_congr l fun t ht => h t (.tail _ ht)
  | .global _ :: l, h => by simp only [onlyE]; exact onlyE_congr l fun t ht => h t (.tail _ ht)
theorem onlyP_congr {s s' : S} : ∀ l : List Operand, (∀ t, .tmp t ∈ l → s'.get t = s.get t) → onlyP s' l = onlyP s l ∧ peelC s' l = peelC s l
  | [], _ => ⟨rfl, rfl⟩
  | .tmp t :: l, h => by simp only [onlyP, peelC]; rw [h t (.head _), (onlyP_congr l fun t ht => h t (.tail _ ht)).1, (onlyP_congr l fun t ht => h t (.tail _ ht)).2]; exact ⟨rfl, rfl⟩
  | .const _ :: l, h => by simp only [onlyP, peelC]; exact onlyP_congr l fun t ht => h t (.tail _ ht)
  | .func _ :: l, h => by simp only [onlyP, peelC]; exact onlyP_congr l fun t ht => h t (.tail _ ht)
  | .global _ :: l, h => by simp only [onlyP, peelC]; exact onlyP_congr l fun t ht => h t (.tail _ ht)

/-- What one operation of the region gives, wherever it comes. -/
def QS (P : Program) (w0 : World) (T0 : Nat → Prop) (ops : Array Oper) (o : Oper) (n : Nat) (get : Nat → AV) (h h' : HpS) (v : AV) : Prop :=
  ∀ env, (∀ r, r ∈ o.looksAt ops → S.get ⟨n, env, [], 0⟩ r = get r) →
    ∀ (H : List (AV × Value)) (a : Act) (w : World) (K : Act → World → Prop) (Qx : Exit → Act → World → Prop), Rep w0 T0 H ⟨n, env, h.1, h.2⟩ a w →
      (∀ val w', Rep w0 T0 ((v, val) :: H) ⟨n, env, h'.1, h'.2⟩ a w' → K (a.put o.dst val) w') →
      if Region.wanted o (yielded ops a.tmps) = true then o.wp P a w K Qx else K (a.put o.dst undef) w

theorem gd_none {s : S} {o : Oper} (h : gd ops s o = some none) : o.guard = none := by
  unfold gd at h
  split at h
  · assumption
  · split at h
    · split at h <;> simp at h
    · simp at h

theorem gd_wanted {H : List (AV × Value)} {s : S} {o : Oper} {c : Bool} (h : gd ops s o = some (some c)) {a : Act} {w : World} (hr : Rep w0 T0 H s a w) : Region.wanted o (yielded ops a.tmps) = c := by
  unfold gd at h
  cases hg : o.guard with
  | none => rw [hg] at h; simp at h
  | some jw =>
    obtain ⟨j, want⟩ := jw
    rw [hg] at h
    dsimp only at h
    cases hd : (ops[j]?).bind (·.dst) with
    | none => rw [hd] at h; simp at h
    | some r =>
      rw [hd] at h
      dsimp only at h
      have hslot : ∀ x, s.get r = x → x ≠ .dead → lk s.env r = some x := by
        intro x hx hne
        simp only [S.get] at hx
        cases hl : lk s.env r with
        | none => rw [hl] at hx; exact absurd hx.symm hne
        | some y => rw [hl] at hx; exact congrArg some hx
      have hyield : ∀ b, a.tmps.getD r undef = .bool b → yielded ops a.tmps j = some b := by
        intro b hvv
        have h1 : a.tmps[r]? = some (.bool b) := by
          rw [Array.getD_eq_getD_getElem?] at hvv
          cases hq : a.tmps[r]? with
          | none => rw [hq] at hvv; simp [undef] at hvv
          | some y => rw [hq] at hvv; simpa using hvv
        simp [yielded, hd, h1]
      have hyno : a.tmps.getD r undef = undef → yielded ops a.tmps j = none := by
        intro hvv
        cases hq : a.tmps[r]? with
        | none => simp [yielded, hd, hq]
        | some y =>
          rw [Array.getD_eq_getD_getElem?, hq] at hvv
          have : y = undef := by simpa using hvv
          subst this
          simp [yielded, hd, hq, undef]
      obtain ⟨m, hm⟩ := hr
      split at h
      · rename_i b hb
        have hl := hslot _ hb (by simp)
        have hv := hm.env r _ hl
        generalize hvv : a.tmps.getD r undef = vv at hv
        cases hv
        have hy := hyield b hvv
        simp only [Option.some.injEq] at h
        subst h
        cases want <;> cases b <;> simp [Region.wanted, hg, hy]
      · rename_i c b hb
        have hl := hslot _ hb (by simp)
        have hv := hm.env r _ hl
        simp only [Option.some.injEq] at h
        subst h
        cases hv with
        | opt _ _ _ _ h1 h2 =>
          cases c with
          | true =>
            have h1' := h1 rfl
            generalize hvv : a.tmps.getD r undef = vv at h1'
            cases h1'
            have hy := hyield b hvv
            cases want <;> cases b <;> simp [Region.wanted, hg, hy]
          | false =>
            have hy := hyno (h2 rfl)
            cases want <;> simp [Region.wanted, hg, hy]
      · simp at h

theorem gd_congr {s s' : S} {o : Oper} (h : ∀ r, r ∈ o.looksAt ops → s'.get r = s.get r) : gd ops s' o = gd ops s o := by
  unfold gd
  cases hg : o.guard with
  | none => rfl
  | some jw =>
    obtain ⟨j, want⟩ := jw
    dsimp only
    cases hd : (ops[j]?).bind (·.dst) with
    | none => rfl
    | some r =>
      dsimp only
      rw [h r (by simp [Oper.looksAt, hg, hd])]

theorem QS.plain {o : Oper} {s : S} {h h' : HpS} {v : AV} (hg : o.guard = none) (hop : ∀ env, (∀ r, r ∈ o.looksAt ops → S.get ⟨s.n, env, [], 0⟩ r = s.get r) → OpSem P w0 T0 o ⟨s.n, env, h.1, h.2⟩ (fun r s' => r = v ∧ s' = ⟨s.n, env, h'.1, h'.2⟩)) :
    QS P w0 T0 ops o s.n s.get h h' v := by
  intro env he H a w K Qx hr hk
  rw [if_pos (by simp [Region.wanted, hg])]
  refine hop env he H a w K Qx hr ?_
  rintro r s' val w' ⟨rfl, rfl⟩ hr'
  exact hk val w' hr'

theorem QS.guarded {o : Oper} {s : S} {h h' : HpS} {v : AV} {c : Bool} (hg : gd ops s o = some (some c))
    (hop : c = true → ∀ env, (∀ r, r ∈ o.looksAt ops → S.get ⟨s.n, env, [], 0⟩ r = s.get r) → OpSem P w0 T0 o ⟨s.n, env, h.1, h.2⟩ (fun r s' => r = v ∧ s' = ⟨s.n, env, h'.1, h'.2⟩))
    (hno : c = false → h' = h ∧ Fv.below h.2 v = true) : QS P w0 T0 ops o s.n s.get h h' (.opt c v) := by
  intro env he H a w K Qx hr hk
  have hgd : gd ops ⟨s.n, env, h.1, h.2⟩ o = some (some c) := by rw [← hg]; exact gd_congr he
  rw [gd_wanted hgd hr]
  cases c with
  | true =>
    simp only [if_true]
    refine hop rfl env he H a w K Qx hr ?_
    rintro r s' val w' ⟨rfl, rfl⟩ ⟨m', hm'⟩
    have hv := hm'.held _ (.head _)
    exact hk val w' ⟨m', hm'.unhold.hold (.opt true _ val hv.ids (fun _ => hv) (fun e => by cases e))⟩
  | false =>
    obtain ⟨rfl, hb⟩ := hno rfl
    simp only [Bool.false_eq_true, if_false]
    obtain ⟨m, hm⟩ := hr
    exact hk undef w ⟨m, hm.hold (.opt false v undef hb (fun e => by cases e) (fun _ => rfl))⟩

theorem qVc_opE {o : Oper} {s : S} (hl : ∀ t, .tmp t ∈ rOps o.op → t ∈ o.looksAt ops) {h : HpS} {R : List (Nat × Item)} {N : Nat} {v : AV}
    (hv : vcOp P w0 T0 o ⟨s.n, onlyE s (rOps o.op), h.1, h.2⟩ (fun r s' => r = v ∧ s'.rows = R ∧ s'.next = N)) :
    ∀ env, (∀ r, r ∈ o.looksAt ops → S.get ⟨s.n, env, [], 0⟩ r = s.get r) → OpSem P w0 T0 o ⟨s.n, env, h.1, h.2⟩ (fun r s' => r = v ∧ s' = ⟨s.n, env, R, N⟩) := by
  intro env he
  have e : onlyE ⟨s.n, env, h.1, h.2⟩ (rOps o.op) = onlyE s (rOps o.op) := onlyE_congr _ fun t ht => he t (hl t ht)
  have := vcOp_sound hv
  rw [← e] at this
  exact this.frame (s := ⟨s.n, env, h.1, h.2⟩) (onlyE_in _ _)
theorem qVc_opP {o : Oper} {s : S} (hl : ∀ t, .tmp t ∈ rOps o.op → t ∈ o.looksAt ops) {h : HpS} {R : List (Nat × Item)} {N : Nat} {v : AV} (hc : peelC s (rOps o.op) = true)
    (hv : vcOp P w0 T0 o ⟨s.n, onlyP s (rOps o.op), h.1, h.2⟩ (fun r s' => r = v ∧ s'.rows = R ∧ s'.next = N)) :
    ∀ env, (∀ r, r ∈ o.looksAt ops → S.get ⟨s.n, env, [], 0⟩ r = s.get r) → OpSem P w0 T0 o ⟨s.n, env, h.1, h.2⟩ (fun r s' => r = v ∧ s' = ⟨s.n, env, R, N⟩) := by
  intro env he
  have e := onlyP_congr (s := s) (s' := ⟨s.n, env, h.1, h.2⟩) (rOps o.op) fun t ht => he t (hl t ht)
  have := vcOp_sound hv
  rw [← e.1] at this
  exact this.frame (s := ⟨s.n, env, h.1, h.2⟩) (onlyP_in _ _ (by rw [e.2]; exact hc))
theorem gPick_op {o : Oper} {s : S} (hl : ∀ t, .tmp t ∈ rOps o.op → t ∈ o.looksAt ops) {h : HpS} {R : List (Nat × Item)} {N : Nat} {pre : Prop} {b : Bool} (hg : gPick ⟨s.n, onlyE s (rOps o.op), R, N⟩ o.op = some (pre, b)) (hp : pre) (hok : pickOk o.op) :
    ∀ env, (∀ r, r ∈ o.looksAt ops → S.get ⟨s.n, env, [], 0⟩ r = s.get r) → OpSem P w0 T0 o ⟨s.n, env, h.1, h.2⟩ (fun r s' => r = .bool b ∧ s' = ⟨s.n, env, h.1, h.2⟩) := by
  intro env he
  have e : onlyE ⟨s.n, env, h.1, h.2⟩ (rOps o.op) = onlyE s (rOps o.op) := onlyE_congr _ fun t ht => he t (hl t ht)
  have hg' : gPick ⟨s.n, onlyE s (rOps o.op), h.1, h.2⟩ o.op = some (pre, b) := hg
  intro H a w next Q ⟨m, hm⟩ hn
  have hm1 := hm.restrict (onlyE_in ⟨s.n, env, h.1, h.2⟩ (rOps o.op))
  rw [e] at hm1
  have hrun := gPick_sound (P := P) hg' hp hok ⟨m, hm1⟩
  unfold Oper.wp
  rw [hrun]
  exact hn _ _ (.bool b) w ⟨rfl, rfl⟩ ⟨m, hm.hold (.bool b)⟩
end
end Go.Fv
