/-
  A part of the proof of the claim: walks over the program's functions and the plain laws that these need. No condition of its own.
-/
import Derived.Test.YtingcghleidhmaaGreatDoorFvPart9
import Derived.Test.YtingcghleidhmaaGreatDoorFvPart8
import Derived.Test.YtingcghleidhmaaGreatDoorFvPart7
namespace Go.Fv
set_option linter.unusedSectionVars false
open Go.RowKit
set_option linter.unusedVariables false
set_option linter.unusedSimpArgs false
set_option linter.unnecessarySimpa false

theorem mem_accKeep {ks : List Nat} {x : Nat × Acc} (hk : esMem ks x.1 = true) : ∀ {l : List (Nat × Acc)}, x ∈ l → x ∈ accKeep ks l
  | y :: l, h => by
    unfold accKeep
    rcases List.mem_cons.1 h with rfl | h
    · rw [hk]; exact .head _
    · cases esMem ks y.1 with
      | true => exact .tail _ (mem_accKeep hk h)
      | false => exact mem_accKeep hk h
theorem esMem_mem {l : List Nat} {i : Nat} : esMem l i = true ↔ i ∈ l := by
  rw [esMem_eq]; simp

section
variable {P : Program} {w0 : World} {T0 : Bs} {b0 : Nat} {ops : Array Oper} {T : List Nat} {H : List (AV × Value)} [hG : GlB P w0 T0]

theorem redoT_mem {n : Nat} {R : List (Nat × Item)} {N : Nat} {x : Nat × Acc} {l : List (Nat × Acc)} (h : redoT P w0 T0 n R N l) (hx : x ∈ l) : redoC P w0 T0 n x.2 (R, N) := by
  induction l with
  | nil => cases hx
  | cons y l ih =>
    obtain ⟨j, o, g, env, v, ks⟩ := y
    have h1 : redoH P w0 T0 n o g env v R N := h.1
    have h2 : redoT P w0 T0 n R N l := h.2
    rcases List.mem_cons.1 hx with rfl | hx
    · unfold redoH at h1; unfold redoC
      cases g with
      | none => exact h1
      | some c => exact h1
    · exact ih h2 hx

theorem set_getD_self {vs : List AV} {i : Nat} {v : AV} (h : i < vs.length) : (vs.set i v).getD i .dead = v := by
  simp [List.getD_eq_getElem?_getD, h]
theorem set_getD_ne {vs : List AV} {i j : Nat} {v : AV} (h : i ≠ j) : (vs.set i v).getD j .dead = vs.getD j .dead := by
  simp [List.getD_eq_getElem?_getD, List.getElem?_set, h]

theorem putS_get (hok : LexOk ops [] [] T) {s0 s : S} {vs : List AV} {V : Array Bool} {i : Nat} {o : Oper} {v : AV} {R : List (Nat × Item)} {N : Nat} (ho : ops[i]? = some o) (hs : V.size = ops.size) (hl : vs.length = ops.size) (hV : V.getD i false = false) (hg : ∀ r, s.get r = stG ops s0 vs V r) :
    ∀ r, (putS o.dst v ⟨s.n, s.env, R, N⟩).get r = stG ops s0 (vs.set i v) (V.setIfInBounds i true) r := by
  intro r
  have hilt := (Array.getElem?_eq_some_iff.1 ho).1
  have h := stG_put hok (s0 := s0) (vs := vs.set i v) (g := s.get) ho hs (fun r => (hg r).trans (stG_set hV r).symm) r
  rw [set_getD_self (by omega)] at h
  rw [← h]
  unfold putS
  cases o.dst with
  | none => rfl
  | some d => exact get_cons

theorem VInv.quiet (hok : LexOk ops [] [] T) {s0 s : S} {vs : List AV} {V : Array Bool} {Pd : List Nat} {acc acc' : List (Nat × Acc)} {i : Nat} {o : Oper} {v : AV} (hv : VInv P w0 T0 ops s0 vs V Pd acc s) (ho : ops[i]? = some o) (hd : Dp V o) (hV : V.getD i false = false)
    (hq : QS P w0 T0 ops o s.n s.get (s.rows, s.next) (s.rows, s.next) v) (hr : (∀ h, QS P w0 T0 ops o s.n s.get h h v) ∨ ∃ x, (i, x) ∈ acc' ∧ ∀ h, redoC P w0 T0 s.n x h → QS P w0 T0 ops o s.n s.get h h v)
    (hsub : ∀ x, x ∈ acc → x ∈ acc') (hdst : dstOk o.dst s.n) : VInv P w0 T0 ops s0 (vs.set i v) (V.setIfInBounds i true) (i :: Pd) acc' (putS o.dst v s) := by
  have hilt := (Array.getElem?_eq_some_iff.1 ho).1
  have hVs : (V.setIfInBounds i true).getD i false = true := by
    have : i < V.size := by rw [hv.vsize]; exact hilt
    simp [this]
  have hup : ∀ j, V.getD j false = true → (V.setIfInBounds i true).getD j false = true := fun j hj => getD_set_true hj
  have hrows : (putS o.dst v s).rows = s.rows ∧ (putS o.dst v s).next = s.next ∧ (putS o.dst v s).n = s.n := by
    unfold putS; cases o.dst <;> exact ⟨rfl, rfl, rfl⟩
  have conv : ∀ {h h' : HpS}, QS P w0 T0 ops o s.n s.get h h' v → QS P w0 T0 ops o s0.n (stG ops s0 (vs.set i v) V) h h' ((vs.set i v).getD i .dead) := by
    intro h h' hh
    rw [set_getD_self (by rw [hv.vlen]; exact hilt), ← hv.n]
    exact hh.congr fun r _ => by rw [stG_set hV]; exact (hv.sget r).symm
  refine ⟨by simpa using hv.vsize, by simpa using hv.vlen, hv.cl.set ho hd, by rw [hrows.2.2]; exact hv.n, ?_, ?_, ?_⟩
  · exact putS_get hok (R := s.rows) (N := s.next) ho hv.vsize hv.vlen hV hv.sget
  · intro j hj
    rcases List.mem_cons.1 hj with rfl | hj
    · refine ⟨hVs, fun o' ho' => ?_⟩
      rw [ho] at ho'; cases ho'
      refine ⟨V, hv.vsize, hv.cl, hup, hd, hV, ?_, ?_⟩
      · rw [hrows.1, hrows.2.1]; exact conv hq
      · rcases hr with h | ⟨x, hx, h⟩
        · exact .inl fun h' => conv (h h')
        · exact .inr ⟨x, hx, fun h' hc => conv (h h' (by rw [hv.n]; exact hc))⟩
    · obtain ⟨h1, h2⟩ := hv.pd j hj
      have hne : i ≠ j := by rintro rfl; rw [hV] at h1; cases h1
      refine ⟨hup j h1, fun o' ho' => ?_⟩
      obtain ⟨U, u1, u2, u3, u4, u5, u6, u7⟩ := h2 o' ho'
      have hUi : U.getD i false = false := by
        cases hu : U.getD i false with
        | false => rfl
        | true => have := u3 i hu; rw [hV] at this; cases this
      have cv : ∀ {h h' : HpS}, QS P w0 T0 ops o' s0.n (stG ops s0 vs U) h h' (vs.getD j .dead) → QS P w0 T0 ops o' s0.n (stG ops s0 (vs.set i v) U) h h' ((vs.set i v).getD j .dead) := by
        intro h h' hh
        rw [set_getD_ne hne]
        exact hh.congr fun r _ => stG_set hUi r
      refine ⟨U, u1, u2, fun k hk => hup k (u3 k hk), u4, u5, ?_, ?_⟩
      · rw [hrows.1, hrows.2.1]; exact cv u6
      · rcases u7 with h | ⟨x, hx, h⟩
        · exact .inl fun h' => cv (h h')
        · exact .inr ⟨x, hsub _ hx, fun h' hc => cv (h h' hc)⟩
  · intro j oj d hj hoj hdj
    by_cases e : i = j
    · subst e
      rw [ho] at hoj; cases hoj
      rw [hdj] at hdst
      rw [← hv.n]; exact hdst
    · rw [getD_set_ne false e] at hj
      exact hv.put j oj d hj hoj hdj

theorem VInv.eff (hok : LexOk ops [] [] T) {s0 s : S} {vs : List AV} {V : Array Bool} {Pd ks : List Nat} {acc : List (Nat × Acc)} {i : Nat} {o : Oper} {v : AV} {R : List (Nat × Item)} {N : Nat} (hv : VInv P w0 T0 ops s0 vs V Pd acc s) (ho : ops[i]? = some o) (hd : Dp V o) (hV : V.getD i false = false)
    (hks : ∀ j, j ∈ ks → j ∈ Pd) (hre : redoT P w0 T0 s.n R N (accKeep ks acc)) (hdst : dstOk o.dst s.n) : VInv P w0 T0 ops s0 (vs.set i v) (V.setIfInBounds i true) ks (accKeep ks acc) (putS o.dst v ⟨s.n, s.env, R, N⟩) := by
  have hilt := (Array.getElem?_eq_some_iff.1 ho).1
  have hup : ∀ j, V.getD j false = true → (V.setIfInBounds i true).getD j false = true := fun j hj => getD_set_true hj
  have hrows : (putS o.dst v ⟨s.n, s.env, R, N⟩).rows = R ∧ (putS o.dst v ⟨s.n, s.env, R, N⟩).next = N ∧ (putS o.dst v ⟨s.n, s.env, R, N⟩).n = s.n := by
    unfold putS; cases o.dst <;> exact ⟨rfl, rfl, rfl⟩
  refine ⟨by simpa using hv.vsize, by simpa using hv.vlen, hv.cl.set ho hd, by rw [hrows.2.2]; exact hv.n, ?_, ?_, ?_⟩
  · exact putS_get hok ho hv.vsize hv.vlen hV hv.sget
  · intro j hj
    obtain ⟨h1, h2⟩ := hv.pd j (hks j hj)
    have hne : i ≠ j := by rintro rfl; rw [hV] at h1; cases h1
    refine ⟨hup j h1, fun o' ho' => ?_⟩
    obtain ⟨U, u1, u2, u3, u4, u5, u6, u7⟩ := h2 o' ho'
    have hUi : U.getD i false = false := by
      cases hu : U.getD i false with
      | false => rfl
      | true => have := u3 i hu; rw [hV] at this; cases this
    have cv : ∀ {h h' : HpS}, QS P w0 T0 ops o' s0.n (stG ops s0 vs U) h h' (vs.getD j .dead) → QS P w0 T0 ops o' s0.n (stG ops s0 (vs.set i v) U) h h' ((vs.set i v).getD j .dead) := by
      intro h h' hh
      rw [set_getD_ne hne]
      exact hh.congr fun r _ => stG_set hUi r
    refine ⟨U, u1, u2, fun k hk => hup k (u3 k hk), u4, u5, ?_, ?_⟩
    · rw [hrows.1, hrows.2.1]
      rcases u7 with h | ⟨x, hx, h⟩
      · exact cv (h _)
      · have := redoT_mem hre (mem_accKeep (x := (j, x)) (esMem_mem.2 hj) hx)
        rw [hv.n] at this
        exact cv (h _ this)
    · rcases u7 with h | ⟨x, hx, h⟩
      · exact .inl fun h' => cv (h h')
      · exact .inr ⟨x, mem_accKeep (x := (j, x)) (esMem_mem.2 hj) hx, fun h' hc => cv (h h' hc)⟩
  · intro j oj d hj hoj hdj
    by_cases e : i = j
    · subst e
      rw [ho] at hoj; cases hoj
      rw [hdj] at hdst
      rw [← hv.n]; exact hdst
    · rw [getD_set_ne false e] at hj
      exact hv.put j oj d hj hoj hdj

/-- What the tree's step says of a quiet operation. -/
theorem quiet_of (hok : LexOk ops [] [] T) {s : S} {i : Nat} {o : Oper} {t : LTree} {acc : List (Nat × Acc)} {Q : S → Prop} (ho : ops[i]? = some o) (h : vcFork P w0 T0 ops (.quiet i t) acc s Q) :
    ∃ v acc', QS P w0 T0 ops o s.n s.get (s.rows, s.next) (s.rows, s.next) v ∧ ((∀ h, QS P w0 T0 ops o s.n s.get h h v) ∨ ∃ x, (i, x) ∈ acc' ∧ ∀ h, redoC P w0 T0 s.n x h → QS P w0 T0 ops o s.n s.get h h v) ∧
      (∀ x, x ∈ acc → x ∈ acc') ∧ dstOk o.dst s.n ∧ vcFork P w0 T0 ops t acc' (putS o.dst v s) Q := by
  have hrd := hok.reads i o ho
  unfold vcFork at h
  rw [ho] at h
  dsimp only at h
  cases hg : gd ops s o with
  | none => rw [hg] at h; exact h.elim
  | some g =>
    rw [hg] at h
    simp only [gGo] at h
    have gen : ∀ v, qCond P w0 T0 o g s v → dstOk o.dst s.n → vcFork P w0 T0 ops t ((i, ⟨o, g, lxEnv g s (rOps o.op), v, []⟩) :: acc) (putS o.dst (lxPut g v) s) Q → ∃ v acc', QS P w0 T0 ops o s.n s.get (s.rows, s.next) (s.rows, s.next) v ∧ ((∀ h, QS P w0 T0 ops o s.n s.get h h v) ∨ ∃ x, (i, x) ∈ acc' ∧ ∀ h, redoC P w0 T0 s.n x h → QS P w0 T0 ops o s.n s.get h h v) ∧
      (∀ x, x ∈ acc → x ∈ acc') ∧ dstOk o.dst s.n ∧ vcFork P w0 T0 ops t acc' (putS o.dst v s) Q := by
      intro v hA hds hk
      cases g with
      | none =>
        refine ⟨v, _, QS.plain (h := (s.rows, s.next)) (h' := (s.rows, s.next)) (gd_none hg) (qVc_opE (h := (s.rows, s.next)) hrd hA), .inr ⟨_, .head _, fun h hc => QS.plain (h := h) (h' := h) (gd_none hg) (qVc_opE (h := h) hrd ?_)⟩, fun x hx => .tail _ hx, hds, hk⟩
        simp only [redoC, qVc] at hc
        exact hc
      | some c =>
        refine ⟨.opt c v, _, QS.guarded (h := (s.rows, s.next)) (h' := (s.rows, s.next)) hg (fun e => qVc_opP (h := (s.rows, s.next)) hrd (hA.2 e).1 (hA.2 e).2) (fun _ => ⟨rfl, hA.1⟩), .inr ⟨_, .head _, fun h hc => ?_⟩, fun x hx => .tail _ hx, hds, hk⟩
        simp only [redoC, qVc] at hc
        exact QS.guarded (h := h) (h' := h) hg (fun e => qVc_opP (h := h) hrd (hA.2 e).1 (hc.2 e)) (fun _ => ⟨rfl, hc.1⟩)
    unfold qRes at h
    cases hp : gPick ⟨s.n, onlyE s (rOps o.op), s.rows, s.next⟩ o.op with
    | some pb =>
      obtain ⟨pre, b⟩ := pb
      rw [hp] at h
      cases g with
      | none =>
        obtain ⟨⟨h1, h2⟩, h3, h4⟩ := h
        have hall : ∀ h : HpS, QS P w0 T0 ops o s.n s.get h h (.bool b) := fun h => QS.plain (gd_none hg) (gPick_op hrd hp h1 h2)
        exact ⟨_, acc, hall _, .inl hall, fun _ h => h, h3, h4⟩
      | some c =>
        obtain ⟨h1, h3, h4⟩ := h
        have hall : ∀ h : HpS, QS P w0 T0 ops o s.n s.get h h (.opt c (.bool b)) := fun h => QS.guarded hg (fun e => gPick_op hrd hp (h1 e).1 (h1 e).2) (fun _ => ⟨rfl, rfl⟩)
        exact ⟨_, acc, hall _, .inl hall, fun _ h => h, h3, h4⟩
    | none =>
      rw [hp] at h
      dsimp only at h
      cases hv : gVal P ⟨s.n, lxEnv g s (rOps o.op), s.rows, s.next⟩ o.op with
      | some v =>
        rw [hv] at h
        obtain ⟨h1, h3, h4⟩ := h
        exact gen v h1 h3 h4
      | none =>
        rw [hv] at h
        cases g with
        | some c =>
          obtain ⟨v, h1, h3, h4⟩ := (h : @QV ⟨_, _⟩)
          exact gen v h1 h3 h4
        | none =>
          cases hl : isLin o.op with
          | false =>
            rw [hl] at h
            obtain ⟨v, h1, h3, h4⟩ := (h : @QV ⟨_, _⟩)
            exact gen v h1 h3 h4
          | true =>
            rw [hl] at h
            obtain ⟨v, t, ⟨⟨hr, hx⟩, h3, h4⟩, hall⟩ := lin_op hl _ h
            exact gen v (hall _ ⟨rfl, hr, hx⟩) h3 h4

theorem eff_of (hok : LexOk ops [] [] T) {s : S} {i : Nat} {o : Oper} {ks : List Nat} {t r : LTree} {acc : List (Nat × Acc)} {Q : S → Prop} (ho : ops[i]? = some o) (h : vcFork P w0 T0 ops (.eff i ks t r) acc s Q) :
    (∃ v R N, QS P w0 T0 ops o s.n s.get (s.rows, s.next) (R, N) v ∧ redoT P w0 T0 s.n R N (accKeep ks acc) ∧ dstOk o.dst s.n ∧ vcFork P w0 T0 ops t (accKeep ks acc) (putS o.dst v ⟨s.n, s.env, R, N⟩) Q) ∧ vcFork P w0 T0 ops r acc s Q := by
  have hrd := hok.reads i o ho
  unfold vcFork at h
  rw [ho] at h
  dsimp only at h
  refine ⟨?_, h.2⟩
  have h := h.1
  cases hg : gd ops s o with
  | none => rw [hg] at h; exact h.elim
  | some g =>
    rw [hg] at h
    simp only [gGo] at h
    cases g with
    | none =>
      dsimp only at h
      cases hl : isLin o.op with
      | false =>
        rw [hl] at h
        obtain ⟨v, R, N, h1, h2, h3, h4⟩ := (h : @QE ⟨_, _⟩)
        exact ⟨v, R, N, QS.plain (h := (s.rows, s.next)) (h' := (R, N)) (gd_none hg) (qVc_opE (h := (s.rows, s.next)) hrd h1), h2, h3, h4⟩
      | true =>
        rw [hl] at h
        obtain ⟨v, t', ⟨h2, h3, h4⟩, hall⟩ := lin_op hl _ h
        exact ⟨v, t'.rows, t'.next, QS.plain (h := (s.rows, s.next)) (h' := (t'.rows, t'.next)) (gd_none hg) (qVc_opE (h := (s.rows, s.next)) hrd (hall _ ⟨rfl, rfl, rfl⟩)), h2, h3, h4⟩
    | some c =>
      dsimp only at h
      cases c with
      | true =>
        obtain ⟨v, R, N, ⟨hpc, hA⟩, h2, h3, h4⟩ := h.1 rfl
        exact ⟨.opt true v, R, N, QS.guarded (h := (s.rows, s.next)) (h' := (R, N)) hg (fun _ => qVc_opP (h := (s.rows, s.next)) hrd hpc hA) (fun e => by cases e), h2, h3, h4⟩
      | false =>
        obtain ⟨h2, h3, h4⟩ := h.2 rfl
        exact ⟨.opt false (.bool false), s.rows, s.next, QS.guarded (h := (s.rows, s.next)) (h' := (s.rows, s.next)) hg (fun e => by cases e) (fun _ => ⟨rfl, rfl⟩), h2, h3, h4⟩

theorem fork_sound (hok : LexOk ops [] [] T) {s0 : S} {Q : S → Prop} : ∀ t : LTree,
    (∀ V Pd acc s vs, forkOk ops T t true V Pd = true → VInv P w0 T0 ops s0 vs V Pd acc s → vcFork P w0 T0 ops t acc s Q → ∀ fuel L env a w, openN L ops.size = fuel → RInv w0 T0 H ops s0 vs V Pd s L env a w → wpAny P .any ops (fun e a' w' => e = .normal ∧ ∃ s', Q s' ∧ Rep w0 T0 H s' a' w') fuel L a w) ∧
    (∀ V Pd acc s vs, forkOk ops T t false V Pd = true → VInv P w0 T0 ops s0 vs V Pd acc s → vcFork P w0 T0 ops t acc s Q → ∀ i, i ∈ altIds t → ∀ fuel L env a w, RInv w0 T0 H ops s0 vs V Pd s L env a w → ∀ o, ops[i]? = some o → Dp L o → openN L ops.size = fuel + 1 → wpOp P ops (fun e a' w' => e = .normal ∧ ∃ s', Q s' ∧ Rep w0 T0 H s' a' w') i (wpAny P .any ops (fun e a' w' => e = .normal ∧ ∃ s', Q s' ∧ Rep w0 T0 H s' a' w') fuel (L.setIfInBounds i true)) a w) := by
  have inL : ∀ {V L : Array Bool} {Pd : List Nat} {s : S} {vs : List AV} {env : List (Nat × AV)} {a : Act} {w : World}, RInv w0 T0 H ops s0 vs V Pd s L env a w → ∀ {o : Oper}, Dp L o → Dp V o := fun inv o hd e he hb => inv.sub _ (hd e he hb)
  have notL : ∀ {V L : Array Bool} {Pd : List Nat} {s : S} {vs : List AV} {env : List (Nat × AV)} {a : Act} {w : World}, RInv w0 T0 H ops s0 vs V Pd s L env a w → ∀ {i : Nat}, V.getD i false = false → L.getD i false = false := by
    intro V L Pd s vs env a w inv i hi
    cases hL : L.getD i false with
    | false => rfl
    | true => have := inv.sub i hL; rw [hi] at this; cases this
  intro t
  induction t with
  | done =>
    refine ⟨?_, fun V Pd acc s vs hf => by simp [forkOk] at hf⟩
    intro V Pd acc s vs hf hv h
    simp only [forkOk, Bool.true_and] at hf
    have hall : ∀ i, i < ops.size → V.getD i false = true := fun i hi => List.all_eq_true.1 hf i (List.mem_range.2 hi)
    refine fork_run hok hv (fun _ => h) fun fuel L env a w inv i o ho hd hV => ?_
    rw [hall i (Array.getElem?_eq_some_iff.1 ho).1] at hV; cases hV
  | none =>
    exact ⟨fun V Pd acc s vs hf => by simp [forkOk] at hf, fun V Pd acc s vs hf hv h i hi => by cases hi⟩
  | quiet i t ih =>
    refine ⟨?_, fun V Pd acc s vs hf => by simp [forkOk] at hf⟩
    intro V Pd acc s vs hf hv h fuel L env a w hfu inv
    simp only [forkOk, Bool.true_and, Bool.and_eq_true, decide_eq_true_eq, Bool.not_eq_true'] at hf
    obtain ⟨⟨⟨hi, hV⟩, hdp⟩, hf⟩ := hf
    obtain ⟨o, ho⟩ : ∃ o, ops[i]? = some o := ⟨ops[i], Array.getElem?_eq_getElem hi⟩
    have hd := (depsB_spec ho).1 hdp
    obtain ⟨v, acc', h1, h2, h3, h4, h5⟩ := quiet_of hok ho h
    have hL := notL inv hV
    refine ih.1 _ _ _ _ _ hf (hv.quiet hok ho hd hV h1 h2 h3 h4) h5 fuel L env a w hfu ?_
    have hrows : (putS o.dst v s).rows = s.rows ∧ (putS o.dst v s).next = s.next := by unfold putS; cases o.dst <;> exact ⟨rfl, rfl⟩
    refine ⟨inv.size, inv.cl, fun j hj => getD_set_true (inv.sub j hj), fun r => by rw [stG_set hL]; exact inv.get r, by rw [hrows.1, hrows.2]; exact inv.rep, fun j hj hj' => ?_⟩
    by_cases e : i = j
    · subst e; exact .head _
    · rw [getD_set_ne false e] at hj
      exact .tail _ (inv.pd j hj hj')
  | eff i ks t r iht ihr =>
    have alt : ∀ V Pd acc s vs, forkOk ops T (.eff i ks t r) false V Pd = true → VInv P w0 T0 ops s0 vs V Pd acc s → vcFork P w0 T0 ops (.eff i ks t r) acc s Q → ∀ j, j ∈ altIds (.eff i ks t r) → ∀ fuel L env a w, RInv w0 T0 H ops s0 vs V Pd s L env a w → ∀ o, ops[j]? = some o → Dp L o → openN L ops.size = fuel + 1 → wpOp P ops (fun e a' w' => e = .normal ∧ ∃ s', Q s' ∧ Rep w0 T0 H s' a' w') j (wpAny P .any ops (fun e a' w' => e = .normal ∧ ∃ s', Q s' ∧ Rep w0 T0 H s' a' w') fuel (L.setIfInBounds j true)) a w := by
      intro V Pd acc s vs hf hv h j hj fuel L env a w inv o ho hd hfu
      simp only [forkOk, Bool.not_false, Bool.true_or, Bool.true_and, Bool.and_eq_true, decide_eq_true_eq, Bool.not_eq_true'] at hf
      obtain ⟨⟨⟨⟨⟨⟨hi, hV⟩, hdp⟩, hPd⟩, hks⟩, hft⟩, hfr⟩ := hf
      rcases List.mem_cons.1 (show j ∈ i :: altIds r from hj) with rfl | hj
      · obtain ⟨⟨v, R, N, hqs, hre, hds, hk⟩, _⟩ := eff_of hok ho h
        have hdV := inL inv hd
        have hL := notL inv hV
        have hksP : ∀ k, k ∈ ks → k ∈ Pd := fun k hk => by simpa using List.all_eq_true.1 hks k hk
        have hv' := hv.eff (v := v) (R := R) (N := N) hok ho hdV hV hksP hre hds
        unfold wpOp
        rw [ho]
        dsimp only
        have wrap : ∀ {A B : Prop} {b : Bool} {C : Prop}, (if b = true then A else B) → (if b = true then A ∨ C else B) := by
          intro A B b C h
          cases b with
          | true => simpa using Or.inl h
          | false => simpa using h
        apply wrap
        rw [hv.n] at hqs
        refine hqs env (fun q hq => ?_) H a w _ _ inv.rep fun val w' hr' => ?_
        · rw [inv.get q, hv.sget q]
          exact agree hok ho inv.size hv.vsize inv.cl hv.cl hd hdV hL hV q hq
        · have hput : ∀ d, o.dst = some d → d < s0.n := fun d hdd => by rw [hdd] at hds; rw [← hv.n]; exact hds
          have hr2 : Rep w0 T0 (((vs.set j v).getD j .dead, val) :: H) ⟨s0.n, env, R, N⟩ a w' := by
            rw [set_getD_self (by rw [hv.vlen]; exact hi)]; exact hr'
          obtain ⟨env', hg', hrep'⟩ := RInv.more hok (s0 := s0) (vs := vs.set j v) ho inv.size (fun r => by rw [stG_set hL]; exact inv.get r) hput hr2
          have hop := openN_set (by rw [inv.size]; exact hi) hL ops.size
          rw [if_pos hi] at hop
          have hrows : (putS o.dst v ⟨s.n, s.env, R, N⟩).rows = R ∧ (putS o.dst v ⟨s.n, s.env, R, N⟩).next = N := by unfold putS; cases o.dst <;> exact ⟨rfl, rfl⟩
          refine iht.1 _ _ _ _ _ hft hv' hk fuel _ env' _ w' (by omega) ⟨by simpa using inv.size, inv.cl.set ho hd, fun k hk => ?_, hg', by rw [hrows.1, hrows.2]; exact hrep', fun k h1 h2 => ?_⟩
          · by_cases e : j = k
            · subst e
              have : j < V.size := by rw [hv.vsize]; exact hi
              simp [this]
            · rw [getD_set_ne false e] at hk ⊢; exact inv.sub k hk
          · by_cases e : j = k
            · subst e
              have : j < L.size := by rw [inv.size]; exact hi
              simp [this] at h2
            · rw [getD_set_ne false e] at h1 h2
              have hkP := inv.pd k h1 h2
              have := List.all_eq_true.1 hPd k hkP
              rw [Bool.or_eq_true] at this
              rcases this with hb | hm
              · have hklt : k < ops.size := by have := getD_lt_size h1; rw [hv.vsize] at this; exact this
                have := anc_listed hok inv.size inv.cl j o ho hd k hklt hb
                rw [h2] at this; cases this
              · exact esMem_mem.1 hm
      · exact ihr.2 V Pd acc s vs hfr hv h.2 j hj fuel L env a w inv o ho hd hfu
    refine ⟨?_, alt⟩
    intro V Pd acc s vs hf hv h
    have hf' : forkOk ops T (.eff i ks t r) false V Pd = true := by
      simp only [forkOk, Bool.not_false, Bool.true_or, Bool.true_and, Bool.and_eq_true] at hf ⊢
      exact ⟨⟨⟨⟨⟨⟨hf.1.1.1.1.1.1.2, hf.1.1.1.1.1.2⟩, hf.1.1.1.1.2⟩, hf.1.1.1.2⟩, hf.1.1.2⟩, hf.1.2⟩, hf.2⟩
    have hcov : ∀ j o, ops[j]? = some o → V.getD j false = false → Dp V o → j ∈ altIds (.eff i ks t r) := by
      intro j o ho hV hd
      simp only [forkOk, Bool.not_true, Bool.false_or, Bool.and_eq_true] at hf
      have h1 := List.all_eq_true.1 hf.1.1.1.1.1.1.1 j (List.mem_range.2 (Array.getElem?_eq_some_iff.1 ho).1)
      rw [hV, (depsB_spec ho).2 hd] at h1
      simpa [altIds] using h1
    have hVi : V.getD i false = false := by
      simp only [forkOk, Bool.not_false, Bool.true_or, Bool.true_and, Bool.and_eq_true, decide_eq_true_eq, Bool.not_eq_true'] at hf'
      exact hf'.1.1.1.1.1.2
    have hilt : i < ops.size := by
      simp only [forkOk, Bool.not_false, Bool.true_or, Bool.true_and, Bool.and_eq_true, decide_eq_true_eq, Bool.not_eq_true'] at hf'
      exact hf'.1.1.1.1.1.1
    refine fork_run hok hv (fun hall => ?_) fun fuel L env a w inv j o ho hd hV hfu => ?_
    · rw [hall i hilt] at hVi; cases hVi
    · exact alt V Pd acc s vs hf' hv h j (hcov j o ho hV (inL inv hd)) fuel L env a w inv o ho hd hfu

/-- A drawn region by a tree (mkFork prints it). -/
theorem VcDraw.fork {id : Nat} {s : S} {Q : S → Prop} (t : LTree) (hm : P.follows .mixedOrders = true) (hok : lexOk ops [] [] (mkAnc ops) = true) (ht : forkOk ops (mkAnc ops) t true (Array.replicate ops.size false) [] = true)
    (h : vcFork P w0 T0 ops t [] s Q) : @VcDraw P w0 T0 b0 id ops s ⟨Q⟩ := by
  intro H a w _ hr
  refine wp_region_any hm ?_
  have hr' : Rep w0 T0 H s a { w with drawn := w.drawn + 1 } := by
    obtain ⟨m, hm⟩ := hr
    exact ⟨m, hm.drawn⟩
  have ok := LexOk.of hok
  have hL : ∀ j, (Array.replicate ops.size false).getD j false = false := fun j => getD_rep _ j
  have hop : openN (Array.replicate ops.size false) ops.size = ops.size := by
    unfold openN
    have : (List.range ops.size).countP (fun j => !(Array.replicate ops.size false).getD j false) = (List.range ops.size).length := by
      apply List.countP_eq_length.2
      intro j _
      rw [hL j]; rfl
    rw [this, List.length_range]
  have hcl : Cl ops (Array.replicate ops.size false) := fun i o _ h => by rw [hL] at h; cases h
  refine (fork_sound ok (s0 := s) t).1 _ _ _ _ (List.replicate ops.size .dead) ht ⟨by simp, by simp, hcl, rfl, fun r => (stG_get_self _ _ r).symm, (by intro j hj; cases hj), (by intro j o d h; rw [hL] at h; cases h)⟩ h ops.size _ s.env a _ hop
    ⟨by simp, hcl, (by intro i h; rw [hL] at h; cases h), (by intro r; rw [stG_get_self]; rfl), hr', (by intro i h; rw [hL] at h; cases h)⟩
theorem VcDraw.forkCut {id : Nat} {s : S} {Q : S → Prop} (t : LTree) (hm : P.follows .mixedOrders = true) (hok : lexOk ops [] [] (mkAnc ops) = true) (ht : forkOk ops (mkAnc ops) t true (Array.replicate ops.size false) [] = true) (shape : S)
    (h : vcFork P w0 T0 ops t [] s (fun s' => Ent w0 T0 b0 s' shape)) (hk : Q shape) : @VcDraw P w0 T0 b0 id ops s ⟨Q⟩ := by
  intro H a w hH hr
  refine wp_mono (VcDraw.fork (b0 := b0) (id := id) t hm hok ht h H a w hH hr) ?_
  rintro e a' w' ⟨he, s', hq, hr'⟩
  exact ⟨he, shape, hk, hq H a' w' hH hr'⟩
end
end Go.Fv

/-
  Families of rows: as many owned rows as a list tells, with names one behind the other.
-/
namespace Go.Fv
set_option linter.unusedSectionVars false
set_option linter.unusedVariables false
set_option linter.unusedSimpArgs false

section
variable {w0 : World} {T0 : Bs} {b0 : Nat}
end
/-! ### Renamings by hand -/
def p1 (a K x : Nat) : Nat := if x = a then K else x
def p2 (a K a' K' x : Nat) : Nat := if x = a then K else if x = a' then K' else x
end Go.Fv

/-
  An owned row becomes data, wherever the state speaks of it.
-/
namespace Go.Fv
set_option linter.unusedSectionVars false
open Go.RowKit
set_option linter.unusedVariables false
set_option linter.unusedSimpArgs false
set_option linter.unnecessarySimpa false

mutual
def fz (k : Nat) (r : RowV) : AV → AV
  | .own i => if i = k then .ro r else .own i
  | .ptr i o => .ptr i o
  | .elt i a b c => .elt i a b c
  | .agg cs => .agg (fzL k r cs)
  | .tup cs => .tup (fzL k r cs)
  | .fn f cs => .fn f (fzL k r cs)
  | .cell cs => .cell cs
  | .dead => .dead
  | .nilS => .nilS
  | .bool b => .bool b
  | .int q n => .int q n
  | .str s => .str s
  | .ro r => .ro r
  | .raw v => .raw v
  | .opt b v => .opt b (fz k r v)
  | .mp ks vs => .mp ks vs
def fzL (k : Nat) (r : RowV) : List AV → List AV
  | [] => []
  | x :: l => fz k r x :: fzL k r l
end
def fzR (k : Nat) (q : RowV) : RowV → RowV
  | .objs sz l => .objs sz (l.map (fzL k q))
  | .bools l => .bools l
  | .ints k l => .ints k l
  | .strs l => .strs l
def fzI (k : Nat) (q : RowV) : Item → Item
  | .row e r => .row e (fzR k q r)
  | .box e cs => .box e (fzL k q cs)
  | .map ks vs => .map (fzL k q ks) (fzL k q vs)
  | .iter mp since seen => .iter mp since seen
def fzE (k : Nat) (q : RowV) : List (Nat × AV) → List (Nat × AV)
  | [] => []
  | (i, v) :: l => (i, fz k q v) :: fzE k q l
def fzRows (k : Nat) (q : RowV) : List (Nat × Item) → List (Nat × Item)
  | [] => []
  | (i, it) :: l => if i = k then fzRows k q l else (i, fzI k q it) :: fzRows k q l
def S.fz (s : S) (k : Nat) (r : RowV) : S := { s with env := fzE k r s.env, rows := fzRows k r s.rows }

theorem lk_fzE (k : Nat) (q : RowV) : ∀ (l : List (Nat × AV)) (i : Nat), lk (fzE k q l) i = (lk l i).map (fz k q)
  | [], i => rfl
  | (j, v) :: l, i => by
    simp only [fzE, lk]
    split
    · rfl
    · exact lk_fzE k q l i
theorem lk_fzRows (k : Nat) (q : RowV) : ∀ (l : List (Nat × Item)) (i : Nat), lk (fzRows k q l) i = if i = k then none else (lk l i).map (fzI k q)
  | [], i => by simp [fzRows, lk]
  | (j, v) :: l, i => by
    simp only [fzRows]
    split
    · rename_i e; subst e
      rw [lk_fzRows]
      by_cases h : i = j
      · simp [h]
      · simp only [if_neg h, lk]; rw [if_neg (fun e => h e.symm)]
    · rename_i e
      simp only [lk]
      split
      · rename_i e2; subst e2; rw [if_neg e]; rfl
      · exact lk_fzRows k q l i

mutual
theorem fz_below {k : Nat} {r : RowV} (n : Nat) : ∀ x : AV, below n x = true → below n (fz k r x) = true
  | .own i, h => by
    simp only [fz]; split
    · rfl
    · exact h
  | .ptr i o, h => h
  | .elt i a b c, h => h
  | .agg cs, h => by simp only [fz, below] at *; exact fzL_below n cs h
  | .tup cs, h => by simp only [fz, below] at *; exact fzL_below n cs h
  | .fn f cs, h => by simp only [fz, below] at *; exact fzL_below n cs h
  | .cell cs, _ => rfl
  | .dead, _ => rfl
  | .nilS, _ => rfl
  | .bool _, _ => rfl
  | .int _ _, _ => rfl
  | .str _, _ => rfl
  | .ro _, _ => rfl
  | .raw _, _ => rfl
  | .opt _ v, h => by simp only [fz, below] at *; exact fz_below n v h
  | .mp _ _, _ => rfl
theorem fzL_below {k : Nat} {r : RowV} (n : Nat) : ∀ x : List AV, belowL n x = true → belowL n (fzL k r x) = true
  | [], _ => rfl
  | x :: l, h => by
    simp only [belowL, Bool.and_eq_true] at h
    simp [fzL, belowL, fz_below n x h.1, fzL_below n l h.2]
end
mutual
theorem fz_low (k : Nat) (r : RowV) (b0 : Nat) (hb : b0 ≤ k) : ∀ x : AV, below b0 x = true → fz k r x = x
  | .own i, h => by
    simp only [below, decide_eq_true_eq] at h
    simp only [fz]; rw [if_neg (by omega)]
  | .ptr i o, h => rfl
  | .elt i a b c, h => rfl
  | .agg cs, h => by simp only [fz]; rw [fzL_low k r b0 hb cs (by simpa [below] using h)]
  | .tup cs, h => by simp only [fz]; rw [fzL_low k r b0 hb cs (by simpa [below] using h)]
  | .fn f cs, h => by simp only [fz]; rw [fzL_low k r b0 hb cs (by simpa [below] using h)]
  | .cell cs, _ => rfl
  | .dead, _ => rfl
  | .nilS, _ => rfl
  | .bool _, _ => rfl
  | .int _ _, _ => rfl
  | .str _, _ => rfl
  | .ro _, _ => rfl
  | .raw _, _ => rfl
  | .mp _ _, _ => rfl
  | .opt b v, h => by simp only [fz]; rw [fz_low k r b0 hb v (by simpa [below] using h)]
theorem fzL_low (k : Nat) (r : RowV) (b0 : Nat) (hb : b0 ≤ k) : ∀ x : List AV, belowL b0 x = true → fzL k r x = x
  | [], _ => rfl
  | x :: l, h => by
    simp only [belowL, Bool.and_eq_true] at h
    simp only [fzL]; rw [fz_low k r b0 hb x h.1, fzL_low k r b0 hb l h.2]
end
structure CtxFz (k : Nat) (r : RowV) (c c' : Ctx) : Prop where
  n : c'.N = c.N
  m : c'.m = c.m
  t : ∀ b, c.T b → b < c.w.heap.size → c'.T b ∧ c'.w.heap[b]? = c.w.heap[b]?
  ro : Rv c' (.ro r) (c.m k)

mutual
theorem Rv.fz {k : Nat} {r : RowV} {c c' : Ctx} (h : CtxFz k r c c') : ∀ {x : AV} {v : Value}, Rv c x v → Rv c' (Fv.fz k r x) v
  | _, _, .dead v => .dead v
  | _, _, .nilS => .nilS
  | _, _, .bool b => .bool b
  | _, _, .int q n hk => .int q n hk
  | _, _, .str s hs => .str s hs
  | _, _, .roNil r hr hi => .roNil r (RowC.noid h.t hr hi) hi
  | _, _, .ro r a len cap cells hr hl hc hm hs hi => .ro r a len cap cells (RowC.noid h.t hr hi) hl hc hm (hs.mono' h.t) hi
  | _, _, .mp ks vs g es clock hk hv hb hc hT hh hi hi2 => .mp ks vs g es clock (RvT.noid h.t hk hi) (RvT.noid h.t hv hi2) hb hc (h.t g hT (Array.getElem?_eq_some_iff.1 hh).1).1 (by rw [(h.t g hT (Array.getElem?_eq_some_iff.1 hh).1).2]; exact hh) hi hi2
  | _, _, .own i hi h1 => by
    simp only [Fv.fz]
    split
    · rename_i e; subst e; exact h.ro
    · rw [← h.m]; exact .own i (by rw [h.n]; exact hi) (by rw [h.m]; exact h1)
  | _, _, .cell cs vs a hl hi hs => .cell cs vs a (RvL.noid h.t hl hi) hi (hs.mono' h.t)
  | _, _, .ptr i off g hi hg => .ptr i off g (by rw [h.n]; exact hi) (by rw [h.m]; exact hg)
  | _, _, .elt i a b d g hi hg => .elt i a b d g (by rw [h.n]; exact hi) (by rw [h.m]; exact hg)
  | _, _, .agg cs vs hl => .agg _ vs (RvL.fz h hl)
  | _, _, .tup cs vs hl => .tup _ vs (RvT.fz h hl)
  | _, _, .fn f cs vs hl => .fn f _ vs (RvT.fz h hl)
  | _, _, .raw v => .raw v
  | _, _, .opt b x v hb hx h2 => .opt b _ v (by rw [h.n]; exact fz_below _ _ hb) (fun e => Rv.fz h (hx e)) h2
theorem RvL.fz {k : Nat} {r : RowV} {c c' : Ctx} (h : CtxFz k r c c') : ∀ {x : List AV} {v : List Value}, RvL c x v → RvL c' (fzL k r x) v
  | _, _, .nil => .nil
  | _, _, .cons x v l vs hx h1 ht => .cons _ v _ vs (Rv.fz h hx) h1 (RvL.fz h ht)
theorem RvT.fz {k : Nat} {r : RowV} {c c' : Ctx} (h : CtxFz k r c c') : ∀ {x : List AV} {v : List Value}, RvT c x v → RvT c' (fzL k r x) v
  | _, _, .nil => .nil
  | _, _, .cons x v l vs hx ht => .cons _ v _ vs (Rv.fz h hx) (RvT.fz h ht)
end
theorem ObjsC.fz {k : Nat} {r : RowV} {c c' : Ctx} (h : CtxFz k r c c') : ∀ {sz : Nat} {x : List (List AV)} {v : List Value}, ObjsC c sz x v → ObjsC c' sz (x.map (fzL k r)) v
  | _, _, _, .nil sz => .nil sz
  | _, _, _, .cons sz o vs l cells ho hl ht => .cons sz _ vs _ cells (ho.fz h) hl (ht.fz h)
theorem RowC.fz {k : Nat} {q : RowV} {c c' : Ctx} (h : CtxFz k q c c') {x : RowV} {v : List Value} (hr : RowC c x v) : RowC c' (fzR k q x) v := by
  cases hr with
  | bools l => exact .bools l
  | ints k l hk => exact .ints k l hk
  | strs l hs => exact .strs l hs
  | objs sz l cells hz ho => exact .objs sz _ _ hz (ho.fz h)
theorem fzR_len (k : Nat) (q r : RowV) : (fzR k q r).len = r.len := by cases r <;> simp [fzR, RowV.len]
theorem fzR_sz (k : Nat) (q r : RowV) : (fzR k q r).sz = r.sz := by cases r <;> rfl
theorem ItemOk.fz {k : Nat} {q : RowV} {c c' : Ctx} (h : CtxFz k q c c') (hw : c'.w = c.w) {O : Nat → Prop} {v : Value} {it : Item} (hi : ItemOk c O v it) : ItemOk c' O v (fzI k q it) := by
  cases it with
  | row e r =>
    obtain ⟨n, cells, hr, hn, ho, hO⟩ := hi
    exact ⟨n, cells, hr.fz h, by rw [fzR_len]; exact hn, by rw [fzR_sz, hw]; exact ho, hO⟩
  | box e cs => obtain ⟨g, vs, rfl, hg, hl, hh⟩ := hi; exact ⟨g, vs, rfl, hg, hl.fz h, by rw [hw]; exact hh⟩
  | map ks vs => obtain ⟨g, es, clock, rfl, hg, h1, h2, h3, h4, hh⟩ := hi; exact ⟨g, es, clock, rfl, hg, h1.fz h, h2.fz h, h3, h4, by rw [hw]; exact hh⟩
  | iter mp since seen => obtain ⟨g, p, sn, last, rfl, hg, h1, h2, h3, h4, hh⟩ := hi; exact ⟨g, p, sn, last, rfl, hg, by rw [h.n]; exact h1, by rw [h.m]; exact h2, h3, h4, by rw [hw]; exact hh⟩
section
variable {w0 : World} {T0 : Bs} {b0 : Nat}
/-- AN OWNED ROW BECOMES DATA. -/
theorem Ent.fz (k : Nat) {s : S} {e : TypeId} {r : RowV} (hk : lk s.rows k = some (.row e r)) (hid : noIdR r = true) (hb : b0 ≤ k) : Ent w0 T0 b0 s (s.fz k r) := by
  rintro H a w hH ⟨m, hm⟩
  have hsub : ∀ i it, lk (s.fz k r).rows i = some it → i ≠ k ∧ ∃ jt, lk s.rows i = some jt ∧ it = fzI k r jt := by
    intro i it hi
    simp only [S.fz, lk_fzRows] at hi
    split at hi
    · cases hi
    · rename_i hne
      cases hq : lk s.rows i with
      | none => rw [hq] at hi; cases hi
      | some jt => rw [hq] at hi; cases hi; exact ⟨hne, jt, rfl, rfl⟩
  have hdel : ∀ i it, lk (del s.rows k) i = some it → lk s.rows i = some it := del_sub _ _
  have hro := own_ro hm hk hdel (by rw [lk_del, if_pos rfl]) hid
  have hT : ∀ b, allow T0 w0.heap.size m (del s.rows k) b → allow T0 w0.heap.size m (s.fz k r).rows b := by
    rintro b ⟨h1, h2⟩
    refine ⟨h1, fun i it hi e => ?_⟩
    obtain ⟨hne, jt, hj, _⟩ := hsub i it hi
    exact h2 i jt (by rw [lk_del, if_neg hne]; exact hj) e
  have hc : CtxFz k r (ctxOf T0 w0.heap.size m s w) (ctxOf T0 w0.heap.size m (s.fz k r) w) :=
    { n := rfl, m := rfl,
      t := by
        intro b ⟨h1, h2⟩ _
        exact ⟨hT b ⟨h1, fun i it hi => h2 i it (hdel i it hi)⟩, rfl⟩,
      ro := by
        refine Rv.noid (c := ctxOf T0 w0.heap.size m { s with rows := del s.rows k } w) ?_ hro rfl
        intro b hb _
        exact ⟨hT b hb, rfl⟩ }
  refine ⟨m, { size := hm.size, nodef := hm.nodef, below := hm.below, env := ?_, held := ?_, rows := ?_, sep := ?_ }⟩
  · intro q v hv
    simp only [S.fz, lk_fzE] at hv
    cases hq : lk s.env q with
    | none => rw [hq] at hv; cases hv
    | some y => rw [hq] at hv; cases hv; exact (hm.env q y hq).fz hc
  · intro p hp
    have h1 := (hm.held p hp).fz hc
    have h2 : Fv.fz k r p.1 = p.1 := by
      have hlow := hH p hp
      exact fz_low k r b0 hb p.1 hlow
    rwa [h2] at h1
  · intro i it hi
    obtain ⟨hne, jt, hj, rfl⟩ := hsub i it hi
    exact ⟨(hm.rows i jt hj).1, (hm.rows i jt hj).2.fz hc rfl⟩
  · intro i j it jt b hi hj hbi hbj
    obtain ⟨_, it', hi', _⟩ := hsub i it hi
    obtain ⟨_, jt', hj', _⟩ := hsub j jt hj
    exact hm.sep i j it' jt' b hi' hj' hbi hbj
end
attribute [go_sem] fz fzL fzR fzI fzE fzRows S.fz
end Go.Fv

/-
  The set by which states are held against one another.
-/
namespace Go.Fv
set_option linter.unusedSectionVars false
theorem renL_rep (p : Nat → Nat) (x : AV) : ∀ n : Nat, renL p (List.replicate n x) = List.replicate n (ren p x)
  | 0 => rfl
  | n + 1 => by simp only [List.replicate_succ, renL]; rw [renL_rep p x n]
theorem belowL_rep {N : Nat} {x : AV} (h : below N x = true) : ∀ n : Nat, belowL N (List.replicate n x) = true
  | 0 => rfl
  | n + 1 => by simp only [List.replicate_succ, belowL, h, Bool.true_and]; exact belowL_rep h n
theorem noIdL_rep {x : AV} (h : noId x = true) : ∀ n : Nat, noIdL (List.replicate n x) = true
  | 0 => rfl
  | n + 1 => by simp only [List.replicate_succ, noIdL, h, Bool.true_and]; exact noIdL_rep h n
theorem mkL_rep {x : AV} (h : noId x = true) (n : Nat) (y : List AV) : mkL (List.replicate n x) y = [] := mkL_noId _ y (noIdL_rep h n)
theorem belowL_repb (N n : Nat) (b : Bool) : belowL N (List.replicate n (AV.bool b)) = true := belowL_rep rfl n
theorem mkL_repb (n : Nat) (b : Bool) (y : List AV) : mkL (List.replicate n (AV.bool b)) y = [] := mkL_rep rfl n y
attribute [go_sem] mkR_ok mkL_caps mkL_bools rets rets1 retV mkRet tupOf envOk subOk mkRen mkEnv mkRows mkItem mkV mkL pm Item.below AV.own.injEq AV.str.injEq AV.ro.injEq AV.agg.injEq AV.tup.injEq List.cons.injEq Option.some.injEq Item.row.injEq Item.box.injEq RowV.ints.injEq RowV.bools.injEq RowV.strs.injEq RowV.objs.injEq Nat.succ_ne_self renL_rep belowL_repb mkL_repb
attribute [go_sem] vcFork accKeep redoT redoH
end Go.Fv

/-
  Steps of a walk that pay their side conditions by themselves.
-/
namespace Go.Fv
set_option linter.unusedSectionVars false
set_option linter.unusedVariables false
theorem Chk.g {p K : Prop} (k : K) (h : p := by first | omega | (with_reducible refine Chk.intro ?_ ?_ <;> omega) | (simp; done) | (simp; omega)) : Chk p K := ⟨h, k⟩
theorem LetW.g {e : Int} {K : Int → Prop} (kk : K e) (h1 : -9223372036854775808 ≤ e := by omega) (h2 : e ≤ 9223372036854775807 := by omega) : LetW .i64 e K := LetW.i64 h1 h2 kk
theorem LetW.h {e : Int} {K : Int → Prop} (kk : K e) (h1 : 0 ≤ e := by omega) (h2 : e ≤ 255 := by omega) : LetW .u8 e K := LetW.u8 h1 h2 kk
theorem Ite.t {p : Prop} [Decidable p] {x y : Prop} (k : p → x) (h : ¬ p → False := by (intro _; omega)) : @Ite (Decidable.decide p) ⟨x⟩ ⟨y⟩ := Ite.decide k fun h' => (h h').elim
theorem Ite.f {p : Prop} [Decidable p] {x y : Prop} (k : ¬ p → y) (h : p → False := by (intro _; omega)) : @Ite (Decidable.decide p) ⟨x⟩ ⟨y⟩ := Ite.decide (fun h' => (h h').elim) k
/-- A step that asks for nothing: what is to be shown instead. -/
class Stp (p : Prop) (q : outParam Prop) : Prop where
  go : q → p
instance {p K : Prop} : Stp (Asm p K) (p → K) := ⟨Asm.intro⟩
instance {K : Int → Prop} : Stp (@AnyI .i64 ⟨K⟩) (∀ n, (-9223372036854775808 ≤ n ∧ n ≤ 9223372036854775807) → K n) := ⟨AnyI.i64⟩
instance (priority := 900) {b : Bool} {x y : Prop} : Stp (@Ite b ⟨x⟩ ⟨y⟩) ((b = true → x) ∧ (b = false → y)) := ⟨fun h => Ite.bool h.1 h.2⟩
instance {p : Prop} [Decidable p] {x y : Prop} : Stp (@Ite (Decidable.decide p) ⟨x⟩ ⟨y⟩) ((p → x) ∧ (¬ p → y)) := ⟨fun h => Ite.decide h.1 h.2⟩
theorem rs {p q : Prop} [h : Stp p q] (k : q) : p := h.go k
theorem rc {p K : Prop} (k : K) (h : p := by first | omega | (with_reducible refine Chk.intro ?_ ?_ <;> omega) | (simp; done) | (simp; omega)) : Chk p K := ⟨h, k⟩
theorem rl {e : Int} {K : Int → Prop} (k : K e) (h1 : -9223372036854775808 ≤ e := by omega) (h2 : e ≤ 9223372036854775807 := by omega) : LetW .i64 e K := LetW.i64 h1 h2 k
theorem rh {e : Int} {K : Int → Prop} (k : K e) (h1 : 0 ≤ e := by omega) (h2 : e ≤ 255 := by omega) : LetW .u8 e K := LetW.u8 h1 h2 k
theorem rt {p : Prop} [Decidable p] {x y : Prop} (k : p → x) (h : ¬ p → False := by (intro _; omega)) : @Ite (Decidable.decide p) ⟨x⟩ ⟨y⟩ := Ite.decide k fun h' => (h h').elim
theorem rf {p : Prop} [Decidable p] {x y : Prop} (k : ¬ p → y) (h : p → False := by (intro _; omega)) : @Ite (Decidable.decide p) ⟨x⟩ ⟨y⟩ := Ite.decide (fun h' => (h h').elim) k
/-- A call by a contract that hands nothing over. -/
theorem VcCall.k {P : Program} {w0 : World} {T0 : Bs} [hG : GlB P w0 T0] {f : Nat} {args args' : List AV} {out : AV} {s : S} {K : AV → S → Prop} (h : FnOk P f args' out []) (hk : K (ren (fun j => s.next + j) out) (s.after s.rows 0 []))
    (h1 : noRo out = true := by rfl) (h2 : Fv.below 0 out = true := by rfl) (ha : argOkL s.rows args args' := by
      simp only [noIdR_ok, argOkL, argOk, allOk, argOkN, List.drop_zero, lk, reduceIte, reduceCtorEq, Nat.reduceEqDiff, Option.some.injEq, Item.row.injEq, Item.box.injEq, AV.ro.injEq, exists_eq_left, exists_and_left, exists_eq_left', exists_eq_right, and_assoc, and_true, true_and, List.cons.injEq, exists_eq', exists_eq]) :
    @VcCall P w0 T0 f args s ⟨K⟩ := VcCall.fr (FnFr.of_ok h h1 rfl) ha 0 h2 trivial hk
end Go.Fv

/-
  Calls into the callee's code: what it writes into memory that the caller owns is seen by the caller.
-/
namespace Go.Fv
set_option linter.unusedSectionVars false
open Go.RowKit
set_option linter.unusedVariables false
set_option linter.unusedSimpArgs false
set_option linter.unnecessarySimpa false

/-- Where the callee ends: the caller goes on with its results, its own slots as they were. -/
def InlPost (P : Program) (res : List ResultVar) (s : S) (K : AV → S → Prop) : Exit → S → Prop
  | .normal, s1 => rets P s1 res (fun vs => K (tupOf vs) { s with rows := s1.rows, next := s1.next })
  | .ret, s1 => rets P s1 res (fun vs => K (tupOf vs) { s with rows := s1.rows, next := s1.next })
  | _, _ => False

section
variable {P : Program} {w0 : World} {T0 : Bs}

/-- A CALL, by the callee's own code. -/
theorem VcCall.inl {f : Nat} {fn : Func} {c : Code} {args : List AV} {s : S} {K : AV → S → Prop} (hf : P.funcs[f]? = some fn) (hb : fn.body = some c)
    (hnm : (fn.name == "runtime.NumGoroutine") = false) (hn : args.length ≤ fn.ntmps) (res : List ResultVar) (hres : fn.results = res.toArray)
    (h : VcRun P w0 T0 s.next c ⟨fn.ntmps, argEnv 0 args, s.rows, s.next⟩ (InlPost P res s K)) : @VcCall P w0 T0 f args s ⟨K⟩ := by
  refine ⟨⟨fn, hf, by rw [hb]; rfl, hnm⟩, fun H a w m vals hm hv => ?_⟩
  refine calls_of_wp hf hb ?_
  have hlen := hv.length
  have hE : ∀ p, p ∈ (s.env.map fun p => (s.get p.1, a.tmps.getD p.1 undef)) ++ H → Rv (ctxOf T0 w0.heap.size m s w) p.1 p.2 := by
    intro p hp
    rcases List.mem_append.1 hp with hp | hp
    · obtain ⟨q, _, rfl⟩ := List.mem_map.1 hp
      show Rv _ (s.get q.1) _
      unfold S.get
      cases hl : lk s.env q.1 with
      | none => exact .dead _
      | some y => exact hm.env q.1 y hl
    · exact hm.held p hp
  have hrep : RepM w0 T0 ((s.env.map fun p => (s.get p.1, a.tmps.getD p.1 undef)) ++ H) ⟨fn.ntmps, argEnv 0 args, s.rows, s.next⟩ { tmps := vals.toArray ++ Array.replicate (fn.ntmps - vals.toArray.size) undef, defers := [] } w m :=
    { size := by simp; omega, nodef := rfl, below := hm.below,
      env := by
        intro r v hr
        obtain ⟨u, h1, h2⟩ := argEnv_rv 0 [] rfl hv r v hr
        have e : ((vals.toArray ++ Array.replicate (fn.ntmps - vals.toArray.size) undef).getD r undef) = u := by
          have h1' : vals[r]? = some u := by simpa using h1
          have hlt : r < vals.length := (List.getElem?_eq_some_iff.1 h1').1
          rw [Array.getD_eq_getD_getElem?, Array.getElem?_append_left (by simpa using hlt)]
          simp [h1']
        rw [e]; exact h2,
      held := hE, rows := hm.rows, sep := hm.sep }
  refine wp_mono (h _ _ w (fun p hp => (hE p hp).ids) ⟨m, hrep⟩) ?_
  rintro e a1 w1 ⟨s1, hq, m1, hm1⟩
  have fin : rets P s1 res (fun vs => K (tupOf vs) { s with rows := s1.rows, next := s1.next }) → a1.defers = [] ∧ ∃ v, (results fn a1.tmps).run P w1 = .ok v w1 ∧ ∃ v', Ending.returned v = .returned v' ∧ ∃ r s', K r s' ∧ Rep w0 T0 ((r, v') :: H) s' a w1 := by
    intro hk
    obtain ⟨l, vs, hk, hr, hvs⟩ := rets_run hm1 hk
    have hrv : Rv (ctxOf T0 w0.heap.size m1 s1 w1) (tupOf l) (tupV vs) := by
      cases hvs with
      | nil => exact .tup _ _ .nil
      | cons x v l us hx ht =>
        cases ht with
        | nil => exact hx
        | cons x' v' l' us' hx' ht' => exact .tup _ _ (.cons _ _ _ _ hx (.cons _ _ _ _ hx' ht'))
    refine ⟨hm1.nodef, _, results_list hres a1.tmps hr, _, rfl, _, _, hk, m1, ?_⟩
    exact { size := hm.size, nodef := hm.nodef, below := hm1.below,
            env := by
              intro r v hv
              have hmem : (s.get r, a.tmps.getD r undef) ∈ (s.env.map fun p => (s.get p.1, a.tmps.getD p.1 undef)) ++ H :=
                List.mem_append.2 (.inl (List.mem_map.2 ⟨(r, v), lk_mem hv, rfl⟩))
              have := hm1.held _ hmem
              have e : s.get r = v := by unfold S.get; rw [show lk s.env r = some v from hv]
              rw [e] at this; exact this,
            held := by
              intro p hp
              cases List.mem_cons.1 hp with
              | inl e => subst e; exact hrv
              | inr e => exact hm1.held p (List.mem_append.2 (.inr e)),
            rows := hm1.rows, sep := hm1.sep }
  cases e with
  | normal => exact fin hq
  | ret => exact fin hq
  | _ => exact hq.elim
end
end Go.Fv

/-
  Contracts of functions that are given memory, which they turn and hand back.
-/
namespace Go.Fv
set_option linter.unusedSectionVars false
open Go.RowKit
set_option linter.unusedVariables false
set_option linter.unusedSimpArgs false
set_option linter.unnecessarySimpa false

def GivenOk (w : World) (T g : Nat → Prop) (m0 : Nat → Value) (k : Nat) (rows0 : List (Nat × Item)) : Prop :=
  (∀ i it, lk rows0 i = some it → i < k ∧ ItemOk ⟨w, T, m0, k⟩ g (m0 i) it) ∧
  (∀ i j it jt b, lk rows0 i = some it → lk rows0 j = some jt → blk (m0 i) = some b → blk (m0 j) = some b → i = j) ∧
  (∀ b, T b → ¬ g b)

/-- The function is given the memory 'rows0' under the names below 'k', turns it, and returns 'out'; 'rows': what stands then. -/
def FnIO (P : Program) (f : Nat) (args : List AV) (rows0 : List (Nat × Item)) (k : Nat) (out : AV) (rows : List (Nat × Item)) : Prop :=
  Enter P f ∧ ∀ (w : World) (T g : Nat → Prop) (m0 : Nat → Value) (vals : List Value), GivenOk w T g m0 k rows0 → GlOk P w → (∀ (b : Nat) (q : IntKind), intGl P b = some q → ¬ g b) → RvT ⟨w, T, m0, k⟩ args vals →
    Calls P f vals.toArray w fun e w' => ∃ v, e = .returned v ∧ BelowG g w w' ∧ ∃ m N, (∀ i, i < k → m i = m0 i) ∧ k ≤ N ∧
      Rv ⟨w', allow ⟨fun b => T b ∨ g b, g⟩ w.heap.size m rows, m, N⟩ out v ∧
      (∀ i it, lk rows i = some it → i < N ∧ ItemOk ⟨w', allow ⟨fun b => T b ∨ g b, g⟩ w.heap.size m rows, m, N⟩ (ownB ⟨fun b => T b ∨ g b, g⟩ w.heap.size) (m i) it) ∧
      (∀ i j it jt b, lk rows i = some it → lk rows j = some jt → blk (m i) = some b → blk (m j) = some b → i = j)

section
variable {P : Program} {w0 : World} {T0 : Bs}

/-- Where such a function ends. -/
def RetK (P : Program) (w0 : World) (T0 : Bs) (k : Nat) (res : List ResultVar) (out : AV) (rows : List (Nat × Item)) (s : S) : Prop :=
  ∀ (H : List (AV × Value)) (a : Act) (w : World), HeldB k H → Rep w0 T0 H s a w → ∃ v, (∀ (fn : Func), fn.results = res.toArray → (results fn a.tmps).run P w = .ok v w) ∧
    ∃ m N, k ≤ N ∧ (∀ p, p ∈ H → Rv ⟨w, allow T0 w0.heap.size m rows, m, N⟩ p.1 p.2) ∧ Rv ⟨w, allow T0 w0.heap.size m rows, m, N⟩ out v ∧
      (∀ i it, lk rows i = some it → i < N ∧ ItemOk ⟨w, allow T0 w0.heap.size m rows, m, N⟩ (ownB T0 w0.heap.size) (m i) it) ∧
      (∀ i j it jt b, lk rows i = some it → lk rows j = some jt → blk (m i) = some b → blk (m j) = some b → i = j)
def PostK (P : Program) (w0 : World) (T0 : Bs) (k : Nat) (res : List ResultVar) (out : AV) (rows : List (Nat × Item)) : Exit → S → Prop
  | .normal, s => RetK P w0 T0 k res out rows s
  | .ret, s => RetK P w0 T0 k res out rows s
  | _, _ => False
@[congr] theorem RetK_congr {k : Nat} {res : List ResultVar} {out : AV} {rows : List (Nat × Item)} {s s' : S} (h : s = s') : RetK P w0 T0 k res out rows s = RetK P w0 T0 k res out rows s' := by rw [h]

theorem RetK.of {k : Nat} (l : List (Nat × Nat)) (N : Nat) (hl : ∀ x, x ∈ l → k ≤ x.1) (hk : k ≤ N) {res : List ResultVar} {out : AV} {rows : List (Nat × Item)} {s : S} (h : rets P s res (fun vs => tupOf vs = ren (pm l) out)) (hb : Fv.below N out = true) (hr : subOk (pm l) s.rows N rows) : RetK P w0 T0 k res out rows s := by
  rintro H a w hH ⟨m, hm⟩
  obtain ⟨vs, us, he, hrun, hvs⟩ := rets_run hm h
  have hlow : ∀ i, i < k → pm l i = i := by
    intro i hi
    unfold pm
    cases h : lk l i with
    | none => rfl
    | some j => have := hl _ (lk_mem h); simp at this; omega
  have hrv : Rv (ctxOf T0 w0.heap.size m s w) (tupOf vs) (tupV us) := by
    cases hvs with
    | nil => exact .tup _ _ .nil
    | cons x v l us hx ht =>
      cases ht with
      | nil => exact hx
      | cons x' v' l' us' hx' ht' => exact .tup _ _ (.cons _ _ _ _ hx (.cons _ _ _ _ hx' ht'))
  have hren : CtxRen (pm l) (ctxOf T0 w0.heap.size m s w) ⟨w, allow T0 w0.heap.size (fun i => m (pm l i)) rows, fun i => m (pm l i), N⟩ :=
    { m := fun _ _ => rfl,
      t := by
        intro b ⟨h1, h2⟩ _
        refine ⟨⟨h1, fun i it hi e => ?_⟩, rfl⟩
        obtain ⟨_, h3, _⟩ := subOk_mem hr i it (lk_mem hi)
        exact h2 _ _ h3 e }
  refine ⟨_, fun fn hf => results_list hf a.tmps hrun, fun i => m (pm l i), N, hk, fun p hp => ?_, Rv.ren hren out hb (by rw [← he]; exact hrv), fun i it hi => ?_, fun i j it jt b hi hj hbi hbj => ?_⟩
  · have h1 := hH p hp
    refine Rv.ren hren p.1 (below_le hk _ h1) ?_
    rw [ren_low hlow _ h1]; exact hm.held p hp
  · obtain ⟨h1, h2, h3⟩ := subOk_mem hr i it (lk_mem hi)
    exact ⟨h1, ItemOk.ren hren rfl h3 (hm.rows _ _ h2).2⟩
  · obtain ⟨_, h2, _⟩ := subOk_mem hr i it (lk_mem hi)
    obtain ⟨_, h2', _⟩ := subOk_mem hr j jt (lk_mem hj)
    exact subOk_inj hr i j it jt (lk_mem hi) (lk_mem hj) (hm.sep _ _ _ _ b h2 h2' hbi hbj)
theorem RetK.auto {k : Nat} (N : Nat) (hk : k ≤ N) {res : List ResultVar} {out : AV} {rows : List (Nat × Item)} {s : S} (h : rets P s res (fun vs => tupOf vs = ren (pm (fromL k (mkRet s res out rows))) out)) (hb : Fv.below N out = true) (hr : subOk (pm (fromL k (mkRet s res out rows))) s.rows N rows) : RetK P w0 T0 k res out rows s :=
  RetK.of _ N (fromL_ge k _) hk h hb hr

theorem ItemOk.oneCell {c : Ctx} {O : Nat → Prop} {v : Value} {it : Item} (h : ItemOk c O v it) : v.oneCell' = true := by
  cases it with
  | row e r =>
    obtain ⟨n, cells, _, _, ho, _⟩ := h
    rcases ho.2 with ⟨rfl, _⟩ | ⟨g, cap, cur, fz, rfl, _⟩ <;> rfl
  | box e cs => obtain ⟨g, vs, rfl, _⟩ := h; rfl
  | map ks vs => obtain ⟨g, es, clock, rfl, _⟩ := h; rfl
  | iter mp since seen => obtain ⟨g, q, sn, last, rfl, _⟩ := h; rfl

/-- SUCH A CONTRACT, out of the walk over its code. -/
theorem FnIO.of_run {f : Nat} {fn : Func} {c : Code} {args : List AV} {rows0 : List (Nat × Item)} {k : Nat} {out : AV} {rows : List (Nat × Item)} (hf : P.funcs[f]? = some fn) (hb : fn.body = some c)
    (hnm : (fn.name == "runtime.NumGoroutine") = false) (hn : args.length ≤ fn.ntmps) (hcov : ∀ j, j < k → ∃ it, lk rows0 j = some it) (res : List ResultVar) (hres : fn.results = res.toArray)
    (h : ∀ (w0 : World) (T0 : Bs) [GlB P w0 T0], VcRun P w0 T0 k c ⟨fn.ntmps, argEnv 0 args, rows0, k⟩ (PostK P w0 T0 k res out rows)) : FnIO P f args rows0 k out rows := by
  refine ⟨⟨fn, hf, by rw [hb]; rfl, hnm⟩, fun w T g m0 vals hG hgl hgg hv => ?_⟩
  haveI : GlB P w ⟨fun b => T b ∨ g b, g⟩ := ⟨hgl, fun b q hq h => hgg b q hq h.1⟩
  obtain ⟨hrows, hsep, hTg⟩ := hG
  refine calls_of_wp hf hb ?_
  have hlen := hv.length
  have hle : CtxLe (⟨w, T, m0, k⟩ : Ctx) (ctxOf ⟨fun b => T b ∨ g b, g⟩ w.heap.size m0 ⟨fn.ntmps, argEnv 0 args, rows0, k⟩ w) :=
    ⟨Nat.le_refl _, fun _ _ => rfl, fun b hb _ => ⟨⟨.inr (.inl hb), fun i it hi e => hTg b hb ((hrows i it hi).2.blk b e).1⟩, rfl⟩⟩
  have hrep : RepM w ⟨fun b => T b ∨ g b, g⟩ (rows0.map fun p => (.own p.1, m0 p.1)) ⟨fn.ntmps, argEnv 0 args, rows0, k⟩ { tmps := vals.toArray ++ Array.replicate (fn.ntmps - vals.toArray.size) undef, defers := [] } w m0 :=
    { size := by simp; omega, nodef := rfl, below := BelowG.refl _ _,
      env := by
        intro r v hr
        obtain ⟨u, h1, h2⟩ := argEnv_rv 0 [] rfl hv r v hr
        have e : ((vals.toArray ++ Array.replicate (fn.ntmps - vals.toArray.size) undef).getD r undef) = u := by
          have h1' : vals[r]? = some u := by simpa using h1
          have hlt : r < vals.length := (List.getElem?_eq_some_iff.1 h1').1
          rw [Array.getD_eq_getD_getElem?, Array.getElem?_append_left (by simpa using hlt)]
          simp [h1']
        rw [e]; exact h2.mono hle,
      held := by
        intro p hp
        obtain ⟨q, hq, rfl⟩ := List.mem_map.1 hp
        obtain ⟨it, hit⟩ := lk_some hq
        obtain ⟨h1, h2⟩ := hrows _ _ hit
        exact .own q.1 h1 h2.oneCell,
      rows := fun i it hi => ⟨(hrows i it hi).1, (((hrows i it hi).2).mono hle fun _ _ => rfl).own fun b hb => .inr ⟨hb, .inr hb⟩⟩, sep := hsep }
  have hH : HeldB k (rows0.map fun p => (AV.own p.1, m0 p.1)) := by
    intro p hp
    exact (hrep.held p hp).ids
  refine wp_mono (h w _ _ _ w hH ⟨_, hrep⟩) ?_
  rintro e a w' ⟨s', hq, hr⟩
  have fin : RetK P w ⟨fun b => T b ∨ g b, g⟩ k res out rows s' → a.defers = [] ∧ ∃ v, (results fn a.tmps).run P w' = .ok v w' ∧ ∃ v', Ending.returned v = .returned v' ∧ BelowG g w w' ∧ ∃ m N, (∀ i, i < k → m i = m0 i) ∧ k ≤ N ∧
      Rv ⟨w', allow ⟨fun b => T b ∨ g b, g⟩ w.heap.size m rows, m, N⟩ out v' ∧
      (∀ i it, lk rows i = some it → i < N ∧ ItemOk ⟨w', allow ⟨fun b => T b ∨ g b, g⟩ w.heap.size m rows, m, N⟩ (ownB ⟨fun b => T b ∨ g b, g⟩ w.heap.size) (m i) it) ∧
      (∀ i j it jt b, lk rows i = some it → lk rows j = some jt → blk (m i) = some b → blk (m j) = some b → i = j) := by
    intro hret
    obtain ⟨v, hv, m, N, hkN, hheld, hout, hit, hsp⟩ := hret _ a w' hH hr
    obtain ⟨m', hm⟩ := hr
    refine ⟨hm.nodef, v, hv fn hres, v, rfl, hm.below.mono fun b hb => hb.1, m, N, fun i hi => ?_, hkN, hout, hit, hsp⟩
    obtain ⟨it, hi'⟩ := hcov i hi
    have := hheld (.own i, m0 i) (List.mem_map.2 ⟨(i, it), lk_mem hi', rfl⟩)
    generalize hmi : m0 i = mi at this
    cases this
    rfl
  cases e with
  | normal => exact fin hq
  | ret => exact fin hq
  | _ => exact hq.elim
theorem FnIO.of_vc {f : Nat} {fn : Func} {c : Code} {args : List AV} {rows0 : List (Nat × Item)} {k : Nat} {out : AV} {rows : List (Nat × Item)} (hf : P.funcs[f]? = some fn) (hb : fn.body = some c)
    (hnm : (fn.name == "runtime.NumGoroutine") = false) (hn : args.length ≤ fn.ntmps) (hcov : ∀ j, j < k → ∃ it, lk rows0 j = some it) (res : List ResultVar) (hres : fn.results = res.toArray)
    (h : ∀ (w0 : World) (T0 : Bs) [GlB P w0 T0], vcCode P w0 T0 k c (PostK P w0 T0 k res out rows) ⟨fn.ntmps, argEnv 0 args, rows0, k⟩) : FnIO P f args rows0 k out rows :=
  .of_run hf hb hnm hn hcov res hres fun w0 T0 => .of (h w0 T0)

/-! ### The call -/
/-- The caller's name for a given one: the j-th of 'ids'; new names behind all that the caller has. -/
def ioN (ids : List Nat) (next : Nat) (j : Nat) : Nat := match ids[j]? with | some i => i | none => next + (j - ids.length)
def ioRows (p : Nat → Nat) : List (Nat × Item) → List (Nat × Item)
  | [] => []
  | (i, it) :: l => (p i, it.ren p) :: ioRows p l
def delL {α : Type} : List (Nat × α) → List Nat → List (Nat × α)
  | l, [] => l
  | l, i :: is => delL (del l i) is
theorem lk_delL {α : Type} : ∀ (is : List Nat) (l : List (Nat × α)) (j : Nat), lk (delL l is) j = if j ∈ is then none else lk l j
  | [], l, j => by simp [delL]
  | i :: is, l, j => by
    simp only [delL]
    rw [lk_delL is, lk_del]
    by_cases h1 : j ∈ is
    · simp [h1]
    · by_cases h2 : j = i <;> simp [h1, h2]
def S.ioS (s : S) (ids : List Nat) (N : Nat) (rows : List (Nat × Item)) : S := { s with rows := ioRows (ioN ids s.next) rows ++ delL s.rows ids, next := s.next + (N - ids.length) }

theorem lk_ioRows_of {p : Nat → Nat} {S : Nat → Prop} (hp : ∀ i j, S i → S j → p i = p j → i = j) : ∀ {l : List (Nat × Item)}, (∀ x, x ∈ l → S x.1) → ∀ {i : Nat} {it : Item}, lk (ioRows p l) i = some it → ∃ j jt, i = p j ∧ lk l j = some jt ∧ it = jt.ren p
  | (j, jt) :: l, hS, i, it, h => by
    simp only [ioRows, lk] at h
    split at h
    · rename_i e; cases h; exact ⟨j, jt, e.symm, by simp [lk], rfl⟩
    · rename_i e
      obtain ⟨q, qt, h1, h2, h3⟩ := lk_ioRows_of hp (fun x hx => hS x (.tail _ hx)) h
      refine ⟨q, qt, h1, ?_, h3⟩
      simp only [lk]; rw [if_neg (fun e' => e (by rw [h1, e']))]; exact h2
theorem nodup_get : ∀ {l : List Nat} {i j a : Nat}, l.Nodup → l[i]? = some a → l[j]? = some a → i = j := by
  intro l i j a hd hi hj
  exact (List.getElem?_inj (List.getElem?_eq_some_iff.1 hi).1 hd).1 (hi.trans hj.symm)

/-- What is given of the caller's memory. -/
def ioG (ids : List Nat) (next : Nat) (rows0 : List (Nat × Item)) (m : Nat → Value) (b : Nat) : Prop := ∃ j it, lk rows0 j = some it ∧ blk (m (ioN ids next j)) = some b
/-- Where such a call ends. -/
def IoPost (w : World) (T g : Nat → Prop) (m0 : Nat → Value) (k : Nat) (out : AV) (rows : List (Nat × Item)) (e : Ending) (w' : World) : Prop :=
  ∃ v, e = .returned v ∧ BelowG g w w' ∧ ∃ m N, (∀ i, i < k → m i = m0 i) ∧ k ≤ N ∧
      Rv ⟨w', allow ⟨fun b => T b ∨ g b, g⟩ w.heap.size m rows, m, N⟩ out v ∧
      (∀ i it, lk rows i = some it → i < N ∧ ItemOk ⟨w', allow ⟨fun b => T b ∨ g b, g⟩ w.heap.size m rows, m, N⟩ (ownB ⟨fun b => T b ∨ g b, g⟩ w.heap.size) (m i) it) ∧
      (∀ i j it jt b, lk rows i = some it → lk rows j = some jt → blk (m i) = some b → blk (m j) = some b → i = j)
theorem VcCall.ioCore [hgb : GlB P w0 T0] {f : Nat} {args : List AV} {rows0 : List (Nat × Item)} {out : AV} {rows : List (Nat × Item)} {s : S} {K : AV → S → Prop} (ids : List Nat) (hE : Enter P f) (hd : ids.Nodup)
    (hcall : ∀ (H : List (AV × Value)) (a : Act) (w : World) (m : Nat → Value) (vals : List Value), RepM w0 T0 H s a w m → RvT (ctxOf T0 w0.heap.size m s w) args vals →
      GivenOk w (allow T0 w0.heap.size m s.rows) (ioG ids s.next rows0 m) (fun j => m (ioN ids s.next j)) ids.length rows0 → (∀ (b : Nat) (q : IntKind), intGl P b = some q → ¬ ioG ids s.next rows0 m b) →
      Calls P f vals.toArray w (IoPost w (allow T0 w0.heap.size m s.rows) (ioG ids s.next rows0 m) (fun j => m (ioN ids s.next j)) ids.length out rows))
    (h0 : subOk (ioN ids s.next) s.rows ids.length rows0) (hcov : ∀ j, j < ids.length → ∃ it, lk rows0 j = some it) (N : Nat) (hkN : ids.length ≤ N) (hN : Fv.below N out = true) (hNr : rowsB N rows)
    (hk : K (ren (ioN ids s.next) out) (s.ioS ids N rows)) : @VcCall P w0 T0 f args s ⟨K⟩ := by
  refine ⟨hE, fun H a w m vals hm hv => ?_⟩
  have hp1 : ∀ j, j < ids.length → ∃ i, ids[j]? = some i ∧ ioN ids s.next j = i := fun j hj => ⟨ids[j], List.getElem?_eq_getElem hj, by simp [ioN, List.getElem?_eq_getElem hj]⟩
  have hp2 : ∀ j, ids.length ≤ j → ioN ids s.next j = s.next + (j - ids.length) := fun j hj => by simp [ioN, List.getElem?_eq_none hj]
  have h0' : ∀ j it, lk rows0 j = some it → j < ids.length ∧ lk s.rows (ioN ids s.next j) = some (it.ren (ioN ids s.next)) ∧ it.below ids.length = true := fun j it hj => subOk_mem h0 j it (lk_mem hj)
  have hmem : ∀ i, i ∈ ids → ∃ j it, j < ids.length ∧ ioN ids s.next j = i ∧ lk rows0 j = some it := by
    intro i hi
    obtain ⟨j, hj, e⟩ := List.getElem_of_mem hi
    obtain ⟨it, hit⟩ := hcov j hj
    exact ⟨j, it, hj, by simp [ioN, List.getElem?_eq_getElem hj, e], hit⟩
  have hsrc : ∀ j, j < ids.length → ioN ids s.next j < s.next := fun j hj => by
    obtain ⟨it, hit⟩ := hcov j hj
    exact (hm.rows _ _ (h0' j it hit).2.1).1
  have hinj : ∀ i j, ioN ids s.next i = ioN ids s.next j → i = j := by
    intro i j e
    by_cases hi : i < ids.length <;> by_cases hj : j < ids.length
    · obtain ⟨x, hx, ex⟩ := hp1 i hi
      obtain ⟨y, hy, ey⟩ := hp1 j hj
      rw [ex, ey] at e; subst e
      exact nodup_get hd hx hy
    · have := hsrc i hi; rw [e, hp2 j (by omega)] at this; omega
    · have := hsrc j hj; rw [← e, hp2 i (by omega)] at this; omega
    · rw [hp2 i (by omega), hp2 j (by omega)] at e; omega
  let T : Nat → Prop := allow T0 w0.heap.size m s.rows
  let g : Nat → Prop := fun b => ∃ j it, lk rows0 j = some it ∧ blk (m (ioN ids s.next j)) = some b
  let m0 : Nat → Value := fun j => m (ioN ids s.next j)
  have hctx : CtxRen (ioN ids s.next) (ctxOf T0 w0.heap.size m s w) ⟨w, T, m0, ids.length⟩ := ⟨fun _ _ => rfl, fun b hb _ => ⟨hb, rfl⟩⟩
  have hown : ∀ i it, lk s.rows i = some it → ∀ b, blk (m i) = some b → ownB T0 w0.heap.size b ∧ b < w.heap.size := fun i it hi b hb => (hm.rows i it hi).2.blk b hb
  have hG : GivenOk w T g m0 ids.length rows0 := by
    refine ⟨fun j it hj => ?_, fun i j it jt b hi hj hbi hbj => ?_, fun b hb hg => ?_⟩
    · obtain ⟨h1, h2, h3⟩ := h0' j it hj
      refine ⟨h1, (ItemOk.ren hctx rfl h3 (hm.rows _ _ h2).2).blkOwn fun b hb => ⟨j, it, hj, hb⟩⟩
    · obtain ⟨_, h2, _⟩ := h0' i it hi
      obtain ⟨_, h2', _⟩ := h0' j jt hj
      exact hinj i j (hm.sep _ _ _ _ b h2 h2' hbi hbj)
    · obtain ⟨j, it, hj, hbj⟩ := hg
      exact hb.2 _ _ (h0' j it hj).2.1 hbj
  have hgg : ∀ (b : Nat) (q : IntKind), intGl P b = some q → ¬ g b := by
    rintro b q hq ⟨j, it, hj, hb⟩
    obtain ⟨n, t, _, hh⟩ := hgb.ok b q hq
    have hlt := (Array.getElem?_eq_some_iff.1 hh).1
    rcases (hown _ _ (h0' j it hj).2.1 b hb).1 with h | h
    · omega
    · exact hgb.ng b q hq h
  refine (hcall H a w m vals hm hv hG hgg).mono ?_
  rintro e w' ⟨v, rfl, hbel, mo, No, hmo, hkNo, hout, hrows, hsep⟩
  refine ⟨v, rfl, _, _, hk, ?_⟩
  have hgs : ∀ b, g b → (∃ i it, lk s.rows i = some it ∧ blk (m i) = some b) := fun b ⟨j, it, hj, hb⟩ => ⟨_, _, (h0' j it hj).2.1, hb⟩
  have hNr' := rowsB_lk hNr
  have hitem : ∀ i it, lk rows i = some it → ItemOk ⟨w', allow ⟨fun b => T b ∨ g b, g⟩ w.heap.size mo rows, mo, N⟩ (ownB ⟨fun b => T b ∨ g b, g⟩ w.heap.size) (mo i) it := fun i it hi => ((hrows i it hi).2).cut (hNr' i it hi).2
  let m2 : Nat → Value := fun i => if i < s.next then m i else mo (ids.length + (i - s.next))
  have hm2 : ∀ i, i < s.next → m2 i = m i := fun i hi => if_pos hi
  have hm3 : ∀ j, m2 (ioN ids s.next j) = mo j := fun j => by
    by_cases hj : j < ids.length
    · rw [hm2 _ (hsrc j hj)]; exact (hmo j hj).symm
    · rw [hp2 j (by omega)]
      show (if s.next + (j - ids.length) < s.next then _ else _) = _
      rw [if_neg (by omega)]; congr 1; omega
  have hlt : ∀ i it, lk s.rows i = some it → i < s.next := fun i it hi => (hm.rows i it hi).1
  have hrest : ∀ i it, lk (delL s.rows ids) i = some it → i ∉ ids ∧ lk s.rows i = some it := by
    intro i it hi
    rw [lk_delL] at hi
    split at hi
    · cases hi
    · rename_i e; exact ⟨e, hi⟩
  have hcases : ∀ i it, lk (s.ioS ids N rows).rows i = some it → (∃ j jt, i = ioN ids s.next j ∧ lk rows j = some jt ∧ it = jt.ren (ioN ids s.next)) ∨ (i ∉ ids ∧ lk s.rows i = some it) := by
    intro i it hi
    have hi' : lk (ioRows (ioN ids s.next) rows ++ delL s.rows ids) i = some it := hi
    rw [lk_append] at hi'
    cases hq : lk (ioRows (ioN ids s.next) rows) i with
    | some y =>
      rw [hq] at hi'; cases hi'
      exact .inl (lk_ioRows_of (S := fun _ => True) (fun i j _ _ e => hinj i j e) (fun _ _ => trivial) hq)
    | none => rw [hq] at hi'; exact .inr (hrest i it hi')
  have hnotg : ∀ i it, i ∉ ids → lk s.rows i = some it → ∀ b, blk (m i) = some b → ¬ g b := by
    rintro i it hni hi b hb ⟨j, jt, hj, hbj⟩
    obtain ⟨h1, h2, _⟩ := h0' j jt hj
    have := hm.sep _ _ _ _ b hi h2 hb hbj
    obtain ⟨x, hx, ex⟩ := hp1 j h1
    exact hni (by rw [this, ex]; exact List.mem_of_getElem? hx)
  have hnewB : ∀ j jt, lk rows j = some jt → ∀ b, blk (mo j) = some b → w.heap.size ≤ b ∨ g b := fun j jt hj b hbl => (((hrows j jt hj).2.blk b hbl).1).imp id (·.1)
  have hle : CtxLe (ctxOf T0 w0.heap.size m s w) (ctxOf T0 w0.heap.size m2 (s.ioS ids N rows) w') := by
    refine ⟨Nat.le_add_right _ _, hm2, ?_⟩
    intro b hb hltb
    have hbg : ¬ g b := fun hg => by
      obtain ⟨i, it, hi, hbi⟩ := hgs b hg
      exact hb.2 i it hi hbi
    refine ⟨⟨hb.1, fun i it hi e => ?_⟩, hbel.block b hltb hbg⟩
    rcases hcases i it hi with ⟨j, jt, rfl, hj, _⟩ | ⟨hni, hi'⟩
    · rw [hm3] at e
      rcases hnewB j jt hj b e with h | h
      · have hlt2 : b < w.heap.size := hltb; omega
      · exact hbg h
    · rw [hm2 i (hlt i it hi')] at e; exact hb.2 i it hi' e
  have hsh : CtxSh (ioN ids s.next) (⟨w', allow ⟨fun b => T b ∨ g b, g⟩ w.heap.size mo rows, mo, N⟩ : Ctx) (ctxOf T0 w0.heap.size m2 (s.ioS ids N rows) w') := by
    refine ⟨fun i hi => ?_, fun i _ => hm3 i, ?_⟩
    · show ioN ids s.next i < s.next + (N - ids.length)
      by_cases hj : i < ids.length
      · have := hsrc i hj; omega
      · rw [hp2 i (by omega)]; have : i < N := hi; omega
    intro b ⟨h1, h2⟩ _
    have hlt0 := hm.lt
    have hb1 : w0.heap.size ≤ b ∨ T0.a b := by
      rcases h1 with h1 | h1 | h1
      · exact .inl (by omega)
      · exact h1.1
      · obtain ⟨i, it, hi, hbi⟩ := hgs b h1
        exact ((hown i it hi b hbi).1).imp id (·.2)
    refine ⟨⟨hb1, fun i it hi e => ?_⟩, rfl⟩
    rcases hcases i it hi with ⟨j, jt, rfl, hj, _⟩ | ⟨hni, hi'⟩
    · rw [hm3] at e; exact h2 j jt hj e
    · rw [hm2 i (hlt i it hi')] at e
      rcases h1 with h1 | h1 | h1
      · have := (hown i it hi' b e).2; omega
      · exact h1.2 i it hi' e
      · exact hnotg i it hni hi' b e h1
  have hOO : ∀ b, ownB ⟨fun b => T b ∨ g b, g⟩ w.heap.size b → ownB T0 w0.heap.size b := fun b hb => by
    rcases hb with hb | hb
    · exact .inl (Nat.le_trans hm.lt hb)
    · obtain ⟨i, it, hi, hbi⟩ := hgs b hb.1
      exact (hown i it hi b hbi).1
  refine ⟨m2, RepM.hold (s := s.ioS ids N rows) ?_ ((hout.cut hN).shift hsh)⟩
  refine { size := hm.size, nodef := hm.nodef, below := ?_, env := fun r u hu => (hm.env r u hu).mono hle, held := fun q hq => (hm.held q hq).mono hle, rows := ?_, sep := ?_ }
  · refine hm.below.step hbel.os hbel.tape hbel.output hbel.size (fun b hb hn => hbel.block b (Nat.lt_of_lt_of_le hb hm.lt) fun hg => ?_) hbel.drawn
    obtain ⟨i, it, hi, hbi⟩ := hgs b hg
    rcases (hown i it hi b hbi).1 with h | h
    · omega
    · exact hn h
  · intro i it hi
    rcases hcases i it hi with ⟨j, jt, rfl, hj, rfl⟩ | ⟨hni, hi'⟩
    · refine ⟨hsh.n j (hNr' j jt hj).1, ?_⟩
      rw [hm3]
      exact (hitem j jt hj).shift hsh rfl hOO
    · have hl := hlt i it hi'
      refine ⟨by show i < s.next + _; omega, ?_⟩
      rw [hm2 i hl]
      exact ((hm.rows i it hi').2).mono hle fun b hbl => hbel.block b ((hown i it hi' b hbl).2) (hnotg i it hni hi' b hbl)
  · intro i j it jt b hi hj hbi hbj
    rcases hcases i it hi with ⟨i', it', rfl, hi', _⟩ | ⟨hni, hi'⟩ <;> rcases hcases j jt hj with ⟨j', jt', rfl, hj', _⟩ | ⟨hnj, hj'⟩
    · rw [hm3] at hbi hbj
      rw [hsep i' j' it' jt' b hi' hj' hbi hbj]
    · rw [hm3] at hbi; rw [hm2 j (hlt j jt hj')] at hbj
      have h5 := (hown j jt hj' b hbj).2
      rcases hnewB i' it' hi' b hbi with h | h
      · omega
      · exact absurd h (hnotg j jt hnj hj' b hbj)
    · rw [hm3] at hbj; rw [hm2 i (hlt i it hi')] at hbi
      have h5 := (hown i it hi' b hbi).2
      rcases hnewB j' jt' hj' b hbj with h | h
      · omega
      · exact absurd h (hnotg i it hni hi' b hbi)
    · rw [hm2 i (hlt i it hi')] at hbi; rw [hm2 j (hlt j jt hj')] at hbj
      exact hm.sep i j it jt b hi' hj' hbi hbj
/-- A CALL BY SUCH A CONTRACT: 'ids': what is given. -/
theorem VcCall.io [hgb : GlB P w0 T0] {f : Nat} {args args' : List AV} {rows0 : List (Nat × Item)} {out : AV} {rows : List (Nat × Item)} {s : S} {K : AV → S → Prop} (ids : List Nat) (h : FnIO P f args' rows0 ids.length out rows) (hd : ids.Nodup)
    (ha : args = renL (ioN ids s.next) args') (hab : belowL ids.length args' = true) (h0 : subOk (ioN ids s.next) s.rows ids.length rows0) (hcov : ∀ j, j < ids.length → ∃ it, lk rows0 j = some it) (N : Nat) (hkN : ids.length ≤ N) (hN : Fv.below N out = true) (hNr : rowsB N rows)
    (hk : K (ren (ioN ids s.next) out) (s.ioS ids N rows)) : @VcCall P w0 T0 f args s ⟨K⟩ := by
  subst ha
  exact VcCall.ioCore ids h.1 hd (fun H a w m vals hm hv hG hgg => by
    have hctx : CtxRen (ioN ids s.next) (ctxOf T0 w0.heap.size m s w) ⟨w, allow T0 w0.heap.size m s.rows, fun j => m (ioN ids s.next j), ids.length⟩ := ⟨fun _ _ => rfl, fun b hb _ => ⟨hb, rfl⟩⟩
    exact h.2 w _ _ _ vals hG (GlB.at hm) hgg (RvT.ren hctx args' hab hv)) h0 hcov N hkN hN hNr hk

theorem ItemOk.anyT {w : World} {T T' : Nat → Prop} {m : Nat → Value} {N : Nat} {O : Nat → Prop} {v : Value} {it : Item} (ho : ItemOk ⟨w, T, m, N⟩ O v it) (hn : noRoItem it = true) : ItemOk ⟨w, T', m, N⟩ O v it := by
  cases it with
  | row e r => obtain ⟨n, cells, hc, hq⟩ := ho; exact ⟨n, cells, hc.anyT hn, hq⟩
  | box e cs => obtain ⟨g, vs, hv', hg, hl, hq⟩ := ho; exact ⟨g, vs, hv', hg, hl.anyT hn, hq⟩
  | map ks vs =>
    simp only [noRoItem, Bool.and_eq_true] at hn
    obtain ⟨g, es, clock, hv', hg, h1, h2, h3, h4, hq⟩ := ho; exact ⟨g, es, clock, hv', hg, h1.anyT hn.1, h2.anyT hn.2, h3, h4, hq⟩
  | iter mp since seen => exact ho
end
end Go.Fv
