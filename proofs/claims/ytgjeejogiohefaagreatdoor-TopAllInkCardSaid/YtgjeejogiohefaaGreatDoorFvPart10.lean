/-
  A part of the proof of the claim: walks over the program's functions and the plain laws that these need. No condition of its own.
-/
import Derived.Test.YtgjeejogiohefaaGreatDoorFvPart9
import Derived.Test.YtgjeejogiohefaaGreatDoorFvPart8
namespace Go.Fv
set_option linter.unusedSectionVars false
open Go.RowKit
set_option linter.unusedVariables false
set_option linter.unusedSimpArgs false
set_option linter.unnecessarySimpa false

theorem mem_accKeep {ks : List Nat} {x : Nat × Acc} (hk : esMem ks x.1 = true) : ∀ {l : List (Nat × Acc)}, x ∈ l → x ∈ accKeep ks l
  | y :: l, h => by
    unfold accKeep
    rcases List.mem_cons.1 h with rfl | h
    · rw [hk]; exact .head _
    · cases esMem ks y.1 with
      | true => exact .tail _ (mem_accKeep hk h)
      | false => exact mem_accKeep hk h
theorem esMem_mem {l : List Nat} {i : Nat} : esMem l i = true ↔ i ∈ l := by
  rw [esMem_eq]; simp

section
variable {P : Program} {w0 : World} {T0 : Bs} {b0 : Nat} {ops : Array Oper} {T : List Nat} {H : List (AV × Value)} [hG : GlB P w0 T0]

theorem redoT_mem {n : Nat} {R : List (Nat × Item)} {N : Nat} {x : Nat × Acc} {l : List (Nat × Acc)} (h : redoT P w0 T0 n R N l) (hx : x ∈ l) : redoC P w0 T0 n x.2 (R, N) := by
  induction l with
  | nil => cases hx
  | cons y l ih =>
    obtain ⟨j, o, g, env, v, ks⟩ := y
    have h1 : redoH P w0 T0 n o g env v R N := h.1
    have h2 : redoT P w0 T0 n R N l := h.2
    rcases List.mem_cons.1 hx with rfl | hx
    · unfold redoH at h1; unfold redoC
      cases g with
      | none => exact h1
      | some c => exact h1
    · exact ih h2 hx

theorem set_getD_self {vs : List AV} {i : Nat} {v : AV} (h : i < vs.length) : (vs.set i v).getD i .dead = v := by
  simp [List.getD_eq_getElem?_getD, h]
theorem set_getD_ne {vs : List AV} {i j : Nat} {v : AV} (h : i ≠ j) : (vs.set i v).getD j .dead = vs.getD j .dead := by
  simp [List.getD_eq_getElem?_getD, List.getElem?_set, h]

theorem putS_get (hok : LexOk ops [] [] T) {s0 s : S} {vs : List AV} {V : Array Bool} {i : Nat} {o : Oper} {v : AV} {R : List (Nat × Item)} {N : Nat} (ho : ops[i]? = some o) (hs : V.size = ops.size) (hl : vs.length = ops.size) (hV : V.getD i false = false) (hg : ∀ r, s.get r = stG ops s0 vs V r) :
    ∀ r, (putS o.dst v ⟨s.n, s.env, R, N⟩).get r = stG ops s0 (vs.set i v) (V.setIfInBounds i true) r := by
  intro r
  have hilt := (Array.getElem?_eq_some_iff.1 ho).1
  have h := stG_put hok (s0 := s0) (vs := vs.set i v) (g := s.get) ho hs (fun r => (hg r).trans (stG_set hV r).symm) r
  rw [set_getD_self (by omega)] at h
  rw [← h]
  unfold putS
  cases o.dst with
  | none => rfl
  | some d => exact get_cons

theorem VInv.quiet (hok : LexOk ops [] [] T) {s0 s : S} {vs : List AV} {V : Array Bool} {Pd : List Nat} {acc acc' : List (Nat × Acc)} {i : Nat} {o : Oper} {v : AV} (hv : VInv P w0 T0 ops s0 vs V Pd acc s) (ho : ops[i]? = some o) (hd : Dp V o) (hV : V.getD i false = false)
    (hq : QS P w0 T0 ops o s.n s.get (s.rows, s.next) (s.rows, s.next) v) (hr : (∀ h, QS P w0 T0 ops o s.n s.get h h v) ∨ ∃ x, (i, x) ∈ acc' ∧ ∀ h, redoC P w0 T0 s.n x h → QS P w0 T0 ops o s.n s.get h h v)
    (hsub : ∀ x, x ∈ acc → x ∈ acc') (hdst : dstOk o.dst s.n) : VInv P w0 T0 ops s0 (vs.set i v) (V.setIfInBounds i true) (i :: Pd) acc' (putS o.dst v s) := by
  have hilt := (Array.getElem?_eq_some_iff.1 ho).1
  have hVs : (V.setIfInBounds i true).getD i false = true := by
    have : i < V.size := by rw [hv.vsize]; exact hilt
    simp [this]
  have hup : ∀ j, V.getD j false = true → (V.setIfInBounds i true).getD j false = true := fun j hj => getD_set_true hj
  have hrows : (putS o.dst v s).rows = s.rows ∧ (putS o.dst v s).next = s.next ∧ (putS o.dst v s).n = s.n := by
    unfold putS; cases o.dst <;> exact ⟨rfl, rfl, rfl⟩
  have conv : ∀ {h h' : HpS}, QS P w0 T0 ops o s.n s.get h h' v → QS P w0 T0 ops o s0.n (stG ops s0 (vs.set i v) V) h h' ((vs.set i v).getD i .dead) := by
    intro h h' hh
    rw [set_getD_self (by rw [hv.vlen]; exact hilt), ← hv.n]
    exact hh.congr fun r _ => by rw [stG_set hV]; exact (hv.sget r).symm
  refine ⟨by simpa using hv.vsize, by simpa using hv.vlen, hv.cl.set ho hd, by rw [hrows.2.2]; exact hv.n, ?_, ?_, ?_⟩
  · exact putS_get hok (R := s.rows) (N := s.next) ho hv.vsize hv.vlen hV hv.sget
  · intro j hj
    rcases List.mem_cons.1 hj with rfl | hj
    · refine ⟨hVs, fun o' ho' => ?_⟩
      rw [ho] at ho'; cases ho'
      refine ⟨V, hv.vsize, hv.cl, hup, hd, hV, ?_, ?_⟩
      · rw [hrows.1, hrows.2.1]; exact conv hq
      · rcases hr with h | ⟨x, hx, h⟩
        · exact .inl fun h' => conv (h h')
        · exact .inr ⟨x, hx, fun h' hc => conv (h h' (by rw [hv.n]; exact hc))⟩
    · obtain ⟨h1, h2⟩ := hv.pd j hj
      have hne : i ≠ j := by rintro rfl; rw [hV] at h1; cases h1
      refine ⟨hup j h1, fun o' ho' => ?_⟩
      obtain ⟨U, u1, u2, u3, u4, u5, u6, u7⟩ := h2 o' ho'
      have hUi : U.getD i false = false := by
        cases hu : U.getD i false with
        | false => rfl
        | true => have := u3 i hu; rw [hV] at this; cases this
      have cv : ∀ {h h' : HpS}, QS P w0 T0 ops o' s0.n (stG ops s0 vs U) h h' (vs.getD j .dead) → QS P w0 T0 ops o' s0.n (stG ops s0 (vs.set i v) U) h h' ((vs.set i v).getD j .dead) := by
        intro h h' hh
        rw [set_getD_ne hne]
        exact hh.congr fun r _ => stG_set hUi r
      refine ⟨U, u1, u2, fun k hk => hup k (u3 k hk), u4, u5, ?_, ?_⟩
      · rw [hrows.1, hrows.2.1]; exact cv u6
      · rcases u7 with h | ⟨x, hx, h⟩
        · exact .inl fun h' => cv (h h')
        · exact .inr ⟨x, hsub _ hx, fun h' hc => cv (h h' hc)⟩
  · intro j oj d hj hoj hdj
    by_cases e : i = j
    · subst e
      rw [ho] at hoj; cases hoj
      rw [hdj] at hdst
      rw [← hv.n]; exact hdst
    · rw [getD_set_ne false e] at hj
      exact hv.put j oj d hj hoj hdj

theorem VInv.eff (hok : LexOk ops [] [] T) {s0 s : S} {vs : List AV} {V : Array Bool} {Pd ks : List Nat} {acc : List (Nat × Acc)} {i : Nat} {o : Oper} {v : AV} {R : List (Nat × Item)} {N : Nat} (hv : VInv P w0 T0 ops s0 vs V Pd acc s) (ho : ops[i]? = some o) (hd : Dp V o) (hV : V.getD i false = false)
    (hks : ∀ j, j ∈ ks → j ∈ Pd) (hre : redoT P w0 T0 s.n R N (accKeep ks acc)) (hdst : dstOk o.dst s.n) : VInv P w0 T0 ops s0 (vs.set i v) (V.setIfInBounds i true) ks (accKeep ks acc) (putS o.dst v ⟨s.n, s.env, R, N⟩) := by
  have hilt := (Array.getElem?_eq_some_iff.1 ho).1
  have hup : ∀ j, V.getD j false = true → (V.setIfInBounds i true).getD j false = true := fun j hj => getD_set_true hj
  have hrows : (putS o.dst v ⟨s.n, s.env, R, N⟩).rows = R ∧ (putS o.dst v ⟨s.n, s.env, R, N⟩).next = N ∧ (putS o.dst v ⟨s.n, s.env, R, N⟩).n = s.n := by
    unfold putS; cases o.dst <;> exact ⟨rfl, rfl, rfl⟩
  refine ⟨by simpa using hv.vsize, by simpa using hv.vlen, hv.cl.set ho hd, by rw [hrows.2.2]; exact hv.n, ?_, ?_, ?_⟩
  · exact putS_get hok ho hv.vsize hv.vlen hV hv.sget
  · intro j hj
    obtain ⟨h1, h2⟩ := hv.pd j (hks j hj)
    have hne : i ≠ j := by rintro rfl; rw [hV] at h1; cases h1
    refine ⟨hup j h1, fun o' ho' => ?_⟩
    obtain ⟨U, u1, u2, u3, u4, u5, u6, u7⟩ := h2 o' ho'
    have hUi : U.getD i false = false := by
      cases hu : U.getD i false with
      | false => rfl
      | true => have := u3 i hu; rw [hV] at this; cases this
    have cv : ∀ {h h' : HpS}, QS P w0 T0 ops o' s0.n (stG ops s0 vs U) h h' (vs.getD j .dead) → QS P w0 T0 ops o' s0.n (stG ops s0 (vs.set i v) U) h h' ((vs.set i v).getD j .dead) := by
      intro h h' hh
      rw [set_getD_ne hne]
      exact hh.congr fun r _ => stG_set hUi r
    refine ⟨U, u1, u2, fun k hk => hup k (u3 k hk), u4, u5, ?_, ?_⟩
    · rw [hrows.1, hrows.2.1]
      rcases u7 with h | ⟨x, hx, h⟩
      · exact cv (h _)
      · have := redoT_mem hre (mem_accKeep (x := (j, x)) (esMem_mem.2 hj) hx)
        rw [hv.n] at this
        exact cv (h _ this)
    · rcases u7 with h | ⟨x, hx, h⟩
      · exact .inl fun h' => cv (h h')
      · exact .inr ⟨x, mem_accKeep (x := (j, x)) (esMem_mem.2 hj) hx, fun h' hc => cv (h h' hc)⟩
  · intro j oj d hj hoj hdj
    by_cases e : i = j
    · subst e
      rw [ho] at hoj; cases hoj
      rw [hdj] at hdst
      rw [← hv.n]; exact hdst
    · rw [getD_set_ne false e] at hj
      exact hv.put j oj d hj hoj hdj

/-- What the tree's step says of a quiet operation. -/
theorem quiet_of (hok : LexOk ops [] [] T) {s : S} {i : Nat} {o : Oper} {t : LTree} {acc : List (Nat × Acc)} {Q : S → Prop} (ho : ops[i]? = some o) (h : vcFork P w0 T0 ops (.quiet i t) acc s Q) :
    ∃ v acc', QS P w0 T0 ops o s.n s.get (s.rows, s.next) (s.rows, s.next) v ∧ ((∀ h, QS P w0 T0 ops o s.n s.get h h v) ∨ ∃ x, (i, x) ∈ acc' ∧ ∀ h, redoC P w0 T0 s.n x h → QS P w0 T0 ops o s.n s.get h h v) ∧
      (∀ x, x ∈ acc → x ∈ acc') ∧ dstOk o.dst s.n ∧ vcFork P w0 T0 ops t acc' (putS o.dst v s) Q := by
  have hrd := hok.reads i o ho
  unfold vcFork at h
  rw [ho] at h
  dsimp only at h
  cases hg : gd ops s o with
  | none => rw [hg] at h; exact h.elim
  | some g =>
    rw [hg] at h
    simp only [gGo] at h
    have gen : ∀ v, qCond P w0 T0 o g s v → dstOk o.dst s.n → vcFork P w0 T0 ops t ((i, ⟨o, g, lxEnv g s (rOps o.op), v, []⟩) :: acc) (putS o.dst (lxPut g v) s) Q → ∃ v acc', QS P w0 T0 ops o s.n s.get (s.rows, s.next) (s.rows, s.next) v ∧ ((∀ h, QS P w0 T0 ops o s.n s.get h h v) ∨ ∃ x, (i, x) ∈ acc' ∧ ∀ h, redoC P w0 T0 s.n x h → QS P w0 T0 ops o s.n s.get h h v) ∧
      (∀ x, x ∈ acc → x ∈ acc') ∧ dstOk o.dst s.n ∧ vcFork P w0 T0 ops t acc' (putS o.dst v s) Q := by
      intro v hA hds hk
      cases g with
      | none =>
        refine ⟨v, _, QS.plain (h := (s.rows, s.next)) (h' := (s.rows, s.next)) (gd_none hg) (qVc_opE (h := (s.rows, s.next)) hrd hA), .inr ⟨_, .head _, fun h hc => QS.plain (h := h) (h' := h) (gd_none hg) (qVc_opE (h := h) hrd ?_)⟩, fun x hx => .tail _ hx, hds, hk⟩
        simp only [redoC, qVc] at hc
        exact hc
      | some c =>
        refine ⟨.opt c v, _, QS.guarded (h := (s.rows, s.next)) (h' := (s.rows, s.next)) hg (fun e => qVc_opP (h := (s.rows, s.next)) hrd (hA.2 e).1 (hA.2 e).2) (fun _ => ⟨rfl, hA.1⟩), .inr ⟨_, .head _, fun h hc => ?_⟩, fun x hx => .tail _ hx, hds, hk⟩
        simp only [redoC, qVc] at hc
        exact QS.guarded (h := h) (h' := h) hg (fun e => qVc_opP (h := h) hrd (hA.2 e).1 (hc.2 e)) (fun _ => ⟨rfl, hc.1⟩)
    unfold qRes at h
    cases hp : gPick ⟨s.n, onlyE s (rOps o.op), s.rows, s.next⟩ o.op with
    | some pb =>
      obtain ⟨pre, b⟩ := pb
      rw [hp] at h
      cases g with
      | none =>
        obtain ⟨⟨h1, h2⟩, h3, h4⟩ := h
        have hall : ∀ h : HpS, QS P w0 T0 ops o s.n s.get h h (.bool b) := fun h => QS.plain (gd_none hg) (gPick_op hrd hp h1 h2)
        exact ⟨_, acc, hall _, .inl hall, fun _ h => h, h3, h4⟩
      | some c =>
        obtain ⟨h1, h3, h4⟩ := h
        have hall : ∀ h : HpS, QS P w0 T0 ops o s.n s.get h h (.opt c (.bool b)) := fun h => QS.guarded hg (fun e => gPick_op hrd hp (h1 e).1 (h1 e).2) (fun _ => ⟨rfl, rfl⟩)
        exact ⟨_, acc, hall _, .inl hall, fun _ h => h, h3, h4⟩
    | none =>
      rw [hp] at h
      dsimp only at h
      cases hv : gVal P ⟨s.n, lxEnv g s (rOps o.op), s.rows, s.next⟩ o.op with
      | some v =>
        rw [hv] at h
        obtain ⟨h1, h3, h4⟩ := h
        exact gen v h1 h3 h4
      | none =>
        rw [hv] at h
        cases g with
        | some c =>
          obtain ⟨v, h1, h3, h4⟩ := (h : @QV ⟨_, _⟩)
          exact gen v h1 h3 h4
        | none =>
          cases hl : isLin o.op with
          | false =>
            rw [hl] at h
            obtain ⟨v, h1, h3, h4⟩ := (h : @QV ⟨_, _⟩)
            exact gen v h1 h3 h4
          | true =>
            rw [hl] at h
            obtain ⟨v, t, ⟨⟨hr, hx⟩, h3, h4⟩, hall⟩ := lin_op hl _ h
            exact gen v (hall _ ⟨rfl, hr, hx⟩) h3 h4

theorem eff_of (hok : LexOk ops [] [] T) {s : S} {i : Nat} {o : Oper} {ks : List Nat} {t r : LTree} {acc : List (Nat × Acc)} {Q : S → Prop} (ho : ops[i]? = some o) (h : vcFork P w0 T0 ops (.eff i ks t r) acc s Q) :
    (∃ v R N, QS P w0 T0 ops o s.n s.get (s.rows, s.next) (R, N) v ∧ redoT P w0 T0 s.n R N (accKeep ks acc) ∧ dstOk o.dst s.n ∧ vcFork P w0 T0 ops t (accKeep ks acc) (putS o.dst v ⟨s.n, s.env, R, N⟩) Q) ∧ vcFork P w0 T0 ops r acc s Q := by
  have hrd := hok.reads i o ho
  unfold vcFork at h
  rw [ho] at h
  dsimp only at h
  refine ⟨?_, h.2⟩
  have h := h.1
  cases hg : gd ops s o with
  | none => rw [hg] at h; exact h.elim
  | some g =>
    rw [hg] at h
    simp only [gGo] at h
    cases g with
    | none =>
      dsimp only at h
      cases hl : isLin o.op with
      | false =>
        rw [hl] at h
        obtain ⟨v, R, N, h1, h2, h3, h4⟩ := (h : @QE ⟨_, _⟩)
        exact ⟨v, R, N, QS.plain (h := (s.rows, s.next)) (h' := (R, N)) (gd_none hg) (qVc_opE (h := (s.rows, s.next)) hrd h1), h2, h3, h4⟩
      | true =>
        rw [hl] at h
        obtain ⟨v, t', ⟨h2, h3, h4⟩, hall⟩ := lin_op hl _ h
        exact ⟨v, t'.rows, t'.next, QS.plain (h := (s.rows, s.next)) (h' := (t'.rows, t'.next)) (gd_none hg) (qVc_opE (h := (s.rows, s.next)) hrd (hall _ ⟨rfl, rfl, rfl⟩)), h2, h3, h4⟩
    | some c =>
      dsimp only at h
      cases c with
      | true =>
        obtain ⟨v, R, N, ⟨hpc, hA⟩, h2, h3, h4⟩ := h.1 rfl
        exact ⟨.opt true v, R, N, QS.guarded (h := (s.rows, s.next)) (h' := (R, N)) hg (fun _ => qVc_opP (h := (s.rows, s.next)) hrd hpc hA) (fun e => by cases e), h2, h3, h4⟩
      | false =>
        obtain ⟨h2, h3, h4⟩ := h.2 rfl
        exact ⟨.opt false (.bool false), s.rows, s.next, QS.guarded (h := (s.rows, s.next)) (h' := (s.rows, s.next)) hg (fun e => by cases e) (fun _ => ⟨rfl, rfl⟩), h2, h3, h4⟩

theorem fork_sound (hok : LexOk ops [] [] T) {s0 : S} {Q : S → Prop} : ∀ t : LTree,
    (∀ V Pd acc s vs, forkOk ops T t true V Pd = true → VInv P w0 T0 ops s0 vs V Pd acc s → vcFork P w0 T0 ops t acc s Q → ∀ fuel L env a w, openN L ops.size = fuel → RInv w0 T0 H ops s0 vs V Pd s L env a w → wpAny P .any ops (fun e a' w' => e = .normal ∧ ∃ s', Q s' ∧ Rep w0 T0 H s' a' w') fuel L a w) ∧
    (∀ V Pd acc s vs, forkOk ops T t false V Pd = true → VInv P w0 T0 ops s0 vs V Pd acc s → vcFork P w0 T0 ops t acc s Q → ∀ i, i ∈ altIds t → ∀ fuel L env a w, RInv w0 T0 H ops s0 vs V Pd s L env a w → ∀ o, ops[i]? = some o → Dp L o → openN L ops.size = fuel + 1 → wpOp P ops (fun e a' w' => e = .normal ∧ ∃ s', Q s' ∧ Rep w0 T0 H s' a' w') i (wpAny P .any ops (fun e a' w' => e = .normal ∧ ∃ s', Q s' ∧ Rep w0 T0 H s' a' w') fuel (L.setIfInBounds i true)) a w) := by
  have inL : ∀ {V L : Array Bool} {Pd : List Nat} {s : S} {vs : List AV} {env : List (Nat × AV)} {a : Act} {w : World}, RInv w0 T0 H ops s0 vs V Pd s L env a w → ∀ {o : Oper}, Dp L o → Dp V o := fun inv o hd e he hb => inv.sub _ (hd e he hb)
  have notL : ∀ {V L : Array Bool} {Pd : List Nat} {s : S} {vs : List AV} {env : List (Nat × AV)} {a : Act} {w : World}, RInv w0 T0 H ops s0 vs V Pd s L env a w → ∀ {i : Nat}, V.getD i false = false → L.getD i false = false := by
    intro V L Pd s vs env a w inv i hi
    cases hL : L.getD i false with
    | false => rfl
    | true => have := inv.sub i hL; rw [hi] at this; cases this
  intro t
  induction t with
  | done =>
    refine ⟨?_, fun V Pd acc s vs hf => by simp [forkOk] at hf⟩
    intro V Pd acc s vs hf hv h
    simp only [forkOk, Bool.true_and] at hf
    have hall : ∀ i, i < ops.size → V.getD i false = true := fun i hi => List.all_eq_true.1 hf i (List.mem_range.2 hi)
    refine fork_run hok hv (fun _ => h) fun fuel L env a w inv i o ho hd hV => ?_
    rw [hall i (Array.getElem?_eq_some_iff.1 ho).1] at hV; cases hV
  | none =>
    exact ⟨fun V Pd acc s vs hf => by simp [forkOk] at hf, fun V Pd acc s vs hf hv h i hi => by cases hi⟩
  | quiet i t ih =>
    refine ⟨?_, fun V Pd acc s vs hf => by simp [forkOk] at hf⟩
    intro V Pd acc s vs hf hv h fuel L env a w hfu inv
    simp only [forkOk, Bool.true_and, Bool.and_eq_true, decide_eq_true_eq, Bool.not_eq_true'] at hf
    obtain ⟨⟨⟨hi, hV⟩, hdp⟩, hf⟩ := hf
    obtain ⟨o, ho⟩ : ∃ o, ops[i]? = some o := ⟨ops[i], Array.getElem?_eq_getElem hi⟩
    have hd := (depsB_spec ho).1 hdp
    obtain ⟨v, acc', h1, h2, h3, h4, h5⟩ := quiet_of hok ho h
    have hL := notL inv hV
    refine ih.1 _ _ _ _ _ hf (hv.quiet hok ho hd hV h1 h2 h3 h4) h5 fuel L env a w hfu ?_
    have hrows : (putS o.dst v s).rows = s.rows ∧ (putS o.dst v s).next = s.next := by unfold putS; cases o.dst <;> exact ⟨rfl, rfl⟩
    refine ⟨inv.size, inv.cl, fun j hj => getD_set_true (inv.sub j hj), fun r => by rw [stG_set hL]; exact inv.get r, by rw [hrows.1, hrows.2]; exact inv.rep, fun j hj hj' => ?_⟩
    by_cases e : i = j
    · subst e; exact .head _
    · rw [getD_set_ne false e] at hj
      exact .tail _ (inv.pd j hj hj')
  | eff i ks t r iht ihr =>
    have alt : ∀ V Pd acc s vs, forkOk ops T (.eff i ks t r) false V Pd = true → VInv P w0 T0 ops s0 vs V Pd acc s → vcFork P w0 T0 ops (.eff i ks t r) acc s Q → ∀ j, j ∈ altIds (.eff i ks t r) → ∀ fuel L env a w, RInv w0 T0 H ops s0 vs V Pd s L env a w → ∀ o, ops[j]? = some o → Dp L o → openN L ops.size = fuel + 1 → wpOp P ops (fun e a' w' => e = .normal ∧ ∃ s', Q s' ∧ Rep w0 T0 H s' a' w') j (wpAny P .any ops (fun e a' w' => e = .normal ∧ ∃ s', Q s' ∧ Rep w0 T0 H s' a' w') fuel (L.setIfInBounds j true)) a w := by
      intro V Pd acc s vs hf hv h j hj fuel L env a w inv o ho hd hfu
      simp only [forkOk, Bool.not_false, Bool.true_or, Bool.true_and, Bool.and_eq_true, decide_eq_true_eq, Bool.not_eq_true'] at hf
      obtain ⟨⟨⟨⟨⟨⟨hi, hV⟩, hdp⟩, hPd⟩, hks⟩, hft⟩, hfr⟩ := hf
      rcases List.mem_cons.1 (show j ∈ i :: altIds r from hj) with rfl | hj
      · obtain ⟨⟨v, R, N, hqs, hre, hds, hk⟩, _⟩ := eff_of hok ho h
        have hdV := inL inv hd
        have hL := notL inv hV
        have hksP : ∀ k, k ∈ ks → k ∈ Pd := fun k hk => by simpa using List.all_eq_true.1 hks k hk
        have hv' := hv.eff (v := v) (R := R) (N := N) hok ho hdV hV hksP hre hds
        unfold wpOp
        rw [ho]
        dsimp only
        have wrap : ∀ {A B : Prop} {b : Bool} {C : Prop}, (if b = true then A else B) → (if b = true then A ∨ C else B) := by
          intro A B b C h
          cases b with
          | true => simpa using Or.inl h
          | false => simpa using h
        apply wrap
        rw [hv.n] at hqs
        refine hqs env (fun q hq => ?_) H a w _ _ inv.rep fun val w' hr' => ?_
        · rw [inv.get q, hv.sget q]
          exact agree hok ho inv.size hv.vsize inv.cl hv.cl hd hdV hL hV q hq
        · have hput : ∀ d, o.dst = some d → d < s0.n := fun d hdd => by rw [hdd] at hds; rw [← hv.n]; exact hds
          have hr2 : Rep w0 T0 (((vs.set j v).getD j .dead, val) :: H) ⟨s0.n, env, R, N⟩ a w' := by
            rw [set_getD_self (by rw [hv.vlen]; exact hi)]; exact hr'
          obtain ⟨env', hg', hrep'⟩ := RInv.more hok (s0 := s0) (vs := vs.set j v) ho inv.size (fun r => by rw [stG_set hL]; exact inv.get r) hput hr2
          have hop := openN_set (by rw [inv.size]; exact hi) hL ops.size
          rw [if_pos hi] at hop
          have hrows : (putS o.dst v ⟨s.n, s.env, R, N⟩).rows = R ∧ (putS o.dst v ⟨s.n, s.env, R, N⟩).next = N := by unfold putS; cases o.dst <;> exact ⟨rfl, rfl⟩
          refine iht.1 _ _ _ _ _ hft hv' hk fuel _ env' _ w' (by omega) ⟨by simpa using inv.size, inv.cl.set ho hd, fun k hk => ?_, hg', by rw [hrows.1, hrows.2]; exact hrep', fun k h1 h2 => ?_⟩
          · by_cases e : j = k
            · subst e
              have : j < V.size := by rw [hv.vsize]; exact hi
              simp [this]
            · rw [getD_set_ne false e] at hk ⊢; exact inv.sub k hk
          · by_cases e : j = k
            · subst e
              have : j < L.size := by rw [inv.size]; exact hi
              simp [this] at h2
            · rw [getD_set_ne false e] at h1 h2
              have hkP := inv.pd k h1 h2
              have := List.all_eq_true.1 hPd k hkP
              rw [Bool.or_eq_true] at this
              rcases this with hb | hm
              · have hklt : k < ops.size := by have := getD_lt_size h1; rw [hv.vsize] at this; exact this
                have := anc_listed hok inv.size inv.cl j o ho hd k hklt hb
                rw [h2] at this; cases this
              · exact esMem_mem.1 hm
      · exact ihr.2 V Pd acc s vs hfr hv h.2 j hj fuel L env a w inv o ho hd hfu
    refine ⟨?_, alt⟩
    intro V Pd acc s vs hf hv h
    have hf' : forkOk ops T (.eff i ks t r) false V Pd = true := by
      simp only [forkOk, Bool.not_false, Bool.true_or, Bool.true_and, Bool.and_eq_true] at hf ⊢
      exact ⟨⟨⟨⟨⟨⟨hf.1.1.1.1.1.1.2, hf.1.1.1.1.1.2⟩, hf.1.1.1.1.2⟩, hf.1.1.1.2⟩, hf.1.1.2⟩, hf.1.2⟩, hf.2⟩
    have hcov : ∀ j o, ops[j]? = some o → V.getD j false = false → Dp V o → j ∈ altIds (.eff i ks t r) := by
      intro j o ho hV hd
      simp only [forkOk, Bool.not_true, Bool.false_or, Bool.and_eq_true] at hf
      have h1 := List.all_eq_true.1 hf.1.1.1.1.1.1.1 j (List.mem_range.2 (Array.getElem?_eq_some_iff.1 ho).1)
      rw [hV, (depsB_spec ho).2 hd] at h1
      simpa [altIds] using h1
    have hVi : V.getD i false = false := by
      simp only [forkOk, Bool.not_false, Bool.true_or, Bool.true_and, Bool.and_eq_true, decide_eq_true_eq, Bool.not_eq_true'] at hf'
      exact hf'.1.1.1.1.1.2
    have hilt : i < ops.size := by
      simp only [forkOk, Bool.not_false, Bool.true_or, Bool.true_and, Bool.and_eq_true, decide_eq_true_eq, Bool.not_eq_true'] at hf'
      exact hf'.1.1.1.1.1.1
    refine fork_run hok hv (fun hall => ?_) fun fuel L env a w inv j o ho hd hV hfu => ?_
    · rw [hall i hilt] at hVi; cases hVi
    · exact alt V Pd acc s vs hf' hv h j (hcov j o ho hV (inL inv hd)) fuel L env a w inv o ho hd hfu

/-- A drawn region by a tree (mkFork prints it). -/
theorem VcDraw.fork {id : Nat} {s : S} {Q : S → Prop} (t : LTree) (hm : P.follows .mixedOrders = true) (hok : lexOk ops [] [] (mkAnc ops) = true) (ht : forkOk ops (mkAnc ops) t true (Array.replicate ops.size false) [] = true)
    (h : vcFork P w0 T0 ops t [] s Q) : @VcDraw P w0 T0 b0 id ops s ⟨Q⟩ := by
  intro H a w _ hr
  refine wp_region_any hm ?_
  have hr' : Rep w0 T0 H s a { w with drawn := w.drawn + 1 } := by
    obtain ⟨m, hm⟩ := hr
    exact ⟨m, hm.drawn⟩
  have ok := LexOk.of hok
  have hL : ∀ j, (Array.replicate ops.size false).getD j false = false := fun j => getD_rep _ j
  have hop : openN (Array.replicate ops.size false) ops.size = ops.size := by
    unfold openN
    have : (List.range ops.size).countP (fun j => !(Array.replicate ops.size false).getD j false) = (List.range ops.size).length := by
      apply List.countP_eq_length.2
      intro j _
      rw [hL j]; rfl
    rw [this, List.length_range]
  have hcl : Cl ops (Array.replicate ops.size false) := fun i o _ h => by rw [hL] at h; cases h
  refine (fork_sound ok (s0 := s) t).1 _ _ _ _ (List.replicate ops.size .dead) ht ⟨by simp, by simp, hcl, rfl, fun r => (stG_get_self _ _ r).symm, (by intro j hj; cases hj), (by intro j o d h; rw [hL] at h; cases h)⟩ h ops.size _ s.env a _ hop
    ⟨by simp, hcl, (by intro i h; rw [hL] at h; cases h), (by intro r; rw [stG_get_self]; rfl), hr', (by intro i h; rw [hL] at h; cases h)⟩
theorem VcDraw.forkCut {id : Nat} {s : S} {Q : S → Prop} (t : LTree) (hm : P.follows .mixedOrders = true) (hok : lexOk ops [] [] (mkAnc ops) = true) (ht : forkOk ops (mkAnc ops) t true (Array.replicate ops.size false) [] = true) (shape : S)
    (h : vcFork P w0 T0 ops t [] s (fun s' => Ent w0 T0 b0 s' shape)) (hk : Q shape) : @VcDraw P w0 T0 b0 id ops s ⟨Q⟩ := by
  intro H a w hH hr
  refine wp_mono (VcDraw.fork (b0 := b0) (id := id) t hm hok ht h H a w hH hr) ?_
  rintro e a' w' ⟨he, s', hq, hr'⟩
  exact ⟨he, shape, hk, hq H a' w' hH hr'⟩
end
end Go.Fv

/-
  Families of rows: as many owned rows as a list tells, with names one behind the other.
-/
namespace Go.Fv
set_option linter.unusedSectionVars false
set_option linter.unusedVariables false
set_option linter.unusedSimpArgs false

section
variable {w0 : World} {T0 : Bs} {b0 : Nat}
end
/-! ### Renamings by hand -/
def p1 (a K x : Nat) : Nat := if x = a then K else x
def p2 (a K a' K' x : Nat) : Nat := if x = a then K else if x = a' then K' else x
end Go.Fv

/-
  An owned row becomes data, wherever the state speaks of it.
-/
namespace Go.Fv
set_option linter.unusedSectionVars false
open Go.RowKit
set_option linter.unusedVariables false
set_option linter.unusedSimpArgs false
set_option linter.unnecessarySimpa false

mutual
def fz (k : Nat) (r : RowV) : AV → AV
  | .own i => if i = k then .ro r else .own i
  | .ptr i o => .ptr i o
  | .elt i a b c => .elt i a b c
  | .agg cs => .agg (fzL k r cs)
  | .tup cs => .tup (fzL k r cs)
  | .fn f cs => .fn f (fzL k r cs)
  | .cell cs => .cell cs
  | .dead => .dead
  | .nilS => .nilS
  | .bool b => .bool b
  | .int q n => .int q n
  | .str s => .str s
  | .ro r => .ro r
  | .raw v => .raw v
  | .opt b v => .opt b (fz k r v)
  | .mp ks vs => .mp ks vs
def fzL (k : Nat) (r : RowV) : List AV → List AV
  | [] => []
  | x :: l => fz k r x :: fzL k r l
end
def fzR (k : Nat) (q : RowV) : RowV → RowV
  | .objs sz l => .objs sz (l.map (fzL k q))
  | .bools l => .bools l
  | .ints k l => .ints k l
  | .strs l => .strs l
def fzI (k : Nat) (q : RowV) : Item → Item
  | .row e r => .row e (fzR k q r)
  | .box e cs => .box e (fzL k q cs)
  | .map ks vs => .map (fzL k q ks) (fzL k q vs)
  | .iter mp since seen => .iter mp since seen
def fzE (k : Nat) (q : RowV) : List (Nat × AV) → List (Nat × AV)
  | [] => []
  | (i, v) :: l => (i, fz k q v) :: fzE k q l
def fzRows (k : Nat) (q : RowV) : List (Nat × Item) → List (Nat × Item)
  | [] => []
  | (i, it) :: l => if i = k then fzRows k q l else (i, fzI k q it) :: fzRows k q l
def S.fz (s : S) (k : Nat) (r : RowV) : S := { s with env := fzE k r s.env, rows := fzRows k r s.rows }

theorem lk_fzE (k : Nat) (q : RowV) : ∀ (l : List (Nat × AV)) (i : Nat), lk (fzE k q l) i = (lk l i).map (fz k q)
  | [], i => rfl
  | (j, v) :: l, i => by
    simp only [fzE, lk]
    split
    · rfl
    · exact lk_fzE k q l i
theorem lk_fzRows (k : Nat) (q : RowV) : ∀ (l : List (Nat × Item)) (i : Nat), lk (fzRows k q l) i = if i = k then none else (lk l i).map (fzI k q)
  | [], i => by simp [fzRows, lk]
  | (j, v) :: l, i => by
    simp only [fzRows]
    split
    · rename_i e; subst e
      rw [lk_fzRows]
      by_cases h : i = j
      · simp [h]
      · simp only [if_neg h, lk]; rw [if_neg (fun e => h e.symm)]
    · rename_i e
      simp only [lk]
      split
      · rename_i e2; subst e2; rw [if_neg e]; rfl
      · exact lk_fzRows k q l i

mutual
theorem fz_below {k : Nat} {r : RowV} (n : Nat) : ∀ x : AV, below n x = true → below n (fz k r x) = true
  | .own i, h => by
    simp only [fz]; split
    · rfl
    · exact h
  | .ptr i o, h => h
  | .elt i a b c, h => h
  | .agg cs, h => by simp only [fz, below] at *; exact fzL_below n cs h
  | .tup cs, h => by simp only [fz, below] at *; exact fzL_below n cs h
  | .fn f cs, h => by simp only [fz, below] at *; exact fzL_below n cs h
  | .cell cs, _ => rfl
  | .dead, _ => rfl
  | .nilS, _ => rfl
  | .bool _, _ => rfl
  | .int _ _, _ => rfl
  | .str _, _ => rfl
  | .ro _, _ => rfl
  | .raw _, _ => rfl
  | .opt _ v, h => by simp only [fz, below] at *; exact fz_below n v h
  | .mp _ _, _ => rfl
theorem fzL_below {k : Nat} {r : RowV} (n : Nat) : ∀ x : List AV, belowL n x = true → belowL n (fzL k r x) = true
  | [], _ => rfl
  | x :: l, h => by
    simp only [belowL, Bool.and_eq_true] at h
    simp [fzL, belowL, fz_below n x h.1, fzL_below n l h.2]
end
mutual
theorem fz_low (k : Nat) (r : RowV) (b0 : Nat) (hb : b0 ≤ k) : ∀ x : AV, below b0 x = true → fz k r x = x
  | .own i, h => by
    simp only [below, decide_eq_true_eq] at h
    simp only [fz]; rw [if_neg (by omega)]
  | .ptr i o, h => rfl
  | .elt i a b c, h => rfl
  | .agg cs, h => by simp only [fz]; rw [fzL_low k r b0 hb cs (by simpa [below] using h)]
  | .tup cs, h => by simp only [fz]; rw [fzL_low k r b0 hb cs (by simpa [below] using h)]
  | .fn f cs, h => by simp only [fz]; rw [fzL_low k r b0 hb cs (by simpa [below] using h)]
  | .cell cs, _ => rfl
  | .dead, _ => rfl
  | .nilS, _ => rfl
  | .bool _, _ => rfl
  | .int _ _, _ => rfl
  | .str _, _ => rfl
  | .ro _, _ => rfl
  | .raw _, _ => rfl
  | .mp _ _, _ => rfl
  | .opt b v, h => by simp only [fz]; rw [fz_low k r b0 hb v (by simpa [below] using h)]
theorem fzL_low (k : Nat) (r : RowV) (b0 : Nat) (hb : b0 ≤ k) : ∀ x : List AV, belowL b0 x = true → fzL k r x = x
  | [], _ => rfl
  | x :: l, h => by
    simp only [belowL, Bool.and_eq_true] at h
    simp only [fzL]; rw [fz_low k r b0 hb x h.1, fzL_low k r b0 hb l h.2]
end
structure CtxFz (k : Nat) (r : RowV) (c c' : Ctx) : Prop where
  n : c'.N = c.N
  m : c'.m = c.m
  t : ∀ b, c.T b → b < c.w.heap.size → c'.T b ∧ c'.w.heap[b]? = c.w.heap[b]?
  ro : Rv c' (.ro r) (c.m k)

mutual
theorem Rv.fz {k : Nat} {r : RowV} {c c' : Ctx} (h : CtxFz k r c c') : ∀ {x : AV} {v : Value}, Rv c x v → Rv c' (Fv.fz k r x) v
  | _, _, .dead v => .dead v
  | _, _, .nilS => .nilS
  | _, _, .bool b => .bool b
  | _, _, .int q n hk => .int q n hk
  | _, _, .str s hs => .str s hs
  | _, _, .roNil r hr hi => .roNil r (RowC.noid h.t hr hi) hi
  | _, _, .ro r a len cap cells hr hl hc hm hs hi => .ro r a len cap cells (RowC.noid h.t hr hi) hl hc hm (hs.mono' h.t) hi
  | _, _, .mp ks vs g es clock hk hv hb hc hT hh hi hi2 => .mp ks vs g es clock (RvT.noid h.t hk hi) (RvT.noid h.t hv hi2) hb hc (h.t g hT (Array.getElem?_eq_some_iff.1 hh).1).1 (by rw [(h.t g hT (Array.getElem?_eq_some_iff.1 hh).1).2]; exact hh) hi hi2
  | _, _, .own i hi h1 => by
    simp only [Fv.fz]
    split
    · rename_i e; subst e; exact h.ro
    · rw [← h.m]; exact .own i (by rw [h.n]; exact hi) (by rw [h.m]; exact h1)
  | _, _, .cell cs vs a hl hi hs => .cell cs vs a (RvL.noid h.t hl hi) hi (hs.mono' h.t)
  | _, _, .ptr i off g hi hg => .ptr i off g (by rw [h.n]; exact hi) (by rw [h.m]; exact hg)
  | _, _, .elt i a b d g hi hg => .elt i a b d g (by rw [h.n]; exact hi) (by rw [h.m]; exact hg)
  | _, _, .agg cs vs hl => .agg _ vs (RvL.fz h hl)
  | _, _, .tup cs vs hl => .tup _ vs (RvT.fz h hl)
  | _, _, .fn f cs vs hl => .fn f _ vs (RvT.fz h hl)
  | _, _, .raw v => .raw v
  | _, _, .opt b x v hb hx h2 => .opt b _ v (by rw [h.n]; exact fz_below _ _ hb) (fun e => Rv.fz h (hx e)) h2
theorem RvL.fz {k : Nat} {r : RowV} {c c' : Ctx} (h : CtxFz k r c c') : ∀ {x : List AV} {v : List Value}, RvL c x v → RvL c' (fzL k r x) v
  | _, _, .nil => .nil
  | _, _, .cons x v l vs hx h1 ht => .cons _ v _ vs (Rv.fz h hx) h1 (RvL.fz h ht)
theorem RvT.fz {k : Nat} {r : RowV} {c c' : Ctx} (h : CtxFz k r c c') : ∀ {x : List AV} {v : List Value}, RvT c x v → RvT c' (fzL k r x) v
  | _, _, .nil => .nil
  | _, _, .cons x v l vs hx ht => .cons _ v _ vs (Rv.fz h hx) (RvT.fz h ht)
end
theorem ObjsC.fz {k : Nat} {r : RowV} {c c' : Ctx} (h : CtxFz k r c c') : ∀ {sz : Nat} {x : List (List AV)} {v : List Value}, ObjsC c sz x v → ObjsC c' sz (x.map (fzL k r)) v
  | _, _, _, .nil sz => .nil sz
  | _, _, _, .cons sz o vs l cells ho hl ht => .cons sz _ vs _ cells (ho.fz h) hl (ht.fz h)
theorem RowC.fz {k : Nat} {q : RowV} {c c' : Ctx} (h : CtxFz k q c c') {x : RowV} {v : List Value} (hr : RowC c x v) : RowC c' (fzR k q x) v := by
  cases hr with
  | bools l => exact .bools l
  | ints k l hk => exact .ints k l hk
  | strs l hs => exact .strs l hs
  | objs sz l cells hz ho => exact .objs sz _ _ hz (ho.fz h)
theorem fzR_len (k : Nat) (q r : RowV) : (fzR k q r).len = r.len := by cases r <;> simp [fzR, RowV.len]
theorem fzR_sz (k : Nat) (q r : RowV) : (fzR k q r).sz = r.sz := by cases r <;> rfl
theorem ItemOk.fz {k : Nat} {q : RowV} {c c' : Ctx} (h : CtxFz k q c c') (hw : c'.w = c.w) {O : Nat → Prop} {v : Value} {it : Item} (hi : ItemOk c O v it) : ItemOk c' O v (fzI k q it) := by
  cases it with
  | row e r =>
    obtain ⟨n, cells, hr, hn, ho, hO⟩ := hi
    exact ⟨n, cells, hr.fz h, by rw [fzR_len]; exact hn, by rw [fzR_sz, hw]; exact ho, hO⟩
  | box e cs => obtain ⟨g, vs, rfl, hg, hl, hh⟩ := hi; exact ⟨g, vs, rfl, hg, hl.fz h, by rw [hw]; exact hh⟩
  | map ks vs => obtain ⟨g, es, clock, rfl, hg, h1, h2, h3, h4, hh⟩ := hi; exact ⟨g, es, clock, rfl, hg, h1.fz h, h2.fz h, h3, h4, by rw [hw]; exact hh⟩
  | iter mp since seen => obtain ⟨g, p, sn, last, rfl, hg, h1, h2, h3, h4, hh⟩ := hi; exact ⟨g, p, sn, last, rfl, hg, by rw [h.n]; exact h1, by rw [h.m]; exact h2, h3, h4, by rw [hw]; exact hh⟩
section
variable {w0 : World} {T0 : Bs} {b0 : Nat}
/-- AN OWNED ROW BECOMES DATA. -/
theorem Ent.fz (k : Nat) {s : S} {e : TypeId} {r : RowV} (hk : lk s.rows k = some (.row e r)) (hid : noIdR r = true) (hb : b0 ≤ k) : Ent w0 T0 b0 s (s.fz k r) := by
  rintro H a w hH ⟨m, hm⟩
  have hsub : ∀ i it, lk (s.fz k r).rows i = some it → i ≠ k ∧ ∃ jt, lk s.rows i = some jt ∧ it = fzI k r jt := by
    intro i it hi
    simp only [S.fz, lk_fzRows] at hi
    split at hi
    · cases hi
    · rename_i hne
      cases hq : lk s.rows i with
      | none => rw [hq] at hi; cases hi
      | some jt => rw [hq] at hi; cases hi; exact ⟨hne, jt, rfl, rfl⟩
  have hdel : ∀ i it, lk (del s.rows k) i = some it → lk s.rows i = some it := del_sub _ _
  have hro := own_ro hm hk hdel (by rw [lk_del, if_pos rfl]) hid
  have hT : ∀ b, allow T0 w0.heap.size m (del s.rows k) b → allow T0 w0.heap.size m (s.fz k r).rows b := by
    rintro b ⟨h1, h2⟩
    refine ⟨h1, fun i it hi e => ?_⟩
    obtain ⟨hne, jt, hj, _⟩ := hsub i it hi
    exact h2 i jt (by rw [lk_del, if_neg hne]; exact hj) e
  have hc : CtxFz k r (ctxOf T0 w0.heap.size m s w) (ctxOf T0 w0.heap.size m (s.fz k r) w) :=
    { n := rfl, m := rfl,
      t := by
        intro b ⟨h1, h2⟩ _
        exact ⟨hT b ⟨h1, fun i it hi => h2 i it (hdel i it hi)⟩, rfl⟩,
      ro := by
        refine Rv.noid (c := ctxOf T0 w0.heap.size m { s with rows := del s.rows k } w) ?_ hro rfl
        intro b hb _
        exact ⟨hT b hb, rfl⟩ }
  refine ⟨m, { size := hm.size, nodef := hm.nodef, below := hm.below, env := ?_, held := ?_, rows := ?_, sep := ?_ }⟩
  · intro q v hv
    simp only [S.fz, lk_fzE] at hv
    cases hq : lk s.env q with
    | none => rw [hq] at hv; cases hv
    | some y => rw [hq] at hv; cases hv; exact (hm.env q y hq).fz hc
  · intro p hp
    have h1 := (hm.held p hp).fz hc
    have h2 : Fv.fz k r p.1 = p.1 := by
      have hlow := hH p hp
      exact fz_low k r b0 hb p.1 hlow
    rwa [h2] at h1
  · intro i it hi
    obtain ⟨hne, jt, hj, rfl⟩ := hsub i it hi
    exact ⟨(hm.rows i jt hj).1, (hm.rows i jt hj).2.fz hc rfl⟩
  · intro i j it jt b hi hj hbi hbj
    obtain ⟨_, it', hi', _⟩ := hsub i it hi
    obtain ⟨_, jt', hj', _⟩ := hsub j jt hj
    exact hm.sep i j it' jt' b hi' hj' hbi hbj
end
attribute [go_sem] fz fzL fzR fzI fzE fzRows S.fz
end Go.Fv

/-
  The set by which states are held against one another.
-/
namespace Go.Fv
set_option linter.unusedSectionVars false
theorem renL_rep (p : Nat → Nat) (x : AV) : ∀ n : Nat, renL p (List.replicate n x) = List.replicate n (ren p x)
  | 0 => rfl
  | n + 1 => by simp only [List.replicate_succ, renL]; rw [renL_rep p x n]
theorem belowL_rep {N : Nat} {x : AV} (h : below N x = true) : ∀ n : Nat, belowL N (List.replicate n x) = true
  | 0 => rfl
  | n + 1 => by simp only [List.replicate_succ, belowL, h, Bool.true_and]; exact belowL_rep h n
theorem noIdL_rep {x : AV} (h : noId x = true) : ∀ n : Nat, noIdL (List.replicate n x) = true
  | 0 => rfl
  | n + 1 => by simp only [List.replicate_succ, noIdL, h, Bool.true_and]; exact noIdL_rep h n
theorem mkL_rep {x : AV} (h : noId x = true) (n : Nat) (y : List AV) : mkL (List.replicate n x) y = [] := mkL_noId _ y (noIdL_rep h n)
theorem belowL_repb (N n : Nat) (b : Bool) : belowL N (List.replicate n (AV.bool b)) = true := belowL_rep rfl n
theorem mkL_repb (n : Nat) (b : Bool) (y : List AV) : mkL (List.replicate n (AV.bool b)) y = [] := mkL_rep rfl n y
attribute [go_sem] mkR_ok mkL_caps mkL_bools rets rets1 retV mkRet tupOf envOk subOk mkRen mkEnv mkRows mkItem mkV mkL pm Item.below AV.own.injEq AV.str.injEq AV.ro.injEq AV.agg.injEq AV.tup.injEq List.cons.injEq Option.some.injEq Item.row.injEq Item.box.injEq RowV.ints.injEq RowV.bools.injEq RowV.strs.injEq RowV.objs.injEq Nat.succ_ne_self renL_rep belowL_repb mkL_repb
attribute [go_sem] vcFork accKeep redoT redoH
end Go.Fv

/-
  Steps of a walk that pay their side conditions by themselves.
-/
namespace Go.Fv
set_option linter.unusedSectionVars false
set_option linter.unusedVariables false
theorem Chk.g {p K : Prop} (k : K) (h : p := by first | omega | (with_reducible refine Chk.intro ?_ ?_ <;> omega) | (simp; done) | (simp; omega)) : Chk p K := ⟨h, k⟩
theorem LetW.g {e : Int} {K : Int → Prop} (kk : K e) (h1 : -9223372036854775808 ≤ e := by omega) (h2 : e ≤ 9223372036854775807 := by omega) : LetW .i64 e K := LetW.i64 h1 h2 kk
theorem LetW.h {e : Int} {K : Int → Prop} (kk : K e) (h1 : 0 ≤ e := by omega) (h2 : e ≤ 255 := by omega) : LetW .u8 e K := LetW.u8 h1 h2 kk
theorem Ite.t {p : Prop} [Decidable p] {x y : Prop} (k : p → x) (h : ¬ p → False := by (intro _; omega)) : @Ite (Decidable.decide p) ⟨x⟩ ⟨y⟩ := Ite.decide k fun h' => (h h').elim
theorem Ite.f {p : Prop} [Decidable p] {x y : Prop} (k : ¬ p → y) (h : p → False := by (intro _; omega)) : @Ite (Decidable.decide p) ⟨x⟩ ⟨y⟩ := Ite.decide (fun h' => (h h').elim) k
/-- A step that asks for nothing: what is to be shown instead. -/
class Stp (p : Prop) (q : outParam Prop) : Prop where
  go : q → p
instance {p K : Prop} : Stp (Asm p K) (p → K) := ⟨Asm.intro⟩
instance {K : Int → Prop} : Stp (@AnyI .i64 ⟨K⟩) (∀ n, (-9223372036854775808 ≤ n ∧ n ≤ 9223372036854775807) → K n) := ⟨AnyI.i64⟩
instance (priority := 900) {b : Bool} {x y : Prop} : Stp (@Ite b ⟨x⟩ ⟨y⟩) ((b = true → x) ∧ (b = false → y)) := ⟨fun h => Ite.bool h.1 h.2⟩
instance {p : Prop} [Decidable p] {x y : Prop} : Stp (@Ite (Decidable.decide p) ⟨x⟩ ⟨y⟩) ((p → x) ∧ (¬ p → y)) := ⟨fun h => Ite.decide h.1 h.2⟩
theorem rs {p q : Prop} [h : Stp p q] (k : q) : p := h.go k
theorem rc {p K : Prop} (k : K) (h : p := by first | omega | (with_reducible refine Chk.intro ?_ ?_ <;> omega) | (simp; done) | (simp; omega)) : Chk p K := ⟨h, k⟩
theorem rl {e : Int} {K : Int → Prop} (k : K e) (h1 : -9223372036854775808 ≤ e := by omega) (h2 : e ≤ 9223372036854775807 := by omega) : LetW .i64 e K := LetW.i64 h1 h2 k
theorem rh {e : Int} {K : Int → Prop} (k : K e) (h1 : 0 ≤ e := by omega) (h2 : e ≤ 255 := by omega) : LetW .u8 e K := LetW.u8 h1 h2 k
theorem rt {p : Prop} [Decidable p] {x y : Prop} (k : p → x) (h : ¬ p → False := by (intro _; omega)) : @Ite (Decidable.decide p) ⟨x⟩ ⟨y⟩ := Ite.decide k fun h' => (h h').elim
theorem rf {p : Prop} [Decidable p] {x y : Prop} (k : ¬ p → y) (h : p → False := by (intro _; omega)) : @Ite (Decidable.decide p) ⟨x⟩ ⟨y⟩ := Ite.decide (fun h' => (h h').elim) k
/-- A call by a contract that hands nothing over. -/
theorem VcCall.k {P : Program} {w0 : World} {T0 : Bs} [hG : GlB P w0 T0] {f : Nat} {args args' : List AV} {out : AV} {s : S} {K : AV → S → Prop} (h : FnOk P f args' out []) (hk : K (ren (fun j => s.next + j) out) (s.after s.rows 0 []))
    (h1 : noRo out = true := by rfl) (h2 : Fv.below 0 out = true := by rfl) (ha : argOkL s.rows args args' := by
      simp only [noIdR_ok, argOkL, argOk, allOk, argOkN, List.drop_zero, lk, reduceIte, reduceCtorEq, Nat.reduceEqDiff, Option.some.injEq, Item.row.injEq, Item.box.injEq, AV.ro.injEq, exists_eq_left, exists_and_left, exists_eq_left', exists_eq_right, and_assoc, and_true, true_and, List.cons.injEq, exists_eq', exists_eq]) :
    @VcCall P w0 T0 f args s ⟨K⟩ := VcCall.fr (FnFr.of_ok h h1 rfl) ha 0 h2 trivial hk
end Go.Fv

/-
  Calls into the callee's code: what it writes into memory that the caller owns is seen by the caller.
-/
namespace Go.Fv
set_option linter.unusedSectionVars false
open Go.RowKit
set_option linter.unusedVariables false
set_option linter.unusedSimpArgs false
set_option linter.unnecessarySimpa false

/-- Where the callee ends: the caller goes on with its results, its own slots as they were. -/
def InlPost (P : Program) (res : List ResultVar) (s : S) (K : AV → S → Prop) : Exit → S → Prop
  | .normal, s1 => rets P s1 res (fun vs => K (tupOf vs) { s with rows := s1.rows, next := s1.next })
  | .ret, s1 => rets P s1 res (fun vs => K (tupOf vs) { s with rows := s1.rows, next := s1.next })
  | _, _ => False

section
variable {P : Program} {w0 : World} {T0 : Bs}

/-- A CALL, by the callee's own code. -/
theorem VcCall.inl {f : Nat} {fn : Func} {c : Code} {args : List AV} {s : S} {K : AV → S → Prop} (hf : P.funcs[f]? = some fn) (hb : fn.body = some c)
    (hnm : (fn.name == "runtime.NumGoroutine") = false) (hn : args.length ≤ fn.ntmps) (res : List ResultVar) (hres : fn.results = res.toArray)
    (h : VcRun P w0 T0 s.next c ⟨fn.ntmps, argEnv 0 args, s.rows, s.next⟩ (InlPost P res s K)) : @VcCall P w0 T0 f args s ⟨K⟩ := by
  refine ⟨⟨fn, hf, by rw [hb]; rfl, hnm⟩, fun H a w m vals hm hv => ?_⟩
  refine calls_of_wp hf hb ?_
  have hlen := hv.length
  have hE : ∀ p, p ∈ (s.env.map fun p => (s.get p.1, a.tmps.getD p.1 undef)) ++ H → Rv (ctxOf T0 w0.heap.size m s w) p.1 p.2 := by
    intro p hp
    rcases List.mem_append.1 hp with hp | hp
    · obtain ⟨q, _, rfl⟩ := List.mem_map.1 hp
      show Rv _ (s.get q.1) _
      unfold S.get
      cases hl : lk s.env q.1 with
      | none => exact .dead _
      | some y => exact hm.env q.1 y hl
    · exact hm.held p hp
  have hrep : RepM w0 T0 ((s.env.map fun p => (s.get p.1, a.tmps.getD p.1 undef)) ++ H) ⟨fn.ntmps, argEnv 0 args, s.rows, s.next⟩ { tmps := vals.toArray ++ Array.replicate (fn.ntmps - vals.toArray.size) undef, defers := [] } w m :=
    { size := by simp; omega, nodef := rfl, below := hm.below,
      env := by
        intro r v hr
        obtain ⟨u, h1, h2⟩ := argEnv_rv 0 [] rfl hv r v hr
        have e : ((vals.toArray ++ Array.replicate (fn.ntmps - vals.toArray.size) undef).getD r undef) = u := by
          have h1' : vals[r]? = some u := by simpa using h1
          have hlt : r < vals.length := (List.getElem?_eq_some_iff.1 h1').1
          rw [Array.getD_eq_getD_getElem?, Array.getElem?_append_left (by simpa using hlt)]
          simp [h1']
        rw [e]; exact h2,
      held := hE, rows := hm.rows, sep := hm.sep }
  refine wp_mono (h _ _ w (fun p hp => (hE p hp).ids) ⟨m, hrep⟩) ?_
  rintro e a1 w1 ⟨s1, hq, m1, hm1⟩
  have fin : rets P s1 res (fun vs => K (tupOf vs) { s with rows := s1.rows, next := s1.next }) → a1.defers = [] ∧ ∃ v, (results fn a1.tmps).run P w1 = .ok v w1 ∧ ∃ v', Ending.returned v = .returned v' ∧ ∃ r s', K r s' ∧ Rep w0 T0 ((r, v') :: H) s' a w1 := by
    intro hk
    obtain ⟨l, vs, hk, hr, hvs⟩ := rets_run hm1 hk
    have hrv : Rv (ctxOf T0 w0.heap.size m1 s1 w1) (tupOf l) (tupV vs) := by
      cases hvs with
      | nil => exact .tup _ _ .nil
      | cons x v l us hx ht =>
        cases ht with
        | nil => exact hx
        | cons x' v' l' us' hx' ht' => exact .tup _ _ (.cons _ _ _ _ hx (.cons _ _ _ _ hx' ht'))
    refine ⟨hm1.nodef, _, results_list hres a1.tmps hr, _, rfl, _, _, hk, m1, ?_⟩
    exact { size := hm.size, nodef := hm.nodef, below := hm1.below,
            env := by
              intro r v hv
              have hmem : (s.get r, a.tmps.getD r undef) ∈ (s.env.map fun p => (s.get p.1, a.tmps.getD p.1 undef)) ++ H :=
                List.mem_append.2 (.inl (List.mem_map.2 ⟨(r, v), lk_mem hv, rfl⟩))
              have := hm1.held _ hmem
              have e : s.get r = v := by unfold S.get; rw [show lk s.env r = some v from hv]
              rw [e] at this; exact this,
            held := by
              intro p hp
              cases List.mem_cons.1 hp with
              | inl e => subst e; exact hrv
              | inr e => exact hm1.held p (List.mem_append.2 (.inr e)),
            rows := hm1.rows, sep := hm1.sep }
  cases e with
  | normal => exact fin hq
  | ret => exact fin hq
  | _ => exact hq.elim
end
end Go.Fv
