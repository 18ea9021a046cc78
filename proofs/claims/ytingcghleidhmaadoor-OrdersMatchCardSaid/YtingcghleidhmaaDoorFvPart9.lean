/-
  A part of the proof of the claim: walks over the program's functions and the plain laws that these need. No condition of its own.
-/
import Derived.Test.YtingcghleidhmaaDoorFvPart8
import Derived.Test.YtingcghleidhmaaDoorFvPart7
/-! Regions whose order is drawn, where operations that change the state may change places: a tree of these; the others are walked once, and shown again where the heap changes. -/
namespace Go.Fv
set_option linter.unusedSectionVars false
open Go.RowKit
set_option linter.unusedVariables false
set_option linter.unusedSimpArgs false
set_option linter.unnecessarySimpa false

inductive LTree where
  | done
  | none
  | quiet (i : Nat) (t : LTree)
  | eff (i : Nat) (ks : List Nat) (t r : LTree)

def accKeep (ks : List Nat) : List (Nat × Acc) → List (Nat × Acc)
  | [] => []
  | x :: l => bif esMem ks x.1 then x :: accKeep ks l else accKeep ks l
def redoH (P : Program) (w0 : World) (T0 : Bs) (n : Nat) (o : Oper) (g : Option Bool) (env : List (Nat × AV)) (v : AV) (R : List (Nat × Item)) (N : Nat) : Prop := match g with
  | .none => qVc P w0 T0 o ⟨n, env, R, N⟩ v
  | .some c => Fv.below N v = true ∧ (c = true → qVc P w0 T0 o ⟨n, env, R, N⟩ v)
def redoT (P : Program) (w0 : World) (T0 : Bs) (n : Nat) (R : List (Nat × Item)) (N : Nat) : List (Nat × Acc) → Prop
  | [] => True
  | (_, ⟨o, g, env, v, _⟩) :: l => redoH P w0 T0 n o g env v R N ∧ redoT P w0 T0 n R N l

def vcFork (P : Program) (w0 : World) (T0 : Bs) (ops : Array Oper) : LTree → List (Nat × Acc) → S → (S → Prop) → Prop
  | .done, _, s, Q => Q s
  | .none, _, _, _ => True
  | .quiet i t, acc, s, Q => match ops[i]? with
    | .none => False
    | .some o => @gGo (gd ops s o) ⟨fun g => @qGo (qRes P w0 T0 o g s) ⟨
        fun v re => Chk (dstOk o.dst s.n) (vcFork P w0 T0 ops t (bif re then (i, ⟨o, g, lxEnv g s (rOps o.op), v, []⟩) :: acc else acc) (putS o.dst (lxPut g v) s) Q),
        vcOp P w0 T0 o ⟨s.n, onlyE s (rOps o.op), s.rows, s.next⟩ (fun v t' => @eGo v t' ⟨fun v R N => Chk (R = s.rows ∧ N = s.next) (Chk (dstOk o.dst s.n) (vcFork P w0 T0 ops t ((i, ⟨o, g, lxEnv g s (rOps o.op), v, []⟩) :: acc) (putS o.dst v s) Q))⟩),
        @QV ⟨fun v => qCond P w0 T0 o g s v,
          fun v => Chk (dstOk o.dst s.n) (vcFork P w0 T0 ops t ((i, ⟨o, g, lxEnv g s (rOps o.op), v, []⟩) :: acc) (putS o.dst (lxPut g v) s) Q)⟩⟩⟩
  | .eff i ks t r, acc, s, Q => (match ops[i]? with
    | .none => False
    | .some o => @gGo (gd ops s o) ⟨fun g => match g with
      | .none => @bGo (isLin o.op) ⟨
          vcOp P w0 T0 o ⟨s.n, onlyE s (rOps o.op), s.rows, s.next⟩ (fun v t' => @eGo v t' ⟨fun v R N => redoT P w0 T0 s.n R N (accKeep ks acc) ∧ Chk (dstOk o.dst s.n) (vcFork P w0 T0 ops t (accKeep ks acc) (putS o.dst v ⟨s.n, s.env, R, N⟩) Q)⟩),
          @QE ⟨fun v R N => vcOp P w0 T0 o ⟨s.n, onlyE s (rOps o.op), s.rows, s.next⟩ (fun r t => r = v ∧ t.rows = R ∧ t.next = N),
            fun v R N => redoT P w0 T0 s.n R N (accKeep ks acc) ∧ Chk (dstOk o.dst s.n) (vcFork P w0 T0 ops t (accKeep ks acc) (putS o.dst v ⟨s.n, s.env, R, N⟩) Q)⟩⟩
      | .some c => @Ite c ⟨@QE ⟨fun v R N => peelC s (rOps o.op) = true ∧ vcOp P w0 T0 o ⟨s.n, onlyP s (rOps o.op), s.rows, s.next⟩ (fun r t => r = v ∧ t.rows = R ∧ t.next = N),
            fun v R N => redoT P w0 T0 s.n R N (accKeep ks acc) ∧ Chk (dstOk o.dst s.n) (vcFork P w0 T0 ops t (accKeep ks acc) (putS o.dst (.opt true v) ⟨s.n, s.env, R, N⟩) Q)⟩⟩
          ⟨redoT P w0 T0 s.n s.rows s.next (accKeep ks acc) ∧ Chk (dstOk o.dst s.n) (vcFork P w0 T0 ops t (accKeep ks acc) (putS o.dst (.opt false (.bool false)) s) Q)⟩⟩) ∧ vcFork P w0 T0 ops r acc s Q

/-! ### Which trees are right -/
def depsB (ops : Array Oper) (V : Array Bool) (i : Nat) : Bool := match ops[i]? with
  | .some o => o.after.all fun e => !Region.binds .any e || V.getD e.on false
  | .none => false
def altIds : LTree → List Nat
  | .eff i _ _ r => i :: altIds r
  | _ => []
def forkOk (ops : Array Oper) (T : List Nat) : LTree → Bool → Array Bool → List Nat → Bool
  | .done, b, V, _ => b && (List.range ops.size).all fun j => V.getD j false
  | .none, b, _, _ => !b
  | .quiet i t, b, V, Pd => b && decide (i < ops.size) && !V.getD i false && depsB ops V i && forkOk ops T t true (V.setIfInBounds i true) (i :: Pd)
  | .eff i ks t r, b, V, Pd => (!b || (List.range ops.size).all fun j => V.getD j false || !depsB ops V j || (i :: altIds r).contains j) && decide (i < ops.size) && !V.getD i false && depsB ops V i && Pd.all (fun j => bitT T i j || esMem ks j) && ks.all (fun j => Pd.contains j) && forkOk ops T t true (V.setIfInBounds i true) ks && forkOk ops T r false V Pd

section
variable {P : Program} {w0 : World} {T0 : Bs} {b0 : Nat} {ops : Array Oper} {T : List Nat} {H : List (AV × Value)} [hG : GlB P w0 T0]

def Cl (ops : Array Oper) (V : Array Bool) : Prop := ∀ (i : Nat) (o : Oper), ops[i]? = some o → V.getD i false = true → ∀ e, e ∈ o.after → Region.binds .any e = true → V.getD e.on false = true
def Dp (V : Array Bool) (o : Oper) : Prop := ∀ e, e ∈ o.after → Region.binds .any e = true → V.getD e.on false = true

theorem depsB_spec {V : Array Bool} {i : Nat} {o : Oper} (ho : ops[i]? = some o) : depsB ops V i = true ↔ Dp V o := by
  unfold depsB Dp
  rw [ho]
  dsimp only
  rw [Array.all_eq_true_iff_forall_mem]
  constructor
  · intro h e he hb
    have := h e he
    simpa [hb] using this
  · intro h e he
    cases hb : Region.binds .any e with
    | false => rfl
    | true => simpa [hb] using h e he hb

theorem agree (hok : LexOk ops [] [] T) {s0 : S} {vs : List AV} {V V' : Array Bool} {i : Nat} {o : Oper} (ho : ops[i]? = some o) (hs : V.size = ops.size) (hs' : V'.size = ops.size) (hc : Cl ops V) (hc' : Cl ops V') (hd : Dp V o) (hd' : Dp V' o) (hi : V.getD i false = false) (hi' : V'.getD i false = false) :
    ∀ r, r ∈ o.looksAt ops → stG ops s0 vs V r = stG ops s0 vs V' r := by
  intro r hr
  have hilt := (Array.getElem?_eq_some_iff.1 ho).1
  unfold stG
  cases hx : dix ops r with
  | none => rfl
  | some j =>
    obtain ⟨oj, hj, hdj⟩ := dix_some hx
    have hjlt := (Array.getElem?_eq_some_iff.1 hj).1
    dsimp only
    rcases hok.look i o r j oj ho hj hdj hr with ⟨hb, _⟩ | ⟨_, _, hb⟩
    · rw [anc_listed hok hs hc i o ho hd j hjlt hb, anc_listed hok hs' hc' i o ho hd' j hjlt hb]
    · have no : ∀ U : Array Bool, U.size = ops.size → Cl ops U → U.getD i false = false → U.getD j false = false := by
        intro U h1 h2 h3
        cases hU : U.getD j false with
        | false => rfl
        | true =>
          have := anc_listed hok h1 h2 j oj hj (h2 j oj hj hU) i hilt hb
          rw [h3] at this; cases this
      rw [no V hs hc hi, no V' hs' hc' hi']

theorem stG_set {s0 : S} {vs : List AV} {V : Array Bool} {i : Nat} {v : AV} (h : V.getD i false = false) (r : Nat) : stG ops s0 (vs.set i v) V r = stG ops s0 vs V r := by
  unfold stG
  split
  · rename_i j _
    by_cases e : i = j
    · subst e; rw [h]; rfl
    · simp [List.getD_eq_getElem?_getD, List.getElem?_set, e]
  · rfl

/-- What is known of the operations that may be late. -/
structure VInv (P : Program) (w0 : World) (T0 : Bs) (ops : Array Oper) (s0 : S) (vs : List AV) (V : Array Bool) (Pd : List Nat) (acc : List (Nat × Acc)) (s : S) : Prop where
  vsize : V.size = ops.size
  vlen : vs.length = ops.size
  cl : Cl ops V
  n : s.n = s0.n
  sget : ∀ r, s.get r = stG ops s0 vs V r
  pd : ∀ j, j ∈ Pd → V.getD j false = true ∧ ∀ o, ops[j]? = some o → ∃ U : Array Bool, U.size = ops.size ∧ Cl ops U ∧ (∀ i, U.getD i false = true → V.getD i false = true) ∧ Dp U o ∧ U.getD j false = false ∧
    QS P w0 T0 ops o s0.n (stG ops s0 vs U) (s.rows, s.next) (s.rows, s.next) (vs.getD j .dead) ∧
    ((∀ h, QS P w0 T0 ops o s0.n (stG ops s0 vs U) h h (vs.getD j .dead)) ∨ ∃ x, (j, x) ∈ acc ∧ ∀ h, redoC P w0 T0 s0.n x h → QS P w0 T0 ops o s0.n (stG ops s0 vs U) h h (vs.getD j .dead))
  put : ∀ j o d, V.getD j false = true → ops[j]? = some o → o.dst = some d → d < s0.n

/-- The machine's own place: some that are walked already are late. -/
structure RInv (w0 : World) (T0 : Bs) (H : List (AV × Value)) (ops : Array Oper) (s0 : S) (vs : List AV) (V : Array Bool) (Pd : List Nat) (s : S) (L : Array Bool) (env : List (Nat × AV)) (a : Act) (w : World) : Prop where
  size : L.size = ops.size
  cl : Cl ops L
  sub : ∀ i, L.getD i false = true → V.getD i false = true
  get : ∀ r, S.get ⟨s0.n, env, [], 0⟩ r = stG ops s0 vs L r
  rep : Rep w0 T0 H ⟨s0.n, env, s.rows, s.next⟩ a w
  pd : ∀ i, V.getD i false = true → L.getD i false = false → i ∈ Pd

theorem getD_lt_size {V : Array Bool} {i : Nat} (h : V.getD i false = true) : i < V.size := by
  rcases Nat.lt_or_ge i V.size with h' | h'
  · exact h'
  · simp [Array.getElem?_eq_none h'] at h

theorem all_listed (hok : LexOk ops [] [] T) {L : Array Bool} (hs : L.size = ops.size) (hr : Region.ready .any ops L = []) : ∀ i, i < ops.size → L.getD i false = true := by
  intro i
  induction i using Nat.strongRecOn with
  | _ i ihi =>
    intro hi
    cases hL : L.getD i false with
    | true => rfl
    | false =>
      exfalso
      obtain ⟨o, ho⟩ : ∃ o, ops[i]? = some o := ⟨ops[i], Array.getElem?_eq_getElem hi⟩
      have hmem : i ∈ Region.ready .any ops L := mem_ready.2 ⟨getD_hi (by rw [hs]; exact hi) hL, o, ho, fun e he hb => ihi e.on (hok.low i o ho e he hb) (Nat.lt_trans (hok.low i o ho e he hb) hi)⟩
      rw [hr] at hmem; cases hmem

theorem Cl.set {V : Array Bool} {i : Nat} {o : Oper} (h : Cl ops V) (ho : ops[i]? = some o) (hd : Dp V o) : Cl ops (V.setIfInBounds i true) := by
  intro j oj hj hLj e he hb
  by_cases hij : i = j
  · subst hij
    rw [ho] at hj; cases hj
    exact getD_set_true (hd e he hb)
  · rw [getD_set_ne false hij] at hLj
    exact getD_set_true (h j oj hj hLj e he hb)

/-- The registers after one operation more. -/
theorem stG_put (hok : LexOk ops [] [] T) {s0 : S} {vs : List AV} {V : Array Bool} {i : Nat} {o : Oper} {g : Nat → AV} (ho : ops[i]? = some o) (hs : V.size = ops.size) (hg : ∀ r, g r = stG ops s0 vs V r) :
    ∀ r, (match o.dst with | some d => if d = r then vs.getD i .dead else g r | none => g r) = stG ops s0 vs (V.setIfInBounds i true) r := by
  intro r
  have hilt := (Array.getElem?_eq_some_iff.1 ho).1
  have hV : (V.setIfInBounds i true).getD i false = true := by
    have : i < V.size := by rw [hs]; exact hilt
    simp [this]
  have old : o.dst ≠ some r → g r = stG ops s0 vs (V.setIfInBounds i true) r := by
    intro hne
    rw [hg r]
    unfold stG
    cases hx : dix ops r with
    | none => rfl
    | some j =>
      dsimp only
      have hij : i ≠ j := by
        rintro rfl
        obtain ⟨oj, hj, hdj⟩ := dix_some hx
        rw [ho] at hj; cases hj
        exact hne hdj
      rw [getD_set_ne false hij]
  cases hd : o.dst with
  | none => exact old (by rw [hd]; simp)
  | some d =>
    dsimp only
    by_cases e : d = r
    · subst e
      rw [if_pos rfl]
      unfold stG
      rw [hok.dix ho hd]
      dsimp only
      rw [hV]; rfl
    · rw [if_neg e]
      exact old (by rw [hd]; simpa using e)

theorem get_cons {n d r : Nat} {v : AV} {env : List (Nat × AV)} {R : List (Nat × Item)} {N : Nat} : S.get ⟨n, (d, v) :: env, R, N⟩ r = if d = r then v else S.get ⟨n, env, R, N⟩ r := by
  by_cases e : d = r
  · subst e; simp [S.get, lk]
  · simp [S.get, lk, e]
/-- One more is listed by the machine: its registers and its heap. -/
theorem RInv.more (hok : LexOk ops [] [] T) {s0 : S} {vs : List AV} {L : Array Bool} {env : List (Nat × AV)} {a : Act} {w' : World} {i : Nat} {o : Oper} {R : List (Nat × Item)} {N : Nat} {val : Value}
    (ho : ops[i]? = some o) (hs : L.size = ops.size) (hg : ∀ r, S.get ⟨s0.n, env, [], 0⟩ r = stG ops s0 vs L r) (hput : ∀ d, o.dst = some d → d < s0.n)
    (hr : Rep w0 T0 ((vs.getD i .dead, val) :: H) ⟨s0.n, env, R, N⟩ a w') :
    ∃ env', (∀ r, S.get ⟨s0.n, env', [], 0⟩ r = stG ops s0 vs (L.setIfInBounds i true) r) ∧ Rep w0 T0 H ⟨s0.n, env', R, N⟩ (a.put o.dst val) w' := by
  obtain ⟨m', hm'⟩ := hr
  have hst := stG_put hok (s0 := s0) (vs := vs) ho hs hg
  cases hd : o.dst with
  | none =>
    rw [hd] at hst
    exact ⟨env, hst, m', hm'.unhold⟩
  | some d =>
    rw [hd] at hst
    have h2 := hm'.unhold.putd (hm'.held _ (.head _)) (d := d) (hput d hd)
    exact ⟨(d, vs.getD i .dead) :: env, fun r => by rw [get_cons]; exact hst r, m', h2⟩

theorem stG_get_self {s0 : S} (vs : List AV) (m r : Nat) : stG ops s0 vs (Array.replicate m false) r = s0.get r := by
  unfold stG
  split
  · rw [getD_rep]; rfl
  · rfl

theorem fork_run (hok : LexOk ops [] [] T) {s0 s : S} {vs : List AV} {V : Array Bool} {Pd : List Nat} {acc : List (Nat × Acc)} {Q : S → Prop} (hv : VInv P w0 T0 ops s0 vs V Pd acc s)
    (hfin : (∀ i, i < ops.size → V.getD i false = true) → Q s)
    (hnew : ∀ fuel L env a w, RInv w0 T0 H ops s0 vs V Pd s L env a w → ∀ i o, ops[i]? = some o → Dp L o → V.getD i false = false → openN L ops.size = fuel + 1 → wpOp P ops (fun e a' w' => e = .normal ∧ ∃ s', Q s' ∧ Rep w0 T0 H s' a' w') i (wpAny P .any ops (fun e a' w' => e = .normal ∧ ∃ s', Q s' ∧ Rep w0 T0 H s' a' w') fuel (L.setIfInBounds i true)) a w) :
    ∀ fuel L env a w, openN L ops.size = fuel → RInv w0 T0 H ops s0 vs V Pd s L env a w → wpAny P .any ops (fun e a' w' => e = .normal ∧ ∃ s', Q s' ∧ Rep w0 T0 H s' a' w') fuel L a w := by
  have fin : ∀ (L : Array Bool) (env : List (Nat × AV)) (a : Act) (w : World), (∀ i, i < ops.size → L.getD i false = true) → RInv w0 T0 H ops s0 vs V Pd s L env a w → ∃ s', Q s' ∧ Rep w0 T0 H s' a w := by
    intro L env a w hall inv
    refine ⟨s, hfin fun i hi => inv.sub i (hall i hi), ?_⟩
    obtain ⟨m, hm⟩ := inv.rep
    refine ⟨m, ?_⟩
    refine { size := by rw [hv.n]; exact hm.size, nodef := hm.nodef, below := hm.below, held := hm.held, rows := hm.rows, sep := hm.sep, env := ?_ }
    intro r v hvr
    have hg : S.get ⟨s0.n, env, [], 0⟩ r = v := by
      rw [inv.get r]
      have h2 : s.get r = v := by simp [S.get, hvr]
      rw [← h2, hv.sget r]
      unfold stG
      cases hx : dix ops r with
      | none => rfl
      | some j =>
        obtain ⟨o, ho, _⟩ := dix_some hx
        have hlt := (Array.getElem?_eq_some_iff.1 ho).1
        dsimp only
        rw [hall j hlt, inv.sub j (hall j hlt)]
    simp only [S.get] at hg
    cases hl : lk env r with
    | none => rw [hl] at hg; simp only at hg; subst hg; exact .dead _
    | some v' => rw [hl] at hg; simp only at hg; subst hg; exact hm.env r v' hl
  intro fuel
  induction fuel with
  | zero =>
    intro L env a w hf inv
    have hall := openN_zero hf
    refine ⟨?_, rfl, fin L env a w hall inv⟩
    apply List.eq_nil_iff_forall_not_mem.2
    intro j hj
    obtain ⟨h1, o, ho, _⟩ := mem_ready.1 hj
    have hlt := (Array.getElem?_eq_some_iff.1 ho).1
    have h2 := hall j hlt
    rw [getD_lo h1] at h2
    cases h2
  | succ fuel ih =>
    intro L env a w hf inv
    refine ⟨fun hr => ⟨rfl, fin L env a w (all_listed hok inv.size hr) inv⟩, ?_⟩
    intro i hi
    obtain ⟨hun, o, ho, hdep⟩ := mem_ready.1 hi
    have hlt := (Array.getElem?_eq_some_iff.1 ho).1
    have hL : L.getD i false = false := getD_lo hun
    cases hVi : V.getD i false with
    | false => exact hnew fuel L env a w inv i o ho hdep hVi hf
    | true =>
      obtain ⟨_, h2⟩ := hv.pd i (inv.pd i hVi hL)
      obtain ⟨U, hu1, hu2, hu3, hu4, hu5, hqs, _⟩ := h2 o ho
      unfold wpOp
      rw [ho]
      dsimp only
      have wrap : ∀ {A B : Prop} {b : Bool} {C : Prop}, (if b = true then A else B) → (if b = true then A ∨ C else B) := by
        intro A B b C h
        cases b with
        | true => simpa using Or.inl h
        | false => simpa using h
      apply wrap
      refine hqs env (fun r hr => ?_) H a w _ _ inv.rep fun val w' hr' => ?_
      · rw [inv.get r]
        exact agree hok ho inv.size hu1 inv.cl hu2 hdep hu4 hL hu5 r hr
      · obtain ⟨env', hg', hrep'⟩ := RInv.more hok ho inv.size inv.get (fun d hd => hv.put i o d hVi ho hd) hr'
        have hop := openN_set (by rw [inv.size]; exact hlt) hL ops.size
        rw [if_pos hlt] at hop
        refine ih _ env' _ w' (by omega) ⟨by simpa using inv.size, inv.cl.set ho hdep, fun j hj => ?_, hg', hrep', fun j h1 h2 => ?_⟩
        · by_cases e : i = j
          · subst e; exact hVi
          · rw [getD_set_ne false e] at hj; exact inv.sub j hj
        · by_cases e : i = j
          · subst e
            have : i < L.size := by rw [inv.size]; exact hlt
            simp [this] at h2
          · rw [getD_set_ne false e] at h2; exact inv.pd j h1 h2
end
end Go.Fv

namespace Go.Fv
set_option linter.unusedSectionVars false
open Go.RowKit
set_option linter.unusedVariables false
set_option linter.unusedSimpArgs false
set_option linter.unnecessarySimpa false

theorem mem_accKeep {ks : List Nat} {x : Nat × Acc} (hk : esMem ks x.1 = true) : ∀ {l : List (Nat × Acc)}, x ∈ l → x ∈ accKeep ks l
  | y :: l, h => by
    unfold accKeep
    rcases List.mem_cons.1 h with rfl | h
    · rw [hk]; exact .head _
    · cases esMem ks y.1 with
      | true => exact .tail _ (mem_accKeep hk h)
      | false => exact mem_accKeep hk h
theorem esMem_mem {l : List Nat} {i : Nat} : esMem l i = true ↔ i ∈ l := by
  rw [esMem_eq]; simp

section
variable {P : Program} {w0 : World} {T0 : Bs} {b0 : Nat} {ops : Array Oper} {T : List Nat} {H : List (AV × Value)} [hG : GlB P w0 T0]

theorem redoT_mem {n : Nat} {R : List (Nat × Item)} {N : Nat} {x : Nat × Acc} {l : List (Nat × Acc)} (h : redoT P w0 T0 n R N l) (hx : x ∈ l) : redoC P w0 T0 n x.2 (R, N) := by
  induction l with
  | nil => cases hx
  | cons y l ih =>
    obtain ⟨j, o, g, env, v, ks⟩ := y
    have h1 : redoH P w0 T0 n o g env v R N := h.1
    have h2 : redoT P w0 T0 n R N l := h.2
    rcases List.mem_cons.1 hx with rfl | hx
    · unfold redoH at h1; unfold redoC
      cases g with
      | none => exact h1
      | some c => exact h1
    · exact ih h2 hx

theorem set_getD_self {vs : List AV} {i : Nat} {v : AV} (h : i < vs.length) : (vs.set i v).getD i .dead = v := by
  simp [List.getD_eq_getElem?_getD, h]
theorem set_getD_ne {vs : List AV} {i j : Nat} {v : AV} (h : i ≠ j) : (vs.set i v).getD j .dead = vs.getD j .dead := by
  simp [List.getD_eq_getElem?_getD, List.getElem?_set, h]

theorem putS_get (hok : LexOk ops [] [] T) {s0 s : S} {vs : List AV} {V : Array Bool} {i : Nat} {o : Oper} {v : AV} {R : List (Nat × Item)} {N : Nat} (ho : ops[i]? = some o) (hs : V.size = ops.size) (hl : vs.length = ops.size) (hV : V.getD i false = false) (hg : ∀ r, s.get r = stG ops s0 vs V r) :
    ∀ r, (putS o.dst v ⟨s.n, s.env, R, N⟩).get r = stG ops s0 (vs.set i v) (V.setIfInBounds i true) r := by
  intro r
  have hilt := (Array.getElem?_eq_some_iff.1 ho).1
  have h := stG_put hok (s0 := s0) (vs := vs.set i v) (g := s.get) ho hs (fun r => (hg r).trans (stG_set hV r).symm) r
  rw [set_getD_self (by omega)] at h
  rw [← h]
  unfold putS
  cases o.dst with
  | none => rfl
  | some d => exact get_cons

theorem VInv.quiet (hok : LexOk ops [] [] T) {s0 s : S} {vs : List AV} {V : Array Bool} {Pd : List Nat} {acc acc' : List (Nat × Acc)} {i : Nat} {o : Oper} {v : AV} (hv : VInv P w0 T0 ops s0 vs V Pd acc s) (ho : ops[i]? = some o) (hd : Dp V o) (hV : V.getD i false = false)
    (hq : QS P w0 T0 ops o s.n s.get (s.rows, s.next) (s.rows, s.next) v) (hr : (∀ h, QS P w0 T0 ops o s.n s.get h h v) ∨ ∃ x, (i, x) ∈ acc' ∧ ∀ h, redoC P w0 T0 s.n x h → QS P w0 T0 ops o s.n s.get h h v)
    (hsub : ∀ x, x ∈ acc → x ∈ acc') (hdst : dstOk o.dst s.n) : VInv P w0 T0 ops s0 (vs.set i v) (V.setIfInBounds i true) (i :: Pd) acc' (putS o.dst v s) := by
  have hilt := (Array.getElem?_eq_some_iff.1 ho).1
  have hVs : (V.setIfInBounds i true).getD i false = true := by
    have : i < V.size := by rw [hv.vsize]; exact hilt
    simp [this]
  have hup : ∀ j, V.getD j false = true → (V.setIfInBounds i true).getD j false = true := fun j hj => getD_set_true hj
  have hrows : (putS o.dst v s).rows = s.rows ∧ (putS o.dst v s).next = s.next ∧ (putS o.dst v s).n = s.n := by
    unfold putS; cases o.dst <;> exact ⟨rfl, rfl, rfl⟩
  have conv : ∀ {h h' : HpS}, QS P w0 T0 ops o s.n s.get h h' v → QS P w0 T0 ops o s0.n (stG ops s0 (vs.set i v) V) h h' ((vs.set i v).getD i .dead) := by
    intro h h' hh
    rw [set_getD_self (by rw [hv.vlen]; exact hilt), ← hv.n]
    exact hh.congr fun r _ => by rw [stG_set hV]; exact (hv.sget r).symm
  refine ⟨by simpa using hv.vsize, by simpa using hv.vlen, hv.cl.set ho hd, by rw [hrows.2.2]; exact hv.n, ?_, ?_, ?_⟩
  · exact putS_get hok (R := s.rows) (N := s.next) ho hv.vsize hv.vlen hV hv.sget
  · intro j hj
    rcases List.mem_cons.1 hj with rfl | hj
    · refine ⟨hVs, fun o' ho' => ?_⟩
      rw [ho] at ho'; cases ho'
      refine ⟨V, hv.vsize, hv.cl, hup, hd, hV, ?_, ?_⟩
      · rw [hrows.1, hrows.2.1]; exact conv hq
      · rcases hr with h | ⟨x, hx, h⟩
        · exact .inl fun h' => conv (h h')
        · exact .inr ⟨x, hx, fun h' hc => conv (h h' (by rw [hv.n]; exact hc))⟩
    · obtain ⟨h1, h2⟩ := hv.pd j hj
      have hne : i ≠ j := by rintro rfl; rw [hV] at h1; cases h1
      refine ⟨hup j h1, fun o' ho' => ?_⟩
      obtain ⟨U, u1, u2, u3, u4, u5, u6, u7⟩ := h2 o' ho'
      have hUi : U.getD i false = false := by
        cases hu : U.getD i false with
        | false => rfl
        | true => have := u3 i hu; rw [hV] at this; cases this
      have cv : ∀ {h h' : HpS}, QS P w0 T0 ops o' s0.n (stG ops s0 vs U) h h' (vs.getD j .dead) → QS P w0 T0 ops o' s0.n (stG ops s0 (vs.set i v) U) h h' ((vs.set i v).getD j .dead) := by
        intro h h' hh
        rw [set_getD_ne hne]
        exact hh.congr fun r _ => stG_set hUi r
      refine ⟨U, u1, u2, fun k hk => hup k (u3 k hk), u4, u5, ?_, ?_⟩
      · rw [hrows.1, hrows.2.1]; exact cv u6
      · rcases u7 with h | ⟨x, hx, h⟩
        · exact .inl fun h' => cv (h h')
        · exact .inr ⟨x, hsub _ hx, fun h' hc => cv (h h' hc)⟩
  · intro j oj d hj hoj hdj
    by_cases e : i = j
    · subst e
      rw [ho] at hoj; cases hoj
      rw [hdj] at hdst
      rw [← hv.n]; exact hdst
    · rw [getD_set_ne false e] at hj
      exact hv.put j oj d hj hoj hdj

theorem VInv.eff (hok : LexOk ops [] [] T) {s0 s : S} {vs : List AV} {V : Array Bool} {Pd ks : List Nat} {acc : List (Nat × Acc)} {i : Nat} {o : Oper} {v : AV} {R : List (Nat × Item)} {N : Nat} (hv : VInv P w0 T0 ops s0 vs V Pd acc s) (ho : ops[i]? = some o) (hd : Dp V o) (hV : V.getD i false = false)
    (hks : ∀ j, j ∈ ks → j ∈ Pd) (hre : redoT P w0 T0 s.n R N (accKeep ks acc)) (hdst : dstOk o.dst s.n) : VInv P w0 T0 ops s0 (vs.set i v) (V.setIfInBounds i true) ks (accKeep ks acc) (putS o.dst v ⟨s.n, s.env, R, N⟩) := by
  have hilt := (Array.getElem?_eq_some_iff.1 ho).1
  have hup : ∀ j, V.getD j false = true → (V.setIfInBounds i true).getD j false = true := fun j hj => getD_set_true hj
  have hrows : (putS o.dst v ⟨s.n, s.env, R, N⟩).rows = R ∧ (putS o.dst v ⟨s.n, s.env, R, N⟩).next = N ∧ (putS o.dst v ⟨s.n, s.env, R, N⟩).n = s.n := by
    unfold putS; cases o.dst <;> exact ⟨rfl, rfl, rfl⟩
  refine ⟨by simpa using hv.vsize, by simpa using hv.vlen, hv.cl.set ho hd, by rw [hrows.2.2]; exact hv.n, ?_, ?_, ?_⟩
  · exact putS_get hok ho hv.vsize hv.vlen hV hv.sget
  · intro j hj
    obtain ⟨h1, h2⟩ := hv.pd j (hks j hj)
    have hne : i ≠ j := by rintro rfl; rw [hV] at h1; cases h1
    refine ⟨hup j h1, fun o' ho' => ?_⟩
    obtain ⟨U, u1, u2, u3, u4, u5, u6, u7⟩ := h2 o' ho'
    have hUi : U.getD i false = false := by
      cases hu : U.getD i false with
      | false => rfl
      | true => have := u3 i hu; rw [hV] at this; cases this
    have cv : ∀ {h h' : HpS}, QS P w0 T0 ops o' s0.n (stG ops s0 vs U) h h' (vs.getD j .dead) → QS P w0 T0 ops o' s0.n (stG ops s0 (vs.set i v) U) h h' ((vs.set i v).getD j .dead) := by
      intro h h' hh
      rw [set_getD_ne hne]
      exact hh.congr fun r _ => stG_set hUi r
    refine ⟨U, u1, u2, fun k hk => hup k (u3 k hk), u4, u5, ?_, ?_⟩
    · rw [hrows.1, hrows.2.1]
      rcases u7 with h | ⟨x, hx, h⟩
      · exact cv (h _)
      · have := redoT_mem hre (mem_accKeep (x := (j, x)) (esMem_mem.2 hj) hx)
        rw [hv.n] at this
        exact cv (h _ this)
    · rcases u7 with h | ⟨x, hx, h⟩
      · exact .inl fun h' => cv (h h')
      · exact .inr ⟨x, mem_accKeep (x := (j, x)) (esMem_mem.2 hj) hx, fun h' hc => cv (h h' hc)⟩
  · intro j oj d hj hoj hdj
    by_cases e : i = j
    · subst e
      rw [ho] at hoj; cases hoj
      rw [hdj] at hdst
      rw [← hv.n]; exact hdst
    · rw [getD_set_ne false e] at hj
      exact hv.put j oj d hj hoj hdj

/-- What the tree's step says of a quiet operation. -/
theorem quiet_of (hok : LexOk ops [] [] T) {s : S} {i : Nat} {o : Oper} {t : LTree} {acc : List (Nat × Acc)} {Q : S → Prop} (ho : ops[i]? = some o) (h : vcFork P w0 T0 ops (.quiet i t) acc s Q) :
    ∃ v acc', QS P w0 T0 ops o s.n s.get (s.rows, s.next) (s.rows, s.next) v ∧ ((∀ h, QS P w0 T0 ops o s.n s.get h h v) ∨ ∃ x, (i, x) ∈ acc' ∧ ∀ h, redoC P w0 T0 s.n x h → QS P w0 T0 ops o s.n s.get h h v) ∧
      (∀ x, x ∈ acc → x ∈ acc') ∧ dstOk o.dst s.n ∧ vcFork P w0 T0 ops t acc' (putS o.dst v s) Q := by
  have hrd := hok.reads i o ho
  unfold vcFork at h
  rw [ho] at h
  dsimp only at h
  cases hg : gd ops s o with
  | none => rw [hg] at h; exact h.elim
  | some g =>
    rw [hg] at h
    simp only [gGo] at h
    have gen : ∀ v, qCond P w0 T0 o g s v → dstOk o.dst s.n → vcFork P w0 T0 ops t ((i, ⟨o, g, lxEnv g s (rOps o.op), v, []⟩) :: acc) (putS o.dst (lxPut g v) s) Q → ∃ v acc', QS P w0 T0 ops o s.n s.get (s.rows, s.next) (s.rows, s.next) v ∧ ((∀ h, QS P w0 T0 ops o s.n s.get h h v) ∨ ∃ x, (i, x) ∈ acc' ∧ ∀ h, redoC P w0 T0 s.n x h → QS P w0 T0 ops o s.n s.get h h v) ∧
      (∀ x, x ∈ acc → x ∈ acc') ∧ dstOk o.dst s.n ∧ vcFork P w0 T0 ops t acc' (putS o.dst v s) Q := by
      intro v hA hds hk
      cases g with
      | none =>
        refine ⟨v, _, QS.plain (h := (s.rows, s.next)) (h' := (s.rows, s.next)) (gd_none hg) (qVc_opE (h := (s.rows, s.next)) hrd hA), .inr ⟨_, .head _, fun h hc => QS.plain (h := h) (h' := h) (gd_none hg) (qVc_opE (h := h) hrd ?_)⟩, fun x hx => .tail _ hx, hds, hk⟩
        simp only [redoC, qVc] at hc
        exact hc
      | some c =>
        refine ⟨.opt c v, _, QS.guarded (h := (s.rows, s.next)) (h' := (s.rows, s.next)) hg (fun e => qVc_opP (h := (s.rows, s.next)) hrd (hA.2 e).1 (hA.2 e).2) (fun _ => ⟨rfl, hA.1⟩), .inr ⟨_, .head _, fun h hc => ?_⟩, fun x hx => .tail _ hx, hds, hk⟩
        simp only [redoC, qVc] at hc
        exact QS.guarded (h := h) (h' := h) hg (fun e => qVc_opP (h := h) hrd (hA.2 e).1 (hc.2 e)) (fun _ => ⟨rfl, hc.1⟩)
    unfold qRes at h
    cases hp : gPick ⟨s.n, onlyE s (rOps o.op), s.rows, s.next⟩ o.op with
    | some pb =>
      obtain ⟨pre, b⟩ := pb
      rw [hp] at h
      cases g with
      | none =>
        obtain ⟨⟨h1, h2⟩, h3, h4⟩ := h
        have hall : ∀ h : HpS, QS P w0 T0 ops o s.n s.get h h (.bool b) := fun h => QS.plain (gd_none hg) (gPick_op hrd hp h1 h2)
        exact ⟨_, acc, hall _, .inl hall, fun _ h => h, h3, h4⟩
      | some c =>
        obtain ⟨h1, h3, h4⟩ := h
        have hall : ∀ h : HpS, QS P w0 T0 ops o s.n s.get h h (.opt c (.bool b)) := fun h => QS.guarded hg (fun e => gPick_op hrd hp (h1 e).1 (h1 e).2) (fun _ => ⟨rfl, rfl⟩)
        exact ⟨_, acc, hall _, .inl hall, fun _ h => h, h3, h4⟩
    | none =>
      rw [hp] at h
      dsimp only at h
      cases hv : gVal P ⟨s.n, lxEnv g s (rOps o.op), s.rows, s.next⟩ o.op with
      | some v =>
        rw [hv] at h
        obtain ⟨h1, h3, h4⟩ := h
        exact gen v h1 h3 h4
      | none =>
        rw [hv] at h
        cases g with
        | some c =>
          obtain ⟨v, h1, h3, h4⟩ := (h : @QV ⟨_, _⟩)
          exact gen v h1 h3 h4
        | none =>
          cases hl : isLin o.op with
          | false =>
            rw [hl] at h
            obtain ⟨v, h1, h3, h4⟩ := (h : @QV ⟨_, _⟩)
            exact gen v h1 h3 h4
          | true =>
            rw [hl] at h
            obtain ⟨v, t, ⟨⟨hr, hx⟩, h3, h4⟩, hall⟩ := lin_op hl _ h
            exact gen v (hall _ ⟨rfl, hr, hx⟩) h3 h4

theorem eff_of (hok : LexOk ops [] [] T) {s : S} {i : Nat} {o : Oper} {ks : List Nat} {t r : LTree} {acc : List (Nat × Acc)} {Q : S → Prop} (ho : ops[i]? = some o) (h : vcFork P w0 T0 ops (.eff i ks t r) acc s Q) :
    (∃ v R N, QS P w0 T0 ops o s.n s.get (s.rows, s.next) (R, N) v ∧ redoT P w0 T0 s.n R N (accKeep ks acc) ∧ dstOk o.dst s.n ∧ vcFork P w0 T0 ops t (accKeep ks acc) (putS o.dst v ⟨s.n, s.env, R, N⟩) Q) ∧ vcFork P w0 T0 ops r acc s Q := by
  have hrd := hok.reads i o ho
  unfold vcFork at h
  rw [ho] at h
  dsimp only at h
  refine ⟨?_, h.2⟩
  have h := h.1
  cases hg : gd ops s o with
  | none => rw [hg] at h; exact h.elim
  | some g =>
    rw [hg] at h
    simp only [gGo] at h
    cases g with
    | none =>
      dsimp only at h
      cases hl : isLin o.op with
      | false =>
        rw [hl] at h
        obtain ⟨v, R, N, h1, h2, h3, h4⟩ := (h : @QE ⟨_, _⟩)
        exact ⟨v, R, N, QS.plain (h := (s.rows, s.next)) (h' := (R, N)) (gd_none hg) (qVc_opE (h := (s.rows, s.next)) hrd h1), h2, h3, h4⟩
      | true =>
        rw [hl] at h
        obtain ⟨v, t', ⟨h2, h3, h4⟩, hall⟩ := lin_op hl _ h
        exact ⟨v, t'.rows, t'.next, QS.plain (h := (s.rows, s.next)) (h' := (t'.rows, t'.next)) (gd_none hg) (qVc_opE (h := (s.rows, s.next)) hrd (hall _ ⟨rfl, rfl, rfl⟩)), h2, h3, h4⟩
    | some c =>
      dsimp only at h
      cases c with
      | true =>
        obtain ⟨v, R, N, ⟨hpc, hA⟩, h2, h3, h4⟩ := h.1 rfl
        exact ⟨.opt true v, R, N, QS.guarded (h := (s.rows, s.next)) (h' := (R, N)) hg (fun _ => qVc_opP (h := (s.rows, s.next)) hrd hpc hA) (fun e => by cases e), h2, h3, h4⟩
      | false =>
        obtain ⟨h2, h3, h4⟩ := h.2 rfl
        exact ⟨.opt false (.bool false), s.rows, s.next, QS.guarded (h := (s.rows, s.next)) (h' := (s.rows, s.next)) hg (fun e => by cases e) (fun _ => ⟨rfl, rfl⟩), h2, h3, h4⟩

theorem fork_sound (hok : LexOk ops [] [] T) {s0 : S} {Q : S → Prop} : ∀ t : LTree,
    (∀ V Pd acc s vs, forkOk ops T t true V Pd = true → VInv P w0 T0 ops s0 vs V Pd acc s → vcFork P w0 T0 ops t acc s Q → ∀ fuel L env a w, openN L ops.size = fuel → RInv w0 T0 H ops s0 vs V Pd s L env a w → wpAny P .any ops (fun e a' w' => e = .normal ∧ ∃ s', Q s' ∧ Rep w0 T0 H s' a' w') fuel L a w) ∧
    (∀ V Pd acc s vs, forkOk ops T t false V Pd = true → VInv P w0 T0 ops s0 vs V Pd acc s → vcFork P w0 T0 ops t acc s Q → ∀ i, i ∈ altIds t → ∀ fuel L env a w, RInv w0 T0 H ops s0 vs V Pd s L env a w → ∀ o, ops[i]? = some o → Dp L o → openN L ops.size = fuel + 1 → wpOp P ops (fun e a' w' => e = .normal ∧ ∃ s', Q s' ∧ Rep w0 T0 H s' a' w') i (wpAny P .any ops (fun e a' w' => e = .normal ∧ ∃ s', Q s' ∧ Rep w0 T0 H s' a' w') fuel (L.setIfInBounds i true)) a w) := by
  have inL : ∀ {V L : Array Bool} {Pd : List Nat} {s : S} {vs : List AV} {env : List (Nat × AV)} {a : Act} {w : World}, RInv w0 T0 H ops s0 vs V Pd s L env a w → ∀ {o : Oper}, Dp L o → Dp V o := fun inv o hd e he hb => inv.sub _ (hd e he hb)
  have notL : ∀ {V L : Array Bool} {Pd : List Nat} {s : S} {vs : List AV} {env : List (Nat × AV)} {a : Act} {w : World}, RInv w0 T0 H ops s0 vs V Pd s L env a w → ∀ {i : Nat}, V.getD i false = false → L.getD i false = false := by
    intro V L Pd s vs env a w inv i hi
    cases hL : L.getD i false with
    | false => rfl
    | true => have := inv.sub i hL; rw [hi] at this; cases this
  intro t
  induction t with
  | done =>
    refine ⟨?_, fun V Pd acc s vs hf => by simp [forkOk] at hf⟩
    intro V Pd acc s vs hf hv h
    simp only [forkOk, Bool.true_and] at hf
    have hall : ∀ i, i < ops.size → V.getD i false = true := fun i hi => List.all_eq_true.1 hf i (List.mem_range.2 hi)
    refine fork_run hok hv (fun _ => h) fun fuel L env a w inv i o ho hd hV => ?_
    rw [hall i (Array.getElem?_eq_some_iff.1 ho).1] at hV; cases hV
  | none =>
    exact ⟨fun V Pd acc s vs hf => by simp [forkOk] at hf, fun V Pd acc s vs hf hv h i hi => by cases hi⟩
  | quiet i t ih =>
    refine ⟨?_, fun V Pd acc s vs hf => by simp [forkOk] at hf⟩
    intro V Pd acc s vs hf hv h fuel L env a w hfu inv
    simp only [forkOk, Bool.true_and, Bool.and_eq_true, decide_eq_true_eq, Bool.not_eq_true'] at hf
    obtain ⟨⟨⟨hi, hV⟩, hdp⟩, hf⟩ := hf
    obtain ⟨o, ho⟩ : ∃ o, ops[i]? = some o := ⟨ops[i], Array.getElem?_eq_getElem hi⟩
    have hd := (depsB_spec ho).1 hdp
    obtain ⟨v, acc', h1, h2, h3, h4, h5⟩ := quiet_of hok ho h
    have hL := notL inv hV
    refine ih.1 _ _ _ _ _ hf (hv.quiet hok ho hd hV h1 h2 h3 h4) h5 fuel L env a w hfu ?_
    have hrows : (putS o.dst v s).rows = s.rows ∧ (putS o.dst v s).next = s.next := by unfold putS; cases o.dst <;> exact ⟨rfl, rfl⟩
    refine ⟨inv.size, inv.cl, fun j hj => getD_set_true (inv.sub j hj), fun r => by rw [stG_set hL]; exact inv.get r, by rw [hrows.1, hrows.2]; exact inv.rep, fun j hj hj' => ?_⟩
    by_cases e : i = j
    · subst e; exact .head _
    · rw [getD_set_ne false e] at hj
      exact .tail _ (inv.pd j hj hj')
  | eff i ks t r iht ihr =>
    have alt : ∀ V Pd acc s vs, forkOk ops T (.eff i ks t r) false V Pd = true → VInv P w0 T0 ops s0 vs V Pd acc s → vcFork P w0 T0 ops (.eff i ks t r) acc s Q → ∀ j, j ∈ altIds (.eff i ks t r) → ∀ fuel L env a w, RInv w0 T0 H ops s0 vs V Pd s L env a w → ∀ o, ops[j]? = some o → Dp L o → openN L ops.size = fuel + 1 → wpOp P ops (fun e a' w' => e = .normal ∧ ∃ s', Q s' ∧ Rep w0 T0 H s' a' w') j (wpAny P .any ops (fun e a' w' => e = .normal ∧ ∃ s', Q s' ∧ Rep w0 T0 H s' a' w') fuel (L.setIfInBounds j true)) a w := by
      intro V Pd acc s vs hf hv h j hj fuel L env a w inv o ho hd hfu
      simp only [forkOk, Bool.not_false, Bool.true_or, Bool.true_and, Bool.and_eq_true, decide_eq_true_eq, Bool.not_eq_true'] at hf
      obtain ⟨⟨⟨⟨⟨⟨hi, hV⟩, hdp⟩, hPd⟩, hks⟩, hft⟩, hfr⟩ := hf
      rcases List.mem_cons.1 (show j ∈ i :: altIds r from hj) with rfl | hj
      · obtain ⟨⟨v, R, N, hqs, hre, hds, hk⟩, _⟩ := eff_of hok ho h
        have hdV := inL inv hd
        have hL := notL inv hV
        have hksP : ∀ k, k ∈ ks → k ∈ Pd := fun k hk => by simpa using List.all_eq_true.1 hks k hk
        have hv' := hv.eff (v := v) (R := R) (N := N) hok ho hdV hV hksP hre hds
        unfold wpOp
        rw [ho]
        dsimp only
        have wrap : ∀ {A B : Prop} {b : Bool} {C : Prop}, (if b = true then A else B) → (if b = true then A ∨ C else B) := by
          intro A B b C h
          cases b with
          | true => simpa using Or.inl h
          | false => simpa using h
        apply wrap
        rw [hv.n] at hqs
        refine hqs env (fun q hq => ?_) H a w _ _ inv.rep fun val w' hr' => ?_
        · rw [inv.get q, hv.sget q]
          exact agree hok ho inv.size hv.vsize inv.cl hv.cl hd hdV hL hV q hq
        · have hput : ∀ d, o.dst = some d → d < s0.n := fun d hdd => by rw [hdd] at hds; rw [← hv.n]; exact hds
          have hr2 : Rep w0 T0 (((vs.set j v).getD j .dead, val) :: H) ⟨s0.n, env, R, N⟩ a w' := by
            rw [set_getD_self (by rw [hv.vlen]; exact hi)]; exact hr'
          obtain ⟨env', hg', hrep'⟩ := RInv.more hok (s0 := s0) (vs := vs.set j v) ho inv.size (fun r => by rw [stG_set hL]; exact inv.get r) hput hr2
          have hop := openN_set (by rw [inv.size]; exact hi) hL ops.size
          rw [if_pos hi] at hop
          have hrows : (putS o.dst v ⟨s.n, s.env, R, N⟩).rows = R ∧ (putS o.dst v ⟨s.n, s.env, R, N⟩).next = N := by unfold putS; cases o.dst <;> exact ⟨rfl, rfl⟩
          refine iht.1 _ _ _ _ _ hft hv' hk fuel _ env' _ w' (by omega) ⟨by simpa using inv.size, inv.cl.set ho hd, fun k hk => ?_, hg', by rw [hrows.1, hrows.2]; exact hrep', fun k h1 h2 => ?_⟩
          · by_cases e : j = k
            · subst e
              have : j < V.size := by rw [hv.vsize]; exact hi
              simp [this]
            · rw [getD_set_ne false e] at hk ⊢; exact inv.sub k hk
          · by_cases e : j = k
            · subst e
              have : j < L.size := by rw [inv.size]; exact hi
              simp [this] at h2
            · rw [getD_set_ne false e] at h1 h2
              have hkP := inv.pd k h1 h2
              have := List.all_eq_true.1 hPd k hkP
              rw [Bool.or_eq_true] at this
              rcases this with hb | hm
              · have hklt : k < ops.size := by have := getD_lt_size h1; rw [hv.vsize] at this; exact this
                have := anc_listed hok inv.size inv.cl j o ho hd k hklt hb
                rw [h2] at this; cases this
              · exact esMem_mem.1 hm
      · exact ihr.2 V Pd acc s vs hfr hv h.2 j hj fuel L env a w inv o ho hd hfu
    refine ⟨?_, alt⟩
    intro V Pd acc s vs hf hv h
    have hf' : forkOk ops T (.eff i ks t r) false V Pd = true := by
      simp only [forkOk, Bool.not_false, Bool.true_or, Bool.true_and, Bool.and_eq_true] at hf ⊢
      exact ⟨⟨⟨⟨⟨⟨hf.1.1.1.1.1.1.2, hf.1.1.1.1.1.2⟩, hf.1.1.1.1.2⟩, hf.1.1.1.2⟩, hf.1.1.2⟩, hf.1.2⟩, hf.2⟩
    have hcov : ∀ j o, ops[j]? = some o → V.getD j false = false → Dp V o → j ∈ altIds (.eff i ks t r) := by
      intro j o ho hV hd
      simp only [forkOk, Bool.not_true, Bool.false_or, Bool.and_eq_true] at hf
      have h1 := List.all_eq_true.1 hf.1.1.1.1.1.1.1 j (List.mem_range.2 (Array.getElem?_eq_some_iff.1 ho).1)
      rw [hV, (depsB_spec ho).2 hd] at h1
      simpa [altIds] using h1
    have hVi : V.getD i false = false := by
      simp only [forkOk, Bool.not_false, Bool.true_or, Bool.true_and, Bool.and_eq_true, decide_eq_true_eq, Bool.not_eq_true'] at hf'
      exact hf'.1.1.1.1.1.2
    have hilt : i < ops.size := by
      simp only [forkOk, Bool.not_false, Bool.true_or, Bool.true_and, Bool.and_eq_true, decide_eq_true_eq, Bool.not_eq_true'] at hf'
      exact hf'.1.1.1.1.1.1
    refine fork_run hok hv (fun hall => ?_) fun fuel L env a w inv j o ho hd hV hfu => ?_
    · rw [hall i hilt] at hVi; cases hVi
    · exact alt V Pd acc s vs hf' hv h j (hcov j o ho hV (inL inv hd)) fuel L env a w inv o ho hd hfu

/-- A drawn region by a tree (mkFork prints it). -/
theorem VcDraw.fork {id : Nat} {s : S} {Q : S → Prop} (t : LTree) (hm : P.follows .mixedOrders = true) (hok : lexOk ops [] [] (mkAnc ops) = true) (ht : forkOk ops (mkAnc ops) t true (Array.replicate ops.size false) [] = true)
    (h : vcFork P w0 T0 ops t [] s Q) : @VcDraw P w0 T0 b0 id ops s ⟨Q⟩ := by
  intro H a w _ hr
  refine wp_region_any hm ?_
  have hr' : Rep w0 T0 H s a { w with drawn := w.drawn + 1 } := by
    obtain ⟨m, hm⟩ := hr
    exact ⟨m, hm.drawn⟩
  have ok := LexOk.of hok
  have hL : ∀ j, (Array.replicate ops.size false).getD j false = false := fun j => getD_rep _ j
  have hop : openN (Array.replicate ops.size false) ops.size = ops.size := by
    unfold openN
    have : (List.range ops.size).countP (fun j => !(Array.replicate ops.size false).getD j false) = (List.range ops.size).length := by
      apply List.countP_eq_length.2
      intro j _
      rw [hL j]; rfl
    rw [this, List.length_range]
  have hcl : Cl ops (Array.replicate ops.size false) := fun i o _ h => by rw [hL] at h; cases h
  refine (fork_sound ok (s0 := s) t).1 _ _ _ _ (List.replicate ops.size .dead) ht ⟨by simp, by simp, hcl, rfl, fun r => (stG_get_self _ _ r).symm, (by intro j hj; cases hj), (by intro j o d h; rw [hL] at h; cases h)⟩ h ops.size _ s.env a _ hop
    ⟨by simp, hcl, (by intro i h; rw [hL] at h; cases h), (by intro r; rw [stG_get_self]; rfl), hr', (by intro i h; rw [hL] at h; cases h)⟩
theorem VcDraw.forkCut {id : Nat} {s : S} {Q : S → Prop} (t : LTree) (hm : P.follows .mixedOrders = true) (hok : lexOk ops [] [] (mkAnc ops) = true) (ht : forkOk ops (mkAnc ops) t true (Array.replicate ops.size false) [] = true) (shape : S)
    (h : vcFork P w0 T0 ops t [] s (fun s' => Ent w0 T0 b0 s' shape)) (hk : Q shape) : @VcDraw P w0 T0 b0 id ops s ⟨Q⟩ := by
  intro H a w hH hr
  refine wp_mono (VcDraw.fork (b0 := b0) (id := id) t hm hok ht h H a w hH hr) ?_
  rintro e a' w' ⟨he, s', hq, hr'⟩
  exact ⟨he, shape, hk, hq H a' w' hH hr'⟩
end
end Go.Fv

/-
  Congruences: only the state of a word is reckoned out, not what stands behind it.
-/
namespace Go.Fv
set_option linter.unusedSectionVars false
set_option linter.unusedVariables false

section
variable {P : Program} {w0 : World} {T0 : Bs} {s s' : S} {K : AV → S → Prop}
@[congr] theorem vcGo_congr {ops : Array Oper} {o : Oper} {k : S → Prop} (h : s = s') : vcGo P w0 T0 ops o s k = vcGo P w0 T0 ops o s' k := by rw [h]
@[congr] theorem vcWhen_congr {o : Oper} {c c' : Bool} {s1 s2 : S} {k : S → Prop} (hc : c = c') (h : s = s') : vcWhen P w0 T0 o c s s1 s2 k = vcWhen P w0 T0 o c' s' s1 s2 k := by rw [hc, h]
@[congr] theorem vcOps_congr {ops : Array Oper} {l : List Oper} {k : S → Prop} (h : s = s') : vcOps P w0 T0 ops l s k = vcOps P w0 T0 ops l s' k := by rw [h]
@[congr] theorem vcTree_congr {ops : Array Oper} {l : DTree} {k : S → Prop} (h : s = s') : vcTree P w0 T0 ops l s k = vcTree P w0 T0 ops l s' k := by rw [h]
@[congr] theorem vcCode_congr {b0 : Nat} {c : Code} {Q : Exit → S → Prop} (h : s = s') : vcCode P w0 T0 b0 c Q s = vcCode P w0 T0 b0 c Q s' := by rw [h]
@[congr] theorem vcPut_congr {d : Option Nat} {v v' : AV} {k : S → Prop} (hv : v = v') (h : s = s') : vcPut d v s k = vcPut d v' s' k := by rw [hv, h]
@[congr] theorem vcOp_congr {o : Oper} (h : s = s') : vcOp P w0 T0 o s K = vcOp P w0 T0 o s' K := by rw [h]
@[congr] theorem vcCallOp_congr {c : Call} (h : s = s') : vcCallOp P w0 T0 c s K = vcCallOp P w0 T0 c s' K := by rw [h]
end
end Go.Fv

/-
  Facts about types, out of one glance each.
-/
namespace Go.Fv
set_option linter.unusedSectionVars false
set_option linter.unusedVariables false

def zOkB : Value → Bool
  | .int k n => inKB k n
  | .string s => s.size == 0
  | .agg cs => (cs.toList.all fun v => v.oneCell' && (match v with | .string s => s.size == 0 | _ => true)) && decide (0 < cs.size)
  | .tuple _ => false
  | _ => true
theorem zOk_of_B {v : Value} (h : zOkB v = true) : zOk v := by
  cases v <;> first | trivial | cases h; done | skip
  case int k n => exact InK_of_B h
  case string s =>
    have h' : s.size = 0 := by simpa [zOkB] using h
    show s.size ≤ maxLen
    rw [h']; exact Nat.zero_le _
  case agg cs =>
    simp only [zOkB, Bool.and_eq_true, List.all_eq_true, decide_eq_true_eq] at h
    refine ⟨fun v hv => ⟨(h.1 v hv).1, ?_⟩, h.2⟩
    have h2 := (h.1 v hv).2
    cases v <;> try trivial
    rename_i s
    have h' : s.size = 0 := by simpa using h2
    show s.size ≤ maxLen
    rw [h']; exact Nat.zero_le _
theorem ElemZ.of {P : Program} {e : TypeId} {z : Value} (h : (P.info? e).map (fun i => (i.zero, i.size, decide (i.bytes ≤ 1024))) = some (some z, z.cells.size, true)) (hz : zOkB z = true) : ElemZ P e z := by
  refine ⟨?_, zOk_of_B hz⟩
  cases hi : P.info? e with
  | none => rw [hi] at h; cases h
  | some i =>
    rw [hi] at h
    simp only [Option.map_some, Option.some.injEq, Prod.mk.injEq, decide_eq_true_eq] at h
    exact ⟨i, rfl, h.1, h.2.1, h.2.2⟩
theorem ElemZ.zero {P : Program} {e : TypeId} {z : Value} (h : ElemZ P e z) : zeroOf P e = some z := by
  obtain ⟨i, h1, h2, _⟩ := h.ex
  simp [zeroOf, h1, h2]
theorem ElemZ.cellsOf {P : Program} {e : TypeId} {z : Value} (h : ElemZ P e z) : P.cellsOf e = z.cells.size := by
  obtain ⟨i, h1, h2, h3, _⟩ := h.ex
  simp [Program.cellsOf, h1, h3]
end Go.Fv

/-
  The names of one state among those of another, found by looking; steps of a walk.
-/
namespace Go.Fv
set_option linter.unusedSectionVars false
set_option linter.unusedVariables false

mutual
def mkV : AV → AV → List (Nat × Nat)
  | .own i, y => match y with | .own k => [(i, k)] | _ => []
  | .ptr i _, y => match y with | .ptr k _ => [(i, k)] | _ => []
  | .elt i _ _ _, y => match y with | .elt k _ _ _ => [(i, k)] | _ => []
  | .agg l, y => match y with | .agg l' => mkL l l' | _ => []
  | .tup l, y => match y with | .tup l' => mkL l l' | _ => []
  | .fn _ l, y => match y with | .fn _ l' => mkL l l' | _ => []
  | .dead, _ => []
  | .nilS, _ => []
  | .bool _, _ => []
  | .int _ _, _ => []
  | .str _, _ => []
  | .ro _, _ => []
  | .cell _, _ => []
  | .raw _, _ => []
  | .opt _ x, y => match y with | .opt _ y' => mkV x y' | _ => []
  | .mp _ _, _ => []
def mkL : List AV → List AV → List (Nat × Nat)
  | [], _ => []
  | x :: l, ys => match ys with | y :: l' => mkV x y ++ mkL l l' | [] => []
end
def mkEnv (s : S) : List (Nat × AV) → List (Nat × Nat)
  | [] => []
  | (r, v) :: l => mkV v (s.get r) ++ mkEnv s l
def mkLL : List (List AV) → List (List AV) → List (Nat × Nat)
  | [], _ => []
  | x :: l, ys => match ys with | y :: l' => mkL x y ++ mkLL l l' | [] => []
def mkR : RowV → RowV → List (Nat × Nat)
  | .objs _ l, .objs _ l' => mkLL l l'
  | _, _ => []
def mkItem : Item → Option Item → List (Nat × Nat)
  | .box _ cs, some (.box _ cs') => mkL cs cs'
  | .row _ r, some (.row _ r') => mkR r r'
  | .map ks vs, some (.map ks' vs') => mkL ks ks' ++ mkL vs vs'
  | .iter i _ _, some (.iter k _ _) => [(i, k)]
  | _, _ => []
def mkRows (l : List (Nat × Nat)) (rows : List (Nat × Item)) : List (Nat × Item) → List (Nat × Nat)
  | [] => []
  | (i, it) :: rest => mkItem it (lk rows (pm l i)) ++ mkRows l rows rest
def mkRen (s s' : S) : List (Nat × Nat) := mkEnv s s'.env ++ mkRows (mkEnv s s'.env) s.rows s'.rows

theorem csz_int (k : IntKind) (n : Int) : (Value.int k n).cells.size = 1 := rfl
theorem csz_bool (b : Bool) : (Value.bool b).cells.size = 1 := rfl
theorem csz_str (b : ByteArray) : (Value.string b).cells.size = 1 := rfl
theorem csz_slice (a : Option Addr) (n m : Nat) : (Value.slice a n m).cells.size = 1 := rfl
theorem csz_ptr (a : Option Addr) : (Value.pointer a).cells.size = 1 := rfl
theorem csz_agg (a : Array Value) : (Value.agg a).cells.size = a.size := rfl
theorem Ite.bool {b : Bool} {x y : Prop} (h1 : b = true → x) (h2 : b = false → y) : @Ite b ⟨x⟩ ⟨y⟩ := ⟨h1, h2⟩
/-- The pairs of names from b on. -/
def fromL (b : Nat) : List (Nat × Nat) → List (Nat × Nat)
  | [] => []
  | x :: l => if b ≤ x.1 then x :: fromL b l else fromL b l
theorem fromL_ge (b : Nat) : ∀ (l : List (Nat × Nat)) x, x ∈ fromL b l → b ≤ x.1
  | y :: l, x, h => by
    simp only [fromL] at h
    split at h
    · rename_i hb
      cases List.mem_cons.1 h with
      | inl e => subst e; exact hb
      | inr e => exact fromL_ge b l x e
    · exact fromL_ge b l x h
section
variable {w0 : World} {T0 : Bs} {b0 : Nat}
theorem Ent.auto0 {s s' : S} (hn : s'.n = s.n) (he : envOk (pm (mkRen s s')) s s'.next s'.env) (hr : subOk (pm (mkRen s s')) s.rows s'.next s'.rows) : Ent w0 T0 0 s s' :=
  Ent.of (mkRen s s') hn (Nat.zero_le _) (fun _ _ => Nat.zero_le _) he hr
theorem Ent.autoK (k : Nat) {s s' : S} (hn : s'.n = s.n) (hk : k ≤ s'.next) (he : envOk (pm (fromL k (mkRen s s'))) s s'.next s'.env) (hr : subOk (pm (fromL k (mkRen s s'))) s.rows s'.next s'.rows) : Ent w0 T0 k s s' :=
  Ent.of _ hn hk (fromL_ge k _) he hr
/-- Where a function ends: names by looking at the result. -/
def retV (s : S) : ResultVar → AV
  | .tmp t => s.ev (.tmp t)
  | .cell t _ => match s.get t with
    | .ptr i off => match lk s.rows i with
      | some (.box _ cs) => .agg (cs.drop off)
      | _ => .dead
    | _ => .dead
def mkRet (s : S) (res : List ResultVar) (out : AV) (rows : List (Nat × Item)) : List (Nat × Nat) :=
  mkV out (tupOf (res.map (retV s))) ++ mkRows (mkV out (tupOf (res.map (retV s)))) s.rows rows
theorem Ret.auto {P : Program} (N : Nat) {res : List ResultVar} {out : AV} {rows : List (Nat × Item)} {s : S} (h : rets P s res (fun vs => tupOf vs = ren (pm (mkRet s res out rows)) out)) (hb : Fv.below N out = true) (hr : subOk (pm (mkRet s res out rows)) s.rows N rows) : Ret P w0 T0 res out rows s :=
  Ret.of _ N h hb hr
end
end Go.Fv

/-
  The set by which a walk is reckoned.
-/
namespace Go.Fv
set_option linter.unusedSectionVars false
theorem band_dec (p q : Prop) [Decidable p] [Decidable q] : (decide p && decide q) = decide (p ∧ q) := by simp
theorem bor_dec (p q : Prop) [Decidable p] [Decidable q] : (decide p || decide q) = decide (p ∨ q) := by simp
theorem bnot_dec (p : Prop) [Decidable p] : (!decide p) = decide (¬ p) := by simp
attribute [go_sem] not_true_eq_false or_true true_or false_or or_false and_false false_and or_self and_self Array.toList_replicate List.map_replicate List.mem_replicate not_false_eq_true ne_eq Value.oneCell' maxLen_eq Nat.zero_le band_dec bor_dec bnot_dec AV.int.injEq AV.bool.injEq vcCode thenS blockS knowB vcOps vcGo vcOp vcMove vcPick vcExtract vcMakeFunc vcBox vcAlloc vcLoad vcNil vcFieldAddr vcIndexAddr vcStore vcMake vcPut vcCallOp vcLen vcAppend vcBin vcBinX kds kd eqB eq1 vcUn vcConv vcIndex vcField vcMM minmax vcSlice vcAppendN vcBuildSlice intsOf vcBuild vcTree S.ev S.get S.set S.add S.swap S.after shRows lk put del evs opndOk strConstsOk ofV inKB ren renL frz frzL addElem addElems subRow knowInt ldCells aggB bnd bndOk zrow elemA setElem spl appRow rowOfAV boxable S.upd idxFrom bparts placeOf bytesOf noId noIdL below belowL RowV.len RowV.sz Item.ren csz_int csz_bool csz_str csz_slice csz_ptr csz_agg List.length_append List.length_set List.length_replicate List.length_nil List.mem_cons List.not_mem_nil or_false forall_eq forall_eq_or_imp implies_true false_implies eq_self List.set_cons_zero List.set_cons_succ List.drop_zero List.drop_succ_cons List.take_succ_cons List.take_zero List.size_toArray List.length_cons List.map_cons List.map_nil List.replicate_zero List.nil_append List.cons_append List.append_nil List.reverse_nil List.zipIdx_cons List.zipIdx_nil Array.toList_empty List.getElem?_cons_zero List.getElem?_cons_succ List.getElem?_toArray Option.bind_some Option.map_some Option.getD_some Nat.one_mul decide_true decide_false Bool.and_self Bool.true_and Bool.false_and Bool.and_true Bool.and_false Bool.not_true Bool.not_false cond_true cond_false Ite_true Ite_false and_true true_and and_self Chk_true Bool.not_eq_true' Nat.zero_add Nat.add_zero Int.toNat_natCast Int.ofNat_eq_natCast pkC pkV peelE peelC peel gOps gBin gLen gHead gCell gVal gPick pickOk vcWhen LetW_eq Chk_r Asm_r Bool.and_eq_true decide_eq_true_eq Bool.cond_true_left Bool.cond_false_right imp_self Bool.not_eq_true decide_eq_false_iff_not Decidable.not_not Bool.not_not InK_i64 InK_u8 Int.natCast_zero
end Go.Fv

/-
  Calls whose results are only read by the caller: they stand as data, and the caller's state stays as it is.
-/
namespace Go.Fv
set_option linter.unusedSectionVars false
open Go.RowKit
set_option linter.unusedVariables false
set_option linter.unusedSimpArgs false
set_option linter.unnecessarySimpa false

def outOk (rows : List (Nat × Item)) (x y : AV) : Prop := match x with
  | .tup l => ∃ l', argOkL rows l l' ∧ y = .tup l'
  | x => argOk rows x y

section
variable {P : Program} {w0 : World} {T0 : Bs}

theorem OutOk.ro {T : Nat → Prop} {B : Nat} {w : World} {out out' : AV} {rows : List (Nat × Item)} {v : Value} (h : OutOk T B w out rows v) (ho : outOk rows out out') : OutOk T B w out' [] v := by
  obtain ⟨m, N, hr, hrows, hsep⟩ := h
  have hblk : ∀ i it, lk rows i = some it → ∀ b, blk (m i) = some b → B ≤ b := fun i it hi b hb => ((hrows i it hi).2.blk b hb).1
  have hl : Lend w (⟨w, allow (bs T) B m rows, m, N⟩ : Ctx) rows (allow (bs T) B (fun _ => undef) []) :=
    { hw := rfl, t := fun b hb => ⟨hb.1, fun i it hi => by simp [lk] at hi⟩,
      own := fun i e r hi => by
        obtain ⟨n, cells, hc, hn, hq, _⟩ := (hrows i _ hi).2
        exact ⟨fun b hb => ⟨.inl (hblk i _ hi b hb), fun i it hi => by simp [lk] at hi⟩, n, cells, hc, hn, hq⟩,
      box := fun i e cs hi => by
        obtain ⟨g, vs, hv, hg, hl, hh⟩ := (hrows i _ hi).2
        exact ⟨g, vs, hv, ⟨.inl hg, fun i it hi => by simp [lk] at hi⟩, hl, hh⟩,
      map := fun i ks vs hi => by
        obtain ⟨g, es, clock, hv, hg, h1, h2, h3, h4, hh⟩ := (hrows i _ hi).2
        exact ⟨g, es, clock, hv, ⟨.inl hg, fun i it hi => by simp [lk] at hi⟩, h1, h2, h3, h4, hh⟩ }
  refine ⟨fun _ => undef, 0, ?_, fun i it hi => by simp [lk] at hi, fun i j it jt b hi => by simp [lk] at hi⟩
  unfold outOk at ho
  split at ho
  · obtain ⟨l', ha, rfl⟩ := ho
    cases hr with
    | tup _ vs hv => exact .tup _ _ (argOkT_rv hl _ ha hv)
  · exact argOkN_rv hl 6 _ ho hr

theorem OutOk.noid {T : Nat → Prop} {B : Nat} {w : World} {out : AV} {v : Value} (h : OutOk T B w out [] v) : OutOk T B w out [] v := h

/-- A CALL BY A CONTRACT whose results share nothing, and are only read. -/
theorem VcCall.ro [hG : GlB P w0 T0] {f : Nat} {args args' : List AV} {out : AV} (out' : AV) {rows : List (Nat × Item)} {s : S} {K : AV → S → Prop} (h : FnFr P f args' out rows) (ha : argOkL s.rows args args') (ho : outOk rows out out') (hn : noId out' = true)
    (hk : K out' s) : @VcCall P w0 T0 f args s ⟨K⟩ := by
  have h' : FnFr P f args' out' [] := ⟨h.1, fun w T vals hgl hv => (h.2 w T vals hgl hv).mono fun e w' ⟨v, he, hb, hq⟩ => ⟨v, he, hb, hq.ro ho⟩⟩
  refine VcCall.fr h' ha 0 (noId_below 0 _ hn) trivial ?_
  rw [noId_ren _ _ hn]
  exact hk

theorem FnOk.ro {f : Nat} {args : List AV} {out out' : AV} {rows : List (Nat × Item)} (h : FnOk P f args out rows) (ho : outOk rows out out') : FnOk P f args out' [] :=
  ⟨h.1, fun w T vals hgl hv => (h.2 w T vals hgl hv).mono fun e w' ⟨v, he, hb, hq⟩ => ⟨v, he, hb, hq.ro ho⟩⟩
/-- The same, and its new rows are the caller's own. -/
theorem VcCall.shr [hG : GlB P w0 T0] {f : Nat} {args args' : List AV} {out : AV} {rows : List (Nat × Item)} {s : S} {K : AV → S → Prop} (h : FnOk P f args' out rows) (ha : argOkL [] args args') (N : Nat) (hN : Fv.below N out = true) (hNr : rowsB N rows)
    (hk : K (ren (fun j => s.next + j) out) (s.after s.rows N rows)) : @VcCall P w0 T0 f args s ⟨K⟩ :=
  VcCall.sh s.rows h [] ha (fun _ _ h => h) (fun i it hi => by simp [lk] at hi) N hN hNr hk
end
end Go.Fv

/-
  A nil slice in a box, as an owned row without elements.
-/
namespace Go.Fv
set_option linter.unusedSectionVars false
open Go.RowKit
set_option linter.unusedVariables false
set_option linter.unusedSimpArgs false
set_option linter.unnecessarySimpa false

section
variable {P : Program} {w0 : World} {T0 : Bs} {b0 : Nat}

theorem RvL.setNil {c : Ctx} {x : AV} (hx : Rv c x (.slice none 0 0)) : ∀ {cs : List AV} {vs : List Value} {j : Nat}, RvL c cs vs → cs[j]? = some .nilS → RvL c (cs.set j x) vs
  | _, _, j, .nil, h => by simp at h
  | _, _, 0, .cons y v l vs hy h1 ht, h => by
    simp at h; subst h
    cases hy
    exact .cons _ _ _ _ hx h1 ht
  | _, _, j + 1, .cons y v l vs hy h1 ht, h => by
    simp at h
    exact .cons _ _ _ _ hy h1 (ht.setNil hx h)

/-- A nil slice in a box is an owned row without elements. -/
theorem Ent.nilBox {s : S} (i : Nat) {t : TypeId} {cs : List AV} (j : Nat) (e : TypeId) {z : Value} (hz : ElemZ P e z) (hi : lk s.rows i = some (.box t cs)) (hj : cs[j]? = some .nilS) :
    Ent w0 T0 b0 s { s with rows := put ((s.next, .row e (zrow z 0)) :: s.rows) i (.box t (cs.set j (.own s.next))), next := s.next + 1 } := by
  rintro H a w hH ⟨m, hm⟩
  have hlt := (hm.rows i _ hi).1
  have h1 := new_nil hm hz
  have hi' : lk (s.add (.row e (zrow z 0))).rows i = some (.box t cs) := by
    simp only [S.add, lk]
    rw [if_neg (by omega)]; exact hi
  have h0 := (h1.rows i _ hi').2
  have h2 := h1.upd h1.below hi' (fun _ _ _ => rfl) (.box t (cs.set j (.own s.next))) (fun c hle hw hmm hN => ?_)
  · exact ⟨_, h2.unhold⟩
  · obtain ⟨g, vs, hv, hg, hl, hh⟩ := h0
    refine ⟨g, vs, hv, hg, ?_, by rw [hw]; exact hh⟩
    exact (hl.mono hle).setNil ((h1.held _ (.head _)).mono hle) hj
end
end Go.Fv

/-
  What a function value has captured, where nothing of it is the caller's own memory.
-/
namespace Go.Fv
set_option linter.unusedSectionVars false
open Go.RowKit
set_option linter.unusedVariables false

def lendB : Nat → AV → Bool
  | 0, _ => false
  | n + 1, x => match x with
    | .agg cs => cs.all (lendB n)
    | .fn _ cs => cs.all (lendB n)
    | .ro _ => true
    | .bool _ => true
    | .int _ _ => true
    | .str _ => true
    | .raw _ => true
    | .cell _ => true
    | .nilS => true
    | .mp _ _ => true
    | _ => false

theorem noIdL_all : ∀ {l : List AV}, (∀ x, x ∈ l → noId x = true) → noIdL l = true
  | [], _ => rfl
  | x :: l, h => by simp only [noIdL, Bool.and_eq_true]; exact ⟨h x (.head _), noIdL_all fun y hy => h y (.tail _ hy)⟩
theorem lendB_noId : ∀ (n : Nat) (x : AV), lendB n x = true → noId x = true
  | 0, x, h => by simp [lendB] at h
  | n + 1, x, h => by
    cases x <;> simp only [lendB] at h <;> first | rfl | (cases h; done) | skip
    · simp only [noId]; exact noIdL_all fun y hy => lendB_noId n y (List.all_eq_true.1 h y hy)
    · simp only [noId]; exact noIdL_all fun y hy => lendB_noId n y (List.all_eq_true.1 h y hy)
theorem allOk_same {R : AV → AV → Prop} : ∀ {l : List AV}, (∀ x, x ∈ l → R x x) → allOk R l l
  | [], _ => rfl
  | x :: l, h => ⟨x, l, h x (.head _), allOk_same fun y hy => h y (.tail _ hy), rfl⟩
theorem lendB_ok (rows : List (Nat × Item)) : ∀ (n : Nat) (x : AV), lendB n x = true → argOkN rows n x x
  | 0, x, h => by simp [lendB] at h
  | n + 1, x, h => by
    cases x <;> simp only [lendB] at h <;> first | (cases h; done) | skip
    all_goals first | (simp only [argOkN]; done) | (simp only [argOkN]; exact .inl trivial) | (simp only [argOkN]; exact ⟨_, allOk_same fun y hy => lendB_ok rows n y (List.all_eq_true.1 h y hy), rfl⟩) | skip

class CapsOk (caps : List AV) : Prop where
  ok : caps.all (lendB 5) = true
section
variable {caps : List AV} [h : CapsOk caps]
theorem caps_noId : noIdL caps = true := noIdL_all fun x hx => lendB_noId 5 x (List.all_eq_true.1 h.ok x hx)
theorem lendB_up : ∀ (n : Nat) (x : AV), lendB n x = true → lendB (n + 1) x = true
  | 0, x, h => by simp [lendB] at h
  | n + 1, x, h => by
    cases x <;> simp only [lendB] at h ⊢ <;> first | (cases h; done) | rfl | skip
    · exact List.all_eq_true.2 fun y hy => lendB_up n y (List.all_eq_true.1 h y hy)
    · exact List.all_eq_true.2 fun y hy => lendB_up n y (List.all_eq_true.1 h y hy)
theorem renL_caps (p : Nat → Nat) : renL p caps = caps := noIdL_ren p caps caps_noId
theorem belowL_caps (n : Nat) : belowL n caps = true := noIdL_below n caps caps_noId
theorem allOk_caps (rows : List (Nat × Item)) : allOk (argOkN rows 6) caps caps := allOk_same fun x hx => lendB_ok rows 6 x (lendB_up 5 x (List.all_eq_true.1 h.ok x hx))
theorem allOk_caps5 (rows : List (Nat × Item)) : allOk (argOkN rows 5) caps caps := allOk_same fun x hx => lendB_ok rows 5 x (List.all_eq_true.1 h.ok x hx)
end
mutual
theorem mkV_noId : ∀ (x y : AV), noId x = true → mkV x y = []
  | .own _, _, h => by simp [noId] at h
  | .ptr _ _, _, h => by simp [noId] at h
  | .elt _ _ _ _, _, h => by simp [noId] at h
  | .agg l, y, h => by simp only [mkV]; split <;> first | exact mkL_noId l _ (by simpa [noId] using h) | rfl
  | .tup l, y, h => by simp only [mkV]; split <;> first | exact mkL_noId l _ (by simpa [noId] using h) | rfl
  | .fn _ l, y, h => by simp only [mkV]; split <;> first | exact mkL_noId l _ (by simpa [noId] using h) | rfl
  | .dead, _, _ => rfl
  | .nilS, _, _ => rfl
  | .bool _, _, _ => rfl
  | .int _ _, _, _ => rfl
  | .str _, _, _ => rfl
  | .ro _, _, _ => rfl
  | .cell _, _, _ => rfl
  | .raw _, _, _ => rfl
  | .mp _ _, _, _ => rfl
  | .opt _ x, y, h => by simp only [mkV]; split <;> first | exact mkV_noId x _ (by simpa [noId] using h) | rfl
theorem mkL_noId : ∀ (x y : List AV), noIdL x = true → mkL x y = []
  | [], _, _ => rfl
  | x :: l, y, h => by
    simp only [noIdL, Bool.and_eq_true] at h
    simp only [mkL]; split
    · rw [mkV_noId x _ h.1, mkL_noId l _ h.2]; rfl
    · rfl
end
theorem mkLL_noId : ∀ (x y : List (List AV)), x.all noIdL = true → mkLL x y = []
  | [], _, _ => rfl
  | x :: l, y, h => by
    simp only [List.all_cons, Bool.and_eq_true] at h
    simp only [mkLL]; split
    · rw [mkL_noId x _ h.1, mkLL_noId l _ h.2]; rfl
    · rfl
theorem mkR_ok (r r' : RowV) [h : RowNoId r] : mkR r r' = [] := by
  have := h.ok
  cases r <;> cases r' <;> first | rfl | exact mkLL_noId _ _ this
theorem mkL_caps {caps : List AV} [h : CapsOk caps] (y : List AV) : mkL caps y = [] := mkL_noId caps y caps_noId
end Go.Fv

/-
  The walk of drawn regions, in the set.
-/
namespace Go.Fv
set_option linter.unusedSectionVars false
attribute [go_sem] vcConvX appTy vcLookup lookK vcMakeMap vcMapUpd vcMapEnt entK vcEntStore vcRange vcNext vcEntry List.getLast?_concat mapOf gLook KeysT_nil gMM Bool.false_eq_true true_implies vcLex gGo_some bGo_true bGo_false eGo_mk qGo_val qGo_lin qGo_call lxPut lxEnv dstOk putS qCond qRes rOps peelV onlyE onlyP gd qVc redo1 redo accPut ksOf peelC esMem isLin Option.toList_some Option.toList_none renL_caps belowL_caps
end Go.Fv

/-
  Maps whose keys and values are told by lists of plain data.
-/
namespace Go.Fv
set_option linter.unusedSectionVars false
set_option linter.unusedVariables false
end Go.Fv

/-
  Small facts about lists.
-/
namespace Go.Fv
set_option linter.unusedSectionVars false
theorem getD_lt {α : Type} {l : List α} {i : Nat} {d : α} (h : i < l.length) : l.getD i d = l[i] := by simp [List.getD, h]
theorem renL_bools (p : Nat → Nat) : ∀ l : List Bool, renL p (l.map .bool) = l.map .bool
  | [] => rfl
  | b :: l => by simp only [List.map_cons, renL, ren]; rw [renL_bools p l]
theorem belowL_bools (n : Nat) : ∀ l : List Bool, belowL n (l.map .bool) = true
  | [] => rfl
  | b :: l => by simp only [List.map_cons, belowL, below, Bool.true_and]; exact belowL_bools n l
theorem mkL_bools : ∀ (l : List Bool) (y : List AV), mkL (l.map .bool) y = []
  | [], _ => by simp [mkL]
  | b :: l, y => by
    simp only [List.map_cons, mkL]
    split
    · simp only [mkV, List.nil_append]; exact mkL_bools l _
    · rfl
theorem allOk_bools (rows : List (Nat × Item)) (n : Nat) : ∀ l : List Bool, allOk (argOkN rows (n + 1)) (l.map .bool) (l.map .bool)
  | [] => rfl
  | b :: l => ⟨.bool b, l.map .bool, by simp [argOkN], allOk_bools rows n l, rfl⟩
theorem set_bools (l : List Bool) (i : Nat) (b : Bool) : (l.map AV.bool).set i (.bool b) = (l.set i b).map .bool := by rw [List.map_set]
theorem noRoL_bools : ∀ l : List Bool, noRoL (l.map .bool) = true
  | [] => rfl
  | b :: l => by simp only [List.map_cons, noRoL, noRo, Bool.true_and]; exact noRoL_bools l
theorem spl_eq : ∀ (cs bs : List AV) (off : Nat), off + cs.length ≤ bs.length → spl bs off cs = bs.take off ++ cs ++ bs.drop (off + cs.length)
  | [], bs, off, _ => by simp [spl]
  | c :: cs, bs, off, h => by
    simp only [List.length_cons] at h
    rw [spl, spl_eq cs _ _ (by simp; omega), List.take_set, List.drop_set, if_pos (by omega)]
    rw [List.take_succ_eq_append_getElem (by omega), List.set_append_right _ _ (by simp; omega)]
    have e : off - (List.take off bs).length = 0 := by simp; omega
    rw [e]
    simp only [List.set_cons_zero, List.length_cons, List.append_assoc, List.cons_append, List.nil_append]
    have e2 : off + 1 + cs.length = off + (cs.length + 1) := by omega
    rw [e2]
theorem spl_all {bs cs : List AV} (h : cs.length = bs.length) : spl bs 0 cs = cs := by
  rw [spl_eq _ _ _ (by omega)]; simp [h]
attribute [simp] noIdR_ok renR_ok belowR_ok mkR_ok
attribute [go_sem] frzS noIdR_ok renR_ok belowR_ok renL_bools belowL_bools List.length_map Nat.mul_one set_bools
end Go.Fv

/-
  Families of rows: as many owned rows as a list tells, with names one behind the other.
-/
namespace Go.Fv
set_option linter.unusedSectionVars false
set_option linter.unusedVariables false
set_option linter.unusedSimpArgs false

section
variable {w0 : World} {T0 : Bs} {b0 : Nat}
end
/-! ### Renamings by hand -/
def p1 (a K x : Nat) : Nat := if x = a then K else x
def p2 (a K a' K' x : Nat) : Nat := if x = a then K else if x = a' then K' else x
end Go.Fv
