/-
  States that say less; contracts of functions; calls.
-/
import Derived.Test.YtfebnhmnkgnofaaDoorFvCode
namespace Go.Fv
open Go.RowKit
set_option linter.unusedVariables false
set_option linter.unusedSimpArgs false
set_option linter.unnecessarySimpa false

def Item.ren (p : Nat → Nat) : Item → Item
  | .row e r => .row e r
  | .box e cs => .box e (renL p cs)
def Item.below (n : Nat) : Item → Bool
  | .row _ _ => true
  | .box _ cs => belowL n cs
/-- Other names, by a list. -/
def pm (l : List (Nat × Nat)) (i : Nat) : Nat := match lk l i with | some j => j | none => i

def envOk (p : Nat → Nat) (s : S) (N : Nat) : List (Nat × AV) → Prop
  | [] => True
  | (r, v) :: l => (s.get r = ren p v ∧ Fv.below N v = true) ∧ envOk p s N l
def subOk (p : Nat → Nat) (rows : List (Nat × Item)) (N : Nat) : List (Nat × Item) → Prop
  | [] => True
  | (i, it) :: l => (i < N ∧ lk rows (p i) = some (it.ren p) ∧ it.below N = true ∧ ∀ x, x ∈ l → x.1 = i ∨ p x.1 ≠ p i) ∧ subOk p rows N l

theorem lk_mem {α : Type} : ∀ {l : List (Nat × α)} {i : Nat} {v : α}, lk l i = some v → (i, v) ∈ l
  | (j, x) :: l, i, v, h => by
    simp only [lk] at h
    split at h
    · rename_i e; subst e; cases h; exact .head _
    · exact .tail _ (lk_mem h)
theorem envOk_mem {p : Nat → Nat} {s : S} {N : Nat} : ∀ {l : List (Nat × AV)}, envOk p s N l → ∀ r v, (r, v) ∈ l → s.get r = ren p v ∧ Fv.below N v = true
  | (q, y) :: l, h, r, v, hm => by
    cases List.mem_cons.1 hm with
    | inl e => cases e; exact h.1
    | inr e => exact envOk_mem h.2 r v e
theorem subOk_mem {p : Nat → Nat} {rows : List (Nat × Item)} {N : Nat} : ∀ {l : List (Nat × Item)}, subOk p rows N l → ∀ i it, (i, it) ∈ l → i < N ∧ lk rows (p i) = some (it.ren p) ∧ it.below N = true
  | (q, y) :: l, h, i, it, hm => by
    cases List.mem_cons.1 hm with
    | inl e => cases e; exact ⟨h.1.1, h.1.2.1, h.1.2.2.1⟩
    | inr e => exact subOk_mem h.2 i it e
theorem subOk_inj {p : Nat → Nat} {rows : List (Nat × Item)} {N : Nat} : ∀ {l : List (Nat × Item)}, subOk p rows N l → ∀ i j it jt, (i, it) ∈ l → (j, jt) ∈ l → p i = p j → i = j
  | (q, y) :: l, h, i, j, it, jt, hi, hj, e => by
    cases List.mem_cons.1 hi with
    | inl e1 =>
      cases e1
      cases List.mem_cons.1 hj with
      | inl e2 => cases e2; rfl
      | inr e2 => cases h.1.2.2.2 _ e2 with
        | inl e3 => exact e3.symm
        | inr e3 => exact absurd e.symm e3
    | inr e1 =>
      cases List.mem_cons.1 hj with
      | inl e2 =>
        cases e2
        cases h.1.2.2.2 _ e1 with
        | inl e3 => exact e3
        | inr e3 => exact absurd e e3
      | inr e2 => exact subOk_inj h.2 i j it jt e1 e2 e

theorem ItemOk.ren {p : Nat → Nat} {c c' : Ctx} (h : CtxRen p c c') (hw : c'.w.heap = c.w.heap) {B : Nat} {v : Value} {it : Item} (hb : it.below c'.N = true) (hi : ItemOk c B v (it.ren p)) : ItemOk c' B v it := by
  have hh : ∀ b : Nat, c'.w.heap[b]? = c.w.heap[b]? := fun b => by rw [hw]
  cases it with
  | row e r =>
    obtain ⟨n, cells, hr, hn, ho⟩ := hi
    exact ⟨n, cells, RowC.noid h.t hr, hn, ownsRow_of_heap ho fun g _ => hh g⟩
  | box e cs =>
    obtain ⟨g, vs, rfl, hg, hl, he⟩ := hi
    exact ⟨g, vs, rfl, hg, RvL.ren h cs hb hl, by rw [hh g]; exact he⟩

mutual
theorem ren_low {p : Nat → Nat} {b0 : Nat} (hp : ∀ i, i < b0 → p i = i) : ∀ x : AV, Fv.below b0 x = true → ren p x = x
  | .own i, h => by simp only [ren]; rw [hp i (by simpa [Fv.below] using h)]
  | .ptr i o, h => by simp only [ren]; rw [hp i (by simpa [Fv.below] using h)]
  | .elt i a b c, h => by simp only [ren]; rw [hp i (by simpa [Fv.below] using h)]
  | .agg cs, h => by simp only [ren]; rw [renL_low hp cs (by simpa [Fv.below] using h)]
  | .tup cs, h => by simp only [ren]; rw [renL_low hp cs (by simpa [Fv.below] using h)]
  | .fn f cs, h => by simp only [ren]; rw [renL_low hp cs (by simpa [Fv.below] using h)]
  | .cell cs, _ => rfl
  | .dead, _ => rfl
  | .nilS, _ => rfl
  | .bool _, _ => rfl
  | .int _ _, _ => rfl
  | .str _, _ => rfl
  | .ro _, _ => rfl
  | .raw _, _ => rfl
  | .opt b v, h => by simp only [ren]; rw [ren_low hp v (by simpa [Fv.below] using h)]
theorem renL_low {p : Nat → Nat} {b0 : Nat} (hp : ∀ i, i < b0 → p i = i) : ∀ x : List AV, belowL b0 x = true → renL p x = x
  | [], _ => rfl
  | x :: l, h => by
    simp only [belowL, Bool.and_eq_true] at h
    simp only [renL]; rw [ren_low hp x h.1, renL_low hp l h.2]
end
section
variable {P : Program} {w0 : World} {T0 : Nat → Prop} {b0 : Nat}

/-- THE STATE SAYS LESS, by other names. -/
theorem Ent.of (l : List (Nat × Nat)) {s s' : S} (hn : s'.n = s.n) (hb : b0 ≤ s'.next) (hl : ∀ x, x ∈ l → b0 ≤ x.1) (he : envOk (pm l) s s'.next s'.env) (hr : subOk (pm l) s.rows s'.next s'.rows) : Ent w0 T0 b0 s s' := by
  rintro H a w hH ⟨m, hm⟩
  have hlow : ∀ i, i < b0 → pm l i = i := by
    intro i hi
    unfold pm
    cases h : lk l i with
    | none => rfl
    | some j => have := hl _ (lk_mem h); simp at this; omega
  have hren : CtxRen (pm l) (ctxOf T0 w0.heap.size m s w) (ctxOf T0 w0.heap.size (fun i => m (pm l i)) s' w) :=
    { m := fun _ _ => rfl,
      t := by
        intro b ⟨h1, h2⟩ _
        refine ⟨⟨h1, fun i it hi e => ?_⟩, rfl⟩
        obtain ⟨_, h3, _⟩ := subOk_mem hr i it (lk_mem hi)
        exact h2 _ _ h3 e }
  refine ⟨fun i => m (pm l i), { size := by rw [hn]; exact hm.size, nodef := hm.nodef, below := hm.below, env := ?_, held := ?_, rows := ?_, sep := ?_ }⟩
  · intro r v hv
    obtain ⟨h1, h2⟩ := envOk_mem he r v (lk_mem hv)
    refine Rv.ren hren v h2 ?_
    have : Rv (ctxOf T0 w0.heap.size m s w) (s.get r) (a.tmps.getD r undef) := by
      simp only [S.get]
      cases hq : lk s.env r with
      | none => exact .dead _
      | some y => exact hm.env r y hq
    rw [← h1]; exact this
  · intro q hq
    have h1 := hH q hq
    refine Rv.ren hren q.1 (below_le hb _ h1) ?_
    rw [ren_low hlow _ h1]; exact hm.held q hq
  · intro i it hi
    obtain ⟨h1, h2, h3⟩ := subOk_mem hr i it (lk_mem hi)
    exact ⟨h1, ItemOk.ren hren rfl h3 (hm.rows _ _ h2).2⟩
  · intro i j it jt b hi hj hbi hbj
    obtain ⟨_, h2, _⟩ := subOk_mem hr i it (lk_mem hi)
    obtain ⟨_, h2', _⟩ := subOk_mem hr j jt (lk_mem hj)
    exact subOk_inj hr i j it jt (lk_mem hi) (lk_mem hj) (hm.sep _ _ _ _ b h2 h2' hbi hbj)

theorem Ent.refl (s : S) : Ent w0 T0 b0 s s := fun _ _ _ _ h => h
theorem Ent.trans {s s' s'' : S} (h : Ent w0 T0 b0 s s') (h' : Ent w0 T0 b0 s' s'') : Ent w0 T0 b0 s s'' := fun H a w hH hr => h' H a w hH (h H a w hH hr)

/-! ### What a function hands back -/
def OutOk (T : Nat → Prop) (B : Nat) (w : World) (out : AV) (rows : List (Nat × Item)) (v : Value) : Prop :=
  ∃ (m : Nat → Value) (N : Nat), Rv ⟨w, allow T B m rows, m, N⟩ out v ∧
    (∀ i it, lk rows i = some it → i < N ∧ ItemOk ⟨w, allow T B m rows, m, N⟩ B (m i) it) ∧
    (∀ i j it jt b, lk rows i = some it → lk rows j = some jt → blk (m i) = some b → blk (m j) = some b → i = j)

/-- The function returns 'out', its new memory 'rows', whatever the world, if its arguments read as 'args'. -/
def FnOk (P : Program) (f : Nat) (args : List AV) (out : AV) (rows : List (Nat × Item)) : Prop :=
  Enter P f ∧ ∀ (w : World) (T : Nat → Prop) (vals : List Value), RvT ⟨w, T, fun _ => undef, 0⟩ args vals →
    Calls P f vals.toArray w fun e w' => ∃ v, e = .returned v ∧ Below w.heap.size w w' ∧ OutOk T w.heap.size w' out rows v

def argEnv : Nat → List AV → List (Nat × AV)
  | _, [] => []
  | k, x :: l => (k, x) :: argEnv (k + 1) l
/-- What a result variable holds. -/
def rets1 (P : Program) (s : S) (K : AV → Prop) : ResultVar → Prop
  | .tmp t => K (s.ev (.tmp t))
  | .cell t ty => match s.get t with
    | .ptr i off => match lk s.rows i with
      | some (.box _ cs) => ldCells P ty (cs.drop off) K
      | _ => False
    | _ => False
def rets (P : Program) (s : S) : List ResultVar → (List AV → Prop) → Prop
  | [], K => K []
  | x :: l, K => rets1 P s (fun v => rets P s l (fun vs => K (v :: vs))) x
def tupOf : List AV → AV
  | [x] => x
  | l => .tup l

/-- Where the function ends: its results stand where they are to stand. -/
def Ret (P : Program) (w0 : World) (T0 : Nat → Prop) (res : List ResultVar) (out : AV) (rows : List (Nat × Item)) (s : S) : Prop :=
  ∀ (a : Act) (w : World), Rep w0 T0 [] s a w → ∃ v, (∀ (fn : Func), fn.results = res.toArray → (results fn a.tmps).run P w = .ok v w) ∧ OutOk T0 w0.heap.size w out rows v
def Post (P : Program) (w0 : World) (T0 : Nat → Prop) (res : List ResultVar) (out : AV) (rows : List (Nat × Item)) : Exit → S → Prop
  | .normal, s => Ret P w0 T0 res out rows s
  | .ret, s => Ret P w0 T0 res out rows s
  | _, _ => False
@[congr] theorem Ret_congr {P : Program} {res : List ResultVar} {out : AV} {rows : List (Nat × Item)} {s s' : S} (h : s = s') : Ret P w0 T0 res out rows s = Ret P w0 T0 res out rows s' := by rw [h]

def resF (tmps : Array Value) : ResultVar → Sem Value
  | .tmp t => pure (tmps.getD t undef)
  | .cell a t => do loadVar t (← asAddr (tmps.getD a undef))

theorem rets_run {P : Program} {H : List (AV × Value)} {s : S} {a : Act} {w : World} {m : Nat → Value} (hm : RepM w0 T0 H s a w m) : ∀ {res : List ResultVar} {K : List AV → Prop}, rets P s res K →
    ∃ l vs, K l ∧ (res.mapM (resF a.tmps)).run P w = .ok vs w ∧ RvT (ctxOf T0 w0.heap.size m s w) l vs
  | [], K, h => ⟨[], [], h, rfl, .nil⟩
  | x :: res, K, h => by
    have key : ∃ v u, rets P s res (fun vs => K (v :: vs)) ∧ (resF a.tmps x).run P w = .ok u w ∧ Rv (ctxOf T0 w0.heap.size m s w) v u := by
      unfold rets at h
      cases x with
      | tmp t => exact ⟨_, _, h, rfl, hm.ev (.tmp t) trivial⟩
      | cell t ty =>
        simp only [rets1] at h
        split at h
        · rename_i i off hg
          have hl : lk s.env t = some (.ptr i off) := by
            simp only [S.get] at hg
            cases hl : lk s.env t with
            | none => rw [hl] at hg; cases hg
            | some y => rw [hl] at hg; exact congrArg some hg
          have hp := hm.env t _ hl
          split at h
          · rename_i e cs hi
            generalize hvt : a.tmps.getD t undef = vt at hp
            cases hp with
            | ptr _ _ g _ hg =>
              obtain ⟨g', vs, hv, _, hl, hh⟩ := (hm.rows i _ hi).2
              have hmi : blk (m i) = some g := hg
              rw [hv] at hmi; cases hmi
              obtain ⟨r, v, hk, hr, hrv⟩ := ldCells_sound (c := ctxOf T0 w0.heap.size m s w) (a := ⟨g', off, none⟩) h (hl.drop off) fun j u hu => by
                rw [Addr.add_lit]
                rw [List.getElem?_drop] at hu
                have := cell_of_row w g' (off + j) vs.toArray e (0, 0) hh
                show w.cell? _ = _
                rw [this]; simpa using hu
              refine ⟨r, v, hk, ?_, hrv⟩
              have hr' : (loadVar ty ⟨g', off, none⟩).run P w = .ok v w := hr
              simp [resF, hvt, asAddr, hr']
          · exact h.elim
        · exact h.elim
    obtain ⟨v, u, hk, hr, hv⟩ := key
    obtain ⟨l, vs, hk', hr', hvs⟩ := rets_run hm hk
    refine ⟨v :: l, u :: vs, hk', ?_, .cons _ _ _ _ hv hvs⟩
    rw [List.mapM_cons]
    simp [Sem.run_bind, hr, hr', Result.andThen]

def tupV : List Value → Value
  | [v] => v
  | l => .tuple l.toArray
theorem results_eq (fn : Func) (tmps : Array Value) : results fn tmps = (fn.results.mapM (resF tmps) >>= fun vs => pure (if h : vs.size = 1 then vs[0] else .tuple vs)) := by
  unfold results
  congr 1
theorem results_list {P : Program} {fn : Func} {res : List ResultVar} (h : fn.results = res.toArray) (tmps : Array Value) {w : World} {vs : List Value} (hr : (res.mapM (resF tmps)).run P w = .ok vs w) :
    (results fn tmps).run P w = .ok (tupV vs) w := by
  rw [results_eq, h]
  have e2 := List.mapM_toArray (f := resF tmps) (l := res)
  rw [e2]
  simp only [Sem.run_bind, Sem.run_map, hr, Result.andThen]
  match vs with
  | [] => rfl
  | [v] => rfl
  | v :: v' :: l => simp [tupV]

/-- THE END: the results under the names of 'out'; N: a number above these. -/
theorem Ret.of {P : Program} (l : List (Nat × Nat)) (N : Nat) {res : List ResultVar} {out : AV} {rows : List (Nat × Item)} {s : S} (h : rets P s res (fun vs => tupOf vs = ren (pm l) out)) (hb : Fv.below N out = true) (hr : subOk (pm l) s.rows N rows) : Ret P w0 T0 res out rows s := by
  rintro a w ⟨m, hm⟩
  obtain ⟨vs, us, he, hrun, hvs⟩ := rets_run hm h
  have hrv : Rv (ctxOf T0 w0.heap.size m s w) (tupOf vs) (tupV us) := by
    cases hvs with
    | nil => exact .tup _ _ .nil
    | cons x v l us hx ht =>
      cases ht with
      | nil => exact hx
      | cons x' v' l' us' hx' ht' => exact .tup _ _ (.cons _ _ _ _ hx (.cons _ _ _ _ hx' ht'))
  have hren : CtxRen (pm l) (ctxOf T0 w0.heap.size m s w) ⟨w, allow T0 w0.heap.size (fun i => m (pm l i)) rows, fun i => m (pm l i), N⟩ :=
    { m := fun _ _ => rfl,
      t := by
        intro b ⟨h1, h2⟩ _
        refine ⟨⟨h1, fun i it hi e => ?_⟩, rfl⟩
        obtain ⟨_, h3, _⟩ := subOk_mem hr i it (lk_mem hi)
        exact h2 _ _ h3 e }
  refine ⟨_, fun fn hf => results_list hf a.tmps hrun, fun i => m (pm l i), N, Rv.ren hren out hb (by rw [← he]; exact hrv), fun i it hi => ?_, fun i j it jt b hi hj hbi hbj => ?_⟩
  · obtain ⟨h1, h2, h3⟩ := subOk_mem hr i it (lk_mem hi)
    exact ⟨h1, ItemOk.ren hren rfl h3 (hm.rows _ _ h2).2⟩
  · obtain ⟨_, h2, _⟩ := subOk_mem hr i it (lk_mem hi)
    obtain ⟨_, h2', _⟩ := subOk_mem hr j jt (lk_mem hj)
    exact subOk_inj hr i j it jt (lk_mem hi) (lk_mem hj) (hm.sep _ _ _ _ b h2 h2' hbi hbj)

theorem argEnv_rv {c : Ctx} : ∀ {args : List AV} {vals : List Value} (k : Nat) (pre : List Value), pre.length = k → RvT c args vals → ∀ r v, lk (argEnv k args) r = some v → ∃ u, (pre ++ vals)[r]? = some u ∧ Rv c v u
  | _, _, k, pre, hk, .nil, r, v, h => by simp [argEnv, lk] at h
  | _, _, k, pre, hk, .cons x u l vs hx ht, r, v, h => by
    simp only [argEnv, lk] at h
    split at h
    · rename_i e; subst e; cases h
      exact ⟨u, by rw [List.getElem?_append_right (by omega)]; simp [hk], hx⟩
    · obtain ⟨u', h1, h2⟩ := argEnv_rv (k + 1) (pre ++ [u]) (by simp [hk]) ht r v h
      exact ⟨u', by simpa using h1, h2⟩

/-- A CONTRACT, out of the walk over its code. -/
theorem FnOk.of_run {f : Nat} {fn : Func} {c : Code} {args : List AV} {out : AV} {rows : List (Nat × Item)} (hf : P.funcs[f]? = some fn) (hb : fn.body = some c)
    (hnm : (fn.name == "runtime.NumGoroutine") = false) (hn : args.length ≤ fn.ntmps) (res : List ResultVar) (hres : fn.results = res.toArray)
    (h : ∀ (w0 : World) (T0 : Nat → Prop), VcRun P w0 T0 0 c ⟨fn.ntmps, argEnv 0 args, [], 0⟩ (Post P w0 T0 res out rows)) : FnOk P f args out rows := by
  refine ⟨⟨fn, hf, by rw [hb]; rfl, hnm⟩, fun w T vals hv => ?_⟩
  refine calls_of_wp hf hb ?_
  have hlen := hv.length
  have hle : CtxLe (⟨w, T, fun _ => undef, 0⟩ : Ctx) (ctxOf T w.heap.size (fun _ => undef) ⟨fn.ntmps, argEnv 0 args, [], 0⟩ w) :=
    ⟨Nat.le_refl _, fun _ _ => rfl, fun b hb _ => ⟨⟨.inr hb, fun i it hi => by simp [lk] at hi⟩, rfl⟩⟩
  have hrep : RepM w T [] ⟨fn.ntmps, argEnv 0 args, [], 0⟩ { tmps := vals.toArray ++ Array.replicate (fn.ntmps - vals.toArray.size) undef, defers := [] } w (fun _ => undef) :=
    { size := by simp; omega, nodef := rfl, below := Below.refl _ _,
      env := by
        intro r v hr
        obtain ⟨u, h1, h2⟩ := argEnv_rv 0 [] rfl hv r v hr
        have e : ((vals.toArray ++ Array.replicate (fn.ntmps - vals.toArray.size) undef).getD r undef) = u := by
          have h1' : vals[r]? = some u := by simpa using h1
          have hlt : r < vals.length := (List.getElem?_eq_some_iff.1 h1').1
          rw [Array.getD_eq_getD_getElem?, Array.getElem?_append_left (by simpa using hlt)]
          simp [h1']
        rw [e]; exact h2.mono hle,
      held := fun p hp => absurd hp (by simp), rows := fun i it hi => absurd hi (by simp [lk]), sep := fun i j it jt b hi => absurd hi (by simp [lk]) }
  refine wp_mono (h w T [] _ w (fun p hp => absurd hp (by simp)) ⟨_, hrep⟩) ?_
  rintro e a w' ⟨s', hq, hr⟩
  have fin : Ret P w T res out rows s' → a.defers = [] ∧ ∃ v, (results fn a.tmps).run P w' = .ok v w' ∧ ∃ v', Ending.returned v = .returned v' ∧ Below w.heap.size w w' ∧ OutOk T w.heap.size w' out rows v' := by
    intro hret
    obtain ⟨v, hv, hout⟩ := hret a w' hr
    obtain ⟨m, hm⟩ := hr
    exact ⟨hm.nodef, v, hv fn hres, v, rfl, hm.below, hout⟩
  cases e with
  | normal => exact fin hq
  | ret => exact fin hq
  | _ => exact hq.elim
theorem FnOk.of_vc {f : Nat} {fn : Func} {c : Code} {args : List AV} {out : AV} {rows : List (Nat × Item)} (hf : P.funcs[f]? = some fn) (hb : fn.body = some c)
    (hnm : (fn.name == "runtime.NumGoroutine") = false) (hn : args.length ≤ fn.ntmps) (res : List ResultVar) (hres : fn.results = res.toArray)
    (h : ∀ (w0 : World) (T0 : Nat → Prop), vcCode P w0 T0 0 c (Post P w0 T0 res out rows) ⟨fn.ntmps, argEnv 0 args, [], 0⟩) : FnOk P f args out rows :=
  .of_run hf hb hnm hn res hres fun w0 T0 => .of (h w0 T0)
end
end Go.Fv
