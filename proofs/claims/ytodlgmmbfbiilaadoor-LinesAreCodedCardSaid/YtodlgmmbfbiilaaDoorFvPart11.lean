/-
  A part of the proof of the claim: walks over the program's functions and the plain laws that these need. No condition of its own.
-/
import Derived.Test.YtodlgmmbfbiilaaDoorFvPart10
import Derived.Test.YtodlgmmbfbiilaaDoorFvPart8
import Derived.Shelf.SortM.Plain
import Derived.Shelf.SortM.SortNone
import Derived.ChangeArms
import Derived.ChangeSlices
import Derived.Carry
import Derived.ProofKit
/-
  Contracts of functions that are given memory, which they turn and hand back.
-/
namespace Go.Fv
set_option linter.unusedSectionVars false
open Go.RowKit
set_option linter.unusedVariables false
set_option linter.unusedSimpArgs false
set_option linter.unnecessarySimpa false

def GivenOk (w : World) (T g : Nat → Prop) (m0 : Nat → Value) (k : Nat) (rows0 : List (Nat × Item)) : Prop :=
  (∀ i it, lk rows0 i = some it → i < k ∧ ItemOk ⟨w, T, m0, k⟩ g (m0 i) it) ∧
  (∀ i j it jt b, lk rows0 i = some it → lk rows0 j = some jt → blk (m0 i) = some b → blk (m0 j) = some b → i = j) ∧
  (∀ b, T b → ¬ g b)

/-- The function is given the memory 'rows0' under the names below 'k', turns it, and returns 'out'; 'rows': what stands then. -/
def FnIO (P : Program) (f : Nat) (args : List AV) (rows0 : List (Nat × Item)) (k : Nat) (out : AV) (rows : List (Nat × Item)) : Prop :=
  Enter P f ∧ ∀ (w : World) (T g : Nat → Prop) (m0 : Nat → Value) (vals : List Value), GivenOk w T g m0 k rows0 → GlOk P w → (∀ (b : Nat) (q : GK), glK P b = some q → ¬ g b) → RvT ⟨w, T, m0, k⟩ args vals →
    Calls P f vals.toArray w fun e w' => ∃ v, e = .returned v ∧ BelowG g w w' ∧ ∃ m N, (∀ i, i < k → m i = m0 i) ∧ k ≤ N ∧
      Rv ⟨w', allow ⟨fun b => T b ∨ g b, g⟩ w.heap.size m rows, m, N⟩ out v ∧
      (∀ i it, lk rows i = some it → i < N ∧ ItemOk ⟨w', allow ⟨fun b => T b ∨ g b, g⟩ w.heap.size m rows, m, N⟩ (ownB ⟨fun b => T b ∨ g b, g⟩ w.heap.size) (m i) it) ∧
      (∀ i j it jt b, lk rows i = some it → lk rows j = some jt → blk (m i) = some b → blk (m j) = some b → i = j)

section
variable {P : Program} {w0 : World} {T0 : Bs}

/-- Where such a function ends. -/
def RetK (P : Program) (w0 : World) (T0 : Bs) (k : Nat) (res : List ResultVar) (out : AV) (rows : List (Nat × Item)) (s : S) : Prop :=
  ∀ (H : List (AV × Value)) (a : Act) (w : World), HeldB k H → Rep w0 T0 H s a w → ∃ v, (∀ (fn : Func), fn.results = res.toArray → (results fn a.tmps).run P w = .ok v w) ∧
    ∃ m N, k ≤ N ∧ (∀ p, p ∈ H → Rv ⟨w, allow T0 w0.heap.size m rows, m, N⟩ p.1 p.2) ∧ Rv ⟨w, allow T0 w0.heap.size m rows, m, N⟩ out v ∧
      (∀ i it, lk rows i = some it → i < N ∧ ItemOk ⟨w, allow T0 w0.heap.size m rows, m, N⟩ (ownB T0 w0.heap.size) (m i) it) ∧
      (∀ i j it jt b, lk rows i = some it → lk rows j = some jt → blk (m i) = some b → blk (m j) = some b → i = j)
def PostK (P : Program) (w0 : World) (T0 : Bs) (k : Nat) (res : List ResultVar) (out : AV) (rows : List (Nat × Item)) : Exit → S → Prop
  | .normal, s => RetK P w0 T0 k res out rows s
  | .ret, s => RetK P w0 T0 k res out rows s
  | _, _ => False
@[congr] theorem RetK_congr {k : Nat} {res : List ResultVar} {out : AV} {rows : List (Nat × Item)} {s s' : S} (h : s = s') : RetK P w0 T0 k res out rows s = RetK P w0 T0 k res out rows s' := by rw [h]

theorem RetK.of {k : Nat} (l : List (Nat × Nat)) (N : Nat) (hl : ∀ x, x ∈ l → k ≤ x.1) (hk : k ≤ N) {res : List ResultVar} {out : AV} {rows : List (Nat × Item)} {s : S} (h : rets P s res (fun vs => tupOf vs = ren (pm l) out)) (hb : Fv.below N out = true) (hr : subOk (pm l) s.rows N rows) : RetK P w0 T0 k res out rows s := by
  rintro H a w hH ⟨m, hm⟩
  obtain ⟨vs, us, he, hrun, hvs⟩ := rets_run hm h
  have hlow : ∀ i, i < k → pm l i = i := by
    intro i hi
    unfold pm
    cases h : lk l i with
    | none => rfl
    | some j => have := hl _ (lk_mem h); simp at this; omega
  have hrv : Rv (ctxOf T0 w0.heap.size m s w) (tupOf vs) (tupV us) := by
    cases hvs with
    | nil => exact .tup _ _ .nil
    | cons x v l us hx ht =>
      cases ht with
      | nil => exact hx
      | cons x' v' l' us' hx' ht' => exact .tup _ _ (.cons _ _ _ _ hx (.cons _ _ _ _ hx' ht'))
  have hren : CtxRen (pm l) (ctxOf T0 w0.heap.size m s w) ⟨w, allow T0 w0.heap.size (fun i => m (pm l i)) rows, fun i => m (pm l i), N⟩ :=
    { m := fun _ _ => rfl,
      t := by
        intro b ⟨h1, h2⟩ _
        refine ⟨⟨h1, fun i it hi e => ?_⟩, rfl⟩
        obtain ⟨_, h3, _⟩ := subOk_mem hr i it (lk_mem hi)
        exact h2 _ _ h3 e }
  refine ⟨_, fun fn hf => results_list hf a.tmps hrun, fun i => m (pm l i), N, hk, fun p hp => ?_, Rv.ren hren out hb (by rw [← he]; exact hrv), fun i it hi => ?_, fun i j it jt b hi hj hbi hbj => ?_⟩
  · have h1 := hH p hp
    refine Rv.ren hren p.1 (below_le hk _ h1) ?_
    rw [ren_low hlow _ h1]; exact hm.held p hp
  · obtain ⟨h1, h2, h3⟩ := subOk_mem hr i it (lk_mem hi)
    exact ⟨h1, ItemOk.ren hren rfl h3 (hm.rows _ _ h2).2⟩
  · obtain ⟨_, h2, _⟩ := subOk_mem hr i it (lk_mem hi)
    obtain ⟨_, h2', _⟩ := subOk_mem hr j jt (lk_mem hj)
    exact subOk_inj hr i j it jt (lk_mem hi) (lk_mem hj) (hm.sep _ _ _ _ b h2 h2' hbi hbj)
theorem RetK.auto {k : Nat} (N : Nat) (hk : k ≤ N) {res : List ResultVar} {out : AV} {rows : List (Nat × Item)} {s : S} (h : rets P s res (fun vs => tupOf vs = ren (pm (fromL k (mkRet s res out rows))) out)) (hb : Fv.below N out = true) (hr : subOk (pm (fromL k (mkRet s res out rows))) s.rows N rows) : RetK P w0 T0 k res out rows s :=
  RetK.of _ N (fromL_ge k _) hk h hb hr

theorem ItemOk.oneCell {c : Ctx} {O : Nat → Prop} {v : Value} {it : Item} (h : ItemOk c O v it) : v.oneCell' = true := by
  cases it with
  | row e r =>
    obtain ⟨n, cells, _, _, ho, _⟩ := h
    rcases ho.2 with ⟨rfl, _⟩ | ⟨g, cap, cur, fz, rfl, _⟩ <;> rfl
  | box e cs => obtain ⟨g, vs, rfl, _⟩ := h; rfl
  | map ks vs => obtain ⟨g, es, clock, rfl, _⟩ := h; rfl
  | iter mp since seen => obtain ⟨g, q, sn, last, rfl, _⟩ := h; rfl
  | siter t pos => obtain ⟨g, rfl, _⟩ := h; rfl

/-- SUCH A CONTRACT, out of the walk over its code. -/
theorem FnIO.of_run {f : Nat} {fn : Func} {c : Code} {args : List AV} {rows0 : List (Nat × Item)} {k : Nat} {out : AV} {rows : List (Nat × Item)} (hf : P.funcs[f]? = some fn) (hb : fn.body = some c)
    (hnm : (fn.name == "runtime.NumGoroutine") = false) (hn : args.length ≤ fn.ntmps) (hcov : ∀ j, j < k → ∃ it, lk rows0 j = some it) (res : List ResultVar) (hres : fn.results = res.toArray)
    (h : ∀ (w0 : World) (T0 : Bs) [GlB P w0 T0], VcRun P w0 T0 k c ⟨fn.ntmps, argEnv 0 args, rows0, k⟩ (PostK P w0 T0 k res out rows)) : FnIO P f args rows0 k out rows := by
  refine ⟨⟨fn, hf, by rw [hb]; rfl, hnm⟩, fun w T g m0 vals hG hgl hgg hv => ?_⟩
  haveI : GlB P w ⟨fun b => T b ∨ g b, g⟩ := ⟨hgl, fun b q hq h => hgg b q hq h.1⟩
  obtain ⟨hrows, hsep, hTg⟩ := hG
  refine calls_of_wp hf hb ?_
  have hlen := hv.length
  have hle : CtxLe (⟨w, T, m0, k⟩ : Ctx) (ctxOf ⟨fun b => T b ∨ g b, g⟩ w.heap.size m0 ⟨fn.ntmps, argEnv 0 args, rows0, k⟩ w) :=
    ⟨Nat.le_refl _, fun _ _ => rfl, fun b hb _ => ⟨⟨.inr (.inl hb), fun i it hi e => hTg b hb ((hrows i it hi).2.blk b e).1⟩, rfl⟩⟩
  have hrep : RepM w ⟨fun b => T b ∨ g b, g⟩ (rows0.map fun p => (.own p.1, m0 p.1)) ⟨fn.ntmps, argEnv 0 args, rows0, k⟩ { tmps := vals.toArray ++ Array.replicate (fn.ntmps - vals.toArray.size) undef, defers := [] } w m0 :=
    { size := by simp; omega, nodef := rfl, below := BelowG.refl _ _,
      env := by
        intro r v hr
        obtain ⟨u, h1, h2⟩ := argEnv_rv 0 [] rfl hv r v hr
        have e : ((vals.toArray ++ Array.replicate (fn.ntmps - vals.toArray.size) undef).getD r undef) = u := by
          have h1' : vals[r]? = some u := by simpa using h1
          have hlt : r < vals.length := (List.getElem?_eq_some_iff.1 h1').1
          rw [Array.getD_eq_getD_getElem?, Array.getElem?_append_left (by simpa using hlt)]
          simp [h1']
        rw [e]; exact h2.mono hle,
      held := by
        intro p hp
        obtain ⟨q, hq, rfl⟩ := List.mem_map.1 hp
        obtain ⟨it, hit⟩ := lk_some hq
        obtain ⟨h1, h2⟩ := hrows _ _ hit
        exact .own q.1 h1 h2.oneCell,
      rows := fun i it hi => ⟨(hrows i it hi).1, (((hrows i it hi).2).mono hle fun _ _ => rfl).own fun b hb => .inr ⟨hb, .inr hb⟩⟩, sep := hsep }
  have hH : HeldB k (rows0.map fun p => (AV.own p.1, m0 p.1)) := by
    intro p hp
    exact (hrep.held p hp).ids
  refine wp_mono (h w _ _ _ w hH ⟨_, hrep⟩) ?_
  rintro e a w' ⟨s', hq, hr⟩
  have fin : RetK P w ⟨fun b => T b ∨ g b, g⟩ k res out rows s' → a.defers = [] ∧ ∃ v, (results fn a.tmps).run P w' = .ok v w' ∧ ∃ v', Ending.returned v = .returned v' ∧ BelowG g w w' ∧ ∃ m N, (∀ i, i < k → m i = m0 i) ∧ k ≤ N ∧
      Rv ⟨w', allow ⟨fun b => T b ∨ g b, g⟩ w.heap.size m rows, m, N⟩ out v' ∧
      (∀ i it, lk rows i = some it → i < N ∧ ItemOk ⟨w', allow ⟨fun b => T b ∨ g b, g⟩ w.heap.size m rows, m, N⟩ (ownB ⟨fun b => T b ∨ g b, g⟩ w.heap.size) (m i) it) ∧
      (∀ i j it jt b, lk rows i = some it → lk rows j = some jt → blk (m i) = some b → blk (m j) = some b → i = j) := by
    intro hret
    obtain ⟨v, hv, m, N, hkN, hheld, hout, hit, hsp⟩ := hret _ a w' hH hr
    obtain ⟨m', hm⟩ := hr
    refine ⟨hm.nodef, v, hv fn hres, v, rfl, hm.below.mono fun b hb => hb.1, m, N, fun i hi => ?_, hkN, hout, hit, hsp⟩
    obtain ⟨it, hi'⟩ := hcov i hi
    have := hheld (.own i, m0 i) (List.mem_map.2 ⟨(i, it), lk_mem hi', rfl⟩)
    generalize hmi : m0 i = mi at this
    cases this
    rfl
  cases e with
  | normal => exact fin hq
  | ret => exact fin hq
  | _ => exact hq.elim
theorem FnIO.of_vc {f : Nat} {fn : Func} {c : Code} {args : List AV} {rows0 : List (Nat × Item)} {k : Nat} {out : AV} {rows : List (Nat × Item)} (hf : P.funcs[f]? = some fn) (hb : fn.body = some c)
    (hnm : (fn.name == "runtime.NumGoroutine") = false) (hn : args.length ≤ fn.ntmps) (hcov : ∀ j, j < k → ∃ it, lk rows0 j = some it) (res : List ResultVar) (hres : fn.results = res.toArray)
    (h : ∀ (w0 : World) (T0 : Bs) [GlB P w0 T0], vcCode P w0 T0 k c (PostK P w0 T0 k res out rows) ⟨fn.ntmps, argEnv 0 args, rows0, k⟩) : FnIO P f args rows0 k out rows :=
  .of_run hf hb hnm hn hcov res hres fun w0 T0 => .of (h w0 T0)

/-! ### The call -/
/-- The caller's name for a given one: the j-th of 'ids'; new names behind all that the caller has. -/
def ioN (ids : List Nat) (next : Nat) (j : Nat) : Nat := match ids[j]? with | some i => i | none => next + (j - ids.length)
def ioRows (p : Nat → Nat) : List (Nat × Item) → List (Nat × Item)
  | [] => []
  | (i, it) :: l => (p i, it.ren p) :: ioRows p l
def delL {α : Type} : List (Nat × α) → List Nat → List (Nat × α)
  | l, [] => l
  | l, i :: is => delL (del l i) is
theorem lk_delL {α : Type} : ∀ (is : List Nat) (l : List (Nat × α)) (j : Nat), lk (delL l is) j = if j ∈ is then none else lk l j
  | [], l, j => by simp [delL]
  | i :: is, l, j => by
    simp only [delL]
    rw [lk_delL is, lk_del]
    by_cases h1 : j ∈ is
    · simp [h1]
    · by_cases h2 : j = i <;> simp [h1, h2]
def S.ioS (s : S) (ids : List Nat) (N : Nat) (rows : List (Nat × Item)) : S := { s with rows := ioRows (ioN ids s.next) rows ++ delL s.rows ids, next := s.next + (N - ids.length) }

theorem lk_ioRows_of {p : Nat → Nat} {S : Nat → Prop} (hp : ∀ i j, S i → S j → p i = p j → i = j) : ∀ {l : List (Nat × Item)}, (∀ x, x ∈ l → S x.1) → ∀ {i : Nat} {it : Item}, lk (ioRows p l) i = some it → ∃ j jt, i = p j ∧ lk l j = some jt ∧ it = jt.ren p
  | (j, jt) :: l, hS, i, it, h => by
    simp only [ioRows, lk] at h
    split at h
    · rename_i e; cases h; exact ⟨j, jt, e.symm, by simp [lk], rfl⟩
    · rename_i e
      obtain ⟨q, qt, h1, h2, h3⟩ := lk_ioRows_of hp (fun x hx => hS x (.tail _ hx)) h
      refine ⟨q, qt, h1, ?_, h3⟩
      simp only [lk]; rw [if_neg (fun e' => e (by rw [h1, e']))]; exact h2
theorem nodup_get : ∀ {l : List Nat} {i j a : Nat}, l.Nodup → l[i]? = some a → l[j]? = some a → i = j := by
  intro l i j a hd hi hj
  exact (List.getElem?_inj (List.getElem?_eq_some_iff.1 hi).1 hd).1 (hi.trans hj.symm)

/-- What is given of the caller's memory. -/
def ioG (ids : List Nat) (next : Nat) (rows0 : List (Nat × Item)) (m : Nat → Value) (b : Nat) : Prop := ∃ j it, lk rows0 j = some it ∧ blk (m (ioN ids next j)) = some b
/-- Where such a call ends. -/
def IoPost (w : World) (T g : Nat → Prop) (m0 : Nat → Value) (k : Nat) (out : AV) (rows : List (Nat × Item)) (e : Ending) (w' : World) : Prop :=
  ∃ v, e = .returned v ∧ BelowG g w w' ∧ ∃ m N, (∀ i, i < k → m i = m0 i) ∧ k ≤ N ∧
      Rv ⟨w', allow ⟨fun b => T b ∨ g b, g⟩ w.heap.size m rows, m, N⟩ out v ∧
      (∀ i it, lk rows i = some it → i < N ∧ ItemOk ⟨w', allow ⟨fun b => T b ∨ g b, g⟩ w.heap.size m rows, m, N⟩ (ownB ⟨fun b => T b ∨ g b, g⟩ w.heap.size) (m i) it) ∧
      (∀ i j it jt b, lk rows i = some it → lk rows j = some jt → blk (m i) = some b → blk (m j) = some b → i = j)
theorem VcCall.ioCore [hgb : GlB P w0 T0] {f : Nat} {args : List AV} {rows0 : List (Nat × Item)} {out : AV} {rows : List (Nat × Item)} {s : S} {K : AV → S → Prop} (ids : List Nat) (hE : Enter P f) (hd : ids.Nodup)
    (hcall : ∀ (H : List (AV × Value)) (a : Act) (w : World) (m : Nat → Value) (vals : List Value), RepM w0 T0 H s a w m → RvT (ctxOf T0 w0.heap.size m s w) args vals →
      GivenOk w (allow T0 w0.heap.size m s.rows) (ioG ids s.next rows0 m) (fun j => m (ioN ids s.next j)) ids.length rows0 → (∀ (b : Nat) (q : GK), glK P b = some q → ¬ ioG ids s.next rows0 m b) →
      Calls P f vals.toArray w (IoPost w (allow T0 w0.heap.size m s.rows) (ioG ids s.next rows0 m) (fun j => m (ioN ids s.next j)) ids.length out rows))
    (h0 : subOk (ioN ids s.next) s.rows ids.length rows0) (hcov : ∀ j, j < ids.length → ∃ it, lk rows0 j = some it) (N : Nat) (hkN : ids.length ≤ N) (hN : Fv.below N out = true) (hNr : rowsB N rows)
    (hk : K (ren (ioN ids s.next) out) (s.ioS ids N rows)) : @VcCall P w0 T0 f args s ⟨K⟩ := by
  refine ⟨hE, fun H a w m vals hm hv => ?_⟩
  have hp1 : ∀ j, j < ids.length → ∃ i, ids[j]? = some i ∧ ioN ids s.next j = i := fun j hj => ⟨ids[j], List.getElem?_eq_getElem hj, by simp [ioN, List.getElem?_eq_getElem hj]⟩
  have hp2 : ∀ j, ids.length ≤ j → ioN ids s.next j = s.next + (j - ids.length) := fun j hj => by simp [ioN, List.getElem?_eq_none hj]
  have h0' : ∀ j it, lk rows0 j = some it → j < ids.length ∧ lk s.rows (ioN ids s.next j) = some (it.ren (ioN ids s.next)) ∧ it.below ids.length = true := fun j it hj => subOk_mem h0 j it (lk_mem hj)
  have hmem : ∀ i, i ∈ ids → ∃ j it, j < ids.length ∧ ioN ids s.next j = i ∧ lk rows0 j = some it := by
    intro i hi
    obtain ⟨j, hj, e⟩ := List.getElem_of_mem hi
    obtain ⟨it, hit⟩ := hcov j hj
    exact ⟨j, it, hj, by simp [ioN, List.getElem?_eq_getElem hj, e], hit⟩
  have hsrc : ∀ j, j < ids.length → ioN ids s.next j < s.next := fun j hj => by
    obtain ⟨it, hit⟩ := hcov j hj
    exact (hm.rows _ _ (h0' j it hit).2.1).1
  have hinj : ∀ i j, ioN ids s.next i = ioN ids s.next j → i = j := by
    intro i j e
    by_cases hi : i < ids.length <;> by_cases hj : j < ids.length
    · obtain ⟨x, hx, ex⟩ := hp1 i hi
      obtain ⟨y, hy, ey⟩ := hp1 j hj
      rw [ex, ey] at e; subst e
      exact nodup_get hd hx hy
    · have := hsrc i hi; rw [e, hp2 j (by omega)] at this; omega
    · have := hsrc j hj; rw [← e, hp2 i (by omega)] at this; omega
    · rw [hp2 i (by omega), hp2 j (by omega)] at e; omega
  let T : Nat → Prop := allow T0 w0.heap.size m s.rows
  let g : Nat → Prop := fun b => ∃ j it, lk rows0 j = some it ∧ blk (m (ioN ids s.next j)) = some b
  let m0 : Nat → Value := fun j => m (ioN ids s.next j)
  have hctx : CtxRen (ioN ids s.next) (ctxOf T0 w0.heap.size m s w) ⟨w, T, m0, ids.length⟩ := ⟨fun _ _ => rfl, fun b hb _ => ⟨hb, rfl⟩⟩
  have hown : ∀ i it, lk s.rows i = some it → ∀ b, blk (m i) = some b → ownB T0 w0.heap.size b ∧ b < w.heap.size := fun i it hi b hb => (hm.rows i it hi).2.blk b hb
  have hG : GivenOk w T g m0 ids.length rows0 := by
    refine ⟨fun j it hj => ?_, fun i j it jt b hi hj hbi hbj => ?_, fun b hb hg => ?_⟩
    · obtain ⟨h1, h2, h3⟩ := h0' j it hj
      refine ⟨h1, (ItemOk.ren hctx rfl h3 (hm.rows _ _ h2).2).blkOwn fun b hb => ⟨j, it, hj, hb⟩⟩
    · obtain ⟨_, h2, _⟩ := h0' i it hi
      obtain ⟨_, h2', _⟩ := h0' j jt hj
      exact hinj i j (hm.sep _ _ _ _ b h2 h2' hbi hbj)
    · obtain ⟨j, it, hj, hbj⟩ := hg
      exact hb.2 _ _ (h0' j it hj).2.1 hbj
  have hgg : ∀ (b : Nat) (q : GK), glK P b = some q → ¬ g b := by
    rintro b q hq ⟨j, it, hj, hb⟩
    obtain ⟨ob, hh, _⟩ := hgb.ok b q hq
    have hlt := (Array.getElem?_eq_some_iff.1 hh).1
    rcases (hown _ _ (h0' j it hj).2.1 b hb).1 with h | h
    · omega
    · exact hgb.ng b q hq h
  refine (hcall H a w m vals hm hv hG hgg).mono ?_
  rintro e w' ⟨v, rfl, hbel, mo, No, hmo, hkNo, hout, hrows, hsep⟩
  refine ⟨v, rfl, _, _, hk, ?_⟩
  have hgs : ∀ b, g b → (∃ i it, lk s.rows i = some it ∧ blk (m i) = some b) := fun b ⟨j, it, hj, hb⟩ => ⟨_, _, (h0' j it hj).2.1, hb⟩
  have hNr' := rowsB_lk hNr
  have hitem : ∀ i it, lk rows i = some it → ItemOk ⟨w', allow ⟨fun b => T b ∨ g b, g⟩ w.heap.size mo rows, mo, N⟩ (ownB ⟨fun b => T b ∨ g b, g⟩ w.heap.size) (mo i) it := fun i it hi => ((hrows i it hi).2).cut (hNr' i it hi).2
  let m2 : Nat → Value := fun i => if i < s.next then m i else mo (ids.length + (i - s.next))
  have hm2 : ∀ i, i < s.next → m2 i = m i := fun i hi => if_pos hi
  have hm3 : ∀ j, m2 (ioN ids s.next j) = mo j := fun j => by
    by_cases hj : j < ids.length
    · rw [hm2 _ (hsrc j hj)]; exact (hmo j hj).symm
    · rw [hp2 j (by omega)]
      show (if s.next + (j - ids.length) < s.next then _ else _) = _
      rw [if_neg (by omega)]; congr 1; omega
  have hlt : ∀ i it, lk s.rows i = some it → i < s.next := fun i it hi => (hm.rows i it hi).1
  have hrest : ∀ i it, lk (delL s.rows ids) i = some it → i ∉ ids ∧ lk s.rows i = some it := by
    intro i it hi
    rw [lk_delL] at hi
    split at hi
    · cases hi
    · rename_i e; exact ⟨e, hi⟩
  have hcases : ∀ i it, lk (s.ioS ids N rows).rows i = some it → (∃ j jt, i = ioN ids s.next j ∧ lk rows j = some jt ∧ it = jt.ren (ioN ids s.next)) ∨ (i ∉ ids ∧ lk s.rows i = some it) := by
    intro i it hi
    have hi' : lk (ioRows (ioN ids s.next) rows ++ delL s.rows ids) i = some it := hi
    rw [lk_append] at hi'
    cases hq : lk (ioRows (ioN ids s.next) rows) i with
    | some y =>
      rw [hq] at hi'; cases hi'
      exact .inl (lk_ioRows_of (S := fun _ => True) (fun i j _ _ e => hinj i j e) (fun _ _ => trivial) hq)
    | none => rw [hq] at hi'; exact .inr (hrest i it hi')
  have hnotg : ∀ i it, i ∉ ids → lk s.rows i = some it → ∀ b, blk (m i) = some b → ¬ g b := by
    rintro i it hni hi b hb ⟨j, jt, hj, hbj⟩
    obtain ⟨h1, h2, _⟩ := h0' j jt hj
    have := hm.sep _ _ _ _ b hi h2 hb hbj
    obtain ⟨x, hx, ex⟩ := hp1 j h1
    exact hni (by rw [this, ex]; exact List.mem_of_getElem? hx)
  have hnewB : ∀ j jt, lk rows j = some jt → ∀ b, blk (mo j) = some b → w.heap.size ≤ b ∨ g b := fun j jt hj b hbl => (((hrows j jt hj).2.blk b hbl).1).imp id (·.1)
  have hle : CtxLe (ctxOf T0 w0.heap.size m s w) (ctxOf T0 w0.heap.size m2 (s.ioS ids N rows) w') := by
    refine ⟨Nat.le_add_right _ _, hm2, ?_⟩
    intro b hb hltb
    have hbg : ¬ g b := fun hg => by
      obtain ⟨i, it, hi, hbi⟩ := hgs b hg
      exact hb.2 i it hi hbi
    refine ⟨⟨hb.1, fun i it hi e => ?_⟩, hbel.block b hltb hbg⟩
    rcases hcases i it hi with ⟨j, jt, rfl, hj, _⟩ | ⟨hni, hi'⟩
    · rw [hm3] at e
      rcases hnewB j jt hj b e with h | h
      · have hlt2 : b < w.heap.size := hltb; omega
      · exact hbg h
    · rw [hm2 i (hlt i it hi')] at e; exact hb.2 i it hi' e
  have hsh : CtxSh (ioN ids s.next) (⟨w', allow ⟨fun b => T b ∨ g b, g⟩ w.heap.size mo rows, mo, N⟩ : Ctx) (ctxOf T0 w0.heap.size m2 (s.ioS ids N rows) w') := by
    refine ⟨fun i hi => ?_, fun i _ => hm3 i, ?_⟩
    · show ioN ids s.next i < s.next + (N - ids.length)
      by_cases hj : i < ids.length
      · have := hsrc i hj; omega
      · rw [hp2 i (by omega)]; have : i < N := hi; omega
    intro b ⟨h1, h2⟩ _
    have hlt0 := hm.lt
    have hb1 : w0.heap.size ≤ b ∨ T0.a b := by
      rcases h1 with h1 | h1 | h1
      · exact .inl (by omega)
      · exact h1.1
      · obtain ⟨i, it, hi, hbi⟩ := hgs b h1
        exact ((hown i it hi b hbi).1).imp id (·.2)
    refine ⟨⟨hb1, fun i it hi e => ?_⟩, rfl⟩
    rcases hcases i it hi with ⟨j, jt, rfl, hj, _⟩ | ⟨hni, hi'⟩
    · rw [hm3] at e; exact h2 j jt hj e
    · rw [hm2 i (hlt i it hi')] at e
      rcases h1 with h1 | h1 | h1
      · have := (hown i it hi' b e).2; omega
      · exact h1.2 i it hi' e
      · exact hnotg i it hni hi' b e h1
  have hOO : ∀ b, ownB ⟨fun b => T b ∨ g b, g⟩ w.heap.size b → ownB T0 w0.heap.size b := fun b hb => by
    rcases hb with hb | hb
    · exact .inl (Nat.le_trans hm.lt hb)
    · obtain ⟨i, it, hi, hbi⟩ := hgs b hb.1
      exact (hown i it hi b hbi).1
  refine ⟨m2, RepM.hold (s := s.ioS ids N rows) ?_ ((hout.cut hN).shift hsh)⟩
  refine { size := hm.size, nodef := hm.nodef, below := ?_, env := fun r u hu => (hm.env r u hu).mono hle, held := fun q hq => (hm.held q hq).mono hle, rows := ?_, sep := ?_ }
  · refine hm.below.step hbel.os hbel.tape hbel.output hbel.size (fun b hb hn => hbel.block b (Nat.lt_of_lt_of_le hb hm.lt) fun hg => ?_) hbel.drawn
    obtain ⟨i, it, hi, hbi⟩ := hgs b hg
    rcases (hown i it hi b hbi).1 with h | h
    · omega
    · exact hn h
  · intro i it hi
    rcases hcases i it hi with ⟨j, jt, rfl, hj, rfl⟩ | ⟨hni, hi'⟩
    · refine ⟨hsh.n j (hNr' j jt hj).1, ?_⟩
      rw [hm3]
      exact (hitem j jt hj).shift hsh rfl hOO
    · have hl := hlt i it hi'
      refine ⟨by show i < s.next + _; omega, ?_⟩
      rw [hm2 i hl]
      exact ((hm.rows i it hi').2).mono hle fun b hbl => hbel.block b ((hown i it hi' b hbl).2) (hnotg i it hni hi' b hbl)
  · intro i j it jt b hi hj hbi hbj
    rcases hcases i it hi with ⟨i', it', rfl, hi', _⟩ | ⟨hni, hi'⟩ <;> rcases hcases j jt hj with ⟨j', jt', rfl, hj', _⟩ | ⟨hnj, hj'⟩
    · rw [hm3] at hbi hbj
      rw [hsep i' j' it' jt' b hi' hj' hbi hbj]
    · rw [hm3] at hbi; rw [hm2 j (hlt j jt hj')] at hbj
      have h5 := (hown j jt hj' b hbj).2
      rcases hnewB i' it' hi' b hbi with h | h
      · omega
      · exact absurd h (hnotg j jt hnj hj' b hbj)
    · rw [hm3] at hbj; rw [hm2 i (hlt i it hi')] at hbi
      have h5 := (hown i it hi' b hbi).2
      rcases hnewB j' jt' hj' b hbj with h | h
      · omega
      · exact absurd h (hnotg i it hni hi' b hbi)
    · rw [hm2 i (hlt i it hi')] at hbi; rw [hm2 j (hlt j jt hj')] at hbj
      exact hm.sep i j it jt b hi' hj' hbi hbj
/-- A CALL BY SUCH A CONTRACT: 'ids': what is given. -/
theorem VcCall.io [hgb : GlB P w0 T0] {f : Nat} {args args' : List AV} {rows0 : List (Nat × Item)} {out : AV} {rows : List (Nat × Item)} {s : S} {K : AV → S → Prop} (ids : List Nat) (h : FnIO P f args' rows0 ids.length out rows) (hd : ids.Nodup)
    (ha : args = renL (ioN ids s.next) args') (hab : belowL ids.length args' = true) (h0 : subOk (ioN ids s.next) s.rows ids.length rows0) (hcov : ∀ j, j < ids.length → ∃ it, lk rows0 j = some it) (N : Nat) (hkN : ids.length ≤ N) (hN : Fv.below N out = true) (hNr : rowsB N rows)
    (hk : K (ren (ioN ids s.next) out) (s.ioS ids N rows)) : @VcCall P w0 T0 f args s ⟨K⟩ := by
  subst ha
  exact VcCall.ioCore ids h.1 hd (fun H a w m vals hm hv hG hgg => by
    have hctx : CtxRen (ioN ids s.next) (ctxOf T0 w0.heap.size m s w) ⟨w, allow T0 w0.heap.size m s.rows, fun j => m (ioN ids s.next j), ids.length⟩ := ⟨fun _ _ => rfl, fun b hb _ => ⟨hb, rfl⟩⟩
    exact h.2 w _ _ _ vals hG (GlB.at hm) hgg (RvT.ren hctx args' hab hv)) h0 hcov N hkN hN hNr hk

theorem ItemOk.anyT {w : World} {T T' : Nat → Prop} {m : Nat → Value} {N : Nat} {O : Nat → Prop} {v : Value} {it : Item} (ho : ItemOk ⟨w, T, m, N⟩ O v it) (hn : noRoItem it = true) : ItemOk ⟨w, T', m, N⟩ O v it := by
  cases it with
  | row e r => obtain ⟨n, cells, hc, hq⟩ := ho; exact ⟨n, cells, hc.anyT hn, hq⟩
  | box e cs => obtain ⟨g, vs, hv', hg, hl, hq⟩ := ho; exact ⟨g, vs, hv', hg, hl.anyT hn, hq⟩
  | map ks vs =>
    simp only [noRoItem, Bool.and_eq_true] at hn
    obtain ⟨g, es, clock, hv', hg, h1, h2, h3, h4, hq⟩ := ho; exact ⟨g, es, clock, hv', hg, h1.anyT hn.1, h2.anyT hn.2, h3, h4, hq⟩
  | iter mp since seen => exact ho
  | siter t pos => exact ho
end
end Go.Fv

/-
  The library's sort of a row of ints or of strings, by the shelf's contracts, as a contract that writes the caller's memory.
-/
namespace Go.Fv
set_option linter.unusedSectionVars false
set_option linter.unusedVariables false
set_option linter.unusedSimpArgs false
open Go.RowKit Go.Sort Go.Proofs Go.Shelf

theorem sorted_heap {α : Type} [Inhabited α] (enc : α → Value) (w : World) (n g : Nat) (d : Array α) (os : Array Obj) {cur : Array Value} {e : TypeId} {fz : Nat × Nat} (hh : w.heap[g]? = some (.cells cur e fz)) :
    (grow (putRow enc (Sort.ahead w n) g 0 d) os).heap[g]? = some (.cells (putCells enc 0 d cur) e fz) := by
  have hlt : g < w.heap.size := (Array.getElem?_eq_some_iff.1 hh).1
  show ((w.heap.modify g (onCells (putCells enc 0 d))) ++ os)[g]? = _
  rw [Array.getElem?_append_left (by simpa using hlt), Array.getElem?_modify, if_pos rfl, hh]
  rfl
theorem sorted_other {α : Type} [Inhabited α] (enc : α → Value) (w : World) (n g : Nat) (d : Array α) (os : Array Obj) {k : Nat} (hk : k < w.heap.size) (hne : ¬ g = k) :
    (grow (putRow enc (Sort.ahead w n) g 0 d) os).heap[k]? = w.heap[k]? := by
  show ((w.heap.modify g (onCells (putCells enc 0 d))) ++ os)[k]? = _
  rw [Array.getElem?_append_left (by simpa using hk), Array.getElem?_modify, if_neg hne]
theorem putCells_size {α : Type} [Inhabited α] (enc : α → Value) (d : Array α) (c : Array Value) : (putCells enc 0 d c).size = c.size := by simp [putCells]
theorem putCells_take {α : Type} [Inhabited α] (enc : α → Value) (l : List α) (c : Array Value) (n : Nat) (hn : l.length = n) (hc : n ≤ c.size) : (putCells enc 0 l.toArray c).toList.take n = l.map enc := by
  apply List.ext_getElem?
  intro j
  by_cases hj : j < n
  · rw [List.getElem?_take_of_lt hj, List.getElem?_map]
    have h1 : j < c.size := by omega
    have h2 : j < l.length := by omega
    have h3 : (putCells enc 0 l.toArray c)[j]? = some (enc l.toArray[j]!) := by
      simp only [putCells, Array.getElem?_mapIdx, Array.getElem?_eq_getElem h1, Option.map_some]
      rw [if_pos ⟨Nat.zero_le _, by simpa using h2⟩, Nat.sub_zero]
    rw [Array.getElem?_toList, h3]
    simp [h2]
  · rw [List.getElem?_eq_none (by simp; omega), List.getElem?_eq_none (by simp; omega)]

section
variable {P : Program}
/-- One row is given and turned in its place. -/
theorem FnIO.place {α : Type} [Inhabited α] (enc : α → Value) {f : Nat} (hE : Enter P f) (e : TypeId) (r r' : RowV) (l l' : List α) (hll : l'.length = l.length)
    (hr1 : r.sz = 1) (hr2 : r'.sz = 1) (hrl : r.len = l.length) (hrl' : r'.len = l.length)
    (hdown : ∀ c cells, RowC c r cells → cells = l.map enc) (hup : ∀ c c' cells, RowC c r cells → RowC c' r' (l'.map enc))
    (hrun : ∀ (w : World) (g cap : Nat), Holds enc w g 0 l.toArray → g < w.heap.size → Calls P f #[.slice (some ⟨g, 0, none⟩) l.length cap] w fun x w' => x = .returned (.tuple #[]) ∧ ∃ n os, w' = grow (putRow enc (Sort.ahead w n) g 0 l'.toArray) os)
    (hnone : ∀ (w : World) (p : Option Addr) (cap : Nat), Calls P f #[.slice p 0 cap] w fun x w' => x = .returned (.tuple #[]) ∧ w' = w) :
    FnIO P f [.own 0] [(0, .row e r)] 1 (.tup []) [(0, .row e r')] := by
  refine ⟨hE, fun w T g m0 vals ⟨hrow, _, hd⟩ hgl hng hv => ?_⟩
  obtain ⟨_, n, cells, hr, hn, ⟨hlen, hcase⟩, hO⟩ := hrow 0 _ rfl
  have hcells := hdown _ _ hr
  subst hcells
  rw [hrl] at hn
  subst hn
  cases hv with
  | cons _ v0 _ vs h0 hvs =>
  cases hvs
  cases h0 with
  | own _ hi h1 =>
  rw [hr1] at hcase
  have none_case : l.length = 0 → ∀ p cap, m0 0 = .slice p 0 cap → Calls P f [m0 0].toArray w fun e_1 w' => ∃ v, e_1 = .returned v ∧ BelowG g w w' ∧ ∃ m N, (∀ i, i < 1 → m i = m0 i) ∧ 1 ≤ N ∧
      Rv ⟨w', allow ⟨fun b => T b ∨ g b, g⟩ w.heap.size m [(0, .row e r')], m, N⟩ (.tup []) v ∧
      (∀ i it, lk [(0, Item.row e r')] i = some it → i < N ∧ ItemOk ⟨w', allow ⟨fun b => T b ∨ g b, g⟩ w.heap.size m [(0, .row e r')], m, N⟩ (ownB ⟨fun b => T b ∨ g b, g⟩ w.heap.size) (m i) it) ∧
      (∀ i j it jt b, lk [(0, Item.row e r')] i = some it → lk [(0, Item.row e r')] j = some jt → blk (m i) = some b → blk (m j) = some b → i = j) := by
    intro h00 p cap hm
    rw [show [m0 0].toArray = #[m0 0] from rfl, hm]
    refine (hnone w p cap).mono ?_
    rintro x w' ⟨rfl, rfl⟩
    have hl'0 : l' = [] := List.eq_nil_of_length_eq_zero (by omega)
    refine ⟨_, rfl, BelowG.refl _ _, m0, 1, fun _ _ => rfl, Nat.le_refl _, .tup [] [] .nil, ?_, ?_⟩
    · intro i it hi
      have hi0 : i = 0 := by
        simp only [lk] at hi
        split at hi
        · rename_i h; exact h.symm
        · cases hi
      subst hi0
      have : it = Item.row e r' := by simp [lk] at hi; exact hi.symm
      subst this
      have hr' := hup _ ⟨w', allow ⟨fun b => T b ∨ g b, g⟩ w'.heap.size m0 [(0, .row e r')], m0, 1⟩ _ hr
      rw [hl'0] at hr'
      refine ⟨by omega, 0, [], hr', by omega, ?_, fun b hb => .inr ⟨hO b hb, .inr (hO b hb)⟩⟩
      rcases hcase with ⟨hv, _⟩ | ⟨g0, cap', cur, fz, hv, hMk, hh, hnc, hcm, hcs, htk⟩
      · exact ⟨by simp, .inl ⟨hv, rfl⟩⟩
      · refine ⟨by simp, .inr ⟨g0, cap', cur, fz, by rw [hv, h00], hMk, hh, by omega, hcm, by rw [hcs, hr2], by simp⟩⟩
    · intro i j it jt b hi hj _ _
      have aux : ∀ q x, lk [(0, Item.row e r')] q = some x → q = 0 := by
        intro q x hq
        simp only [lk] at hq
        split at hq
        · rename_i h; exact h.symm
        · cases hq
      rw [aux i it hi, aux j jt hj]
  rcases hcase with ⟨hv, h00⟩ | ⟨g0, cap, cur, fz, hv, hMk, hh, hnc, hcm, hcs, htk⟩
  · exact none_case h00 _ _ hv
  · by_cases h00 : l.length = 0
    · exact none_case h00 _ cap (by rw [hv, h00])
    rw [Nat.mul_one] at hcs htk
    have hlt : g0 < w.heap.size := (Array.getElem?_eq_some_iff.1 hh).1
    have hcell : ∀ j, j < l.length → cur[j]? = some (enc l.toArray[j]!) := by
      intro j hj
      have h1 : (cur.toList.take l.length)[j]? = (l.map enc)[j]? := by rw [htk]
      rw [List.getElem?_take_of_lt hj, List.getElem?_map, Array.getElem?_toList] at h1
      rw [h1]; simp [hj]
    have hH : Holds enc w g0 0 l.toArray := by
      intro j hj
      have hj' : j < l.length := by simpa using hj
      constructor
      · simp [World.cell?, hh, hcell j hj']
      · simp only [World.frozen?, hh]
        rcases hMk with rfl | hMk
        · simp
        · obtain ⟨lo, hi⟩ := fz
          have : cur.size ≤ lo := hMk
          simp; omega
    rw [show [m0 0].toArray = #[m0 0] from rfl, hv]
    refine (hrun w g0 cap hH hlt).mono ?_
    rintro x w' ⟨rfl, nn, os, rfl⟩
    have hgO := hO g0 (by rw [hv]; rfl)
    have hnh := sorted_heap enc w nn g0 l'.toArray os hh
    refine ⟨_, rfl, ⟨rfl, rfl, rfl, by simp, Nat.le_add_right _ _, fun k hk hng' => sorted_other enc w nn g0 _ os hk fun e => hng' (e ▸ hgO)⟩, m0, 1, fun _ _ => rfl, Nat.le_refl _, .tup [] [] .nil, ?_, ?_⟩
    · intro i it hi
      have hi0 : i = 0 := by
        simp only [lk] at hi
        split at hi
        · rename_i h; exact h.symm
        · cases hi
      subst hi0
      have : it = Item.row e r' := by simp [lk] at hi; exact hi.symm
      subst this
      have hr' := hup _ ⟨grow (putRow enc (Sort.ahead w nn) g0 0 l'.toArray) os, allow ⟨fun b => T b ∨ g b, g⟩ w.heap.size m0 [(0, .row e r')], m0, 1⟩ _ hr
      refine ⟨by omega, l.length, l'.map enc, hr', hrl', ?_, fun b hb => .inr ⟨hO b hb, .inr (hO b hb)⟩⟩
      rw [hr2]
      refine ⟨by simp [hll], .inr ⟨g0, cap, _, fz, hv, by rw [putCells_size]; exact hMk, hnh, hnc, hcm, by rw [putCells_size, hcs, Nat.mul_one], ?_⟩⟩
      rw [Nat.mul_one]
      exact putCells_take enc l' cur _ hll (by omega)
    · intro i j it jt b hi hj _ _
      have aux : ∀ q x, lk [(0, Item.row e r')] q = some x → q = 0 := by
        intro q x hq
        simp only [lk] at hq
        split at hq
        · rename_i h; exact h.symm
        · cases hq
      rw [aux i it hi, aux j jt hj]

end
end Go.Fv

/-
  What arrives: arguments of every shape, as the row's reading gives them.
-/
namespace Go.Fv
set_option linter.unusedSectionVars false
open Go.RowKit
set_option linter.unusedVariables false
set_option linter.unusedSimpArgs false

inductive All2 {α β : Type} (R : α → β → Prop) : List α → List β → Prop
  | nil : All2 R [] []
  | cons {a : α} {b : β} {l : List α} {m : List β} (h : R a b) (t : All2 R l m) : All2 R (a :: l) (b :: m)
section
variable {H : Type} {enc : TypeId × Value → H} {P : Program} {w : World} {fuel : Nat} {t : TypeId} {cs : List Value} {x : DataW H × List MemPlace}

abbrev cIn (w : World) : Ctx := ⟨w, fun _ => True, fun _ => undef, 0⟩
/-- The cells that stand at 'cs' are read as 't', in a world that may be read wherever. -/
def Rd (enc : TypeId × Value → H) (P : Program) (w : World) (t : TypeId) (cs : List Value) (x : DataW H × List MemPlace) : Prop := ∃ fuel, DataW.trod enc P w 0 (fun _ => true) true fuel t cs = some x

theorem Rd.bool (ht : P.underlying t = some .bool) (h : Rd enc P w t cs x) : ∃ b, RvL (cIn w) [.bool b] cs := by
  obtain ⟨f, h⟩ := h
  obtain ⟨b, rfl, _⟩ := DataW.trod_bool ht h
  exact ⟨b, .cons _ _ _ _ (.bool b) rfl .nil⟩
theorem InK_wf {k : IntKind} {n : Int} (h : (Lit.int k n).wf = true) : InK k n := by
  simpa [Lit.wf, InK] using h
theorem Rd.int {k : IntKind} (ht : P.underlying t = some (.int k)) (h : Rd enc P w t cs x) : ∃ n, InK k n ∧ RvL (cIn w) [.int k n] cs := by
  obtain ⟨f, h⟩ := h
  obtain ⟨n, rfl, _, hw⟩ := DataW.trod_int ht h
  exact ⟨n, InK_wf hw, .cons _ _ _ _ (.int k n (InK_wf hw)) rfl .nil⟩
theorem Rd.str (ht : P.underlying t = some .string) (h : Rd enc P w t cs x) : ∃ s : List UInt8, x.1 = .lit (.string s) ∧ RvL (cIn w) [.str s] cs := by
  obtain ⟨f, h⟩ := h
  obtain ⟨s, rfl, rfl, hw⟩ := DataW.trod_string ht h
  exact ⟨s.data.toList, rfl, .cons _ _ _ _ (.str _ (by simpa using hw)) rfl .nil⟩

theorem cells_of {base : Nat} {a : Addr} {n : Nat} {vs : List Value} (h : w.cells? base a n = some vs) : vs.length = n ∧ ∀ j u, vs[j]? = some u → w.cell? (a.add j) = some u := by
  obtain ⟨h1, h2, h3⟩ := World.cells?_some h
  refine ⟨h2, fun j u hu => ?_⟩
  have hj : j < n := by rw [← h2]; exact (List.getElem?_eq_some_iff.1 hu).1
  rw [h3 j hj, hu]

/-- A slice: its elements, each read; where they lie. -/
theorem Rd.slice {e : TypeId} (ht : P.underlying t = some (.slice e)) (h : Rd enc P w t cs x) :
    (cs = [.slice none 0 0] ∧ x.1 = .nil) ∨ ∃ (a : Addr) (len cap : Nat) (els : List (List Value × (DataW H × List MemPlace))) (spare : List (DataW H)), cs = [.slice (some a) len cap] ∧ len ≤ cap ∧ cap ≤ maxLen ∧ els.length = len ∧ x.1 = .slice (els.map (·.2.1)) spare ∧
      (∀ y, y ∈ els → Rd enc P w e y.1 y.2 ∧ y.1.length = P.cellsOf e) ∧ ∀ i y, els[i]? = some y → ∀ j u, y.1[j]? = some u → w.cell? (a.add (i * P.cellsOf e + j)) = some u := by
  obtain ⟨f, h⟩ := h
  rcases DataW.trod_slice ht h with ⟨rfl, rfl⟩ | ⟨a, len, cap, elems, rest, n, _, rfl, rfl, _, hl, hm, hlen, hel, _, _⟩
  · exact .inl ⟨rfl, rfl⟩
  refine .inr ?_
  have each : ∀ i, i < len → ∃ vs y, w.cells? 0 (a.add (i * P.cellsOf e)) (P.cellsOf e) = some vs ∧ DataW.trod enc P w 0 (fun _ => true) true n e vs = some y ∧ elems[i]? = some y := by
    intro i hi
    have := hel i hi
    have hi' : i < elems.length := by omega
    rw [List.getElem?_eq_getElem hi', Option.bind_eq_some_iff] at this
    obtain ⟨vs, h1, h2⟩ := this
    exact ⟨vs, _, h1, h2, List.getElem?_eq_getElem hi'⟩
  let vsAt : Nat → List Value := fun i => (w.cells? 0 (a.add (i * P.cellsOf e)) (P.cellsOf e)).getD []
  have hadd : ∀ (m j : Nat), (a.add m).add j = a.add (m + j) := by
    intro m j
    unfold Addr.add
    by_cases hn : m = 0
    · subst hn; simp
    · by_cases hj : j = 0
      · subst hj; simp [hn]
      · simp [hn, hj, Nat.add_assoc]
  refine ⟨a, len, cap, elems.zipIdx.map (fun y => (vsAt y.2, y.1)), rest.map (·.1), rfl, hl, hm, by simp [hlen], ?_, ?_, ?_⟩
  · simp only [List.map_map]
    congr 1
    have : (fun y : (DataW H × List MemPlace) × Nat => y.1.1) = (fun y => y.1) ∘ Prod.fst := rfl
    show elems.map (·.1) = elems.zipIdx.map (fun y => y.1.1)
    rw [this, ← List.map_map]
    simp
  · intro y hy
    obtain ⟨z, hz, rfl⟩ := List.mem_map.1 hy
    obtain ⟨i, hi⟩ := List.getElem?_of_mem hz
    rw [List.getElem?_zipIdx] at hi
    simp only [Nat.zero_add, Option.map_eq_some_iff] at hi
    obtain ⟨u, hu, rfl⟩ := hi
    have hlt : i < len := by rw [← hlen]; exact (List.getElem?_eq_some_iff.1 hu).1
    obtain ⟨vs, y', h1, h2, h3⟩ := each i hlt
    have : y' = u := by rw [hu] at h3; exact (Option.some.inj h3).symm
    subst this
    refine ⟨⟨n, ?_⟩, ?_⟩
    · show DataW.trod enc P w 0 (fun _ => true) true n e ((w.cells? 0 (a.add (i * P.cellsOf e)) (P.cellsOf e)).getD []) = _
      rw [h1]; exact h2
    · show ((w.cells? 0 (a.add (i * P.cellsOf e)) (P.cellsOf e)).getD []).length = _
      rw [h1]; exact (cells_of h1).1
  · intro i y hy j u hu
    rw [List.getElem?_map, List.getElem?_zipIdx] at hy
    simp only [Nat.zero_add, Option.map_map, Option.map_eq_some_iff] at hy
    obtain ⟨z, hz, rfl⟩ := hy
    have hlt : i < len := by rw [← hlen]; exact (List.getElem?_eq_some_iff.1 hz).1
    obtain ⟨vs, y', h1, _, _⟩ := each i hlt
    have hu' : vs[j]? = some u := by
      have : ((w.cells? 0 (a.add (i * P.cellsOf e)) (P.cellsOf e)).getD [])[j]? = some u := hu
      rw [h1] at this; exact this
    rw [← hadd]; exact (cells_of h1).2 j u hu'

/-- Elements one behind the other. -/
theorem cells_join {els : List (List Value)} {n : Nat} {a : Addr} (hn : ∀ y, y ∈ els → y.length = n) (h : ∀ i y, els[i]? = some y → ∀ j u, y[j]? = some u → w.cell? (a.add (i * n + j)) = some u) : ∀ j u, els.flatten[j]? = some u → w.cell? (a.add j) = some u := by
  induction els generalizing a with
  | nil => intro j u hu; simp at hu
  | cons y l ih =>
    intro j u hu
    have hy := hn y (.head _)
    by_cases hj : j < y.length
    · rw [List.flatten_cons, List.getElem?_append_left hj] at hu
      have := h 0 y rfl j u hu
      simpa using this
    · rw [List.flatten_cons, List.getElem?_append_right (by omega)] at hu
      have hadd : ∀ (m j : Nat), (a.add m).add j = a.add (m + j) := by
        intro m j
        unfold Addr.add
        by_cases hn : m = 0
        · subst hn; simp
        · by_cases hj : j = 0
          · subst hj; simp [hn]
          · simp [hn, hj, Nat.add_assoc]
      have := ih (a := a.add n) (fun z hz => hn z (.tail _ hz)) (fun i z hz k v hv => by
        have := h (i + 1) z (by simpa using hz) k v hv
        rw [hadd]
        rwa [show (i + 1) * n + k = n + (i * n + k) by rw [Nat.succ_mul]; omega] at this) (j - y.length) u hu
      rw [hadd] at this
      rwa [show n + (j - y.length) = j by omega] at this

/-- A slice as a row: 'f' says what an element reads as; 'row' the row of the elements. -/
theorem Rd.row {e : TypeId} {β : Type} (ht : P.underlying t = some (.slice e)) (row : List β → RowV) (hlen : ∀ l, (row l).len = l.length) (hnil : RowC (cIn w) (row []) [])
    (R : β → List Value → Prop) (hrow : ∀ l vss, All2 R l vss → RowC (cIn w) (row l) vss.flatten)
    (Q : β → DataW H → Prop) (hel : ∀ vs y, Rd enc P w e vs y → ∃ b, R b vs ∧ Q b y.1) (h : Rd enc P w t cs x) :
    ∃ l : List β, RvL (cIn w) [.ro (row l)] cs ∧ ((x.1 = .nil ∧ l = []) ∨ ∃ ds sp, x.1 = .slice ds sp ∧ All2 Q l ds) := by
  rcases h.slice ht with ⟨rfl, hx⟩ | ⟨a, len, cap, els, sp, rfl, hl, hm, hlen', hx, hall, hcell⟩
  · exact ⟨[], .cons _ _ _ _ (.roNil _ hnil (hnil.noid0 rfl)) rfl .nil, .inl ⟨hx, rfl⟩⟩
  have key : ∀ els : List (List Value × (DataW H × List MemPlace)), (∀ y, y ∈ els → Rd enc P w e y.1 y.2) → ∃ l : List β, All2 R l (els.map (·.1)) ∧ All2 Q l (els.map (·.2.1)) := by
    intro els
    induction els with
    | nil => intro _; exact ⟨[], .nil, .nil⟩
    | cons y els ih =>
      intro hh
      obtain ⟨b, h1, h2⟩ := hel y.1 y.2 (hh y (.head _))
      obtain ⟨l, h3, h4⟩ := ih fun z hz => hh z (.tail _ hz)
      exact ⟨b :: l, .cons h1 h3, .cons h2 h4⟩
  obtain ⟨l, h1, h2⟩ := key els fun y hy => (hall y hy).1
  have hll : l.length = len := by
    have : ∀ (l : List β) (vss : List (List Value)), All2 R l vss → l.length = vss.length := by
      intro l vss h; induction h with | nil => rfl | cons _ _ ih => simp [ih]
    have := this _ _ h1
    simpa [hlen'] using this
  refine ⟨l, .cons _ _ _ _ (.ro _ a len cap _ (hrow _ _ h1) (by rw [hlen, hll]) hl hm ⟨trivial, fun _ => trivial, ?_⟩ ((hrow _ _ h1).noid0 rfl)) rfl .nil, .inr ⟨_, _, hx, h2⟩⟩
  refine cells_join (n := P.cellsOf e) (fun y hy => ?_) (fun i y hy j u hu => ?_)
  · obtain ⟨z, hz, rfl⟩ := List.mem_map.1 hy; exact (hall z hz).2
  · rw [List.getElem?_map] at hy
    simp only [Option.map_eq_some_iff] at hy
    obtain ⟨z, hz, rfl⟩ := hy
    exact hcell i z hz j u hu

theorem RowC.intsIn {c : Ctx} {k : IntKind} {l : List Int} {cells : List Value} (h : RowC c (.ints k l) cells) : ∀ n, n ∈ l → InK k n := by
  generalize hr : RowV.ints k l = r at h
  cases h <;> cases hr
  assumption
def lenD : DataW H → Nat
  | .slice ds _ => ds.length
  | .lit (.string s) => s.length
  | _ => 0
theorem All2.length {α β : Type} {R : α → β → Prop} {l : List α} {m : List β} (h : All2 R l m) : l.length = m.length := by
  induction h with | nil => rfl | cons _ _ ih => simp [ih]

theorem Rd.bools {e : TypeId} (ht : P.underlying t = some (.slice e)) (he : P.underlying e = some .bool) (h : Rd enc P w t cs x) : ∃ l : List Bool, RvL (cIn w) [.ro (.bools l)] cs ∧ l.length = lenD x.1 := by
  obtain ⟨l, h1, h2⟩ := Rd.row (β := Bool) ht .bools (fun _ => rfl) (.bools []) (fun b vs => vs = [.bool b]) (fun l vss hv => by
    have : vss.flatten = l.map Value.bool := by induction hv with | nil => rfl | cons h _ ih => subst h; simp [ih]
    rw [this]; exact .bools l) (fun _ _ => True) (fun vs y hy => by
      obtain ⟨f, hy⟩ := hy
      obtain ⟨b, rfl, _⟩ := DataW.trod_bool he hy
      exact ⟨b, rfl, trivial⟩) h
  refine ⟨l, h1, ?_⟩
  rcases h2 with ⟨e1, e2⟩ | ⟨ds, sp, e1, e2⟩
  · rw [e1, e2]; rfl
  · rw [e1]; exact e2.length
theorem Rd.ints {e : TypeId} {k : IntKind} (ht : P.underlying t = some (.slice e)) (he : P.underlying e = some (.int k)) (h : Rd enc P w t cs x) : ∃ l : List Int, (∀ n, n ∈ l → InK k n) ∧ RvL (cIn w) [.ro (.ints k l)] cs ∧ l.length = lenD x.1 := by
  obtain ⟨l, h1, h2⟩ := Rd.row (β := Int) ht (.ints k) (fun _ => rfl) (.ints k [] (fun x hx => by cases hx)) (fun n vs => vs = [.int k n] ∧ InK k n) (fun l vss hv => by
    have : vss.flatten = l.map (Value.int k) ∧ ∀ n, n ∈ l → InK k n := by
      induction hv with
      | nil => exact ⟨rfl, fun n hn => by cases hn⟩
      | cons h _ ih =>
        obtain ⟨rfl, h2⟩ := h
        refine ⟨by simp [ih.1], fun n hn => ?_⟩
        cases List.mem_cons.1 hn with
        | inl e => subst e; exact h2
        | inr e => exact ih.2 n e
    rw [this.1]; exact .ints k l this.2) (fun _ _ => True) (fun vs y hy => by
      obtain ⟨f, hy⟩ := hy
      obtain ⟨n, rfl, _, hw⟩ := DataW.trod_int he hy
      exact ⟨n, ⟨rfl, InK_wf hw⟩, trivial⟩) h
  have hin : ∀ n, n ∈ l → InK k n := by
    cases h1 with
    | cons _ v _ _ hv _ _ =>
      cases hv with
      | roNil _ hr => exact hr.intsIn
      | ro _ _ _ _ _ hr => exact hr.intsIn
  refine ⟨l, hin, h1, ?_⟩
  rcases h2 with ⟨e1, e2⟩ | ⟨ds, sp, e1, e2⟩
  · rw [e1, e2]; rfl
  · rw [e1]; exact e2.length

/-! ### Arguments one by one -/
theorem arg_one {base : Nat} {v : Value} {d : TypeDesc} (ht : P.underlying t = some d) (hd : d = .bool ∨ (∃ k, d = .int k) ∨ d = .string ∨ ∃ e, d = .slice e) (h : Value.okWide P w .any base t v) : v.cells.toList = [v] := by
  unfold Value.okWide at h
  rw [ht] at h
  have h' : Cell.okWide P w .any base t v := by
    rcases hd with rfl | ⟨k, rfl⟩ | rfl | ⟨e, rfl⟩ <;> exact h
  unfold Cell.okWide at h'
  rw [ht] at h'
  have h2 : Cell.ok P w .any base t v := by
    rcases hd with rfl | ⟨k, rfl⟩ | rfl | ⟨e, rfl⟩ <;> exact h'
  unfold Cell.ok at h2
  rw [ht] at h2
  cases v <;> first | rfl | (rcases hd with rfl | ⟨k, rfl⟩ | rfl | ⟨e, rfl⟩ <;> exact h2.elim)
theorem RvL.hd {c : Ctx} {a : AV} {v : Value} (h : RvL c [a] [v]) : Rv c a v := by cases h; assumption

theorem Trod.rd {v : Value} {d : DataW H} {ps : List MemPlace} (h : DataW.Trod enc P w 0 (fun _ => true) true t v d ps) : Rd enc P w t v.cells.toList (d, ps) := h

theorem arg_str {base : Nat} {v : Value} {d : DataW H} {ps : List MemPlace} (ht : P.underlying t = some .string) (hv : Value.okWide P w .any base t v) (h : DataW.Trod enc P w 0 (fun _ => true) true t v d ps) : ∃ s : List UInt8, d = .lit (.string s) ∧ Rv (cIn w) (.str s) v := by
  obtain ⟨b, hk, hb⟩ := (Trod.rd h).str ht
  rw [arg_one ht (.inr (.inr (.inl rfl))) hv] at hb
  exact ⟨b, hk, hb.hd⟩
theorem arg_bools {base : Nat} {v : Value} {d : DataW H} {ps : List MemPlace} {e : TypeId} (ht : P.underlying t = some (.slice e)) (he : P.underlying e = some .bool) (hv : Value.okWide P w .any base t v) (h : DataW.Trod enc P w 0 (fun _ => true) true t v d ps) :
    ∃ l : List Bool, l.length = lenD d ∧ Rv (cIn w) (.ro (.bools l)) v := by
  obtain ⟨b, hb, hk⟩ := (Trod.rd h).bools ht he
  rw [arg_one ht (.inr (.inr (.inr ⟨e, rfl⟩))) hv] at hb
  exact ⟨b, hk, hb.hd⟩
/-! ### What the row asks behind the call -/
theorem stays_all (hl : laidOutB P = true) {W W' : World} (hB : Below W.heap.size W W') : ∀ {ts : List TypeId} {vs : List Value} {ds : List (DataW H)} {ps : List MemPlace}, (∀ t, t ∈ ts → P.readableRec t = true ∧ t < P.types.size) →
    DataW.TrodAll enc P W 0 (fun _ => true) true ts vs ds ps → (∀ p, p ∈ ps → p.block < W.heap.size) → DataW.TrodAll enc P W' 0 (fun b => decide (b < W.heap.size)) true ts vs ds ps
  | [], _, _, _, _, h, _ => by
    obtain ⟨rfl, rfl, rfl⟩ := ChangeShapes.trodAll_nil h
    exact h
  | t :: ts, _, _, _, hr, h, hlt => by
    obtain ⟨v, vs, d, ds, p, q, rfl, rfl, rfl, h1, h2⟩ := ChangeShapes.trodAll_cons h
    obtain ⟨k1, k2⟩ := hr t (.head _)
    exact ⟨p, q, Below.trod hl k1 k2 h1 hB (fun x hx => hlt x (List.mem_append.2 (.inl hx))), stays_all hl hB (fun u hu => hr u (.tail _ hu)) h2 (fun x hx => hlt x (List.mem_append.2 (.inr hx))), rfl⟩

theorem all_len : ∀ {ts : List TypeId} {vs : List Value} {ds : List (DataW H)} {ps : List MemPlace} {W : World}, DataW.TrodAll enc P W 0 (fun _ => true) true ts vs ds ps → ds.length = ts.length
  | [], _, _, _, _, h => by obtain ⟨rfl, rfl, rfl⟩ := ChangeShapes.trodAll_nil h; rfl
  | t :: ts, _, _, _, _, h => by
    obtain ⟨v, vs, d, ds, p, q, rfl, rfl, rfl, h1, h2⟩ := ChangeShapes.trodAll_cons h
    simp [all_len h2]

/-- A law that answers true, and has changed nothing that there was. -/
theorem post_true {f : Func} {s : ChangeSpec} {W W' : World} {args : Array Value} {ds gs : List (DataW H)} {before : List MemPlace} {tb : TypeId}
    (hW : DataW.Whole enc P f.params.toList s.vars false W args.toList ds gs before) (hvars : s.vars = []) (hfn : ∀ l : List (DataW H), l.length = f.params.size → s.fn H l = { results := [.lit (.bool true)], args := l })
    (hres : f.resultTypes = #[tb]) (hb : P.underlying tb = some .bool) (hl : laidOutB P = true) (hr : ∀ t, t ∈ f.params.toList → P.readableRec t = true ∧ t < P.types.size) (hB : Below W.heap.size W W') :
    s.post enc P f false true false false W args (.bool true) W' := by
  have hlt := hW.lt
  have hW' := hW
  obtain ⟨p, q, hA, hV, rfl, _, _⟩ := hW'
  rw [hvars] at hV
  obtain ⟨rfl, rfl⟩ : gs = [] ∧ q = [] := by
    cases gs with
    | nil => exact ⟨rfl, hV⟩
    | cons _ _ => exact hV.elim
  have hf := hfn (ds ++ []) (by rw [List.append_nil, all_len hA]; simp)
  refine ⟨ds, [], p ++ [], [], p, [], hW, ?_, ?_, ?_, hB.frame _, fun h => by cases h⟩
  · rw [hf, hres]
    exact ⟨[], [], RowKit.shut_bool hb true, rfl, rfl⟩
  · rw [hf]
    have := stays_all (enc := enc) hl hB hr hA (fun x hx => hlt x (by simpa using hx))
    simpa using this
  · rw [hf, hvars]
    rfl

theorem calls_true {fid : Nat} {f : Func} {s : ChangeSpec} {W : World} {args : Array Value} {ds gs : List (DataW H)} {before : List MemPlace} {tb : TypeId} {avs : List AV} (h : FnOk P fid avs (.bool true) []) (hgl : GlOk P W) (ha : RvT (cIn W) avs args.toList)
    (hW : DataW.Whole enc P f.params.toList s.vars false W args.toList ds gs before) (hvars : s.vars = []) (hfn : ∀ l : List (DataW H), l.length = f.params.size → s.fn H l = { results := [.lit (.bool true)], args := l })
    (hres : f.resultTypes = #[tb]) (hb : P.underlying tb = some .bool) (hl : laidOutB P = true) (hr : ∀ t, t ∈ f.params.toList → P.readableRec t = true ∧ t < P.types.size) :
    Calls P fid args W fun e W' => ∃ v, e = .returned v ∧ s.post enc P f false true false false W args v W' := by
  refine (h.2 W (fun _ => True) args.toList hgl ha).mono ?_
  rintro e W' ⟨v, rfl, hB, m, N, hrv, _⟩
  cases hrv
  exact ⟨_, rfl, post_true hW hvars hfn hres hb hl hr hB.plain⟩
end
end Go.Fv

/-
  What arrives: structs.
-/
namespace Go.Fv
set_option linter.unusedSectionVars false
open Go.RowKit
set_option linter.unusedVariables false
set_option linter.unusedSimpArgs false

section
variable {H : Type} {enc : TypeId × Value → H} {P : Program} {w : World} {t : TypeId} {cs : List Value} {x : DataW H × List MemPlace}

theorem Rd.fields {fs : Array Field} (ht : P.underlying t = some (.struct fs)) (h : Rd enc P w t cs x) : cs.length = P.cellsOf t ∧ ∃ xs : List (DataW H × List MemPlace), x.1 = .agg (xs.map (·.1)) ∧ xs.length = fs.size ∧
    ∀ (i : Nat) (f : Field), fs[i]? = some f → ∃ y, xs[i]? = some y ∧ Rd enc P w f.type ((cs.drop f.offset).take (P.cellsOf f.type)) y := by
  obtain ⟨fuel, h⟩ := h
  obtain ⟨xs, n, _, rfl, hl, hn, hf⟩ := DataW.trod_struct ht h
  refine ⟨hl, xs, rfl, hn, fun i f hi => ?_⟩
  have hlt : i < xs.length := by rw [hn]; exact (Array.getElem?_eq_some_iff.1 hi).1
  refine ⟨xs[i], List.getElem?_eq_getElem hlt, n, ?_⟩
  rw [hf i f hi, List.getElem?_eq_getElem hlt]
theorem RvL.app {c : Ctx} : ∀ {l l' : List AV} {vs vs' : List Value}, RvL c l vs → RvL c l' vs' → RvL c (l ++ l') (vs ++ vs')
  | _, _, _, _, .nil, h => h
  | _, _, _, _, .cons x v l vs hx h1 ht, h => .cons x v _ _ hx h1 (ht.app h)
end
end Go.Fv

/-
  What arrives: rows of texts and of structs.
-/
namespace Go.Fv
set_option linter.unusedSectionVars false
open Go.RowKit
set_option linter.unusedVariables false
set_option linter.unusedSimpArgs false

section
variable {H : Type} {enc : TypeId × Value → H} {P : Program} {w : World} {t : TypeId} {cs : List Value} {x : DataW H × List MemPlace}

theorem RvL.str1 {c : Ctx} {s : List UInt8} {vs : List Value} (h : RvL c [.str s] vs) : vs = [.string ⟨s.toArray⟩] ∧ s.length ≤ maxLen := by
  cases h with
  | cons _ v _ _ hv _ ht =>
    cases ht
    cases hv with
    | str _ h => exact ⟨rfl, h⟩
theorem Rd.strs {e : TypeId} (ht : P.underlying t = some (.slice e)) (he : P.underlying e = some .string) (h : Rd enc P w t cs x) : ∃ l : List (List UInt8), (∀ s, s ∈ l → s.length ≤ maxLen) ∧ RvL (cIn w) [.ro (.strs l)] cs := by
  obtain ⟨l, h1, h2⟩ := Rd.row (β := List UInt8) ht .strs (fun _ => rfl) (.strs [] (fun x hx => by cases hx)) (fun b vs => RvL (cIn w) [.str b] vs) (fun l vss hv => by
    have : vss.flatten = l.map (fun s => Value.string ⟨s.toArray⟩) ∧ ∀ s, s ∈ l → s.length ≤ maxLen := by
      induction hv with
      | nil => exact ⟨rfl, fun s hs => by cases hs⟩
      | cons h _ ih =>
        obtain ⟨rfl, hl⟩ := h.str1
        refine ⟨by simp [ih.1], fun s hs => ?_⟩
        cases List.mem_cons.1 hs with
        | inl e => subst e; exact hl
        | inr e => exact ih.2 s e
    rw [this.1]; exact .strs l this.2) (fun _ _ => True) (fun vs y hy => by
      obtain ⟨s, _, hs⟩ := hy.str he
      exact ⟨s, hs, trivial⟩) h
  refine ⟨l, ?_, h1⟩
  cases h1 with
  | cons _ v _ _ hv _ _ =>
    have go : ∀ {cells : List Value}, RowC (cIn w) (.strs l) cells → ∀ s, s ∈ l → s.length ≤ maxLen := by
      intro cells hr
      generalize hq : RowV.strs l = r at hr
      cases hr <;> cases hq
      assumption
    cases hv with
    | roNil _ hr => exact go hr
    | ro _ _ _ _ _ hr => exact go hr
theorem Rd.objs {e : TypeId} {β : Type} (ht : P.underlying t = some (.slice e)) (n : Nat) (hn : 0 < n) (av : β → List AV) (hid : ∀ b, noIdL (av b) = true) (hlen : ∀ b, (av b).length = n) (I : β → Prop)
    (hel : ∀ vs y, Rd enc P w e vs y → ∃ b, RvL (cIn w) (av b) vs ∧ I b) (h : Rd enc P w t cs x) : ∃ l : List β, (∀ b, b ∈ l → I b) ∧ RvL (cIn w) [.ro (.objs n (l.map av))] cs := by
  obtain ⟨l, h1, h2⟩ := Rd.row (β := { b : β // I b }) ht (fun l => .objs n (l.map fun b => av b.1)) (fun l => by simp [RowV.len]) (.objs n [] [] hn (.nil n)) (fun b vs => RvL (cIn w) (av b.1) vs) (fun l vss hv => by
    refine .objs n _ _ hn ?_
    induction hv with
    | nil => exact .nil n
    | cons h _ ih => exact .cons n _ _ _ _ h (by rw [h.length]; exact hlen _) ih) (fun _ _ => True) (fun vs y hy => by
      obtain ⟨b, hb, hI⟩ := hel vs y hy
      exact ⟨⟨b, hI⟩, hb, trivial⟩) h
  refine ⟨l.map (·.1), fun b hb => ?_, ?_⟩
  · obtain ⟨y, _, rfl⟩ := List.mem_map.1 hb; exact y.2
  · rw [List.map_map]; exact h1
end
end Go.Fv

/-
  What arrives: structs, field by field.
-/
namespace Go.Fv
set_option linter.unusedSectionVars false
open Go.RowKit
set_option linter.unusedVariables false
set_option linter.unusedSimpArgs false
section
variable {H : Type} {enc : TypeId × Value → H} {P : Program} {w : World} {t : TypeId} {cs : List Value} {x : DataW H × List MemPlace}
theorem Rd.at {fs : Array Field} (ht : P.underlying t = some (.struct fs)) (h : Rd enc P w t cs x) (i : Nat) (f : Field) (hf : fs[i]? = some f) (o n : Nat) (ho : f.offset = o) (hn : P.cellsOf f.type = n) : ∃ y, Rd enc P w f.type ((cs.drop o).take n) y := by
  obtain ⟨_, xs, _, _, hx⟩ := h.fields ht
  obtain ⟨y, _, hy⟩ := hx i f hf
  rw [ho, hn] at hy
  exact ⟨y, hy⟩
theorem Rd.len {fs : Array Field} (ht : P.underlying t = some (.struct fs)) (h : Rd enc P w t cs x) : cs.length = P.cellsOf t := (h.fields ht).1
theorem cut2 {α : Type} (l : List α) (a b : Nat) (h : l.length = a + b) : l = (l.drop 0).take a ++ (l.drop a).take b := by
  rw [List.drop_zero]
  have : (l.drop a).take b = l.drop a := List.take_of_length_le (by simp; omega)
  rw [this, List.take_append_drop]
theorem cut3 {α : Type} (l : List α) (a b c : Nat) (h : l.length = a + b + c) : l = (l.drop 0).take a ++ ((l.drop a).take b ++ (l.drop (a + b)).take c) := by
  have := cut2 (l.drop a) b c (by simp; omega)
  simp only [List.drop_drop, Nat.add_zero] at this
  rw [← this, List.drop_zero, List.take_append_drop]
/-- A struct of two fields. -/
theorem Rd.s2 {f0 f1 : Field} (ht : P.underlying t = some (.struct #[f0, f1])) (a b : Nat) (hc : P.cellsOf t = a + b) (o : f0.offset = 0 ∧ f1.offset = a) (c : P.cellsOf f0.type = a ∧ P.cellsOf f1.type = b)
    {α β : Type} {av : α → List AV} {bv : β → List AV} (h0 : ∀ cs x, Rd enc P w f0.type cs x → ∃ l, RvL (cIn w) (av l) cs) (h1 : ∀ cs x, Rd enc P w f1.type cs x → ∃ l, RvL (cIn w) (bv l) cs) (h : Rd enc P w t cs x) :
    ∃ l m, RvL (cIn w) (av l ++ bv m) cs := by
  obtain ⟨y0, r0⟩ := h.at ht 0 f0 rfl _ _ o.1 c.1
  obtain ⟨y1, r1⟩ := h.at ht 1 f1 rfl _ _ o.2 c.2
  obtain ⟨l, v0⟩ := h0 _ _ r0
  obtain ⟨m, v1⟩ := h1 _ _ r1
  refine ⟨l, m, ?_⟩
  rw [cut2 cs a b (by rw [h.len ht, hc])]
  exact v0.app v1
/-- A struct of three fields. -/
theorem Rd.s3 {f0 f1 f2 : Field} (ht : P.underlying t = some (.struct #[f0, f1, f2])) (a b d : Nat) (hc : P.cellsOf t = a + b + d) (o : f0.offset = 0 ∧ f1.offset = a ∧ f2.offset = a + b) (c : P.cellsOf f0.type = a ∧ P.cellsOf f1.type = b ∧ P.cellsOf f2.type = d)
    {α β γ : Type} {av : α → List AV} {bv : β → List AV} {gv : γ → List AV} (h0 : ∀ cs x, Rd enc P w f0.type cs x → ∃ l, RvL (cIn w) (av l) cs) (h1 : ∀ cs x, Rd enc P w f1.type cs x → ∃ l, RvL (cIn w) (bv l) cs) (h2 : ∀ cs x, Rd enc P w f2.type cs x → ∃ l, RvL (cIn w) (gv l) cs) (h : Rd enc P w t cs x) :
    ∃ l m n, RvL (cIn w) (av l ++ (bv m ++ gv n)) cs := by
  obtain ⟨y0, r0⟩ := h.at ht 0 f0 rfl _ _ o.1 c.1
  obtain ⟨y1, r1⟩ := h.at ht 1 f1 rfl _ _ o.2.1 c.2.1
  obtain ⟨y2, r2⟩ := h.at ht 2 f2 rfl _ _ o.2.2 c.2.2
  obtain ⟨l, v0⟩ := h0 _ _ r0
  obtain ⟨m, v1⟩ := h1 _ _ r1
  obtain ⟨n, v2⟩ := h2 _ _ r2
  refine ⟨l, m, n, ?_⟩
  rw [cut3 cs a b d (by rw [h.len ht, hc])]
  exact v0.app (v1.app v2)
end
end Go.Fv
