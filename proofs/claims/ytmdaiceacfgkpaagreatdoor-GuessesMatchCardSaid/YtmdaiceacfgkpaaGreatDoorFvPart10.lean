/-
  A part of the proof of the claim: walks over the program's functions and the plain laws that these need. No condition of its own.
-/
import Derived.Test.YtmdaiceacfgkpaaGreatDoorFvPart9
import Derived.Shelf.SortM.Plain
import Derived.Shelf.SortM.SortNone
import Derived.Shelf.SlSortCmp.Whole1
import Derived.Shelf.SlSortCmp.WholeK
import Derived.Shelf.SlSortCmp.NoneTotal
import Derived.DeepKeys4
import Derived.Maps.Keyed
/-
  Contracts of functions that are given memory, which they turn and hand back.
-/
namespace Go.Fv
set_option linter.unusedSectionVars false
open Go.RowKit
set_option linter.unusedVariables false
set_option linter.unusedSimpArgs false
set_option linter.unnecessarySimpa false

def GivenOk (w : World) (T g : Nat → Prop) (m0 : Nat → Value) (k : Nat) (rows0 : List (Nat × Item)) : Prop :=
  (∀ i it, lk rows0 i = some it → i < k ∧ ItemOk ⟨w, T, m0, k⟩ g (m0 i) it) ∧
  (∀ i j it jt b, lk rows0 i = some it → lk rows0 j = some jt → blk (m0 i) = some b → blk (m0 j) = some b → i = j) ∧
  (∀ b, T b → ¬ g b)

/-- The function is given the memory 'rows0' under the names below 'k', turns it, and returns 'out'; 'rows': what stands then. -/
def FnIO (P : Program) (f : Nat) (args : List AV) (rows0 : List (Nat × Item)) (k : Nat) (out : AV) (rows : List (Nat × Item)) : Prop :=
  Enter P f ∧ ∀ (w : World) (T g : Nat → Prop) (m0 : Nat → Value) (vals : List Value), GivenOk w T g m0 k rows0 → GlOk P w → (∀ (b : Nat) (q : IntKind), intGl P b = some q → ¬ g b) → RvT ⟨w, T, m0, k⟩ args vals →
    Calls P f vals.toArray w fun e w' => ∃ v, e = .returned v ∧ BelowG g w w' ∧ ∃ m N, (∀ i, i < k → m i = m0 i) ∧ k ≤ N ∧
      Rv ⟨w', allow ⟨fun b => T b ∨ g b, g⟩ w.heap.size m rows, m, N⟩ out v ∧
      (∀ i it, lk rows i = some it → i < N ∧ ItemOk ⟨w', allow ⟨fun b => T b ∨ g b, g⟩ w.heap.size m rows, m, N⟩ (ownB ⟨fun b => T b ∨ g b, g⟩ w.heap.size) (m i) it) ∧
      (∀ i j it jt b, lk rows i = some it → lk rows j = some jt → blk (m i) = some b → blk (m j) = some b → i = j)

section
variable {P : Program} {w0 : World} {T0 : Bs}

/-- Where such a function ends. -/
def RetK (P : Program) (w0 : World) (T0 : Bs) (k : Nat) (res : List ResultVar) (out : AV) (rows : List (Nat × Item)) (s : S) : Prop :=
  ∀ (H : List (AV × Value)) (a : Act) (w : World), HeldB k H → Rep w0 T0 H s a w → ∃ v, (∀ (fn : Func), fn.results = res.toArray → (results fn a.tmps).run P w = .ok v w) ∧
    ∃ m N, k ≤ N ∧ (∀ p, p ∈ H → Rv ⟨w, allow T0 w0.heap.size m rows, m, N⟩ p.1 p.2) ∧ Rv ⟨w, allow T0 w0.heap.size m rows, m, N⟩ out v ∧
      (∀ i it, lk rows i = some it → i < N ∧ ItemOk ⟨w, allow T0 w0.heap.size m rows, m, N⟩ (ownB T0 w0.heap.size) (m i) it) ∧
      (∀ i j it jt b, lk rows i = some it → lk rows j = some jt → blk (m i) = some b → blk (m j) = some b → i = j)
def PostK (P : Program) (w0 : World) (T0 : Bs) (k : Nat) (res : List ResultVar) (out : AV) (rows : List (Nat × Item)) : Exit → S → Prop
  | .normal, s => RetK P w0 T0 k res out rows s
  | .ret, s => RetK P w0 T0 k res out rows s
  | _, _ => False
@[congr] theorem RetK_congr {k : Nat} {res : List ResultVar} {out : AV} {rows : List (Nat × Item)} {s s' : S} (h : s = s') : RetK P w0 T0 k res out rows s = RetK P w0 T0 k res out rows s' := by rw [h]

theorem RetK.of {k : Nat} (l : List (Nat × Nat)) (N : Nat) (hl : ∀ x, x ∈ l → k ≤ x.1) (hk : k ≤ N) {res : List ResultVar} {out : AV} {rows : List (Nat × Item)} {s : S} (h : rets P s res (fun vs => tupOf vs = ren (pm l) out)) (hb : Fv.below N out = true) (hr : subOk (pm l) s.rows N rows) : RetK P w0 T0 k res out rows s := by
  rintro H a w hH ⟨m, hm⟩
  obtain ⟨vs, us, he, hrun, hvs⟩ := rets_run hm h
  have hlow : ∀ i, i < k → pm l i = i := by
    intro i hi
    unfold pm
    cases h : lk l i with
    | none => rfl
    | some j => have := hl _ (lk_mem h); simp at this; omega
  have hrv : Rv (ctxOf T0 w0.heap.size m s w) (tupOf vs) (tupV us) := by
    cases hvs with
    | nil => exact .tup _ _ .nil
    | cons x v l us hx ht =>
      cases ht with
      | nil => exact hx
      | cons x' v' l' us' hx' ht' => exact .tup _ _ (.cons _ _ _ _ hx (.cons _ _ _ _ hx' ht'))
  have hren : CtxRen (pm l) (ctxOf T0 w0.heap.size m s w) ⟨w, allow T0 w0.heap.size (fun i => m (pm l i)) rows, fun i => m (pm l i), N⟩ :=
    { m := fun _ _ => rfl,
      t := by
        intro b ⟨h1, h2⟩ _
        refine ⟨⟨h1, fun i it hi e => ?_⟩, rfl⟩
        obtain ⟨_, h3, _⟩ := subOk_mem hr i it (lk_mem hi)
        exact h2 _ _ h3 e }
  refine ⟨_, fun fn hf => results_list hf a.tmps hrun, fun i => m (pm l i), N, hk, fun p hp => ?_, Rv.ren hren out hb (by rw [← he]; exact hrv), fun i it hi => ?_, fun i j it jt b hi hj hbi hbj => ?_⟩
  · have h1 := hH p hp
    refine Rv.ren hren p.1 (below_le hk _ h1) ?_
    rw [ren_low hlow _ h1]; exact hm.held p hp
  · obtain ⟨h1, h2, h3⟩ := subOk_mem hr i it (lk_mem hi)
    exact ⟨h1, ItemOk.ren hren rfl h3 (hm.rows _ _ h2).2⟩
  · obtain ⟨_, h2, _⟩ := subOk_mem hr i it (lk_mem hi)
    obtain ⟨_, h2', _⟩ := subOk_mem hr j jt (lk_mem hj)
    exact subOk_inj hr i j it jt (lk_mem hi) (lk_mem hj) (hm.sep _ _ _ _ b h2 h2' hbi hbj)
theorem RetK.auto {k : Nat} (N : Nat) (hk : k ≤ N) {res : List ResultVar} {out : AV} {rows : List (Nat × Item)} {s : S} (h : rets P s res (fun vs => tupOf vs = ren (pm (fromL k (mkRet s res out rows))) out)) (hb : Fv.below N out = true) (hr : subOk (pm (fromL k (mkRet s res out rows))) s.rows N rows) : RetK P w0 T0 k res out rows s :=
  RetK.of _ N (fromL_ge k _) hk h hb hr

theorem ItemOk.oneCell {c : Ctx} {O : Nat → Prop} {v : Value} {it : Item} (h : ItemOk c O v it) : v.oneCell' = true := by
  cases it with
  | row e r =>
    obtain ⟨n, cells, _, _, ho, _⟩ := h
    rcases ho.2 with ⟨rfl, _⟩ | ⟨g, cap, cur, fz, rfl, _⟩ <;> rfl
  | box e cs => obtain ⟨g, vs, rfl, _⟩ := h; rfl
  | map ks vs => obtain ⟨g, es, clock, rfl, _⟩ := h; rfl
  | iter mp since seen => obtain ⟨g, q, sn, last, rfl, _⟩ := h; rfl

/-- SUCH A CONTRACT, out of the walk over its code. -/
theorem FnIO.of_run {f : Nat} {fn : Func} {c : Code} {args : List AV} {rows0 : List (Nat × Item)} {k : Nat} {out : AV} {rows : List (Nat × Item)} (hf : P.funcs[f]? = some fn) (hb : fn.body = some c)
    (hnm : (fn.name == "runtime.NumGoroutine") = false) (hn : args.length ≤ fn.ntmps) (hcov : ∀ j, j < k → ∃ it, lk rows0 j = some it) (res : List ResultVar) (hres : fn.results = res.toArray)
    (h : ∀ (w0 : World) (T0 : Bs) [GlB P w0 T0], VcRun P w0 T0 k c ⟨fn.ntmps, argEnv 0 args, rows0, k⟩ (PostK P w0 T0 k res out rows)) : FnIO P f args rows0 k out rows := by
  refine ⟨⟨fn, hf, by rw [hb]; rfl, hnm⟩, fun w T g m0 vals hG hgl hgg hv => ?_⟩
  haveI : GlB P w ⟨fun b => T b ∨ g b, g⟩ := ⟨hgl, fun b q hq h => hgg b q hq h.1⟩
  obtain ⟨hrows, hsep, hTg⟩ := hG
  refine calls_of_wp hf hb ?_
  have hlen := hv.length
  have hle : CtxLe (⟨w, T, m0, k⟩ : Ctx) (ctxOf ⟨fun b => T b ∨ g b, g⟩ w.heap.size m0 ⟨fn.ntmps, argEnv 0 args, rows0, k⟩ w) :=
    ⟨Nat.le_refl _, fun _ _ => rfl, fun b hb _ => ⟨⟨.inr (.inl hb), fun i it hi e => hTg b hb ((hrows i it hi).2.blk b e).1⟩, rfl⟩⟩
  have hrep : RepM w ⟨fun b => T b ∨ g b, g⟩ (rows0.map fun p => (.own p.1, m0 p.1)) ⟨fn.ntmps, argEnv 0 args, rows0, k⟩ { tmps := vals.toArray ++ Array.replicate (fn.ntmps - vals.toArray.size) undef, defers := [] } w m0 :=
    { size := by simp; omega, nodef := rfl, below := BelowG.refl _ _,
      env := by
        intro r v hr
        obtain ⟨u, h1, h2⟩ := argEnv_rv 0 [] rfl hv r v hr
        have e : ((vals.toArray ++ Array.replicate (fn.ntmps - vals.toArray.size) undef).getD r undef) = u := by
          have h1' : vals[r]? = some u := by simpa using h1
          have hlt : r < vals.length := (List.getElem?_eq_some_iff.1 h1').1
          rw [Array.getD_eq_getD_getElem?, Array.getElem?_append_left (by simpa using hlt)]
          simp [h1']
        rw [e]; exact h2.mono hle,
      held := by
        intro p hp
        obtain ⟨q, hq, rfl⟩ := List.mem_map.1 hp
        obtain ⟨it, hit⟩ := lk_some hq
        obtain ⟨h1, h2⟩ := hrows _ _ hit
        exact .own q.1 h1 h2.oneCell,
      rows := fun i it hi => ⟨(hrows i it hi).1, (((hrows i it hi).2).mono hle fun _ _ => rfl).own fun b hb => .inr ⟨hb, .inr hb⟩⟩, sep := hsep }
  have hH : HeldB k (rows0.map fun p => (AV.own p.1, m0 p.1)) := by
    intro p hp
    exact (hrep.held p hp).ids
  refine wp_mono (h w _ _ _ w hH ⟨_, hrep⟩) ?_
  rintro e a w' ⟨s', hq, hr⟩
  have fin : RetK P w ⟨fun b => T b ∨ g b, g⟩ k res out rows s' → a.defers = [] ∧ ∃ v, (results fn a.tmps).run P w' = .ok v w' ∧ ∃ v', Ending.returned v = .returned v' ∧ BelowG g w w' ∧ ∃ m N, (∀ i, i < k → m i = m0 i) ∧ k ≤ N ∧
      Rv ⟨w', allow ⟨fun b => T b ∨ g b, g⟩ w.heap.size m rows, m, N⟩ out v' ∧
      (∀ i it, lk rows i = some it → i < N ∧ ItemOk ⟨w', allow ⟨fun b => T b ∨ g b, g⟩ w.heap.size m rows, m, N⟩ (ownB ⟨fun b => T b ∨ g b, g⟩ w.heap.size) (m i) it) ∧
      (∀ i j it jt b, lk rows i = some it → lk rows j = some jt → blk (m i) = some b → blk (m j) = some b → i = j) := by
    intro hret
    obtain ⟨v, hv, m, N, hkN, hheld, hout, hit, hsp⟩ := hret _ a w' hH hr
    obtain ⟨m', hm⟩ := hr
    refine ⟨hm.nodef, v, hv fn hres, v, rfl, hm.below.mono fun b hb => hb.1, m, N, fun i hi => ?_, hkN, hout, hit, hsp⟩
    obtain ⟨it, hi'⟩ := hcov i hi
    have := hheld (.own i, m0 i) (List.mem_map.2 ⟨(i, it), lk_mem hi', rfl⟩)
    generalize hmi : m0 i = mi at this
    cases this
    rfl
  cases e with
  | normal => exact fin hq
  | ret => exact fin hq
  | _ => exact hq.elim
theorem FnIO.of_vc {f : Nat} {fn : Func} {c : Code} {args : List AV} {rows0 : List (Nat × Item)} {k : Nat} {out : AV} {rows : List (Nat × Item)} (hf : P.funcs[f]? = some fn) (hb : fn.body = some c)
    (hnm : (fn.name == "runtime.NumGoroutine") = false) (hn : args.length ≤ fn.ntmps) (hcov : ∀ j, j < k → ∃ it, lk rows0 j = some it) (res : List ResultVar) (hres : fn.results = res.toArray)
    (h : ∀ (w0 : World) (T0 : Bs) [GlB P w0 T0], vcCode P w0 T0 k c (PostK P w0 T0 k res out rows) ⟨fn.ntmps, argEnv 0 args, rows0, k⟩) : FnIO P f args rows0 k out rows :=
  .of_run hf hb hnm hn hcov res hres fun w0 T0 => .of (h w0 T0)

/-! ### The call -/
/-- The caller's name for a given one: the j-th of 'ids'; new names behind all that the caller has. -/
def ioN (ids : List Nat) (next : Nat) (j : Nat) : Nat := match ids[j]? with | some i => i | none => next + (j - ids.length)
def ioRows (p : Nat → Nat) : List (Nat × Item) → List (Nat × Item)
  | [] => []
  | (i, it) :: l => (p i, it.ren p) :: ioRows p l
def delL {α : Type} : List (Nat × α) → List Nat → List (Nat × α)
  | l, [] => l
  | l, i :: is => delL (del l i) is
theorem lk_delL {α : Type} : ∀ (is : List Nat) (l : List (Nat × α)) (j : Nat), lk (delL l is) j = if j ∈ is then none else lk l j
  | [], l, j => by simp [delL]
  | i :: is, l, j => by
    simp only [delL]
    rw [lk_delL is, lk_del]
    by_cases h1 : j ∈ is
    · simp [h1]
    · by_cases h2 : j = i <;> simp [h1, h2]
def S.ioS (s : S) (ids : List Nat) (N : Nat) (rows : List (Nat × Item)) : S := { s with rows := ioRows (ioN ids s.next) rows ++ delL s.rows ids, next := s.next + (N - ids.length) }

theorem lk_ioRows_of {p : Nat → Nat} {S : Nat → Prop} (hp : ∀ i j, S i → S j → p i = p j → i = j) : ∀ {l : List (Nat × Item)}, (∀ x, x ∈ l → S x.1) → ∀ {i : Nat} {it : Item}, lk (ioRows p l) i = some it → ∃ j jt, i = p j ∧ lk l j = some jt ∧ it = jt.ren p
  | (j, jt) :: l, hS, i, it, h => by
    simp only [ioRows, lk] at h
    split at h
    · rename_i e; cases h; exact ⟨j, jt, e.symm, by simp [lk], rfl⟩
    · rename_i e
      obtain ⟨q, qt, h1, h2, h3⟩ := lk_ioRows_of hp (fun x hx => hS x (.tail _ hx)) h
      refine ⟨q, qt, h1, ?_, h3⟩
      simp only [lk]; rw [if_neg (fun e' => e (by rw [h1, e']))]; exact h2
theorem nodup_get : ∀ {l : List Nat} {i j a : Nat}, l.Nodup → l[i]? = some a → l[j]? = some a → i = j := by
  intro l i j a hd hi hj
  exact (List.getElem?_inj (List.getElem?_eq_some_iff.1 hi).1 hd).1 (hi.trans hj.symm)

/-- What is given of the caller's memory. -/
def ioG (ids : List Nat) (next : Nat) (rows0 : List (Nat × Item)) (m : Nat → Value) (b : Nat) : Prop := ∃ j it, lk rows0 j = some it ∧ blk (m (ioN ids next j)) = some b
/-- Where such a call ends. -/
def IoPost (w : World) (T g : Nat → Prop) (m0 : Nat → Value) (k : Nat) (out : AV) (rows : List (Nat × Item)) (e : Ending) (w' : World) : Prop :=
  ∃ v, e = .returned v ∧ BelowG g w w' ∧ ∃ m N, (∀ i, i < k → m i = m0 i) ∧ k ≤ N ∧
      Rv ⟨w', allow ⟨fun b => T b ∨ g b, g⟩ w.heap.size m rows, m, N⟩ out v ∧
      (∀ i it, lk rows i = some it → i < N ∧ ItemOk ⟨w', allow ⟨fun b => T b ∨ g b, g⟩ w.heap.size m rows, m, N⟩ (ownB ⟨fun b => T b ∨ g b, g⟩ w.heap.size) (m i) it) ∧
      (∀ i j it jt b, lk rows i = some it → lk rows j = some jt → blk (m i) = some b → blk (m j) = some b → i = j)
theorem VcCall.ioCore [hgb : GlB P w0 T0] {f : Nat} {args : List AV} {rows0 : List (Nat × Item)} {out : AV} {rows : List (Nat × Item)} {s : S} {K : AV → S → Prop} (ids : List Nat) (hE : Enter P f) (hd : ids.Nodup)
    (hcall : ∀ (H : List (AV × Value)) (a : Act) (w : World) (m : Nat → Value) (vals : List Value), RepM w0 T0 H s a w m → RvT (ctxOf T0 w0.heap.size m s w) args vals →
      GivenOk w (allow T0 w0.heap.size m s.rows) (ioG ids s.next rows0 m) (fun j => m (ioN ids s.next j)) ids.length rows0 → (∀ (b : Nat) (q : IntKind), intGl P b = some q → ¬ ioG ids s.next rows0 m b) →
      Calls P f vals.toArray w (IoPost w (allow T0 w0.heap.size m s.rows) (ioG ids s.next rows0 m) (fun j => m (ioN ids s.next j)) ids.length out rows))
    (h0 : subOk (ioN ids s.next) s.rows ids.length rows0) (hcov : ∀ j, j < ids.length → ∃ it, lk rows0 j = some it) (N : Nat) (hkN : ids.length ≤ N) (hN : Fv.below N out = true) (hNr : rowsB N rows)
    (hk : K (ren (ioN ids s.next) out) (s.ioS ids N rows)) : @VcCall P w0 T0 f args s ⟨K⟩ := by
  refine ⟨hE, fun H a w m vals hm hv => ?_⟩
  have hp1 : ∀ j, j < ids.length → ∃ i, ids[j]? = some i ∧ ioN ids s.next j = i := fun j hj => ⟨ids[j], List.getElem?_eq_getElem hj, by simp [ioN, List.getElem?_eq_getElem hj]⟩
  have hp2 : ∀ j, ids.length ≤ j → ioN ids s.next j = s.next + (j - ids.length) := fun j hj => by simp [ioN, List.getElem?_eq_none hj]
  have h0' : ∀ j it, lk rows0 j = some it → j < ids.length ∧ lk s.rows (ioN ids s.next j) = some (it.ren (ioN ids s.next)) ∧ it.below ids.length = true := fun j it hj => subOk_mem h0 j it (lk_mem hj)
  have hmem : ∀ i, i ∈ ids → ∃ j it, j < ids.length ∧ ioN ids s.next j = i ∧ lk rows0 j = some it := by
    intro i hi
    obtain ⟨j, hj, e⟩ := List.getElem_of_mem hi
    obtain ⟨it, hit⟩ := hcov j hj
    exact ⟨j, it, hj, by simp [ioN, List.getElem?_eq_getElem hj, e], hit⟩
  have hsrc : ∀ j, j < ids.length → ioN ids s.next j < s.next := fun j hj => by
    obtain ⟨it, hit⟩ := hcov j hj
    exact (hm.rows _ _ (h0' j it hit).2.1).1
  have hinj : ∀ i j, ioN ids s.next i = ioN ids s.next j → i = j := by
    intro i j e
    by_cases hi : i < ids.length <;> by_cases hj : j < ids.length
    · obtain ⟨x, hx, ex⟩ := hp1 i hi
      obtain ⟨y, hy, ey⟩ := hp1 j hj
      rw [ex, ey] at e; subst e
      exact nodup_get hd hx hy
    · have := hsrc i hi; rw [e, hp2 j (by omega)] at this; omega
    · have := hsrc j hj; rw [← e, hp2 i (by omega)] at this; omega
    · rw [hp2 i (by omega), hp2 j (by omega)] at e; omega
  let T : Nat → Prop := allow T0 w0.heap.size m s.rows
  let g : Nat → Prop := fun b => ∃ j it, lk rows0 j = some it ∧ blk (m (ioN ids s.next j)) = some b
  let m0 : Nat → Value := fun j => m (ioN ids s.next j)
  have hctx : CtxRen (ioN ids s.next) (ctxOf T0 w0.heap.size m s w) ⟨w, T, m0, ids.length⟩ := ⟨fun _ _ => rfl, fun b hb _ => ⟨hb, rfl⟩⟩
  have hown : ∀ i it, lk s.rows i = some it → ∀ b, blk (m i) = some b → ownB T0 w0.heap.size b ∧ b < w.heap.size := fun i it hi b hb => (hm.rows i it hi).2.blk b hb
  have hG : GivenOk w T g m0 ids.length rows0 := by
    refine ⟨fun j it hj => ?_, fun i j it jt b hi hj hbi hbj => ?_, fun b hb hg => ?_⟩
    · obtain ⟨h1, h2, h3⟩ := h0' j it hj
      refine ⟨h1, (ItemOk.ren hctx rfl h3 (hm.rows _ _ h2).2).blkOwn fun b hb => ⟨j, it, hj, hb⟩⟩
    · obtain ⟨_, h2, _⟩ := h0' i it hi
      obtain ⟨_, h2', _⟩ := h0' j jt hj
      exact hinj i j (hm.sep _ _ _ _ b h2 h2' hbi hbj)
    · obtain ⟨j, it, hj, hbj⟩ := hg
      exact hb.2 _ _ (h0' j it hj).2.1 hbj
  have hgg : ∀ (b : Nat) (q : IntKind), intGl P b = some q → ¬ g b := by
    rintro b q hq ⟨j, it, hj, hb⟩
    obtain ⟨n, t, _, hh⟩ := hgb.ok b q hq
    have hlt := (Array.getElem?_eq_some_iff.1 hh).1
    rcases (hown _ _ (h0' j it hj).2.1 b hb).1 with h | h
    · omega
    · exact hgb.ng b q hq h
  refine (hcall H a w m vals hm hv hG hgg).mono ?_
  rintro e w' ⟨v, rfl, hbel, mo, No, hmo, hkNo, hout, hrows, hsep⟩
  refine ⟨v, rfl, _, _, hk, ?_⟩
  have hgs : ∀ b, g b → (∃ i it, lk s.rows i = some it ∧ blk (m i) = some b) := fun b ⟨j, it, hj, hb⟩ => ⟨_, _, (h0' j it hj).2.1, hb⟩
  have hNr' := rowsB_lk hNr
  have hitem : ∀ i it, lk rows i = some it → ItemOk ⟨w', allow ⟨fun b => T b ∨ g b, g⟩ w.heap.size mo rows, mo, N⟩ (ownB ⟨fun b => T b ∨ g b, g⟩ w.heap.size) (mo i) it := fun i it hi => ((hrows i it hi).2).cut (hNr' i it hi).2
  let m2 : Nat → Value := fun i => if i < s.next then m i else mo (ids.length + (i - s.next))
  have hm2 : ∀ i, i < s.next → m2 i = m i := fun i hi => if_pos hi
  have hm3 : ∀ j, m2 (ioN ids s.next j) = mo j := fun j => by
    by_cases hj : j < ids.length
    · rw [hm2 _ (hsrc j hj)]; exact (hmo j hj).symm
    · rw [hp2 j (by omega)]
      show (if s.next + (j - ids.length) < s.next then _ else _) = _
      rw [if_neg (by omega)]; congr 1; omega
  have hlt : ∀ i it, lk s.rows i = some it → i < s.next := fun i it hi => (hm.rows i it hi).1
  have hrest : ∀ i it, lk (delL s.rows ids) i = some it → i ∉ ids ∧ lk s.rows i = some it := by
    intro i it hi
    rw [lk_delL] at hi
    split at hi
    · cases hi
    · rename_i e; exact ⟨e, hi⟩
  have hcases : ∀ i it, lk (s.ioS ids N rows).rows i = some it → (∃ j jt, i = ioN ids s.next j ∧ lk rows j = some jt ∧ it = jt.ren (ioN ids s.next)) ∨ (i ∉ ids ∧ lk s.rows i = some it) := by
    intro i it hi
    have hi' : lk (ioRows (ioN ids s.next) rows ++ delL s.rows ids) i = some it := hi
    rw [lk_append] at hi'
    cases hq : lk (ioRows (ioN ids s.next) rows) i with
    | some y =>
      rw [hq] at hi'; cases hi'
      exact .inl (lk_ioRows_of (S := fun _ => True) (fun i j _ _ e => hinj i j e) (fun _ _ => trivial) hq)
    | none => rw [hq] at hi'; exact .inr (hrest i it hi')
  have hnotg : ∀ i it, i ∉ ids → lk s.rows i = some it → ∀ b, blk (m i) = some b → ¬ g b := by
    rintro i it hni hi b hb ⟨j, jt, hj, hbj⟩
    obtain ⟨h1, h2, _⟩ := h0' j jt hj
    have := hm.sep _ _ _ _ b hi h2 hb hbj
    obtain ⟨x, hx, ex⟩ := hp1 j h1
    exact hni (by rw [this, ex]; exact List.mem_of_getElem? hx)
  have hnewB : ∀ j jt, lk rows j = some jt → ∀ b, blk (mo j) = some b → w.heap.size ≤ b ∨ g b := fun j jt hj b hbl => (((hrows j jt hj).2.blk b hbl).1).imp id (·.1)
  have hle : CtxLe (ctxOf T0 w0.heap.size m s w) (ctxOf T0 w0.heap.size m2 (s.ioS ids N rows) w') := by
    refine ⟨Nat.le_add_right _ _, hm2, ?_⟩
    intro b hb hltb
    have hbg : ¬ g b := fun hg => by
      obtain ⟨i, it, hi, hbi⟩ := hgs b hg
      exact hb.2 i it hi hbi
    refine ⟨⟨hb.1, fun i it hi e => ?_⟩, hbel.block b hltb hbg⟩
    rcases hcases i it hi with ⟨j, jt, rfl, hj, _⟩ | ⟨hni, hi'⟩
    · rw [hm3] at e
      rcases hnewB j jt hj b e with h | h
      · have hlt2 : b < w.heap.size := hltb; omega
      · exact hbg h
    · rw [hm2 i (hlt i it hi')] at e; exact hb.2 i it hi' e
  have hsh : CtxSh (ioN ids s.next) (⟨w', allow ⟨fun b => T b ∨ g b, g⟩ w.heap.size mo rows, mo, N⟩ : Ctx) (ctxOf T0 w0.heap.size m2 (s.ioS ids N rows) w') := by
    refine ⟨fun i hi => ?_, fun i _ => hm3 i, ?_⟩
    · show ioN ids s.next i < s.next + (N - ids.length)
      by_cases hj : i < ids.length
      · have := hsrc i hj; omega
      · rw [hp2 i (by omega)]; have : i < N := hi; omega
    intro b ⟨h1, h2⟩ _
    have hlt0 := hm.lt
    have hb1 : w0.heap.size ≤ b ∨ T0.a b := by
      rcases h1 with h1 | h1 | h1
      · exact .inl (by omega)
      · exact h1.1
      · obtain ⟨i, it, hi, hbi⟩ := hgs b h1
        exact ((hown i it hi b hbi).1).imp id (·.2)
    refine ⟨⟨hb1, fun i it hi e => ?_⟩, rfl⟩
    rcases hcases i it hi with ⟨j, jt, rfl, hj, _⟩ | ⟨hni, hi'⟩
    · rw [hm3] at e; exact h2 j jt hj e
    · rw [hm2 i (hlt i it hi')] at e
      rcases h1 with h1 | h1 | h1
      · have := (hown i it hi' b e).2; omega
      · exact h1.2 i it hi' e
      · exact hnotg i it hni hi' b e h1
  have hOO : ∀ b, ownB ⟨fun b => T b ∨ g b, g⟩ w.heap.size b → ownB T0 w0.heap.size b := fun b hb => by
    rcases hb with hb | hb
    · exact .inl (Nat.le_trans hm.lt hb)
    · obtain ⟨i, it, hi, hbi⟩ := hgs b hb.1
      exact (hown i it hi b hbi).1
  refine ⟨m2, RepM.hold (s := s.ioS ids N rows) ?_ ((hout.cut hN).shift hsh)⟩
  refine { size := hm.size, nodef := hm.nodef, below := ?_, env := fun r u hu => (hm.env r u hu).mono hle, held := fun q hq => (hm.held q hq).mono hle, rows := ?_, sep := ?_ }
  · refine hm.below.step hbel.os hbel.tape hbel.output hbel.size (fun b hb hn => hbel.block b (Nat.lt_of_lt_of_le hb hm.lt) fun hg => ?_) hbel.drawn
    obtain ⟨i, it, hi, hbi⟩ := hgs b hg
    rcases (hown i it hi b hbi).1 with h | h
    · omega
    · exact hn h
  · intro i it hi
    rcases hcases i it hi with ⟨j, jt, rfl, hj, rfl⟩ | ⟨hni, hi'⟩
    · refine ⟨hsh.n j (hNr' j jt hj).1, ?_⟩
      rw [hm3]
      exact (hitem j jt hj).shift hsh rfl hOO
    · have hl := hlt i it hi'
      refine ⟨by show i < s.next + _; omega, ?_⟩
      rw [hm2 i hl]
      exact ((hm.rows i it hi').2).mono hle fun b hbl => hbel.block b ((hown i it hi' b hbl).2) (hnotg i it hni hi' b hbl)
  · intro i j it jt b hi hj hbi hbj
    rcases hcases i it hi with ⟨i', it', rfl, hi', _⟩ | ⟨hni, hi'⟩ <;> rcases hcases j jt hj with ⟨j', jt', rfl, hj', _⟩ | ⟨hnj, hj'⟩
    · rw [hm3] at hbi hbj
      rw [hsep i' j' it' jt' b hi' hj' hbi hbj]
    · rw [hm3] at hbi; rw [hm2 j (hlt j jt hj')] at hbj
      have h5 := (hown j jt hj' b hbj).2
      rcases hnewB i' it' hi' b hbi with h | h
      · omega
      · exact absurd h (hnotg j jt hnj hj' b hbj)
    · rw [hm3] at hbj; rw [hm2 i (hlt i it hi')] at hbi
      have h5 := (hown i it hi' b hbi).2
      rcases hnewB j' jt' hj' b hbj with h | h
      · omega
      · exact absurd h (hnotg i it hni hi' b hbi)
    · rw [hm2 i (hlt i it hi')] at hbi; rw [hm2 j (hlt j jt hj')] at hbj
      exact hm.sep i j it jt b hi' hj' hbi hbj
/-- A CALL BY SUCH A CONTRACT: 'ids': what is given. -/
theorem VcCall.io [hgb : GlB P w0 T0] {f : Nat} {args args' : List AV} {rows0 : List (Nat × Item)} {out : AV} {rows : List (Nat × Item)} {s : S} {K : AV → S → Prop} (ids : List Nat) (h : FnIO P f args' rows0 ids.length out rows) (hd : ids.Nodup)
    (ha : args = renL (ioN ids s.next) args') (hab : belowL ids.length args' = true) (h0 : subOk (ioN ids s.next) s.rows ids.length rows0) (hcov : ∀ j, j < ids.length → ∃ it, lk rows0 j = some it) (N : Nat) (hkN : ids.length ≤ N) (hN : Fv.below N out = true) (hNr : rowsB N rows)
    (hk : K (ren (ioN ids s.next) out) (s.ioS ids N rows)) : @VcCall P w0 T0 f args s ⟨K⟩ := by
  subst ha
  exact VcCall.ioCore ids h.1 hd (fun H a w m vals hm hv hG hgg => by
    have hctx : CtxRen (ioN ids s.next) (ctxOf T0 w0.heap.size m s w) ⟨w, allow T0 w0.heap.size m s.rows, fun j => m (ioN ids s.next j), ids.length⟩ := ⟨fun _ _ => rfl, fun b hb _ => ⟨hb, rfl⟩⟩
    exact h.2 w _ _ _ vals hG (GlB.at hm) hgg (RvT.ren hctx args' hab hv)) h0 hcov N hkN hN hNr hk

/-- How an argument is handed on: given, or lent to be read. -/
def IoArg (ids : List Nat) (s : S) (x y : AV) : Prop := (x = ren (ioN ids s.next) y ∧ Fv.below ids.length y = true) ∨ argOkN (delL s.rows ids) 6 x y
theorem ItemOk.anyT {w : World} {T T' : Nat → Prop} {m : Nat → Value} {N : Nat} {O : Nat → Prop} {v : Value} {it : Item} (ho : ItemOk ⟨w, T, m, N⟩ O v it) (hn : noRoItem it = true) : ItemOk ⟨w, T', m, N⟩ O v it := by
  cases it with
  | row e r => obtain ⟨n, cells, hc, hq⟩ := ho; exact ⟨n, cells, hc.anyT hn, hq⟩
  | box e cs => obtain ⟨g, vs, hv', hg, hl, hq⟩ := ho; exact ⟨g, vs, hv', hg, hl.anyT hn, hq⟩
  | map ks vs =>
    simp only [noRoItem, Bool.and_eq_true] at hn
    obtain ⟨g, es, clock, hv', hg, h1, h2, h3, h4, hq⟩ := ho; exact ⟨g, es, clock, hv', hg, h1.anyT hn.1, h2.anyT hn.2, h3, h4, hq⟩
  | iter mp since seen => exact ho
/-- The same call, where other arguments are lent; the results hold nothing that is read only. -/
theorem VcCall.ioL [hgb : GlB P w0 T0] {f : Nat} {args args' : List AV} {rows0 : List (Nat × Item)} {out : AV} {rows : List (Nat × Item)} {s : S} {K : AV → S → Prop} (ids : List Nat) (h : FnIO P f args' rows0 ids.length out rows) (hno : noRo out = true) (hnr : noRoRows rows = true) (hd : ids.Nodup)
    (ha : allOk (IoArg ids s) args args') (h0 : subOk (ioN ids s.next) s.rows ids.length rows0) (hcov : ∀ j, j < ids.length → ∃ it, lk rows0 j = some it) (N : Nat) (hkN : ids.length ≤ N) (hN : Fv.below N out = true) (hNr : rowsB N rows)
    (hk : K (ren (ioN ids s.next) out) (s.ioS ids N rows)) : @VcCall P w0 T0 f args s ⟨K⟩ := by
  refine VcCall.ioCore ids h.1 hd (fun H a w m vals hm hv hG hgg => ?_) h0 hcov N hkN hN hNr hk
  let T' : Nat → Prop := fun b => allow T0 w0.heap.size m s.rows b ∨ ∃ i it, i ∉ ids ∧ lk s.rows i = some it ∧ blk (m i) = some b
  have hrest : ∀ i it, lk (delL s.rows ids) i = some it → i ∉ ids ∧ lk s.rows i = some it := by
    intro i it hi
    rw [lk_delL] at hi
    split at hi
    · cases hi
    · rename_i e; exact ⟨e, hi⟩
  have hmemid : ∀ j it, lk rows0 j = some it → ioN ids s.next j ∈ ids := fun j it hj => by
    have h1 := (subOk_mem h0 j it (lk_mem hj)).1
    have : ioN ids s.next j = ids[j] := by simp [ioN, List.getElem?_eq_getElem h1]
    rw [this]; exact List.getElem_mem h1
  have hT' : ∀ b, T' b → ¬ ioG ids s.next rows0 m b := by
    rintro b (hb | ⟨i, it, hni, hi, hbi⟩) hg
    · exact hG.2.2 b hb hg
    · obtain ⟨j, jt, hj, hbj⟩ := hg
      have := hm.sep i _ _ _ b hi (subOk_mem h0 j jt (lk_mem hj)).2.1 hbi hbj
      exact hni (this ▸ hmemid j jt hj)
  have hleT : CtxLe (⟨w, allow T0 w0.heap.size m s.rows, fun j => m (ioN ids s.next j), ids.length⟩ : Ctx) ⟨w, T', fun j => m (ioN ids s.next j), ids.length⟩ := ⟨Nat.le_refl _, fun _ _ => rfl, fun b hb _ => ⟨.inl hb, rfl⟩⟩
  have hG' : GivenOk w T' (ioG ids s.next rows0 m) (fun j => m (ioN ids s.next j)) ids.length rows0 :=
    ⟨fun i it hi => ⟨(hG.1 i it hi).1, ((hG.1 i it hi).2).mono hleT fun _ _ => rfl⟩, hG.2.1, hT'⟩
  have hl : Lend w (ctxOf T0 w0.heap.size m s w) (delL s.rows ids) T' :=
    { hw := rfl, t := fun b hb => .inl hb,
      own := fun i e r hi => by
        obtain ⟨h1, h2⟩ := hrest i _ hi
        obtain ⟨n, cells, hc, hn, ho, hO⟩ := (hm.rows i _ h2).2
        exact ⟨fun b hb => .inr ⟨i, _, h1, h2, hb⟩, n, cells, hc, hn, ho⟩,
      box := fun i e cs hi => by
        obtain ⟨h1, h2⟩ := hrest i _ hi
        obtain ⟨g, vs, hv, hg, hl, hh⟩ := (hm.rows i _ h2).2
        exact ⟨g, vs, hv, .inr ⟨i, _, h1, h2, by rw [hv]; rfl⟩, hl, hh⟩,
      map := fun i ks vs hi => by
        obtain ⟨h1, h2⟩ := hrest i _ hi
        obtain ⟨g, es, clock, hv, hg, k1, k2, k3, k4, hh⟩ := (hm.rows i _ h2).2
        exact ⟨g, es, clock, hv, .inr ⟨i, _, h1, h2, by rw [hv]; rfl⟩, k1, k2, k3, k4, hh⟩ }
  have hctx : CtxRen (ioN ids s.next) (ctxOf T0 w0.heap.size m s w) ⟨w, T', fun j => m (ioN ids s.next j), ids.length⟩ := ⟨fun _ _ => rfl, fun b hb _ => ⟨.inl hb, rfl⟩⟩
  have hle0 : CtxLe (⟨w, T', fun _ => undef, 0⟩ : Ctx) ⟨w, T', fun j => m (ioN ids s.next j), ids.length⟩ := ⟨Nat.zero_le _, fun i hi => absurd hi (Nat.not_lt_zero _), fun b hb _ => ⟨hb, rfl⟩⟩
  have hargs : ∀ (xs ys : List AV) (us : List Value), allOk (IoArg ids s) xs ys → RvT (ctxOf T0 w0.heap.size m s w) xs us → RvT ⟨w, T', fun j => m (ioN ids s.next j), ids.length⟩ ys us := by
    intro xs
    induction xs with
    | nil => intro ys us hxy hr; simp only [allOk] at hxy; subst hxy; cases hr; exact .nil
    | cons x xs ih =>
      intro ys us hxy hr
      simp only [allOk] at hxy
      obtain ⟨y, r, h1, h2, rfl⟩ := hxy
      cases hr with
      | cons _ v _ vs hv ht =>
        refine .cons _ _ _ _ ?_ (ih _ _ h2 ht)
        rcases h1 with ⟨rfl, hb⟩ | h1
        · exact Rv.ren hctx y hb hv
        · exact (argOkN_rv hl 6 x h1 hv).mono hle0
  refine (h.2 w T' _ _ vals hG' (GlB.at hm) hgg (hargs _ _ _ ha hv)).mono ?_
  rintro e w' ⟨v, rfl, hbel, mo, No, hmo, hkNo, hout, hrows, hsep⟩
  exact ⟨v, rfl, hbel, mo, No, hmo, hkNo, hout.anyT hno, fun i it hi => ⟨(hrows i it hi).1, (((hrows i it hi).2).anyT (noRoRows_mem hnr hi)).own fun b hb => hb.imp id fun h => ⟨h.1, .inr h.1⟩⟩, hsep⟩
end
end Go.Fv

/-
  The library's sort of a row of ints or of strings, by the shelf's contracts, as a contract that writes the caller's memory.
-/
namespace Go.Fv
set_option linter.unusedSectionVars false
set_option linter.unusedVariables false
set_option linter.unusedSimpArgs false
open Go.RowKit Go.Sort Go.Proofs Go.Shelf

theorem sorted_heap {α : Type} [Inhabited α] (enc : α → Value) (w : World) (n g : Nat) (d : Array α) (os : Array Obj) {cur : Array Value} {e : TypeId} {fz : Nat × Nat} (hh : w.heap[g]? = some (.cells cur e fz)) :
    (grow (putRow enc (Sort.ahead w n) g 0 d) os).heap[g]? = some (.cells (putCells enc 0 d cur) e fz) := by
  have hlt : g < w.heap.size := (Array.getElem?_eq_some_iff.1 hh).1
  show ((w.heap.modify g (onCells (putCells enc 0 d))) ++ os)[g]? = _
  rw [Array.getElem?_append_left (by simpa using hlt), Array.getElem?_modify, if_pos rfl, hh]
  rfl
theorem sorted_other {α : Type} [Inhabited α] (enc : α → Value) (w : World) (n g : Nat) (d : Array α) (os : Array Obj) {k : Nat} (hk : k < w.heap.size) (hne : ¬ g = k) :
    (grow (putRow enc (Sort.ahead w n) g 0 d) os).heap[k]? = w.heap[k]? := by
  show ((w.heap.modify g (onCells (putCells enc 0 d))) ++ os)[k]? = _
  rw [Array.getElem?_append_left (by simpa using hk), Array.getElem?_modify, if_neg hne]
theorem putCells_size {α : Type} [Inhabited α] (enc : α → Value) (d : Array α) (c : Array Value) : (putCells enc 0 d c).size = c.size := by simp [putCells]
theorem putCells_take {α : Type} [Inhabited α] (enc : α → Value) (l : List α) (c : Array Value) (n : Nat) (hn : l.length = n) (hc : n ≤ c.size) : (putCells enc 0 l.toArray c).toList.take n = l.map enc := by
  apply List.ext_getElem?
  intro j
  by_cases hj : j < n
  · rw [List.getElem?_take_of_lt hj, List.getElem?_map]
    have h1 : j < c.size := by omega
    have h2 : j < l.length := by omega
    have h3 : (putCells enc 0 l.toArray c)[j]? = some (enc l.toArray[j]!) := by
      simp only [putCells, Array.getElem?_mapIdx, Array.getElem?_eq_getElem h1, Option.map_some]
      rw [if_pos ⟨Nat.zero_le _, by simpa using h2⟩, Nat.sub_zero]
    rw [Array.getElem?_toList, h3]
    simp [h2]
  · rw [List.getElem?_eq_none (by simp; omega), List.getElem?_eq_none (by simp; omega)]

section
variable {P : Program}
/-- One row is given and turned in its place. -/
theorem FnIO.place {α : Type} [Inhabited α] (enc : α → Value) {f : Nat} (hE : Enter P f) (e : TypeId) (r r' : RowV) (l l' : List α) (hll : l'.length = l.length)
    (hr1 : r.sz = 1) (hr2 : r'.sz = 1) (hrl : r.len = l.length) (hrl' : r'.len = l.length)
    (hdown : ∀ c cells, RowC c r cells → cells = l.map enc) (hup : ∀ c c' cells, RowC c r cells → RowC c' r' (l'.map enc))
    (hrun : ∀ (w : World) (g cap : Nat), Holds enc w g 0 l.toArray → g < w.heap.size → Calls P f #[.slice (some ⟨g, 0, none⟩) l.length cap] w fun x w' => x = .returned (.tuple #[]) ∧ ∃ n os, w' = grow (putRow enc (Sort.ahead w n) g 0 l'.toArray) os)
    (hnone : ∀ (w : World) (p : Option Addr) (cap : Nat), Calls P f #[.slice p 0 cap] w fun x w' => x = .returned (.tuple #[]) ∧ w' = w) :
    FnIO P f [.own 0] [(0, .row e r)] 1 (.tup []) [(0, .row e r')] := by
  refine ⟨hE, fun w T g m0 vals ⟨hrow, _, hd⟩ hgl hng hv => ?_⟩
  obtain ⟨_, n, cells, hr, hn, ⟨hlen, hcase⟩, hO⟩ := hrow 0 _ rfl
  have hcells := hdown _ _ hr
  subst hcells
  rw [hrl] at hn
  subst hn
  cases hv with
  | cons _ v0 _ vs h0 hvs =>
  cases hvs
  cases h0 with
  | own _ hi h1 =>
  rw [hr1] at hcase
  have none_case : l.length = 0 → ∀ p cap, m0 0 = .slice p 0 cap → Calls P f [m0 0].toArray w fun e_1 w' => ∃ v, e_1 = .returned v ∧ BelowG g w w' ∧ ∃ m N, (∀ i, i < 1 → m i = m0 i) ∧ 1 ≤ N ∧
      Rv ⟨w', allow ⟨fun b => T b ∨ g b, g⟩ w.heap.size m [(0, .row e r')], m, N⟩ (.tup []) v ∧
      (∀ i it, lk [(0, Item.row e r')] i = some it → i < N ∧ ItemOk ⟨w', allow ⟨fun b => T b ∨ g b, g⟩ w.heap.size m [(0, .row e r')], m, N⟩ (ownB ⟨fun b => T b ∨ g b, g⟩ w.heap.size) (m i) it) ∧
      (∀ i j it jt b, lk [(0, Item.row e r')] i = some it → lk [(0, Item.row e r')] j = some jt → blk (m i) = some b → blk (m j) = some b → i = j) := by
    intro h00 p cap hm
    rw [show [m0 0].toArray = #[m0 0] from rfl, hm]
    refine (hnone w p cap).mono ?_
    rintro x w' ⟨rfl, rfl⟩
    have hl'0 : l' = [] := List.eq_nil_of_length_eq_zero (by omega)
    refine ⟨_, rfl, BelowG.refl _ _, m0, 1, fun _ _ => rfl, Nat.le_refl _, .tup [] [] .nil, ?_, ?_⟩
    · intro i it hi
      have hi0 : i = 0 := by
        simp only [lk] at hi
        split at hi
        · rename_i h; exact h.symm
        · cases hi
      subst hi0
      have : it = Item.row e r' := by simp [lk] at hi; exact hi.symm
      subst this
      have hr' := hup _ ⟨w', allow ⟨fun b => T b ∨ g b, g⟩ w'.heap.size m0 [(0, .row e r')], m0, 1⟩ _ hr
      rw [hl'0] at hr'
      refine ⟨by omega, 0, [], hr', by omega, ?_, fun b hb => .inr ⟨hO b hb, .inr (hO b hb)⟩⟩
      rcases hcase with ⟨hv, _⟩ | ⟨g0, cap', cur, fz, hv, hMk, hh, hnc, hcm, hcs, htk⟩
      · exact ⟨by simp, .inl ⟨hv, rfl⟩⟩
      · refine ⟨by simp, .inr ⟨g0, cap', cur, fz, by rw [hv, h00], hMk, hh, by omega, hcm, by rw [hcs, hr2], by simp⟩⟩
    · intro i j it jt b hi hj _ _
      have aux : ∀ q x, lk [(0, Item.row e r')] q = some x → q = 0 := by
        intro q x hq
        simp only [lk] at hq
        split at hq
        · rename_i h; exact h.symm
        · cases hq
      rw [aux i it hi, aux j jt hj]
  rcases hcase with ⟨hv, h00⟩ | ⟨g0, cap, cur, fz, hv, hMk, hh, hnc, hcm, hcs, htk⟩
  · exact none_case h00 _ _ hv
  · by_cases h00 : l.length = 0
    · exact none_case h00 _ cap (by rw [hv, h00])
    rw [Nat.mul_one] at hcs htk
    have hlt : g0 < w.heap.size := (Array.getElem?_eq_some_iff.1 hh).1
    have hcell : ∀ j, j < l.length → cur[j]? = some (enc l.toArray[j]!) := by
      intro j hj
      have h1 : (cur.toList.take l.length)[j]? = (l.map enc)[j]? := by rw [htk]
      rw [List.getElem?_take_of_lt hj, List.getElem?_map, Array.getElem?_toList] at h1
      rw [h1]; simp [hj]
    have hH : Holds enc w g0 0 l.toArray := by
      intro j hj
      have hj' : j < l.length := by simpa using hj
      constructor
      · simp [World.cell?, hh, hcell j hj']
      · simp only [World.frozen?, hh]
        rcases hMk with rfl | hMk
        · simp
        · obtain ⟨lo, hi⟩ := fz
          have : cur.size ≤ lo := hMk
          simp; omega
    rw [show [m0 0].toArray = #[m0 0] from rfl, hv]
    refine (hrun w g0 cap hH hlt).mono ?_
    rintro x w' ⟨rfl, nn, os, rfl⟩
    have hgO := hO g0 (by rw [hv]; rfl)
    have hnh := sorted_heap enc w nn g0 l'.toArray os hh
    refine ⟨_, rfl, ⟨rfl, rfl, rfl, by simp, Nat.le_add_right _ _, fun k hk hng' => sorted_other enc w nn g0 _ os hk fun e => hng' (e ▸ hgO)⟩, m0, 1, fun _ _ => rfl, Nat.le_refl _, .tup [] [] .nil, ?_, ?_⟩
    · intro i it hi
      have hi0 : i = 0 := by
        simp only [lk] at hi
        split at hi
        · rename_i h; exact h.symm
        · cases hi
      subst hi0
      have : it = Item.row e r' := by simp [lk] at hi; exact hi.symm
      subst this
      have hr' := hup _ ⟨grow (putRow enc (Sort.ahead w nn) g0 0 l'.toArray) os, allow ⟨fun b => T b ∨ g b, g⟩ w.heap.size m0 [(0, .row e r')], m0, 1⟩ _ hr
      refine ⟨by omega, l.length, l'.map enc, hr', hrl', ?_, fun b hb => .inr ⟨hO b hb, .inr (hO b hb)⟩⟩
      rw [hr2]
      refine ⟨by simp [hll], .inr ⟨g0, cap, _, fz, hv, by rw [putCells_size]; exact hMk, hnh, hnc, hcm, by rw [putCells_size, hcs, Nat.mul_one], ?_⟩⟩
      rw [Nat.mul_one]
      exact putCells_take enc l' cur _ hll (by omega)
    · intro i j it jt b hi hj _ _
      have aux : ∀ q x, lk [(0, Item.row e r')] q = some x → q = 0 := by
        intro q x hq
        simp only [lk] at hq
        split at hq
        · rename_i h; exact h.symm
        · cases hq
      rw [aux i it hi, aux j jt hj]

def sortS (l : List (List UInt8)) : List (List UInt8) := l.mergeSort fun x y => decide (x ≤ y)
theorem sortStrs_io {ρ : Ren} (L : SlLaysM.n6 P ρ) (hE : Enter P (ρ.f 6)) (e : TypeId) (l : List (List UInt8)) (hl : l.length < 4611686018427387904) :
    FnIO P (ρ.f 6) [.own 0] [(0, .row e (.strs l))] 1 (.tup []) [(0, .row e (.strs (sortS l)))] := by
  refine FnIO.place encStr hE e _ _ l (sortS l) (List.length_mergeSort _) rfl rfl rfl (List.length_mergeSort _) (fun c cells h => by cases h; rfl) (fun c c' cells h => ?_) (fun w g cap hH hb => ?_) (fun w p cap => AnyM.slices_Sort_string_none L p cap w)
  · cases h with
    | strs _ hx => exact .strs _ fun x hm => hx x ((List.mergeSort_perm l _).mem_iff.1 hm)
  · exact AnyM.slices_Sort_string L g 0 cap l w hH hb hl
end
end Go.Fv

/-
  The library's sort by a comparison (slices.SortFunc), by the shelf's contracts, as a contract that writes the caller's memory.
-/
namespace Go.Fv
set_option linter.unusedSectionVars false
set_option linter.unusedVariables false
set_option linter.unusedSimpArgs false
open Go.RowKit Go.Sort Go.Proofs Go.Shelf

section
variable {P : Program}
/-- One row is given and turned in its place; a function value is handed along. -/
theorem FnIO.placeF {β : Type} [Inhabited β] (enc : β → Value) {f : Nat} (hE : Enter P f) (e : TypeId) (r r' : RowV) (l l' : List β) (g : Nat) (caps : List AV) (hcn : noIdL caps = true) (n : Nat) (hll : l'.length = l.length)
    (hs : r'.sz = r.sz) (hrl : r.len = n) (hrl' : r'.len = n) (hln : l.length = n * r.sz)
    (hdown : ∀ c cells, RowC c r cells → cells = l.map enc) (hup : ∀ c c' cells, RowC c r cells → RowC c' r' (l'.map enc))
    (hrun : ∀ (w : World) (T : Nat → Prop) (gb cap : Nat) (cb : List Value), GlOk P w → (∀ b q, intGl P b = some q → b ≠ gb) → ¬ T gb → RvT ⟨w, T, fun _ => undef, 0⟩ caps cb → Holds enc w gb 0 l.toArray → gb < w.heap.size → 0 < n →
      Calls P f #[.slice (some ⟨gb, 0, none⟩) n cap, .func (.func g) #[] cb.toArray] w fun x w' => x = .returned (.tuple #[]) ∧ ∃ nn os, w' = grow (putRow enc (Sort.ahead w nn) gb 0 l'.toArray) os)
    (hnone : ∀ (w : World) (p : Option Addr) (cap : Nat) (fv : Value), Calls P f #[.slice p 0 cap, fv] w fun x w' => x = .returned (.tuple #[]) ∧ w' = w) :
    FnIO P f [.own 0, .fn g caps] [(0, .row e r)] 1 (.tup []) [(0, .row e r')] := by
  refine ⟨hE, fun w T gg m0 vals ⟨hrow, _, hd⟩ hgl hng hv => ?_⟩
  obtain ⟨_, k, cells, hr, hn, ⟨hlen, hcase⟩, hO⟩ := hrow 0 _ rfl
  have hcells := hdown _ _ hr
  subst hcells
  rw [hrl] at hn
  subst hn
  cases hv with
  | cons _ v0 _ vs h0 hvs =>
  cases hvs with
  | cons _ v1 _ vs h1v hvs =>
  cases hvs
  cases h1v with
  | fn _ _ cb hcb =>
  cases h0 with
  | own _ hi h1 =>
  have none_case : n = 0 → ∀ p cap, m0 0 = .slice p 0 cap → Calls P f [m0 0, .func (.func g) #[] cb.toArray].toArray w fun e_1 w' => ∃ v, e_1 = .returned v ∧ BelowG gg w w' ∧ ∃ m N, (∀ i, i < 1 → m i = m0 i) ∧ 1 ≤ N ∧
      Rv ⟨w', allow ⟨fun b => T b ∨ gg b, gg⟩ w.heap.size m [(0, .row e r')], m, N⟩ (.tup []) v ∧
      (∀ i it, lk [(0, Item.row e r')] i = some it → i < N ∧ ItemOk ⟨w', allow ⟨fun b => T b ∨ gg b, gg⟩ w.heap.size m [(0, .row e r')], m, N⟩ (ownB ⟨fun b => T b ∨ gg b, gg⟩ w.heap.size) (m i) it) ∧
      (∀ i j it jt b, lk [(0, Item.row e r')] i = some it → lk [(0, Item.row e r')] j = some jt → blk (m i) = some b → blk (m j) = some b → i = j) := by
    intro h00 p cap hm
    rw [show [m0 0, Value.func (.func g) #[] cb.toArray].toArray = #[m0 0, .func (.func g) #[] cb.toArray] from rfl, hm]
    refine (hnone w p cap _).mono ?_
    rintro x w' ⟨rfl, rfl⟩
    have hl0 : l = [] := List.eq_nil_of_length_eq_zero (by rw [hln, h00, Nat.zero_mul])
    have hl'0 : l' = [] := List.eq_nil_of_length_eq_zero (by rw [hll, hl0]; rfl)
    refine ⟨_, rfl, BelowG.refl _ _, m0, 1, fun _ _ => rfl, Nat.le_refl _, .tup [] [] .nil, ?_, ?_⟩
    · intro i it hi
      have hi0 : i = 0 := by
        simp only [lk] at hi
        split at hi
        · rename_i h; exact h.symm
        · cases hi
      subst hi0
      have : it = Item.row e r' := by simp [lk] at hi; exact hi.symm
      subst this
      have hr' := hup _ ⟨w', allow ⟨fun b => T b ∨ gg b, gg⟩ w'.heap.size m0 [(0, .row e r')], m0, 1⟩ _ hr
      rw [hl'0] at hr'
      refine ⟨by omega, 0, [], hr', by omega, ?_, fun b hb => .inr ⟨hO b hb, .inr (hO b hb)⟩⟩
      rcases hcase with ⟨hv, _⟩ | ⟨g0, cap', cur, fz, hv, hMk, hh, hnc, hcm, hcs, htk⟩
      · exact ⟨by simp, .inl ⟨hv, rfl⟩⟩
      · refine ⟨by simp, .inr ⟨g0, cap', cur, fz, by rw [hv, h00], hMk, hh, by omega, hcm, by rw [hcs, hs], by simp⟩⟩
    · intro i j it jt b hi hj _ _
      have aux : ∀ q x, lk [(0, Item.row e r')] q = some x → q = 0 := by
        intro q x hq
        simp only [lk] at hq
        split at hq
        · rename_i h; exact h.symm
        · cases hq
      rw [aux i it hi, aux j jt hj]
  rcases hcase with ⟨hv, h00⟩ | ⟨g0, cap, cur, fz, hv, hMk, hh, hnc, hcm, hcs, htk⟩
  · exact none_case h00 _ _ hv
  · by_cases h00 : n = 0
    · exact none_case h00 _ cap (by rw [hv, h00])
    have hlt : g0 < w.heap.size := (Array.getElem?_eq_some_iff.1 hh).1
    have hle : n * r.sz ≤ cap * r.sz := Nat.mul_le_mul_right _ hnc
    have hcell : ∀ j, j < l.length → cur[j]? = some (enc l.toArray[j]!) := by
      intro j hj
      have h1 : (cur.toList.take (n * r.sz))[j]? = (l.map enc)[j]? := by rw [htk]
      rw [List.getElem?_take_of_lt (by omega), List.getElem?_map, Array.getElem?_toList] at h1
      rw [h1]; simp [hj]
    have hH : Holds enc w g0 0 l.toArray := by
      intro j hj
      have hj' : j < l.length := by simpa using hj
      constructor
      · simp [World.cell?, hh, hcell j hj']
      · simp only [World.frozen?, hh]
        rcases hMk with rfl | hMk
        · simp
        · obtain ⟨lo, hi⟩ := fz
          have : cur.size ≤ lo := hMk
          simp; omega
    have hgO := hO g0 (by rw [hv]; rfl)
    have hcb0 : RvT ⟨w, T, fun _ => undef, 0⟩ caps cb := RvT.noid (c := ⟨w, T, m0, 1⟩) (c' := ⟨w, T, fun _ => undef, 0⟩) (fun b hb _ => ⟨hb, rfl⟩) hcb hcn
    rw [show [m0 0, Value.func (.func g) #[] cb.toArray].toArray = #[m0 0, .func (.func g) #[] cb.toArray] from rfl, hv]
    refine (hrun w T g0 cap cb hgl (fun b q hq e => hng b q hq (by rw [e]; exact hgO)) (fun hT => hd g0 hT hgO) hcb0 hH hlt (by omega)).mono ?_
    rintro x w' ⟨rfl, nn, os, rfl⟩
    have hnh := sorted_heap enc w nn g0 l'.toArray os hh
    refine ⟨_, rfl, ⟨rfl, rfl, rfl, by simp, Nat.le_add_right _ _, fun k hk hng' => sorted_other enc w nn g0 _ os hk fun e => hng' (e ▸ hgO)⟩, m0, 1, fun _ _ => rfl, Nat.le_refl _, .tup [] [] .nil, ?_, ?_⟩
    · intro i it hi
      have hi0 : i = 0 := by
        simp only [lk] at hi
        split at hi
        · rename_i h; exact h.symm
        · cases hi
      subst hi0
      have : it = Item.row e r' := by simp [lk] at hi; exact hi.symm
      subst this
      have hr' := hup _ ⟨grow (putRow enc (Sort.ahead w nn) g0 0 l'.toArray) os, allow ⟨fun b => T b ∨ gg b, gg⟩ w.heap.size m0 [(0, .row e r')], m0, 1⟩ _ hr
      refine ⟨by omega, n, l'.map enc, hr', hrl', ?_, fun b hb => .inr ⟨hO b hb, .inr (hO b hb)⟩⟩
      rw [hs]
      refine ⟨by simp [hll, hln], .inr ⟨g0, cap, _, fz, hv, by rw [putCells_size]; exact hMk, hnh, hnc, hcm, by rw [putCells_size, hcs], ?_⟩⟩
      exact putCells_take enc l' cur _ (by rw [hll, hln]) (by omega)
    · intro i j it jt b hi hj _ _
      have aux : ∀ q x, lk [(0, Item.row e r')] q = some x → q = 0 := by
        intro q x hq
        simp only [lk] at hq
        split at hq
        · rename_i h; exact h.symm
        · cases hq
      rw [aux i it hi, aux j jt hj]

/-- A world behind a call that turns nothing: it has grown, and drawn. -/
theorem grown_of_below {w w' : World} (h : BelowD w.heap.size w w') : ∃ q os, w' = grow (w.drewN q) os := by
  refine ⟨w'.drawn - w.drawn, w'.heap.extract w.heap.size w'.heap.size, ?_⟩
  have hd := h.drawn
  have hs := h.size
  have hheap : w'.heap = w.heap ++ w'.heap.extract w.heap.size w'.heap.size := by
    apply Array.ext_getElem?
    intro i
    by_cases hi : i < w.heap.size
    · rw [h.block i hi, Array.getElem?_append_left hi]
    · rw [Array.getElem?_append_right (by omega), Array.getElem?_extract]
      by_cases hj : i < w'.heap.size
      · rw [if_pos (by omega)]; congr 1; omega
      · rw [if_neg (by omega), Array.getElem?_eq_none (by omega)]
  have e1 := h.os; have e2 := h.tape; have e3 := h.output
  obtain ⟨heap, tape, drawn, os, output⟩ := w
  obtain ⟨heap', tape', drawn', os', output'⟩ := w'
  simp only at *
  subst e1 e2 e3
  show (⟨heap', _, drawn', _, _⟩ : World) = ⟨heap ++ _, _, drawn + (drawn' - drawn), _, _⟩
  rw [← hheap, show drawn + (drawn' - drawn) = drawn' by omega]
  rfl
theorem putRow_block {β : Type} [Inhabited β] (enc : β → Value) (w : World) (m gb : Nat) (d : Array β) (os : Array Obj) {k : Nat} (hk : k < w.heap.size) (hne : k ≠ gb) : (grow (putRow enc (Sort.ahead w m) gb 0 d) os).heap[k]? = w.heap[k]? :=
  sorted_other enc w m gb d os hk (Ne.symm hne)
/-- What a comparison hands back, in whatever world of the sort. -/
theorem cmp_calls {β : Type} [Inhabited β] (enc : β → Value) {g : Nat} {caps args : List AV} {cf : Int} (h : FnFr P g (args ++ caps) (.int .i64 cf) []) {w : World} {T : Nat → Prop} {gb : Nat} {cb vals : List Value} (hgl : GlOk P w) (hng : ∀ b q, intGl P b = some q → b ≠ gb) (hT : ¬ T gb)
    (hcb : RvT ⟨w, T, fun _ => undef, 0⟩ caps cb) (hvals : ∀ c : Ctx, RvT c args vals) (m : Nat) (os : Array Obj) (d : Array β) :
    Calls P g (vals.toArray ++ cb.toArray) (grow (putRow enc (Sort.ahead w m) gb 0 d) os) fun e w' => e = .returned (.int .i64 cf) ∧ ∃ q os', w' = grow ((grow (putRow enc (Sort.ahead w m) gb 0 d) os).drewN q) os' := by
  have hgl' : GlOk P (grow (putRow enc (Sort.ahead w m) gb 0 d) os) := by
    intro b q hq
    obtain ⟨n, t, hk, hh⟩ := hgl b q hq
    exact ⟨n, t, hk, by rw [putRow_block enc w m gb d os (Array.getElem?_eq_some_iff.1 hh).1 (hng b q hq)]; exact hh⟩
  have hle : CtxLe (⟨w, T, fun _ => undef, 0⟩ : Ctx) ⟨grow (putRow enc (Sort.ahead w m) gb 0 d) os, T, fun _ => undef, 0⟩ :=
    ⟨Nat.le_refl _, fun _ _ => rfl, fun b hb hlt => ⟨hb, putRow_block enc w m gb d os hlt fun e => hT (e ▸ hb)⟩⟩
  have happ : ∀ {c : Ctx} {xs ys : List AV} {us vs : List Value}, RvT c xs us → RvT c ys vs → RvT c (xs ++ ys) (us ++ vs) := by
    intro c xs
    induction xs with
    | nil => intro ys us vs h1 h2; cases h1; exact h2
    | cons x xs ih => intro ys us vs h1 h2; cases h1 with | cons _ v _ vs' hv ht => exact .cons _ _ _ _ hv (ih ht h2)
  have hc := h.2 _ T (vals ++ cb) hgl' (happ (hvals _) (hcb.mono hle))
  rw [List.append_toArray] at *
  refine hc.mono ?_
  rintro e w' ⟨v, rfl, hb, mm, N, hr, _⟩
  cases hr
  exact ⟨rfl, grown_of_below hb⟩

/-! ### Values without an inside -/
def plainV : AV → Option Value
  | .int k n => some (.int k n)
  | .str s => some (.string ⟨s.toArray⟩)
  | .bool b => some (.bool b)
  | _ => none
def PlainOk : AV → Prop
  | .int k n => InK k n
  | .str s => s.length ≤ maxLen
  | .bool _ => True
  | _ => False
def encV (x : AV) : Value := (plainV x).getD undef
theorem plain_down {c : Ctx} {x : AV} {v : Value} (h : PlainOk x) (hr : Rv c x v) : v = encV x := by
  cases hr <;> first | rfl | exact h.elim
theorem plain_up {c : Ctx} {x : AV} (h : PlainOk x) : Rv c x (encV x) := by
  cases x <;> first | exact h.elim | skip
  · exact .bool _
  · exact .int _ _ h
  · exact .str _ h
theorem plain_one {x : AV} (h : PlainOk x) : (encV x).oneCell' = true := by
  cases x <;> first | exact h.elim | rfl
theorem plainL_down {c : Ctx} {x : List AV} {v : List Value} (h : ∀ y, y ∈ x → PlainOk y) (hr : RvL c x v) : v = x.map encV := by
  induction x generalizing v with
  | nil => cases hr; rfl
  | cons x l ih =>
    cases hr with
    | cons _ v _ vs hx h1 ht => rw [List.map_cons, plain_down (h x (.head _)) hx, ih (fun y hy => h y (.tail _ hy)) ht]
theorem plainL_up {c : Ctx} : ∀ {x : List AV}, (∀ y, y ∈ x → PlainOk y) → RvL c x (x.map encV)
  | [], _ => .nil
  | x :: l, h => .cons _ _ _ _ (plain_up (h x (.head _))) (plain_one (h x (.head _))) (plainL_up fun y hy => h y (.tail _ hy))
theorem plainO_down {c : Ctx} {sz : Nat} {l : List (List AV)} {cells : List Value} (h : ∀ o, o ∈ l → ∀ y, y ∈ o → PlainOk y) (hr : ObjsC c sz l cells) : cells = (l.map fun o => o.map encV).flatten := by
  induction l generalizing cells with
  | nil => cases hr; rfl
  | cons o l ih =>
    cases hr with
    | cons _ _ vs _ cells ho hl ht => rw [List.map_cons, List.flatten_cons, plainL_down (h o (.head _)) ho, ih (fun y hy => h y (.tail _ hy)) ht]
theorem plainO_up {c : Ctx} {sz : Nat} : ∀ {l : List (List AV)}, (∀ o, o ∈ l → o.length = sz ∧ ∀ y, y ∈ o → PlainOk y) → ObjsC c sz l (l.map fun o => o.map encV).flatten
  | [], _ => .nil _
  | o :: l, h => by
    rw [List.map_cons, List.flatten_cons]
    exact .cons sz o _ l _ (plainL_up (h o (.head _)).2) (by rw [List.length_map]; exact (h o (.head _)).1) (plainO_up fun y hy => h y (.tail _ hy))

/-! ### The sort -/
/-- Sorted by a comparison: no later one is less than an earlier one. -/
def SortedBy {τ : Type} (cf : τ → τ → Int) (l : List τ) : Prop := l.Pairwise fun x y => ¬ cf y x < 0
theorem sortedIn_pairwise {α : Type} [Inhabited α] {lt : α → α → Bool} {d : Array α} (h : SortedIn lt 0 d.size d) : d.toList.Pairwise fun x y => lt y x = false := by
  refine List.pairwise_iff_getElem.2 fun i j hi hj hij => ?_
  have := h i j (Nat.zero_le _) hij (by simpa using hj)
  rw [getElem!_pos d i (by simpa using hi), getElem!_pos d j (by simpa using hj)] at this
  simpa using this
structure CmpOrd {τ : Type} (good : τ → Prop) (cf : τ → τ → Int) : Prop where
  irrefl : ∀ x, good x → ¬ cf x x < 0
  trans : ∀ x y z, good x → good y → good z → cf x y < 0 → cf y z < 0 → cf x z < 0
  ntrans : ∀ x y z, good x → good y → good z → ¬ cf x y < 0 → ¬ cf y z < 0 → ¬ cf x z < 0
theorem CmpOrd.swo {τ : Type} {good : τ → Prop} {cf : τ → τ → Int} (h : CmpOrd good cf) : SWO (ltOf fun (x y : {x : τ // good x}) => cf x.1 y.1) where
  irrefl := fun x => decide_eq_false (h.irrefl x.1 x.2)
  trans := fun x y z h1 h2 => decide_eq_true (h.trans _ _ _ x.2 y.2 z.2 (of_decide_eq_true h1) (of_decide_eq_true h2))
  ntrans := fun x y z h1 h2 => decide_eq_false (h.ntrans _ _ _ x.2 y.2 z.2 (of_decide_eq_false h1) (of_decide_eq_false h2))
/-- What the library's sort makes of a list. -/
theorem pdq_list {τ : Type} {good : τ → Prop} {cf : τ → τ → Int} (h : CmpOrd good cf) [Inhabited {x : τ // good x}] (d : List {x : τ // good x}) (a : Array {x : τ // good x})
    (ha : a = Sort.pdq (ltOf fun (x y : {x : τ // good x}) => cf x.1 y.1) d.toArray 0 d.toArray.size (Lib.bitLen d.toArray.size) true true) :
    a.toList.Perm d ∧ a.toList.Pairwise (fun x y => ¬ cf y.1 x.1 < 0) := by
  have hp := pdq_sorts (ltOf fun (x y : {x : τ // good x}) => cf x.1 y.1) h.swo d.toArray 0 d.toArray.size (Lib.bitLen d.toArray.size) true true (Nat.zero_le _) (Nat.le_refl _) (Or.inl rfl)
  rw [← ha] at hp
  obtain ⟨⟨h1, _, h3⟩, h4⟩ := hp
  constructor
  · rw [Array.extract_size, ← h1, Array.extract_size] at h3
    exact h3
  · rw [← h1] at h4
    exact (sortedIn_pairwise (lt := ltOf fun (x y : {x : τ // good x}) => cf x.1 y.1) h4).imp fun {x y} hxy => of_decide_eq_false hxy

theorem entersG {g : Nat} (h : Enter P g) : ∀ args w, (callFunc g args).run P w = .ok (.enter g args) w := by
  obtain ⟨fn, h1, h2, h3⟩ := h
  cases hb : fn.body with
  | none => rw [hb] at h2; cases h2
  | some c => exact enters_of h1 h3 hb
theorem attachWith_val {τ : Type} {good : τ → Prop} {l : List τ} (h : ∀ x, x ∈ l → good x) : (l.attachWith good h).map Subtype.val = l := by
  rw [List.attachWith_map_subtype_val]
theorem flatten_get {α : Type} [Inhabited α] {k : Nat} : ∀ (L : List (List α)), (∀ o, o ∈ L → o.length = k) → ∀ t, t < L.length * k → L.flatten[t]? = some ((L.toArray[t / k]!)[t % k]!)
  | [], _, t, h => by simp at h
  | o :: L, hk, t, h => by
    have ho := hk o (.head _)
    have hk0 : 0 < k := by
      refine Nat.pos_of_ne_zero fun e => ?_
      rw [e, Nat.mul_zero] at h; omega
    rw [List.flatten_cons]
    by_cases ht : t < k
    · rw [List.getElem?_append_left (by omega), Nat.div_eq_of_lt ht, Nat.mod_eq_of_lt ht, List.getElem?_eq_getElem (by omega)]
      simp [ho, ht]
    · rw [List.getElem?_append_right (by omega), ho, flatten_get L (fun o h => hk o (.tail _ h)) (t - k) (by rw [List.length_cons, Nat.succ_mul] at h; omega)]
      have e1 : t = t - k + k := by omega
      have e2 : t / k = (t - k) / k + 1 := by rw [e1, Nat.add_div_right _ hk0]; simp
      have e3 : t % k = (t - k) % k := by rw [e1, Nat.add_mod_right]; simp
      rw [e2, e3]
      simp
theorem flatK_list {α : Type} [Inhabited α] (enc : α → List Value) (k : Nat) (hk : ∀ x, (enc x).length = k) (d : List α) : (Go.Sort.flatK enc k d.toArray).toList = (d.map enc).flatten := by
  apply List.ext_getElem?
  intro t
  by_cases ht : t < d.length * k
  · rw [flatten_get (d.map enc) (fun o ho => by obtain ⟨x, _, rfl⟩ := List.mem_map.1 ho; exact hk x) t (by simpa using ht)]
    have h1 := Go.Sort.get_flatK enc k d.toArray t (by simpa using ht)
    rw [Array.getElem?_toList, Array.getElem?_eq_getElem (by simpa using ht)]
    rw [getElem!_pos _ t (by simpa using ht)] at h1
    rw [h1]
    congr 2
    have hk0 : 0 < k := by
      refine Nat.pos_of_ne_zero fun e => ?_
      rw [e, Nat.mul_zero] at ht; omega
    have hq : t / k < d.length := (Nat.div_lt_iff_lt_mul hk0).2 ht
    rw [getElem!_pos d.toArray (t / k) (by simpa using hq), getElem!_pos _ (t / k) (by simpa using hq)]
    simp
  · rw [List.getElem?_eq_none (by simp; omega), List.getElem?_eq_none]
    rw [List.length_flatten]
    have : ((d.map enc).map List.length) = List.replicate d.length k := by
      rw [List.map_map]
      exact List.eq_replicate_iff.2 ⟨by simp, fun b hb => by obtain ⟨x, _, rfl⟩ := List.mem_map.1 hb; exact hk x⟩
    rw [this, List.sum_replicate_nat]; omega
/-- The sort of a row of plain structs by a comparison. -/
theorem sortFK_io {ρ : Ren} {τ : Type} (f : τ → List AV) (k : Nat) (hk : ∀ x, (f x).length = k) (hk0 : 0 < k) (L : SlLaysF0.n6 P ρ) (hE : Enter P (ρ.f 6)) (aE : ∀ w, (isAgg (ρ.t 24)).run P w = .ok true w) (zE : ∀ w, (Go.sizeOf (ρ.t 24)).run P w = .ok k w) (e : TypeId)
    {good : τ → Prop} {cf : τ → τ → Int} (hO : CmpOrd good cf) (g : Nat) (caps : List AV) (hcn : noIdL caps = true)
    (hcmp : ∀ x y, good x → good y → FnFr P g (.agg (f x) :: .agg (f y) :: caps) (.int .i64 (cf x y)) []) (l : List τ) (hg : ∀ x, x ∈ l → good x) (hin : ∀ x, good x → ∀ y, y ∈ f x → PlainOk y) (hl : l.length < 4611686018427387904) :
    ∃ l', l'.Perm l ∧ SortedBy cf l' ∧ FnIO P (ρ.f 6) [.own 0, .fn g caps] [(0, .row e (.objs k (l.map f)))] 1 (.tup []) [(0, .row e (.objs k (l'.map f)))] := by
  by_cases h0 : l = []
  · subst h0
    refine ⟨[], List.Perm.refl _, List.Pairwise.nil, ?_⟩
    exact FnIO.placeF (id : Value → Value) hE e _ _ [] [] g caps hcn 0 rfl rfl rfl rfl (by simp) (fun c cells h => by cases h with | objs _ _ _ _ h => cases h; rfl) (fun c c' cells h => .objs k [] [] hk0 (.nil k)) (fun w T gb cap cb _ _ _ _ _ _ h => absurd h (by omega)) (fun w p cap fv => AnyF.slices_SortFunc_none { L with } p cap fv w)
  obtain ⟨x0, hx0⟩ := List.exists_mem_of_ne_nil l h0
  haveI : Inhabited {x : τ // good x} := ⟨⟨x0, hg x0 hx0⟩⟩
  have hd := attachWith_val hg
  generalize l.attachWith good hg = d at hd
  have hdl : d.length = l.length := by rw [← hd, List.length_map]
  have hp := pdq_list hO d _ rfl
  generalize ha : Sort.pdq (ltOf fun (x y : {x : τ // good x}) => cf x.1 y.1) d.toArray 0 d.toArray.size (Lib.bitLen d.toArray.size) true true = a at hp
  have hal : a.toList.length = d.length := hp.1.length_eq
  let enc : {x : τ // good x} → List Value := fun x => (f x.1).map encV
  have hke : ∀ x, (enc x).length = k := fun x => by show ((f x.1).map encV).length = k; rw [List.length_map, hk]
  have hfl : ∀ s : List {x : τ // good x}, (Go.Sort.flatK enc k s.toArray).toList = (((s.map Subtype.val).map f).map fun o => o.map encV).flatten := fun s => by
    rw [flatK_list enc k hke s, List.map_map, List.map_map]; rfl
  have hpl : ∀ s : List {x : τ // good x}, ∀ o, o ∈ (s.map Subtype.val).map f → o.length = k ∧ ∀ y, y ∈ o → PlainOk y := fun s o ho => by
    obtain ⟨x, hx, rfl⟩ := List.mem_map.1 ho
    obtain ⟨y, _, rfl⟩ := List.mem_map.1 hx
    exact ⟨hk _, hin _ y.2⟩
  refine ⟨a.toList.map Subtype.val, by rw [← hd]; exact hp.1.map _, List.pairwise_map.2 hp.2, ?_⟩
  refine FnIO.placeF (id : Value → Value) hE e _ _ (Go.Sort.flatK enc k d.toArray).toList (Go.Sort.flatK enc k a).toList g caps hcn l.length (by simp [← hal]) rfl (by simp [RowV.len]) (by show ((a.toList.map Subtype.val).map f).length = _; rw [List.length_map, List.length_map, hal, hdl]) (by simp [hdl, RowV.sz]) (fun c cells h => ?_) (fun c c' cells h => ?_) (fun w T gb cap cb hgl hng hT hcb hH hlt _ => ?_) (fun w p cap fv => AnyF.slices_SortFunc_none { L with } p cap fv w)
  · rw [List.map_id, hfl, hd]
    cases h with
    | objs _ _ _ hz ho => exact plainO_down (fun o ho => (hpl d o (by rw [hd]; exact ho)).2) ho
  · rw [List.map_id]
    have := hfl a.toList
    rw [Array.toArray_toList] at this
    rw [this]
    exact .objs k _ _ hk0 (plainO_up (hpl a.toList))
  · rw [Array.toArray_toList] at hH
    have hc := AnyQ.slices_SortFunc_eq L k aE zE enc hke (fun x v hv => by
      obtain ⟨y, hy, rfl⟩ := List.mem_map.1 hv
      exact plain_one (hin _ x.2 y hy)) (fun x y => cf x.1 y.1) hO.swo g cb.toArray gb 0 cap d.toArray w (entersG (hcmp x0 x0 (hg _ hx0) (hg _ hx0)).1) (fun m os dk hdk x y => cmp_calls (args := [.agg (f x.1), .agg (f y.1)]) id (hcmp x.1 y.1 x.2 y.2) hgl hng hT hcb (fun c => .cons _ _ _ _ (.agg _ _ (plainL_up (hin _ x.2))) (.cons _ _ _ _ (.agg _ _ (plainL_up (hin _ y.2))) .nil)) m os (Go.Sort.flatK enc k dk)) hH hlt (by simpa [hdl] using hl)
    rw [ha] at hc
    simp only [List.size_toArray, hdl] at hc
    rw [Array.toArray_toList]
    exact hc
end
end Go.Fv

/-
  Keys of maps that are arrays of texts.
-/
namespace Go.Fv
set_option linter.unusedSectionVars false
set_option linter.unusedVariables false
open Go.RowKit

theorem KeyT.strs2 {P : Program} {kt e : TypeId} (hu : P.underlying kt = some (.array 2 e)) (he : P.underlying e = some .string) (hk : P.keyType kt = true) (hc : P.cellsOf kt = 2) (hce : P.cellsOf e = 1) (hn : 1 ≤ P.types.size) (a b : List UInt8) : KeyT P kt (.agg [.str a, .str b]) := by
  refine ⟨rfl, fun hw => ?_⟩
  simp only [wfA, wfAs] at hw
  obtain ⟨ha, hb, _⟩ := hw
  obtain ⟨n, hn'⟩ : ∃ n, P.types.size + 1 = n + 2 := ⟨P.types.size - 1, by omega⟩
  have h1 : P.keyLits (n + 2) kt [.string ⟨a.toArray⟩, .string ⟨b.toArray⟩] = some [.string a, .string b] := by
    have ha' : (⟨a.toArray⟩ : ByteArray).size ≤ maxLen := by show a.toArray.size ≤ maxLen; simpa using ha
    have hb' : (⟨b.toArray⟩ : ByteArray).size ≤ maxLen := by show b.toArray.size ≤ maxLen; simpa using hb
    have k1 : P.keyLits (n + 1) e [.string ⟨a.toArray⟩] = some [.string a] := by unfold Program.keyLits; rw [he]; simp [ha']
    have k2 : P.keyLits (n + 1) e [.string ⟨b.toArray⟩] = some [.string b] := by unfold Program.keyLits; rw [he]; simp [hb']
    unfold Program.keyLits
    rw [hu]
    simp [hc, hce, List.range, List.range.loop, k1, k2]
  unfold keyOf
  rw [hu]
  have hf : Value.formed P kt (valK (.agg [.str a, .str b])) = true := by simp [valK, valKs, Value.formed, hu, hc]
  simp only [hk, hf, Bool.and_self, if_true]
  rw [hn']
  have hcells : (valK (.agg [.str a, .str b])).cells.toList = [.string ⟨a.toArray⟩, .string ⟨b.toArray⟩] := by simp [valK, valKs, Value.cells]
  rw [hcells, h1]
  exact ⟨_, rfl⟩
theorem keyed_deep {P : Program} {kt : TypeId} (hl : laidOutB P = true) (hrow : kt < P.types.size) (hk : P.keyTypeAt 3 kt = true) (hwide : (match P.underlying kt with | some (.array _ _) | some (.struct _) => true | _ => false) = true) : Maps.Keyed P kt :=
  Maps.Keyed.of_law (deep_law_laid hl (m := 3) (by omega) hrow hk hwide)
/-- A pair of texts as a key. -/
def key2 (k : List UInt8 × List UInt8) : AV := .agg [.str k.1, .str k.2]
theorem eqKey2 (a b : List UInt8 × List UInt8) : eqKey (key2 a) (key2 b) = decide (a = b) := by
  obtain ⟨a1, a2⟩ := a
  obtain ⟨b1, b2⟩ := b
  simp [key2, eqKey, eqKeys]
theorem renL_key2 (p : Nat → Nat) (l : List (List UInt8 × List UInt8)) : renL p (l.map key2) = l.map key2 := renL_kmap p (fun _ => rfl) l
theorem belowL_key2 (n : Nat) (l : List (List UInt8 × List UInt8)) : belowL n (l.map key2) = true := belowL_kmap n (fun _ => rfl) l
theorem mkL_key2 (l : List (List UInt8 × List UInt8)) (y : List AV) : mkL (l.map key2) y = [] := mkL_kmap (fun _ => rfl) l y
attribute [go_sem] renL_key2 belowL_key2 mkL_key2
end Go.Fv

/-
  What stands for families where they are lent; the end of a function whose results are only read.
-/
namespace Go.Fv
set_option linter.unusedSectionVars false
open Go.RowKit
set_option linter.unusedVariables false
set_option linter.unusedSimpArgs false

theorem allOk_get {R : AV → AV → Prop} : ∀ {l l' : List AV}, l.length = l'.length → (∀ j (h : j < l.length) (h' : j < l'.length), R l[j] l'[j]) → allOk R l l'
  | [], [], _, _ => rfl
  | [], _ :: _, h, _ => by simp at h
  | _ :: _, [], h, _ => by simp at h
  | x :: l, y :: l', h, hr => ⟨y, l', hr 0 (by simp) (by simp), allOk_get (by simpa using h) fun j h1 h2 => hr (j + 1) (Nat.succ_lt_succ h1) (Nat.succ_lt_succ h2), rfl⟩
theorem argOkN_row {rows : List (Nat × Item)} {n i : Nat} {e : TypeId} {r : RowV} (h : lk rows i = some (.row e r)) (hid : noIdR r = true) : argOkN rows (n + 1) (.own i) (.ro r) := by
  simp only [argOkN, h, hid, if_true]
theorem argOkN_map {rows : List (Nat × Item)} {n i : Nat} {ks vs ks' vs' : List AV} (h : lk rows i = some (.map ks vs)) (h1 : allOk (argOkN rows n) ks ks') (h2 : allOk (argOkN rows n) vs vs') : argOkN rows (n + 1) (.own i) (.mp ks' vs') := by
  simp only [argOkN, h]
  exact ⟨ks', vs', h1, h2, rfl⟩
/-! ### The same names -/
def envId (s : S) (N : Nat) : List (Nat × AV) → Prop
  | [] => True
  | (r, v) :: l => (s.get r = v ∧ Fv.below N v = true) ∧ envId s N l
def rowsId (rows : List (Nat × Item)) (N : Nat) : List (Nat × Item) → Prop
  | [] => True
  | (i, it) :: l => (i < N ∧ lk rows i = some it ∧ it.below N = true) ∧ rowsId rows N l
theorem envId_ok {s : S} {N : Nat} : ∀ {l : List (Nat × AV)}, envId s N l → envOk id s N l
  | [], _ => trivial
  | (r, v) :: l, h => ⟨⟨by rw [ren_low (p := id) (b0 := N) (fun _ _ => rfl) v h.1.2]; exact h.1.1, h.1.2⟩, envId_ok h.2⟩
theorem rowsId_lk {rows : List (Nat × Item)} {N : Nat} : ∀ {l : List (Nat × Item)}, rowsId rows N l → ∀ i it, lk l i = some it → i < N ∧ lk rows i = some it ∧ it.below N = true
  | (j, jt) :: l, h, i, it, hi => by
    simp only [lk] at hi
    split at hi
    · rename_i e; subst e; cases hi; exact h.1
    · exact rowsId_lk h.2 i it hi
/-- The state says less, with the same names. -/
theorem Ent.same {w0 : World} {T0 : Bs} {b0 : Nat} {s s' : S} (hn : s'.n = s.n) (hb : b0 ≤ s'.next) (he : envId s s'.next s'.env) (hr : rowsId s.rows s'.next s'.rows) : Ent w0 T0 b0 s s' :=
  Ent.ofF id hn hb (fun _ _ => rfl) (envId_ok he) (fun i it hi => by
    obtain ⟨h1, h2, h3⟩ := rowsId_lk hr i it hi
    exact ⟨h1, by rw [Item.ren_low (p := id) (b0 := s'.next) (fun _ _ => rfl) it h3]; exact h2, h3⟩) (fun i j _ _ _ _ e => e)
attribute [go_sem] envId rowsId
section
variable {P : Program} {w0 : World} {T0 : Bs}
/-- THE END of a function whose results are only read from now on. -/
theorem Ret.ro {res : List ResultVar} {out : AV} {s : S} (h : rets P s res (fun vs => outOk s.rows (tupOf vs) out)) : Ret P w0 T0 res out [] s := by
  rintro a w ⟨m, hm⟩
  obtain ⟨vs, us, he, hrun, hvs⟩ := rets_run hm h
  have hrv : Rv (ctxOf T0 w0.heap.size m s w) (tupOf vs) (tupV us) := by
    cases hvs with
    | nil => exact .tup _ _ .nil
    | cons x v l us hx ht =>
      cases ht with
      | nil => exact hx
      | cons x' v' l' us' hx' ht' => exact .tup _ _ (.cons _ _ _ _ hx (.cons _ _ _ _ hx' ht'))
  have hal : ∀ b, ownB T0 w0.heap.size b → allow T0 w0.heap.size (fun _ => undef) [] b := fun b hb => ⟨hb.imp id (·.2), fun i it hi => by simp [lk] at hi⟩
  have hl : Lend w (ctxOf T0 w0.heap.size m s w) s.rows (allow T0 w0.heap.size (fun _ => undef) []) :=
    { hw := rfl, t := fun b hb => ⟨hb.1, fun i it hi => by simp [lk] at hi⟩,
      own := fun i e r hi => by
        obtain ⟨n, cells, hc, hn, hq, hO⟩ := (hm.rows i _ hi).2
        exact ⟨fun b hb => hal b (hO b hb), n, cells, hc, hn, hq⟩,
      box := fun i e cs hi => by
        obtain ⟨g, vs, hv, hg, hl, hh⟩ := (hm.rows i _ hi).2
        exact ⟨g, vs, hv, hal g hg, hl, hh⟩,
      map := fun i ks vs hi => by
        obtain ⟨g, es, clock, hv, hg, h1, h2, h3, h4, hh⟩ := (hm.rows i _ hi).2
        exact ⟨g, es, clock, hv, hal g hg, h1, h2, h3, h4, hh⟩ }
  refine ⟨_, fun fn hf => results_list hf a.tmps hrun, fun _ => undef, 0, ?_, fun i it hi => by simp [lk] at hi, fun i j it jt b hi => by simp [lk] at hi⟩
  generalize tupOf vs = x at he hrv
  generalize hus : tupV us = u at hrv
  unfold outOk at he
  split at he
  · obtain ⟨l', ha, rfl⟩ := he
    cases hrv with
    | tup _ us' hv' => exact .tup _ _ (argOkT_rv hl _ ha hv')
  · exact argOkN_rv hl 6 _ he hrv
end
end Go.Fv
