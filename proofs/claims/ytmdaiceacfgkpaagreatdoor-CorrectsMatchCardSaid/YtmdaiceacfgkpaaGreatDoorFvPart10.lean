/-
  A part of the proof of the claim: walks over the program's functions and the plain laws that these need. No condition of its own.
-/
import Derived.Test.YtmdaiceacfgkpaaGreatDoorFvPart9
import Derived.Shelf.SortM.Plain
import Derived.Shelf.SortM.SortNone
/-
  Families of rows: as many owned rows as a list tells, with names one behind the other.
-/
namespace Go.Fv
set_option linter.unusedSectionVars false
set_option linter.unusedVariables false
set_option linter.unusedSimpArgs false

/-- The rows L, named b, b + 1, .. -/
def famI : Nat → List Item → List (Nat × Item)
  | _, [] => []
  | b, it :: L => (b, it) :: famI (b + 1) L
theorem lk_famI : ∀ (L : List Item) (b j : Nat), lk (famI b L) j = if b ≤ j then L[j - b]? else none
  | [], b, j => by simp [famI, lk]
  | it :: L, b, j => by
    simp only [famI, lk, lk_famI L (b + 1) j]
    by_cases h : b = j
    · subst h; simp
    · rw [if_neg h]
      by_cases h2 : b ≤ j
      · rw [if_pos h2, if_pos (by omega)]
        have : j - b = (j - (b + 1)) + 1 := by omega
        rw [this, List.getElem?_cons_succ]
      · rw [if_neg h2, if_neg (by omega)]
theorem lk_fam {L : List Item} {b j : Nat} {it : Item} (h : L[j]? = some it) : lk (famI b L) (j + b) = some it := by
  rw [lk_famI, if_pos (by omega), Nat.add_sub_cancel]; exact h
/-- The names of a family. -/
def famN (b n : Nat) : List AV := (List.range n).map fun i => .own (i + b)
theorem famN_get {b n i : Nat} (h : i < n) : (famN b n)[i]? = some (.own (i + b)) := by simp [famN, h]
section
variable {w0 : World} {T0 : Bs} {b0 : Nat}
/-- THE STATE SAYS LESS, by any renaming that keeps what is low. -/
theorem Ent.ofF (p : Nat → Nat) {s s' : S} (hn : s'.n = s.n) (hb : b0 ≤ s'.next) (hlow : ∀ i, i < b0 → p i = i) (he : envOk p s s'.next s'.env)
    (hr : ∀ i it, lk s'.rows i = some it → i < s'.next ∧ lk s.rows (p i) = some (it.ren p) ∧ it.below s'.next = true)
    (hinj : ∀ i j it jt, lk s'.rows i = some it → lk s'.rows j = some jt → p i = p j → i = j) : Ent w0 T0 b0 s s' := by
  rintro H a w hH ⟨m, hm⟩
  have hren : CtxRen p (ctxOf T0 w0.heap.size m s w) (ctxOf T0 w0.heap.size (fun i => m (p i)) s' w) :=
    { m := fun _ _ => rfl,
      t := by
        intro b ⟨h1, h2⟩ _
        refine ⟨⟨h1, fun i it hi e => ?_⟩, rfl⟩
        obtain ⟨_, h3, _⟩ := hr i it hi
        exact h2 _ _ h3 e }
  refine ⟨fun i => m (p i), { size := by rw [hn]; exact hm.size, nodef := hm.nodef, below := hm.below, env := ?_, held := ?_, rows := ?_, sep := ?_ }⟩
  · intro r v hv
    obtain ⟨h1, h2⟩ := envOk_mem he r v (lk_mem hv)
    refine Rv.ren hren v h2 ?_
    have : Rv (ctxOf T0 w0.heap.size m s w) (s.get r) (a.tmps.getD r undef) := by
      simp only [S.get]
      cases hq : lk s.env r with
      | none => exact .dead _
      | some y => exact hm.env r y hq
    rw [← h1]; exact this
  · intro q hq
    have h1 := hH q hq
    refine Rv.ren hren q.1 (below_le hb _ h1) ?_
    rw [ren_low hlow _ h1]; exact hm.held q hq
  · intro i it hi
    obtain ⟨h1, h2, h3⟩ := hr i it hi
    exact ⟨h1, ItemOk.ren hren rfl h3 (hm.rows _ _ h2).2⟩
  · intro i j it jt b hi hj hbi hbj
    obtain ⟨_, h2, _⟩ := hr i it hi
    obtain ⟨_, h2', _⟩ := hr j jt hj
    exact hinj i j it jt hi hj (hm.sep _ _ _ _ b h2 h2' hbi hbj)
def subP (p : Nat → Nat) (rows : List (Nat × Item)) (N : Nat) : List (Nat × Item) → Prop
  | [] => True
  | (i, it) :: l => (lk rows (p i) = some (it.ren p) ∧ it.below N = true) ∧ subP p rows N l
theorem subP_lk {p : Nat → Nat} {rows : List (Nat × Item)} {N : Nat} : ∀ {l : List (Nat × Item)}, subP p rows N l → ∀ i it, lk l i = some it → lk rows (p i) = some (it.ren p) ∧ it.below N = true
  | (j, jt) :: l, h, i, it, hi => by
    simp only [lk] at hi
    split at hi
    · rename_i e; subst e; cases hi; exact h.1
    · exact subP_lk h.2 i it hi
/-- The state at which the concrete rows C stand, and behind them the family L, named from b on. -/
theorem Ent.fam (p : Nat → Nat) {s : S} {n b : Nat} {env : List (Nat × AV)} {C : List (Nat × Item)} {L : List Item} (hn : n = s.n) (hb : b0 ≤ L.length + b) (hlow : ∀ i, i < b0 → p i = i) (hC : ∀ x, x ∈ C → x.1 < b)
    (he : envOk p s (L.length + b) env) (hc : subP p s.rows (L.length + b) C)
    (hL : ∀ j it, L[j]? = some it → lk s.rows (p (j + b)) = some (it.ren p) ∧ it.below (L.length + b) = true)
    (hinj : ∀ i j, i < L.length + b → j < L.length + b → p i = p j → i = j) : Ent w0 T0 b0 s ⟨n, env, C ++ famI b L, L.length + b⟩ := by
  have hlt : ∀ i it, lk (C ++ famI b L) i = some it → i < L.length + b ∧ lk s.rows (p i) = some (it.ren p) ∧ it.below (L.length + b) = true := by
    intro i it hi
    rw [lk_append] at hi
    cases hq : lk C i with
    | some y =>
      rw [hq] at hi; cases hi
      have := hC _ (lk_mem hq)
      exact ⟨by simp at this; omega, subP_lk hc i _ hq⟩
    | none =>
      rw [hq] at hi
      simp only [lk_famI] at hi
      split at hi
      · rename_i hbi
        obtain ⟨h1, h2⟩ := List.getElem?_eq_some_iff.1 hi
        have := hL (i - b) it hi
        rw [Nat.sub_add_cancel hbi] at this
        exact ⟨by omega, this⟩
      · cases hi
  exact Ent.ofF p hn hb hlow he hlt fun i j it jt hi hj e => hinj i j (hlt i it hi).1 (hlt j jt hj).1 e
/-- A slot is known otherwise. -/
theorem Ent.slot (r : Nat) (x : AV) {s : S} {y : AV} (hr : s.get r = y) (hne : y ≠ .dead) (hx : ∀ c v, Rv c y v → Rv c x v) : Ent w0 T0 b0 s (s.set r x) := by
  rintro H a w hH ⟨m, hm⟩
  have hl : lk s.env r = some y := by
    simp only [S.get] at hr
    cases hq : lk s.env r with
    | none => rw [hq] at hr; exact absurd hr.symm hne
    | some z => rw [hq] at hr; exact congrArg some hr
  exact ⟨m, hm.know (hx _ _ (hm.env r y hl))⟩
theorem Ent.nilRo (r : Nat) (q : RowV) {s : S} (hr : s.get r = .nilS) (hq : nilRow q) : Ent w0 T0 b0 s (s.set r (.ro q)) :=
  Ent.slot r _ hr (by simp) fun c v hv => by
    cases hv
    exact .roNil q (nilRow_ok hq) (by cases q <;> first | rfl | (obtain ⟨_, rfl⟩ := hq; rfl))
/-- The same, where the family's rows have no names in them. -/
theorem Ent.famR (p : Nat → Nat) {s : S} {n b N : Nat} {env : List (Nat × AV)} {C : List (Nat × Item)} {e : TypeId} {rs : List RowV} (hN : N = rs.length + b) (hn : n = s.n) (hb : b0 ≤ N) (hlow : ∀ i, i < b0 → p i = i) (hC : ∀ x, x ∈ C → x.1 < b)
    (he : envOk p s N env) (hc : subP p s.rows N C) (hid : ∀ r, r ∈ rs → noIdR r = true)
    (hL : ∀ j (h : j < rs.length), lk s.rows (p (j + b)) = some (.row e rs[j]))
    (hinj : ∀ i j, i < N → j < N → p i = p j → i = j) : Ent w0 T0 b0 s ⟨n, env, C ++ famI b (rs.map (Item.row e)), N⟩ := by
  subst hN
  have := Ent.fam (w0 := w0) (T0 := T0) (b0 := b0) (s := s) (n := n) (b := b) (env := env) (C := C) (L := rs.map (Item.row e)) p hn (by simpa using hb) hlow hC (by simpa using he) (by simpa using hc) ?_ (by simpa using hinj)
  · simpa using this
  · intro j it hj
    obtain ⟨h1, rfl⟩ := List.getElem?_eq_some_iff.1 hj
    simp only [List.length_map] at h1
    rw [List.getElem_map]
    have h2 := hid _ (List.getElem_mem h1)
    refine ⟨?_, by simp only [Item.below]; exact noIdR_below _ _ h2⟩
    simp only [Item.ren, renR_same p h2]
    exact hL j h1
theorem Ent.famR1 (p : Nat → Nat) {s : S} {n b N c0 : Nat} {A0 : Item} {env : List (Nat × AV)} {e : TypeId} {rs : List RowV} (hN : N = rs.length + b) (hn : n = s.n) (hb : b0 ≤ N) (hlow : ∀ i, i < b0 → p i = i) (hC : c0 < b)
    (he : envOk p s N env) (hc : subP p s.rows N [(c0, A0)]) (hid : ∀ r, r ∈ rs → noIdR r = true)
    (hL : ∀ j (h : j < rs.length), lk s.rows (p (j + b)) = some (.row e rs[j]))
    (hinj : ∀ i j, i < N → j < N → p i = p j → i = j) : Ent w0 T0 b0 s ⟨n, env, (c0, A0) :: famI b (rs.map (Item.row e)), N⟩ :=
  Ent.famR (C := [(c0, A0)]) p hN hn hb hlow (by intro x hx; simp at hx; subst hx; exact hC) he hc hid hL hinj
theorem Ent.famR2 (p : Nat → Nat) {s : S} {n b N c0 c1 : Nat} {A0 A1 : Item} {env : List (Nat × AV)} {e : TypeId} {rs : List RowV} (hN : N = rs.length + b) (hn : n = s.n) (hb : b0 ≤ N) (hlow : ∀ i, i < b0 → p i = i) (hC : c0 < b ∧ c1 < b)
    (he : envOk p s N env) (hc : subP p s.rows N [(c0, A0), (c1, A1)]) (hid : ∀ r, r ∈ rs → noIdR r = true)
    (hL : ∀ j (h : j < rs.length), lk s.rows (p (j + b)) = some (.row e rs[j]))
    (hinj : ∀ i j, i < N → j < N → p i = p j → i = j) : Ent w0 T0 b0 s ⟨n, env, (c0, A0) :: (c1, A1) :: famI b (rs.map (Item.row e)), N⟩ :=
  Ent.famR (C := [(c0, A0), (c1, A1)]) p hN hn hb hlow (by intro x hx; simp at hx; rcases hx with rfl | rfl <;> first | exact hC.1 | exact hC.2) he hc hid hL hinj
end
/-! ### Renamings by hand -/
def p1 (a K x : Nat) : Nat := if x = a then K else x
theorem p1_at (a K : Nat) : p1 a K a = K := if_pos rfl
theorem p1_ne {a K x : Nat} (h : x ≠ a) : p1 a K x = x := if_neg h
theorem p1_inj {a K N : Nat} (hK : N ≤ K) : ∀ i j, i < N → j < N → p1 a K i = p1 a K j → i = j := by
  intro i j hi hj
  unfold p1
  split <;> split <;> omega
def p2 (a K a' K' x : Nat) : Nat := if x = a then K else if x = a' then K' else x
theorem lk_ne {α : Type} {j i : Nat} {v : α} {l : List (Nat × α)} (h : j ≠ i) : lk ((j, v) :: l) i = lk l i := by simp only [lk]; rw [if_neg h]
theorem lk_eq {α : Type} {i : Nat} {v : α} {l : List (Nat × α)} : lk ((i, v) :: l) i = some v := by simp [lk]
end Go.Fv

/-
  An owned row becomes data, wherever the state speaks of it.
-/
namespace Go.Fv
set_option linter.unusedSectionVars false
open Go.RowKit
set_option linter.unusedVariables false
set_option linter.unusedSimpArgs false
set_option linter.unnecessarySimpa false

mutual
def fz (k : Nat) (r : RowV) : AV → AV
  | .own i => if i = k then .ro r else .own i
  | .ptr i o => .ptr i o
  | .elt i a b c => .elt i a b c
  | .pre i n => .pre i n
  | .agg cs => .agg (fzL k r cs)
  | .tup cs => .tup (fzL k r cs)
  | .fn f cs => .fn f (fzL k r cs)
  | .cell cs => .cell cs
  | .dead => .dead
  | .nilS => .nilS
  | .bool b => .bool b
  | .int q n => .int q n
  | .str s => .str s
  | .ro r => .ro r
  | .raw v => .raw v
  | .opt b v => .opt b (fz k r v)
  | .mp ks vs => .mp ks vs
def fzL (k : Nat) (r : RowV) : List AV → List AV
  | [] => []
  | x :: l => fz k r x :: fzL k r l
end
def fzR (k : Nat) (q : RowV) : RowV → RowV
  | .objs sz l => .objs sz (l.map (fzL k q))
  | .bools l => .bools l
  | .ints k l => .ints k l
  | .strs l => .strs l
def fzI (k : Nat) (q : RowV) : Item → Item
  | .row e r => .row e (fzR k q r)
  | .box e cs => .box e (fzL k q cs)
  | .map ks vs => .map (fzL k q ks) (fzL k q vs)
  | .iter mp since seen => .iter mp since seen
def fzE (k : Nat) (q : RowV) : List (Nat × AV) → List (Nat × AV)
  | [] => []
  | (i, v) :: l => (i, fz k q v) :: fzE k q l
def fzRows (k : Nat) (q : RowV) : List (Nat × Item) → List (Nat × Item)
  | [] => []
  | (i, it) :: l => if i = k then fzRows k q l else (i, fzI k q it) :: fzRows k q l
def S.fz (s : S) (k : Nat) (r : RowV) : S := { s with env := fzE k r s.env, rows := fzRows k r s.rows }

theorem lk_fzE (k : Nat) (q : RowV) : ∀ (l : List (Nat × AV)) (i : Nat), lk (fzE k q l) i = (lk l i).map (fz k q)
  | [], i => rfl
  | (j, v) :: l, i => by
    simp only [fzE, lk]
    split
    · rfl
    · exact lk_fzE k q l i
theorem lk_fzRows (k : Nat) (q : RowV) : ∀ (l : List (Nat × Item)) (i : Nat), lk (fzRows k q l) i = if i = k then none else (lk l i).map (fzI k q)
  | [], i => by simp [fzRows, lk]
  | (j, v) :: l, i => by
    simp only [fzRows]
    split
    · rename_i e; subst e
      rw [lk_fzRows]
      by_cases h : i = j
      · simp [h]
      · simp only [if_neg h, lk]; rw [if_neg (fun e => h e.symm)]
    · rename_i e
      simp only [lk]
      split
      · rename_i e2; subst e2; rw [if_neg e]; rfl
      · exact lk_fzRows k q l i

mutual
theorem fz_below {k : Nat} {r : RowV} (n : Nat) : ∀ x : AV, below n x = true → below n (fz k r x) = true
  | .own i, h => by
    simp only [fz]; split
    · rfl
    · exact h
  | .ptr i o, h => h
  | .elt i a b c, h => h
  | .pre i n, h => h
  | .agg cs, h => by simp only [fz, below] at *; exact fzL_below n cs h
  | .tup cs, h => by simp only [fz, below] at *; exact fzL_below n cs h
  | .fn f cs, h => by simp only [fz, below] at *; exact fzL_below n cs h
  | .cell cs, _ => rfl
  | .dead, _ => rfl
  | .nilS, _ => rfl
  | .bool _, _ => rfl
  | .int _ _, _ => rfl
  | .str _, _ => rfl
  | .ro _, _ => rfl
  | .raw _, _ => rfl
  | .opt _ v, h => by simp only [fz, below] at *; exact fz_below n v h
  | .mp _ _, _ => rfl
theorem fzL_below {k : Nat} {r : RowV} (n : Nat) : ∀ x : List AV, belowL n x = true → belowL n (fzL k r x) = true
  | [], _ => rfl
  | x :: l, h => by
    simp only [belowL, Bool.and_eq_true] at h
    simp [fzL, belowL, fz_below n x h.1, fzL_below n l h.2]
end
mutual
theorem fz_noId {k : Nat} {r : RowV} : ∀ x : AV, noId x = true → fz k r x = x
  | .own i, h => by simp [noId] at h
  | .ptr i o, h => rfl
  | .elt i a b c, h => rfl
  | .pre i n, h => rfl
  | .agg cs, h => by simp only [fz]; rw [fzL_noId cs (by simpa [noId] using h)]
  | .tup cs, h => by simp only [fz]; rw [fzL_noId cs (by simpa [noId] using h)]
  | .fn f cs, h => by simp only [fz]; rw [fzL_noId cs (by simpa [noId] using h)]
  | .cell cs, _ => rfl
  | .dead, _ => rfl
  | .nilS, _ => rfl
  | .bool _, _ => rfl
  | .int _ _, _ => rfl
  | .str _, _ => rfl
  | .ro _, _ => rfl
  | .raw _, _ => rfl
  | .mp _ _, _ => rfl
  | .opt b v, h => by simp only [fz]; rw [fz_noId v (by simpa [noId] using h)]
theorem fzL_noId {k : Nat} {r : RowV} : ∀ x : List AV, noIdL x = true → fzL k r x = x
  | [], _ => rfl
  | x :: l, h => by
    simp only [noIdL, Bool.and_eq_true] at h
    simp only [fzL]; rw [fz_noId x h.1, fzL_noId l h.2]
end
mutual
theorem fz_low (k : Nat) (r : RowV) (b0 : Nat) (hb : b0 ≤ k) : ∀ x : AV, below b0 x = true → fz k r x = x
  | .own i, h => by
    simp only [below, decide_eq_true_eq] at h
    simp only [fz]; rw [if_neg (by omega)]
  | .ptr i o, h => rfl
  | .elt i a b c, h => rfl
  | .pre i n, h => rfl
  | .agg cs, h => by simp only [fz]; rw [fzL_low k r b0 hb cs (by simpa [below] using h)]
  | .tup cs, h => by simp only [fz]; rw [fzL_low k r b0 hb cs (by simpa [below] using h)]
  | .fn f cs, h => by simp only [fz]; rw [fzL_low k r b0 hb cs (by simpa [below] using h)]
  | .cell cs, _ => rfl
  | .dead, _ => rfl
  | .nilS, _ => rfl
  | .bool _, _ => rfl
  | .int _ _, _ => rfl
  | .str _, _ => rfl
  | .ro _, _ => rfl
  | .raw _, _ => rfl
  | .mp _ _, _ => rfl
  | .opt b v, h => by simp only [fz]; rw [fz_low k r b0 hb v (by simpa [below] using h)]
theorem fzL_low (k : Nat) (r : RowV) (b0 : Nat) (hb : b0 ≤ k) : ∀ x : List AV, belowL b0 x = true → fzL k r x = x
  | [], _ => rfl
  | x :: l, h => by
    simp only [belowL, Bool.and_eq_true] at h
    simp only [fzL]; rw [fz_low k r b0 hb x h.1, fzL_low k r b0 hb l h.2]
end
theorem fzLL_noId {k : Nat} {r : RowV} : ∀ l : List (List AV), l.all noIdL = true → l.map (fzL k r) = l
  | [], _ => rfl
  | x :: l, h => by
    simp only [List.all_cons, Bool.and_eq_true] at h
    rw [List.map_cons, fzL_noId x h.1, fzLL_noId l h.2]
structure CtxFz (k : Nat) (r : RowV) (c c' : Ctx) : Prop where
  n : c'.N = c.N
  m : c'.m = c.m
  t : ∀ b, c.T b → b < c.w.heap.size → c'.T b ∧ c'.w.heap[b]? = c.w.heap[b]?
  ro : Rv c' (.ro r) (c.m k)

mutual
theorem Rv.fz {k : Nat} {r : RowV} {c c' : Ctx} (h : CtxFz k r c c') : ∀ {x : AV} {v : Value}, Rv c x v → Rv c' (Fv.fz k r x) v
  | _, _, .dead v => .dead v
  | _, _, .nilS => .nilS
  | _, _, .bool b => .bool b
  | _, _, .int q n hk => .int q n hk
  | _, _, .str s hs => .str s hs
  | _, _, .roNil r hr hi => .roNil r (RowC.noid h.t hr hi) hi
  | _, _, .ro r a len cap cells hr hl hc hm hs hi => .ro r a len cap cells (RowC.noid h.t hr hi) hl hc hm (hs.mono' h.t) hi
  | _, _, .mp ks vs g es clock hk hv hb hc hT hh hi hi2 => .mp ks vs g es clock (RvT.noid h.t hk hi) (RvT.noid h.t hv hi2) hb hc (h.t g hT (Array.getElem?_eq_some_iff.1 hh).1).1 (by rw [(h.t g hT (Array.getElem?_eq_some_iff.1 hh).1).2]; exact hh) hi hi2
  | _, _, .own i hi h1 => by
    simp only [Fv.fz]
    split
    · rename_i e; subst e; exact h.ro
    · rw [← h.m]; exact .own i (by rw [h.n]; exact hi) (by rw [h.m]; exact h1)
  | _, _, .cell cs vs a hl hi hs => .cell cs vs a (RvL.noid h.t hl hi) hi (hs.mono' h.t)
  | _, _, .ptr i off g hi hg => .ptr i off g (by rw [h.n]; exact hi) (by rw [h.m]; exact hg)
  | _, _, .elt i a b d g hi hg => .elt i a b d g (by rw [h.n]; exact hi) (by rw [h.m]; exact hg)
  | _, _, .pre i n l cap a hi hv hn => .pre i n l cap a (by rw [h.n]; exact hi) (by rw [h.m]; exact hv) hn
  | _, _, .agg cs vs hl => .agg _ vs (RvL.fz h hl)
  | _, _, .tup cs vs hl => .tup _ vs (RvT.fz h hl)
  | _, _, .fn f cs vs hl => .fn f _ vs (RvT.fz h hl)
  | _, _, .raw v => .raw v
  | _, _, .opt b x v hb hx h2 => .opt b _ v (by rw [h.n]; exact fz_below _ _ hb) (fun e => Rv.fz h (hx e)) h2
theorem RvL.fz {k : Nat} {r : RowV} {c c' : Ctx} (h : CtxFz k r c c') : ∀ {x : List AV} {v : List Value}, RvL c x v → RvL c' (fzL k r x) v
  | _, _, .nil => .nil
  | _, _, .cons x v l vs hx h1 ht => .cons _ v _ vs (Rv.fz h hx) h1 (RvL.fz h ht)
theorem RvT.fz {k : Nat} {r : RowV} {c c' : Ctx} (h : CtxFz k r c c') : ∀ {x : List AV} {v : List Value}, RvT c x v → RvT c' (fzL k r x) v
  | _, _, .nil => .nil
  | _, _, .cons x v l vs hx ht => .cons _ v _ vs (Rv.fz h hx) (RvT.fz h ht)
end
theorem ObjsC.fz {k : Nat} {r : RowV} {c c' : Ctx} (h : CtxFz k r c c') : ∀ {sz : Nat} {x : List (List AV)} {v : List Value}, ObjsC c sz x v → ObjsC c' sz (x.map (fzL k r)) v
  | _, _, _, .nil sz => .nil sz
  | _, _, _, .cons sz o vs l cells ho hl ht => .cons sz _ vs _ cells (ho.fz h) hl (ht.fz h)
theorem RowC.fz {k : Nat} {q : RowV} {c c' : Ctx} (h : CtxFz k q c c') {x : RowV} {v : List Value} (hr : RowC c x v) : RowC c' (fzR k q x) v := by
  cases hr with
  | bools l => exact .bools l
  | ints k l hk => exact .ints k l hk
  | strs l hs => exact .strs l hs
  | objs sz l cells hz ho => exact .objs sz _ _ hz (ho.fz h)
theorem fzR_len (k : Nat) (q r : RowV) : (fzR k q r).len = r.len := by cases r <;> simp [fzR, RowV.len]
theorem fzR_sz (k : Nat) (q r : RowV) : (fzR k q r).sz = r.sz := by cases r <;> rfl
theorem ItemOk.fz {k : Nat} {q : RowV} {c c' : Ctx} (h : CtxFz k q c c') (hw : c'.w = c.w) {O : Nat → Prop} {v : Value} {it : Item} (hi : ItemOk c O v it) : ItemOk c' O v (fzI k q it) := by
  cases it with
  | row e r =>
    obtain ⟨n, cells, hr, hn, ho, hO⟩ := hi
    exact ⟨n, cells, hr.fz h, by rw [fzR_len]; exact hn, by rw [fzR_sz, hw]; exact ho, hO⟩
  | box e cs => obtain ⟨g, vs, rfl, hg, hl, hh⟩ := hi; exact ⟨g, vs, rfl, hg, hl.fz h, by rw [hw]; exact hh⟩
  | map ks vs => obtain ⟨g, es, clock, rfl, hg, h1, h2, h3, h4, hh⟩ := hi; exact ⟨g, es, clock, rfl, hg, h1.fz h, h2.fz h, h3, h4, by rw [hw]; exact hh⟩
  | iter mp since seen => obtain ⟨g, p, sn, last, rfl, hg, h1, h2, h3, h4, hh⟩ := hi; exact ⟨g, p, sn, last, rfl, hg, by rw [h.n]; exact h1, by rw [h.m]; exact h2, h3, h4, by rw [hw]; exact hh⟩
section
variable {w0 : World} {T0 : Bs} {b0 : Nat}
/-- AN OWNED ROW BECOMES DATA. -/
theorem Ent.fz (k : Nat) {s : S} {e : TypeId} {r : RowV} (hk : lk s.rows k = some (.row e r)) (hid : noIdR r = true) (hb : b0 ≤ k) : Ent w0 T0 b0 s (s.fz k r) := by
  rintro H a w hH ⟨m, hm⟩
  have hsub : ∀ i it, lk (s.fz k r).rows i = some it → i ≠ k ∧ ∃ jt, lk s.rows i = some jt ∧ it = fzI k r jt := by
    intro i it hi
    simp only [S.fz, lk_fzRows] at hi
    split at hi
    · cases hi
    · rename_i hne
      cases hq : lk s.rows i with
      | none => rw [hq] at hi; cases hi
      | some jt => rw [hq] at hi; cases hi; exact ⟨hne, jt, rfl, rfl⟩
  have hdel : ∀ i it, lk (del s.rows k) i = some it → lk s.rows i = some it := del_sub _ _
  have hro := own_ro hm hk hdel (by rw [lk_del, if_pos rfl]) hid
  have hT : ∀ b, allow T0 w0.heap.size m (del s.rows k) b → allow T0 w0.heap.size m (s.fz k r).rows b := by
    rintro b ⟨h1, h2⟩
    refine ⟨h1, fun i it hi e => ?_⟩
    obtain ⟨hne, jt, hj, _⟩ := hsub i it hi
    exact h2 i jt (by rw [lk_del, if_neg hne]; exact hj) e
  have hc : CtxFz k r (ctxOf T0 w0.heap.size m s w) (ctxOf T0 w0.heap.size m (s.fz k r) w) :=
    { n := rfl, m := rfl,
      t := by
        intro b ⟨h1, h2⟩ _
        exact ⟨hT b ⟨h1, fun i it hi => h2 i it (hdel i it hi)⟩, rfl⟩,
      ro := by
        refine Rv.noid (c := ctxOf T0 w0.heap.size m { s with rows := del s.rows k } w) ?_ hro rfl
        intro b hb _
        exact ⟨hT b hb, rfl⟩ }
  refine ⟨m, { size := hm.size, nodef := hm.nodef, below := hm.below, env := ?_, held := ?_, rows := ?_, sep := ?_ }⟩
  · intro q v hv
    simp only [S.fz, lk_fzE] at hv
    cases hq : lk s.env q with
    | none => rw [hq] at hv; cases hv
    | some y => rw [hq] at hv; cases hv; exact (hm.env q y hq).fz hc
  · intro p hp
    have h1 := (hm.held p hp).fz hc
    have h2 : Fv.fz k r p.1 = p.1 := by
      have hlow := hH p hp
      exact fz_low k r b0 hb p.1 hlow
    rwa [h2] at h1
  · intro i it hi
    obtain ⟨hne, jt, hj, rfl⟩ := hsub i it hi
    exact ⟨(hm.rows i jt hj).1, (hm.rows i jt hj).2.fz hc rfl⟩
  · intro i j it jt b hi hj hbi hbj
    obtain ⟨_, it', hi', _⟩ := hsub i it hi
    obtain ⟨_, jt', hj', _⟩ := hsub j jt hj
    exact hm.sep i j it' jt' b hi' hj' hbi hbj
end
attribute [go_sem] fz fzL fzR fzI fzE fzRows S.fz
end Go.Fv

/-
  The set by which states are held against one another.
-/
namespace Go.Fv
set_option linter.unusedSectionVars false
theorem renL_rep (p : Nat → Nat) (x : AV) : ∀ n : Nat, renL p (List.replicate n x) = List.replicate n (ren p x)
  | 0 => rfl
  | n + 1 => by simp only [List.replicate_succ, renL]; rw [renL_rep p x n]
theorem belowL_rep {N : Nat} {x : AV} (h : below N x = true) : ∀ n : Nat, belowL N (List.replicate n x) = true
  | 0 => rfl
  | n + 1 => by simp only [List.replicate_succ, belowL, h, Bool.true_and]; exact belowL_rep h n
theorem noIdL_rep {x : AV} (h : noId x = true) : ∀ n : Nat, noIdL (List.replicate n x) = true
  | 0 => rfl
  | n + 1 => by simp only [List.replicate_succ, noIdL, h, Bool.true_and]; exact noIdL_rep h n
theorem mkL_rep {x : AV} (h : noId x = true) (n : Nat) (y : List AV) : mkL (List.replicate n x) y = [] := mkL_noId _ y (noIdL_rep h n)
theorem belowL_repb (N n : Nat) (b : Bool) : belowL N (List.replicate n (AV.bool b)) = true := belowL_rep rfl n
theorem mkL_repb (n : Nat) (b : Bool) (y : List AV) : mkL (List.replicate n (AV.bool b)) y = [] := mkL_rep rfl n y
attribute [go_sem] mkR_ok mkL_bools rets rets1 retV mkRet tupOf envOk subOk mkRen mkEnv mkRows mkItem mkV mkL pm Item.below AV.own.injEq AV.str.injEq AV.ro.injEq AV.agg.injEq AV.tup.injEq List.cons.injEq Option.some.injEq Item.row.injEq Item.box.injEq RowV.ints.injEq RowV.bools.injEq RowV.strs.injEq RowV.objs.injEq Nat.succ_ne_self renL_rep belowL_repb mkL_repb mkL_boolf
attribute [go_sem] accKeep redoT redoH
end Go.Fv

/-
  Steps of a walk that pay their side conditions by themselves.
-/
namespace Go.Fv
set_option linter.unusedSectionVars false
set_option linter.unusedVariables false
theorem Chk.g {p K : Prop} (k : K) (h : p := by first | omega | (with_reducible refine Chk.intro ?_ ?_ <;> omega) | (simp; done) | (simp; omega)) : Chk p K := ⟨h, k⟩
theorem LetW.g {e : Int} {K : Int → Prop} (kk : K e) (h1 : -9223372036854775808 ≤ e := by omega) (h2 : e ≤ 9223372036854775807 := by omega) : LetW .i64 e K := LetW.i64 h1 h2 kk
theorem LetW.h {e : Int} {K : Int → Prop} (kk : K e) (h1 : 0 ≤ e := by omega) (h2 : e ≤ 255 := by omega) : LetW .u8 e K := LetW.u8 h1 h2 kk
theorem Ite.t {p : Prop} [Decidable p] {x y : Prop} (k : p → x) (h : ¬ p → False := by (intro _; omega)) : @Ite (Decidable.decide p) ⟨x⟩ ⟨y⟩ := Ite.decide k fun h' => (h h').elim
theorem Ite.f {p : Prop} [Decidable p] {x y : Prop} (k : ¬ p → y) (h : p → False := by (intro _; omega)) : @Ite (Decidable.decide p) ⟨x⟩ ⟨y⟩ := Ite.decide (fun h' => (h h').elim) k
/-- A step that asks for nothing: what is to be shown instead. -/
class Stp (p : Prop) (q : outParam Prop) : Prop where
  go : q → p
instance {p K : Prop} : Stp (Asm p K) (p → K) := ⟨Asm.intro⟩
instance {K : Int → Prop} : Stp (@AnyI .i64 ⟨K⟩) (∀ n, (-9223372036854775808 ≤ n ∧ n ≤ 9223372036854775807) → K n) := ⟨AnyI.i64⟩
instance (priority := 900) {b : Bool} {x y : Prop} : Stp (@Ite b ⟨x⟩ ⟨y⟩) ((b = true → x) ∧ (b = false → y)) := ⟨fun h => Ite.bool h.1 h.2⟩
instance {p : Prop} [Decidable p] {x y : Prop} : Stp (@Ite (Decidable.decide p) ⟨x⟩ ⟨y⟩) ((p → x) ∧ (¬ p → y)) := ⟨fun h => Ite.decide h.1 h.2⟩
theorem rs {p q : Prop} [h : Stp p q] (k : q) : p := h.go k
theorem rc {p K : Prop} (k : K) (h : p := by first | omega | (with_reducible refine Chk.intro ?_ ?_ <;> omega) | (simp; done) | (simp; omega)) : Chk p K := ⟨h, k⟩
theorem rl {e : Int} {K : Int → Prop} (k : K e) (h1 : -9223372036854775808 ≤ e := by omega) (h2 : e ≤ 9223372036854775807 := by omega) : LetW .i64 e K := LetW.i64 h1 h2 k
theorem rh {e : Int} {K : Int → Prop} (k : K e) (h1 : 0 ≤ e := by omega) (h2 : e ≤ 255 := by omega) : LetW .u8 e K := LetW.u8 h1 h2 k
theorem rt {p : Prop} [Decidable p] {x y : Prop} (k : p → x) (h : ¬ p → False := by (intro _; omega)) : @Ite (Decidable.decide p) ⟨x⟩ ⟨y⟩ := Ite.decide k fun h' => (h h').elim
theorem rf {p : Prop} [Decidable p] {x y : Prop} (k : ¬ p → y) (h : p → False := by (intro _; omega)) : @Ite (Decidable.decide p) ⟨x⟩ ⟨y⟩ := Ite.decide (fun h' => (h h').elim) k
/-- A call by a contract that hands nothing over. -/
theorem VcCall.k {P : Program} {w0 : World} {T0 : Bs} [hG : GlB P w0 T0] {f : Nat} {args args' : List AV} {out : AV} {s : S} {K : AV → S → Prop} (h : FnOk P f args' out []) (hk : K (ren (fun j => s.next + j) out) (s.after s.rows 0 []))
    (h1 : noRo out = true := by rfl) (h2 : Fv.below 0 out = true := by rfl) (ha : argOkL s.rows args args' := by
      simp only [noIdR_ok, argOkL, argOk, allOk, argOkN, List.drop_zero, lk, reduceIte, reduceCtorEq, Nat.reduceEqDiff, Option.some.injEq, Item.row.injEq, Item.box.injEq, AV.ro.injEq, exists_eq_left, exists_and_left, exists_eq_left', exists_eq_right, and_assoc, and_true, true_and, List.cons.injEq, exists_eq', exists_eq]) :
    @VcCall P w0 T0 f args s ⟨K⟩ := VcCall.fr (FnFr.of_ok h h1 rfl) ha 0 h2 trivial hk
end Go.Fv

/-
  Calls into the callee's code: what it writes into memory that the caller owns is seen by the caller.
-/
namespace Go.Fv
set_option linter.unusedSectionVars false
open Go.RowKit
set_option linter.unusedVariables false
set_option linter.unusedSimpArgs false
set_option linter.unnecessarySimpa false

/-- Where the callee ends: the caller goes on with its results, its own slots as they were. -/
def InlPost (P : Program) (res : List ResultVar) (s : S) (K : AV → S → Prop) : Exit → S → Prop
  | .normal, s1 => rets P s1 res (fun vs => K (tupOf vs) { s with rows := s1.rows, next := s1.next })
  | .ret, s1 => rets P s1 res (fun vs => K (tupOf vs) { s with rows := s1.rows, next := s1.next })
  | _, _ => False

section
variable {P : Program} {w0 : World} {T0 : Bs}

/-- A CALL, by the callee's own code. -/
theorem VcCall.inl {f : Nat} {fn : Func} {c : Code} {args : List AV} {s : S} {K : AV → S → Prop} (hf : P.funcs[f]? = some fn) (hb : fn.body = some c)
    (hnm : (fn.name == "runtime.NumGoroutine") = false) (hn : args.length ≤ fn.ntmps) (res : List ResultVar) (hres : fn.results = res.toArray)
    (h : VcRun P w0 T0 s.next c ⟨fn.ntmps, argEnv 0 args, s.rows, s.next⟩ (InlPost P res s K)) : @VcCall P w0 T0 f args s ⟨K⟩ := by
  refine ⟨⟨fn, hf, by rw [hb]; rfl, hnm⟩, fun H a w m vals hm hv => ?_⟩
  refine calls_of_wp hf hb ?_
  have hlen := hv.length
  have hE : ∀ p, p ∈ (s.env.map fun p => (s.get p.1, a.tmps.getD p.1 undef)) ++ H → Rv (ctxOf T0 w0.heap.size m s w) p.1 p.2 := by
    intro p hp
    rcases List.mem_append.1 hp with hp | hp
    · obtain ⟨q, _, rfl⟩ := List.mem_map.1 hp
      show Rv _ (s.get q.1) _
      unfold S.get
      cases hl : lk s.env q.1 with
      | none => exact .dead _
      | some y => exact hm.env q.1 y hl
    · exact hm.held p hp
  have hrep : RepM w0 T0 ((s.env.map fun p => (s.get p.1, a.tmps.getD p.1 undef)) ++ H) ⟨fn.ntmps, argEnv 0 args, s.rows, s.next⟩ { tmps := vals.toArray ++ Array.replicate (fn.ntmps - vals.toArray.size) undef, defers := [] } w m :=
    { size := by simp; omega, nodef := rfl, below := hm.below,
      env := by
        intro r v hr
        obtain ⟨u, h1, h2⟩ := argEnv_rv 0 [] rfl hv r v hr
        have e : ((vals.toArray ++ Array.replicate (fn.ntmps - vals.toArray.size) undef).getD r undef) = u := by
          have h1' : vals[r]? = some u := by simpa using h1
          have hlt : r < vals.length := (List.getElem?_eq_some_iff.1 h1').1
          rw [Array.getD_eq_getD_getElem?, Array.getElem?_append_left (by simpa using hlt)]
          simp [h1']
        rw [e]; exact h2,
      held := hE, rows := hm.rows, sep := hm.sep }
  refine wp_mono (h _ _ w (fun p hp => (hE p hp).ids) ⟨m, hrep⟩) ?_
  rintro e a1 w1 ⟨s1, hq, m1, hm1⟩
  have fin : rets P s1 res (fun vs => K (tupOf vs) { s with rows := s1.rows, next := s1.next }) → a1.defers = [] ∧ ∃ v, (results fn a1.tmps).run P w1 = .ok v w1 ∧ ∃ v', Ending.returned v = .returned v' ∧ ∃ r s', K r s' ∧ Rep w0 T0 ((r, v') :: H) s' a w1 := by
    intro hk
    obtain ⟨l, vs, hk, hr, hvs⟩ := rets_run hm1 hk
    have hrv : Rv (ctxOf T0 w0.heap.size m1 s1 w1) (tupOf l) (tupV vs) := by
      cases hvs with
      | nil => exact .tup _ _ .nil
      | cons x v l us hx ht =>
        cases ht with
        | nil => exact hx
        | cons x' v' l' us' hx' ht' => exact .tup _ _ (.cons _ _ _ _ hx (.cons _ _ _ _ hx' ht'))
    refine ⟨hm1.nodef, _, results_list hres a1.tmps hr, _, rfl, _, _, hk, m1, ?_⟩
    exact { size := hm.size, nodef := hm.nodef, below := hm1.below,
            env := by
              intro r v hv
              have hmem : (s.get r, a.tmps.getD r undef) ∈ (s.env.map fun p => (s.get p.1, a.tmps.getD p.1 undef)) ++ H :=
                List.mem_append.2 (.inl (List.mem_map.2 ⟨(r, v), lk_mem hv, rfl⟩))
              have := hm1.held _ hmem
              have e : s.get r = v := by unfold S.get; rw [show lk s.env r = some v from hv]
              rw [e] at this; exact this,
            held := by
              intro p hp
              cases List.mem_cons.1 hp with
              | inl e => subst e; exact hrv
              | inr e => exact hm1.held p (List.mem_append.2 (.inr e)),
            rows := hm1.rows, sep := hm1.sep }
  cases e with
  | normal => exact fin hq
  | ret => exact fin hq
  | _ => exact hq.elim
end
end Go.Fv

/-
  Contracts of functions that are given memory, which they turn and hand back.
-/
namespace Go.Fv
set_option linter.unusedSectionVars false
open Go.RowKit
set_option linter.unusedVariables false
set_option linter.unusedSimpArgs false
set_option linter.unnecessarySimpa false

def GivenOk (w : World) (T g : Nat → Prop) (m0 : Nat → Value) (k : Nat) (rows0 : List (Nat × Item)) : Prop :=
  (∀ i it, lk rows0 i = some it → i < k ∧ ItemOk ⟨w, T, m0, k⟩ g (m0 i) it) ∧
  (∀ i j it jt b, lk rows0 i = some it → lk rows0 j = some jt → blk (m0 i) = some b → blk (m0 j) = some b → i = j) ∧
  (∀ b, T b → ¬ g b)

/-- The function is given the memory 'rows0' under the names below 'k', turns it, and returns 'out'; 'rows': what stands then. -/
def FnIO (P : Program) (f : Nat) (args : List AV) (rows0 : List (Nat × Item)) (k : Nat) (out : AV) (rows : List (Nat × Item)) : Prop :=
  Enter P f ∧ ∀ (w : World) (T g : Nat → Prop) (m0 : Nat → Value) (vals : List Value), GivenOk w T g m0 k rows0 → GlOk P w → (∀ (b : Nat) (q : IntKind), intGl P b = some q → ¬ g b) → RvT ⟨w, T, m0, k⟩ args vals →
    Calls P f vals.toArray w fun e w' => ∃ v, e = .returned v ∧ BelowG g w w' ∧ ∃ m N, (∀ i, i < k → m i = m0 i) ∧ k ≤ N ∧
      Rv ⟨w', allow ⟨fun b => T b ∨ g b, g⟩ w.heap.size m rows, m, N⟩ out v ∧
      (∀ i it, lk rows i = some it → i < N ∧ ItemOk ⟨w', allow ⟨fun b => T b ∨ g b, g⟩ w.heap.size m rows, m, N⟩ (ownB ⟨fun b => T b ∨ g b, g⟩ w.heap.size) (m i) it) ∧
      (∀ i j it jt b, lk rows i = some it → lk rows j = some jt → blk (m i) = some b → blk (m j) = some b → i = j)

section
variable {P : Program} {w0 : World} {T0 : Bs}

/-- Where such a function ends. -/
def RetK (P : Program) (w0 : World) (T0 : Bs) (k : Nat) (res : List ResultVar) (out : AV) (rows : List (Nat × Item)) (s : S) : Prop :=
  ∀ (H : List (AV × Value)) (a : Act) (w : World), HeldB k H → Rep w0 T0 H s a w → ∃ v, (∀ (fn : Func), fn.results = res.toArray → (results fn a.tmps).run P w = .ok v w) ∧
    ∃ m N, k ≤ N ∧ (∀ p, p ∈ H → Rv ⟨w, allow T0 w0.heap.size m rows, m, N⟩ p.1 p.2) ∧ Rv ⟨w, allow T0 w0.heap.size m rows, m, N⟩ out v ∧
      (∀ i it, lk rows i = some it → i < N ∧ ItemOk ⟨w, allow T0 w0.heap.size m rows, m, N⟩ (ownB T0 w0.heap.size) (m i) it) ∧
      (∀ i j it jt b, lk rows i = some it → lk rows j = some jt → blk (m i) = some b → blk (m j) = some b → i = j)
def PostK (P : Program) (w0 : World) (T0 : Bs) (k : Nat) (res : List ResultVar) (out : AV) (rows : List (Nat × Item)) : Exit → S → Prop
  | .normal, s => RetK P w0 T0 k res out rows s
  | .ret, s => RetK P w0 T0 k res out rows s
  | _, _ => False
@[congr] theorem RetK_congr {k : Nat} {res : List ResultVar} {out : AV} {rows : List (Nat × Item)} {s s' : S} (h : s = s') : RetK P w0 T0 k res out rows s = RetK P w0 T0 k res out rows s' := by rw [h]

theorem RetK.of {k : Nat} (l : List (Nat × Nat)) (N : Nat) (hl : ∀ x, x ∈ l → k ≤ x.1) (hk : k ≤ N) {res : List ResultVar} {out : AV} {rows : List (Nat × Item)} {s : S} (h : rets P s res (fun vs => tupOf vs = ren (pm l) out)) (hb : Fv.below N out = true) (hr : subOk (pm l) s.rows N rows) : RetK P w0 T0 k res out rows s := by
  rintro H a w hH ⟨m, hm⟩
  obtain ⟨vs, us, he, hrun, hvs⟩ := rets_run hm h
  have hlow : ∀ i, i < k → pm l i = i := by
    intro i hi
    unfold pm
    cases h : lk l i with
    | none => rfl
    | some j => have := hl _ (lk_mem h); simp at this; omega
  have hrv : Rv (ctxOf T0 w0.heap.size m s w) (tupOf vs) (tupV us) := by
    cases hvs with
    | nil => exact .tup _ _ .nil
    | cons x v l us hx ht =>
      cases ht with
      | nil => exact hx
      | cons x' v' l' us' hx' ht' => exact .tup _ _ (.cons _ _ _ _ hx (.cons _ _ _ _ hx' ht'))
  have hren : CtxRen (pm l) (ctxOf T0 w0.heap.size m s w) ⟨w, allow T0 w0.heap.size (fun i => m (pm l i)) rows, fun i => m (pm l i), N⟩ :=
    { m := fun _ _ => rfl,
      t := by
        intro b ⟨h1, h2⟩ _
        refine ⟨⟨h1, fun i it hi e => ?_⟩, rfl⟩
        obtain ⟨_, h3, _⟩ := subOk_mem hr i it (lk_mem hi)
        exact h2 _ _ h3 e }
  refine ⟨_, fun fn hf => results_list hf a.tmps hrun, fun i => m (pm l i), N, hk, fun p hp => ?_, Rv.ren hren out hb (by rw [← he]; exact hrv), fun i it hi => ?_, fun i j it jt b hi hj hbi hbj => ?_⟩
  · have h1 := hH p hp
    refine Rv.ren hren p.1 (below_le hk _ h1) ?_
    rw [ren_low hlow _ h1]; exact hm.held p hp
  · obtain ⟨h1, h2, h3⟩ := subOk_mem hr i it (lk_mem hi)
    exact ⟨h1, ItemOk.ren hren rfl h3 (hm.rows _ _ h2).2⟩
  · obtain ⟨_, h2, _⟩ := subOk_mem hr i it (lk_mem hi)
    obtain ⟨_, h2', _⟩ := subOk_mem hr j jt (lk_mem hj)
    exact subOk_inj hr i j it jt (lk_mem hi) (lk_mem hj) (hm.sep _ _ _ _ b h2 h2' hbi hbj)
theorem RetK.auto {k : Nat} (N : Nat) (hk : k ≤ N) {res : List ResultVar} {out : AV} {rows : List (Nat × Item)} {s : S} (h : rets P s res (fun vs => tupOf vs = ren (pm (fromL k (mkRet s res out rows))) out)) (hb : Fv.below N out = true) (hr : subOk (pm (fromL k (mkRet s res out rows))) s.rows N rows) : RetK P w0 T0 k res out rows s :=
  RetK.of _ N (fromL_ge k _) hk h hb hr

theorem ItemOk.oneCell {c : Ctx} {O : Nat → Prop} {v : Value} {it : Item} (h : ItemOk c O v it) : v.oneCell' = true := by
  cases it with
  | row e r =>
    obtain ⟨n, cells, _, _, ho, _⟩ := h
    rcases ho.2 with ⟨rfl, _⟩ | ⟨g, cap, cur, fz, rfl, _⟩ <;> rfl
  | box e cs => obtain ⟨g, vs, rfl, _⟩ := h; rfl
  | map ks vs => obtain ⟨g, es, clock, rfl, _⟩ := h; rfl
  | iter mp since seen => obtain ⟨g, q, sn, last, rfl, _⟩ := h; rfl

/-- SUCH A CONTRACT, out of the walk over its code. -/
theorem FnIO.of_run {f : Nat} {fn : Func} {c : Code} {args : List AV} {rows0 : List (Nat × Item)} {k : Nat} {out : AV} {rows : List (Nat × Item)} (hf : P.funcs[f]? = some fn) (hb : fn.body = some c)
    (hnm : (fn.name == "runtime.NumGoroutine") = false) (hn : args.length ≤ fn.ntmps) (hcov : ∀ j, j < k → ∃ it, lk rows0 j = some it) (res : List ResultVar) (hres : fn.results = res.toArray)
    (h : ∀ (w0 : World) (T0 : Bs) [GlB P w0 T0], VcRun P w0 T0 k c ⟨fn.ntmps, argEnv 0 args, rows0, k⟩ (PostK P w0 T0 k res out rows)) : FnIO P f args rows0 k out rows := by
  refine ⟨⟨fn, hf, by rw [hb]; rfl, hnm⟩, fun w T g m0 vals hG hgl hgg hv => ?_⟩
  haveI : GlB P w ⟨fun b => T b ∨ g b, g⟩ := ⟨hgl, fun b q hq h => hgg b q hq h.1⟩
  obtain ⟨hrows, hsep, hTg⟩ := hG
  refine calls_of_wp hf hb ?_
  have hlen := hv.length
  have hle : CtxLe (⟨w, T, m0, k⟩ : Ctx) (ctxOf ⟨fun b => T b ∨ g b, g⟩ w.heap.size m0 ⟨fn.ntmps, argEnv 0 args, rows0, k⟩ w) :=
    ⟨Nat.le_refl _, fun _ _ => rfl, fun b hb _ => ⟨⟨.inr (.inl hb), fun i it hi e => hTg b hb ((hrows i it hi).2.blk b e).1⟩, rfl⟩⟩
  have hrep : RepM w ⟨fun b => T b ∨ g b, g⟩ (rows0.map fun p => (.own p.1, m0 p.1)) ⟨fn.ntmps, argEnv 0 args, rows0, k⟩ { tmps := vals.toArray ++ Array.replicate (fn.ntmps - vals.toArray.size) undef, defers := [] } w m0 :=
    { size := by simp; omega, nodef := rfl, below := BelowG.refl _ _,
      env := by
        intro r v hr
        obtain ⟨u, h1, h2⟩ := argEnv_rv 0 [] rfl hv r v hr
        have e : ((vals.toArray ++ Array.replicate (fn.ntmps - vals.toArray.size) undef).getD r undef) = u := by
          have h1' : vals[r]? = some u := by simpa using h1
          have hlt : r < vals.length := (List.getElem?_eq_some_iff.1 h1').1
          rw [Array.getD_eq_getD_getElem?, Array.getElem?_append_left (by simpa using hlt)]
          simp [h1']
        rw [e]; exact h2.mono hle,
      held := by
        intro p hp
        obtain ⟨q, hq, rfl⟩ := List.mem_map.1 hp
        obtain ⟨it, hit⟩ := lk_some hq
        obtain ⟨h1, h2⟩ := hrows _ _ hit
        exact .own q.1 h1 h2.oneCell,
      rows := fun i it hi => ⟨(hrows i it hi).1, (((hrows i it hi).2).mono hle fun _ _ => rfl).own fun b hb => .inr ⟨hb, .inr hb⟩⟩, sep := hsep }
  have hH : HeldB k (rows0.map fun p => (AV.own p.1, m0 p.1)) := by
    intro p hp
    exact (hrep.held p hp).ids
  refine wp_mono (h w _ _ _ w hH ⟨_, hrep⟩) ?_
  rintro e a w' ⟨s', hq, hr⟩
  have fin : RetK P w ⟨fun b => T b ∨ g b, g⟩ k res out rows s' → a.defers = [] ∧ ∃ v, (results fn a.tmps).run P w' = .ok v w' ∧ ∃ v', Ending.returned v = .returned v' ∧ BelowG g w w' ∧ ∃ m N, (∀ i, i < k → m i = m0 i) ∧ k ≤ N ∧
      Rv ⟨w', allow ⟨fun b => T b ∨ g b, g⟩ w.heap.size m rows, m, N⟩ out v' ∧
      (∀ i it, lk rows i = some it → i < N ∧ ItemOk ⟨w', allow ⟨fun b => T b ∨ g b, g⟩ w.heap.size m rows, m, N⟩ (ownB ⟨fun b => T b ∨ g b, g⟩ w.heap.size) (m i) it) ∧
      (∀ i j it jt b, lk rows i = some it → lk rows j = some jt → blk (m i) = some b → blk (m j) = some b → i = j) := by
    intro hret
    obtain ⟨v, hv, m, N, hkN, hheld, hout, hit, hsp⟩ := hret _ a w' hH hr
    obtain ⟨m', hm⟩ := hr
    refine ⟨hm.nodef, v, hv fn hres, v, rfl, hm.below.mono fun b hb => hb.1, m, N, fun i hi => ?_, hkN, hout, hit, hsp⟩
    obtain ⟨it, hi'⟩ := hcov i hi
    have := hheld (.own i, m0 i) (List.mem_map.2 ⟨(i, it), lk_mem hi', rfl⟩)
    generalize hmi : m0 i = mi at this
    cases this
    rfl
  cases e with
  | normal => exact fin hq
  | ret => exact fin hq
  | _ => exact hq.elim
theorem FnIO.of_vc {f : Nat} {fn : Func} {c : Code} {args : List AV} {rows0 : List (Nat × Item)} {k : Nat} {out : AV} {rows : List (Nat × Item)} (hf : P.funcs[f]? = some fn) (hb : fn.body = some c)
    (hnm : (fn.name == "runtime.NumGoroutine") = false) (hn : args.length ≤ fn.ntmps) (hcov : ∀ j, j < k → ∃ it, lk rows0 j = some it) (res : List ResultVar) (hres : fn.results = res.toArray)
    (h : ∀ (w0 : World) (T0 : Bs) [GlB P w0 T0], vcCode P w0 T0 k c (PostK P w0 T0 k res out rows) ⟨fn.ntmps, argEnv 0 args, rows0, k⟩) : FnIO P f args rows0 k out rows :=
  .of_run hf hb hnm hn hcov res hres fun w0 T0 => .of (h w0 T0)

/-! ### The call -/
/-- The caller's name for a given one: the j-th of 'ids'; new names behind all that the caller has. -/
def ioN (ids : List Nat) (next : Nat) (j : Nat) : Nat := match ids[j]? with | some i => i | none => next + (j - ids.length)
def ioRows (p : Nat → Nat) : List (Nat × Item) → List (Nat × Item)
  | [] => []
  | (i, it) :: l => (p i, it.ren p) :: ioRows p l
def delL {α : Type} : List (Nat × α) → List Nat → List (Nat × α)
  | l, [] => l
  | l, i :: is => delL (del l i) is
theorem lk_delL {α : Type} : ∀ (is : List Nat) (l : List (Nat × α)) (j : Nat), lk (delL l is) j = if j ∈ is then none else lk l j
  | [], l, j => by simp [delL]
  | i :: is, l, j => by
    simp only [delL]
    rw [lk_delL is, lk_del]
    by_cases h1 : j ∈ is
    · simp [h1]
    · by_cases h2 : j = i <;> simp [h1, h2]
def S.ioS (s : S) (ids : List Nat) (N : Nat) (rows : List (Nat × Item)) : S := { s with rows := ioRows (ioN ids s.next) rows ++ delL s.rows ids, next := s.next + (N - ids.length) }

theorem lk_ioRows_of {p : Nat → Nat} {S : Nat → Prop} (hp : ∀ i j, S i → S j → p i = p j → i = j) : ∀ {l : List (Nat × Item)}, (∀ x, x ∈ l → S x.1) → ∀ {i : Nat} {it : Item}, lk (ioRows p l) i = some it → ∃ j jt, i = p j ∧ lk l j = some jt ∧ it = jt.ren p
  | (j, jt) :: l, hS, i, it, h => by
    simp only [ioRows, lk] at h
    split at h
    · rename_i e; cases h; exact ⟨j, jt, e.symm, by simp [lk], rfl⟩
    · rename_i e
      obtain ⟨q, qt, h1, h2, h3⟩ := lk_ioRows_of hp (fun x hx => hS x (.tail _ hx)) h
      refine ⟨q, qt, h1, ?_, h3⟩
      simp only [lk]; rw [if_neg (fun e' => e (by rw [h1, e']))]; exact h2
theorem nodup_get : ∀ {l : List Nat} {i j a : Nat}, l.Nodup → l[i]? = some a → l[j]? = some a → i = j := by
  intro l i j a hd hi hj
  exact (List.getElem?_inj (List.getElem?_eq_some_iff.1 hi).1 hd).1 (hi.trans hj.symm)

/-- What is given of the caller's memory. -/
def ioG (ids : List Nat) (next : Nat) (rows0 : List (Nat × Item)) (m : Nat → Value) (b : Nat) : Prop := ∃ j it, lk rows0 j = some it ∧ blk (m (ioN ids next j)) = some b
/-- Where such a call ends. -/
def IoPost (w : World) (T g : Nat → Prop) (m0 : Nat → Value) (k : Nat) (out : AV) (rows : List (Nat × Item)) (e : Ending) (w' : World) : Prop :=
  ∃ v, e = .returned v ∧ BelowG g w w' ∧ ∃ m N, (∀ i, i < k → m i = m0 i) ∧ k ≤ N ∧
      Rv ⟨w', allow ⟨fun b => T b ∨ g b, g⟩ w.heap.size m rows, m, N⟩ out v ∧
      (∀ i it, lk rows i = some it → i < N ∧ ItemOk ⟨w', allow ⟨fun b => T b ∨ g b, g⟩ w.heap.size m rows, m, N⟩ (ownB ⟨fun b => T b ∨ g b, g⟩ w.heap.size) (m i) it) ∧
      (∀ i j it jt b, lk rows i = some it → lk rows j = some jt → blk (m i) = some b → blk (m j) = some b → i = j)
theorem VcCall.ioCore [hgb : GlB P w0 T0] {f : Nat} {args : List AV} {rows0 : List (Nat × Item)} {out : AV} {rows : List (Nat × Item)} {s : S} {K : AV → S → Prop} (ids : List Nat) (hE : Enter P f) (hd : ids.Nodup)
    (hcall : ∀ (H : List (AV × Value)) (a : Act) (w : World) (m : Nat → Value) (vals : List Value), RepM w0 T0 H s a w m → RvT (ctxOf T0 w0.heap.size m s w) args vals →
      GivenOk w (allow T0 w0.heap.size m s.rows) (ioG ids s.next rows0 m) (fun j => m (ioN ids s.next j)) ids.length rows0 → (∀ (b : Nat) (q : IntKind), intGl P b = some q → ¬ ioG ids s.next rows0 m b) →
      Calls P f vals.toArray w (IoPost w (allow T0 w0.heap.size m s.rows) (ioG ids s.next rows0 m) (fun j => m (ioN ids s.next j)) ids.length out rows))
    (h0 : subOk (ioN ids s.next) s.rows ids.length rows0) (hcov : ∀ j, j < ids.length → ∃ it, lk rows0 j = some it) (N : Nat) (hkN : ids.length ≤ N) (hN : Fv.below N out = true) (hNr : rowsB N rows)
    (hk : K (ren (ioN ids s.next) out) (s.ioS ids N rows)) : @VcCall P w0 T0 f args s ⟨K⟩ := by
  refine ⟨hE, fun H a w m vals hm hv => ?_⟩
  have hp1 : ∀ j, j < ids.length → ∃ i, ids[j]? = some i ∧ ioN ids s.next j = i := fun j hj => ⟨ids[j], List.getElem?_eq_getElem hj, by simp [ioN, List.getElem?_eq_getElem hj]⟩
  have hp2 : ∀ j, ids.length ≤ j → ioN ids s.next j = s.next + (j - ids.length) := fun j hj => by simp [ioN, List.getElem?_eq_none hj]
  have h0' : ∀ j it, lk rows0 j = some it → j < ids.length ∧ lk s.rows (ioN ids s.next j) = some (it.ren (ioN ids s.next)) ∧ it.below ids.length = true := fun j it hj => subOk_mem h0 j it (lk_mem hj)
  have hmem : ∀ i, i ∈ ids → ∃ j it, j < ids.length ∧ ioN ids s.next j = i ∧ lk rows0 j = some it := by
    intro i hi
    obtain ⟨j, hj, e⟩ := List.getElem_of_mem hi
    obtain ⟨it, hit⟩ := hcov j hj
    exact ⟨j, it, hj, by simp [ioN, List.getElem?_eq_getElem hj, e], hit⟩
  have hsrc : ∀ j, j < ids.length → ioN ids s.next j < s.next := fun j hj => by
    obtain ⟨it, hit⟩ := hcov j hj
    exact (hm.rows _ _ (h0' j it hit).2.1).1
  have hinj : ∀ i j, ioN ids s.next i = ioN ids s.next j → i = j := by
    intro i j e
    by_cases hi : i < ids.length <;> by_cases hj : j < ids.length
    · obtain ⟨x, hx, ex⟩ := hp1 i hi
      obtain ⟨y, hy, ey⟩ := hp1 j hj
      rw [ex, ey] at e; subst e
      exact nodup_get hd hx hy
    · have := hsrc i hi; rw [e, hp2 j (by omega)] at this; omega
    · have := hsrc j hj; rw [← e, hp2 i (by omega)] at this; omega
    · rw [hp2 i (by omega), hp2 j (by omega)] at e; omega
  let T : Nat → Prop := allow T0 w0.heap.size m s.rows
  let g : Nat → Prop := fun b => ∃ j it, lk rows0 j = some it ∧ blk (m (ioN ids s.next j)) = some b
  let m0 : Nat → Value := fun j => m (ioN ids s.next j)
  have hctx : CtxRen (ioN ids s.next) (ctxOf T0 w0.heap.size m s w) ⟨w, T, m0, ids.length⟩ := ⟨fun _ _ => rfl, fun b hb _ => ⟨hb, rfl⟩⟩
  have hown : ∀ i it, lk s.rows i = some it → ∀ b, blk (m i) = some b → ownB T0 w0.heap.size b ∧ b < w.heap.size := fun i it hi b hb => (hm.rows i it hi).2.blk b hb
  have hG : GivenOk w T g m0 ids.length rows0 := by
    refine ⟨fun j it hj => ?_, fun i j it jt b hi hj hbi hbj => ?_, fun b hb hg => ?_⟩
    · obtain ⟨h1, h2, h3⟩ := h0' j it hj
      refine ⟨h1, (ItemOk.ren hctx rfl h3 (hm.rows _ _ h2).2).blkOwn fun b hb => ⟨j, it, hj, hb⟩⟩
    · obtain ⟨_, h2, _⟩ := h0' i it hi
      obtain ⟨_, h2', _⟩ := h0' j jt hj
      exact hinj i j (hm.sep _ _ _ _ b h2 h2' hbi hbj)
    · obtain ⟨j, it, hj, hbj⟩ := hg
      exact hb.2 _ _ (h0' j it hj).2.1 hbj
  have hgg : ∀ (b : Nat) (q : IntKind), intGl P b = some q → ¬ g b := by
    rintro b q hq ⟨j, it, hj, hb⟩
    obtain ⟨n, t, _, hh⟩ := hgb.ok b q hq
    have hlt := (Array.getElem?_eq_some_iff.1 hh).1
    rcases (hown _ _ (h0' j it hj).2.1 b hb).1 with h | h
    · omega
    · exact hgb.ng b q hq h
  refine (hcall H a w m vals hm hv hG hgg).mono ?_
  rintro e w' ⟨v, rfl, hbel, mo, No, hmo, hkNo, hout, hrows, hsep⟩
  refine ⟨v, rfl, _, _, hk, ?_⟩
  have hgs : ∀ b, g b → (∃ i it, lk s.rows i = some it ∧ blk (m i) = some b) := fun b ⟨j, it, hj, hb⟩ => ⟨_, _, (h0' j it hj).2.1, hb⟩
  have hNr' := rowsB_lk hNr
  have hitem : ∀ i it, lk rows i = some it → ItemOk ⟨w', allow ⟨fun b => T b ∨ g b, g⟩ w.heap.size mo rows, mo, N⟩ (ownB ⟨fun b => T b ∨ g b, g⟩ w.heap.size) (mo i) it := fun i it hi => ((hrows i it hi).2).cut (hNr' i it hi).2
  let m2 : Nat → Value := fun i => if i < s.next then m i else mo (ids.length + (i - s.next))
  have hm2 : ∀ i, i < s.next → m2 i = m i := fun i hi => if_pos hi
  have hm3 : ∀ j, m2 (ioN ids s.next j) = mo j := fun j => by
    by_cases hj : j < ids.length
    · rw [hm2 _ (hsrc j hj)]; exact (hmo j hj).symm
    · rw [hp2 j (by omega)]
      show (if s.next + (j - ids.length) < s.next then _ else _) = _
      rw [if_neg (by omega)]; congr 1; omega
  have hlt : ∀ i it, lk s.rows i = some it → i < s.next := fun i it hi => (hm.rows i it hi).1
  have hrest : ∀ i it, lk (delL s.rows ids) i = some it → i ∉ ids ∧ lk s.rows i = some it := by
    intro i it hi
    rw [lk_delL] at hi
    split at hi
    · cases hi
    · rename_i e; exact ⟨e, hi⟩
  have hcases : ∀ i it, lk (s.ioS ids N rows).rows i = some it → (∃ j jt, i = ioN ids s.next j ∧ lk rows j = some jt ∧ it = jt.ren (ioN ids s.next)) ∨ (i ∉ ids ∧ lk s.rows i = some it) := by
    intro i it hi
    have hi' : lk (ioRows (ioN ids s.next) rows ++ delL s.rows ids) i = some it := hi
    rw [lk_append] at hi'
    cases hq : lk (ioRows (ioN ids s.next) rows) i with
    | some y =>
      rw [hq] at hi'; cases hi'
      exact .inl (lk_ioRows_of (S := fun _ => True) (fun i j _ _ e => hinj i j e) (fun _ _ => trivial) hq)
    | none => rw [hq] at hi'; exact .inr (hrest i it hi')
  have hnotg : ∀ i it, i ∉ ids → lk s.rows i = some it → ∀ b, blk (m i) = some b → ¬ g b := by
    rintro i it hni hi b hb ⟨j, jt, hj, hbj⟩
    obtain ⟨h1, h2, _⟩ := h0' j jt hj
    have := hm.sep _ _ _ _ b hi h2 hb hbj
    obtain ⟨x, hx, ex⟩ := hp1 j h1
    exact hni (by rw [this, ex]; exact List.mem_of_getElem? hx)
  have hnewB : ∀ j jt, lk rows j = some jt → ∀ b, blk (mo j) = some b → w.heap.size ≤ b ∨ g b := fun j jt hj b hbl => (((hrows j jt hj).2.blk b hbl).1).imp id (·.1)
  have hle : CtxLe (ctxOf T0 w0.heap.size m s w) (ctxOf T0 w0.heap.size m2 (s.ioS ids N rows) w') := by
    refine ⟨Nat.le_add_right _ _, hm2, ?_⟩
    intro b hb hltb
    have hbg : ¬ g b := fun hg => by
      obtain ⟨i, it, hi, hbi⟩ := hgs b hg
      exact hb.2 i it hi hbi
    refine ⟨⟨hb.1, fun i it hi e => ?_⟩, hbel.block b hltb hbg⟩
    rcases hcases i it hi with ⟨j, jt, rfl, hj, _⟩ | ⟨hni, hi'⟩
    · rw [hm3] at e
      rcases hnewB j jt hj b e with h | h
      · have hlt2 : b < w.heap.size := hltb; omega
      · exact hbg h
    · rw [hm2 i (hlt i it hi')] at e; exact hb.2 i it hi' e
  have hsh : CtxSh (ioN ids s.next) (⟨w', allow ⟨fun b => T b ∨ g b, g⟩ w.heap.size mo rows, mo, N⟩ : Ctx) (ctxOf T0 w0.heap.size m2 (s.ioS ids N rows) w') := by
    refine ⟨fun i hi => ?_, fun i _ => hm3 i, ?_⟩
    · show ioN ids s.next i < s.next + (N - ids.length)
      by_cases hj : i < ids.length
      · have := hsrc i hj; omega
      · rw [hp2 i (by omega)]; have : i < N := hi; omega
    intro b ⟨h1, h2⟩ _
    have hlt0 := hm.lt
    have hb1 : w0.heap.size ≤ b ∨ T0.a b := by
      rcases h1 with h1 | h1 | h1
      · exact .inl (by omega)
      · exact h1.1
      · obtain ⟨i, it, hi, hbi⟩ := hgs b h1
        exact ((hown i it hi b hbi).1).imp id (·.2)
    refine ⟨⟨hb1, fun i it hi e => ?_⟩, rfl⟩
    rcases hcases i it hi with ⟨j, jt, rfl, hj, _⟩ | ⟨hni, hi'⟩
    · rw [hm3] at e; exact h2 j jt hj e
    · rw [hm2 i (hlt i it hi')] at e
      rcases h1 with h1 | h1 | h1
      · have := (hown i it hi' b e).2; omega
      · exact h1.2 i it hi' e
      · exact hnotg i it hni hi' b e h1
  have hOO : ∀ b, ownB ⟨fun b => T b ∨ g b, g⟩ w.heap.size b → ownB T0 w0.heap.size b := fun b hb => by
    rcases hb with hb | hb
    · exact .inl (Nat.le_trans hm.lt hb)
    · obtain ⟨i, it, hi, hbi⟩ := hgs b hb.1
      exact (hown i it hi b hbi).1
  refine ⟨m2, RepM.hold (s := s.ioS ids N rows) ?_ ((hout.cut hN).shift hsh)⟩
  refine { size := hm.size, nodef := hm.nodef, below := ?_, env := fun r u hu => (hm.env r u hu).mono hle, held := fun q hq => (hm.held q hq).mono hle, rows := ?_, sep := ?_ }
  · refine hm.below.step hbel.os hbel.tape hbel.output hbel.size (fun b hb hn => hbel.block b (Nat.lt_of_lt_of_le hb hm.lt) fun hg => ?_) hbel.drawn
    obtain ⟨i, it, hi, hbi⟩ := hgs b hg
    rcases (hown i it hi b hbi).1 with h | h
    · omega
    · exact hn h
  · intro i it hi
    rcases hcases i it hi with ⟨j, jt, rfl, hj, rfl⟩ | ⟨hni, hi'⟩
    · refine ⟨hsh.n j (hNr' j jt hj).1, ?_⟩
      rw [hm3]
      exact (hitem j jt hj).shift hsh rfl hOO
    · have hl := hlt i it hi'
      refine ⟨by show i < s.next + _; omega, ?_⟩
      rw [hm2 i hl]
      exact ((hm.rows i it hi').2).mono hle fun b hbl => hbel.block b ((hown i it hi' b hbl).2) (hnotg i it hni hi' b hbl)
  · intro i j it jt b hi hj hbi hbj
    rcases hcases i it hi with ⟨i', it', rfl, hi', _⟩ | ⟨hni, hi'⟩ <;> rcases hcases j jt hj with ⟨j', jt', rfl, hj', _⟩ | ⟨hnj, hj'⟩
    · rw [hm3] at hbi hbj
      rw [hsep i' j' it' jt' b hi' hj' hbi hbj]
    · rw [hm3] at hbi; rw [hm2 j (hlt j jt hj')] at hbj
      have h5 := (hown j jt hj' b hbj).2
      rcases hnewB i' it' hi' b hbi with h | h
      · omega
      · exact absurd h (hnotg j jt hnj hj' b hbj)
    · rw [hm3] at hbj; rw [hm2 i (hlt i it hi')] at hbi
      have h5 := (hown i it hi' b hbi).2
      rcases hnewB j' jt' hj' b hbj with h | h
      · omega
      · exact absurd h (hnotg i it hni hi' b hbi)
    · rw [hm2 i (hlt i it hi')] at hbi; rw [hm2 j (hlt j jt hj')] at hbj
      exact hm.sep i j it jt b hi' hj' hbi hbj
/-- A CALL BY SUCH A CONTRACT: 'ids': what is given. -/
theorem VcCall.io [hgb : GlB P w0 T0] {f : Nat} {args args' : List AV} {rows0 : List (Nat × Item)} {out : AV} {rows : List (Nat × Item)} {s : S} {K : AV → S → Prop} (ids : List Nat) (h : FnIO P f args' rows0 ids.length out rows) (hd : ids.Nodup)
    (ha : args = renL (ioN ids s.next) args') (hab : belowL ids.length args' = true) (h0 : subOk (ioN ids s.next) s.rows ids.length rows0) (hcov : ∀ j, j < ids.length → ∃ it, lk rows0 j = some it) (N : Nat) (hkN : ids.length ≤ N) (hN : Fv.below N out = true) (hNr : rowsB N rows)
    (hk : K (ren (ioN ids s.next) out) (s.ioS ids N rows)) : @VcCall P w0 T0 f args s ⟨K⟩ := by
  subst ha
  exact VcCall.ioCore ids h.1 hd (fun H a w m vals hm hv hG hgg => by
    have hctx : CtxRen (ioN ids s.next) (ctxOf T0 w0.heap.size m s w) ⟨w, allow T0 w0.heap.size m s.rows, fun j => m (ioN ids s.next j), ids.length⟩ := ⟨fun _ _ => rfl, fun b hb _ => ⟨hb, rfl⟩⟩
    exact h.2 w _ _ _ vals hG (GlB.at hm) hgg (RvT.ren hctx args' hab hv)) h0 hcov N hkN hN hNr hk

/-- How an argument is handed on: given, or lent to be read. -/
def IoArg (ids : List Nat) (s : S) (x y : AV) : Prop := (x = ren (ioN ids s.next) y ∧ Fv.below ids.length y = true) ∨ argOkN (delL s.rows ids) 6 x y
theorem ItemOk.anyT {w : World} {T T' : Nat → Prop} {m : Nat → Value} {N : Nat} {O : Nat → Prop} {v : Value} {it : Item} (ho : ItemOk ⟨w, T, m, N⟩ O v it) (hn : noRoItem it = true) : ItemOk ⟨w, T', m, N⟩ O v it := by
  cases it with
  | row e r => obtain ⟨n, cells, hc, hq⟩ := ho; exact ⟨n, cells, hc.anyT hn, hq⟩
  | box e cs => obtain ⟨g, vs, hv', hg, hl, hq⟩ := ho; exact ⟨g, vs, hv', hg, hl.anyT hn, hq⟩
  | map ks vs =>
    simp only [noRoItem, Bool.and_eq_true] at hn
    obtain ⟨g, es, clock, hv', hg, h1, h2, h3, h4, hq⟩ := ho; exact ⟨g, es, clock, hv', hg, h1.anyT hn.1, h2.anyT hn.2, h3, h4, hq⟩
  | iter mp since seen => exact ho
/-- The same call, where other arguments are lent; the results hold nothing that is read only. -/
theorem VcCall.ioL [hgb : GlB P w0 T0] {f : Nat} {args args' : List AV} {rows0 : List (Nat × Item)} {out : AV} {rows : List (Nat × Item)} {s : S} {K : AV → S → Prop} (ids : List Nat) (h : FnIO P f args' rows0 ids.length out rows) (hno : noRo out = true) (hnr : noRoRows rows = true) (hd : ids.Nodup)
    (ha : allOk (IoArg ids s) args args') (h0 : subOk (ioN ids s.next) s.rows ids.length rows0) (hcov : ∀ j, j < ids.length → ∃ it, lk rows0 j = some it) (N : Nat) (hkN : ids.length ≤ N) (hN : Fv.below N out = true) (hNr : rowsB N rows)
    (hk : K (ren (ioN ids s.next) out) (s.ioS ids N rows)) : @VcCall P w0 T0 f args s ⟨K⟩ := by
  refine VcCall.ioCore ids h.1 hd (fun H a w m vals hm hv hG hgg => ?_) h0 hcov N hkN hN hNr hk
  let T' : Nat → Prop := fun b => allow T0 w0.heap.size m s.rows b ∨ ∃ i it, i ∉ ids ∧ lk s.rows i = some it ∧ blk (m i) = some b
  have hrest : ∀ i it, lk (delL s.rows ids) i = some it → i ∉ ids ∧ lk s.rows i = some it := by
    intro i it hi
    rw [lk_delL] at hi
    split at hi
    · cases hi
    · rename_i e; exact ⟨e, hi⟩
  have hmemid : ∀ j it, lk rows0 j = some it → ioN ids s.next j ∈ ids := fun j it hj => by
    have h1 := (subOk_mem h0 j it (lk_mem hj)).1
    have : ioN ids s.next j = ids[j] := by simp [ioN, List.getElem?_eq_getElem h1]
    rw [this]; exact List.getElem_mem h1
  have hT' : ∀ b, T' b → ¬ ioG ids s.next rows0 m b := by
    rintro b (hb | ⟨i, it, hni, hi, hbi⟩) hg
    · exact hG.2.2 b hb hg
    · obtain ⟨j, jt, hj, hbj⟩ := hg
      have := hm.sep i _ _ _ b hi (subOk_mem h0 j jt (lk_mem hj)).2.1 hbi hbj
      exact hni (this ▸ hmemid j jt hj)
  have hleT : CtxLe (⟨w, allow T0 w0.heap.size m s.rows, fun j => m (ioN ids s.next j), ids.length⟩ : Ctx) ⟨w, T', fun j => m (ioN ids s.next j), ids.length⟩ := ⟨Nat.le_refl _, fun _ _ => rfl, fun b hb _ => ⟨.inl hb, rfl⟩⟩
  have hG' : GivenOk w T' (ioG ids s.next rows0 m) (fun j => m (ioN ids s.next j)) ids.length rows0 :=
    ⟨fun i it hi => ⟨(hG.1 i it hi).1, ((hG.1 i it hi).2).mono hleT fun _ _ => rfl⟩, hG.2.1, hT'⟩
  have hl : Lend w (ctxOf T0 w0.heap.size m s w) (delL s.rows ids) T' :=
    { hw := rfl, t := fun b hb => .inl hb,
      own := fun i e r hi => by
        obtain ⟨h1, h2⟩ := hrest i _ hi
        obtain ⟨n, cells, hc, hn, ho, hO⟩ := (hm.rows i _ h2).2
        exact ⟨fun b hb => .inr ⟨i, _, h1, h2, hb⟩, n, cells, hc, hn, ho⟩,
      box := fun i e cs hi => by
        obtain ⟨h1, h2⟩ := hrest i _ hi
        obtain ⟨g, vs, hv, hg, hl, hh⟩ := (hm.rows i _ h2).2
        exact ⟨g, vs, hv, .inr ⟨i, _, h1, h2, by rw [hv]; rfl⟩, hl, hh⟩,
      map := fun i ks vs hi => by
        obtain ⟨h1, h2⟩ := hrest i _ hi
        obtain ⟨g, es, clock, hv, hg, k1, k2, k3, k4, hh⟩ := (hm.rows i _ h2).2
        exact ⟨g, es, clock, hv, .inr ⟨i, _, h1, h2, by rw [hv]; rfl⟩, k1, k2, k3, k4, hh⟩ }
  have hctx : CtxRen (ioN ids s.next) (ctxOf T0 w0.heap.size m s w) ⟨w, T', fun j => m (ioN ids s.next j), ids.length⟩ := ⟨fun _ _ => rfl, fun b hb _ => ⟨.inl hb, rfl⟩⟩
  have hle0 : CtxLe (⟨w, T', fun _ => undef, 0⟩ : Ctx) ⟨w, T', fun j => m (ioN ids s.next j), ids.length⟩ := ⟨Nat.zero_le _, fun i hi => absurd hi (Nat.not_lt_zero _), fun b hb _ => ⟨hb, rfl⟩⟩
  have hargs : ∀ (xs ys : List AV) (us : List Value), allOk (IoArg ids s) xs ys → RvT (ctxOf T0 w0.heap.size m s w) xs us → RvT ⟨w, T', fun j => m (ioN ids s.next j), ids.length⟩ ys us := by
    intro xs
    induction xs with
    | nil => intro ys us hxy hr; simp only [allOk] at hxy; subst hxy; cases hr; exact .nil
    | cons x xs ih =>
      intro ys us hxy hr
      simp only [allOk] at hxy
      obtain ⟨y, r, h1, h2, rfl⟩ := hxy
      cases hr with
      | cons _ v _ vs hv ht =>
        refine .cons _ _ _ _ ?_ (ih _ _ h2 ht)
        rcases h1 with ⟨rfl, hb⟩ | h1
        · exact Rv.ren hctx y hb hv
        · exact (argOkN_rv hl 6 x h1 hv).mono hle0
  refine (h.2 w T' _ _ vals hG' (GlB.at hm) hgg (hargs _ _ _ ha hv)).mono ?_
  rintro e w' ⟨v, rfl, hbel, mo, No, hmo, hkNo, hout, hrows, hsep⟩
  exact ⟨v, rfl, hbel, mo, No, hmo, hkNo, hout.anyT hno, fun i it hi => ⟨(hrows i it hi).1, (((hrows i it hi).2).anyT (noRoRows_mem hnr hi)).own fun b hb => hb.imp id fun h => ⟨h.1, .inr h.1⟩⟩, hsep⟩
end
end Go.Fv

/-
  The library's sort of a row of ints or of strings, by the shelf's contracts, as a contract that writes the caller's memory.
-/
namespace Go.Fv
set_option linter.unusedSectionVars false
set_option linter.unusedVariables false
set_option linter.unusedSimpArgs false
open Go.RowKit Go.Sort Go.Proofs Go.Shelf

theorem sorted_heap {α : Type} [Inhabited α] (enc : α → Value) (w : World) (n g : Nat) (d : Array α) (os : Array Obj) {cur : Array Value} {e : TypeId} {fz : Nat × Nat} (hh : w.heap[g]? = some (.cells cur e fz)) :
    (grow (putRow enc (Sort.ahead w n) g 0 d) os).heap[g]? = some (.cells (putCells enc 0 d cur) e fz) := by
  have hlt : g < w.heap.size := (Array.getElem?_eq_some_iff.1 hh).1
  show ((w.heap.modify g (onCells (putCells enc 0 d))) ++ os)[g]? = _
  rw [Array.getElem?_append_left (by simpa using hlt), Array.getElem?_modify, if_pos rfl, hh]
  rfl
theorem sorted_other {α : Type} [Inhabited α] (enc : α → Value) (w : World) (n g : Nat) (d : Array α) (os : Array Obj) {k : Nat} (hk : k < w.heap.size) (hne : ¬ g = k) :
    (grow (putRow enc (Sort.ahead w n) g 0 d) os).heap[k]? = w.heap[k]? := by
  show ((w.heap.modify g (onCells (putCells enc 0 d))) ++ os)[k]? = _
  rw [Array.getElem?_append_left (by simpa using hk), Array.getElem?_modify, if_neg hne]
theorem putCells_size {α : Type} [Inhabited α] (enc : α → Value) (d : Array α) (c : Array Value) : (putCells enc 0 d c).size = c.size := by simp [putCells]
theorem putCells_take {α : Type} [Inhabited α] (enc : α → Value) (l : List α) (c : Array Value) (n : Nat) (hn : l.length = n) (hc : n ≤ c.size) : (putCells enc 0 l.toArray c).toList.take n = l.map enc := by
  apply List.ext_getElem?
  intro j
  by_cases hj : j < n
  · rw [List.getElem?_take_of_lt hj, List.getElem?_map]
    have h1 : j < c.size := by omega
    have h2 : j < l.length := by omega
    have h3 : (putCells enc 0 l.toArray c)[j]? = some (enc l.toArray[j]!) := by
      simp only [putCells, Array.getElem?_mapIdx, Array.getElem?_eq_getElem h1, Option.map_some]
      rw [if_pos ⟨Nat.zero_le _, by simpa using h2⟩, Nat.sub_zero]
    rw [Array.getElem?_toList, h3]
    simp [h2]
  · rw [List.getElem?_eq_none (by simp; omega), List.getElem?_eq_none (by simp; omega)]

section
variable {P : Program}
/-- One row is given and turned in its place. -/
theorem FnIO.place {α : Type} [Inhabited α] (enc : α → Value) {f : Nat} (hE : Enter P f) (e : TypeId) (r r' : RowV) (l l' : List α) (hll : l'.length = l.length)
    (hr1 : r.sz = 1) (hr2 : r'.sz = 1) (hrl : r.len = l.length) (hrl' : r'.len = l.length)
    (hdown : ∀ c cells, RowC c r cells → cells = l.map enc) (hup : ∀ c c' cells, RowC c r cells → RowC c' r' (l'.map enc))
    (hrun : ∀ (w : World) (g cap : Nat), Holds enc w g 0 l.toArray → g < w.heap.size → Calls P f #[.slice (some ⟨g, 0, none⟩) l.length cap] w fun x w' => x = .returned (.tuple #[]) ∧ ∃ n os, w' = grow (putRow enc (Sort.ahead w n) g 0 l'.toArray) os)
    (hnone : ∀ (w : World) (p : Option Addr) (cap : Nat), Calls P f #[.slice p 0 cap] w fun x w' => x = .returned (.tuple #[]) ∧ w' = w) :
    FnIO P f [.own 0] [(0, .row e r)] 1 (.tup []) [(0, .row e r')] := by
  refine ⟨hE, fun w T g m0 vals ⟨hrow, _, hd⟩ hgl hng hv => ?_⟩
  obtain ⟨_, n, cells, hr, hn, ⟨hlen, hcase⟩, hO⟩ := hrow 0 _ rfl
  have hcells := hdown _ _ hr
  subst hcells
  rw [hrl] at hn
  subst hn
  cases hv with
  | cons _ v0 _ vs h0 hvs =>
  cases hvs
  cases h0 with
  | own _ hi h1 =>
  rw [hr1] at hcase
  have none_case : l.length = 0 → ∀ p cap, m0 0 = .slice p 0 cap → Calls P f [m0 0].toArray w fun e_1 w' => ∃ v, e_1 = .returned v ∧ BelowG g w w' ∧ ∃ m N, (∀ i, i < 1 → m i = m0 i) ∧ 1 ≤ N ∧
      Rv ⟨w', allow ⟨fun b => T b ∨ g b, g⟩ w.heap.size m [(0, .row e r')], m, N⟩ (.tup []) v ∧
      (∀ i it, lk [(0, Item.row e r')] i = some it → i < N ∧ ItemOk ⟨w', allow ⟨fun b => T b ∨ g b, g⟩ w.heap.size m [(0, .row e r')], m, N⟩ (ownB ⟨fun b => T b ∨ g b, g⟩ w.heap.size) (m i) it) ∧
      (∀ i j it jt b, lk [(0, Item.row e r')] i = some it → lk [(0, Item.row e r')] j = some jt → blk (m i) = some b → blk (m j) = some b → i = j) := by
    intro h00 p cap hm
    rw [show [m0 0].toArray = #[m0 0] from rfl, hm]
    refine (hnone w p cap).mono ?_
    rintro x w' ⟨rfl, rfl⟩
    have hl'0 : l' = [] := List.eq_nil_of_length_eq_zero (by omega)
    refine ⟨_, rfl, BelowG.refl _ _, m0, 1, fun _ _ => rfl, Nat.le_refl _, .tup [] [] .nil, ?_, ?_⟩
    · intro i it hi
      have hi0 : i = 0 := by
        simp only [lk] at hi
        split at hi
        · rename_i h; exact h.symm
        · cases hi
      subst hi0
      have : it = Item.row e r' := by simp [lk] at hi; exact hi.symm
      subst this
      have hr' := hup _ ⟨w', allow ⟨fun b => T b ∨ g b, g⟩ w'.heap.size m0 [(0, .row e r')], m0, 1⟩ _ hr
      rw [hl'0] at hr'
      refine ⟨by omega, 0, [], hr', by omega, ?_, fun b hb => .inr ⟨hO b hb, .inr (hO b hb)⟩⟩
      rcases hcase with ⟨hv, _⟩ | ⟨g0, cap', cur, fz, hv, hMk, hh, hnc, hcm, hcs, htk⟩
      · exact ⟨by simp, .inl ⟨hv, rfl⟩⟩
      · refine ⟨by simp, .inr ⟨g0, cap', cur, fz, by rw [hv, h00], hMk, hh, by omega, hcm, by rw [hcs, hr2], by simp⟩⟩
    · intro i j it jt b hi hj _ _
      have aux : ∀ q x, lk [(0, Item.row e r')] q = some x → q = 0 := by
        intro q x hq
        simp only [lk] at hq
        split at hq
        · rename_i h; exact h.symm
        · cases hq
      rw [aux i it hi, aux j jt hj]
  rcases hcase with ⟨hv, h00⟩ | ⟨g0, cap, cur, fz, hv, hMk, hh, hnc, hcm, hcs, htk⟩
  · exact none_case h00 _ _ hv
  · by_cases h00 : l.length = 0
    · exact none_case h00 _ cap (by rw [hv, h00])
    rw [Nat.mul_one] at hcs htk
    have hlt : g0 < w.heap.size := (Array.getElem?_eq_some_iff.1 hh).1
    have hcell : ∀ j, j < l.length → cur[j]? = some (enc l.toArray[j]!) := by
      intro j hj
      have h1 : (cur.toList.take l.length)[j]? = (l.map enc)[j]? := by rw [htk]
      rw [List.getElem?_take_of_lt hj, List.getElem?_map, Array.getElem?_toList] at h1
      rw [h1]; simp [hj]
    have hH : Holds enc w g0 0 l.toArray := by
      intro j hj
      have hj' : j < l.length := by simpa using hj
      constructor
      · simp [World.cell?, hh, hcell j hj']
      · simp only [World.frozen?, hh]
        rcases hMk with rfl | hMk
        · simp
        · obtain ⟨lo, hi⟩ := fz
          have : cur.size ≤ lo := hMk
          simp; omega
    rw [show [m0 0].toArray = #[m0 0] from rfl, hv]
    refine (hrun w g0 cap hH hlt).mono ?_
    rintro x w' ⟨rfl, nn, os, rfl⟩
    have hgO := hO g0 (by rw [hv]; rfl)
    have hnh := sorted_heap enc w nn g0 l'.toArray os hh
    refine ⟨_, rfl, ⟨rfl, rfl, rfl, by simp, Nat.le_add_right _ _, fun k hk hng' => sorted_other enc w nn g0 _ os hk fun e => hng' (e ▸ hgO)⟩, m0, 1, fun _ _ => rfl, Nat.le_refl _, .tup [] [] .nil, ?_, ?_⟩
    · intro i it hi
      have hi0 : i = 0 := by
        simp only [lk] at hi
        split at hi
        · rename_i h; exact h.symm
        · cases hi
      subst hi0
      have : it = Item.row e r' := by simp [lk] at hi; exact hi.symm
      subst this
      have hr' := hup _ ⟨grow (putRow enc (Sort.ahead w nn) g0 0 l'.toArray) os, allow ⟨fun b => T b ∨ g b, g⟩ w.heap.size m0 [(0, .row e r')], m0, 1⟩ _ hr
      refine ⟨by omega, l.length, l'.map enc, hr', hrl', ?_, fun b hb => .inr ⟨hO b hb, .inr (hO b hb)⟩⟩
      rw [hr2]
      refine ⟨by simp [hll], .inr ⟨g0, cap, _, fz, hv, by rw [putCells_size]; exact hMk, hnh, hnc, hcm, by rw [putCells_size, hcs, Nat.mul_one], ?_⟩⟩
      rw [Nat.mul_one]
      exact putCells_take enc l' cur _ hll (by omega)
    · intro i j it jt b hi hj _ _
      have aux : ∀ q x, lk [(0, Item.row e r')] q = some x → q = 0 := by
        intro q x hq
        simp only [lk] at hq
        split at hq
        · rename_i h; exact h.symm
        · cases hq
      rw [aux i it hi, aux j jt hj]

def sortS (l : List (List UInt8)) : List (List UInt8) := l.mergeSort fun x y => decide (x ≤ y)
theorem sortStrs_io {ρ : Ren} (L : SlLaysM.n6 P ρ) (hE : Enter P (ρ.f 6)) (e : TypeId) (l : List (List UInt8)) (hl : l.length < 4611686018427387904) :
    FnIO P (ρ.f 6) [.own 0] [(0, .row e (.strs l))] 1 (.tup []) [(0, .row e (.strs (sortS l)))] := by
  refine FnIO.place encStr hE e _ _ l (sortS l) (List.length_mergeSort _) rfl rfl rfl (List.length_mergeSort _) (fun c cells h => by cases h; rfl) (fun c c' cells h => ?_) (fun w g cap hH hb => ?_) (fun w p cap => AnyM.slices_Sort_string_none L p cap w)
  · cases h with
    | strs _ hx => exact .strs _ fun x hm => hx x ((List.mergeSort_perm l _).mem_iff.1 hm)
  · exact AnyM.slices_Sort_string L g 0 cap l w hH hb hl
end
end Go.Fv
