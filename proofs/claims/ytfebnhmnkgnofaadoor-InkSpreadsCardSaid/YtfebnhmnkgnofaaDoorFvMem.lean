/-
  How a state goes on when memory is made or written.
-/
import Derived.Test.YtfebnhmnkgnofaaDoorFvPart
namespace Go.Fv
open Go.RowKit
set_option linter.unusedVariables false
set_option linter.unusedSimpArgs false
set_option linter.unnecessarySimpa false

theorem lk_del {α : Type} (l : List (Nat × α)) (i j : Nat) : lk (del l i) j = if j = i then none else lk l j := by
  induction l with
  | nil => simp [del, lk]
  | cons p l ih =>
    obtain ⟨k, v⟩ := p
    by_cases h : k = i
    · subst h
      simp only [del, if_pos, ih, lk]
      by_cases hj : j = k
      · simp [hj]
      · rw [if_neg hj, if_neg hj, if_neg (fun e => hj e.symm)]
    · simp only [del, if_neg h, lk, ih]
      by_cases hk : k = j
      · subst hk; simp [h]
      · simp [hk]
theorem lk_put {α : Type} (l : List (Nat × α)) (i j : Nat) (x : α) : lk (put l i x) j = if j = i then (lk l i).map (fun _ => x) else lk l j := by
  induction l with
  | nil => simp [put, lk]
  | cons p l ih =>
    obtain ⟨k, v⟩ := p
    by_cases h : k = i
    · subst h
      simp only [put, if_pos, lk]
      by_cases hj : j = k
      · subst hj; simp
      · rw [if_neg (fun e => hj e.symm), ih, if_neg hj, if_neg hj, if_neg (fun e => hj e.symm)]
    · simp only [put, if_neg h, lk, ih]
      by_cases hk : k = j
      · subst hk; simp [h]
      · simp [hk]

def upd (m : Nat → Value) (k : Nat) (v : Value) : Nat → Value := fun i => if i = k then v else m i
theorem upd_same (m : Nat → Value) (k : Nat) (v : Value) : upd m k v k = v := if_pos rfl
theorem upd_other {m : Nat → Value} {k i : Nat} {v : Value} (h : i ≠ k) : upd m k v i = m i := if_neg h

theorem ownsRow_of_heap {w w' : World} {base : Nat} {e : TypeId} {size : Nat} {v : Value} {n : Nat} {xs : List Value} (h : w.ownsRow base e size v n xs)
    (hb : ∀ g, blk v = some g → w'.heap[g]? = w.heap[g]?) : w'.ownsRow base e size v n xs := by
  refine ⟨h.1, ?_⟩
  rcases h.2 with hn | ⟨g, cap, cur, rfl, hbg, hgg, rest⟩
  · exact .inl hn
  · exact .inr ⟨g, cap, cur, rfl, hbg, by rw [hb g rfl]; exact hgg, rest⟩
theorem ownsRow_blk {w : World} {base : Nat} {e : TypeId} {size : Nat} {v : Value} {n : Nat} {xs : List Value} (h : w.ownsRow base e size v n xs) : ∀ b, blk v = some b → base ≤ b ∧ b < w.heap.size := by
  intro b hb
  rcases h.2 with ⟨rfl, _⟩ | ⟨g, cap, cur, rfl, hbg, hgg, _⟩
  · cases hb
  · cases hb
    exact ⟨hbg, (Array.getElem?_eq_some_iff.1 hgg).1⟩

theorem ItemOk.blk {c : Ctx} {B : Nat} {v : Value} {it : Item} (h : ItemOk c B v it) : ∀ b, blk v = some b → B ≤ b ∧ b < c.w.heap.size := by
  cases it with
  | row e r => obtain ⟨n, cells, _, _, ho⟩ := h; exact ownsRow_blk ho
  | box e cs =>
    obtain ⟨g, vs, rfl, hg, _, hh⟩ := h
    intro b hb; cases hb
    exact ⟨hg, (Array.getElem?_eq_some_iff.1 hh).1⟩

theorem ItemOk.mono {c c' : Ctx} (h : CtxLe c c') {B : Nat} {v : Value} {it : Item} (hb : ∀ b, Fv.blk v = some b → c'.w.heap[b]? = c.w.heap[b]?) (hi : ItemOk c B v it) : ItemOk c' B v it := by
  cases it with
  | row e r => obtain ⟨n, cells, hr, hn, ho⟩ := hi; exact ⟨n, cells, hr.mono h, hn, ownsRow_of_heap ho hb⟩
  | box e cs => obtain ⟨g, vs, rfl, hg, hl, hh⟩ := hi; exact ⟨g, vs, rfl, hg, hl.mono h, by rw [hb g rfl]; exact hh⟩

section
variable {w0 w : World} {T0 : Nat → Prop} {H : List (AV × Value)} {s : S} {a : Act} {m : Nat → Value}

theorem ctxLe_of {s' : S} {w' : World} {m' : Nat → Value} {B : Nat} (hN : s.next ≤ s'.next) (hm : ∀ i, i < s.next → m' i = m i)
    (hheap : ∀ b, b < w.heap.size → (∀ i it, lk s.rows i = some it → blk (m i) ≠ some b) → w'.heap[b]? = w.heap[b]?)
    (hown : ∀ i it b, lk s'.rows i = some it → blk (m' i) = some b → b < w.heap.size → ∃ j jt, lk s.rows j = some jt ∧ blk (m j) = some b) :
    CtxLe (ctxOf T0 B m s w) (ctxOf T0 B m' s' w') :=
  { n := hN, m := hm,
    t := by
      intro b ⟨h1, h2⟩ hb
      refine ⟨⟨h1, fun i it hi e => ?_⟩, hheap b hb h2⟩
      obtain ⟨j, jt, hj, hjb⟩ := hown i it b hi e hb
      exact h2 j jt hj hjb }

theorem RepM.evolve (h : RepM w0 T0 H s a w m) {s' : S} {w' : World} {m' : Nat → Value} (hn : s'.n = s.n) (henv : s'.env = s.env)
    (hle : CtxLe (ctxOf T0 w0.heap.size m s w) (ctxOf T0 w0.heap.size m' s' w')) (hb : Below w0.heap.size w0 w')
    (hrows : ∀ i it, lk s'.rows i = some it → i < s'.next ∧ ItemOk (ctxOf T0 w0.heap.size m' s' w') w0.heap.size (m' i) it)
    (hsep : ∀ i j it jt b, lk s'.rows i = some it → lk s'.rows j = some jt → blk (m' i) = some b → blk (m' j) = some b → i = j) :
    RepM w0 T0 H s' a w' m' :=
  { size := by rw [hn]; exact h.size, nodef := h.nodef, below := hb,
    env := fun r v hv => (h.env r v (by rw [← henv]; exact hv)).mono hle,
    held := fun p hp => (h.held p hp).mono hle, rows := hrows, sep := hsep }

theorem RepM.lt (h : RepM w0 T0 H s a w m) : w0.heap.size ≤ w.heap.size := h.below.size

/-- Something new: a row without a block, or memory behind all that there was. -/
theorem RepM.new (h : RepM w0 T0 H s a w m) {w' : World} (hb : Below w0.heap.size w0 w') (hheap : ∀ b, b < w.heap.size → w'.heap[b]? = w.heap[b]?) (it : Item) (hdr : Value)
    (hblk : ∀ b, blk hdr = some b → w.heap.size ≤ b)
    (hit : ∀ c, CtxLe (ctxOf T0 w0.heap.size m s w) c → c.w = w' → ItemOk c w0.heap.size hdr it) :
    RepM w0 T0 H { s with rows := (s.next, it) :: s.rows, next := s.next + 1 } a w' (upd m s.next hdr) := by
  have hm : ∀ i, i < s.next → upd m s.next hdr i = m i := fun i hi => upd_other (Nat.ne_of_lt hi)
  have hold : ∀ i it', lk s.rows i = some it' → i < s.next := fun i it' hi => (h.rows i it' hi).1
  have hle : CtxLe (ctxOf T0 w0.heap.size m s w) (ctxOf T0 w0.heap.size (upd m s.next hdr) { s with rows := (s.next, it) :: s.rows, next := s.next + 1 } w') := by
    refine ctxLe_of (Nat.le_succ _) hm (fun b hb _ => hheap b hb) ?_
    intro i it' b hi hbl hlt
    simp only [lk] at hi
    split at hi
    · rename_i e; subst e
      rw [upd_same] at hbl
      have := hblk b hbl; omega
    · rw [hm i (hold i it' hi)] at hbl
      exact ⟨i, it', hi, hbl⟩
  refine h.evolve rfl rfl hle hb ?_ ?_
  · intro i it' hi
    simp only [lk] at hi
    split at hi
    · rename_i e; subst e; cases hi
      rw [upd_same]
      exact ⟨Nat.lt_succ_self _, hit _ hle rfl⟩
    · have hl := hold i it' hi
      rw [hm i hl]
      exact ⟨Nat.lt_succ_of_lt hl, ((h.rows i it' hi).2).mono hle fun b hb => hheap b ((h.rows i it' hi).2.blk b hb).2⟩
  · intro i j it' jt b hi hj hbi hbj
    simp only [lk] at hi hj
    split at hi <;> split at hj
    · rename_i e1 e2; omega
    · rename_i e1 _; subst e1
      rw [upd_same] at hbi
      rw [hm j (hold j jt hj)] at hbj
      have h1 := hblk b hbi
      have h2 : b < w.heap.size := ((h.rows j jt hj).2.blk b hbj).2
      omega
    · rename_i _ e2; subst e2
      rw [upd_same] at hbj
      rw [hm i (hold i it' hi)] at hbi
      have h1 := hblk b hbj
      have h2 : b < w.heap.size := ((h.rows i it' hi).2.blk b hbi).2
      omega
    · rw [hm i (hold i it' hi)] at hbi
      rw [hm j (hold j jt hj)] at hbj
      exact h.sep i j it' jt b hi hj hbi hbj

/-- Row i goes, another comes: where row i's memory was, or behind all that there was. -/
theorem RepM.repl (h : RepM w0 T0 H s a w m) {w' : World} (hb : Below w0.heap.size w0 w') {i0 : Nat} {it0 : Item} (hi0 : lk s.rows i0 = some it0)
    (hheap : ∀ b, b < w.heap.size → blk (m i0) ≠ some b → w'.heap[b]? = w.heap[b]?) (it : Item) (hdr : Value)
    (hblk : ∀ b, blk hdr = some b → b < w.heap.size → blk (m i0) = some b)
    (hit : ∀ c, CtxLe (ctxOf T0 w0.heap.size m s w) c → c.w = w' → ItemOk c w0.heap.size hdr it) :
    RepM w0 T0 H { s with rows := (s.next, it) :: del s.rows i0, next := s.next + 1 } a w' (upd m s.next hdr) := by
  have hm : ∀ i, i < s.next → upd m s.next hdr i = m i := fun i hi => upd_other (Nat.ne_of_lt hi)
  have hold : ∀ i it', lk s.rows i = some it' → i < s.next := fun i it' hi => (h.rows i it' hi).1
  have hdel : ∀ i it', lk (del s.rows i0) i = some it' → i ≠ i0 ∧ lk s.rows i = some it' := by
    intro i it' hi
    rw [lk_del] at hi
    split at hi
    · cases hi
    · rename_i e; exact ⟨e, hi⟩
  have hle : CtxLe (ctxOf T0 w0.heap.size m s w) (ctxOf T0 w0.heap.size (upd m s.next hdr) { s with rows := (s.next, it) :: del s.rows i0, next := s.next + 1 } w') := by
    refine ctxLe_of (Nat.le_succ _) hm (fun b hb hno => hheap b hb (hno i0 it0 hi0)) ?_
    intro i it' b hi hbl hlt
    simp only [lk] at hi
    split at hi
    · rename_i e; subst e
      rw [upd_same] at hbl
      exact ⟨i0, it0, hi0, hblk b hbl hlt⟩
    · obtain ⟨_, hi⟩ := hdel i it' hi
      rw [hm i (hold i it' hi)] at hbl
      exact ⟨i, it', hi, hbl⟩
  refine h.evolve rfl rfl hle hb ?_ ?_
  · intro i it' hi
    simp only [lk] at hi
    split at hi
    · rename_i e; subst e; cases hi
      rw [upd_same]
      exact ⟨Nat.lt_succ_self _, hit _ hle rfl⟩
    · obtain ⟨hne, hi⟩ := hdel i it' hi
      have hl := hold i it' hi
      rw [hm i hl]
      exact ⟨Nat.lt_succ_of_lt hl, ((h.rows i it' hi).2).mono hle fun b hb => hheap b ((h.rows i it' hi).2.blk b hb).2 fun e => hne (h.sep i i0 it' it0 b hi hi0 hb e)⟩
  · intro i j it' jt b hi hj hbi hbj
    simp only [lk] at hi hj
    split at hi <;> split at hj
    · rename_i e1 e2; omega
    · rename_i e1 _; subst e1
      obtain ⟨hne, hj⟩ := hdel j jt hj
      rw [upd_same] at hbi
      rw [hm j (hold j jt hj)] at hbj
      have h2 : b < w.heap.size := ((h.rows j jt hj).2.blk b hbj).2
      exact absurd (h.sep j i0 jt it0 b hj hi0 hbj (hblk b hbi h2)) hne
    · rename_i _ e2; subst e2
      obtain ⟨hne, hi⟩ := hdel i it' hi
      rw [upd_same] at hbj
      rw [hm i (hold i it' hi)] at hbi
      have h2 : b < w.heap.size := ((h.rows i it' hi).2.blk b hbi).2
      exact absurd (h.sep i i0 it' it0 b hi hi0 hbi (hblk b hbj h2)) hne
    · obtain ⟨_, hi⟩ := hdel i it' hi
      obtain ⟨_, hj⟩ := hdel j jt hj
      rw [hm i (hold i it' hi)] at hbi
      rw [hm j (hold j jt hj)] at hbj
      exact h.sep i j it' jt b hi hj hbi hbj

/-- What row or box i holds is another thing now; its memory stays its own. -/
theorem RepM.upd (h : RepM w0 T0 H s a w m) {w' : World} (hb : Below w0.heap.size w0 w') {i0 : Nat} {it0 : Item} (hi0 : lk s.rows i0 = some it0)
    (hheap : ∀ b, b < w.heap.size → blk (m i0) ≠ some b → w'.heap[b]? = w.heap[b]?) (it : Item)
    (hit : ∀ c, CtxLe (ctxOf T0 w0.heap.size m s w) c → c.w = w' → c.m = m → c.N = s.next → ItemOk c w0.heap.size (m i0) it) :
    RepM w0 T0 H { s with rows := put s.rows i0 it } a w' m := by
  have hput : ∀ i it', lk (put s.rows i0 it) i = some it' → (i = i0 ∧ it' = it) ∨ (i ≠ i0 ∧ lk s.rows i = some it') := by
    intro i it' hi
    rw [lk_put] at hi
    split at hi
    · rename_i e; rw [hi0] at hi; cases hi; exact .inl ⟨e, rfl⟩
    · rename_i e; exact .inr ⟨e, hi⟩
  have hsome : ∀ i it', lk (put s.rows i0 it) i = some it' → ∃ jt, lk s.rows i = some jt := by
    intro i it' hi
    rcases hput i it' hi with ⟨rfl, _⟩ | ⟨_, h'⟩
    · exact ⟨it0, hi0⟩
    · exact ⟨_, h'⟩
  have hle : CtxLe (ctxOf T0 w0.heap.size m s w) (ctxOf T0 w0.heap.size m { s with rows := put s.rows i0 it } w') := by
    refine ctxLe_of (Nat.le_refl _) (fun _ _ => rfl) (fun b hb hno => hheap b hb (hno i0 it0 hi0)) ?_
    intro i it' b hi hbl _
    obtain ⟨jt, hj⟩ := hsome i it' hi
    exact ⟨i, jt, hj, hbl⟩
  refine h.evolve rfl rfl hle hb ?_ ?_
  · intro i it' hi
    rcases hput i it' hi with ⟨rfl, rfl⟩ | ⟨hne, hi⟩
    · exact ⟨(h.rows _ _ hi0).1, hit _ hle rfl rfl rfl⟩
    · exact ⟨(h.rows i it' hi).1, ((h.rows i it' hi).2).mono hle fun b hb => hheap b ((h.rows i it' hi).2.blk b hb).2 fun e => hne (h.sep i i0 it' it0 b hi hi0 hb e)⟩
  · intro i j it' jt b hi hj hbi hbj
    obtain ⟨it1, hi⟩ := hsome i it' hi
    obtain ⟨jt1, hj⟩ := hsome j jt hj
    exact h.sep i j it1 jt1 b hi hj hbi hbj

theorem RepM.drew (h : RepM w0 T0 H s a w m) : RepM w0 T0 H s a w.drew m := by
  have hle : CtxLe (ctxOf T0 w0.heap.size m s w) (ctxOf T0 w0.heap.size m s w.drew) := ⟨Nat.le_refl _, fun _ _ => rfl, fun _ ht _ => ⟨ht, rfl⟩⟩
  exact h.evolve rfl rfl hle h.below.drew (fun i it hi => ⟨(h.rows i it hi).1, ((h.rows i it hi).2).mono hle fun _ _ => rfl⟩) h.sep

/-- Rows that are not needed any more: their memory may be read on. -/
theorem RepM.forget (h : RepM w0 T0 H s a w m) (rows' : List (Nat × Item)) (hsub : ∀ i it, lk rows' i = some it → lk s.rows i = some it) : RepM w0 T0 H { s with rows := rows' } a w m := by
  have hle : CtxLe (ctxOf T0 w0.heap.size m s w) (ctxOf T0 w0.heap.size m { s with rows := rows' } w) :=
    ctxLe_of (Nat.le_refl _) (fun _ _ => rfl) (fun _ _ _ => rfl) fun i it b hi hb _ => ⟨i, it, hsub i it hi, hb⟩
  exact h.evolve rfl rfl hle h.below (fun i it hi => ⟨(h.rows i it (hsub i it hi)).1, ((h.rows i it (hsub i it hi)).2).mono hle fun _ _ => rfl⟩)
    fun i j it jt b hi hj => h.sep i j it jt b (hsub i it hi) (hsub j jt hj)
end

theorem Below.alloc' {B : Nat} {a w : World} (h : Below B a w) (hB : B ≤ w.heap.size) (o : Obj) : Below B a (w.alloc o) := h.alloc hB o

end Go.Fv
