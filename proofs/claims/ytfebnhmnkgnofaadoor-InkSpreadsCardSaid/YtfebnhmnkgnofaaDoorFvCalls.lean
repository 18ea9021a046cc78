/-
  Calls: by contract, or into the callee's code.
-/
import Derived.Test.YtfebnhmnkgnofaaDoorFvFn
namespace Go.Fv
open Go.RowKit
set_option linter.unusedVariables false
set_option linter.unusedSimpArgs false
set_option linter.unnecessarySimpa false

structure CtxSh (p : Nat → Nat) (c c' : Ctx) : Prop where
  n : ∀ i, i < c.N → p i < c'.N
  m : ∀ i, i < c.N → c'.m (p i) = c.m i
  t : ∀ b, c.T b → b < c.w.heap.size → c'.T b ∧ c'.w.heap[b]? = c.w.heap[b]?
mutual
theorem noId_ren (p : Nat → Nat) : ∀ x : AV, noId x = true → ren p x = x
  | .own i, h => by simp [noId] at h
  | .ptr i o, h => by simp [noId] at h
  | .elt i a b c, h => by simp [noId] at h
  | .agg cs, h => by simp only [ren]; rw [noIdL_ren p cs (by simpa [noId] using h)]
  | .tup cs, h => by simp only [ren]; rw [noIdL_ren p cs (by simpa [noId] using h)]
  | .fn f cs, h => by simp only [ren]; rw [noIdL_ren p cs (by simpa [noId] using h)]
  | .cell cs, _ => rfl
  | .dead, _ => rfl
  | .nilS, _ => rfl
  | .bool _, _ => rfl
  | .int _ _, _ => rfl
  | .str _, _ => rfl
  | .ro _, _ => rfl
  | .raw _, _ => rfl
  | .opt b v, h => by simp only [ren]; rw [noId_ren p v (by simpa [noId] using h)]
theorem noIdL_ren (p : Nat → Nat) : ∀ x : List AV, noIdL x = true → renL p x = x
  | [], _ => rfl
  | x :: l, h => by
    simp only [noIdL, Bool.and_eq_true] at h
    simp only [renL]; rw [noId_ren p x h.1, noIdL_ren p l h.2]
end
mutual
theorem below_shift {p : Nat → Nat} {n k : Nat} (h : ∀ i, i < n → p i < k) : ∀ x : AV, Fv.below n x = true → Fv.below k (ren p x) = true
  | .own i, e => by simp only [Fv.below, ren, decide_eq_true_eq] at *; exact h i e
  | .ptr i o, e => by simp only [Fv.below, ren, decide_eq_true_eq] at *; exact h i e
  | .elt i a b c, e => by simp only [Fv.below, ren, decide_eq_true_eq] at *; exact h i e
  | .agg cs, e => by simp only [Fv.below, ren] at *; exact belowL_shift h cs e
  | .tup cs, e => by simp only [Fv.below, ren] at *; exact belowL_shift h cs e
  | .fn f cs, e => by simp only [Fv.below, ren] at *; exact belowL_shift h cs e
  | .cell cs, _ => rfl
  | .dead, _ => rfl
  | .nilS, _ => rfl
  | .bool _, _ => rfl
  | .int _ _, _ => rfl
  | .str _, _ => rfl
  | .ro _, _ => rfl
  | .raw _, _ => rfl
  | .opt _ v, e => by simp only [Fv.below, ren] at *; exact below_shift h v e
theorem belowL_shift {p : Nat → Nat} {n k : Nat} (h : ∀ i, i < n → p i < k) : ∀ x : List AV, belowL n x = true → belowL k (renL p x) = true
  | [], _ => rfl
  | x :: l, e => by
    simp only [belowL, Bool.and_eq_true] at e
    simp [renL, belowL, below_shift h x e.1, belowL_shift h l e.2]
end
mutual
theorem Rv.shift {p : Nat → Nat} {c c' : Ctx} (h : CtxSh p c c') : ∀ {x : AV} {v : Value}, Rv c x v → Rv c' (ren p x) v
  | _, _, .dead v => .dead v
  | _, _, .nilS => .nilS
  | _, _, .bool b => .bool b
  | _, _, .int k n hk => .int k n hk
  | _, _, .str s hs => .str s hs
  | _, _, .roNil r hr => .roNil r (RowC.noid h.t hr)
  | _, _, .ro r a len cap cells hr hl hc hm hs => .ro r a len cap cells (RowC.noid h.t hr) hl hc hm (hs.mono' h.t)
  | _, _, .own i hi h1 => by rw [← h.m i hi]; exact .own (p i) (h.n i hi) (by rw [h.m i hi]; exact h1)
  | _, _, .cell cs vs a hl hi hs => .cell cs vs a (RvL.noid h.t hl hi) hi (hs.mono' h.t)
  | _, _, .ptr i off g hi hg => .ptr (p i) off g (h.n i hi) (by rw [h.m i hi]; exact hg)
  | _, _, .elt i sz idx off g hi hg => .elt (p i) sz idx off g (h.n i hi) (by rw [h.m i hi]; exact hg)
  | _, _, .agg cs vs hl => .agg _ vs (RvL.shift h hl)
  | _, _, .tup cs vs hl => .tup _ vs (RvT.shift h hl)
  | _, _, .fn f cs vs hl => .fn f _ vs (RvT.shift h hl)
  | _, _, .raw v => .raw v
  | _, _, .opt b x v hb hx h2 => .opt b _ v (below_shift h.n x hb) (fun e => Rv.shift h (hx e)) h2
theorem RvL.shift {p : Nat → Nat} {c c' : Ctx} (h : CtxSh p c c') : ∀ {x : List AV} {v : List Value}, RvL c x v → RvL c' (renL p x) v
  | _, _, .nil => .nil
  | _, _, .cons x v l vs hx h1 ht => .cons _ v _ vs (Rv.shift h hx) h1 (RvL.shift h ht)
theorem RvT.shift {p : Nat → Nat} {c c' : Ctx} (h : CtxSh p c c') : ∀ {x : List AV} {v : List Value}, RvT c x v → RvT c' (renL p x) v
  | _, _, .nil => .nil
  | _, _, .cons x v l vs hx ht => .cons _ v _ vs (Rv.shift h hx) (RvT.shift h ht)
end
theorem ownsRow_base {w : World} {base base' : Nat} {e : TypeId} {size : Nat} {v : Value} {n : Nat} {xs : List Value} (h : w.ownsRow base e size v n xs) (hb : base' ≤ base) : w.ownsRow base' e size v n xs := by
  refine ⟨h.1, ?_⟩
  rcases h.2 with hn | ⟨g, cap, cur, hv, hg, r⟩
  · exact .inl hn
  · exact .inr ⟨g, cap, cur, hv, Nat.le_trans hb hg, r⟩
theorem ItemOk.shift {p : Nat → Nat} {c c' : Ctx} (h : CtxSh p c c') (hw : c'.w = c.w) {B B' : Nat} (hB : B' ≤ B) {v : Value} {it : Item} (hi : ItemOk c B v it) : ItemOk c' B' v (it.ren p) := by
  cases it with
  | row e r =>
    obtain ⟨n, cells, hr, hn, ho⟩ := hi
    exact ⟨n, cells, RowC.noid h.t hr, hn, by rw [hw]; exact ownsRow_base ho hB⟩
  | box e cs =>
    obtain ⟨g, vs, rfl, hg, hl, he⟩ := hi
    exact ⟨g, vs, rfl, Nat.le_trans hB hg, RvL.shift h hl, by rw [hw]; exact he⟩

/-- A contract whose results share no memory with the arguments. -/
def FnFr (P : Program) (f : Nat) (args : List AV) (out : AV) (rows : List (Nat × Item)) : Prop :=
  Enter P f ∧ ∀ (w : World) (T : Nat → Prop) (vals : List Value), RvT ⟨w, T, fun _ => undef, 0⟩ args vals →
    Calls P f vals.toArray w fun e w' => ∃ v, e = .returned v ∧ Below w.heap.size w w' ∧ OutOk (fun _ => False) w.heap.size w' out rows v

mutual
def noRo : AV → Bool
  | .ro _ => false
  | .cell _ => false
  | .fn _ _ => false
  | .agg cs => noRoL cs
  | .tup cs => noRoL cs
  | .own _ => true
  | .ptr _ _ => true
  | .elt _ _ _ _ => true
  | .dead => true
  | .nilS => true
  | .bool _ => true
  | .int _ _ => true
  | .str _ => true
  | .raw _ => true
  | .opt _ v => noRo v
def noRoL : List AV → Bool
  | [] => true
  | x :: l => noRo x && noRoL l
end
def noRoRow : RowV → Bool
  | .objs _ _ => false
  | _ => true
def noRoItem : Item → Bool
  | .row _ r => noRoRow r
  | .box _ cs => noRoL cs
def noRoRows : List (Nat × Item) → Bool
  | [] => true
  | (_, it) :: l => noRoItem it && noRoRows l

mutual
theorem Rv.anyT {w : World} {T T' : Nat → Prop} {m : Nat → Value} {N : Nat} : ∀ {x : AV} {v : Value}, Rv ⟨w, T, m, N⟩ x v → noRo x = true → Rv ⟨w, T', m, N⟩ x v
  | _, _, .dead v, _ => .dead v
  | _, _, .nilS, _ => .nilS
  | _, _, .bool b, _ => .bool b
  | _, _, .int k n hk, _ => .int k n hk
  | _, _, .str s hs, _ => .str s hs
  | _, _, .roNil r hr, e => by simp [noRo] at e
  | _, _, .ro r a len cap cells hr hl hc hm hs, e => by simp [noRo] at e
  | _, _, .own i hi h1, _ => .own (c := ⟨w, T', m, N⟩) i hi h1
  | _, _, .cell cs vs a hl hi hs, e => by simp [noRo] at e
  | _, _, .ptr i off g hi hg, _ => .ptr i off g hi hg
  | _, _, .elt i sz idx off g hi hg, _ => .elt i sz idx off g hi hg
  | _, _, .agg cs vs hl, e => .agg _ vs (RvL.anyT hl (by simpa [noRo] using e))
  | _, _, .tup cs vs hl, e => .tup _ vs (RvT.anyT hl (by simpa [noRo] using e))
  | _, _, .fn f cs vs hl, e => by simp [noRo] at e
  | _, _, .raw v, _ => .raw v
  | _, _, .opt b x v hb hx h2, e => .opt b x v hb (fun e' => Rv.anyT (hx e') (by simpa [noRo] using e)) h2
theorem RvL.anyT {w : World} {T T' : Nat → Prop} {m : Nat → Value} {N : Nat} : ∀ {x : List AV} {v : List Value}, RvL ⟨w, T, m, N⟩ x v → noRoL x = true → RvL ⟨w, T', m, N⟩ x v
  | _, _, .nil, _ => .nil
  | _, _, .cons x v l vs hx h1 ht, e => by
    simp only [noRoL, Bool.and_eq_true] at e
    exact .cons _ v _ vs (Rv.anyT hx e.1) h1 (RvL.anyT ht e.2)
theorem RvT.anyT {w : World} {T T' : Nat → Prop} {m : Nat → Value} {N : Nat} : ∀ {x : List AV} {v : List Value}, RvT ⟨w, T, m, N⟩ x v → noRoL x = true → RvT ⟨w, T', m, N⟩ x v
  | _, _, .nil, _ => .nil
  | _, _, .cons x v l vs hx ht, e => by
    simp only [noRoL, Bool.and_eq_true] at e
    exact .cons _ v _ vs (Rv.anyT hx e.1) (RvT.anyT ht e.2)
end
theorem noRoRows_mem : ∀ {l : List (Nat × Item)} {i : Nat} {it : Item}, noRoRows l = true → lk l i = some it → noRoItem it = true
  | (j, jt) :: l, i, it, h, hi => by
    simp only [noRoRows, Bool.and_eq_true] at h
    simp only [lk] at hi
    split at hi
    · cases hi; exact h.1
    · exact noRoRows_mem h.2 hi
theorem RowC.anyT {w : World} {T T' : Nat → Prop} {m : Nat → Value} {N : Nat} {r : RowV} {cells : List Value} (h : RowC ⟨w, T, m, N⟩ r cells) (hr : noRoRow r = true) : RowC ⟨w, T', m, N⟩ r cells := by
  cases h with
  | bools l => exact .bools l
  | ints k l hk => exact .ints k l hk
  | strs l hs => exact .strs l hs
  | objs sz l cells hz ho => simp [noRoRow] at hr

section
variable {P : Program} {w0 : World} {T0 : Nat → Prop} {b0 : Nat}

theorem FnFr.of_ok {f : Nat} {args : List AV} {out : AV} {rows : List (Nat × Item)} (h : FnOk P f args out rows) (h1 : noRo out = true) (h2 : noRoRows rows = true) : FnFr P f args out rows := by
  refine ⟨h.1, fun w T vals hv => (h.2 w T vals hv).mono ?_⟩
  rintro e w' ⟨v, rfl, hb, m, N, hr, hrows, hsep⟩
  refine ⟨v, rfl, hb, m, N, hr.anyT h1, fun i it hi => ⟨(hrows i it hi).1, ?_⟩, hsep⟩
  have hn := noRoRows_mem h2 hi
  have ho := (hrows i it hi).2
  cases it with
  | row e r => obtain ⟨n, cells, hc, hq⟩ := ho; exact ⟨n, cells, hc.anyT hn, hq⟩
  | box e cs => obtain ⟨g, vs, hv', hg, hl, hq⟩ := ho; exact ⟨g, vs, hv', hg, hl.anyT hn, hq⟩

theorem FnFr.ok {f : Nat} {args : List AV} {out : AV} {rows : List (Nat × Item)} (h : FnFr P f args out rows) : FnOk P f args out rows := by
  refine ⟨h.1, fun w T vals hv => (h.2 w T vals hv).mono ?_⟩
  rintro e w' ⟨v, rfl, hb, m, N, hr, hrows, hsep⟩
  have hle : CtxLe (⟨w', allow (fun _ => False) w.heap.size m rows, m, N⟩ : Ctx) ⟨w', allow T w.heap.size m rows, m, N⟩ :=
    ⟨Nat.le_refl _, fun _ _ => rfl, fun b hb _ => ⟨⟨.inl (hb.1.resolve_right id), hb.2⟩, rfl⟩⟩
  exact ⟨v, rfl, hb, m, N, hr.mono hle, fun i it hi => ⟨(hrows i it hi).1, ((hrows i it hi).2).mono hle fun _ _ => rfl⟩, hsep⟩

/-! ### Arguments -/
def nilRow : RowV → Prop
  | .bools l => l = []
  | .ints _ l => l = []
  | .strs l => l = []
  | .objs sz l => 0 < sz ∧ l = []
/-- Two lists, place by place. -/
def allOk (R : AV → AV → Prop) : List AV → List AV → Prop
  | [], l => l = []
  | x :: l, l' => ∃ y r, R x y ∧ allOk R l r ∧ l' = y :: r
/-- What stands for 'x' where it is handed on to be read; 'n': how deep it is looked into. -/
def argOkN (rows : List (Nat × Item)) : Nat → AV → AV → Prop
  | n + 1, .own i, y => ∃ e r, lk rows i = some (.row e r) ∧ y = .ro r
  | n + 1, .nilS, y => y = .nilS ∨ ∃ r, nilRow r ∧ y = .ro r
  | n + 1, .agg cs, y => ∃ cs', allOk (argOkN rows n) cs cs' ∧ y = .agg cs'
  | n + 1, .fn f cs, y => ∃ cs', allOk (argOkN rows n) cs cs' ∧ y = .fn f cs'
  | n + 1, .ptr i off, y => ∃ e cs cs', lk rows i = some (.box e cs) ∧ allOk (argOkN rows n) (cs.drop off) cs' ∧ y = .cell cs'
  | n + 1, .ro r, y => y = .ro r
  | n + 1, .bool b, y => y = .bool b
  | n + 1, .int k m, y => y = .int k m
  | n + 1, .str s, y => y = .str s
  | n + 1, .cell cs, y => y = .cell cs
  | n + 1, .raw v, y => y = .raw v
  | n + 1, .dead, y => y = .dead
  | _, _, _ => False
def argOk (rows : List (Nat × Item)) (x y : AV) : Prop := argOkN rows 6 x y
def argOkL (rows : List (Nat × Item)) (x y : List AV) : Prop := allOk (argOkN rows 6) x y

/-- A context in which arguments are read: what is owned may be read too. -/
structure Lend (w : World) (c : Ctx) (rows : List (Nat × Item)) (T : Nat → Prop) : Prop where
  hw : c.w = w
  t : ∀ b, c.T b → T b
  own : ∀ i e r, lk rows i = some (.row e r) → (∀ b, blk (c.m i) = some b → T b) ∧ ∃ n cells B, RowC c r cells ∧ r.len = n ∧ w.ownsRow B e r.sz (c.m i) n cells
  box : ∀ i e cs, lk rows i = some (.box e cs) → ∃ g vs, c.m i = .pointer (some ⟨g, 0, none⟩) ∧ T g ∧ RvL c cs vs ∧ w.heap[g]? = some (.cells vs.toArray e (0, 0))

theorem Lend.ht {w : World} {c : Ctx} {rows : List (Nat × Item)} {T : Nat → Prop} (h : Lend w c rows T) : ∀ b, c.T b → b < c.w.heap.size → (⟨w, T, fun _ => undef, 0⟩ : Ctx).T b ∧ (⟨w, T, fun _ => undef, 0⟩ : Ctx).w.heap[b]? = c.w.heap[b]? :=
  fun b hb _ => ⟨h.t b hb, by rw [h.hw]⟩
theorem nilRow_ok {c : Ctx} {r : RowV} (h : nilRow r) : RowC c r [] := by
  cases r with
  | bools l => cases h; exact .bools []
  | ints k l => cases h; exact .ints k [] fun x hx => by cases hx
  | strs l => cases h; exact .strs [] fun x hx => by cases hx
  | objs sz l => obtain ⟨hz, rfl⟩ := h; exact .objs sz [] [] hz (.nil sz)

theorem own_lend {w : World} {c : Ctx} {rows : List (Nat × Item)} {T : Nat → Prop} (h : Lend w c rows T) {i : Nat} {e : TypeId} {r : RowV} {v : Value} (hl : lk rows i = some (.row e r)) (hr : Rv c (.own i) v) : Rv ⟨w, T, fun _ => undef, 0⟩ (.ro r) v := by
  have ht : ∀ b, c.T b → b < c.w.heap.size → (⟨w, T, fun _ => undef, 0⟩ : Ctx).T b ∧ (⟨w, T, fun _ => undef, 0⟩ : Ctx).w.heap[b]? = c.w.heap[b]? := fun b hb _ => ⟨h.t b hb, by rw [h.hw]⟩
  obtain ⟨h1, n, cells, B, hc, hn, ho⟩ := h.own i e r hl
  cases hr with
  | own _ hi _ =>
    rcases ho.2 with ⟨hv, hz⟩ | ⟨g, cap, cur, hv, hg, hh, hnc, hcm, hcs, htake⟩
    · rw [hv]
      have hcl : cells = [] := List.eq_nil_of_length_eq_zero (by rw [ho.1, hz]; simp)
      subst hcl
      exact .roNil r (RowC.noid ht hc)
    · have hb := h1 g (by rw [hv]; rfl)
      have hcells := ho.cells (g := g) (by rw [hv]; rfl)
      rw [hv]
      exact .ro r ⟨g, 0, none⟩ n cap cells (RowC.noid ht hc) hn hnc hcm ⟨trivial, fun _ => hb, hcells⟩

mutual
theorem below0 : ∀ x : AV, Fv.below 0 x = true → noId x = true
  | .own i, h => by simp [Fv.below] at h
  | .ptr i o, h => by simp [Fv.below] at h
  | .elt i a b c, h => by simp [Fv.below] at h
  | .agg cs, h => by simp only [noId, Fv.below] at *; exact belowL0 cs h
  | .tup cs, h => by simp only [noId, Fv.below] at *; exact belowL0 cs h
  | .fn f cs, h => by simp only [noId, Fv.below] at *; exact belowL0 cs h
  | .cell cs, _ => rfl
  | .dead, _ => rfl
  | .nilS, _ => rfl
  | .bool _, _ => rfl
  | .int _ _, _ => rfl
  | .str _, _ => rfl
  | .ro _, _ => rfl
  | .raw _, _ => rfl
  | .opt _ v, h => by simp only [noId, Fv.below] at *; exact below0 v h
theorem belowL0 : ∀ x : List AV, belowL 0 x = true → noIdL x = true
  | [], _ => rfl
  | x :: l, h => by
    simp only [belowL, Bool.and_eq_true] at h
    simp [noIdL, below0 x h.1, belowL0 l h.2]
end
theorem Rv.noid0 {c : Ctx} (h0 : c.N = 0) {x : AV} {v : Value} (h : Rv c x v) : noId x = true := below0 x (by rw [← h0]; exact h.ids)
theorem RvL.noid0 {c : Ctx} (h0 : c.N = 0) {x : List AV} {v : List Value} (h : RvL c x v) : noIdL x = true := belowL0 x (by rw [← h0]; exact h.ids)
theorem argOkN_rv {w : World} {c : Ctx} {rows : List (Nat × Item)} {T : Nat → Prop} (h : Lend w c rows T) : ∀ (n : Nat) (x : AV) {y : AV} {v : Value}, argOkN rows n x y → Rv c x v → Rv ⟨w, T, fun _ => undef, 0⟩ y v := by
  intro n
  induction n with
  | zero => intro x y v ha _; simp [argOkN] at ha
  | succ n ih =>
    have lst : ∀ {l l' : List AV} {vs : List Value}, allOk (argOkN rows n) l l' → RvL c l vs → RvL ⟨w, T, fun _ => undef, 0⟩ l' vs := by
      intro l
      induction l with
      | nil => intro l' vs ha hr; simp only [allOk] at ha; subst ha; cases hr; exact .nil
      | cons x l ihl =>
        intro l' vs ha hr
        simp only [allOk] at ha
        obtain ⟨y, r, h1, h2, rfl⟩ := ha
        cases hr with
        | cons _ v _ vs hv h1' ht => exact .cons _ _ _ _ (ih x h1 hv) h1' (ihl h2 ht)
    have lstT : ∀ {l l' : List AV} {vs : List Value}, allOk (argOkN rows n) l l' → RvT c l vs → RvT ⟨w, T, fun _ => undef, 0⟩ l' vs := by
      intro l
      induction l with
      | nil => intro l' vs ha hr; simp only [allOk] at ha; subst ha; cases hr; exact .nil
      | cons x l ihl =>
        intro l' vs ha hr
        simp only [allOk] at ha
        obtain ⟨y, r, h1, h2, rfl⟩ := ha
        cases hr with
        | cons _ v _ vs hv ht => exact .cons _ _ _ _ (ih x h1 hv) (ihl h2 ht)
    intro x y v ha hr
    cases x with
    | agg cs =>
      simp only [argOkN] at ha
      obtain ⟨cs', hl, rfl⟩ := ha
      cases hr with
      | agg _ vs hv => exact .agg _ _ (lst hl hv)
    | fn f cs =>
      simp only [argOkN] at ha
      obtain ⟨cs', hl, rfl⟩ := ha
      cases hr with
      | fn _ _ vs hv => exact .fn f _ _ (lstT hl hv)
    | own i =>
      simp only [argOkN] at ha
      obtain ⟨e, r, hl, rfl⟩ := ha
      exact own_lend h hl hr
    | nilS =>
      simp only [argOkN] at ha
      cases hr
      rcases ha with rfl | ⟨r, hr, rfl⟩
      · exact .nilS
      · exact .roNil r (nilRow_ok hr)
    | ptr i off =>
      simp only [argOkN] at ha
      obtain ⟨e, cs, cs', hl, hcs, rfl⟩ := ha
      obtain ⟨g, vs, hv, hT, hvs, hh⟩ := h.box i e cs hl
      cases hr with
      | ptr _ _ g' _ hg =>
        have hmi : blk (c.m i) = some g' := hg
        rw [hv] at hmi; cases hmi
        have k1 := lst hcs (hvs.drop off)
        refine .cell cs' (vs.drop off) ⟨g, off, none⟩ k1 (RvL.noid0 rfl k1) ⟨trivial, fun _ => hT, fun j u hu => ?_⟩
        rw [Addr.add_lit]
        rw [List.getElem?_drop] at hu
        have := cell_of_row w g (off + j) vs.toArray e (0, 0) hh
        show w.cell? _ = _
        rw [this]; simpa using hu
    | ro r => simp only [argOkN] at ha; subst ha; exact hr.noid h.ht rfl
    | bool b => simp only [argOkN] at ha; subst ha; exact hr.noid h.ht rfl
    | int k n => simp only [argOkN] at ha; subst ha; exact hr.noid h.ht rfl
    | str s => simp only [argOkN] at ha; subst ha; exact hr.noid h.ht rfl
    | raw v => simp only [argOkN] at ha; subst ha; exact hr.noid h.ht rfl
    | dead => simp only [argOkN] at ha; subst ha; exact .dead v
    | cell cs =>
      simp only [argOkN] at ha; subst ha
      cases hr with
      | cell _ vs a hl hi hs => exact .cell cs vs a (hl.noid h.ht hi) hi (hs.mono' h.ht)
    | _ => simp [argOkN] at ha
theorem argOkT_rv {w : World} {c : Ctx} {rows : List (Nat × Item)} {T : Nat → Prop} (h : Lend w c rows T) : ∀ (l : List AV) {l' : List AV} {vs : List Value}, argOkL rows l l' → RvT c l vs → RvT ⟨w, T, fun _ => undef, 0⟩ l' vs
  | [], _, _, ha, hr => by
    simp only [argOkL, allOk] at ha; subst ha
    cases hr; exact .nil
  | x :: l, _, _, ha, hr => by
    simp only [argOkL, allOk] at ha
    obtain ⟨y, r, h1, h2, rfl⟩ := ha
    cases hr with
    | cons _ v _ vs hv ht => exact .cons _ _ _ _ (argOkN_rv h 6 x h1 hv) (argOkT_rv h l h2 ht)

/-! ### The state behind a call -/
def shRows (k : Nat) : List (Nat × Item) → List (Nat × Item)
  | [] => []
  | (i, it) :: l => (k + i, it.ren (fun j => k + j)) :: shRows k l
theorem lk_shRows (k : Nat) : ∀ (l : List (Nat × Item)) (i : Nat) (it : Item), lk (shRows k l) i = some it → ∃ j jt, i = k + j ∧ lk l j = some jt ∧ it = jt.ren (fun j => k + j)
  | (j, jt) :: l, i, it, h => by
    simp only [shRows, lk] at h
    split at h
    · rename_i e; cases h; exact ⟨j, jt, e.symm, by simp [lk], rfl⟩
    · rename_i e
      obtain ⟨q, qt, h1, h2, h3⟩ := lk_shRows k l i it h
      refine ⟨q, qt, h1, ?_, h3⟩
      simp only [lk]; rw [if_neg (by intro e'; exact e (by omega))]; exact h2
theorem lk_append {α : Type} : ∀ (l l' : List (Nat × α)) (i : Nat), lk (l ++ l') i = match lk l i with | some v => some v | none => lk l' i
  | [], _, _ => rfl
  | (j, v) :: l, l', i => by
    simp only [List.cons_append, lk]
    split
    · rfl
    · exact lk_append l l' i

def S.after (s : S) (rows' : List (Nat × Item)) (N : Nat) (rows : List (Nat × Item)) : S := { s with rows := shRows s.next rows ++ rows', next := s.next + N }

theorem RepM.after {H : List (AV × Value)} {s : S} {a : Act} {w : World} {m : Nat → Value} (hm : RepM w0 T0 H s a w m) {w' : World} (hb : Below w.heap.size w w') {rows' : List (Nat × Item)}
    (hsub : ∀ i it, lk rows' i = some it → lk s.rows i = some it) {T : Nat → Prop} (hT : ∀ b, T b → allow T0 w0.heap.size m rows' b) {out : AV} {rows : List (Nat × Item)} {v : Value} (ho : OutOk T w.heap.size w' out rows v)
    {N : Nat} (hN : Fv.below N out = true) (hNr : ∀ i it, lk rows i = some it → i < N ∧ it.below N = true) :
    Rep w0 T0 ((ren (fun j => s.next + j) out, v) :: H) (s.after rows' N rows) a w' := by
  obtain ⟨mo, No, hr, hrows, hsep⟩ := ho
  -- the same at N
  have hcut : ∀ (x : AV) (u : Value), Rv ⟨w', allow T w.heap.size mo rows, mo, No⟩ x u → Fv.below N x = true → Rv ⟨w', allow T w.heap.size mo rows, mo, N⟩ x u := by
    intro x u hx hbx
    refine Rv.ren (p := id) (c := ⟨w', allow T w.heap.size mo rows, mo, No⟩) (c' := ⟨w', allow T w.heap.size mo rows, mo, N⟩) ⟨fun _ _ => rfl, fun b hb _ => ⟨hb, rfl⟩⟩ x hbx ?_
    rw [ren_low (p := id) (fun _ _ => rfl) x hx.ids]; exact hx
  have hcutL : ∀ (x : List AV) (u : List Value), RvL ⟨w', allow T w.heap.size mo rows, mo, No⟩ x u → belowL N x = true → RvL ⟨w', allow T w.heap.size mo rows, mo, N⟩ x u := by
    intro x u hx hbx
    refine RvL.ren (p := id) (c := ⟨w', allow T w.heap.size mo rows, mo, No⟩) (c' := ⟨w', allow T w.heap.size mo rows, mo, N⟩) ⟨fun _ _ => rfl, fun b hb _ => ⟨hb, rfl⟩⟩ x hbx ?_
    rw [renL_low (p := id) (fun _ _ => rfl) x hx.ids]; exact hx
  have hitem : ∀ i it, lk rows i = some it → ItemOk ⟨w', allow T w.heap.size mo rows, mo, N⟩ w.heap.size (mo i) it := by
    intro i it hi
    have h1 := (hrows i it hi).2
    have h2 := (hNr i it hi).2
    cases it with
    | row e r =>
      obtain ⟨n, cells, hc, hq⟩ := h1
      exact ⟨n, cells, RowC.noid (c := ⟨w', allow T w.heap.size mo rows, mo, No⟩) (c' := ⟨w', allow T w.heap.size mo rows, mo, N⟩) (fun b hb _ => ⟨hb, rfl⟩) hc, hq⟩
    | box e cs =>
      obtain ⟨g, vs, hv', hg, hl, hq⟩ := h1
      exact ⟨g, vs, hv', hg, hcutL _ _ hl h2, hq⟩
  let m2 : Nat → Value := fun i => if i < s.next then m i else mo (i - s.next)
  have hm2 : ∀ i, i < s.next → m2 i = m i := fun i hi => if_pos hi
  have hm3 : ∀ j, m2 (s.next + j) = mo j := fun j => by show (if s.next + j < s.next then _ else _) = _; rw [if_neg (by omega), Nat.add_sub_cancel_left]
  have hold : ∀ i it, lk rows' i = some it → i < s.next := fun i it hi => (hm.rows i it (hsub i it hi)).1
  have hnewB : ∀ j jt, lk rows j = some jt → ∀ b, blk (mo j) = some b → w.heap.size ≤ b := fun j jt hj b hbl => ((hrows j jt hj).2.blk b hbl).1
  have holdB : ∀ i it, lk s.rows i = some it → ∀ b, blk (m i) = some b → b < w.heap.size := fun i it hi b hbl => ((hm.rows i it hi).2.blk b hbl).2
  have hcases : ∀ i it, lk (shRows s.next rows ++ rows') i = some it → (∃ j jt, i = s.next + j ∧ lk rows j = some jt ∧ it = jt.ren (fun j => s.next + j)) ∨ (i < s.next ∧ lk rows' i = some it) := by
    intro i it hi
    rw [lk_append] at hi
    cases hq : lk (shRows s.next rows) i with
    | some y => rw [hq] at hi; cases hi; exact .inl (lk_shRows _ _ _ _ hq)
    | none => rw [hq] at hi; exact .inr ⟨hold i it hi, hi⟩
  have hle : CtxLe (ctxOf T0 w0.heap.size m s w) (ctxOf T0 w0.heap.size m2 (s.after rows' N rows) w') := by
    refine ⟨Nat.le_add_right _ _, hm2, ?_⟩
    intro b ⟨h1, h2⟩ hlt
    refine ⟨⟨h1, fun i it hi e => ?_⟩, hb.block b hlt⟩
    rcases hcases i it hi with ⟨j, jt, rfl, hj, _⟩ | ⟨hlt', hi'⟩
    · rw [hm3] at e; have h4 := hnewB j jt hj b e; have hlt2 : b < w.heap.size := hlt; omega
    · rw [hm2 i hlt'] at e; exact h2 i it (hsub i it hi') e
  have hsh : CtxSh (fun j => s.next + j) (⟨w', allow T w.heap.size mo rows, mo, N⟩ : Ctx) (ctxOf T0 w0.heap.size m2 (s.after rows' N rows) w') := by
    refine ⟨fun i hi => Nat.add_lt_add_left hi _, fun i _ => hm3 i, ?_⟩
    intro b ⟨h1, h2⟩ _
    have hlt0 := hm.lt
    refine ⟨⟨?_, fun i it hi e => ?_⟩, rfl⟩
    · rcases h1 with h1 | h1
      · exact .inl (by omega)
      · exact (hT b h1).1
    · rcases hcases i it hi with ⟨j, jt, rfl, hj, _⟩ | ⟨hlt', hi'⟩
      · rw [hm3] at e; exact h2 j jt hj e
      · rw [hm2 i hlt'] at e
        rcases h1 with h1 | h1
        · have := holdB i it (hsub i it hi') b e; omega
        · exact (hT b h1).2 i it hi' e
  refine ⟨m2, RepM.hold (s := s.after rows' N rows) ?_ ((hcut _ _ hr hN).shift hsh)⟩
  refine { size := hm.size, nodef := hm.nodef, below := hm.below.trans (hb.mono hm.lt), env := fun r u hu => (hm.env r u hu).mono hle, held := fun q hq => (hm.held q hq).mono hle, rows := ?_, sep := ?_ }
  · intro i it hi
    rcases hcases i it hi with ⟨j, jt, rfl, hj, rfl⟩ | ⟨hlt', hi'⟩
    · refine ⟨Nat.add_lt_add_left (hNr j jt hj).1 _, ?_⟩
      rw [hm3]
      exact (hitem j jt hj).shift hsh rfl hm.lt
    · refine ⟨by have : i < s.next := hlt'; show i < s.next + N; omega, ?_⟩
      rw [hm2 i hlt']
      exact ((hm.rows i it (hsub i it hi')).2).mono hle fun b hbl => hb.block b (holdB i it (hsub i it hi') b hbl)
  · intro i j it jt b hi hj hbi hbj
    rcases hcases i it hi with ⟨i', it', rfl, hi', _⟩ | ⟨hlt', hi'⟩ <;> rcases hcases j jt hj with ⟨j', jt', rfl, hj', _⟩ | ⟨hlt'', hj'⟩
    · rw [hm3] at hbi hbj
      rw [hsep i' j' it' jt' b hi' hj' hbi hbj]
    · rw [hm3] at hbi; rw [hm2 j hlt''] at hbj
      have h4 := hnewB i' it' hi' b hbi
      have h5 := holdB j jt (hsub j jt hj') b hbj
      omega
    · rw [hm3] at hbj; rw [hm2 i hlt'] at hbi
      have h4 := hnewB j' jt' hj' b hbj
      have h5 := holdB i it (hsub i it hi') b hbi
      omega
    · rw [hm2 i hlt'] at hbi; rw [hm2 j hlt''] at hbj
      exact hm.sep i j it jt b (hsub i it hi') (hsub j jt hj') hbi hbj

def rowsB (N : Nat) : List (Nat × Item) → Prop
  | [] => True
  | (i, it) :: l => (i < N ∧ it.below N = true) ∧ rowsB N l
theorem rowsB_lk {N : Nat} : ∀ {l : List (Nat × Item)}, rowsB N l → ∀ i it, lk l i = some it → i < N ∧ it.below N = true
  | (j, jt) :: l, h, i, it, hi => by
    simp only [lk] at hi
    split at hi
    · rename_i e; subst e; cases hi; exact h.1
    · exact rowsB_lk h.2 i it hi

/-- A CALL BY A CONTRACT whose results share nothing: what is owned stays owned. -/
theorem VcCall.fr {f : Nat} {args args' : List AV} {out : AV} {rows : List (Nat × Item)} {s : S} {K : AV → S → Prop} (h : FnFr P f args' out rows) (ha : argOkL s.rows args args') (N : Nat) (hN : Fv.below N out = true) (hNr : rowsB N rows)
    (hk : K (ren (fun j => s.next + j) out) (s.after s.rows N rows)) : @VcCall P w0 T0 f args s ⟨K⟩ := by
  refine ⟨h.1, fun H a w m vals hm hv => ?_⟩
  have hl : Lend w (ctxOf T0 w0.heap.size m s w) s.rows (fun _ => True) :=
    { hw := rfl, t := fun _ _ => trivial,
      own := fun i e r hi => by
        obtain ⟨n, cells, hc, hn, ho⟩ := (hm.rows i _ hi).2
        exact ⟨fun _ _ => trivial, n, cells, _, hc, hn, ho⟩,
      box := fun i e cs hi => by
        obtain ⟨g, vs, hv, _, hl, hh⟩ := (hm.rows i _ hi).2
        exact ⟨g, vs, hv, trivial, hl, hh⟩ }
  refine (h.2 w (fun _ => True) vals (argOkT_rv hl _ ha hv)).mono ?_
  rintro e w' ⟨v, rfl, hb, ho⟩
  exact ⟨v, rfl, _, _, hk, hm.after hb (fun _ _ h => h) (fun b hb => hb.elim) ho hN (rowsB_lk hNr)⟩

/-- A CALL BY A CONTRACT whose results may share memory with the arguments: 'rows'': what stays owned; nothing of it is among the arguments. -/
theorem VcCall.sh (rows' : List (Nat × Item)) {f : Nat} {args args' : List AV} {out : AV} {rows : List (Nat × Item)} {s : S} {K : AV → S → Prop} (h : FnOk P f args' out rows) (lent : List (Nat × Item)) (ha : argOkL lent args args')
    (hsub : ∀ i it, lk rows' i = some it → lk s.rows i = some it) (hlent : ∀ i it, lk lent i = some it → lk s.rows i = some it ∧ lk rows' i = none) (N : Nat) (hN : Fv.below N out = true) (hNr : rowsB N rows)
    (hk : K (ren (fun j => s.next + j) out) (s.after rows' N rows)) : @VcCall P w0 T0 f args s ⟨K⟩ := by
  refine ⟨h.1, fun H a w m vals hm hv => ?_⟩
  have hl : Lend w (ctxOf T0 w0.heap.size m s w) lent (allow T0 w0.heap.size m rows') :=
    { hw := rfl, t := fun b hb => ⟨hb.1, fun i it hi => hb.2 i it (hsub i it hi)⟩,
      own := fun i e r hi => by
        obtain ⟨h1, h2⟩ := hlent i _ hi
        obtain ⟨n, cells, hc, hn, ho⟩ := (hm.rows i _ h1).2
        refine ⟨fun b hb => ⟨.inl (ownsRow_blk ho b hb).1, fun j jt hj hbj => ?_⟩, n, cells, _, hc, hn, ho⟩
        have := hm.sep i j _ jt b h1 (hsub j jt hj) hb hbj
        subst this
        exact absurd (h2.symm.trans hj) (by simp),
      box := fun i e cs hi => by
        obtain ⟨h1, h2⟩ := hlent i _ hi
        obtain ⟨g, vs, hv, hg, hl, hh⟩ := (hm.rows i _ h1).2
        refine ⟨g, vs, hv, ⟨.inl hg, fun j jt hj hbj => ?_⟩, hl, hh⟩
        have := hm.sep i j _ jt g h1 (hsub j jt hj) (by show blk (m i) = some g; rw [show m i = _ from hv]; rfl) hbj
        subst this
        rw [h2] at hj; cases hj }
  refine (h.2 w _ vals (argOkT_rv hl _ ha hv)).mono ?_
  rintro e w' ⟨v, rfl, hb, ho⟩
  exact ⟨v, rfl, _, _, hk, hm.after hb hsub (fun b hb => hb) ho hN (rowsB_lk hNr)⟩
end
end Go.Fv
