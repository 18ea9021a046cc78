/-
  Abstract values and states for the walks: what a slot holds, as plain data; what the call's own memory holds. 'Rep' ties a state to a frame and a world.
-/
import Derived.WalkKit
import Derived.Deep.LoopGhost
namespace Go.Fv
open Go.RowKit
set_option linter.unusedVariables false
set_option linter.unusedSimpArgs false
set_option linter.unnecessarySimpa false

def InK (k : IntKind) (n : Int) : Prop := k.min ≤ n ∧ n ≤ k.max

mutual
inductive AV where
  | dead
  | nilS
  | bool (b : Bool)
  | int (k : IntKind) (n : Int)
  | str (s : List UInt8)
  | ro (r : RowV)
  | own (i : Nat)
  | cell (cs : List AV)
  | ptr (i : Nat) (off : Nat)
  | elt (i sz idx off : Nat)
  | agg (cs : List AV)
  | tup (cs : List AV)
  | fn (f : Nat) (caps : List AV)
  | raw (v : Value)
  | opt (b : Bool) (v : AV)
inductive RowV where
  | bools (l : List Bool)
  | ints (k : IntKind) (l : List Int)
  | strs (l : List (List UInt8))
  | objs (sz : Nat) (l : List (List AV))
end

def RowV.sz : RowV → Nat
  | .objs sz _ => sz
  | _ => 1
def RowV.len : RowV → Nat
  | .bools l => l.length
  | .ints _ l => l.length
  | .strs l => l.length
  | .objs _ l => l.length

structure Ctx where
  w : World
  T : Nat → Prop
  m : Nat → Value
  N : Nat

mutual
/-- No names of the call's own memory. -/
def noId : AV → Bool
  | .own _ => false
  | .ptr _ _ => false
  | .elt _ _ _ _ => false
  | .agg cs => noIdL cs
  | .tup cs => noIdL cs
  | .fn _ cs => noIdL cs
  | .cell _ => true
  | .dead => true
  | .nilS => true
  | .bool _ => true
  | .int _ _ => true
  | .str _ => true
  | .ro _ => true
  | .raw _ => true
  | .opt _ v => noId v
def noIdL : List AV → Bool
  | [] => true
  | x :: l => noId x && noIdL l
end
mutual
def below (n : Nat) : AV → Bool
  | .own i => decide (i < n)
  | .ptr i _ => decide (i < n)
  | .elt i _ _ _ => decide (i < n)
  | .agg cs => belowL n cs
  | .tup cs => belowL n cs
  | .fn _ cs => belowL n cs
  | .cell _ => true
  | .dead => true
  | .nilS => true
  | .bool _ => true
  | .int _ _ => true
  | .str _ => true
  | .ro _ => true
  | .raw _ => true
  | .opt _ v => below n v
def belowL (n : Nat) : List AV → Bool
  | [] => true
  | x :: l => below n x && belowL n l
end
mutual
def ren (p : Nat → Nat) : AV → AV
  | .own i => .own (p i)
  | .ptr i o => .ptr (p i) o
  | .elt i a b c => .elt (p i) a b c
  | .agg cs => .agg (renL p cs)
  | .tup cs => .tup (renL p cs)
  | .fn f cs => .fn f (renL p cs)
  | .cell cs => .cell cs
  | .dead => .dead
  | .nilS => .nilS
  | .bool b => .bool b
  | .int k n => .int k n
  | .str s => .str s
  | .ro r => .ro r
  | .raw v => .raw v
  | .opt b v => .opt b (ren p v)
def renL (p : Nat → Nat) : List AV → List AV
  | [] => []
  | x :: l => ren p x :: renL p l
end
mutual
theorem below_le {n k : Nat} (hk : n ≤ k) : ∀ x : AV, below n x = true → below k x = true
  | .own i, h => by simp [below] at *; omega
  | .ptr i o, h => by simp [below] at *; omega
  | .elt i a b c, h => by simp [below] at *; omega
  | .agg cs, h => by simp only [below] at *; exact belowL_le hk cs h
  | .tup cs, h => by simp only [below] at *; exact belowL_le hk cs h
  | .fn f cs, h => by simp only [below] at *; exact belowL_le hk cs h
  | .cell cs, _ => rfl
  | .dead, _ => rfl
  | .nilS, _ => rfl
  | .bool _, _ => rfl
  | .int _ _, _ => rfl
  | .str _, _ => rfl
  | .ro _, _ => rfl
  | .raw _, _ => rfl
  | .opt _ v, h => by simp only [below] at *; exact below_le hk v h
theorem belowL_le {n k : Nat} (hk : n ≤ k) : ∀ x : List AV, belowL n x = true → belowL k x = true
  | [], _ => rfl
  | x :: l, h => by
    simp only [belowL, Bool.and_eq_true] at h
    simp [belowL, below_le hk x h.1, belowL_le hk l h.2]
end

mutual
theorem noId_below (n : Nat) : ∀ x : AV, noId x = true → below n x = true
  | .own i, h => by simp [noId] at h
  | .ptr i o, h => by simp [noId] at h
  | .elt i a b c, h => by simp [noId] at h
  | .agg cs, h => by simp only [noId, below] at *; exact noIdL_below n cs h
  | .tup cs, h => by simp only [noId, below] at *; exact noIdL_below n cs h
  | .fn f cs, h => by simp only [noId, below] at *; exact noIdL_below n cs h
  | .cell cs, _ => rfl
  | .dead, _ => rfl
  | .nilS, _ => rfl
  | .bool _, _ => rfl
  | .int _ _, _ => rfl
  | .str _, _ => rfl
  | .ro _, _ => rfl
  | .raw _, _ => rfl
  | .opt _ v, h => by simp only [noId, below] at *; exact noId_below n v h
theorem noIdL_below (n : Nat) : ∀ x : List AV, noIdL x = true → belowL n x = true
  | [], _ => rfl
  | x :: l, h => by
    simp only [noIdL, Bool.and_eq_true] at h
    simp [belowL, noId_below n x h.1, noIdL_below n l h.2]
end
def blk : Value → Option Nat
  | .slice (some a) _ _ => some a.block
  | .pointer (some a) => some a.block
  | .map (some g) => some g
  | _ => none

/-- The cells from address 'a' on hold 'cells', in memory that is not written. -/
def CellsAt (c : Ctx) (a : Addr) (cells : List Value) : Prop :=
  True ∧ (cells ≠ [] → c.T a.block) ∧ ∀ j u, cells[j]? = some u → c.w.cell? (a.add j) = some u

mutual
inductive Rv (c : Ctx) : AV → Value → Prop
  | dead (v : Value) : Rv c .dead v
  | nilS : Rv c .nilS (.slice none 0 0)
  | bool (b : Bool) : Rv c (.bool b) (.bool b)
  | int (k : IntKind) (n : Int) (h : InK k n) : Rv c (.int k n) (.int k n)
  | str (s : List UInt8) (h : s.length ≤ maxLen) : Rv c (.str s) (.string ⟨s.toArray⟩)
  | roNil (r : RowV) (h : RowC c r []) : Rv c (.ro r) (.slice none 0 0)
  | ro (r : RowV) (a : Addr) (len cap : Nat) (cells : List Value) (h : RowC c r cells) (hl : r.len = len) (hc : len ≤ cap) (hm : cap ≤ maxLen) (hs : CellsAt c a cells) : Rv c (.ro r) (.slice (some a) len cap)
  | own (i : Nat) (h : i < c.N) (h1 : (c.m i).oneCell' = true) : Rv c (.own i) (c.m i)
  | cell (cs : List AV) (vs : List Value) (a : Addr) (h : RvL c cs vs) (hi : noIdL cs = true) (hs : CellsAt c a vs) : Rv c (.cell cs) (.pointer (some a))
  | ptr (i off g : Nat) (h : i < c.N) (hg : blk (c.m i) = some g) : Rv c (.ptr i off) (.pointer (some ⟨g, off, none⟩))
  | elt (i sz idx off g : Nat) (h : i < c.N) (hg : blk (c.m i) = some g) : Rv c (.elt i sz idx off) (.pointer (some ⟨g, idx * sz + off, none⟩))
  | agg (cs : List AV) (vs : List Value) (h : RvL c cs vs) : Rv c (.agg cs) (.agg vs.toArray)
  | tup (cs : List AV) (vs : List Value) (h : RvT c cs vs) : Rv c (.tup cs) (.tuple vs.toArray)
  | fn (f : Nat) (cs : List AV) (vs : List Value) (h : RvT c cs vs) : Rv c (.fn f cs) (.func (.func f) #[] vs.toArray)
  | raw (v : Value) : Rv c (.raw v) v
  | opt (b : Bool) (x : AV) (v : Value) (hb : below c.N x = true) (h : b = true → Rv c x v) (h2 : b = false → v = undef) : Rv c (.opt b x) v
inductive RvL (c : Ctx) : List AV → List Value → Prop
  | nil : RvL c [] []
  | cons (x : AV) (v : Value) (l : List AV) (vs : List Value) (h : Rv c x v) (h1 : v.oneCell' = true) (t : RvL c l vs) : RvL c (x :: l) (v :: vs)
inductive RvT (c : Ctx) : List AV → List Value → Prop
  | nil : RvT c [] []
  | cons (x : AV) (v : Value) (l : List AV) (vs : List Value) (h : Rv c x v) (t : RvT c l vs) : RvT c (x :: l) (v :: vs)
inductive RowC (c : Ctx) : RowV → List Value → Prop
  | bools (l : List Bool) : RowC c (.bools l) (l.map Value.bool)
  | ints (k : IntKind) (l : List Int) (h : ∀ x, x ∈ l → InK k x) : RowC c (.ints k l) (l.map (Value.int k))
  | strs (l : List (List UInt8)) (h : ∀ x, x ∈ l → x.length ≤ maxLen) : RowC c (.strs l) (l.map fun s => Value.string ⟨s.toArray⟩)
  | objs (sz : Nat) (l : List (List AV)) (cells : List Value) (hz : 0 < sz) (h : ObjsC c sz l cells) : RowC c (.objs sz l) cells
inductive ObjsC (c : Ctx) : Nat → List (List AV) → List Value → Prop
  | nil (sz : Nat) : ObjsC c sz [] []
  | cons (sz : Nat) (o : List AV) (vs : List Value) (l : List (List AV)) (cells : List Value) (h : RvL c o vs) (hi : noIdL o = true) (hl : vs.length = sz) (t : ObjsC c sz l cells) : ObjsC c sz (o :: l) (vs ++ cells)
end

structure CtxLe (c c' : Ctx) : Prop where
  n : c.N ≤ c'.N
  m : ∀ i, i < c.N → c'.m i = c.m i
  t : ∀ b, c.T b → b < c.w.heap.size → c'.T b ∧ c'.w.heap[b]? = c.w.heap[b]?

theorem CellsAt.mono' {c c' : Ctx} (h : ∀ b, c.T b → b < c.w.heap.size → c'.T b ∧ c'.w.heap[b]? = c.w.heap[b]?) {a : Addr} {cells : List Value} (hs : CellsAt c a cells) : CellsAt c' a cells := by
  obtain ⟨h1, h2, h3⟩ := hs
  by_cases hn : cells = []
  · subst hn; exact ⟨h1, fun h => absurd rfl h, fun j u hu => by simp at hu⟩
  · have hT := h2 hn
    have hb : a.block < c.w.heap.size := by
      cases cells with
      | nil => exact absurd rfl hn
      | cons x l =>
        have := h3 0 x (by simp)
        have hb := World.block_lt_of_cell? _ _ this
        simpa [Addr.add] using hb
    obtain ⟨ht, he⟩ := h a.block hT hb
    refine ⟨h1, fun _ => ht, fun j u hu => ?_⟩
    rw [← h3 j u hu]
    refine World.cell?_of_block ?_
    have : (a.add j).block = a.block := by unfold Addr.add; split <;> rfl
    rw [this]; exact he

theorem CellsAt.mono {c c' : Ctx} (h : CtxLe c c') {a : Addr} {cells : List Value} (hs : CellsAt c a cells) : CellsAt c' a cells := CellsAt.mono' h.t hs

mutual
theorem Rv.mono {c c' : Ctx} (h : CtxLe c c') : ∀ {x : AV} {v : Value}, Rv c x v → Rv c' x v
  | _, _, .dead v => .dead v
  | _, _, .nilS => .nilS
  | _, _, .bool b => .bool b
  | _, _, .int k n hk => .int k n hk
  | _, _, .str s hs => .str s hs
  | _, _, .roNil r hr => .roNil r (RowC.mono h hr)
  | _, _, .ro r a len cap cells hr hl hc hm hs => .ro r a len cap cells (RowC.mono h hr) hl hc hm (hs.mono h)
  | _, _, .own i hi h1 => by rw [← h.m i hi]; exact .own i (Nat.lt_of_lt_of_le hi h.n) (by rw [h.m i hi]; exact h1)
  | _, _, .cell cs vs a hl hi hs => .cell cs vs a (RvL.mono h hl) hi (hs.mono h)
  | _, _, .ptr i off g hi hg => .ptr i off g (Nat.lt_of_lt_of_le hi h.n) (by rw [h.m i hi]; exact hg)
  | _, _, .elt i sz idx off g hi hg => .elt i sz idx off g (Nat.lt_of_lt_of_le hi h.n) (by rw [h.m i hi]; exact hg)
  | _, _, .agg cs vs hl => .agg cs vs (RvL.mono h hl)
  | _, _, .tup cs vs hl => .tup cs vs (RvT.mono h hl)
  | _, _, .fn f cs vs hl => .fn f cs vs (RvT.mono h hl)
  | _, _, .raw v => .raw v
  | _, _, .opt b x v hb hx h2 => .opt b x v (below_le h.n x hb) (fun e => Rv.mono h (hx e)) h2
theorem RvL.mono {c c' : Ctx} (h : CtxLe c c') : ∀ {x : List AV} {v : List Value}, RvL c x v → RvL c' x v
  | _, _, .nil => .nil
  | _, _, .cons x v l vs hx h1 ht => .cons x v l vs (Rv.mono h hx) h1 (RvL.mono h ht)
theorem RvT.mono {c c' : Ctx} (h : CtxLe c c') : ∀ {x : List AV} {v : List Value}, RvT c x v → RvT c' x v
  | _, _, .nil => .nil
  | _, _, .cons x v l vs hx ht => .cons x v l vs (Rv.mono h hx) (RvT.mono h ht)
theorem RowC.mono {c c' : Ctx} (h : CtxLe c c') : ∀ {x : RowV} {v : List Value}, RowC c x v → RowC c' x v
  | _, _, .bools l => .bools l
  | _, _, .ints k l hk => .ints k l hk
  | _, _, .strs l hs => .strs l hs
  | _, _, .objs sz l cells hz ho => .objs sz l cells hz (ObjsC.mono h ho)
theorem ObjsC.mono {c c' : Ctx} (h : CtxLe c c') : ∀ {sz : Nat} {x : List (List AV)} {v : List Value}, ObjsC c sz x v → ObjsC c' sz x v
  | _, _, _, .nil sz => .nil sz
  | _, _, _, .cons sz o vs l cells ho hi hl ht => .cons sz o vs l cells (RvL.mono h ho) hi hl (ObjsC.mono h ht)
end

/-! ### Other names for the call's own memory -/
structure CtxRen (p : Nat → Nat) (c c' : Ctx) : Prop where
  m : ∀ i, i < c'.N → c'.m i = c.m (p i)
  t : ∀ b, c.T b → b < c.w.heap.size → c'.T b ∧ c'.w.heap[b]? = c.w.heap[b]?

mutual
theorem Rv.noid {c c' : Ctx} (h : ∀ b, c.T b → b < c.w.heap.size → c'.T b ∧ c'.w.heap[b]? = c.w.heap[b]?) : ∀ {x : AV} {v : Value}, Rv c x v → noId x = true → Rv c' x v
  | _, _, .dead v, _ => .dead v
  | _, _, .nilS, _ => .nilS
  | _, _, .bool b, _ => .bool b
  | _, _, .int k n hk, _ => .int k n hk
  | _, _, .str s hs, _ => .str s hs
  | _, _, .roNil r hr, _ => .roNil r (RowC.noid h hr)
  | _, _, .ro r a len cap cells hr hl hc hm hs, _ => .ro r a len cap cells (RowC.noid h hr) hl hc hm (hs.mono' h)
  | _, _, .own i hi h1, e => by simp [noId] at e
  | _, _, .cell cs vs a hl hi hs, _ => .cell cs vs a (RvL.noid h hl hi) hi (hs.mono' h)
  | _, _, .ptr i off g hi hg, e => by simp [noId] at e
  | _, _, .elt i sz idx off g hi hg, e => by simp [noId] at e
  | _, _, .agg cs vs hl, e => .agg cs vs (RvL.noid h hl (by simpa [noId] using e))
  | _, _, .tup cs vs hl, e => .tup cs vs (RvT.noid h hl (by simpa [noId] using e))
  | _, _, .fn f cs vs hl, e => .fn f cs vs (RvT.noid h hl (by simpa [noId] using e))
  | _, _, .raw v, _ => .raw v
  | _, _, .opt b x v hb hx h2, e => .opt b x v (noId_below _ x (by simpa [noId] using e)) (fun e' => Rv.noid h (hx e') (by simpa [noId] using e)) h2
theorem RvL.noid {c c' : Ctx} (h : ∀ b, c.T b → b < c.w.heap.size → c'.T b ∧ c'.w.heap[b]? = c.w.heap[b]?) : ∀ {x : List AV} {v : List Value}, RvL c x v → noIdL x = true → RvL c' x v
  | _, _, .nil, _ => .nil
  | _, _, .cons x v l vs hx h1 ht, e => by
    simp only [noIdL, Bool.and_eq_true] at e
    exact .cons x v l vs (Rv.noid h hx e.1) h1 (RvL.noid h ht e.2)
theorem RvT.noid {c c' : Ctx} (h : ∀ b, c.T b → b < c.w.heap.size → c'.T b ∧ c'.w.heap[b]? = c.w.heap[b]?) : ∀ {x : List AV} {v : List Value}, RvT c x v → noIdL x = true → RvT c' x v
  | _, _, .nil, _ => .nil
  | _, _, .cons x v l vs hx ht, e => by
    simp only [noIdL, Bool.and_eq_true] at e
    exact .cons x v l vs (Rv.noid h hx e.1) (RvT.noid h ht e.2)
theorem RowC.noid {c c' : Ctx} (h : ∀ b, c.T b → b < c.w.heap.size → c'.T b ∧ c'.w.heap[b]? = c.w.heap[b]?) : ∀ {x : RowV} {v : List Value}, RowC c x v → RowC c' x v
  | _, _, .bools l => .bools l
  | _, _, .ints k l hk => .ints k l hk
  | _, _, .strs l hs => .strs l hs
  | _, _, .objs sz l cells hz ho => .objs sz l cells hz (ObjsC.noid h ho)
theorem ObjsC.noid {c c' : Ctx} (h : ∀ b, c.T b → b < c.w.heap.size → c'.T b ∧ c'.w.heap[b]? = c.w.heap[b]?) : ∀ {sz : Nat} {x : List (List AV)} {v : List Value}, ObjsC c sz x v → ObjsC c' sz x v
  | _, _, _, .nil sz => .nil sz
  | _, _, _, .cons sz o vs l cells ho hi hl ht => .cons sz o vs l cells (RvL.noid h ho hi) hi hl (ObjsC.noid h ht)
end

mutual
theorem Rv.ren {p : Nat → Nat} {c c' : Ctx} (h : CtxRen p c c') : ∀ (x : AV) {v : Value}, below c'.N x = true → Rv c (ren p x) v → Rv c' x v
  | .dead, v, _, _ => .dead v
  | .nilS, _, _, hx => by cases hx; exact .nilS
  | .bool _, _, _, hx => by cases hx; exact .bool _
  | .int _ _, _, _, hx => by cases hx with | int k n hk => exact .int _ _ hk
  | .str _, _, _, hx => by cases hx with | str s hs => exact .str _ hs
  | .ro _, _, _, hx => by
    cases hx with
    | roNil r hr => exact .roNil _ (RowC.noid h.t hr)
    | ro r a len cap cells hr hl hc hm hs => exact .ro _ a len cap cells (RowC.noid h.t hr) hl hc hm (hs.mono' h.t)
  | .own i, _, e, hx => by
    have hi' : i < c'.N := by simpa [below] using e
    cases hx with | own _ hi h1 => rw [← h.m i hi']; exact .own i hi' (by rw [h.m i hi']; exact h1)
  | .cell _, _, _, hx => by cases hx with | cell cs vs a hl hi hs => exact .cell _ vs a (RvL.noid h.t hl hi) hi (hs.mono' h.t)
  | .ptr i off, _, e, hx => by
    have hi' : i < c'.N := by simpa [below] using e
    cases hx with | ptr _ _ g hi hg => exact .ptr i off g hi' (by rw [h.m i hi']; exact hg)
  | .elt i sz idx off, _, e, hx => by
    have hi' : i < c'.N := by simpa [below] using e
    cases hx with | elt _ _ _ _ g hi hg => exact .elt i sz idx off g hi' (by rw [h.m i hi']; exact hg)
  | .agg cs, _, e, hx => by cases hx with | agg _ vs hl => exact .agg cs vs (RvL.ren h cs (by simpa [below] using e) hl)
  | .tup cs, _, e, hx => by cases hx with | tup _ vs hl => exact .tup cs vs (RvT.ren h cs (by simpa [below] using e) hl)
  | .fn _ cs, _, e, hx => by cases hx with | fn f _ vs hl => exact .fn _ cs vs (RvT.ren h cs (by simpa [below] using e) hl)
  | .raw _, _, _, hx => by cases hx; exact .raw _
  | .opt b x, v, e, hx => by
    cases hx with | opt _ _ _ hb hx h2 => exact .opt b x v (by simpa [below] using e) (fun e' => Rv.ren h x (by simpa [below] using e) (hx e')) h2
theorem RvL.ren {p : Nat → Nat} {c c' : Ctx} (h : CtxRen p c c') : ∀ (x : List AV) {v : List Value}, belowL c'.N x = true → RvL c (renL p x) v → RvL c' x v
  | [], _, _, hx => by cases hx; exact .nil
  | x :: l, _, e, hx => by
    simp only [belowL, Bool.and_eq_true] at e
    cases hx with | cons _ v _ vs hx h1 ht => exact .cons x v l vs (Rv.ren h x e.1 hx) h1 (RvL.ren h l e.2 ht)
theorem RvT.ren {p : Nat → Nat} {c c' : Ctx} (h : CtxRen p c c') : ∀ (x : List AV) {v : List Value}, belowL c'.N x = true → RvT c (renL p x) v → RvT c' x v
  | [], _, _, hx => by cases hx; exact .nil
  | x :: l, _, e, hx => by
    simp only [belowL, Bool.and_eq_true] at e
    cases hx with | cons _ v _ vs hx ht => exact .cons x v l vs (Rv.ren h x e.1 hx) (RvT.ren h l e.2 ht)
end

mutual
theorem Rv.ids {c : Ctx} : ∀ {x : AV} {v : Value}, Rv c x v → below c.N x = true
  | _, _, .dead v => rfl
  | _, _, .nilS => rfl
  | _, _, .bool b => rfl
  | _, _, .int k n hk => rfl
  | _, _, .str s hs => rfl
  | _, _, .roNil r hr => rfl
  | _, _, .ro r a len cap cells hr hl hc hm hs => rfl
  | _, _, .own i hi h1 => by simpa [below] using hi
  | _, _, .cell cs vs a hl hi hs => rfl
  | _, _, .ptr i off g hi hg => by simpa [below] using hi
  | _, _, .elt i sz idx off g hi hg => by simpa [below] using hi
  | _, _, .agg cs vs hl => by simpa [below] using RvL.ids hl
  | _, _, .tup cs vs hl => by simpa [below] using RvT.ids hl
  | _, _, .fn f cs vs hl => by simpa [below] using RvT.ids hl
  | _, _, .raw v => rfl
  | _, _, .opt b x v hb hx _ => by simpa [below] using hb
theorem RvL.ids {c : Ctx} : ∀ {x : List AV} {v : List Value}, RvL c x v → belowL c.N x = true
  | _, _, .nil => rfl
  | _, _, .cons x v l vs hx h1 ht => by simp [belowL, Rv.ids hx, RvL.ids ht]
theorem RvT.ids {c : Ctx} : ∀ {x : List AV} {v : List Value}, RvT c x v → belowL c.N x = true
  | _, _, .nil => rfl
  | _, _, .cons x v l vs hx ht => by simp [belowL, Rv.ids hx, RvT.ids ht]
end

inductive Item where
  | row (e : TypeId) (r : RowV)
  | box (e : TypeId) (cs : List AV)

structure S where
  n : Nat
  env : List (Nat × AV)
  rows : List (Nat × Item)
  next : Nat

def lk {α : Type} : List (Nat × α) → Nat → Option α
  | [], _ => none
  | (j, v) :: l, i => if j = i then some v else lk l i
def del {α : Type} : List (Nat × α) → Nat → List (Nat × α)
  | [], _ => []
  | (j, v) :: l, i => if j = i then del l i else (j, v) :: del l i
def put {α : Type} : List (Nat × α) → Nat → α → List (Nat × α)
  | [], _, _ => []
  | (j, v) :: l, i, x => if j = i then (j, x) :: put l i x else (j, v) :: put l i x

def S.get (s : S) (r : Nat) : AV := match lk s.env r with | some v => v | none => .dead
def S.set (s : S) (d : Nat) (v : AV) : S := { s with env := (d, v) :: s.env }

/-- What a call may read: its arguments' memory ('T0'), and what was made since it began. -/
def allow (T0 : Nat → Prop) (B : Nat) (m : Nat → Value) (rows : List (Nat × Item)) (b : Nat) : Prop :=
  (B ≤ b ∨ T0 b) ∧ ∀ i it, lk rows i = some it → blk (m i) ≠ some b

def ctxOf (T0 : Nat → Prop) (B : Nat) (m : Nat → Value) (s : S) (w : World) : Ctx := ⟨w, allow T0 B m s.rows, m, s.next⟩

def ItemOk (c : Ctx) (B : Nat) (v : Value) : Item → Prop
  | .row e r => ∃ n cells, RowC c r cells ∧ r.len = n ∧ c.w.ownsRow B e r.sz v n cells
  | .box e cs => ∃ g vs, v = .pointer (some ⟨g, 0, none⟩) ∧ B ≤ g ∧ RvL c cs vs ∧ c.w.heap[g]? = some (.cells vs.toArray e (0, 0))

structure RepM (w0 : World) (T0 : Nat → Prop) (H : List (AV × Value)) (s : S) (a : Act) (w : World) (m : Nat → Value) : Prop where
  size : a.tmps.size = s.n
  nodef : a.defers = []
  below : Below w0.heap.size w0 w
  env : ∀ r v, lk s.env r = some v → Rv (ctxOf T0 w0.heap.size m s w) v (a.tmps.getD r undef)
  held : ∀ p, p ∈ H → Rv (ctxOf T0 w0.heap.size m s w) p.1 p.2
  rows : ∀ i it, lk s.rows i = some it → i < s.next ∧ ItemOk (ctxOf T0 w0.heap.size m s w) w0.heap.size (m i) it
  sep : ∀ i j it jt b, lk s.rows i = some it → lk s.rows j = some jt → blk (m i) = some b → blk (m j) = some b → i = j

def Rep (w0 : World) (T0 : Nat → Prop) (H : List (AV × Value)) (s : S) (a : Act) (w : World) : Prop := ∃ m, RepM w0 T0 H s a w m

end Go.Fv
