/-
  A part of the proof of the claim: walks over the program's functions and the plain laws that these need. No condition of its own.
-/
import Derived.Test.YtolhkphiifgblaaDoorFvPart10
import Derived.Test.YtolhkphiifgblaaDoorFvPart9
import Derived.Test.YtolhkphiifgblaaDoorProg
/- Boxes, and the boxes of pixels, in plain words. -/
namespace Go.Fv.M
open Go
set_option linter.unusedSimpArgs false
set_option linter.unusedVariables false
set_option maxRecDepth 8000

structure Bx where
  x : Int
  y : Int
  w : Int
  h : Int
def Bx.av (b : Bx) : List AV := [.int .i64 b.x, .int .i64 b.y, .int .i64 b.w, .int .i64 b.h]
def Bx.zero : Bx := ⟨0, 0, 0, 0⟩
abbrev bxs (l : List Bx) : RowV := .objs 4 (l.map Bx.av)
instance : FNoId Bx.av := ⟨fun _ => rfl⟩
theorem bx_elem (l : List Bx) {i : Nat} (h : i < l.length) : (l.map Bx.av).getD i [] = [.int .i64 (l.getD i Bx.zero).x, .int .i64 (l.getD i Bx.zero).y, .int .i64 (l.getD i Bx.zero).w, .int .i64 (l.getD i Bx.zero).h] := by
  simp [List.getD_eq_getElem?_getD, h, Bx.av]
def hull2 (a b : Bx) : Bx := ⟨min a.x b.x, min a.y b.y, max (a.x + a.w) (b.x + b.w) - min a.x b.x, max (a.y + a.h) (b.y + b.h) - min a.y b.y⟩
def hullL (l : List Bx) : Bx := l.foldl hull2 (l.getD 0 Bx.zero)

def mnF {α : Type} (f : α → Int) (a : Int) (l : List α) : Int := l.foldl (fun m i => min m (f i)) a
def mxF {α : Type} (f : α → Int) (a : Int) (l : List α) : Int := l.foldl (fun m i => max m (f i)) a
theorem le_mnF {α : Type} (f : α → Int) : ∀ (l : List α) (a m : Int), m ≤ mnF f a l ↔ m ≤ a ∧ ∀ i, i ∈ l → m ≤ f i
  | [], a, m => by simp [mnF]
  | x :: l, a, m => by
    have ih := le_mnF f l (min a (f x)) m
    show m ≤ mnF f (min a (f x)) l ↔ _
    rw [ih]
    constructor
    · rintro ⟨h1, h2⟩
      refine ⟨by omega, fun i hi => ?_⟩
      rcases List.mem_cons.1 hi with rfl | hi
      · omega
      · exact h2 i hi
    · rintro ⟨h1, h2⟩
      have := h2 x (List.mem_cons_self)
      exact ⟨by omega, fun i hi => h2 i (List.mem_cons_of_mem _ hi)⟩
theorem mxF_le {α : Type} (f : α → Int) : ∀ (l : List α) (a m : Int), mxF f a l ≤ m ↔ a ≤ m ∧ ∀ i, i ∈ l → f i ≤ m
  | [], a, m => by simp [mxF]
  | x :: l, a, m => by
    have ih := mxF_le f l (max a (f x)) m
    show mxF f (max a (f x)) l ≤ m ↔ _
    rw [ih]
    constructor
    · rintro ⟨h1, h2⟩
      refine ⟨by omega, fun i hi => ?_⟩
      rcases List.mem_cons.1 hi with rfl | hi
      · omega
      · exact h2 i hi
    · rintro ⟨h1, h2⟩
      have := h2 x (List.mem_cons_self)
      exact ⟨by omega, fun i hi => h2 i (List.mem_cons_of_mem _ hi)⟩
theorem eq_lo {a b : Int} (h : ∀ m, m ≤ a ↔ m ≤ b) : a = b := by
  have h1 := (h a).1 (Int.le_refl _)
  have h2 := (h b).2 (Int.le_refl _)
  omega
theorem eq_hi {a b : Int} (h : ∀ m, a ≤ m ↔ b ≤ m) : a = b := by
  have h1 := (h a).1 (Int.le_refl _)
  have h2 := (h b).2 (Int.le_refl _)
  omega
theorem mnF_mem {α : Type} (f : α → Int) (a : Int) {l l' : List α} (h : ∀ x, x ∈ l ↔ x ∈ l') : mnF f a l = mnF f a l' := by
  refine eq_lo fun m => ?_
  rw [le_mnF, le_mnF]
  simp only [h]
theorem mxF_mem {α : Type} (f : α → Int) (a : Int) {l l' : List α} (h : ∀ x, x ∈ l ↔ x ∈ l') : mxF f a l = mxF f a l' := by
  refine eq_hi fun m => ?_
  rw [mxF_le, mxF_le]
  simp only [h]
theorem mnF_snoc {α : Type} (f : α → Int) (a : Int) (l : List α) (x : α) : mnF f a (l ++ [x]) = min (mnF f a l) (f x) := by simp [mnF]
theorem mxF_snoc {α : Type} (f : α → Int) (a : Int) (l : List α) (x : α) : mxF f a (l ++ [x]) = max (mxF f a l) (f x) := by simp [mxF]
structure HullIs (r a : Bx) (l : List Bx) : Prop where
  x : ∀ m, m ≤ r.x ↔ m ≤ a.x ∧ ∀ b, b ∈ l → m ≤ b.x
  y : ∀ m, m ≤ r.y ↔ m ≤ a.y ∧ ∀ b, b ∈ l → m ≤ b.y
  w : ∀ m, r.x + r.w ≤ m ↔ a.x + a.w ≤ m ∧ ∀ b, b ∈ l → b.x + b.w ≤ m
  h : ∀ m, r.y + r.h ≤ m ↔ a.y + a.h ≤ m ∧ ∀ b, b ∈ l → b.y + b.h ≤ m
theorem hull_is : ∀ (l : List Bx) (a : Bx), HullIs (l.foldl hull2 a) a l
  | [], a => ⟨fun m => by simp, fun m => by simp, fun m => by simp, fun m => by simp⟩
  | c :: l, a => by
    obtain ⟨h1, h2, h3, h4⟩ := hull_is l (hull2 a c)
    refine ⟨fun m => ?_, fun m => ?_, fun m => ?_, fun m => ?_⟩
    · rw [List.foldl_cons, h1 m]
      show m ≤ min a.x c.x ∧ _ ↔ _
      simp only [List.mem_cons, forall_eq_or_imp]
      rw [(show m ≤ min a.x c.x ↔ m ≤ a.x ∧ m ≤ c.x by omega), and_assoc]
    · rw [List.foldl_cons, h2 m]
      show m ≤ min a.y c.y ∧ _ ↔ _
      simp only [List.mem_cons, forall_eq_or_imp]
      rw [(show m ≤ min a.y c.y ↔ m ≤ a.y ∧ m ≤ c.y by omega), and_assoc]
    · rw [List.foldl_cons, h3 m]
      show min a.x c.x + (max (a.x + a.w) (c.x + c.w) - min a.x c.x) ≤ m ∧ _ ↔ _
      simp only [List.mem_cons, forall_eq_or_imp]
      rw [(show min a.x c.x + (max (a.x + a.w) (c.x + c.w) - min a.x c.x) ≤ m ↔ a.x + a.w ≤ m ∧ c.x + c.w ≤ m by omega), and_assoc]
    · rw [List.foldl_cons, h4 m]
      show min a.y c.y + (max (a.y + a.h) (c.y + c.h) - min a.y c.y) ≤ m ∧ _ ↔ _
      simp only [List.mem_cons, forall_eq_or_imp]
      rw [(show min a.y c.y + (max (a.y + a.h) (c.y + c.h) - min a.y c.y) ≤ m ↔ a.y + a.h ≤ m ∧ c.y + c.h ≤ m by omega), and_assoc]

/-! ### The box of pixels -/
def leftP (w : Nat) (l : List Int) : Int := mnF (fun i => i % (w : Int)) w l
def topP (w h : Nat) (l : List Int) : Int := mnF (fun i => i / (w : Int)) h l
def rightP (w : Nat) (l : List Int) : Int := mxF (fun i => i % (w : Int)) (-1) l
def botP (w : Nat) (l : List Int) : Int := mxF (fun i => i / (w : Int)) (-1) l
def boxOf (w h : Nat) (l : List Int) : Bx := ⟨leftP w l, topP w h l, rightP w l - leftP w l + 1, botP w l - topP w h l + 1⟩
def pxB (w : Nat) (i : Int) : Bx := ⟨i % (w : Int), i / (w : Int), 1, 1⟩
theorem boxOf_mem (w h : Nat) {l l' : List Int} (hm : ∀ x, x ∈ l ↔ x ∈ l') : boxOf w h l = boxOf w h l' := by
  unfold boxOf leftP topP rightP botP
  rw [mnF_mem _ _ hm, mnF_mem (fun i => i / (w : Int)) _ hm, mxF_mem _ _ hm, mxF_mem (fun i => i / (w : Int)) _ hm]
def InPg (w h : Nat) (l : List Int) : Prop := ∀ i, i ∈ l → 0 ≤ i ∧ i < ((w * h : Nat) : Int)
theorem xy_bd' {w h : Nat} {c : Int} (h0 : 0 ≤ c) (h1 : c < ((w * h : Nat) : Int)) : (0 ≤ c % w ∧ c % w < w) ∧ (0 ≤ c / w ∧ c / w < h) := by
  obtain ⟨k, rfl⟩ : ∃ k : Nat, c = k := ⟨c.toNat, by omega⟩
  have hk : k < w * h := by omega
  have hw : 0 < w := by
    rcases Nat.eq_zero_or_pos w with h | h
    · rw [h, Nat.zero_mul] at hk; omega
    · exact h
  have e1 : (k : Int) % w = ((k % w : Nat) : Int) := rfl
  have e2 : (k : Int) / w = ((k / w : Nat) : Int) := rfl
  have h3 := Nat.mod_lt k hw
  have h4 : k / w < h := Nat.div_lt_of_lt_mul hk
  rw [e1, e2]
  exact ⟨⟨Int.natCast_nonneg _, Int.ofNat_lt.2 h3⟩, Int.natCast_nonneg _, Int.ofNat_lt.2 h4⟩
theorem hull_px {w h : Nat} {l : List Int} (hn : l ≠ []) (hb : InPg w h l) : hullL (l.map (pxB w)) = boxOf w h l := by
  obtain ⟨c, t, rfl⟩ : ∃ c t, l = c :: t := by cases l with | nil => exact absurd rfl hn | cons c t => exact ⟨c, t, rfl⟩
  have hc := xy_bd' (hb c (List.mem_cons_self)).1 (hb c (List.mem_cons_self)).2
  have hi := hull_is ((c :: t).map (pxB w)) (pxB w c)
  have e : hullL ((c :: t).map (pxB w)) = ((c :: t).map (pxB w)).foldl hull2 (pxB w c) := rfl
  rw [e]
  generalize ((c :: t).map (pxB w)).foldl hull2 (pxB w c) = r at *
  obtain ⟨h1, h2, h3, h4⟩ := hi
  have ex : r.x = leftP w (c :: t) := eq_lo fun m => by
    rw [h1 m, leftP, le_mnF]
    simp only [List.mem_map, forall_exists_index, and_imp, forall_apply_eq_imp_iff₂, pxB]
    constructor
    · rintro ⟨_, a⟩
      have := a c (List.mem_cons_self)
      exact ⟨by omega, a⟩
    · rintro ⟨_, a⟩
      exact ⟨a c (List.mem_cons_self), a⟩
  have ey : r.y = topP w h (c :: t) := eq_lo fun m => by
    rw [h2 m, topP, le_mnF]
    simp only [List.mem_map, forall_exists_index, and_imp, forall_apply_eq_imp_iff₂, pxB]
    constructor
    · rintro ⟨_, a⟩
      have := a c (List.mem_cons_self)
      exact ⟨by omega, a⟩
    · rintro ⟨_, a⟩
      exact ⟨a c (List.mem_cons_self), a⟩
  have ew : r.x + r.w = rightP w (c :: t) + 1 := eq_hi fun m => by
    have q := mxF_le (fun i => i % (w : Int)) (c :: t) (-1) (m - 1)
    have q2 : rightP w (c :: t) + 1 ≤ m ↔ rightP w (c :: t) ≤ m - 1 := by omega
    rw [h3 m, q2, rightP, q]
    simp only [List.mem_map, forall_exists_index, and_imp, forall_apply_eq_imp_iff₂, pxB]
    constructor
    · rintro ⟨_, a⟩
      have := a c (List.mem_cons_self)
      exact ⟨by omega, fun i hi => by have := a i hi; omega⟩
    · rintro ⟨_, a⟩
      exact ⟨by have := a c (List.mem_cons_self); omega, fun i hi => by have := a i hi; omega⟩
  have eh : r.y + r.h = botP w (c :: t) + 1 := eq_hi fun m => by
    have q := mxF_le (fun i => i / (w : Int)) (c :: t) (-1) (m - 1)
    have q2 : botP w (c :: t) + 1 ≤ m ↔ botP w (c :: t) ≤ m - 1 := by omega
    rw [h4 m, q2, botP, q]
    simp only [List.mem_map, forall_exists_index, and_imp, forall_apply_eq_imp_iff₂, pxB]
    constructor
    · rintro ⟨_, a⟩
      have := a c (List.mem_cons_self)
      exact ⟨by omega, fun i hi => by have := a i hi; omega⟩
    · rintro ⟨_, a⟩
      exact ⟨by have := a c (List.mem_cons_self); omega, fun i hi => by have := a i hi; omega⟩
  obtain ⟨rx, ry, rw', rh⟩ := r
  dsimp only at ex ey ew eh
  unfold boxOf
  rw [Bx.mk.injEq]
  omega
theorem sortI_mem (l : List Int) (x : Int) : x ∈ sortI l ↔ x ∈ l := (List.mergeSort_perm l _).mem_iff
theorem sortI_len (l : List Int) : (sortI l).length = l.length := (List.mergeSort_perm l _).length_eq
/-- The least one stands first. -/
theorem sortI_head {l : List Int} {i : Int} (hi : i ∈ l) (hb : ∀ x, x ∈ l → i ≤ x) : (sortI l).getD 0 0 = i := by
  have hs : (sortI l).Pairwise (fun a b => decide (a ≤ b) = true) := List.pairwise_mergeSort (fun a b c h1 h2 => by simp at *; omega) (fun a b => by simp; omega) l
  have hm := (sortI_mem l i).2 hi
  cases hq : sortI l with
  | nil => rw [hq] at hm; cases hm
  | cons y t =>
    rw [hq] at hs hm
    have hy : i ≤ y := hb y ((sortI_mem l y).1 (by rw [hq]; exact List.mem_cons_self))
    rcases List.mem_cons.1 hm with rfl | hm
    · rfl
    · have := List.rel_of_pairwise_cons hs hm
      simp at this
      show y = i
      omega
end Go.Fv.M

/- What is joined, in plain words: a search from each number that is not seen yet. -/
namespace Go.Fv.M
open Go
set_option linter.unusedSimpArgs false
set_option linter.unusedVariables false
set_option maxRecDepth 8000

/-- The numbers from a on, n of them. -/
def rng (a : Int) : Nat → List Int
  | 0 => []
  | n + 1 => a :: rng (a + 1) n
theorem rng_mem : ∀ {n : Nat} {a x : Int}, x ∈ rng a n → a ≤ x ∧ x < a + n
  | 0, a, x, h => by cases h
  | n + 1, a, x, h => by
    rcases List.mem_cons.1 h with rfl | h
    · omega
    · have := rng_mem h
      omega
/-- What is seen, and what was found, in order. -/
structure RS where
  seen : List Bool
  l : List Int
def RS.vis (ok : Nat → Bool) (s : RS) (i : Nat) : RS := if s.seen.getD i false = true ∨ ok i = false then s else ⟨s.seen.set i true, s.l ++ [(i : Int)]⟩
def bfs (f : RS → Int → RS) : Nat → Nat → RS → RS
  | 0, _, s => s
  | n + 1, k, s => if k < s.l.length then bfs f n (k + 1) (f s (s.l.getD k 0)) else s
def regs (ok : Nat → Bool) (f : RS → Int → RS) (n : Nat) : Nat → Nat → List Bool → List (List Int)
  | 0, _, _ => []
  | m + 1, i, seen => if seen.getD i false = true ∨ ok i = false then regs ok f n m (i + 1) seen else
    (bfs f n 0 ⟨seen.set i true, [(i : Int)]⟩).l :: regs ok f n m (i + 1) (bfs f n 0 ⟨seen.set i true, [(i : Int)]⟩).seen
def regsOf (ok : Nat → Bool) (f : RS → Int → RS) (n : Nat) : List (List Int) := regs ok f n n 0 (List.replicate n false)

theorem bfs_end (f : RS → Int → RS) (n k : Nat) (s : RS) (h : ¬ k < s.l.length) : bfs f n k s = s := by
  cases n with
  | zero => rfl
  | succ n => simp only [bfs]; rw [if_neg h]
theorem bfs_step (f : RS → Int → RS) {n k : Nat} {s : RS} (h : k < s.l.length) : bfs f (n + 1) k s = bfs f n (k + 1) (f s (s.l.getD k 0)) := by
  simp only [bfs]; rw [if_pos h]

/-! ### What holds of a region that grows -/
theorem count_set : ∀ {l : List Bool} {i : Nat}, i < l.length → l.getD i false = false → (l.set i true).count true = l.count true + 1
  | b :: l, 0, _, h => by
    have : b = false := h
    subst this
    simp
  | b :: l, i + 1, hi, h => by
    have ih := count_set (l := l) (i := i) (by simpa using hi) (by simpa using h)
    cases b <;> simp [ih]
structure RInv (ok : Nat → Bool) (n c0 : Nat) (s : RS) : Prop where
  len : s.seen.length = n
  cnt : s.seen.count true = c0 + s.l.length
  bd : ∀ x, x ∈ s.l → 0 ≤ x ∧ x < (n : Int)
  ink : ∀ j, s.seen.getD j false = true → ok j = true
  sn : ∀ x, x ∈ s.l → s.seen.getD x.toNat false = true
theorem getD_set_at {l : List Bool} {i : Nat} (hi : i < l.length) : (l.set i true).getD i false = true := by simp [List.getD_eq_getElem?_getD, hi]
theorem RInv.le {ok : Nat → Bool} {n c0 : Nat} {s : RS} (h : RInv ok n c0 s) : s.l.length ≤ n := by
  have h1 := h.cnt
  have h2 : s.seen.count true ≤ s.seen.length := List.count_le_length
  have h3 := h.len
  omega
theorem getD_set {l : List Bool} {i j : Nat} : (l.set i true).getD j false = true → l.getD j false = true ∨ j = i := by
  intro h
  by_cases e : i = j
  · exact .inr e.symm
  · rw [List.getD_eq_getElem?_getD, List.getElem?_set_ne e] at h
    exact .inl (by rw [List.getD_eq_getElem?_getD]; exact h)
theorem getD_set_mono {l : List Bool} {i j : Nat} (hi : i < l.length) : l.getD j false = true → (l.set i true).getD j false = true := by
  intro h
  by_cases e : i = j
  · subst e
    simp [List.getD_eq_getElem?_getD, hi]
  · rw [List.getD_eq_getElem?_getD, List.getElem?_set_ne e, ← List.getD_eq_getElem?_getD]; exact h
/-- How a region grows. -/
structure RLe (s s' : RS) : Prop where
  len : s.l.length ≤ s'.l.length
  pre : ∃ r, s'.l = s.l ++ r
  seen : ∀ j, s.seen.getD j false = true → s'.seen.getD j false = true
  new : ∀ x, x ∈ s'.l → x ∈ s.l ∨ s.seen.getD x.toNat false = false
theorem RLe.refl (s : RS) : RLe s s := ⟨Nat.le_refl _, ⟨[], (List.append_nil _).symm⟩, fun _ h => h, fun _ h => .inl h⟩
theorem RLe.trans {s s' s'' : RS} (h : RLe s s') (h' : RLe s' s'') : RLe s s'' := by
  refine ⟨Nat.le_trans h.len h'.len, ?_, fun j hj => h'.seen j (h.seen j hj), fun x hx => ?_⟩
  · obtain ⟨r, hr⟩ := h.pre
    obtain ⟨r', hr'⟩ := h'.pre
    exact ⟨r ++ r', by rw [hr', hr, List.append_assoc]⟩
  · rcases h'.new x hx with h1 | h1
    · exact h.new x h1
    · refine .inr ?_
      cases hq : s.seen.getD x.toNat false with
      | false => rfl
      | true => rw [h.seen _ hq] at h1; cases h1
theorem not_seen {a b : Bool} (h : ¬ (a = true ∨ b = false)) : a = false ∧ b = true := by
  cases a <;> cases b <;> simp at h ⊢
theorem RS.vis_inv {ok : Nat → Bool} {n c0 : Nat} {s : RS} (h : RInv ok n c0 s) {i : Nat} (hi : i < n) : RInv ok n c0 (s.vis ok i) ∧ RLe s (s.vis ok i) := by
  unfold RS.vis
  split
  · exact ⟨h, RLe.refl s⟩
  · rename_i hn
    obtain ⟨hs, hp⟩ := not_seen hn
    have hl : i < s.seen.length := by rw [h.len]; exact hi
    refine ⟨⟨by simp only [List.length_set]; exact h.len, ?_, fun x hx => ?_, fun j hj => ?_, fun x hx => ?_⟩, ⟨by simp, ⟨_, rfl⟩, fun j hj => getD_set_mono hl hj, fun x hx => ?_⟩⟩
    · simp only [count_set hl hs, List.length_append, List.length_cons, List.length_nil]
      have := h.cnt
      omega
    · rcases List.mem_append.1 hx with hx | hx
      · exact h.bd x hx
      · rw [List.mem_singleton.1 hx]; omega
    · rcases getD_set hj with hj | rfl
      · exact h.ink j hj
      · exact hp
    · rcases List.mem_append.1 hx with hx | hx
      · exact getD_set_mono hl (h.sn x hx)
      · rw [List.mem_singleton.1 hx, Int.toNat_natCast]; exact getD_set_at hl
    · rcases List.mem_append.1 hx with hx | hx
      · exact .inl hx
      · rw [List.mem_singleton.1 hx, Int.toNat_natCast]; exact .inr hs
theorem fold_inv {α β : Type} {P : α → Prop} {R : α → α → Prop} (hr : ∀ a, R a a) (ht : ∀ a b c, R a b → R b c → R a c) {f : α → β → α} : ∀ (l : List β) (s : α), P s → (∀ s x, P s → x ∈ l → P (f s x) ∧ R s (f s x)) → P (l.foldl f s) ∧ R s (l.foldl f s)
  | [], s, hs, _ => ⟨hs, hr s⟩
  | x :: l, s, hs, h => by
    obtain ⟨h1, h2⟩ := h s x hs (List.mem_cons_self)
    obtain ⟨h3, h4⟩ := fold_inv hr ht l (f s x) h1 fun s y hs hy => h s y hs (List.mem_cons_of_mem _ hy)
    exact ⟨h3, ht _ _ _ h2 h4⟩
/-- A step of the search. -/
def StepOk (ok : Nat → Bool) (n : Nat) (f : RS → Int → RS) : Prop := ∀ c0 s c, RInv ok n c0 s → 0 ≤ c → c < (n : Int) → RInv ok n c0 (f s c) ∧ RLe s (f s c)
theorem getD_mem {l : List Int} {k : Nat} (h : k < l.length) : l.getD k 0 ∈ l := by rw [getD_lt h]; exact List.getElem_mem h
theorem bfs_inv {ok : Nat → Bool} {n : Nat} {f : RS → Int → RS} (hf : StepOk ok n f) {c0 : Nat} : ∀ (m k : Nat) (s : RS), RInv ok n c0 s → RInv ok n c0 (bfs f m k s) ∧ RLe s (bfs f m k s)
  | 0, k, s, h => ⟨h, RLe.refl s⟩
  | m + 1, k, s, h => by
    simp only [bfs]
    split
    · rename_i hk
      obtain ⟨b1, b2⟩ := h.bd _ (getD_mem hk)
      obtain ⟨h1, h2⟩ := hf c0 s (s.l.getD k 0) h b1 b2
      obtain ⟨h3, h4⟩ := bfs_inv hf m (k + 1) _ h1
      exact ⟨h3, h2.trans h4⟩
    · exact ⟨h, RLe.refl s⟩
/-- What holds between the regions: before number i. -/
structure SInv (ok : Nat → Bool) (n i : Nat) (seen : List Bool) : Prop where
  len : seen.length = n
  ink : ∀ j, seen.getD j false = true → ok j = true
  all : ∀ j, j < i → ok j = true → seen.getD j false = true
theorem SInv.zero (ok : Nat → Bool) (n : Nat) : SInv ok n 0 (List.replicate n false) := by
  refine ⟨by simp, fun j hj => ?_, fun j hj => absurd hj (by omega)⟩
  rw [List.getD_eq_getElem?_getD, List.getElem?_replicate] at hj
  split at hj <;> cases hj
theorem SInv.skip {ok : Nat → Bool} {n i : Nat} {seen : List Bool} (h : SInv ok n i seen) (hn : seen.getD i false = true ∨ ok i = false) : SInv ok n (i + 1) seen := by
  refine ⟨h.len, h.ink, fun j hj hp => ?_⟩
  by_cases e : j = i
  · subst e
    rcases hn with hn | hn
    · exact hn
    · rw [hp] at hn; cases hn
  · exact h.all j (by omega) hp
theorem SInv.start {ok : Nat → Bool} {n i : Nat} {seen : List Bool} (h : SInv ok n i seen) (hi : i < n) (hn : ¬ (seen.getD i false = true ∨ ok i = false)) :
    RInv ok n (seen.count true) ⟨seen.set i true, [(i : Int)]⟩ := by
  obtain ⟨hs, hp⟩ := not_seen hn
  have hl := h.len
  refine ⟨by simp only [List.length_set]; exact hl, ?_, fun x hx => ?_, fun j hj => ?_, fun x hx => ?_⟩
  · simp only [count_set (show i < seen.length by omega) hs, List.length_cons, List.length_nil]
  · rw [List.mem_singleton.1 hx]; omega
  · rcases getD_set hj with hj | rfl
    · exact h.ink j hj
    · exact hp
  · rw [List.mem_singleton.1 hx, Int.toNat_natCast]; exact getD_set_at (by omega)
/-- What a region is: numbers from the first one on. -/
structure RegOk (n i : Nat) (l : List Int) : Prop where
  bd : ∀ x, x ∈ l → (i : Int) ≤ x ∧ x < (n : Int)
  hd : ∃ t, l = (i : Int) :: t
  le : l.length ≤ n
theorem SInv.region {ok : Nat → Bool} {n : Nat} {f : RS → Int → RS} (hf : StepOk ok n f) {i : Nat} {seen : List Bool} (h : SInv ok n i seen) (hi : i < n) (hn : ¬ (seen.getD i false = true ∨ ok i = false)) (m : Nat) :
    SInv ok n (i + 1) (bfs f m 0 ⟨seen.set i true, [(i : Int)]⟩).seen ∧ RegOk n i (bfs f m 0 ⟨seen.set i true, [(i : Int)]⟩).l ∧
    (bfs f m 0 ⟨seen.set i true, [(i : Int)]⟩).seen.count true = seen.count true + (bfs f m 0 ⟨seen.set i true, [(i : Int)]⟩).l.length := by
  obtain ⟨h1, h2⟩ := bfs_inv hf m 0 _ (h.start hi hn)
  have hlt : i < seen.length := by rw [h.len]; exact hi
  refine ⟨⟨h1.len, h1.ink, fun j hj hq => ?_⟩, ⟨fun x hx => ⟨?_, (h1.bd x hx).2⟩, ?_, h1.le⟩, h1.cnt⟩
  · refine h2.seen j ?_
    by_cases e : j = i
    · subst e; exact getD_set_at hlt
    · exact getD_set_mono hlt (h.all j (by omega) hq)
  · have hb := h1.bd x hx
    rcases h2.new x hx with hx' | hx'
    · rw [List.mem_singleton.1 hx']; omega
    · refine Classical.byContradiction fun hlt' => ?_
      have hj : x.toNat < i := by omega
      have hq : ok x.toNat = true := h1.ink _ (h1.sn x hx)
      rw [getD_set_mono hlt (h.all _ hj hq)] at hx'
      cases hx'
  · obtain ⟨r, hr⟩ := h2.pre
    exact ⟨r, hr⟩

/-! ### All regions -/
def sumLen (R : List (List Int)) : Nat := (R.map List.length).sum
theorem eq_of_bools {a b : List Bool} (h : a.length = b.length) (hh : ∀ j, a.getD j false = b.getD j false) : a = b := by
  refine List.ext_getElem h fun j h1 h2 => ?_
  have := hh j
  rwa [getD_lt h1, getD_lt h2] at this
theorem regs_sum {ok : Nat → Bool} {n : Nat} {f : RS → Int → RS} (hf : StepOk ok n f) : ∀ (m i : Nat) (seen : List Bool), SInv ok n i seen → i + m = n → sumLen (regs ok f n m i seen) + seen.count true = ((List.range n).map ok).count true
  | 0, i, seen, h, hm => by
    have e : seen = (List.range n).map ok := by
      refine eq_of_bools (by simp [h.len]) fun j => ?_
      by_cases hj : j < n
      · have e2 : ((List.range n).map ok).getD j false = ok j := by simp [List.getD_eq_getElem?_getD, hj]
        rw [e2, Bool.eq_iff_iff]
        exact ⟨h.ink j, h.all j (by omega)⟩
      · have := h.len
        rw [List.getD_eq_getElem?_getD, List.getD_eq_getElem?_getD, List.getElem?_eq_none (show seen.length ≤ j by omega), List.getElem?_eq_none (by simp; omega)]
    rw [← e]
    simp [regs, sumLen]
  | m + 1, i, seen, h, hm => by
    simp only [regs]
    split
    · rename_i hn
      exact regs_sum hf m (i + 1) seen (h.skip hn) (by omega)
    · rename_i hn
      obtain ⟨h1, h2, h3⟩ := h.region hf (by omega) hn n
      have ih := regs_sum hf m (i + 1) _ h1 (by omega)
      generalize bfs f n 0 ⟨seen.set i true, [(i : Int)]⟩ = s at *
      have e : sumLen (s.l :: regs ok f n m (i + 1) s.seen) = s.l.length + sumLen (regs ok f n m (i + 1) s.seen) := by simp [sumLen]
      rw [e]
      omega
theorem regs_ok {ok : Nat → Bool} {n : Nat} {f : RS → Int → RS} (hf : StepOk ok n f) : ∀ (m i : Nat) (seen : List Bool), SInv ok n i seen → i + m = n → ∀ r, r ∈ regs ok f n m i seen → ∃ j, j < n ∧ RegOk n j r
  | 0, i, seen, h, hm, r, hr => by cases hr
  | m + 1, i, seen, h, hm, r, hr => by
    simp only [regs] at hr
    split at hr
    · rename_i hn
      exact regs_ok hf m (i + 1) seen (h.skip hn) (by omega) r hr
    · rename_i hn
      obtain ⟨h1, h2, h3⟩ := h.region hf (by omega) hn n
      rcases List.mem_cons.1 hr with rfl | hr
      · exact ⟨i, by omega, h2⟩
      · exact regs_ok hf m (i + 1) _ h1 (by omega) r hr
theorem regs_len (ok : Nat → Bool) (f : RS → Int → RS) (n : Nat) : ∀ (m i : Nat) (seen : List Bool), (regs ok f n m i seen).length ≤ m
  | 0, i, seen => Nat.le_refl _
  | m + 1, i, seen => by
    simp only [regs]
    split
    · exact Nat.le_succ_of_le (regs_len ok f n m (i + 1) seen)
    · simp only [List.length_cons]
      exact Nat.succ_le_succ (regs_len ok f n m (i + 1) _)
theorem regsOf_sum {ok : Nat → Bool} {n : Nat} {f : RS → Int → RS} (hf : StepOk ok n f) : sumLen (regsOf ok f n) = ((List.range n).map ok).count true := by
  have := regs_sum hf n 0 _ (SInv.zero ok n) (by omega)
  have e : (List.replicate n false).count true = 0 := by rw [List.count_eq_zero]; simp
  rw [e] at this
  exact this
theorem regsOf_ok {ok : Nat → Bool} {n : Nat} {f : RS → Int → RS} (hf : StepOk ok n f) : ∀ r, r ∈ regsOf ok f n → ∃ j, j < n ∧ RegOk n j r := regs_ok hf _ 0 _ (SInv.zero ok n) (by omega)
theorem regsOf_len (ok : Nat → Bool) (f : RS → Int → RS) (n : Nat) : (regsOf ok f n).length ≤ n := regs_len ok f n _ _ _
end Go.Fv.M

/- Joined pixels of a page, in plain words: the way round a pixel, and the reference's. -/
namespace Go.Fv.M
open Go
set_option linter.unusedSimpArgs false
set_option linter.unusedVariables false
set_option maxRecDepth 8000

structure Pg2 where
  p : List Bool
  w : Nat
  h : Nat
  ink : Bool
  cor : Bool
def Pg2.ok (g : Pg2) (i : Nat) : Bool := g.p.getD i false == g.ink
def RS.pt (g : Pg2) (x y v : Int) (s : RS) (u : Int) : RS := if g.cor = false ∧ u ≠ x ∧ v ≠ y then s else s.vis g.ok (v * g.w + u).toNat
def RS.row (g : Pg2) (x y : Int) (us : List Int) (s : RS) (v : Int) : RS := us.foldl (RS.pt g x y v) s
def lo3 (x : Int) : Int := max (x - 1) 0
def hi3 (x w : Int) : Int := min (x + 1) (w - 1)
def rng3 (x w : Int) : List Int := rng (lo3 x) (hi3 x w + 1 - lo3 x).toNat
def pix (g : Pg2) (s : RS) (c : Int) : RS := (rng3 (c / g.w) g.h).foldl (RS.row g (c % g.w) (c / g.w) (rng3 (c % g.w) g.w)) s

theorem cell_lt {w h : Nat} {u v : Int} (hu : 0 ≤ u ∧ u < w) (hv : 0 ≤ v ∧ v < h) : (v * w + u).toNat < w * h ∧ 0 ≤ v * w + u ∧ v * w + u < ((w * h : Nat) : Int) := by
  obtain ⟨a, rfl⟩ : ∃ a : Nat, u = a := ⟨u.toNat, by omega⟩
  obtain ⟨b, rfl⟩ : ∃ b : Nat, v = b := ⟨v.toNat, by omega⟩
  have e : (b : Int) * w + a = ((b * w + a : Nat) : Int) := by simp
  rw [e]
  have h1 : b * w + w ≤ h * w := by rw [← Nat.succ_mul]; exact Nat.mul_le_mul_right _ (by omega)
  have h2 : w * h = h * w := Nat.mul_comm _ _
  omega
theorem rng3_mem {x w u : Int} (h : u ∈ rng3 x w) : 0 ≤ u ∧ u < w := by
  have := rng_mem h
  unfold lo3 hi3 at this
  omega
theorem pt_inv {g : Pg2} {c0 : Nat} {s : RS} (h : RInv g.ok (g.w * g.h) c0 s) {x y u v : Int} (hu : 0 ≤ u ∧ u < g.w) (hv : 0 ≤ v ∧ v < g.h) : RInv g.ok (g.w * g.h) c0 (RS.pt g x y v s u) ∧ RLe s (RS.pt g x y v s u) := by
  unfold RS.pt
  split
  · exact ⟨h, RLe.refl s⟩
  · exact RS.vis_inv h (cell_lt hu hv).1
theorem row_inv {g : Pg2} {c0 : Nat} {s : RS} (h : RInv g.ok (g.w * g.h) c0 s) {x y v : Int} {us : List Int} (hu : ∀ u, u ∈ us → 0 ≤ u ∧ u < g.w) (hv : 0 ≤ v ∧ v < g.h) : RInv g.ok (g.w * g.h) c0 (RS.row g x y us s v) ∧ RLe s (RS.row g x y us s v) :=
  fold_inv (P := RInv g.ok (g.w * g.h) c0) (R := RLe) RLe.refl (fun _ _ _ h h' => h.trans h') us s h fun s u hs hm => pt_inv hs (hu u hm) hv
theorem sq_inv {g : Pg2} {c0 : Nat} {s : RS} (h : RInv g.ok (g.w * g.h) c0 s) {x y : Int} {us vs : List Int} (hu : ∀ u, u ∈ us → 0 ≤ u ∧ u < g.w) (hv : ∀ v, v ∈ vs → 0 ≤ v ∧ v < g.h) : RInv g.ok (g.w * g.h) c0 (vs.foldl (RS.row g x y us) s) ∧ RLe s (vs.foldl (RS.row g x y us) s) :=
  fold_inv (P := RInv g.ok (g.w * g.h) c0) (R := RLe) RLe.refl (fun _ _ _ h h' => h.trans h') vs s h fun s v hs hm => row_inv hs hu (hv v hm)
theorem pix_step (g : Pg2) : StepOk g.ok (g.w * g.h) (pix g) := fun c0 s c h _ _ =>
  sq_inv h (fun _ hm => rng3_mem hm) (fun _ hm => rng3_mem hm)
def pieces (g : Pg2) : List (List Int) := regsOf g.ok (pix g) (g.w * g.h)
theorem pieces_ok (g : Pg2) : ∀ r, r ∈ pieces g → ∃ j, j < g.w * g.h ∧ RegOk (g.w * g.h) j r := regsOf_ok (pix_step g)
theorem pieces_len (g : Pg2) : (pieces g).length ≤ g.w * g.h := regsOf_len _ _ _
theorem pieces_sum (g : Pg2) (hp : g.p.length = g.w * g.h) : sumLen (pieces g) = g.p.count g.ink := by
  unfold pieces
  rw [regsOf_sum (pix_step g), ← hp]
  have e : (List.range g.p.length).map g.ok = g.p.map fun b => b == g.ink := by
    refine List.ext_getElem (by simp) fun j h1 h2 => ?_
    have hj : j < g.p.length := by simpa using h2
    simp [Pg2.ok, List.getD_eq_getElem?_getD, hj]
  rw [e]
  generalize g.p = p
  generalize g.ink = k
  induction p with
  | nil => rfl
  | cons b p ih =>
    simp only [List.map_cons, List.count_cons, ih]
    cases b <;> cases k <;> rfl

/-! ### The reference's way: all nine places, those outside left out -/
def okAt (g : Pg2) (v u : Int) : Prop := 0 ≤ u ∧ 0 ≤ v ∧ u < g.w ∧ v < g.h
instance (g : Pg2) (v u : Int) : Decidable (okAt g v u) := by unfold okAt; infer_instance
def pt9 (g : Pg2) (x y v : Int) (s : RS) (u : Int) : RS := if okAt g v u then RS.pt g x y v s u else s
def row9 (g : Pg2) (x y : Int) (s : RS) (v : Int) : RS := (rng (x - 1) 3).foldl (pt9 g x y v) s
def pix9 (g : Pg2) (s : RS) (c : Int) : RS := (rng (c / g.w - 1) 3).foldl (row9 g (c % g.w) (c / g.w)) s
theorem fold_skip {α : Type} {f : α → Int → α} : ∀ (l : List Int) (s : α), (∀ s x, x ∈ l → f s x = s) → l.foldl f s = s
  | [], s, _ => rfl
  | x :: l, s, h => by
    rw [List.foldl_cons, h s x (List.mem_cons_self)]
    exact fold_skip l s fun s y hy => h s y (List.mem_cons_of_mem _ hy)
theorem fold_congr {α : Type} {f f' : α → Int → α} : ∀ (l : List Int) (s : α), (∀ s x, x ∈ l → f s x = f' s x) → l.foldl f s = l.foldl f' s
  | [], s, _ => rfl
  | x :: l, s, h => by
    rw [List.foldl_cons, List.foldl_cons, h s x (List.mem_cons_self)]
    exact fold_congr l _ fun s y hy => h s y (List.mem_cons_of_mem _ hy)
/-- What is done at three places is done at those inside, where the others do nothing. -/
theorem fold3 {α : Type} {f : α → Int → α} {x w : Int} (hx : 0 ≤ x) (hxw : x < w) (s : α) (hout : ∀ s u, ¬ (0 ≤ u ∧ u < w) → f s u = s) : (rng (x - 1) 3).foldl f s = (rng3 x w).foldl f s := by
  unfold rng3 lo3 hi3
  by_cases h0 : x = 0
  · subst h0
    have e0 : (rng (0 - 1) 3) = [-1, 0, 1] := by decide
    rw [e0]
    simp only [List.foldl_cons, List.foldl_nil]
    rw [hout s (-1) (by omega)]
    by_cases h1 : w = 1
    · subst h1
      rw [hout _ 1 (by omega)]
      rfl
    · have : (min (0 + 1) (w - 1) + 1 - max ((0 : Int) - 1) 0).toNat = 2 := by omega
      have e2 : max ((0 : Int) - 1) 0 = 0 := by decide
      rw [this, e2]
      rfl
  · have em : max (x - 1) 0 = x - 1 := by omega
    rw [em]
    by_cases h1 : x = w - 1
    · have : (min (x + 1) (w - 1) + 1 - (x - 1)).toNat = 2 := by omega
      rw [this]
      simp only [rng, List.foldl_cons, List.foldl_nil]
      rw [hout _ (x - 1 + 1 + 1) (by omega)]
    · have : (min (x + 1) (w - 1) + 1 - (x - 1)).toNat = 3 := by omega
      rw [this]
theorem xy_bd {g : Pg2} {c : Int} (h0 : 0 ≤ c) (h1 : c < ((g.w * g.h : Nat) : Int)) : (0 ≤ c % g.w ∧ c % g.w < g.w) ∧ (0 ≤ c / g.w ∧ c / g.w < g.h) := by
  obtain ⟨k, rfl⟩ : ∃ k : Nat, c = k := ⟨c.toNat, by omega⟩
  have hk : k < g.w * g.h := by omega
  have hw : 0 < g.w := by
    rcases Nat.eq_zero_or_pos g.w with h | h
    · rw [h, Nat.zero_mul] at hk; omega
    · exact h
  have e1 : (k : Int) % g.w = ((k % g.w : Nat) : Int) := rfl
  have e2 : (k : Int) / g.w = ((k / g.w : Nat) : Int) := rfl
  have h3 := Nat.mod_lt k hw
  have h4 : k / g.w < g.h := Nat.div_lt_of_lt_mul hk
  rw [e1, e2]
  exact ⟨⟨Int.natCast_nonneg _, Int.ofNat_lt.2 h3⟩, Int.natCast_nonneg _, Int.ofNat_lt.2 h4⟩
theorem pix9_eq (g : Pg2) (s : RS) {c : Int} (h0 : 0 ≤ c) (h1 : c < ((g.w * g.h : Nat) : Int)) : pix9 g s c = pix g s c := by
  obtain ⟨hx, hy⟩ := xy_bd h0 h1
  unfold pix9 pix
  generalize c % g.w = x at *
  generalize c / g.w = y at *
  rw [fold3 (f := row9 g x y) (w := g.h) hy.1 hy.2 s fun s v hv => fold_skip (f := pt9 g x y v) _ _ fun s u _ => ?_]
  · refine fold_congr _ _ fun s v hv => ?_
    have hv' := rng3_mem hv
    unfold row9
    rw [fold3 (w := g.w) hx.1 hx.2 s fun s u hu => ?_]
    · refine fold_congr _ _ fun s u hu => ?_
      have hu' := rng3_mem hu
      unfold pt9
      rw [if_pos ⟨hu'.1, hv'.1, hu'.2, hv'.2⟩]
    · unfold pt9
      rw [if_neg fun h => hu ⟨h.1, h.2.2.1⟩]
  · unfold pt9
    rw [if_neg fun h => hv ⟨h.2.1, h.2.2.2⟩]
end Go.Fv.M

/- Pixels of regions that are chosen change their colour, in plain words. -/
namespace Go.Fv.M
open Go
set_option linter.unusedSimpArgs false
set_option linter.unusedVariables false
set_option maxRecDepth 8000

def chg (v : Bool) (p : List Bool) (l : List Int) : List Bool := l.foldl (fun p i => p.set i.toNat v) p
structure CS where
  p : List Bool
  n : Nat
def CS.step (v : Bool) (sel : List Int → Bool) (s : CS) (l : List Int) : CS := if sel l = true then ⟨chg v s.p l, s.n + 1⟩ else s
end Go.Fv.M

namespace Go.Fv.M
set_option linter.unusedSimpArgs false
set_option linter.unusedVariables false

def sumTo (f : Nat → Int) : Nat → Int
  | 0 => 0
  | n + 1 => sumTo f n + f n
def tab (v : Nat → Int) (w x y : Nat) : Int := sumTo (fun j => sumTo (fun i => v (j * w + i)) x) y
end Go.Fv.M

/- Facts about the program's types: each shown by reckoning it out. -/
namespace Go.Fv.M
open Go Go.Proofs
theorem e1 : ElemZ Tryd.prog 1 (.nilFunc) := .of (by kernel_rfl) (by kernel_rfl)
theorem z1 : zeroOf Tryd.prog 1 = some (.nilFunc) := e1.zero
theorem c1 : Tryd.prog.cellsOf 1 = 1 := e1.cellsOf
theorem e2 : ElemZ Tryd.prog 2 (.int .i64 0) := .of (by kernel_rfl) (by kernel_rfl)
theorem z2 : zeroOf Tryd.prog 2 = some (.int .i64 0) := e2.zero
theorem c2 : Tryd.prog.cellsOf 2 = 1 := e2.cellsOf
theorem e3 : ElemZ Tryd.prog 3 (.int .i64 0) := .of (by kernel_rfl) (by kernel_rfl)
theorem z3 : zeroOf Tryd.prog 3 = some (.int .i64 0) := e3.zero
theorem c3 : Tryd.prog.cellsOf 3 = 1 := e3.cellsOf
theorem e4 : ElemZ Tryd.prog 4 (.bool false) := .of (by kernel_rfl) (by kernel_rfl)
theorem z4 : zeroOf Tryd.prog 4 = some (.bool false) := e4.zero
theorem c4 : Tryd.prog.cellsOf 4 = 1 := e4.cellsOf
theorem e5 : ElemZ Tryd.prog 5 (.int .u8 0) := .of (by kernel_rfl) (by kernel_rfl)
theorem z5 : zeroOf Tryd.prog 5 = some (.int .u8 0) := e5.zero
theorem e6 : ElemZ Tryd.prog 6 (.int .u8 0) := .of (by kernel_rfl) (by kernel_rfl)
theorem e9 : ElemZ Tryd.prog 9 (.string ⟨#[]⟩) := .of (by kernel_rfl) (by kernel_rfl)
theorem z9 : zeroOf Tryd.prog 9 = some (.string ⟨#[]⟩) := e9.zero
theorem e12 : ElemZ Tryd.prog 12 (.int .u64 0) := .of (by kernel_rfl) (by kernel_rfl)
theorem e17 : ElemZ Tryd.prog 17 (.pointer none) := .of (by kernel_rfl) (by kernel_rfl)
theorem e22 : ElemZ Tryd.prog 22 (.slice none 0 0) := .of (by kernel_rfl) (by kernel_rfl)
theorem z22 : zeroOf Tryd.prog 22 = some (.slice none 0 0) := e22.zero
theorem c22 : Tryd.prog.cellsOf 22 = 1 := e22.cellsOf
theorem e23 : ElemZ Tryd.prog 23 (.agg #[.int .i64 0, .int .i64 0, .slice none 0 0]) := .of (by kernel_rfl) (by kernel_rfl)
theorem z23 : zeroOf Tryd.prog 23 = some (.agg #[.int .i64 0, .int .i64 0, .slice none 0 0]) := e23.zero
theorem e24 : ElemZ Tryd.prog 24 (.agg #[.int .i64 0, .int .i64 0, .slice none 0 0]) := .of (by kernel_rfl) (by kernel_rfl)
theorem z24 : zeroOf Tryd.prog 24 = some (.agg #[.int .i64 0, .int .i64 0, .slice none 0 0]) := e24.zero
theorem c24 : Tryd.prog.cellsOf 24 = 3 := e24.cellsOf
theorem e25 : ElemZ Tryd.prog 25 (.nilFunc) := .of (by kernel_rfl) (by kernel_rfl)
theorem z25 : zeroOf Tryd.prog 25 = some (.nilFunc) := e25.zero
theorem e32 : ElemZ Tryd.prog 32 (.agg #[.int .i64 0, .int .i64 0, .int .i64 0, .int .i64 0]) := .of (by kernel_rfl) (by kernel_rfl)
theorem z32 : zeroOf Tryd.prog 32 = some (.agg #[.int .i64 0, .int .i64 0, .int .i64 0, .int .i64 0]) := e32.zero
theorem c32 : Tryd.prog.cellsOf 32 = 4 := e32.cellsOf
theorem e34 : ElemZ Tryd.prog 34 (.agg #[.int .i64 0, .int .i64 0]) := .of (by kernel_rfl) (by kernel_rfl)
theorem z34 : zeroOf Tryd.prog 34 = some (.agg #[.int .i64 0, .int .i64 0]) := e34.zero
theorem c34 : Tryd.prog.cellsOf 34 = 2 := e34.cellsOf
theorem e35 : ElemZ Tryd.prog 35 (.agg #[.int .i64 0, .int .i64 0, .int .i64 0, .int .i64 0, .int .i64 0, .int .i64 0, .int .i64 0]) := .of (by kernel_rfl) (by kernel_rfl)
theorem z35 : zeroOf Tryd.prog 35 = some (.agg #[.int .i64 0, .int .i64 0, .int .i64 0, .int .i64 0, .int .i64 0, .int .i64 0, .int .i64 0]) := e35.zero
theorem e36 : ElemZ Tryd.prog 36 (.agg #[.int .i64 0, .int .i64 0, .int .i64 0, .int .i64 0, .int .i64 0, .int .i64 0, .int .i64 0]) := .of (by kernel_rfl) (by kernel_rfl)
theorem z36 : zeroOf Tryd.prog 36 = some (.agg #[.int .i64 0, .int .i64 0, .int .i64 0, .int .i64 0, .int .i64 0, .int .i64 0, .int .i64 0]) := e36.zero
theorem c36 : Tryd.prog.cellsOf 36 = 7 := e36.cellsOf
theorem e41 : ElemZ Tryd.prog 41 (.slice none 0 0) := .of (by kernel_rfl) (by kernel_rfl)
theorem z41 : zeroOf Tryd.prog 41 = some (.slice none 0 0) := e41.zero
theorem e46 : ElemZ Tryd.prog 46 (.slice none 0 0) := .of (by kernel_rfl) (by kernel_rfl)
theorem z46 : zeroOf Tryd.prog 46 = some (.slice none 0 0) := e46.zero
theorem e53 : ElemZ Tryd.prog 53 (.slice none 0 0) := .of (by kernel_rfl) (by kernel_rfl)
theorem z53 : zeroOf Tryd.prog 53 = some (.slice none 0 0) := e53.zero
theorem c53 : Tryd.prog.cellsOf 53 = 1 := e53.cellsOf
theorem e57 : ElemZ Tryd.prog 57 (.slice none 0 0) := .of (by kernel_rfl) (by kernel_rfl)
theorem z57 : zeroOf Tryd.prog 57 = some (.slice none 0 0) := e57.zero
theorem e63 : ElemZ Tryd.prog 63 (.nilFunc) := .of (by kernel_rfl) (by kernel_rfl)
theorem z63 : zeroOf Tryd.prog 63 = some (.nilFunc) := e63.zero
theorem e64 : ElemZ Tryd.prog 64 (.nilFunc) := .of (by kernel_rfl) (by kernel_rfl)
theorem z64 : zeroOf Tryd.prog 64 = some (.nilFunc) := e64.zero
theorem f7 : fieldsOkT Tryd.prog 7 := by
  intro d hd; rw [Tryd.underlying7] at hd; cases hd
  intro f hf; simp only [List.mem_cons, List.not_mem_nil, or_false] at hf
  rcases hf with rfl | rfl | rfl | rfl
  · obtain ⟨i, h, _⟩ := e2.ex; exact ⟨i, h⟩
  · obtain ⟨i, h, _⟩ := e3.ex; exact ⟨i, h⟩
  · obtain ⟨i, h, _⟩ := e4.ex; exact ⟨i, h⟩
  · obtain ⟨i, h, _⟩ := e6.ex; exact ⟨i, h⟩
theorem f8 : fieldsOkT Tryd.prog 8 := by
  intro d hd; rw [Tryd.underlying8] at hd; cases hd
  intro f hf; simp only [List.mem_cons, List.not_mem_nil, or_false] at hf
  rcases hf with rfl | rfl | rfl | rfl
  · obtain ⟨i, h, _⟩ := e2.ex; exact ⟨i, h⟩
  · obtain ⟨i, h, _⟩ := e3.ex; exact ⟨i, h⟩
  · obtain ⟨i, h, _⟩ := e4.ex; exact ⟨i, h⟩
  · obtain ⟨i, h, _⟩ := e6.ex; exact ⟨i, h⟩
theorem f13 : fieldsOkT Tryd.prog 13 := by
  intro d hd; rw [Tryd.underlying13] at hd; cases hd
  intro f hf; simp only [List.mem_cons, List.not_mem_nil, or_false] at hf
  rcases hf with rfl | rfl
  · obtain ⟨i, h, _⟩ := e9.ex; exact ⟨i, h⟩
  · obtain ⟨i, h, _⟩ := e12.ex; exact ⟨i, h⟩
theorem f14 : fieldsOkT Tryd.prog 14 := by
  intro d hd; rw [Tryd.underlying14] at hd; cases hd
  intro f hf; simp only [List.mem_cons, List.not_mem_nil, or_false] at hf
  rcases hf with rfl | rfl
  · obtain ⟨i, h, _⟩ := e9.ex; exact ⟨i, h⟩
  · obtain ⟨i, h, _⟩ := e12.ex; exact ⟨i, h⟩
theorem f18 : fieldsOkT Tryd.prog 18 := by
  intro d hd; rw [Tryd.underlying18] at hd; cases hd
  intro f hf; simp only [List.mem_cons, List.not_mem_nil, or_false] at hf
  rcases hf with rfl
  · obtain ⟨i, h, _⟩ := e17.ex; exact ⟨i, h⟩
theorem f19 : fieldsOkT Tryd.prog 19 := by
  intro d hd; rw [Tryd.underlying19] at hd; cases hd
  intro f hf; simp only [List.mem_cons, List.not_mem_nil, or_false] at hf
  rcases hf with rfl
  · obtain ⟨i, h, _⟩ := e17.ex; exact ⟨i, h⟩
theorem f24 : fieldsOkT Tryd.prog 24 := by
  intro d hd; rw [Tryd.underlying24] at hd; cases hd
  intro f hf; simp only [List.mem_cons, List.not_mem_nil, or_false] at hf
  rcases hf with rfl | rfl | rfl
  · obtain ⟨i, h, _⟩ := e3.ex; exact ⟨i, h⟩
  · obtain ⟨i, h, _⟩ := e3.ex; exact ⟨i, h⟩
  · obtain ⟨i, h, _⟩ := e22.ex; exact ⟨i, h⟩
theorem f31 : fieldsOkT Tryd.prog 31 := by
  intro d hd; rw [Tryd.underlying31] at hd; cases hd
  intro f hf; simp only [List.mem_cons, List.not_mem_nil, or_false] at hf
  rcases hf with rfl | rfl | rfl | rfl
  · obtain ⟨i, h, _⟩ := e3.ex; exact ⟨i, h⟩
  · obtain ⟨i, h, _⟩ := e3.ex; exact ⟨i, h⟩
  · obtain ⟨i, h, _⟩ := e3.ex; exact ⟨i, h⟩
  · obtain ⟨i, h, _⟩ := e3.ex; exact ⟨i, h⟩
theorem f32 : fieldsOkT Tryd.prog 32 := by
  intro d hd; rw [Tryd.underlying32] at hd; cases hd
  intro f hf; simp only [List.mem_cons, List.not_mem_nil, or_false] at hf
  rcases hf with rfl | rfl | rfl | rfl
  · obtain ⟨i, h, _⟩ := e3.ex; exact ⟨i, h⟩
  · obtain ⟨i, h, _⟩ := e3.ex; exact ⟨i, h⟩
  · obtain ⟨i, h, _⟩ := e3.ex; exact ⟨i, h⟩
  · obtain ⟨i, h, _⟩ := e3.ex; exact ⟨i, h⟩
theorem f33 : fieldsOkT Tryd.prog 33 := by
  intro d hd; rw [Tryd.underlying33] at hd; cases hd
  intro f hf; simp only [List.mem_cons, List.not_mem_nil, or_false] at hf
  rcases hf with rfl | rfl
  · obtain ⟨i, h, _⟩ := e3.ex; exact ⟨i, h⟩
  · obtain ⟨i, h, _⟩ := e3.ex; exact ⟨i, h⟩
theorem f34 : fieldsOkT Tryd.prog 34 := by
  intro d hd; rw [Tryd.underlying34] at hd; cases hd
  intro f hf; simp only [List.mem_cons, List.not_mem_nil, or_false] at hf
  rcases hf with rfl | rfl
  · obtain ⟨i, h, _⟩ := e3.ex; exact ⟨i, h⟩
  · obtain ⟨i, h, _⟩ := e3.ex; exact ⟨i, h⟩
theorem f35 : fieldsOkT Tryd.prog 35 := by
  intro d hd; rw [Tryd.underlying35] at hd; cases hd
  intro f hf; simp only [List.mem_cons, List.not_mem_nil, or_false] at hf
  rcases hf with rfl | rfl | rfl
  · obtain ⟨i, h, _⟩ := e32.ex; exact ⟨i, h⟩
  · obtain ⟨i, h, _⟩ := e3.ex; exact ⟨i, h⟩
  · obtain ⟨i, h, _⟩ := e34.ex; exact ⟨i, h⟩
theorem f36 : fieldsOkT Tryd.prog 36 := by
  intro d hd; rw [Tryd.underlying36] at hd; cases hd
  intro f hf; simp only [List.mem_cons, List.not_mem_nil, or_false] at hf
  rcases hf with rfl | rfl | rfl
  · obtain ⟨i, h, _⟩ := e32.ex; exact ⟨i, h⟩
  · obtain ⟨i, h, _⟩ := e3.ex; exact ⟨i, h⟩
  · obtain ⟨i, h, _⟩ := e34.ex; exact ⟨i, h⟩
theorem f59 : fieldsOkT Tryd.prog 59 := by
  intro d hd; rw [Tryd.underlying59] at hd; cases hd
  intro f hf; simp only [List.mem_cons, List.not_mem_nil, or_false] at hf
  rcases hf with rfl | rfl | rfl
  · obtain ⟨i, h, _⟩ := e3.ex; exact ⟨i, h⟩
  · obtain ⟨i, h, _⟩ := e3.ex; exact ⟨i, h⟩
  · obtain ⟨i, h, _⟩ := e57.ex; exact ⟨i, h⟩
theorem f106 : fieldsOkT Tryd.prog 106 := by
  intro d hd; rw [Tryd.underlying106] at hd; cases hd
  obtain ⟨i, h, _⟩ := e3.ex; exact ⟨i, h⟩
theorem q36 : EqT Tryd.prog 36 [.i .i64, .i .i64, .i .i64, .i .i64, .i .i64, .i .i64, .i .i64] := ⟨by kernel_rfl, by kernel_rfl⟩
theorem kqt36 : (EqT Tryd.prog 36 [.i .i64, .i .i64, .i .i64, .i .i64, .i .i64, .i .i64, .i .i64]) = True := eq_true q36
theorem k1 {K : Prop} : Chk (ElemZ Tryd.prog 1 (.nilFunc)) K = K := Chk_of e1
theorem k2 {K : Prop} : Chk (ElemZ Tryd.prog 2 (.int .i64 0)) K = K := Chk_of e2
theorem k3 {K : Prop} : Chk (ElemZ Tryd.prog 3 (.int .i64 0)) K = K := Chk_of e3
theorem ke3 : (ElemZ Tryd.prog 3 (.int .i64 0)) = True := eq_true e3
theorem k4 {K : Prop} : Chk (ElemZ Tryd.prog 4 (.bool false)) K = K := Chk_of e4
theorem ke4 : (ElemZ Tryd.prog 4 (.bool false)) = True := eq_true e4
theorem k5 {K : Prop} : Chk (ElemZ Tryd.prog 5 (.int .u8 0)) K = K := Chk_of e5
theorem ke32 : (ElemZ Tryd.prog 32 (.agg #[.int .i64 0, .int .i64 0, .int .i64 0, .int .i64 0])) = True := eq_true e32
theorem ke36 : (ElemZ Tryd.prog 36 (.agg #[.int .i64 0, .int .i64 0, .int .i64 0, .int .i64 0, .int .i64 0, .int .i64 0, .int .i64 0])) = True := eq_true e36
theorem ke53 : (ElemZ Tryd.prog 53 (.slice none 0 0)) = True := eq_true e53
theorem kt24 : (fieldsOkT Tryd.prog 24) = True := eq_true f24
theorem kt32 : (fieldsOkT Tryd.prog 32) = True := eq_true f32
theorem kt34 : (fieldsOkT Tryd.prog 34) = True := eq_true f34
theorem kt36 : (fieldsOkT Tryd.prog 36) = True := eq_true f36
attribute [go_sem] kqt36 Tryd.underlying0 Tryd.underlying1 Tryd.underlying2 Tryd.underlying3 Tryd.underlying4 Tryd.underlying5
attribute [go_sem] Tryd.underlying6 Tryd.underlying7 Tryd.underlying8 Tryd.underlying9 Tryd.underlying10 Tryd.underlying11 Tryd.underlying12 Tryd.underlying13 Tryd.underlying14 Tryd.underlying15 Tryd.underlying16 Tryd.underlying17
attribute [go_sem] Tryd.underlying18 Tryd.underlying19 Tryd.underlying20 Tryd.underlying21 Tryd.underlying22 Tryd.underlying23 Tryd.underlying24 Tryd.underlying25 Tryd.underlying26 Tryd.underlying27 Tryd.underlying28 Tryd.underlying29
attribute [go_sem] Tryd.underlying30 Tryd.underlying31 Tryd.underlying32 Tryd.underlying33 Tryd.underlying34 Tryd.underlying35 Tryd.underlying36 Tryd.underlying37 Tryd.underlying38 Tryd.underlying39 Tryd.underlying40 Tryd.underlying41
attribute [go_sem] Tryd.underlying42 Tryd.underlying43 Tryd.underlying44 Tryd.underlying45 Tryd.underlying46 Tryd.underlying47 Tryd.underlying48 Tryd.underlying49 Tryd.underlying50 Tryd.underlying51 Tryd.underlying52 Tryd.underlying53
attribute [go_sem] Tryd.underlying54 Tryd.underlying55 Tryd.underlying56 Tryd.underlying57 Tryd.underlying58 Tryd.underlying59 Tryd.underlying60 Tryd.underlying61 Tryd.underlying62 Tryd.underlying63 Tryd.underlying64 Tryd.underlying65
attribute [go_sem] Tryd.underlying66 Tryd.underlying67 Tryd.underlying68 Tryd.underlying69 Tryd.underlying70 Tryd.underlying71 Tryd.underlying72 Tryd.underlying73 Tryd.underlying74 Tryd.underlying75 Tryd.underlying76 Tryd.underlying77
attribute [go_sem] Tryd.underlying78 Tryd.underlying79 Tryd.underlying80 Tryd.underlying81 Tryd.underlying82 Tryd.underlying83 Tryd.underlying84 Tryd.underlying85 Tryd.underlying86 Tryd.underlying87 Tryd.underlying88 Tryd.underlying89
attribute [go_sem] Tryd.underlying90 Tryd.underlying91 Tryd.underlying92 Tryd.underlying93 Tryd.underlying94 Tryd.underlying95 Tryd.underlying96 Tryd.underlying97 Tryd.underlying98 Tryd.underlying99 Tryd.underlying100 Tryd.underlying101
attribute [go_sem] Tryd.underlying102 Tryd.underlying103 Tryd.underlying104 Tryd.underlying105 Tryd.underlying106 Tryd.underlying107 Tryd.underlying108 Tryd.underlying109 Tryd.underlying110 Tryd.underlying111 Tryd.underlying112 Tryd.underlying113
attribute [go_sem] Tryd.underlying114 Tryd.underlying115 Tryd.underlying116 Tryd.underlying117 Tryd.underlying118 Tryd.underlying119 Tryd.underlying120 Tryd.underlying121 Tryd.underlying122 Tryd.underlying123 Tryd.underlying124 Tryd.underlying125
attribute [go_sem] Tryd.underlying126 Tryd.underlying127 Tryd.underlying128 Tryd.underlying129 Tryd.underlying130 Tryd.underlying131 Tryd.underlying132 Tryd.underlying133 Tryd.underlying134 Tryd.underlying135 Tryd.underlying136 Tryd.underlying137
attribute [go_sem] Tryd.underlying138 Tryd.underlying139 Tryd.underlying140 Tryd.underlying141 Tryd.underlying142 Tryd.underlying143 Tryd.underlying144 Tryd.underlying145 Tryd.underlying146 Tryd.underlying147 Tryd.underlying148 Tryd.underlying149
attribute [go_sem] Tryd.underlying150 Tryd.underlying151 Tryd.underlying152 Tryd.underlying153 Tryd.underlying154 Tryd.underlying155 Tryd.underlying156 Tryd.underlying157 Tryd.underlying158 Tryd.underlying159 Tryd.underlying160 Tryd.underlying161
attribute [go_sem] Tryd.underlying162 Tryd.underlying163 Tryd.underlying164 Tryd.underlying165 Tryd.underlying166 Tryd.underlying167 Tryd.underlying168 Tryd.underlying169 Tryd.underlying170 Tryd.underlying171 Tryd.underlying172 Tryd.underlying173
attribute [go_sem] Tryd.underlying174 Tryd.underlying175 k1 z1 c1 k2 z2 c2 k3 ke3
attribute [go_sem] z3 c3 k4 ke4 z4 c4 k5 z5
attribute [go_sem] z9
attribute [go_sem] z22 c22 z23
attribute [go_sem] z24 c24 z25
attribute [go_sem] ke32 z32 c32
attribute [go_sem] z34 c34 z35 ke36 z36 c36
attribute [go_sem] z41
attribute [go_sem] z46
attribute [go_sem] ke53 z53 c53
attribute [go_sem] z57
attribute [go_sem] z63 z64
attribute [go_sem] kt24
attribute [go_sem] kt32 kt34 kt36
end Go.Fv.M

namespace Go.Fv.M
open Go Go.Proofs
set_option linter.unusedSimpArgs false
set_option linter.unusedVariables false
set_option maxRecDepth 8000
end Go.Fv.M

namespace Go.Fv.M
open Go Go.Proofs
set_option linter.unusedSimpArgs false
set_option linter.unusedVariables false
set_option maxRecDepth 8000
def sizeErr (w h : Int) : Int := if w < 1 ∨ 4000 < w ∨ h < 1 ∨ 4000 < h then 3 else if 1048576 < w * h then 4 else 0
set_option maxHeartbeats 1000000 in
theorem checkSize_ok (w h : Int) : FnOk Tryd.prog 90 [.int .i64 w, .int .i64 h] (.int .i64 (sizeErr w h)) [] := by
  refine FnOk.of_vc Tryd.func90 rfl (by decide) (by simp [Tryd.f90]) [.tmp 4] rfl fun w0 T0 _ => ?_
  simp only [Tryd.f90, argEnv]
  simp (maxSteps := 1000000) only [go_sem, reduceCtorEq, Nat.reduceLT, Nat.reduceLeDiff, reduceIte, ↓reduceIte, Nat.reduceEqDiff, Nat.reduceAdd, Nat.reduceMul, Nat.reduceSub, Int.reduceLE, Int.reduceLT, Int.reduceNeg, Int.reduceToNat]
  (repeat' first | (with_reducible refine Asm.intro fun _ => ?_) | ((with_reducible refine Chk.intro ?_ ?_); (· first | omega | (with_reducible refine Chk.intro ?_ ?_ <;> omega) | (simp; done) | (simp; omega))) | ((with_reducible refine LetW.i64 ?_ ?_ ?_); (· omega); (· omega)) | ((with_reducible refine Ite.decide (fun _ => ?_) (fun _ => ?_)) <;> first | (exfalso; omega) | simp (maxSteps := 1000000) only [go_sem, reduceCtorEq, Nat.reduceLT, Nat.reduceLeDiff, reduceIte, ↓reduceIte, Nat.reduceEqDiff, Nat.reduceAdd, Nat.reduceMul, Nat.reduceSub, Int.reduceLE, Int.reduceLT, Int.reduceNeg, Int.reduceToNat]) | ((with_reducible refine Ite.bool (fun _ => ?_) (fun _ => ?_)) <;> simp (maxSteps := 1000000) only [go_sem, reduceCtorEq, Nat.reduceLT, Nat.reduceLeDiff, reduceIte, ↓reduceIte, Nat.reduceEqDiff, Nat.reduceAdd, Nat.reduceMul, Nat.reduceSub, Int.reduceLE, Int.reduceLT, Int.reduceNeg, Int.reduceToNat]) | (with_reducible refine And.intro ?_ ?_))
  · rename_i h1
    refine Ret.auto 0 ?_ rfl ?_ <;> simp only [go_sem, reduceCtorEq, reduceIte, Nat.reduceEqDiff, Nat.reduceLT, Nat.reduceLeDiff, Int.natCast_succ, Post, sizeErr]
    rw [if_pos (by omega)]
  · rename_i h1
    have hm1 : 0 ≤ w * h := Int.mul_nonneg (by omega) (by omega)
    have hm2 : w * h ≤ 4000 * 4000 := Int.mul_le_mul (by omega) (by omega) (by omega) (by omega)
    refine LetW.i64 (by omega) (by omega) ?_
    (repeat' first | (with_reducible refine Asm.intro fun _ => ?_) | ((with_reducible refine Chk.intro ?_ ?_); (· first | omega | (with_reducible refine Chk.intro ?_ ?_ <;> omega) | (simp; done) | (simp; omega))) | ((with_reducible refine LetW.i64 ?_ ?_ ?_); (· omega); (· omega)) | ((with_reducible refine Ite.decide (fun _ => ?_) (fun _ => ?_)) <;> first | (exfalso; omega) | simp (maxSteps := 1000000) only [go_sem, reduceCtorEq, Nat.reduceLT, Nat.reduceLeDiff, reduceIte, ↓reduceIte, Nat.reduceEqDiff, Nat.reduceAdd, Nat.reduceMul, Nat.reduceSub, Int.reduceLE, Int.reduceLT, Int.reduceNeg, Int.reduceToNat]) | ((with_reducible refine Ite.bool (fun _ => ?_) (fun _ => ?_)) <;> simp (maxSteps := 1000000) only [go_sem, reduceCtorEq, Nat.reduceLT, Nat.reduceLeDiff, reduceIte, ↓reduceIte, Nat.reduceEqDiff, Nat.reduceAdd, Nat.reduceMul, Nat.reduceSub, Int.reduceLE, Int.reduceLT, Int.reduceNeg, Int.reduceToNat]) | (with_reducible refine And.intro ?_ ?_))
    · refine Ret.auto 0 ?_ rfl ?_ <;> simp only [go_sem, reduceCtorEq, reduceIte, Nat.reduceEqDiff, Nat.reduceLT, Nat.reduceLeDiff, Int.natCast_succ, Post, sizeErr]
      rw [if_neg (by omega), if_pos (by omega)]
    · refine Ret.auto 0 ?_ rfl ?_ <;> simp only [go_sem, reduceCtorEq, reduceIte, Nat.reduceEqDiff, Nat.reduceLT, Nat.reduceLeDiff, Int.natCast_succ, Post, sizeErr]
      rw [if_neg (by omega), if_neg (by omega)]
def grayErr (w h : Int) (n : Nat) : Int := if sizeErr w h = 0 then (if (n : Int) = w * h then 0 else 2) else sizeErr w h
theorem sizeErr_zero {w h : Int} (e : sizeErr w h = 0) : 1 ≤ w ∧ w ≤ 4000 ∧ 1 ≤ h ∧ h ≤ 4000 ∧ w * h ≤ 1048576 ∧ 1 ≤ w * h := by
  unfold sizeErr at e
  split at e
  · omega
  · split at e
    · omega
    · rename_i h1 h2
      have : 1 * 1 ≤ w * h := Int.mul_le_mul (by omega) (by omega) (by omega) (by omega)
      omega
theorem sizeErr_of {w h : Int} (h1 : 1 ≤ w) (h2 : w ≤ 4000) (h3 : 1 ≤ h) (h4 : h ≤ 4000) (hm2 : w * h ≤ 1048576) : sizeErr w h = 0 := by
  unfold sizeErr
  rw [if_neg (by omega), if_neg (by omega)]
set_option maxHeartbeats 1000000 in
theorem checkBits_ok (w h : Int) (p : List Bool) : FnOk Tryd.prog 48 [.agg [.int .i64 w, .int .i64 h, .ro (.bools p)]] (.int .i64 (grayErr w h p.length)) [] := by
  refine FnOk.of_vc Tryd.func48 rfl (by decide) (by simp [Tryd.f48]) [.tmp 2] rfl fun w0 T0 _ => ?_
  simp only [Tryd.f48, argEnv]
  simp (maxSteps := 1000000) only [go_sem, reduceCtorEq, Nat.reduceLT, Nat.reduceLeDiff, reduceIte, ↓reduceIte, Nat.reduceEqDiff, Nat.reduceAdd, Nat.reduceMul, Nat.reduceSub, Int.reduceLE, Int.reduceLT, Int.reduceNeg, Int.reduceToNat]
  (repeat' first | (with_reducible refine Asm.intro fun _ => ?_) | ((with_reducible refine Chk.intro ?_ ?_); (· first | omega | (with_reducible refine Chk.intro ?_ ?_ <;> omega) | (simp; done) | (simp; omega))) | ((with_reducible refine LetW.i64 ?_ ?_ ?_); (· omega); (· omega)) | ((with_reducible refine Ite.decide (fun _ => ?_) (fun _ => ?_)) <;> first | (exfalso; omega) | simp (maxSteps := 1000000) only [go_sem, reduceCtorEq, Nat.reduceLT, Nat.reduceLeDiff, reduceIte, ↓reduceIte, Nat.reduceEqDiff, Nat.reduceAdd, Nat.reduceMul, Nat.reduceSub, Int.reduceLE, Int.reduceLT, Int.reduceNeg, Int.reduceToNat]) | ((with_reducible refine Ite.bool (fun _ => ?_) (fun _ => ?_)) <;> simp (maxSteps := 1000000) only [go_sem, reduceCtorEq, Nat.reduceLT, Nat.reduceLeDiff, reduceIte, ↓reduceIte, Nat.reduceEqDiff, Nat.reduceAdd, Nat.reduceMul, Nat.reduceSub, Int.reduceLE, Int.reduceLT, Int.reduceNeg, Int.reduceToNat]) | (with_reducible refine And.intro ?_ ?_))
  refine VcCall.fr (args' := [.int .i64 w, .int .i64 h]) (FnFr.of_ok (checkSize_ok w h) rfl rfl) (by simp [argOkL, allOk, argOkN]) 0 rfl (by simp [rowsB]) ?_
  simp (maxSteps := 1000000) only [go_sem, reduceCtorEq, Nat.reduceLT, Nat.reduceLeDiff, reduceIte, ↓reduceIte, Nat.reduceEqDiff, Nat.reduceAdd, Nat.reduceMul, Nat.reduceSub, Int.reduceLE, Int.reduceLT, Int.reduceNeg, Int.reduceToNat]
  (repeat' first | (with_reducible refine Asm.intro fun _ => ?_) | ((with_reducible refine Chk.intro ?_ ?_); (· first | omega | (with_reducible refine Chk.intro ?_ ?_ <;> omega) | (simp; done) | (simp; omega))) | ((with_reducible refine LetW.i64 ?_ ?_ ?_); (· omega); (· omega)) | ((with_reducible refine Ite.decide (fun _ => ?_) (fun _ => ?_)) <;> first | (exfalso; omega) | simp (maxSteps := 1000000) only [go_sem, reduceCtorEq, Nat.reduceLT, Nat.reduceLeDiff, reduceIte, ↓reduceIte, Nat.reduceEqDiff, Nat.reduceAdd, Nat.reduceMul, Nat.reduceSub, Int.reduceLE, Int.reduceLT, Int.reduceNeg, Int.reduceToNat]) | ((with_reducible refine Ite.bool (fun _ => ?_) (fun _ => ?_)) <;> simp (maxSteps := 1000000) only [go_sem, reduceCtorEq, Nat.reduceLT, Nat.reduceLeDiff, reduceIte, ↓reduceIte, Nat.reduceEqDiff, Nat.reduceAdd, Nat.reduceMul, Nat.reduceSub, Int.reduceLE, Int.reduceLT, Int.reduceNeg, Int.reduceToNat]) | (with_reducible refine And.intro ?_ ?_))

  · rename_i h1
    refine Ret.auto 0 ?_ rfl ?_ <;> simp only [go_sem, reduceCtorEq, reduceIte, Nat.reduceEqDiff, Nat.reduceLT, Nat.reduceLeDiff, Int.natCast_succ, Post, grayErr, h1, reduceIte]
  · have h1 : sizeErr w h = 0 := by omega
    have hs := sizeErr_zero h1
    refine LetW.i64 (by omega) (by omega) ?_
    (repeat' first | (with_reducible refine Asm.intro fun _ => ?_) | ((with_reducible refine Chk.intro ?_ ?_); (· first | omega | (with_reducible refine Chk.intro ?_ ?_ <;> omega) | (simp; done) | (simp; omega))) | ((with_reducible refine LetW.i64 ?_ ?_ ?_); (· omega); (· omega)) | ((with_reducible refine Ite.decide (fun _ => ?_) (fun _ => ?_)) <;> first | (exfalso; omega) | simp (maxSteps := 1000000) only [go_sem, reduceCtorEq, Nat.reduceLT, Nat.reduceLeDiff, reduceIte, ↓reduceIte, Nat.reduceEqDiff, Nat.reduceAdd, Nat.reduceMul, Nat.reduceSub, Int.reduceLE, Int.reduceLT, Int.reduceNeg, Int.reduceToNat]) | ((with_reducible refine Ite.bool (fun _ => ?_) (fun _ => ?_)) <;> simp (maxSteps := 1000000) only [go_sem, reduceCtorEq, Nat.reduceLT, Nat.reduceLeDiff, reduceIte, ↓reduceIte, Nat.reduceEqDiff, Nat.reduceAdd, Nat.reduceMul, Nat.reduceSub, Int.reduceLE, Int.reduceLT, Int.reduceNeg, Int.reduceToNat]) | (with_reducible refine And.intro ?_ ?_))
    · rename_i h2
      refine Ret.auto 0 ?_ rfl ?_ <;> simp only [go_sem, reduceCtorEq, reduceIte, Nat.reduceEqDiff, Nat.reduceLT, Nat.reduceLeDiff, Int.natCast_succ, Post, grayErr, h1, h2, reduceIte]
    · rename_i h2
      refine Ret.auto 0 ?_ rfl ?_ <;> simp only [go_sem, reduceCtorEq, reduceIte, Nat.reduceEqDiff, Nat.reduceLT, Nat.reduceLeDiff, Int.natCast_succ, Post, grayErr, h1, reduceIte]
      rw [if_pos (by omega)]
end Go.Fv.M

namespace Go.Fv.M
open Go Go.Proofs
set_option linter.unusedSimpArgs false
set_option linter.unusedVariables false
set_option maxRecDepth 8000

end Go.Fv.M

namespace Go.Fv.M
open Go Go.Proofs
set_option linter.unusedSimpArgs false
set_option linter.unusedVariables false
set_option maxRecDepth 8000
end Go.Fv.M

namespace Go.Fv.M
open Go Go.Proofs
set_option linter.unusedSimpArgs false
set_option linter.unusedVariables false
set_option maxRecDepth 8000
/-- The first n values of a page told by places. -/
def rowsOf {α : Type} (w : Nat) (p : Nat → Nat → α) (n : Nat) : List α := (List.range n).map fun k => p (k % w) (k / w)
theorem rowsOf_len {α : Type} (w : Nat) (p : Nat → Nat → α) (n : Nat) : (rowsOf w p n).length = n := by simp [rowsOf]
theorem rowsOf_succ {α : Type} {w : Nat} (p : Nat → Nat → α) {x y : Nat} (hx : x < w) : rowsOf w p (y * w + (x + 1)) = rowsOf w p (y * w + x) ++ [p x y] := by
  unfold rowsOf
  rw [← Nat.add_assoc, List.range_succ, List.map_append]
  have e1 : (y * w + x) % w = x := by rw [Nat.mul_comm, Nat.mul_add_mod, Nat.mod_eq_of_lt hx]
  have e2 : (y * w + x) / w = y := by rw [Nat.mul_comm, Nat.mul_add_div (by omega), Nat.div_eq_of_lt hx, Nat.add_zero]
  simp [e1, e2]

set_option maxHeartbeats 1000000 in
theorem made_ok (w h : Nat) (hw : w ≤ 4000) (hh : h ≤ 4000) (f : Nat) (caps : List AV) [CapsOk caps] (p : Nat → Nat → Bool) (hp : ∀ x y : Nat, x < w → y < h → FnFr Tryd.prog f ([.int .i64 x, .int .i64 y] ++ caps) (.bool (p x y)) []) :
    FnOk Tryd.prog 46 [.int .i64 w, .int .i64 h, .fn f caps] (.agg [.int .i64 w, .int .i64 h, .own 0]) [(0, .row 4 (.bools (rowsOf w p (h * w))))] := by
  refine FnOk.of_vc Tryd.func46 rfl (by decide) (by simp [Tryd.f46]) [.cell 6 24] rfl fun w0 T0 _ => ?_
  simp only [Tryd.f46, argEnv]
  simp (maxSteps := 1000000) only [go_sem, reduceCtorEq, Nat.reduceLT, Nat.reduceLeDiff, reduceIte, ↓reduceIte, Nat.reduceEqDiff, Nat.reduceAdd, Nat.reduceMul, Nat.reduceSub, Int.reduceLE, Int.reduceLT, Int.reduceNeg, Int.reduceToNat]
  (repeat' first | (with_reducible refine Asm.intro fun _ => ?_) | ((with_reducible refine Chk.intro ?_ ?_); (· first | omega | (with_reducible refine Chk.intro ?_ ?_ <;> omega) | (simp; done) | (simp; omega))) | ((with_reducible refine LetW.i64 ?_ ?_ ?_); (· omega); (· omega)) | ((with_reducible refine Ite.decide (fun _ => ?_) (fun _ => ?_)) <;> first | (exfalso; omega) | simp (maxSteps := 1000000) only [go_sem, reduceCtorEq, Nat.reduceLT, Nat.reduceLeDiff, reduceIte, ↓reduceIte, Nat.reduceEqDiff, Nat.reduceAdd, Nat.reduceMul, Nat.reduceSub, Int.reduceLE, Int.reduceLT, Int.reduceNeg, Int.reduceToNat]) | ((with_reducible refine Ite.bool (fun _ => ?_) (fun _ => ?_)) <;> simp (maxSteps := 1000000) only [go_sem, reduceCtorEq, Nat.reduceLT, Nat.reduceLeDiff, reduceIte, ↓reduceIte, Nat.reduceEqDiff, Nat.reduceAdd, Nat.reduceMul, Nat.reduceSub, Int.reduceLE, Int.reduceLT, Int.reduceNeg, Int.reduceToNat]) | (with_reducible refine And.intro ?_ ?_))
  refine VcLoop.intro (fun y : Nat => ⟨33, [(14, .int .i64 y), (13, .int .i64 h), (7, .ptr 1 0), (6, .ptr 0 0), (0, .int .i64 w), (2, .fn f caps)], [(1, .box 24 [.int .i64 w, .int .i64 h, .own 2]), (0, .box 24 [.int .i64 0, .int .i64 0, .nilS]), (2, .row 4 (.bools (rowsOf w p (y * w))))], 3⟩) (fun y => y ≤ h) (fun y => h - y) 0 ?_ (Nat.zero_le _) fun y hy => ?_
  · refine Ent.trans (Ent.nilBox (P := Tryd.prog) 1 2 4 e4 rfl rfl) (Ent.auto0 rfl ?_ ?_) <;> simp only [go_sem, reduceCtorEq, reduceIte, Nat.reduceEqDiff, Nat.reduceLT, Nat.reduceLeDiff, Int.natCast_succ, rowsOf, zrow, put, List.set_cons_zero, List.set_cons_succ, Nat.zero_mul, List.range_zero, List.map_nil, List.replicate_zero]
  simp (maxSteps := 1000000) only [go_sem, reduceCtorEq, Nat.reduceLT, Nat.reduceLeDiff, reduceIte, ↓reduceIte, Nat.reduceEqDiff, Nat.reduceAdd, Nat.reduceMul, Nat.reduceSub, Int.reduceLE, Int.reduceLT, Int.reduceNeg, Int.reduceToNat]
  (repeat' first | (with_reducible refine Asm.intro fun _ => ?_) | ((with_reducible refine Chk.intro ?_ ?_); (· first | omega | (with_reducible refine Chk.intro ?_ ?_ <;> omega) | (simp; done) | (simp; omega))) | ((with_reducible refine LetW.i64 ?_ ?_ ?_); (· omega); (· omega)) | ((with_reducible refine Ite.decide (fun _ => ?_) (fun _ => ?_)) <;> first | (exfalso; omega) | simp (maxSteps := 1000000) only [go_sem, reduceCtorEq, Nat.reduceLT, Nat.reduceLeDiff, reduceIte, ↓reduceIte, Nat.reduceEqDiff, Nat.reduceAdd, Nat.reduceMul, Nat.reduceSub, Int.reduceLE, Int.reduceLT, Int.reduceNeg, Int.reduceToNat]) | ((with_reducible refine Ite.bool (fun _ => ?_) (fun _ => ?_)) <;> simp (maxSteps := 1000000) only [go_sem, reduceCtorEq, Nat.reduceLT, Nat.reduceLeDiff, reduceIte, ↓reduceIte, Nat.reduceEqDiff, Nat.reduceAdd, Nat.reduceMul, Nat.reduceSub, Int.reduceLE, Int.reduceLT, Int.reduceNeg, Int.reduceToNat]) | (with_reducible refine And.intro ?_ ?_))
  · refine VcLoop.intro (fun x : Nat => ⟨33, [(18, .int .i64 x), (17, .int .i64 w), (8, .int .i64 y), (14, .int .i64 y), (13, .int .i64 h), (7, .ptr 1 0), (6, .ptr 0 0), (0, .int .i64 w), (2, .fn f caps)], [(1, .box 24 [.int .i64 w, .int .i64 h, .own 2]), (0, .box 24 [.int .i64 0, .int .i64 0, .nilS]), (2, .row 4 (.bools (rowsOf w p (y * w + x))))], 3⟩) (fun x => x ≤ w) (fun x => w - x) 0 ?_ (Nat.zero_le _) fun x hx => ?_
    · refine Ent.auto0 rfl ?_ ?_ <;> simp only [go_sem, reduceCtorEq, reduceIte, Nat.reduceEqDiff, Nat.reduceLT, Nat.reduceLeDiff, Int.natCast_succ, Nat.add_zero]
    simp (maxSteps := 1000000) only [go_sem, reduceCtorEq, Nat.reduceLT, Nat.reduceLeDiff, reduceIte, ↓reduceIte, Nat.reduceEqDiff, Nat.reduceAdd, Nat.reduceMul, Nat.reduceSub, Int.reduceLE, Int.reduceLT, Int.reduceNeg, Int.reduceToNat]
    (repeat' first | (with_reducible refine Asm.intro fun _ => ?_) | ((with_reducible refine Chk.intro ?_ ?_); (· first | omega | (with_reducible refine Chk.intro ?_ ?_ <;> omega) | (simp; done) | (simp; omega))) | ((with_reducible refine LetW.i64 ?_ ?_ ?_); (· omega); (· omega)) | ((with_reducible refine Ite.decide (fun _ => ?_) (fun _ => ?_)) <;> first | (exfalso; omega) | simp (maxSteps := 1000000) only [go_sem, reduceCtorEq, Nat.reduceLT, Nat.reduceLeDiff, reduceIte, ↓reduceIte, Nat.reduceEqDiff, Nat.reduceAdd, Nat.reduceMul, Nat.reduceSub, Int.reduceLE, Int.reduceLT, Int.reduceNeg, Int.reduceToNat]) | ((with_reducible refine Ite.bool (fun _ => ?_) (fun _ => ?_)) <;> simp (maxSteps := 1000000) only [go_sem, reduceCtorEq, Nat.reduceLT, Nat.reduceLeDiff, reduceIte, ↓reduceIte, Nat.reduceEqDiff, Nat.reduceAdd, Nat.reduceMul, Nat.reduceSub, Int.reduceLE, Int.reduceLT, Int.reduceNeg, Int.reduceToNat]) | (with_reducible refine And.intro ?_ ?_))
    · refine VcDraw.lex [6, 7, 9] [(0, [1]), (1, [1])] (by kernel_rfl) (by kernel_rfl) ?_
      simp (maxSteps := 1000000) only [go_sem, reduceCtorEq, Nat.reduceLT, Nat.reduceLeDiff, reduceIte, ↓reduceIte, Nat.reduceEqDiff, Nat.reduceAdd, Nat.reduceMul, Nat.reduceSub, Int.reduceLE, Int.reduceLT, Int.reduceNeg, Int.reduceToNat]
      (repeat' first | (with_reducible refine Asm.intro fun _ => ?_) | ((with_reducible refine Chk.intro ?_ ?_); (· first | omega | (with_reducible refine Chk.intro ?_ ?_ <;> omega) | (simp; done) | (simp; omega))) | ((with_reducible refine LetW.i64 ?_ ?_ ?_); (· omega); (· omega)) | ((with_reducible refine Ite.decide (fun _ => ?_) (fun _ => ?_)) <;> first | (exfalso; omega) | simp (maxSteps := 1000000) only [go_sem, reduceCtorEq, Nat.reduceLT, Nat.reduceLeDiff, reduceIte, ↓reduceIte, Nat.reduceEqDiff, Nat.reduceAdd, Nat.reduceMul, Nat.reduceSub, Int.reduceLE, Int.reduceLT, Int.reduceNeg, Int.reduceToNat]) | ((with_reducible refine Ite.bool (fun _ => ?_) (fun _ => ?_)) <;> simp (maxSteps := 1000000) only [go_sem, reduceCtorEq, Nat.reduceLT, Nat.reduceLeDiff, reduceIte, ↓reduceIte, Nat.reduceEqDiff, Nat.reduceAdd, Nat.reduceMul, Nat.reduceSub, Int.reduceLE, Int.reduceLT, Int.reduceNeg, Int.reduceToNat]) | (with_reducible refine And.intro ?_ ?_))
      refine QV.intro (.bool (p x y)) ?_ ?_
      · simp (maxSteps := 1000000) only [go_sem, reduceCtorEq, Nat.reduceLT, Nat.reduceLeDiff, reduceIte, ↓reduceIte, Nat.reduceEqDiff, Nat.reduceAdd, Nat.reduceMul, Nat.reduceSub, Int.reduceLE, Int.reduceLT, Int.reduceNeg, Int.reduceToNat]
        refine VcCall.fr (args' := [.int .i64 x, .int .i64 y] ++ caps) (hp x y (by omega) (by omega)) (by simp [argOkL, allOk, argOkN, allOk_caps]) 0 rfl (by simp [rowsB]) ?_
        simp (maxSteps := 1000000) only [go_sem, reduceCtorEq, Nat.reduceLT, Nat.reduceLeDiff, reduceIte, ↓reduceIte, Nat.reduceEqDiff, Nat.reduceAdd, Nat.reduceMul, Nat.reduceSub, Int.reduceLE, Int.reduceLT, Int.reduceNeg, Int.reduceToNat]
      · simp (maxSteps := 1000000) only [go_sem, reduceCtorEq, Nat.reduceLT, Nat.reduceLeDiff, reduceIte, ↓reduceIte, Nat.reduceEqDiff, Nat.reduceAdd, Nat.reduceMul, Nat.reduceSub, Int.reduceLE, Int.reduceLT, Int.reduceNeg, Int.reduceToNat]
        have hb : y * w + x ≤ 4000 * 4000 + 4000 := Nat.add_le_add (Nat.mul_le_mul (by omega) hw) (by omega)
        have hr := rowsOf_len w p (y * w + x)
        have hs := rowsOf_succ p (x := x) (y := y) (w := w) (by omega)
        (repeat' first | (with_reducible refine Asm.intro fun _ => ?_) | ((with_reducible refine Chk.intro ?_ ?_); (· first | omega | (with_reducible refine Chk.intro ?_ ?_ <;> omega) | (simp; done) | (simp; omega))) | ((with_reducible refine LetW.i64 ?_ ?_ ?_); (· omega); (· omega)) | ((with_reducible refine Ite.decide (fun _ => ?_) (fun _ => ?_)) <;> first | (exfalso; omega) | simp (maxSteps := 1000000) only [go_sem, reduceCtorEq, Nat.reduceLT, Nat.reduceLeDiff, reduceIte, ↓reduceIte, Nat.reduceEqDiff, Nat.reduceAdd, Nat.reduceMul, Nat.reduceSub, Int.reduceLE, Int.reduceLT, Int.reduceNeg, Int.reduceToNat]) | ((with_reducible refine Ite.bool (fun _ => ?_) (fun _ => ?_)) <;> simp (maxSteps := 1000000) only [go_sem, reduceCtorEq, Nat.reduceLT, Nat.reduceLeDiff, reduceIte, ↓reduceIte, Nat.reduceEqDiff, Nat.reduceAdd, Nat.reduceMul, Nat.reduceSub, Int.reduceLE, Int.reduceLT, Int.reduceNeg, Int.reduceToNat]) | (with_reducible refine And.intro ?_ ?_))
        refine ⟨x + 1, Ent.auto0 rfl ?_ ?_, by omega, by omega⟩ <;> simp only [go_sem, reduceCtorEq, reduceIte, Nat.reduceEqDiff, Nat.reduceLT, Nat.reduceLeDiff, Int.natCast_succ, hs]
        all_goals rfl
    · refine ⟨y + 1, Ent.auto0 rfl ?_ ?_, by omega, by omega⟩ <;> simp only [go_sem, reduceCtorEq, reduceIte, Nat.reduceEqDiff, Nat.reduceLT, Nat.reduceLeDiff, Int.natCast_succ]
      have e : x = w := by omega
      all_goals first | rfl | rw [e, Nat.succ_mul]
  · have e : y = h := by omega
    subst e
    refine Ret.auto 1 ?_ rfl ?_ <;> simp only [go_sem, reduceCtorEq, reduceIte, Nat.reduceEqDiff, Nat.reduceLT, Nat.reduceLeDiff, Int.natCast_succ, Post, List.drop_zero]
    all_goals simp (maxSteps := 1000000) only [go_sem, reduceCtorEq, Nat.reduceLT, Nat.reduceLeDiff, reduceIte, ↓reduceIte, Nat.reduceEqDiff, Nat.reduceAdd, Nat.reduceMul, Nat.reduceSub, Int.reduceLE, Int.reduceLT, Int.reduceNeg, Int.reduceToNat]

end Go.Fv.M

namespace Go.Fv.M
open Go Go.Proofs
set_option linter.unusedSimpArgs false
set_option linter.unusedVariables false
set_option maxRecDepth 8000

def segL (v : Nat → Int) (w y l n : Nat) : List Int := (List.range n).map fun i => v (y * w + (l + i))
def boxL (v : Nat → Int) (w t l n : Nat) : Nat → List Int
  | 0 => []
  | m + 1 => boxL v w t l n m ++ segL v w (t + m) l n
theorem segL_succ (v : Nat → Int) (w y l n : Nat) : segL v w y l (n + 1) = segL v w y l n ++ [v (y * w + (l + n))] := by
  simp [segL, List.range_succ]
theorem segL_len (v : Nat → Int) (w y l n : Nat) : (segL v w y l n).length = n := by simp [segL]
theorem boxL_len (v : Nat → Int) (w t l n : Nat) : ∀ m, (boxL v w t l n m).length = m * n
  | 0 => by simp [boxL]
  | m + 1 => by simp [boxL, boxL_len v w t l n m, segL_len, Nat.succ_mul]
theorem sum_bd {l : List Int} (h : ∀ x, x ∈ l → 0 ≤ x ∧ x ≤ 255) : 0 ≤ l.sum ∧ l.sum ≤ 255 * (l.length : Int) := by
  induction l with
  | nil => simp
  | cons x l ih =>
    have h1 := h x (.head _)
    have h2 := ih fun y hy => h y (.tail _ hy)
    simp only [List.sum_cons, List.length_cons]
    omega
theorem boxL_mem {v : Nat → Int} (hv : ∀ i, 0 ≤ v i ∧ v i ≤ 255) (w t l n : Nat) : ∀ m x, x ∈ boxL v w t l n m → 0 ≤ x ∧ x ≤ 255
  | 0, x, h => by simp [boxL] at h
  | m + 1, x, h => by
    rcases List.mem_append.1 h with h | h
    · exact boxL_mem hv w t l n m x h
    · obtain ⟨i, _, rfl⟩ := List.mem_map.1 h
      exact hv _

theorem rowsOf_get {w h x y : Nat} {f : Nat → Nat → Bool} (hx : x < w) (hy : y < h) : (rowsOf w f (h * w)).getD (y * w + x) false = f x y := by
  have b : y * w + w ≤ h * w := by rw [← Nat.succ_mul]; exact Nat.mul_le_mul_right _ (by omega)
  have e1 : (y * w + x) % w = x := by rw [Nat.mul_comm, Nat.mul_add_mod, Nat.mod_eq_of_lt hx]
  have e2 : (y * w + x) / w = y := by rw [Nat.mul_comm, Nat.mul_add_div (by omega), Nat.div_eq_of_lt hx, Nat.add_zero]
  unfold rowsOf
  rw [List.getD_eq_getElem?_getD, List.getElem?_map, List.getElem?_range (by omega)]
  simp [e1, e2]
end Go.Fv.M
