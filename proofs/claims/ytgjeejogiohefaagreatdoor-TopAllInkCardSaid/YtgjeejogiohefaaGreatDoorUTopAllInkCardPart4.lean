/-
  A part of the proof of the claim: walks over the program's functions and the plain laws that these need. No condition of its own.
-/
import Derived.Test.YtgjeejogiohefaaGreatDoorFvPart9
import Derived.Test.YtgjeejogiohefaaGreatDoorFvPart11
import Derived.Test.YtgjeejogiohefaaGreatDoorUTopAllInkCardPart1
import Derived.Test.YtgjeejogiohefaaGreatDoorUTopAllInkCardPart2
import Derived.Test.YtgjeejogiohefaaGreatDoorUTopAllInkCardPart3
namespace Go.Fv.U
open Go
set_option linter.unusedSimpArgs false
set_option linter.unusedVariables false

/-! ### Lengths, counted in a map -/
def uq (l : List Int) : List Int := l.foldl insE []
def cnt (l : List Int) (k : Int) : Int := ((l.count k : Nat) : Int)
theorem uq_snoc (l : List Int) (r : Int) : uq (l ++ [r]) = insE (uq l) r := by simp [uq, List.foldl_append]
theorem mem_foldl_insE : ∀ (l s : List Int) (x : Int), x ∈ l.foldl insE s ↔ x ∈ s ∨ x ∈ l
  | [], s, x => by simp
  | y :: l, s, x => by simp only [List.foldl_cons]; rw [mem_foldl_insE l, mem_insE, List.mem_cons, or_assoc]
theorem mem_uq {l : List Int} {x : Int} : x ∈ uq l ↔ x ∈ l := by unfold uq; rw [mem_foldl_insE]; simp
theorem insE_nodup {s : List Int} {x : Int} (h : s.Nodup) : (insE s x).Nodup := by
  unfold insE; split
  · exact h
  · rename_i hx
    rw [List.nodup_append]
    refine ⟨h, by simp, ?_⟩
    intro a ha b hb e
    simp only [List.mem_singleton] at hb
    subst hb; subst e; exact hx ha
theorem foldl_insE_nodup : ∀ (l s : List Int), s.Nodup → (l.foldl insE s).Nodup
  | [], s, h => h
  | y :: l, s, h => foldl_insE_nodup l _ (insE_nodup h)
theorem uq_nodup (l : List Int) : (uq l).Nodup := foldl_insE_nodup l [] List.nodup_nil
theorem cnt_snoc (l : List Int) (r k : Int) : cnt (l ++ [r]) k = if k = r then cnt l k + 1 else cnt l k := by
  unfold cnt
  rw [List.count_append]
  by_cases e : k = r
  · subst e; simp
  · rw [if_neg e, List.count_eq_zero (l := [r]).2 (by simp [e])]; simp
theorem cnt_none {l : List Int} {k : Int} (h : k ∉ l) : cnt l k = 0 := by unfold cnt; rw [List.count_eq_zero.2 h]; rfl
theorem cnt_bd (l : List Int) (k : Int) : 0 ≤ cnt l k ∧ cnt l k ≤ (l.length : Int) := by unfold cnt; have := List.count_le_length (a := k) (l := l); omega
/-- The keys and the values of such a map. -/
def cKs (l : List Int) : List AV := (uq l).map (.int .i64)
def cVs (l : List Int) : List AV := (uq l).map fun k => .int .i64 (cnt l k)
theorem getI_cnt (l : List Int) (r : Int) : getI (cKs l) (cVs l) (.int .i64 r) = cnt l r := by
  unfold getI getV cKs cVs
  rw [keyIdx_ints]
  cases h : ixOf (uq l) r with
  | none => simp [cnt_none (fun hm => ixOf_none.1 h (mem_uq.2 hm))]
  | some j => simp [ixOf_some h]
theorem updKs_cnt (l : List Int) (r : Int) : updKs (cKs l) (.int .i64 r) = cKs (l ++ [r]) := by
  unfold cKs; rw [updKs_ints, uq_snoc]
theorem set_cnt (l : List Int) (r : Int) : (entVs (cKs l) (cVs l) (.int .i64 r) (.int .i64 0)).set (entIx (cKs l) (.int .i64 r)) (.int .i64 (cnt l r + 1)) = cVs (l ++ [r]) := by
  unfold entIx entVs cKs cVs
  rw [keyIdx_ints, uq_snoc]
  cases h : ixOf (uq l) r with
  | none =>
    have hn := ixOf_none.1 h
    unfold insE
    rw [if_neg hn]
    simp only [List.map_append, List.map_cons, List.map_nil, List.length_map]
    rw [List.set_append_right _ _ (by simp)]
    simp only [List.length_map, Nat.sub_self, List.set_cons_zero]
    congr 1
    · refine List.map_congr_left fun k hk => ?_
      rw [cnt_snoc, if_neg (fun e => hn (by rw [← e]; exact hk))]
    · rw [cnt_snoc, if_pos rfl]
  | some j =>
    have hj := ixOf_some h
    have hm := List.mem_of_getElem? hj
    unfold insE
    rw [if_pos hm]
    refine List.ext_getElem? fun i => ?_
    rw [List.getElem?_set]
    by_cases e : j = i
    · subst e
      have hlt := (List.getElem?_eq_some_iff.1 hj).1
      simp only [List.length_map, hlt, reduceIte, List.getElem?_map, hj, Option.map_some]
      rw [cnt_snoc, if_pos rfl]
    · rw [if_neg e, List.getElem?_map, List.getElem?_map]
      cases hi : (uq l)[i]? with
      | none => rfl
      | some k =>
        simp only [Option.map_some]
        rw [cnt_snoc, if_neg]
        intro ek
        subst ek
        have h1 := (List.getElem?_eq_some_iff.1 hj)
        have h2 := (List.getElem?_eq_some_iff.1 hi)
        obtain ⟨a1, a2⟩ := h1
        obtain ⟨b1, b2⟩ := h2
        exact e ((List.getElem_inj (uq_nodup l)).1 (a2.trans b2.symm))

theorem updVs_cnt (l : List Int) (r : Int) : updVs (cKs l) (cVs l) (.int .i64 r) (.int .i64 (cnt l r + 1)) = cVs (l ++ [r]) := by
  rw [← set_cnt]
  unfold updVs entIx entVs cKs cVs
  rw [keyIdx_ints]
  cases h : ixOf (uq l) r with
  | none => simp
  | some j => simp
theorem isI_cnt (l : List Int) : (cVs l).all (isI .i64) = true := by simp [cVs, isI]
/-! ### The length that comes most often -/
def BestL (l S : List Int) (b : Int) : Prop := (S = [] ∧ b = 0) ∨ (b ∈ S ∧ ∀ k, k ∈ S → cnt l k < cnt l b ∨ (cnt l k = cnt l b ∧ b ≤ k))
def pickB (l : List Int) (b k : Int) : Int := if cnt l b < cnt l k ∨ (cnt l k = cnt l b ∧ k < b) then k else b
theorem BestL.step {l S : List Int} {b k : Int} (h0 : cnt l 0 = 0) (hk : 0 < cnt l k) (h : BestL l S b) : BestL l (S ++ [k]) (pickB l b k) := by
  unfold pickB
  rcases h with ⟨rfl, rfl⟩ | ⟨hb, ha⟩
  · rw [if_pos (.inl (by omega))]
    exact .inr ⟨by simp, fun k' hk' => .inr (by simp at hk'; subst hk'; exact ⟨rfl, Int.le_refl _⟩)⟩
  · split
    · rename_i hc
      refine .inr ⟨by simp, fun k' hk' => ?_⟩
      rcases List.mem_append.1 hk' with hk' | hk'
      · have := ha k' hk'; omega
      · simp at hk'; subst hk'; exact .inr ⟨rfl, Int.le_refl _⟩
    · rename_i hc
      refine .inr ⟨List.mem_append_left _ hb, fun k' hk' => ?_⟩
      rcases List.mem_append.1 hk' with hk' | hk'
      · exact ha k' hk'
      · simp at hk'; subst hk'; omega
theorem BestL.zero {l S : List Int} {b : Int} (hS : ∀ k, k ∈ S → 0 < k) (h : BestL l S b) : b = 0 ↔ S = [] := by
  rcases h with ⟨rfl, rfl⟩ | ⟨hb, ha⟩
  · simp
  · have := hS b hb
    constructor
    · intro e; omega
    · intro e; subst e; simp at hb
theorem BestL.one {l S S' : List Int} {b b' : Int} (he : ∀ k, k ∈ S ↔ k ∈ S') (h : BestL l S b) (h' : BestL l S' b') : b = b' := by
  rcases h with ⟨rfl, rfl⟩ | ⟨hb, ha⟩
  · rcases h' with ⟨_, rfl⟩ | ⟨hb', _⟩
    · rfl
    · exact absurd ((he _).2 hb') (by simp)
  · rcases h' with ⟨rfl, _⟩ | ⟨hb', ha'⟩
    · exact absurd ((he _).1 hb) (by simp)
    · have h1 := ha b' ((he _).2 hb')
      have h2 := ha' b ((he _).1 hb)
      omega
/-! ### All entries of a map, in any order -/
def left (n : Nat) (seen : List Nat) : Nat := ((List.range n).filter fun j => decide (j ∉ seen)).length
theorem filter_len_le {α : Type} {p q : α → Bool} : ∀ (l : List α), (∀ x, x ∈ l → q x = true → p x = true) → (l.filter q).length ≤ (l.filter p).length
  | [], _ => by simp
  | y :: l, h => by
    have ih := filter_len_le l (fun x hx => h x (.tail _ hx))
    have hy := h y (.head _)
    simp only [List.filter_cons]
    split
    · rw [if_pos (hy (by assumption))]; simp; exact ih
    · split
      · simp; omega
      · exact ih
theorem filter_len_lt {α : Type} {p q : α → Bool} : ∀ (l : List α) (a : α), a ∈ l → p a = true → q a = false → (∀ x, x ∈ l → q x = true → p x = true) → (l.filter q).length < (l.filter p).length
  | y :: l, a, ha, hp, hq, h => by
    simp only [List.filter_cons]
    rcases List.mem_cons.1 ha with rfl | ha
    · rw [if_pos hp, if_neg (by simp [hq])]
      have := filter_len_le l (fun x hx => h x (.tail _ hx))
      simp; omega
    · have ih := filter_len_lt l a ha hp hq (fun x hx => h x (.tail _ hx))
      have hy := h y (.head _)
      split
      · rw [if_pos (hy (by assumption))]; simp; exact ih
      · split
        · simp; omega
        · exact ih
theorem left_lt {n : Nat} {seen : List Nat} {j : Nat} (hj : j ∉ seen) (hn : j < n) : left n (seen ++ [j]) < left n seen := by
  unfold left
  refine filter_len_lt _ j (List.mem_range.2 hn) (by simpa using hj) (by simp) fun x _ hx => ?_
  simp only [List.mem_append, List.mem_singleton, not_or, decide_eq_true_eq] at hx ⊢
  exact hx.1
/-- The keys that were seen. -/
def seenK (l : List Int) (seen : List Nat) : List Int := seen.map fun j => (uq l).getD j 0
theorem seenK_snoc (l : List Int) (seen : List Nat) (j : Nat) : seenK l (seen ++ [j]) = seenK l seen ++ [(uq l).getD j 0] := by simp [seenK]
theorem cKs_at {l : List Int} {j : Nat} {x : AV} (h : (cKs l)[j]? = some x) : j < (uq l).length ∧ x = .int .i64 ((uq l).getD j 0) ∧ (uq l).getD j 0 ∈ l := by
  unfold cKs at h
  rw [List.getElem?_map, Option.map_eq_some_iff] at h
  obtain ⟨k, hk, rfl⟩ := h
  refine ⟨(List.getElem?_eq_some_iff.1 hk).1, ?_, ?_⟩
  · simp [hk]
  · have := List.mem_of_getElem? hk
    rw [List.getD_eq_getElem?_getD, hk]; exact mem_uq.1 this
theorem cVs_at {l : List Int} {j : Nat} {x : AV} (h : (cVs l)[j]? = some x) : x = .int .i64 (cnt l ((uq l).getD j 0)) := by
  unfold cVs at h
  rw [List.getElem?_map, Option.map_eq_some_iff] at h
  obtain ⟨k, hk, rfl⟩ := h
  simp [hk]
theorem cKs_len (l : List Int) : (cKs l).length = (uq l).length := by simp [cKs]
theorem seenK_mem {l : List Int} {seen : List Nat} (hs : ∀ j, j ∈ seen → j < (uq l).length) {k : Int} (hk : k ∈ seenK l seen) : k ∈ l := by
  unfold seenK at hk
  obtain ⟨j, hj, rfl⟩ := List.mem_map.1 hk
  have := hs j hj
  rw [List.getD_eq_getElem?_getD, List.getElem?_eq_getElem this]
  exact mem_uq.1 (List.getElem_mem this)
end Go.Fv.U

/- Boxes, and the boxes of pixels, in plain words. -/
namespace Go.Fv.U
open Go
set_option linter.unusedSimpArgs false
set_option linter.unusedVariables false
set_option maxRecDepth 8000

structure Bx where
  x : Int
  y : Int
  w : Int
  h : Int
def Bx.av (b : Bx) : List AV := [.int .i64 b.x, .int .i64 b.y, .int .i64 b.w, .int .i64 b.h]
def Bx.zero : Bx := ⟨0, 0, 0, 0⟩
abbrev bxs (l : List Bx) : RowV := .objs 4 (l.map Bx.av)
instance : FNoId Bx.av := ⟨fun _ => rfl⟩
theorem bx_elem (l : List Bx) {i : Nat} (h : i < l.length) : (l.map Bx.av).getD i [] = [.int .i64 (l.getD i Bx.zero).x, .int .i64 (l.getD i Bx.zero).y, .int .i64 (l.getD i Bx.zero).w, .int .i64 (l.getD i Bx.zero).h] := by
  simp [List.getD_eq_getElem?_getD, h, Bx.av]
def mnF {α : Type} (f : α → Int) (a : Int) (l : List α) : Int := l.foldl (fun m i => min m (f i)) a
def mxF {α : Type} (f : α → Int) (a : Int) (l : List α) : Int := l.foldl (fun m i => max m (f i)) a
theorem le_mnF {α : Type} (f : α → Int) : ∀ (l : List α) (a m : Int), m ≤ mnF f a l ↔ m ≤ a ∧ ∀ i, i ∈ l → m ≤ f i
  | [], a, m => by simp [mnF]
  | x :: l, a, m => by
    have ih := le_mnF f l (min a (f x)) m
    show m ≤ mnF f (min a (f x)) l ↔ _
    rw [ih]
    constructor
    · rintro ⟨h1, h2⟩
      refine ⟨by omega, fun i hi => ?_⟩
      rcases List.mem_cons.1 hi with rfl | hi
      · omega
      · exact h2 i hi
    · rintro ⟨h1, h2⟩
      have := h2 x (List.mem_cons_self)
      exact ⟨by omega, fun i hi => h2 i (List.mem_cons_of_mem _ hi)⟩
theorem mxF_le {α : Type} (f : α → Int) : ∀ (l : List α) (a m : Int), mxF f a l ≤ m ↔ a ≤ m ∧ ∀ i, i ∈ l → f i ≤ m
  | [], a, m => by simp [mxF]
  | x :: l, a, m => by
    have ih := mxF_le f l (max a (f x)) m
    show mxF f (max a (f x)) l ≤ m ↔ _
    rw [ih]
    constructor
    · rintro ⟨h1, h2⟩
      refine ⟨by omega, fun i hi => ?_⟩
      rcases List.mem_cons.1 hi with rfl | hi
      · omega
      · exact h2 i hi
    · rintro ⟨h1, h2⟩
      have := h2 x (List.mem_cons_self)
      exact ⟨by omega, fun i hi => h2 i (List.mem_cons_of_mem _ hi)⟩
theorem mnF_snoc {α : Type} (f : α → Int) (a : Int) (l : List α) (x : α) : mnF f a (l ++ [x]) = min (mnF f a l) (f x) := by simp [mnF]
theorem mxF_snoc {α : Type} (f : α → Int) (a : Int) (l : List α) (x : α) : mxF f a (l ++ [x]) = max (mxF f a l) (f x) := by simp [mxF]
/-! ### The box of pixels -/
def leftP (w : Nat) (l : List Int) : Int := mnF (fun i => i % (w : Int)) w l
def topP (w h : Nat) (l : List Int) : Int := mnF (fun i => i / (w : Int)) h l
def rightP (w : Nat) (l : List Int) : Int := mxF (fun i => i % (w : Int)) (-1) l
def botP (w : Nat) (l : List Int) : Int := mxF (fun i => i / (w : Int)) (-1) l
def boxOf (w h : Nat) (l : List Int) : Bx := ⟨leftP w l, topP w h l, rightP w l - leftP w l + 1, botP w l - topP w h l + 1⟩
def InPg (w h : Nat) (l : List Int) : Prop := ∀ i, i ∈ l → 0 ≤ i ∧ i < ((w * h : Nat) : Int)
theorem xy_bd' {w h : Nat} {c : Int} (h0 : 0 ≤ c) (h1 : c < ((w * h : Nat) : Int)) : (0 ≤ c % w ∧ c % w < w) ∧ (0 ≤ c / w ∧ c / w < h) := by
  obtain ⟨k, rfl⟩ : ∃ k : Nat, c = k := ⟨c.toNat, by omega⟩
  have hk : k < w * h := by omega
  have hw : 0 < w := by
    rcases Nat.eq_zero_or_pos w with h | h
    · rw [h, Nat.zero_mul] at hk; omega
    · exact h
  have e1 : (k : Int) % w = ((k % w : Nat) : Int) := rfl
  have e2 : (k : Int) / w = ((k / w : Nat) : Int) := rfl
  have h3 := Nat.mod_lt k hw
  have h4 : k / w < h := Nat.div_lt_of_lt_mul hk
  rw [e1, e2]
  exact ⟨⟨Int.natCast_nonneg _, Int.ofNat_lt.2 h3⟩, Int.natCast_nonneg _, Int.ofNat_lt.2 h4⟩
end Go.Fv.U

/- What is joined, in plain words: a search from each number that is not seen yet. -/
namespace Go.Fv.U
open Go
set_option linter.unusedSimpArgs false
set_option linter.unusedVariables false
set_option maxRecDepth 8000

/-- The numbers from a on, n of them. -/
def rng (a : Int) : Nat → List Int
  | 0 => []
  | n + 1 => a :: rng (a + 1) n
theorem rng_mem : ∀ {n : Nat} {a x : Int}, x ∈ rng a n → a ≤ x ∧ x < a + n
  | 0, a, x, h => by cases h
  | n + 1, a, x, h => by
    rcases List.mem_cons.1 h with rfl | h
    · omega
    · have := rng_mem h
      omega
/-- What is seen, and what was found, in order. -/
structure RS where
  seen : List Bool
  l : List Int
def RS.vis (ok : Nat → Bool) (s : RS) (i : Nat) : RS := if s.seen.getD i false = true ∨ ok i = false then s else ⟨s.seen.set i true, s.l ++ [(i : Int)]⟩
def bfs (f : RS → Int → RS) : Nat → Nat → RS → RS
  | 0, _, s => s
  | n + 1, k, s => if k < s.l.length then bfs f n (k + 1) (f s (s.l.getD k 0)) else s
def regs (ok : Nat → Bool) (f : RS → Int → RS) (n : Nat) : Nat → Nat → List Bool → List (List Int)
  | 0, _, _ => []
  | m + 1, i, seen => if seen.getD i false = true ∨ ok i = false then regs ok f n m (i + 1) seen else
    (bfs f n 0 ⟨seen.set i true, [(i : Int)]⟩).l :: regs ok f n m (i + 1) (bfs f n 0 ⟨seen.set i true, [(i : Int)]⟩).seen
def regsOf (ok : Nat → Bool) (f : RS → Int → RS) (n : Nat) : List (List Int) := regs ok f n n 0 (List.replicate n false)

theorem bfs_end (f : RS → Int → RS) (n k : Nat) (s : RS) (h : ¬ k < s.l.length) : bfs f n k s = s := by
  cases n with
  | zero => rfl
  | succ n => simp only [bfs]; rw [if_neg h]
theorem bfs_step (f : RS → Int → RS) {n k : Nat} {s : RS} (h : k < s.l.length) : bfs f (n + 1) k s = bfs f n (k + 1) (f s (s.l.getD k 0)) := by
  simp only [bfs]; rw [if_pos h]

/-! ### What holds of a region that grows -/
theorem count_set : ∀ {l : List Bool} {i : Nat}, i < l.length → l.getD i false = false → (l.set i true).count true = l.count true + 1
  | b :: l, 0, _, h => by
    have : b = false := h
    subst this
    simp
  | b :: l, i + 1, hi, h => by
    have ih := count_set (l := l) (i := i) (by simpa using hi) (by simpa using h)
    cases b <;> simp [ih]
structure RInv (ok : Nat → Bool) (n c0 : Nat) (s : RS) : Prop where
  len : s.seen.length = n
  cnt : s.seen.count true = c0 + s.l.length
  bd : ∀ x, x ∈ s.l → 0 ≤ x ∧ x < (n : Int)
  ink : ∀ j, s.seen.getD j false = true → ok j = true
  sn : ∀ x, x ∈ s.l → s.seen.getD x.toNat false = true
theorem getD_set_at {l : List Bool} {i : Nat} (hi : i < l.length) : (l.set i true).getD i false = true := by simp [List.getD_eq_getElem?_getD, hi]
theorem RInv.le {ok : Nat → Bool} {n c0 : Nat} {s : RS} (h : RInv ok n c0 s) : s.l.length ≤ n := by
  have h1 := h.cnt
  have h2 : s.seen.count true ≤ s.seen.length := List.count_le_length
  have h3 := h.len
  omega
theorem getD_set {l : List Bool} {i j : Nat} : (l.set i true).getD j false = true → l.getD j false = true ∨ j = i := by
  intro h
  by_cases e : i = j
  · exact .inr e.symm
  · rw [List.getD_eq_getElem?_getD, List.getElem?_set_ne e] at h
    exact .inl (by rw [List.getD_eq_getElem?_getD]; exact h)
theorem getD_set_mono {l : List Bool} {i j : Nat} (hi : i < l.length) : l.getD j false = true → (l.set i true).getD j false = true := by
  intro h
  by_cases e : i = j
  · subst e
    simp [List.getD_eq_getElem?_getD, hi]
  · rw [List.getD_eq_getElem?_getD, List.getElem?_set_ne e, ← List.getD_eq_getElem?_getD]; exact h
/-- How a region grows. -/
structure RLe (s s' : RS) : Prop where
  len : s.l.length ≤ s'.l.length
  pre : ∃ r, s'.l = s.l ++ r
  seen : ∀ j, s.seen.getD j false = true → s'.seen.getD j false = true
  new : ∀ x, x ∈ s'.l → x ∈ s.l ∨ s.seen.getD x.toNat false = false
theorem RLe.refl (s : RS) : RLe s s := ⟨Nat.le_refl _, ⟨[], (List.append_nil _).symm⟩, fun _ h => h, fun _ h => .inl h⟩
theorem RLe.trans {s s' s'' : RS} (h : RLe s s') (h' : RLe s' s'') : RLe s s'' := by
  refine ⟨Nat.le_trans h.len h'.len, ?_, fun j hj => h'.seen j (h.seen j hj), fun x hx => ?_⟩
  · obtain ⟨r, hr⟩ := h.pre
    obtain ⟨r', hr'⟩ := h'.pre
    exact ⟨r ++ r', by rw [hr', hr, List.append_assoc]⟩
  · rcases h'.new x hx with h1 | h1
    · exact h.new x h1
    · refine .inr ?_
      cases hq : s.seen.getD x.toNat false with
      | false => rfl
      | true => rw [h.seen _ hq] at h1; cases h1
theorem not_seen {a b : Bool} (h : ¬ (a = true ∨ b = false)) : a = false ∧ b = true := by
  cases a <;> cases b <;> simp at h ⊢
theorem RS.vis_inv {ok : Nat → Bool} {n c0 : Nat} {s : RS} (h : RInv ok n c0 s) {i : Nat} (hi : i < n) : RInv ok n c0 (s.vis ok i) ∧ RLe s (s.vis ok i) := by
  unfold RS.vis
  split
  · exact ⟨h, RLe.refl s⟩
  · rename_i hn
    obtain ⟨hs, hp⟩ := not_seen hn
    have hl : i < s.seen.length := by rw [h.len]; exact hi
    refine ⟨⟨by simp only [List.length_set]; exact h.len, ?_, fun x hx => ?_, fun j hj => ?_, fun x hx => ?_⟩, ⟨by simp, ⟨_, rfl⟩, fun j hj => getD_set_mono hl hj, fun x hx => ?_⟩⟩
    · simp only [count_set hl hs, List.length_append, List.length_cons, List.length_nil]
      have := h.cnt
      omega
    · rcases List.mem_append.1 hx with hx | hx
      · exact h.bd x hx
      · rw [List.mem_singleton.1 hx]; omega
    · rcases getD_set hj with hj | rfl
      · exact h.ink j hj
      · exact hp
    · rcases List.mem_append.1 hx with hx | hx
      · exact getD_set_mono hl (h.sn x hx)
      · rw [List.mem_singleton.1 hx, Int.toNat_natCast]; exact getD_set_at hl
    · rcases List.mem_append.1 hx with hx | hx
      · exact .inl hx
      · rw [List.mem_singleton.1 hx, Int.toNat_natCast]; exact .inr hs
theorem fold_inv {α β : Type} {P : α → Prop} {R : α → α → Prop} (hr : ∀ a, R a a) (ht : ∀ a b c, R a b → R b c → R a c) {f : α → β → α} : ∀ (l : List β) (s : α), P s → (∀ s x, P s → x ∈ l → P (f s x) ∧ R s (f s x)) → P (l.foldl f s) ∧ R s (l.foldl f s)
  | [], s, hs, _ => ⟨hs, hr s⟩
  | x :: l, s, hs, h => by
    obtain ⟨h1, h2⟩ := h s x hs (List.mem_cons_self)
    obtain ⟨h3, h4⟩ := fold_inv hr ht l (f s x) h1 fun s y hs hy => h s y hs (List.mem_cons_of_mem _ hy)
    exact ⟨h3, ht _ _ _ h2 h4⟩
/-- A step of the search. -/
def StepOk (ok : Nat → Bool) (n : Nat) (f : RS → Int → RS) : Prop := ∀ c0 s c, RInv ok n c0 s → 0 ≤ c → c < (n : Int) → RInv ok n c0 (f s c) ∧ RLe s (f s c)
theorem getD_mem {l : List Int} {k : Nat} (h : k < l.length) : l.getD k 0 ∈ l := by rw [getD_lt h]; exact List.getElem_mem h
theorem bfs_inv {ok : Nat → Bool} {n : Nat} {f : RS → Int → RS} (hf : StepOk ok n f) {c0 : Nat} : ∀ (m k : Nat) (s : RS), RInv ok n c0 s → RInv ok n c0 (bfs f m k s) ∧ RLe s (bfs f m k s)
  | 0, k, s, h => ⟨h, RLe.refl s⟩
  | m + 1, k, s, h => by
    simp only [bfs]
    split
    · rename_i hk
      obtain ⟨b1, b2⟩ := h.bd _ (getD_mem hk)
      obtain ⟨h1, h2⟩ := hf c0 s (s.l.getD k 0) h b1 b2
      obtain ⟨h3, h4⟩ := bfs_inv hf m (k + 1) _ h1
      exact ⟨h3, h2.trans h4⟩
    · exact ⟨h, RLe.refl s⟩
/-- What holds between the regions: before number i. -/
structure SInv (ok : Nat → Bool) (n i : Nat) (seen : List Bool) : Prop where
  len : seen.length = n
  ink : ∀ j, seen.getD j false = true → ok j = true
  all : ∀ j, j < i → ok j = true → seen.getD j false = true
theorem SInv.zero (ok : Nat → Bool) (n : Nat) : SInv ok n 0 (List.replicate n false) := by
  refine ⟨by simp, fun j hj => ?_, fun j hj => absurd hj (by omega)⟩
  rw [List.getD_eq_getElem?_getD, List.getElem?_replicate] at hj
  split at hj <;> cases hj
theorem SInv.skip {ok : Nat → Bool} {n i : Nat} {seen : List Bool} (h : SInv ok n i seen) (hn : seen.getD i false = true ∨ ok i = false) : SInv ok n (i + 1) seen := by
  refine ⟨h.len, h.ink, fun j hj hp => ?_⟩
  by_cases e : j = i
  · subst e
    rcases hn with hn | hn
    · exact hn
    · rw [hp] at hn; cases hn
  · exact h.all j (by omega) hp
theorem SInv.start {ok : Nat → Bool} {n i : Nat} {seen : List Bool} (h : SInv ok n i seen) (hi : i < n) (hn : ¬ (seen.getD i false = true ∨ ok i = false)) :
    RInv ok n (seen.count true) ⟨seen.set i true, [(i : Int)]⟩ := by
  obtain ⟨hs, hp⟩ := not_seen hn
  have hl := h.len
  refine ⟨by simp only [List.length_set]; exact hl, ?_, fun x hx => ?_, fun j hj => ?_, fun x hx => ?_⟩
  · simp only [count_set (show i < seen.length by omega) hs, List.length_cons, List.length_nil]
  · rw [List.mem_singleton.1 hx]; omega
  · rcases getD_set hj with hj | rfl
    · exact h.ink j hj
    · exact hp
  · rw [List.mem_singleton.1 hx, Int.toNat_natCast]; exact getD_set_at (by omega)
/-- What a region is: numbers from the first one on. -/
structure RegOk (n i : Nat) (l : List Int) : Prop where
  bd : ∀ x, x ∈ l → (i : Int) ≤ x ∧ x < (n : Int)
  hd : ∃ t, l = (i : Int) :: t
  le : l.length ≤ n
theorem SInv.region {ok : Nat → Bool} {n : Nat} {f : RS → Int → RS} (hf : StepOk ok n f) {i : Nat} {seen : List Bool} (h : SInv ok n i seen) (hi : i < n) (hn : ¬ (seen.getD i false = true ∨ ok i = false)) (m : Nat) :
    SInv ok n (i + 1) (bfs f m 0 ⟨seen.set i true, [(i : Int)]⟩).seen ∧ RegOk n i (bfs f m 0 ⟨seen.set i true, [(i : Int)]⟩).l ∧
    (bfs f m 0 ⟨seen.set i true, [(i : Int)]⟩).seen.count true = seen.count true + (bfs f m 0 ⟨seen.set i true, [(i : Int)]⟩).l.length := by
  obtain ⟨h1, h2⟩ := bfs_inv hf m 0 _ (h.start hi hn)
  have hlt : i < seen.length := by rw [h.len]; exact hi
  refine ⟨⟨h1.len, h1.ink, fun j hj hq => ?_⟩, ⟨fun x hx => ⟨?_, (h1.bd x hx).2⟩, ?_, h1.le⟩, h1.cnt⟩
  · refine h2.seen j ?_
    by_cases e : j = i
    · subst e; exact getD_set_at hlt
    · exact getD_set_mono hlt (h.all j (by omega) hq)
  · have hb := h1.bd x hx
    rcases h2.new x hx with hx' | hx'
    · rw [List.mem_singleton.1 hx']; omega
    · refine Classical.byContradiction fun hlt' => ?_
      have hj : x.toNat < i := by omega
      have hq : ok x.toNat = true := h1.ink _ (h1.sn x hx)
      rw [getD_set_mono hlt (h.all _ hj hq)] at hx'
      cases hx'
  · obtain ⟨r, hr⟩ := h2.pre
    exact ⟨r, hr⟩

/-! ### All regions -/
def sumLen (R : List (List Int)) : Nat := (R.map List.length).sum
theorem eq_of_bools {a b : List Bool} (h : a.length = b.length) (hh : ∀ j, a.getD j false = b.getD j false) : a = b := by
  refine List.ext_getElem h fun j h1 h2 => ?_
  have := hh j
  rwa [getD_lt h1, getD_lt h2] at this
theorem regs_sum {ok : Nat → Bool} {n : Nat} {f : RS → Int → RS} (hf : StepOk ok n f) : ∀ (m i : Nat) (seen : List Bool), SInv ok n i seen → i + m = n → sumLen (regs ok f n m i seen) + seen.count true = ((List.range n).map ok).count true
  | 0, i, seen, h, hm => by
    have e : seen = (List.range n).map ok := by
      refine eq_of_bools (by simp [h.len]) fun j => ?_
      by_cases hj : j < n
      · have e2 : ((List.range n).map ok).getD j false = ok j := by simp [List.getD_eq_getElem?_getD, hj]
        rw [e2, Bool.eq_iff_iff]
        exact ⟨h.ink j, h.all j (by omega)⟩
      · have := h.len
        rw [List.getD_eq_getElem?_getD, List.getD_eq_getElem?_getD, List.getElem?_eq_none (show seen.length ≤ j by omega), List.getElem?_eq_none (by simp; omega)]
    rw [← e]
    simp [regs, sumLen]
  | m + 1, i, seen, h, hm => by
    simp only [regs]
    split
    · rename_i hn
      exact regs_sum hf m (i + 1) seen (h.skip hn) (by omega)
    · rename_i hn
      obtain ⟨h1, h2, h3⟩ := h.region hf (by omega) hn n
      have ih := regs_sum hf m (i + 1) _ h1 (by omega)
      generalize bfs f n 0 ⟨seen.set i true, [(i : Int)]⟩ = s at *
      have e : sumLen (s.l :: regs ok f n m (i + 1) s.seen) = s.l.length + sumLen (regs ok f n m (i + 1) s.seen) := by simp [sumLen]
      rw [e]
      omega
theorem regs_ok {ok : Nat → Bool} {n : Nat} {f : RS → Int → RS} (hf : StepOk ok n f) : ∀ (m i : Nat) (seen : List Bool), SInv ok n i seen → i + m = n → ∀ r, r ∈ regs ok f n m i seen → ∃ j, j < n ∧ RegOk n j r
  | 0, i, seen, h, hm, r, hr => by cases hr
  | m + 1, i, seen, h, hm, r, hr => by
    simp only [regs] at hr
    split at hr
    · rename_i hn
      exact regs_ok hf m (i + 1) seen (h.skip hn) (by omega) r hr
    · rename_i hn
      obtain ⟨h1, h2, h3⟩ := h.region hf (by omega) hn n
      rcases List.mem_cons.1 hr with rfl | hr
      · exact ⟨i, by omega, h2⟩
      · exact regs_ok hf m (i + 1) _ h1 (by omega) r hr
theorem regs_len (ok : Nat → Bool) (f : RS → Int → RS) (n : Nat) : ∀ (m i : Nat) (seen : List Bool), (regs ok f n m i seen).length ≤ m
  | 0, i, seen => Nat.le_refl _
  | m + 1, i, seen => by
    simp only [regs]
    split
    · exact Nat.le_succ_of_le (regs_len ok f n m (i + 1) seen)
    · simp only [List.length_cons]
      exact Nat.succ_le_succ (regs_len ok f n m (i + 1) _)
theorem regsOf_sum {ok : Nat → Bool} {n : Nat} {f : RS → Int → RS} (hf : StepOk ok n f) : sumLen (regsOf ok f n) = ((List.range n).map ok).count true := by
  have := regs_sum hf n 0 _ (SInv.zero ok n) (by omega)
  have e : (List.replicate n false).count true = 0 := by rw [List.count_eq_zero]; simp
  rw [e] at this
  exact this
theorem regsOf_ok {ok : Nat → Bool} {n : Nat} {f : RS → Int → RS} (hf : StepOk ok n f) : ∀ r, r ∈ regsOf ok f n → ∃ j, j < n ∧ RegOk n j r := regs_ok hf _ 0 _ (SInv.zero ok n) (by omega)
theorem regsOf_len (ok : Nat → Bool) (f : RS → Int → RS) (n : Nat) : (regsOf ok f n).length ≤ n := regs_len ok f n _ _ _
end Go.Fv.U

/- Joined pixels of a page, in plain words: the way round a pixel, and the reference's. -/
namespace Go.Fv.U
open Go
set_option linter.unusedSimpArgs false
set_option linter.unusedVariables false
set_option maxRecDepth 8000

structure Pg2 where
  p : List Bool
  w : Nat
  h : Nat
  ink : Bool
  cor : Bool
def Pg2.ok (g : Pg2) (i : Nat) : Bool := g.p.getD i false == g.ink
def RS.pt (g : Pg2) (x y v : Int) (s : RS) (u : Int) : RS := if g.cor = false ∧ u ≠ x ∧ v ≠ y then s else s.vis g.ok (v * g.w + u).toNat
def RS.row (g : Pg2) (x y : Int) (us : List Int) (s : RS) (v : Int) : RS := us.foldl (RS.pt g x y v) s
def lo3 (x : Int) : Int := max (x - 1) 0
def hi3 (x w : Int) : Int := min (x + 1) (w - 1)
def rng3 (x w : Int) : List Int := rng (lo3 x) (hi3 x w + 1 - lo3 x).toNat
def pix (g : Pg2) (s : RS) (c : Int) : RS := (rng3 (c / g.w) g.h).foldl (RS.row g (c % g.w) (c / g.w) (rng3 (c % g.w) g.w)) s

theorem cell_lt {w h : Nat} {u v : Int} (hu : 0 ≤ u ∧ u < w) (hv : 0 ≤ v ∧ v < h) : (v * w + u).toNat < w * h ∧ 0 ≤ v * w + u ∧ v * w + u < ((w * h : Nat) : Int) := by
  obtain ⟨a, rfl⟩ : ∃ a : Nat, u = a := ⟨u.toNat, by omega⟩
  obtain ⟨b, rfl⟩ : ∃ b : Nat, v = b := ⟨v.toNat, by omega⟩
  have e : (b : Int) * w + a = ((b * w + a : Nat) : Int) := by simp
  rw [e]
  have h1 : b * w + w ≤ h * w := by rw [← Nat.succ_mul]; exact Nat.mul_le_mul_right _ (by omega)
  have h2 : w * h = h * w := Nat.mul_comm _ _
  omega
theorem rng3_mem {x w u : Int} (h : u ∈ rng3 x w) : 0 ≤ u ∧ u < w := by
  have := rng_mem h
  unfold lo3 hi3 at this
  omega
theorem pt_inv {g : Pg2} {c0 : Nat} {s : RS} (h : RInv g.ok (g.w * g.h) c0 s) {x y u v : Int} (hu : 0 ≤ u ∧ u < g.w) (hv : 0 ≤ v ∧ v < g.h) : RInv g.ok (g.w * g.h) c0 (RS.pt g x y v s u) ∧ RLe s (RS.pt g x y v s u) := by
  unfold RS.pt
  split
  · exact ⟨h, RLe.refl s⟩
  · exact RS.vis_inv h (cell_lt hu hv).1
theorem row_inv {g : Pg2} {c0 : Nat} {s : RS} (h : RInv g.ok (g.w * g.h) c0 s) {x y v : Int} {us : List Int} (hu : ∀ u, u ∈ us → 0 ≤ u ∧ u < g.w) (hv : 0 ≤ v ∧ v < g.h) : RInv g.ok (g.w * g.h) c0 (RS.row g x y us s v) ∧ RLe s (RS.row g x y us s v) :=
  fold_inv (P := RInv g.ok (g.w * g.h) c0) (R := RLe) RLe.refl (fun _ _ _ h h' => h.trans h') us s h fun s u hs hm => pt_inv hs (hu u hm) hv
theorem sq_inv {g : Pg2} {c0 : Nat} {s : RS} (h : RInv g.ok (g.w * g.h) c0 s) {x y : Int} {us vs : List Int} (hu : ∀ u, u ∈ us → 0 ≤ u ∧ u < g.w) (hv : ∀ v, v ∈ vs → 0 ≤ v ∧ v < g.h) : RInv g.ok (g.w * g.h) c0 (vs.foldl (RS.row g x y us) s) ∧ RLe s (vs.foldl (RS.row g x y us) s) :=
  fold_inv (P := RInv g.ok (g.w * g.h) c0) (R := RLe) RLe.refl (fun _ _ _ h h' => h.trans h') vs s h fun s v hs hm => row_inv hs hu (hv v hm)
theorem pix_step (g : Pg2) : StepOk g.ok (g.w * g.h) (pix g) := fun c0 s c h _ _ =>
  sq_inv h (fun _ hm => rng3_mem hm) (fun _ hm => rng3_mem hm)
def pieces (g : Pg2) : List (List Int) := regsOf g.ok (pix g) (g.w * g.h)
theorem pieces_ok (g : Pg2) : ∀ r, r ∈ pieces g → ∃ j, j < g.w * g.h ∧ RegOk (g.w * g.h) j r := regsOf_ok (pix_step g)
theorem pieces_len (g : Pg2) : (pieces g).length ≤ g.w * g.h := regsOf_len _ _ _
theorem pieces_sum (g : Pg2) (hp : g.p.length = g.w * g.h) : sumLen (pieces g) = g.p.count g.ink := by
  unfold pieces
  rw [regsOf_sum (pix_step g), ← hp]
  have e : (List.range g.p.length).map g.ok = g.p.map fun b => b == g.ink := by
    refine List.ext_getElem (by simp) fun j h1 h2 => ?_
    have hj : j < g.p.length := by simpa using h2
    simp [Pg2.ok, List.getD_eq_getElem?_getD, hj]
  rw [e]
  generalize g.p = p
  generalize g.ink = k
  induction p with
  | nil => rfl
  | cons b p ih =>
    simp only [List.map_cons, List.count_cons, ih]
    cases b <;> cases k <;> rfl

/-! ### The reference's way: all nine places, those outside left out -/
def okAt (g : Pg2) (v u : Int) : Prop := 0 ≤ u ∧ 0 ≤ v ∧ u < g.w ∧ v < g.h
instance (g : Pg2) (v u : Int) : Decidable (okAt g v u) := by unfold okAt; infer_instance
theorem xy_bd {g : Pg2} {c : Int} (h0 : 0 ≤ c) (h1 : c < ((g.w * g.h : Nat) : Int)) : (0 ≤ c % g.w ∧ c % g.w < g.w) ∧ (0 ≤ c / g.w ∧ c / g.w < g.h) := by
  obtain ⟨k, rfl⟩ : ∃ k : Nat, c = k := ⟨c.toNat, by omega⟩
  have hk : k < g.w * g.h := by omega
  have hw : 0 < g.w := by
    rcases Nat.eq_zero_or_pos g.w with h | h
    · rw [h, Nat.zero_mul] at hk; omega
    · exact h
  have e1 : (k : Int) % g.w = ((k % g.w : Nat) : Int) := rfl
  have e2 : (k : Int) / g.w = ((k / g.w : Nat) : Int) := rfl
  have h3 := Nat.mod_lt k hw
  have h4 : k / g.w < g.h := Nat.div_lt_of_lt_mul hk
  rw [e1, e2]
  exact ⟨⟨Int.natCast_nonneg _, Int.ofNat_lt.2 h3⟩, Int.natCast_nonneg _, Int.ofNat_lt.2 h4⟩
end Go.Fv.U

/- Pixels of regions that are chosen change their colour, in plain words. -/
namespace Go.Fv.U
open Go
set_option linter.unusedSimpArgs false
set_option linter.unusedVariables false
set_option maxRecDepth 8000

def chg (v : Bool) (p : List Bool) (l : List Int) : List Bool := l.foldl (fun p i => p.set i.toNat v) p
theorem chg_snoc (v : Bool) (p : List Bool) (l : List Int) (i : Int) : chg v p (l ++ [i]) = (chg v p l).set i.toNat v := by simp [chg]
theorem chg_len (v : Bool) : ∀ (l : List Int) (p : List Bool), (chg v p l).length = p.length
  | [], p => rfl
  | i :: l, p => by
    show (chg v (p.set i.toNat v) l).length = _
    rw [chg_len v l, List.length_set]
theorem chg_get (v : Bool) : ∀ (l : List Int) (p : List Bool), (∀ i, i ∈ l → 0 ≤ i) → ∀ j : Nat, j < p.length → (chg v p l).getD j false = if (j : Int) ∈ l then v else p.getD j false
  | [], p, _, j, _ => by simp [chg]
  | i :: l, p, h, j, hj => by
    show (chg v (p.set i.toNat v) l).getD j false = _
    rw [chg_get v l _ (fun x hx => h x (List.mem_cons_of_mem _ hx)) j (by rw [List.length_set]; exact hj)]
    have h0 := h i (List.mem_cons_self)
    by_cases e : (j : Int) ∈ l
    · rw [if_pos e, if_pos (List.mem_cons_of_mem _ e)]
    · rw [if_neg e]
      by_cases e2 : (j : Int) = i
      · subst e2
        rw [if_pos (List.mem_cons_self), Int.toNat_natCast]
        simp [List.getD_eq_getElem?_getD, hj]
      · rw [if_neg (by rw [List.mem_cons]; rintro (h | h); exact e2 h; exact e h)]
        have hne : i.toNat ≠ j := by omega
        rw [List.getD_eq_getElem?_getD, List.getElem?_set_ne hne, ← List.getD_eq_getElem?_getD]
structure CS where
  p : List Bool
  n : Nat
def CS.step (v : Bool) (sel : List Int → Bool) (s : CS) (l : List Int) : CS := if sel l = true then ⟨chg v s.p l, s.n + 1⟩ else s
def chgAll (v : Bool) (sel : List Int → Bool) (p : List Bool) (R : List (List Int)) : CS := R.foldl (CS.step v sel) ⟨p, 0⟩
theorem chgAll_snoc (v : Bool) (sel : List Int → Bool) (p : List Bool) (R : List (List Int)) (l : List Int) : chgAll v sel p (R ++ [l]) = CS.step v sel (chgAll v sel p R) l := by simp [chgAll]
theorem chgAll_len (v : Bool) (sel : List Int → Bool) (p : List Bool) (R : List (List Int)) : (chgAll v sel p R).p.length = p.length ∧ (chgAll v sel p R).n ≤ R.length := by
  unfold chgAll
  have key : ∀ (R : List (List Int)) (s : CS), (R.foldl (CS.step v sel) s).p.length = s.p.length ∧ (R.foldl (CS.step v sel) s).n ≤ s.n + R.length := by
    intro R
    induction R with
    | nil => intro s; exact ⟨rfl, Nat.le_refl _⟩
    | cons l R ih =>
      intro s
      obtain ⟨h1, h2⟩ := ih (CS.step v sel s l)
      have h3 : (CS.step v sel s l).p.length = s.p.length ∧ (CS.step v sel s l).n ≤ s.n + 1 := by
        unfold CS.step
        split
        · exact ⟨chg_len _ _ _, Nat.le_refl _⟩
        · exact ⟨rfl, Nat.le_succ _⟩
      refine ⟨h1.trans h3.1, ?_⟩
      rw [List.foldl_cons, List.length_cons]
      omega
  have := key R ⟨p, 0⟩
  exact ⟨this.1, by have := this.2; simpa using this⟩
def speckB (most : Int) (l : List Int) : Bool := decide ((l.length : Int) ≤ most)
end Go.Fv.U

/- Pieces of a page, in plain words. -/
namespace Go.Fv.U
open Go
set_option linter.unusedSimpArgs false
set_option linter.unusedVariables false
set_option maxRecDepth 8000

structure Pc where
  b : Bx
  n : Int
  x : Int
  y : Int
def Pc.av (c : Pc) : List AV := [.int .i64 c.b.x, .int .i64 c.b.y, .int .i64 c.b.w, .int .i64 c.b.h, .int .i64 c.n, .int .i64 c.x, .int .i64 c.y]
def Pc.zero : Pc := ⟨Bx.zero, 0, 0, 0⟩
abbrev pcR (l : List Pc) : RowV := .objs 7 (l.map Pc.av)
instance : FNoId Pc.av := ⟨fun _ => rfl⟩
theorem pc_elem (l : List Pc) {i : Nat} (h : i < l.length) : (l.map Pc.av).getD i [] = [.int .i64 (l.getD i Pc.zero).b.x, .int .i64 (l.getD i Pc.zero).b.y, .int .i64 (l.getD i Pc.zero).b.w, .int .i64 (l.getD i Pc.zero).b.h, .int .i64 (l.getD i Pc.zero).n, .int .i64 (l.getD i Pc.zero).x, .int .i64 (l.getD i Pc.zero).y] := by
  simp [List.getD_eq_getElem?_getD, h, Pc.av]
def pcOf (w h : Nat) (l : List Int) : Pc := ⟨boxOf w h l, l.length, l.getD 0 0 % w, l.getD 0 0 / w⟩
theorem sum_b2i : ∀ p : List Bool, (p.map b2i).sum = ((p.count true : Nat) : Int)
  | [] => rfl
  | b :: p => by
    rw [List.map_cons, List.sum_cons, sum_b2i p, List.count_cons]
    cases b <;> simp [b2i] <;> omega
theorem ink_whole (p : List Bool) (w h : Nat) (hp : p.length = w * h) : inkN p w 0 0 w h = p.count true := by
  have h1 := inkN_rows p w 0 0 w h
  have h2 : rowsOf w (cutAt p w 0 0) (h * w) = p := by
    refine eq_of_bools (by rw [rowsOf_len, hp, Nat.mul_comm]) fun k => ?_
    by_cases hk : k < w * h
    · have hw : 0 < w := by
        rcases Nat.eq_zero_or_pos w with h | h
        · rw [h, Nat.zero_mul] at hk; omega
        · exact h
      have hx := Nat.mod_lt k hw
      have hy : k / w < h := Nat.div_lt_of_lt_mul hk
      have e : k = k / w * w + k % w := (Nat.div_add_mod' k w).symm
      rw [e, rowsOf_get hx hy]
      unfold cutAt
      rw [Nat.zero_add, Nat.add_zero]
    · rw [List.getD_eq_getElem?_getD, List.getD_eq_getElem?_getD, List.getElem?_eq_none (by rw [rowsOf_len, Nat.mul_comm]; omega), List.getElem?_eq_none (by omega)]
  rw [h2, sum_b2i] at h1
  omega
def cntL (l : List Pc) : Int := (l.map Pc.n).sum
theorem cnt_pcs (w h : Nat) (R : List (List Int)) : cntL (R.map (pcOf w h)) = ((sumLen R : Nat) : Int) := by
  induction R with
  | nil => rfl
  | cons l R ih =>
    have e1 : cntL ((l :: R).map (pcOf w h)) = (l.length : Int) + cntL (R.map (pcOf w h)) := by
      simp [cntL, pcOf]
    have e2 : sumLen (l :: R) = l.length + sumLen R := by simp [sumLen]
    rw [e1, e2, ih]
    omega
end Go.Fv.U

/-! The row on which most pieces end: plain law. -/
namespace Go.Fv.U
open Go
set_option linter.unusedSimpArgs false
set_option linter.unusedVariables false

def LowL (l S : List Int) (b : Int) : Prop := (S = [] ∧ b = -1) ∨ (b ∈ S ∧ ∀ k, k ∈ S → cnt l k < cnt l b ∨ (cnt l k = cnt l b ∧ k ≤ b))
def pickLow (l : List Int) (b k : Int) : Int := if b < 0 ∨ cnt l b < cnt l k ∨ (cnt l k = cnt l b ∧ b < k) then k else b
theorem LowL.step {l S : List Int} {b k : Int} (hS : ∀ k, k ∈ S → 0 ≤ k) (h : LowL l S b) : LowL l (S ++ [k]) (pickLow l b k) := by
  unfold pickLow
  rcases h with ⟨rfl, rfl⟩ | ⟨hb, ha⟩
  · rw [if_pos (.inl (by omega))]
    exact .inr ⟨by simp, fun k' hk' => .inr (by simp at hk'; subst hk'; exact ⟨rfl, Int.le_refl _⟩)⟩
  · have hb0 := hS b hb
    split
    · rename_i hc
      refine .inr ⟨by simp, fun k' hk' => ?_⟩
      rcases List.mem_append.1 hk' with hk' | hk'
      · have := ha k' hk'; omega
      · simp at hk'; subst hk'; exact .inr ⟨rfl, Int.le_refl _⟩
    · rename_i hc
      refine .inr ⟨List.mem_append_left _ hb, fun k' hk' => ?_⟩
      rcases List.mem_append.1 hk' with hk' | hk'
      · exact ha k' hk'
      · simp at hk'; subst hk'; omega
theorem LowL.one {l S S' : List Int} {b b' : Int} (he : ∀ k, k ∈ S ↔ k ∈ S') (h : LowL l S b) (h' : LowL l S' b') : b = b' := by
  rcases h with ⟨rfl, rfl⟩ | ⟨hb, ha⟩
  · rcases h' with ⟨_, rfl⟩ | ⟨hb', _⟩
    · rfl
    · exact absurd ((he _).2 hb') (by simp)
  · rcases h' with ⟨rfl, _⟩ | ⟨hb', ha'⟩
    · exact absurd ((he _).1 hb) (by simp)
    · have h1 := ha b' ((he _).2 hb')
      have h2 := ha' b ((he _).1 hb)
      omega
def lowOf (l : List Int) : Int := (uq l).foldl (pickLow l) (-1)
theorem lowOf_spec {l : List Int} (hp : ∀ k, k ∈ l → 0 ≤ k) : LowL l (uq l) (lowOf l) := by
  have aux : ∀ (r S : List Int) (b : Int), (∀ k, k ∈ S ++ r → 0 ≤ k) → LowL l S b → LowL l (S ++ r) (r.foldl (pickLow l) b) := by
    intro r
    induction r with
    | nil => intro S b _ h; simpa using h
    | cons k r ih =>
      intro S b hr h
      have := ih (S ++ [k]) (pickLow l b k) (fun k' hk' => hr k' (by simpa using hk')) (h.step fun k' hk' => hr k' (List.mem_append_left _ hk'))
      simpa using this
  have := aux (uq l) [] (-1) (fun k hk => hp k (mem_uq.1 (by simpa using hk))) (.inl ⟨rfl, rfl⟩)
  simpa [lowOf] using this
theorem low_all {l : List Int} {seen : List Nat} {b : Int} (hp : ∀ k, k ∈ l → 0 ≤ k) (hs : ∀ j, j ∈ seen → j < (uq l).length) (ha : ∀ j, j < (uq l).length → j ∈ seen) (h : LowL l (seenK l seen) b) : b = lowOf l := by
  refine h.one (fun k => ?_) (lowOf_spec hp)
  unfold seenK
  rw [List.mem_map]
  constructor
  · rintro ⟨j, hj, rfl⟩
    have := hs j hj
    rw [List.getD_eq_getElem?_getD, List.getElem?_eq_getElem this]
    exact List.getElem_mem this
  · intro hk
    obtain ⟨j, hj, e⟩ := List.getElem_of_mem hk
    exact ⟨j, ha j hj, by rw [List.getD_eq_getElem?_getD, List.getElem?_eq_getElem hj]; exact e⟩
theorem uq_nil {l : List Int} : (uq l).length = 0 ↔ l = [] := by
  constructor
  · intro h
    cases l with
    | nil => rfl
    | cons x t =>
      have : x ∈ uq (x :: t) := mem_uq.2 (.head _)
      rw [List.eq_nil_of_length_eq_zero h] at this; cases this
  · rintro rfl; rfl
theorem foldl_ins_len : ∀ (l s : List Int), (l.foldl insE s).length ≤ s.length + l.length
  | [], s => Nat.le_refl _
  | x :: l, s => by
    have h1 := foldl_ins_len l (insE s x)
    have h2 : (insE s x).length ≤ s.length + 1 := by
      unfold insE; split
      · omega
      · simp
    rw [List.foldl_cons, List.length_cons]; omega
theorem uq_le (l : List Int) : (uq l).length ≤ l.length := by
  have := foldl_ins_len l []
  simpa [uq] using this
/-- The bottoms of the pieces of a page. -/
def bots (p : List Bool) (w h : Nat) : List Int := (pieces ⟨p, w, h, true, true⟩).map (botP w)
theorem box_bot (w h : Nat) (l : List Int) : (boxOf w h l).y + (boxOf w h l).h - 1 = botP w l := by
  unfold boxOf; dsimp only; omega
theorem piece_pg {p : List Bool} {w h : Nat} {l : List Int} (hl : l ∈ pieces ⟨p, w, h, true, true⟩) : InPg w h l ∧ l ≠ [] := by
  obtain ⟨j, hj, ho⟩ := pieces_ok _ l hl
  obtain ⟨t, ht⟩ := ho.hd
  exact ⟨fun i hi => by have := ho.bd i hi; dsimp only at this; omega, by rw [ht]; simp⟩
theorem bot_bd {w h : Nat} {l : List Int} (hb : InPg w h l) (h0 : l ≠ []) : 0 ≤ botP w l ∧ botP w l ≤ h := by
  obtain ⟨x, t, rfl⟩ := List.exists_cons_of_ne_nil h0
  have h1 := (mxF_le (fun i => i / (w : Int)) (x :: t) (-1) (botP w (x :: t))).1 (Int.le_refl _)
  have h2 := h1.2 x (.head _)
  have h3 := xy_bd' (hb x (.head _)).1 (hb x (.head _)).2
  refine ⟨by omega, ?_⟩
  refine (mxF_le (fun i => i / (w : Int)) (x :: t) (-1) h).2 ⟨by omega, fun i hi => ?_⟩
  have := (xy_bd' (hb i hi).1 (hb i hi).2).2.2
  omega
theorem bots_bd (p : List Bool) (w h : Nat) : ∀ x, x ∈ bots p w h → 0 ≤ x ∧ x ≤ h := by
  intro x hx
  unfold bots at hx
  obtain ⟨l, hl, rfl⟩ := List.mem_map.1 hx
  exact bot_bd (piece_pg hl).1 (piece_pg hl).2
theorem bots_len (p : List Bool) (w h : Nat) : (bots p w h).length ≤ w * h := by
  unfold bots; rw [List.length_map]; exact pieces_len _
theorem bots_nil (p : List Bool) (w h : Nat) (hp : p.length = w * h) : bots p w h = [] ↔ p.count true = 0 := by
  have hs := pieces_sum ⟨p, w, h, true, true⟩ hp
  dsimp only at hs
  unfold bots
  rw [List.map_eq_nil_iff, ← hs]
  constructor
  · intro h; rw [h]; rfl
  · intro h0
    cases hR : pieces ⟨p, w, h, true, true⟩ with
    | nil => rfl
    | cons l t =>
      have h1 := (piece_pg (p := p) (w := w) (h := h) (l := l) (by rw [hR]; exact .head _)).2
      rw [hR] at h0
      unfold sumLen at h0
      rw [List.map_cons, List.sum_cons] at h0
      exact absurd (List.eq_nil_of_length_eq_zero (by omega)) h1
end Go.Fv.U

/-! Lists of boxes are held against one another. -/
namespace Go.Fv.U
open Go Go.Proofs
set_option linter.unusedSimpArgs false
set_option linter.unusedVariables false
set_option maxRecDepth 8000

theorem nb_elem (l : List Nb) {i : Nat} (h : i < l.length) : (l.map Nb.av).getD i [] = [.int .i64 (l.getD i Nb.zero).x, .int .i64 (l.getD i Nb.zero).y, .int .i64 (l.getD i Nb.zero).w, .int .i64 (l.getD i Nb.zero).h] := by
  rw [getD_lt (by simpa using h), getD_lt h, List.getElem_map]; rfl
end Go.Fv.U

namespace Go.Fv.U
open Go Go.Proofs
set_option linter.unusedSimpArgs false
set_option linter.unusedVariables false
set_option maxRecDepth 8000

theorem inPage_ok (w h X Y W H : Nat) (hw : w ≤ 4000) (hh : h ≤ 4000) (hW : 1 ≤ W) (hH : 1 ≤ H) (hX : X + W ≤ w) (hY : Y + H ≤ h) :
    FnOk Tryz.prog 169 [.agg [.int .i64 X, .int .i64 Y, .int .i64 W, .int .i64 H], .int .i64 w, .int .i64 h] (.int .i64 0) [] := by
  refine FnOk.of_vc Tryz.func169 rfl (by decide) (by simp [Tryz.f169]) [.tmp 6] rfl fun w0 T0 _ => ?_
  simp only [Tryz.f169, argEnv]
  (repeat' first | with_reducible (first | intro _ | refine rc ?_ | refine rl ?_ | refine rh ?_ | refine rt ?_ | refine rf ?_ | refine rs ?_ | refine And.intro ?_ ?_) | omega | simp (maxSteps := 1000000) only [go_sem, simprocAttr, ↓reduceIte])
  refine Ret.auto 0 ?_ rfl ?_ <;> simp only [go_sem, reduceCtorEq, reduceIte, Nat.reduceEqDiff, Nat.reduceLT, Nat.reduceLeDiff, Int.natCast_succ, Post]

theorem bitsErr_ok {w h : Nat} (hw1 : 1 ≤ w) (hw : w ≤ 4000) (hh1 : 1 ≤ h) (hh : h ≤ 4000) (hwh : w * h ≤ 1048576) {n : Nat} (hn : n = w * h) : grayErr w h n = 0 := by
  unfold grayErr
  rw [sizeErr_of (by omega) (by omega) (by omega) (by omega) (by rw [← Int.natCast_mul]; omega), if_pos rfl, if_pos (by rw [hn]; exact Int.natCast_mul w h)]

set_option maxHeartbeats 1000000 in
theorem checkBoth_ok (w h X Y W H : Nat) (hw1 : 1 ≤ w) (hw : w ≤ 4000) (hh1 : 1 ≤ h) (hh : h ≤ 4000) (hwh : w * h ≤ 1048576) (p : List Bool) (hp : p.length = w * h) (hW : 1 ≤ W) (hH : 1 ≤ H) (hX : X + W ≤ w) (hY : Y + H ≤ h) :
    FnOk Tryz.prog 117 [.agg [.int .i64 w, .int .i64 h, .ro (.bools p)], .agg [.int .i64 X, .int .i64 Y, .int .i64 W, .int .i64 H]] (.int .i64 0) [] := by
  have k1 := checkBits_ok w h p
  rw [bitsErr_ok hw1 hw hh1 hh hwh hp] at k1
  refine FnOk.of_vc Tryz.func117 rfl (by decide) (by simp [Tryz.f117]) [.tmp 4] rfl fun w0 T0 _ => ?_
  simp only [Tryz.f117, argEnv]
  (repeat' first | with_reducible (first | intro _ | refine rc ?_ | refine rl ?_ | refine rh ?_ | refine rt ?_ | refine rf ?_ | refine rs ?_ | refine And.intro ?_ ?_) | omega | simp (maxSteps := 1000000) only [go_sem, simprocAttr, ↓reduceIte])
  refine VcCall.k k1 ?_
  (repeat' first | with_reducible (first | intro _ | refine rc ?_ | refine rl ?_ | refine rh ?_ | refine rt ?_ | refine rf ?_ | refine rs ?_ | refine And.intro ?_ ?_) | omega | simp (maxSteps := 1000000) only [go_sem, simprocAttr, ↓reduceIte])
  refine VcCall.fr (FnFr.of_ok (inPage_ok w h X Y W H (by omega) (by omega) hW hH hX hY) rfl rfl) (by simp only [noIdR_ok, argOkL, argOk, allOk, argOkN, List.drop_zero, lk, reduceIte, reduceCtorEq, Nat.reduceEqDiff, Option.some.injEq, Item.row.injEq, Item.box.injEq, AV.ro.injEq, exists_eq_left, exists_and_left, exists_eq_left', exists_eq_right, and_assoc, and_true, true_and, List.cons.injEq, exists_eq', exists_eq]) 0 rfl (by simp [rowsB]) ?_
  (repeat' first | with_reducible (first | intro _ | refine rc ?_ | refine rl ?_ | refine rh ?_ | refine rt ?_ | refine rf ?_ | refine rs ?_ | refine And.intro ?_ ?_) | omega | simp (maxSteps := 1000000) only [go_sem, simprocAttr, ↓reduceIte])
  refine Ret.auto 0 ?_ rfl ?_ <;> simp only [go_sem, reduceCtorEq, reduceIte, Nat.reduceEqDiff, Nat.reduceLT, Nat.reduceLeDiff, Int.natCast_succ, Post]

set_option maxHeartbeats 2000000 in
theorem pageMade_ok (w h : Nat) (hw : w ≤ 4000) (hh : h ≤ 4000) (f : Nat) (caps : List AV) [CapsOk caps] (q : Nat → Nat → Bool) (hq : ∀ x y : Nat, x < w → y < h → FnFr Tryz.prog f ([.int .i64 x, .int .i64 y] ++ caps) (.bool (q x y)) []) :
    FnOk Tryz.prog 132 [.int .i64 w, .int .i64 h, .fn f caps] (.agg [.int .i64 w, .int .i64 h, .own 0]) [(0, .row 4 (.bools (rowsOf w q (h * w))))] := by
  have hwh : h * w ≤ 4000 * 4000 := Nat.mul_le_mul hh hw
  have hc : ((w : Int) * h) = ((h * w : Nat) : Int) := by rw [Int.natCast_mul, Int.mul_comm]
  have hlt : ∀ x y, x < w → y < h → y * w + x < h * w := fun x y hx hy => by
    have : y * w + w ≤ h * w := by rw [← Nat.succ_mul]; exact Nat.mul_le_mul_right _ (by omega)
    omega
  generalize hn : h * w = n at hwh hc hlt ⊢
  refine FnOk.of_vc Tryz.func132 rfl (by decide) (by simp [Tryz.f132]) [.cell 6 53] rfl fun w0 T0 _ => ?_
  simp only [Tryz.f132, argEnv]
  (repeat' first | with_reducible (first | intro _ | refine rc ?_ | refine rl ?_ | refine rh ?_ | refine rt ?_ | refine rf ?_ | refine rs ?_ | refine And.intro ?_ ?_) | omega | simp (maxSteps := 1000000) only [go_sem, simprocAttr, ↓reduceIte, hc])
  refine VcLoop.intro (fun y : Nat => ⟨40, [(18, .int .i64 y), (17, .int .i64 h), (7, .ptr 2 0), (6, .ptr 0 0), (0, .int .i64 w), (2, .fn f caps)], [(2, .box 53 [.int .i64 w, .int .i64 h, .own 1]), (0, .box 53 [.int .i64 0, .int .i64 0, .nilS]), (1, .row 4 (.bools (rowsOf w q (y * w) ++ List.replicate (n - y * w) false)))], 3⟩) (fun y => y ≤ h) (fun y => h - y) 0 ?_ (Nat.zero_le _) fun y hy => ?_
  · refine Ent.auto0 rfl ?_ ?_ <;> simp only [go_sem, reduceCtorEq, reduceIte, Nat.reduceEqDiff, Nat.reduceLT, Nat.reduceLeDiff, Int.natCast_succ, zrow, rowsOf, Nat.zero_mul, List.range_zero, List.map_nil, Nat.sub_zero, Int.toNat_natCast]
  (repeat' first | with_reducible (first | intro _ | refine rc ?_ | refine rl ?_ | refine rh ?_ | refine rt ?_ | refine rf ?_ | refine rs ?_ | refine And.intro ?_ ?_) | omega | simp (maxSteps := 1000000) only [go_sem, simprocAttr, ↓reduceIte])
  · refine VcLoop.intro (fun x : Nat => ⟨40, [(22, .int .i64 x), (21, .int .i64 w), (8, .int .i64 y), (18, .int .i64 y), (17, .int .i64 h), (7, .ptr 2 0), (6, .ptr 0 0), (0, .int .i64 w), (2, .fn f caps)], [(2, .box 53 [.int .i64 w, .int .i64 h, .own 1]), (0, .box 53 [.int .i64 0, .int .i64 0, .nilS]), (1, .row 4 (.bools (rowsOf w q (y * w + x) ++ List.replicate (n - (y * w + x)) false)))], 3⟩) (fun x => x ≤ w) (fun x => w - x) 0 ?_ (Nat.zero_le _) fun x hx => ?_
    · refine Ent.auto0 rfl ?_ ?_ <;> simp only [go_sem, reduceCtorEq, reduceIte, Nat.reduceEqDiff, Nat.reduceLT, Nat.reduceLeDiff, Int.natCast_succ, Nat.add_zero]
    (repeat' first | with_reducible (first | intro _ | refine rc ?_ | refine rl ?_ | refine rh ?_ | refine rt ?_ | refine rf ?_ | refine rs ?_ | refine And.intro ?_ ?_) | omega | simp (maxSteps := 1000000) only [go_sem, simprocAttr, ↓reduceIte])
    · have hb : y * w ≤ 4000 * 4000 := Nat.mul_le_mul (by omega) hw
      refine VcDraw.lex [12] [] (by kernel_rfl) (by kernel_rfl) ?_
      (repeat' first | with_reducible (first | intro _ | refine rc ?_ | refine rl ?_ | refine rh ?_ | refine rt ?_ | refine rf ?_ | refine rs ?_ | refine And.intro ?_ ?_) | omega | simp (maxSteps := 1000000) only [go_sem, simprocAttr, ↓reduceIte, up_mul, up_add])
      refine QV.intro (.bool (q x y)) ?_ ?_
      · (repeat' first | with_reducible (first | intro _ | refine rc ?_ | refine rl ?_ | refine rh ?_ | refine rt ?_ | refine rf ?_ | refine rs ?_ | refine And.intro ?_ ?_) | omega | simp (maxSteps := 1000000) only [go_sem, simprocAttr, ↓reduceIte])
        refine VcCall.fr (args' := [.int .i64 x, .int .i64 y] ++ caps) (hq x y (by omega) (by omega)) (by simp [argOkL, allOk, argOkN, allOk_caps]) 0 rfl (by simp [rowsB]) ?_
        (repeat' first | with_reducible (first | intro _ | refine rc ?_ | refine rl ?_ | refine rh ?_ | refine rt ?_ | refine rf ?_ | refine rs ?_ | refine And.intro ?_ ?_) | omega | simp (maxSteps := 1000000) only [go_sem, simprocAttr, ↓reduceIte])
      · have hl := hlt x y (by omega) (by omega)
        have hs := set_range (n := n) (fun k => q (k % w) (k / w)) false hl
        have hr := rowsOf_len w q (y * w + x)
        have e1 : (y * w + x) % w = x := by rw [Nat.mul_comm, Nat.mul_add_mod, Nat.mod_eq_of_lt (by omega)]
        have e2 : (y * w + x) / w = y := by rw [Nat.mul_comm, Nat.mul_add_div (by omega), Nat.div_eq_of_lt (by omega), Nat.add_zero]
        rw [e1, e2] at hs
        (repeat' first | with_reducible (first | intro _ | refine rc ?_ | refine rl ?_ | refine rh ?_ | refine rt ?_ | refine rf ?_ | refine rs ?_ | refine And.intro ?_ ?_) | omega | simp (maxSteps := 1000000) only [go_sem, simprocAttr, ↓reduceIte, up_mul, up_add, Int.toNat_natCast, List.length_append, List.length_replicate, hr])
        refine ⟨x + 1, Ent.auto0 rfl ?_ ?_, by omega, by omega⟩ <;> simp only [go_sem, reduceCtorEq, reduceIte, Nat.reduceEqDiff, Nat.reduceLT, Nat.reduceLeDiff, Int.natCast_succ]
        all_goals first | rfl | exact hs
    · refine ⟨y + 1, Ent.auto0 rfl ?_ ?_, by omega, by omega⟩ <;> simp only [go_sem, reduceCtorEq, reduceIte, Nat.reduceEqDiff, Nat.reduceLT, Nat.reduceLeDiff, Int.natCast_succ]
      have e : x = w := by omega
      all_goals first | rfl | rw [e, Nat.succ_mul]
  · have e : y = h := by omega
    subst e
    subst hn
    refine Ret.auto 1 ?_ rfl ?_ <;> simp only [go_sem, reduceCtorEq, reduceIte, Nat.reduceEqDiff, Nat.reduceLT, Nat.reduceLeDiff, Int.natCast_succ, Post, List.drop_zero, Nat.sub_self, List.replicate_zero, List.append_nil]
    all_goals simp (maxSteps := 1000000) only [go_sem, simprocAttr, ↓reduceIte]

set_option maxHeartbeats 1000000 in
theorem cut1_ok (w h X Y W H : Nat) (hw : w ≤ 4000) (hh : h ≤ 4000) (p : List Bool) (hp : p.length = w * h) (hX : X + W ≤ w) (hY : Y + H ≤ h) (x y : Nat) (hx : x < W) (hy : y < H) :
    FnOk Tryz.prog 133 [.int .i64 x, .int .i64 y, .cell [.int .i64 w, .int .i64 h, .ro (.bools p)], .cell [.int .i64 X, .int .i64 Y, .int .i64 W, .int .i64 H]] (.bool (cutAt p w X Y x y)) [] := by
  have b1 : (Y + y) * w + w ≤ h * w := by rw [← Nat.succ_mul]; exact Nat.mul_le_mul_right _ (by omega)
  have b2 : h * w ≤ 4000 * 4000 := Nat.mul_le_mul hh hw
  have b3 : w * h = h * w := Nat.mul_comm _ _
  refine FnOk.of_vc Tryz.func133 rfl (by decide) (by simp [Tryz.f133]) [.tmp 6] rfl fun w0 T0 _ => ?_
  simp only [Tryz.f133, argEnv]
  (repeat' first | with_reducible (first | intro _ | refine rc ?_ | refine rl ?_ | refine rh ?_ | refine rt ?_ | refine rf ?_ | refine rs ?_ | refine And.intro ?_ ?_) | omega | simp (maxSteps := 1000000) only [go_sem, simprocAttr, ↓reduceIte, up_mul, up_add, Int.toNat_natCast])
  refine Ret.auto 0 ?_ rfl ?_ <;> simp only [go_sem, reduceCtorEq, reduceIte, Nat.reduceEqDiff, Nat.reduceLT, Nat.reduceLeDiff, Int.natCast_succ, Post, cutAt]

set_option maxHeartbeats 2000000 in
theorem cut_ok (w h X Y W H : Nat) (hw1 : 1 ≤ w) (hw : w ≤ 4000) (hh1 : 1 ≤ h) (hh : h ≤ 4000) (hwh : w * h ≤ 1048576) (p : List Bool) (hp : p.length = w * h) (hW : 1 ≤ W) (hH : 1 ≤ H) (hX : X + W ≤ w) (hY : Y + H ≤ h) :
    FnOk Tryz.prog 64 [.agg [.int .i64 w, .int .i64 h, .ro (.bools p)], .agg [.int .i64 X, .int .i64 Y, .int .i64 W, .int .i64 H]] (.tup [.agg [.int .i64 W, .int .i64 H, .own 0], .int .i64 0]) [(0, .row 4 (.bools (rowsOf W (cutAt p w X Y) (H * W))))] := by
  haveI c1 : CapsOk [.cell [.int .i64 w, .int .i64 h, .ro (.bools p)], .cell [.int .i64 X, .int .i64 Y, .int .i64 W, .int .i64 H]] := ⟨rfl⟩
  have k1 := pageMade_ok W H (by omega) (by omega) 133 [.cell [.int .i64 w, .int .i64 h, .ro (.bools p)], .cell [.int .i64 X, .int .i64 Y, .int .i64 W, .int .i64 H]] (cutAt p w X Y)
    (fun x y hx hy => FnFr.of_ok (cut1_ok w h X Y W H (by omega) (by omega) p hp hX hY x y hx hy) rfl rfl)
  generalize rowsOf W (cutAt p w X Y) (H * W) = out at *
  refine FnOk.of_vc Tryz.func64 rfl (by decide) (by simp [Tryz.f64]) [.cell 4 53, .tmp 5] rfl fun w0 T0 _ => ?_
  simp only [Tryz.f64, argEnv]
  (repeat' first | with_reducible (first | intro _ | refine rc ?_ | refine rl ?_ | refine rh ?_ | refine rt ?_ | refine rf ?_ | refine rs ?_ | refine And.intro ?_ ?_) | omega | simp (maxSteps := 1000000) only [go_sem, simprocAttr, ↓reduceIte])
  refine VcCall.k (checkBoth_ok w h X Y W H hw1 hw hh1 hh hwh p hp hW hH hX hY) ?_
  (repeat' first | with_reducible (first | intro _ | refine rc ?_ | refine rl ?_ | refine rh ?_ | refine rt ?_ | refine rf ?_ | refine rs ?_ | refine And.intro ?_ ?_) | omega | simp (maxSteps := 1000000) only [go_sem, simprocAttr, ↓reduceIte])
  refine VcCall.fr (FnFr.of_ok k1 rfl rfl) (by simp only [noIdR_ok, argOkL, argOk, allOk, argOkN, List.drop_zero, lk, reduceIte, reduceCtorEq, Nat.reduceEqDiff, Option.some.injEq, Item.row.injEq, Item.box.injEq, AV.ro.injEq, exists_eq_left, exists_and_left, exists_eq_left', exists_eq_right, and_assoc, and_true, true_and, List.cons.injEq, exists_eq', exists_eq]) 1 rfl (by simp [rowsB, Item.below, Fv.below, belowL]) ?_
  (repeat' first | with_reducible (first | intro _ | refine rc ?_ | refine rl ?_ | refine rh ?_ | refine rt ?_ | refine rf ?_ | refine rs ?_ | refine And.intro ?_ ?_) | omega | simp (maxSteps := 1000000) only [go_sem, simprocAttr, ↓reduceIte])
  refine Ret.auto 1 ?_ rfl ?_ <;> simp only [go_sem, reduceCtorEq, reduceIte, Nat.reduceEqDiff, Nat.reduceLT, Nat.reduceLeDiff, Int.natCast_succ, Post, List.drop_zero]
  all_goals simp (maxSteps := 1000000) only [go_sem, simprocAttr, ↓reduceIte]

theorem sumB_take (l : List Bool) {i : Nat} (h : i < l.length) : ((l.take (i + 1)).map b2i).sum = ((l.take i).map b2i).sum + b2i (l.getD i false) := by
  rw [List.take_succ_eq_append_getElem h, List.map_append, List.sum_append, getD_lt h]
  simp
theorem sumB_bd : ∀ l : List Bool, 0 ≤ (l.map b2i).sum ∧ (l.map b2i).sum ≤ (l.length : Int)
  | [] => by simp
  | b :: l => by
    have := sumB_bd l
    cases b <;> simp [b2i] <;> omega

set_option maxHeartbeats 2000000 in
theorem ink_ok (w h X Y W H : Nat) (hw1 : 1 ≤ w) (hw : w ≤ 4000) (hh1 : 1 ≤ h) (hh : h ≤ 4000) (hwh : w * h ≤ 1048576) (p : List Bool) (hp : p.length = w * h) (hW : 1 ≤ W) (hH : 1 ≤ H) (hX : X + W ≤ w) (hY : Y + H ≤ h) :
    FnOk Tryz.prog 20 [.agg [.int .i64 w, .int .i64 h, .ro (.bools p)], .agg [.int .i64 X, .int .i64 Y, .int .i64 W, .int .i64 H]] (.tup [.int .i64 (inkN p w X Y W H), .int .i64 0]) [] := by
  have k1 := cut_ok w h X Y W H hw1 hw hh1 hh hwh p hp hW hH hX hY
  rw [← inkN_rows]
  have hl := rowsOf_len W (cutAt p w X Y) (H * W)
  have hb : H * W ≤ 4000 * 4000 := Nat.mul_le_mul (by omega) (by omega)
  generalize rowsOf W (cutAt p w X Y) (H * W) = l at *
  refine FnOk.of_vc Tryz.func20 rfl (by decide) (by simp [Tryz.f20]) [.tmp 4, .tmp 5] rfl fun w0 T0 _ => ?_
  simp only [Tryz.f20, argEnv]
  (repeat' first | with_reducible (first | intro _ | refine rc ?_ | refine rl ?_ | refine rh ?_ | refine rt ?_ | refine rf ?_ | refine rs ?_ | refine And.intro ?_ ?_) | omega | simp (maxSteps := 1000000) only [go_sem, simprocAttr, ↓reduceIte])
  refine VcCall.fr (FnFr.of_ok k1 rfl rfl) (by simp only [noIdR_ok, argOkL, argOk, allOk, argOkN, List.drop_zero, lk, reduceIte, reduceCtorEq, Nat.reduceEqDiff, Option.some.injEq, Item.row.injEq, Item.box.injEq, AV.ro.injEq, exists_eq_left, exists_and_left, exists_eq_left', exists_eq_right, and_assoc, and_true, true_and, List.cons.injEq, exists_eq', exists_eq]) 1 rfl (by simp [rowsB, Item.below, Fv.below, belowL]) ?_
  (repeat' first | with_reducible (first | intro _ | refine rc ?_ | refine rl ?_ | refine rh ?_ | refine rt ?_ | refine rf ?_ | refine rs ?_ | refine And.intro ?_ ?_) | omega | simp (maxSteps := 1000000) only [go_sem, simprocAttr, ↓reduceIte])
  refine VcLoop.intro (fun i : Nat => ⟨30, [(20, .int .i64 i), (19, .int .i64 l.length), (18, .own 2), (8, .int .i64 ((l.take i).map b2i).sum), (7, .int .i64 0)], [(2, .row 4 (.bools l))], 4⟩) (fun i => i ≤ l.length) (fun i => l.length - i) 0 ?_ (Nat.zero_le _) fun i hi => ?_
  · refine Ent.auto0 rfl ?_ ?_ <;> simp only [go_sem, reduceCtorEq, reduceIte, Nat.reduceEqDiff, Nat.reduceLT, Nat.reduceLeDiff, Int.natCast_succ, List.take_zero, List.map_nil, List.sum_nil]
  have hbd := sumB_bd (l.take i)
  have hlt := List.length_take (i := i) (l := l)
  (repeat' first | with_reducible (first | intro _ | refine rc ?_ | refine rl ?_ | refine rh ?_ | refine rt ?_ | refine rf ?_ | refine rs ?_ | refine And.intro ?_ ?_) | omega | simp (maxSteps := 1000000) only [go_sem, simprocAttr, ↓reduceIte])
  · rename_i h1 h2
    have hs := sumB_take l (i := i) (by omega)
    rw [h2] at hs
    refine ⟨i + 1, Ent.auto0 rfl ?_ ?_, by omega, by omega⟩ <;> simp only [go_sem, reduceCtorEq, reduceIte, Nat.reduceEqDiff, Nat.reduceLT, Nat.reduceLeDiff, Int.natCast_succ, hs, b2i]
    all_goals rfl
  · rename_i h1 h2
    have hs := sumB_take l (i := i) (by omega)
    rw [h2] at hs
    refine ⟨i + 1, Ent.auto0 rfl ?_ ?_, by omega, by omega⟩ <;> simp only [go_sem, reduceCtorEq, reduceIte, Nat.reduceEqDiff, Nat.reduceLT, Nat.reduceLeDiff, Int.natCast_succ, hs, b2i]
    simp
  · have e : i = l.length := by omega
    subst e
    rw [List.take_length]
    refine Ret.auto 0 ?_ rfl ?_ <;> simp only [go_sem, reduceCtorEq, reduceIte, Nat.reduceEqDiff, Nat.reduceLT, Nat.reduceLeDiff, Int.natCast_succ, Post]

end Go.Fv.U

namespace Go.Fv.U
open Go Go.Proofs
set_option linter.unusedSimpArgs false
set_option linter.unusedVariables false
set_option maxRecDepth 8000
/-- The first place where something holds, or -1. -/
def firstAt {α : Type} (q : α → Bool) : List α → Nat → Int
  | [], _ => -1
  | x :: l, i => if q x = true then i else firstAt q l (i + 1)
theorem firstAt_any {α : Type} (q : α → Bool) : ∀ (l : List α) (i : Nat), (0 ≤ firstAt q l i) ↔ l.any q = true
  | [], i => by simp [firstAt]
  | x :: l, i => by
    simp only [firstAt, List.any_cons]
    split
    · rename_i h; simp [h]
    · rename_i h; simp [h, firstAt_any q l (i + 1)]
theorem drop_at {α : Type} (l : List α) (d : α) {i : Nat} (h : i < l.length) : l.drop i = l.getD i d :: l.drop (i + 1) := by
  rw [List.drop_eq_getElem_cons h, getD_lt h]
end Go.Fv.U

/- slices.IndexFunc and ContainsFunc of integers. -/
namespace Go.Fv.U
open Go Go.Proofs
set_option linter.unusedSimpArgs false
set_option linter.unusedVariables false
set_option maxRecDepth 8000
set_option maxHeartbeats 1000000 in
theorem indexFuncI_ok (l : List Int) (f : Nat) (caps : List AV) [CapsOk caps] (q : Int → Bool) (hq : ∀ x : Int, x ∈ l → FnFr Tryz.prog f ([.int .i64 x] ++ caps) (.bool (q x)) []) :
    FnOk Tryz.prog 168 [.ro (.ints .i64 l), .fn f caps] (.int .i64 (firstAt q l 0)) [] := by
  refine FnOk.of_vc Tryz.func168 rfl (by decide) (by simp [Tryz.f168]) [.tmp 4] rfl fun w0 T0 _ => ?_
  simp only [Tryz.f168, argEnv]
  (repeat' first | with_reducible (first | intro _ | refine rc ?_ | refine rl ?_ | refine rh ?_ | refine rt ?_ | refine rf ?_ | refine rs ?_ | refine And.intro ?_ ?_) | omega | simp (maxSteps := 1000000) only [go_sem, simprocAttr, ↓reduceIte, List.length_map])
  refine VcLoop.intro (fun i : Nat => ⟨19, [(0, .ro (.ints .i64 l)), (1, .fn f caps), (7, .int .i64 l.length), (8, .int .i64 i)], [], 0⟩) (fun i => i ≤ l.length ∧ firstAt q (l.drop i) i = firstAt q l 0) (fun i => l.length - i) 0 ?_ ⟨Nat.zero_le _, rfl⟩ fun i hI => ?_
  · refine Ent.auto0 rfl ?_ ?_ <;> simp only [go_sem, reduceCtorEq, reduceIte, Nat.reduceEqDiff, Nat.reduceLT, Nat.reduceLeDiff, Int.natCast_succ]
  obtain ⟨hl, hI⟩ := hI
  by_cases hlt : i < l.length
  · have he := trivial
    have hd := drop_at l 0 hlt
    rw [hd, firstAt] at hI
    (repeat' first | with_reducible (first | intro _ | refine rc ?_ | refine rl ?_ | refine rh ?_ | refine rt ?_ | refine rf ?_ | refine rs ?_ | refine And.intro ?_ ?_) | omega | simp (maxSteps := 1000000) only [go_sem, simprocAttr, ↓reduceIte, List.length_map, true_and])
    refine VcCall.fr (args' := [.int .i64 (l.getD i 0)] ++ caps) (hq _ (by rw [getD_lt hlt]; exact List.getElem_mem hlt)) (by simp [argOkL, allOk, argOkN, allOk_caps]) 0 rfl (by simp [rowsB]) ?_
    (repeat' first | with_reducible (first | intro _ | refine rc ?_ | refine rl ?_ | refine rh ?_ | refine rt ?_ | refine rf ?_ | refine rs ?_ | refine And.intro ?_ ?_) | omega | simp (maxSteps := 1000000) only [go_sem, simprocAttr, ↓reduceIte])
    · rename_i h2
      rw [if_pos h2] at hI
      refine Ret.auto 0 ?_ rfl ?_ <;> simp only [go_sem, reduceCtorEq, reduceIte, Nat.reduceEqDiff, Nat.reduceLT, Nat.reduceLeDiff, Int.natCast_succ, Post]
      rw [← hI]
    · rename_i h2
      rw [if_neg (by rw [h2]; exact Bool.false_ne_true)] at hI
      refine ⟨i + 1, Ent.auto0 rfl ?_ ?_, ⟨by omega, hI⟩, by omega⟩ <;> simp only [go_sem, reduceCtorEq, reduceIte, Nat.reduceEqDiff, Nat.reduceLT, Nat.reduceLeDiff, Int.natCast_succ]
      all_goals rfl
  · have e : i = l.length := by omega
    subst e
    rw [List.drop_length] at hI
    (repeat' first | with_reducible (first | intro _ | refine rc ?_ | refine rl ?_ | refine rh ?_ | refine rt ?_ | refine rf ?_ | refine rs ?_ | refine And.intro ?_ ?_) | omega | simp (maxSteps := 1000000) only [go_sem, simprocAttr, ↓reduceIte, List.length_map])
    refine Ret.auto 0 ?_ rfl ?_ <;> simp only [go_sem, reduceCtorEq, reduceIte, Nat.reduceEqDiff, Nat.reduceLT, Nat.reduceLeDiff, Int.natCast_succ, Post]
    rw [← hI]; rfl

theorem contFuncI_ok (l : List Int) (f : Nat) (caps : List AV) [CapsOk caps] (q : Int → Bool) (hq : ∀ s : Int, s ∈ l → FnFr Tryz.prog f ([.int .i64 s] ++ caps) (.bool (q s)) []) :
    FnOk Tryz.prog 115 [.ro (.ints .i64 l), .fn f caps] (.bool (l.any q)) [] := by
  have k := indexFuncI_ok l f caps q hq
  have e : l.any q = decide (0 ≤ firstAt q l 0) := by rw [Bool.eq_iff_iff, decide_eq_true_eq, firstAt_any]
  rw [e]
  refine FnOk.of_vc Tryz.func115 rfl (by decide) (by simp [Tryz.f115]) [.tmp 4] rfl fun w0 T0 _ => ?_
  simp only [Tryz.f115, argEnv]
  (repeat' first | with_reducible (first | intro _ | refine rc ?_ | refine rl ?_ | refine rh ?_ | refine rt ?_ | refine rf ?_ | refine rs ?_ | refine And.intro ?_ ?_) | omega | simp (maxSteps := 1000000) only [go_sem, simprocAttr, ↓reduceIte])
  refine VcCall.fr (args' := [.ro (.ints .i64 l), .fn f caps]) (FnFr.of_ok k rfl rfl) (by simp [argOkL, allOk, argOkN, allOk_caps5]) 0 rfl (by simp [rowsB]) ?_
  (repeat' first | with_reducible (first | intro _ | refine rc ?_ | refine rl ?_ | refine rh ?_ | refine rt ?_ | refine rf ?_ | refine rs ?_ | refine And.intro ?_ ?_) | omega | simp (maxSteps := 1000000) only [go_sem, simprocAttr, ↓reduceIte])
  refine Ret.auto 0 ?_ rfl ?_ <;> simp only [go_sem, reduceCtorEq, reduceIte, Nat.reduceEqDiff, Nat.reduceLT, Nat.reduceLeDiff, Int.natCast_succ, Post]
end Go.Fv.U

/-! The reference's bounds of the ink of a page: the walk. -/
namespace Go.Fv.U
open Go Go.Proofs
set_option linter.unusedSimpArgs false
set_option linter.unusedVariables false
set_option linter.unnecessarySimpa false
set_option maxRecDepth 8000

def cutP (p : List Bool) (w : Nat) (b : Nb) : List Bool := rowsOf b.w (cutAt p w b.x b.y) (b.h * b.w)
instance (w h : Nat) (p : List Bool) (b : Nb) : CapsOk [.cell [.int .i64 w, .int .i64 h, .ro (.bools p)], .cell b.av] := ⟨by simp [Nb.av, lendB]⟩
end Go.Fv.U

/-! Blocks, lines and words of a page, as data. -/
namespace Go.Fv.U
open Go
set_option linter.unusedSimpArgs false
set_option linter.unusedVariables false

structure Ln where
  b : Nb
  base : Int
  ws : List Nb
def Ln.av (l : Ln) : List AV := [.int .i64 l.b.x, .int .i64 l.b.y, .int .i64 l.b.w, .int .i64 l.b.h, .int .i64 l.base, .ro (nbs l.ws)]
def Ln.zero : Ln := ⟨Nb.zero, 0, []⟩
abbrev lns (l : List Ln) : RowV := .objs 6 (l.map Ln.av)
instance : FNoId Ln.av := ⟨fun _ => rfl⟩
structure Bk where
  b : Nb
  ls : List Ln
def Bk.av (b : Bk) : List AV := [.int .i64 b.b.x, .int .i64 b.b.y, .int .i64 b.b.w, .int .i64 b.b.h, .ro (lns b.ls)]
def Bk.zero : Bk := ⟨Nb.zero, []⟩
abbrev bks (l : List Bk) : RowV := .objs 5 (l.map Bk.av)
instance : FNoId Bk.av := ⟨fun _ => rfl⟩
theorem ln_elem (l : List Ln) {i : Nat} (h : i < l.length) : (l.map Ln.av).getD i [] = [.int .i64 (l.getD i Ln.zero).b.x, .int .i64 (l.getD i Ln.zero).b.y, .int .i64 (l.getD i Ln.zero).b.w, .int .i64 (l.getD i Ln.zero).b.h, .int .i64 (l.getD i Ln.zero).base, .ro (nbs (l.getD i Ln.zero).ws)] := by
  rw [getD_lt (by simpa using h), getD_lt h, List.getElem_map]; rfl
theorem bk_elem (l : List Bk) {i : Nat} (h : i < l.length) : (l.map Bk.av).getD i [] = [.int .i64 (l.getD i Bk.zero).b.x, .int .i64 (l.getD i Bk.zero).b.y, .int .i64 (l.getD i Bk.zero).b.w, .int .i64 (l.getD i Bk.zero).b.h, .ro (lns (l.getD i Bk.zero).ls)] := by
  rw [getD_lt (by simpa using h), getD_lt h, List.getElem_map]; rfl
section
variable (p : List Bool) (w : Nat)
def lineGap (word : Nat) (l : Nb) : Nat := if word = 0 then (gapV (inkS p w l)).toNat else word
def lineWords (word : Nat) (l : Nb) : List Nb := (linesC p w l (lineGap p w word l)).map (wordBox p w l)
def layLn (word : Nat) (l : Nb) : Ln := ⟨l, lowOf (bots (cutP p w l) l.w l.h) + l.y, lineWords p w word l⟩
def blockLines (line : Nat) (b : Nb) : List Nb := (linesR p w b line).map (rowBox p w b)
def layBk (line word : Nat) (b : Nb) : Bk := ⟨b, (blockLines p w line b).map (layLn p w word)⟩
def layL (h gx gy line word : Nat) : List Bk := (cutL p w gx gy (w + h + 1) ⟨0, 0, w, h⟩).map (layBk p w line word)
/-- All words of a page. -/
def flatB (l : List Bk) : List Nb := l.flatMap fun b => b.ls.flatMap Ln.ws
theorem flat_lay (h gx gy line word : Nat) : flatB (layL p w h gx gy line word) = (cutL p w gx gy (w + h + 1) ⟨0, 0, w, h⟩).flatMap fun b => (blockLines p w line b).flatMap (lineWords p w word) := by
  unfold flatB layL
  rw [List.flatMap_map]
  congr 1
  funext b
  unfold layBk
  dsimp only
  rw [List.flatMap_map]
  rfl
theorem flat_cuts (h gx gy line word : Nat) : Cuts p w ⟨0, 0, w, h⟩ (flatB (layL p w h gx gy line word)) := by
  rw [flat_lay]
  refine Cuts.flat p w _ (cutL_spec p w gx gy (w + h + 1) ⟨0, 0, w, h⟩ (by dsimp only; omega)) fun b hb => ?_
  exact Cuts.flat p w _ (rows_cuts p w b line) fun l hl => words_cuts p w l _
end
end Go.Fv.U
