/-
  A part of the proof of the claim: walks over the program's functions and the plain laws that these need. No condition of its own.
-/
import Derived.Test.YtolhkphiifgblaaDoorFvPart9
import Derived.Test.YtolhkphiifgblaaDoorFvPart10
import Derived.Test.YtolhkphiifgblaaDoorProg
/- What is joined, in plain words: a search from each number that is not seen yet. -/
namespace Go.Fv.M
open Go
set_option linter.unusedSimpArgs false
set_option linter.unusedVariables false
set_option maxRecDepth 8000

/-- What is seen, and what was found, in order. -/
structure RS where
  seen : List Bool
  l : List Int
def RS.vis (ok : Nat → Bool) (s : RS) (i : Nat) : RS := if s.seen.getD i false = true ∨ ok i = false then s else ⟨s.seen.set i true, s.l ++ [(i : Int)]⟩
def bfs (f : RS → Int → RS) : Nat → Nat → RS → RS
  | 0, _, s => s
  | n + 1, k, s => if k < s.l.length then bfs f n (k + 1) (f s (s.l.getD k 0)) else s
def regs (ok : Nat → Bool) (f : RS → Int → RS) (n : Nat) : Nat → Nat → List Bool → List (List Int)
  | 0, _, _ => []
  | m + 1, i, seen => if seen.getD i false = true ∨ ok i = false then regs ok f n m (i + 1) seen else
    (bfs f n 0 ⟨seen.set i true, [(i : Int)]⟩).l :: regs ok f n m (i + 1) (bfs f n 0 ⟨seen.set i true, [(i : Int)]⟩).seen
def regsOf (ok : Nat → Bool) (f : RS → Int → RS) (n : Nat) : List (List Int) := regs ok f n n 0 (List.replicate n false)

theorem bfs_end (f : RS → Int → RS) (n k : Nat) (s : RS) (h : ¬ k < s.l.length) : bfs f n k s = s := by
  cases n with
  | zero => rfl
  | succ n => simp only [bfs]; rw [if_neg h]
theorem bfs_step (f : RS → Int → RS) {n k : Nat} {s : RS} (h : k < s.l.length) : bfs f (n + 1) k s = bfs f n (k + 1) (f s (s.l.getD k 0)) := by
  simp only [bfs]; rw [if_pos h]

/-! ### What holds of a region that grows -/
theorem count_set : ∀ {l : List Bool} {i : Nat}, i < l.length → l.getD i false = false → (l.set i true).count true = l.count true + 1
  | b :: l, 0, _, h => by
    have : b = false := h
    subst this
    simp
  | b :: l, i + 1, hi, h => by
    have ih := count_set (l := l) (i := i) (by simpa using hi) (by simpa using h)
    cases b <;> simp [ih]
structure RInv (ok : Nat → Bool) (n c0 : Nat) (s : RS) : Prop where
  len : s.seen.length = n
  cnt : s.seen.count true = c0 + s.l.length
  bd : ∀ x, x ∈ s.l → 0 ≤ x ∧ x < (n : Int)
  ink : ∀ j, s.seen.getD j false = true → ok j = true
  sn : ∀ x, x ∈ s.l → s.seen.getD x.toNat false = true
theorem getD_set_at {l : List Bool} {i : Nat} (hi : i < l.length) : (l.set i true).getD i false = true := by simp [List.getD_eq_getElem?_getD, hi]
theorem RInv.le {ok : Nat → Bool} {n c0 : Nat} {s : RS} (h : RInv ok n c0 s) : s.l.length ≤ n := by
  have h1 := h.cnt
  have h2 : s.seen.count true ≤ s.seen.length := List.count_le_length
  have h3 := h.len
  omega
theorem getD_set {l : List Bool} {i j : Nat} : (l.set i true).getD j false = true → l.getD j false = true ∨ j = i := by
  intro h
  by_cases e : i = j
  · exact .inr e.symm
  · rw [List.getD_eq_getElem?_getD, List.getElem?_set_ne e] at h
    exact .inl (by rw [List.getD_eq_getElem?_getD]; exact h)
theorem getD_set_mono {l : List Bool} {i j : Nat} (hi : i < l.length) : l.getD j false = true → (l.set i true).getD j false = true := by
  intro h
  by_cases e : i = j
  · subst e
    simp [List.getD_eq_getElem?_getD, hi]
  · rw [List.getD_eq_getElem?_getD, List.getElem?_set_ne e, ← List.getD_eq_getElem?_getD]; exact h
/-- How a region grows. -/
structure RLe (s s' : RS) : Prop where
  len : s.l.length ≤ s'.l.length
  pre : ∃ r, s'.l = s.l ++ r
  seen : ∀ j, s.seen.getD j false = true → s'.seen.getD j false = true
  new : ∀ x, x ∈ s'.l → x ∈ s.l ∨ s.seen.getD x.toNat false = false
theorem RLe.refl (s : RS) : RLe s s := ⟨Nat.le_refl _, ⟨[], (List.append_nil _).symm⟩, fun _ h => h, fun _ h => .inl h⟩
theorem RLe.trans {s s' s'' : RS} (h : RLe s s') (h' : RLe s' s'') : RLe s s'' := by
  refine ⟨Nat.le_trans h.len h'.len, ?_, fun j hj => h'.seen j (h.seen j hj), fun x hx => ?_⟩
  · obtain ⟨r, hr⟩ := h.pre
    obtain ⟨r', hr'⟩ := h'.pre
    exact ⟨r ++ r', by rw [hr', hr, List.append_assoc]⟩
  · rcases h'.new x hx with h1 | h1
    · exact h.new x h1
    · refine .inr ?_
      cases hq : s.seen.getD x.toNat false with
      | false => rfl
      | true => rw [h.seen _ hq] at h1; cases h1
theorem not_seen {a b : Bool} (h : ¬ (a = true ∨ b = false)) : a = false ∧ b = true := by
  cases a <;> cases b <;> simp at h ⊢
theorem RS.vis_inv {ok : Nat → Bool} {n c0 : Nat} {s : RS} (h : RInv ok n c0 s) {i : Nat} (hi : i < n) : RInv ok n c0 (s.vis ok i) ∧ RLe s (s.vis ok i) := by
  unfold RS.vis
  split
  · exact ⟨h, RLe.refl s⟩
  · rename_i hn
    obtain ⟨hs, hp⟩ := not_seen hn
    have hl : i < s.seen.length := by rw [h.len]; exact hi
    refine ⟨⟨by simp only [List.length_set]; exact h.len, ?_, fun x hx => ?_, fun j hj => ?_, fun x hx => ?_⟩, ⟨by simp, ⟨_, rfl⟩, fun j hj => getD_set_mono hl hj, fun x hx => ?_⟩⟩
    · simp only [count_set hl hs, List.length_append, List.length_cons, List.length_nil]
      have := h.cnt
      omega
    · rcases List.mem_append.1 hx with hx | hx
      · exact h.bd x hx
      · rw [List.mem_singleton.1 hx]; omega
    · rcases getD_set hj with hj | rfl
      · exact h.ink j hj
      · exact hp
    · rcases List.mem_append.1 hx with hx | hx
      · exact getD_set_mono hl (h.sn x hx)
      · rw [List.mem_singleton.1 hx, Int.toNat_natCast]; exact getD_set_at hl
    · rcases List.mem_append.1 hx with hx | hx
      · exact .inl hx
      · rw [List.mem_singleton.1 hx, Int.toNat_natCast]; exact .inr hs
theorem fold_inv {α β : Type} {P : α → Prop} {R : α → α → Prop} (hr : ∀ a, R a a) (ht : ∀ a b c, R a b → R b c → R a c) {f : α → β → α} : ∀ (l : List β) (s : α), P s → (∀ s x, P s → x ∈ l → P (f s x) ∧ R s (f s x)) → P (l.foldl f s) ∧ R s (l.foldl f s)
  | [], s, hs, _ => ⟨hs, hr s⟩
  | x :: l, s, hs, h => by
    obtain ⟨h1, h2⟩ := h s x hs (List.mem_cons_self)
    obtain ⟨h3, h4⟩ := fold_inv hr ht l (f s x) h1 fun s y hs hy => h s y hs (List.mem_cons_of_mem _ hy)
    exact ⟨h3, ht _ _ _ h2 h4⟩
/-- A step of the search. -/
def StepOk (ok : Nat → Bool) (n : Nat) (f : RS → Int → RS) : Prop := ∀ c0 s c, RInv ok n c0 s → 0 ≤ c → c < (n : Int) → RInv ok n c0 (f s c) ∧ RLe s (f s c)
theorem getD_mem {l : List Int} {k : Nat} (h : k < l.length) : l.getD k 0 ∈ l := by rw [getD_lt h]; exact List.getElem_mem h
theorem bfs_inv {ok : Nat → Bool} {n : Nat} {f : RS → Int → RS} (hf : StepOk ok n f) {c0 : Nat} : ∀ (m k : Nat) (s : RS), RInv ok n c0 s → RInv ok n c0 (bfs f m k s) ∧ RLe s (bfs f m k s)
  | 0, k, s, h => ⟨h, RLe.refl s⟩
  | m + 1, k, s, h => by
    simp only [bfs]
    split
    · rename_i hk
      obtain ⟨b1, b2⟩ := h.bd _ (getD_mem hk)
      obtain ⟨h1, h2⟩ := hf c0 s (s.l.getD k 0) h b1 b2
      obtain ⟨h3, h4⟩ := bfs_inv hf m (k + 1) _ h1
      exact ⟨h3, h2.trans h4⟩
    · exact ⟨h, RLe.refl s⟩
/-- What holds between the regions: before number i. -/
structure SInv (ok : Nat → Bool) (n i : Nat) (seen : List Bool) : Prop where
  len : seen.length = n
  ink : ∀ j, seen.getD j false = true → ok j = true
  all : ∀ j, j < i → ok j = true → seen.getD j false = true
theorem SInv.zero (ok : Nat → Bool) (n : Nat) : SInv ok n 0 (List.replicate n false) := by
  refine ⟨by simp, fun j hj => ?_, fun j hj => absurd hj (by omega)⟩
  rw [List.getD_eq_getElem?_getD, List.getElem?_replicate] at hj
  split at hj <;> cases hj
theorem SInv.skip {ok : Nat → Bool} {n i : Nat} {seen : List Bool} (h : SInv ok n i seen) (hn : seen.getD i false = true ∨ ok i = false) : SInv ok n (i + 1) seen := by
  refine ⟨h.len, h.ink, fun j hj hp => ?_⟩
  by_cases e : j = i
  · subst e
    rcases hn with hn | hn
    · exact hn
    · rw [hp] at hn; cases hn
  · exact h.all j (by omega) hp
theorem SInv.start {ok : Nat → Bool} {n i : Nat} {seen : List Bool} (h : SInv ok n i seen) (hi : i < n) (hn : ¬ (seen.getD i false = true ∨ ok i = false)) :
    RInv ok n (seen.count true) ⟨seen.set i true, [(i : Int)]⟩ := by
  obtain ⟨hs, hp⟩ := not_seen hn
  have hl := h.len
  refine ⟨by simp only [List.length_set]; exact hl, ?_, fun x hx => ?_, fun j hj => ?_, fun x hx => ?_⟩
  · simp only [count_set (show i < seen.length by omega) hs, List.length_cons, List.length_nil]
  · rw [List.mem_singleton.1 hx]; omega
  · rcases getD_set hj with hj | rfl
    · exact h.ink j hj
    · exact hp
  · rw [List.mem_singleton.1 hx, Int.toNat_natCast]; exact getD_set_at (by omega)
/-- What a region is: numbers from the first one on. -/
structure RegOk (n i : Nat) (l : List Int) : Prop where
  bd : ∀ x, x ∈ l → (i : Int) ≤ x ∧ x < (n : Int)
  hd : ∃ t, l = (i : Int) :: t
  le : l.length ≤ n
theorem SInv.region {ok : Nat → Bool} {n : Nat} {f : RS → Int → RS} (hf : StepOk ok n f) {i : Nat} {seen : List Bool} (h : SInv ok n i seen) (hi : i < n) (hn : ¬ (seen.getD i false = true ∨ ok i = false)) (m : Nat) :
    SInv ok n (i + 1) (bfs f m 0 ⟨seen.set i true, [(i : Int)]⟩).seen ∧ RegOk n i (bfs f m 0 ⟨seen.set i true, [(i : Int)]⟩).l ∧
    (bfs f m 0 ⟨seen.set i true, [(i : Int)]⟩).seen.count true = seen.count true + (bfs f m 0 ⟨seen.set i true, [(i : Int)]⟩).l.length := by
  obtain ⟨h1, h2⟩ := bfs_inv hf m 0 _ (h.start hi hn)
  have hlt : i < seen.length := by rw [h.len]; exact hi
  refine ⟨⟨h1.len, h1.ink, fun j hj hq => ?_⟩, ⟨fun x hx => ⟨?_, (h1.bd x hx).2⟩, ?_, h1.le⟩, h1.cnt⟩
  · refine h2.seen j ?_
    by_cases e : j = i
    · subst e; exact getD_set_at hlt
    · exact getD_set_mono hlt (h.all j (by omega) hq)
  · have hb := h1.bd x hx
    rcases h2.new x hx with hx' | hx'
    · rw [List.mem_singleton.1 hx']; omega
    · refine Classical.byContradiction fun hlt' => ?_
      have hj : x.toNat < i := by omega
      have hq : ok x.toNat = true := h1.ink _ (h1.sn x hx)
      rw [getD_set_mono hlt (h.all _ hj hq)] at hx'
      cases hx'
  · obtain ⟨r, hr⟩ := h2.pre
    exact ⟨r, hr⟩

/-! ### All regions -/
def sumLen (R : List (List Int)) : Nat := (R.map List.length).sum
theorem sumLen_app (A B : List (List Int)) : sumLen (A ++ B) = sumLen A + sumLen B := by simp [sumLen]
theorem regs_len (ok : Nat → Bool) (f : RS → Int → RS) (n : Nat) : ∀ (m i : Nat) (seen : List Bool), (regs ok f n m i seen).length ≤ m
  | 0, i, seen => Nat.le_refl _
  | m + 1, i, seen => by
    simp only [regs]
    split
    · exact Nat.le_succ_of_le (regs_len ok f n m (i + 1) seen)
    · simp only [List.length_cons]
      exact Nat.succ_le_succ (regs_len ok f n m (i + 1) _)
theorem regsOf_len (ok : Nat → Bool) (f : RS → Int → RS) (n : Nat) : (regsOf ok f n).length ≤ n := regs_len ok f n _ _ _
end Go.Fv.M

/- Boxes, and the boxes of pixels, in plain words. -/
namespace Go.Fv.M
open Go
set_option linter.unusedSimpArgs false
set_option linter.unusedVariables false
set_option maxRecDepth 8000

structure Bx where
  x : Int
  y : Int
  w : Int
  h : Int
def Bx.av (b : Bx) : List AV := [.int .i64 b.x, .int .i64 b.y, .int .i64 b.w, .int .i64 b.h]
def Bx.zero : Bx := ⟨0, 0, 0, 0⟩
abbrev bxs (l : List Bx) : RowV := .objs 4 (l.map Bx.av)
instance : FNoId Bx.av := ⟨fun _ => rfl⟩
theorem bx_elem (l : List Bx) {i : Nat} (h : i < l.length) : (l.map Bx.av).getD i [] = [.int .i64 (l.getD i Bx.zero).x, .int .i64 (l.getD i Bx.zero).y, .int .i64 (l.getD i Bx.zero).w, .int .i64 (l.getD i Bx.zero).h] := by
  simp [List.getD_eq_getElem?_getD, h, Bx.av]
def mnF {α : Type} (f : α → Int) (a : Int) (l : List α) : Int := l.foldl (fun m i => min m (f i)) a
theorem le_mnF {α : Type} (f : α → Int) : ∀ (l : List α) (a m : Int), m ≤ mnF f a l ↔ m ≤ a ∧ ∀ i, i ∈ l → m ≤ f i
  | [], a, m => by simp [mnF]
  | x :: l, a, m => by
    have ih := le_mnF f l (min a (f x)) m
    show m ≤ mnF f (min a (f x)) l ↔ _
    rw [ih]
    constructor
    · rintro ⟨h1, h2⟩
      refine ⟨by omega, fun i hi => ?_⟩
      rcases List.mem_cons.1 hi with rfl | hi
      · omega
      · exact h2 i hi
    · rintro ⟨h1, h2⟩
      have := h2 x (List.mem_cons_self)
      exact ⟨by omega, fun i hi => h2 i (List.mem_cons_of_mem _ hi)⟩
theorem eq_lo {a b : Int} (h : ∀ m, m ≤ a ↔ m ≤ b) : a = b := by
  have h1 := (h a).1 (Int.le_refl _)
  have h2 := (h b).2 (Int.le_refl _)
  omega
theorem mnF_snoc {α : Type} (f : α → Int) (a : Int) (l : List α) (x : α) : mnF f a (l ++ [x]) = min (mnF f a l) (f x) := by simp [mnF]
theorem sortI_len (l : List Int) : (sortI l).length = l.length := (List.mergeSort_perm l _).length_eq
end Go.Fv.M

/- Boxes that are close, in plain words. -/
namespace Go.Fv.M
open Go
set_option linter.unusedSimpArgs false
set_option linter.unusedVariables false
set_option maxRecDepth 8000

def boxErr (b : Bx) : Int := if (-1048576 ≤ b.x ∧ b.x ≤ 1048576) ∧ (-1048576 ≤ b.y ∧ b.y ≤ 1048576) ∧ (1 ≤ b.w ∧ b.w ≤ 1048576) ∧ (1 ≤ b.h ∧ b.h ≤ 1048576) then 0 else 3
def BxOk (b : Bx) : Prop := (-1048576 ≤ b.x ∧ b.x ≤ 1048576) ∧ (-1048576 ≤ b.y ∧ b.y ≤ 1048576) ∧ (1 ≤ b.w ∧ b.w ≤ 1048576) ∧ (1 ≤ b.h ∧ b.h ≤ 1048576)
theorem boxErr_zero {b : Bx} : boxErr b = 0 ↔ BxOk b := by
  unfold boxErr BxOk
  split
  · rename_i h; exact ⟨fun _ => h, fun _ => rfl⟩
  · rename_i h; exact ⟨fun e => absurd e (by decide), fun e => absurd e h⟩
theorem boxErr_cases (b : Bx) : boxErr b = 0 ∨ boxErr b = 3 := by unfold boxErr; split <;> simp
def firstBad : List Bx → Int
  | [] => 0
  | b :: l => if boxErr b = 0 then firstBad l else boxErr b
theorem firstBad_zero : ∀ {l : List Bx}, firstBad l = 0 ↔ ∀ b, b ∈ l → BxOk b
  | [] => by simp [firstBad]
  | b :: l => by
    simp only [firstBad, List.mem_cons, forall_eq_or_imp]
    split
    · rename_i h
      rw [firstBad_zero (l := l)]
      exact ⟨fun q => ⟨boxErr_zero.1 h, q⟩, fun q => q.2⟩
    · rename_i h
      exact ⟨fun q => absurd q h, fun q => absurd (boxErr_zero.2 q.1) h⟩
theorem firstBad_cases : ∀ l : List Bx, firstBad l = 0 ∨ firstBad l = 3
  | [] => .inl rfl
  | b :: l => by
    simp only [firstBad]
    split
    · exact firstBad_cases l
    · exact boxErr_cases b
def nx (a b : Bx) : Int := max (max a.x b.x - min (a.x + a.w) (b.x + b.w)) 0
def ny (a b : Bx) : Int := max (max a.y b.y - min (a.y + a.h) (b.y + b.h)) 0
def allB (_ : Nat) : Bool := true
def grpAt (l : List Bx) (dx dy : Int) (c : Int) (s : RS) (j : Nat) : RS := if nx (l.getD c.toNat Bx.zero) (l.getD j Bx.zero) ≤ dx ∧ ny (l.getD c.toNat Bx.zero) (l.getD j Bx.zero) ≤ dy then s.vis allB j else s
def grpStep (l : List Bx) (dx dy : Int) (s : RS) (c : Int) : RS := (List.range l.length).foldl (grpAt l dx dy c) s
theorem grpAt_inv {l : List Bx} {dx dy c : Int} {c0 : Nat} {s : RS} (h : RInv allB l.length c0 s) {j : Nat} (hj : j < l.length) : RInv allB l.length c0 (grpAt l dx dy c s j) ∧ RLe s (grpAt l dx dy c s j) := by
  unfold grpAt
  split
  · exact RS.vis_inv h hj
  · exact ⟨h, RLe.refl s⟩
theorem grpStep_ok (l : List Bx) (dx dy : Int) : StepOk allB l.length (grpStep l dx dy) := fun c0 s c h _ _ =>
  fold_inv (P := RInv allB l.length c0) (R := RLe) RLe.refl (fun _ _ _ h h' => h.trans h') _ s h fun s j hs hm => grpAt_inv hs (List.mem_range.1 hm)
def groupsOf (l : List Bx) (dx dy : Int) : List (List Int) := regsOf allB (grpStep l dx dy) l.length
theorem groups_len (l : List Bx) (dx dy : Int) : (groupsOf l dx dy).length ≤ l.length := regsOf_len _ _ _
theorem range_drop {n j : Nat} (h : j < n) : (List.range n).drop j = j :: (List.range n).drop (j + 1) := by
  rw [List.drop_eq_getElem_cons (by simpa using h)]
  simp
theorem range_drop_end {n : Nat} : (List.range n).drop n = [] := by simp
end Go.Fv.M

/- Paragraphs, in plain words. -/
namespace Go.Fv.M
open Go
set_option linter.unusedSimpArgs false
set_option linter.unusedVariables false
set_option maxRecDepth 8000

def leftB (l : List Bx) : Int := mnF Bx.x 1048576 l
theorem leftB_eq {l : List Bx} (hok : ∀ b, b ∈ l → BxOk b) {i : Nat} (hi : i < l.length) : mnF Bx.x (l.getD i Bx.zero).x l = leftB l := by
  have hm : l.getD i Bx.zero ∈ l := by rw [getD_lt hi]; exact List.getElem_mem hi
  refine eq_lo fun m => ?_
  unfold leftB
  rw [le_mnF, le_mnF]
  constructor
  · rintro ⟨h1, h2⟩
    have := hok _ hm
    unfold BxOk at this
    exact ⟨by omega, h2⟩
  · rintro ⟨h1, h2⟩
    exact ⟨h2 _ hm, h2⟩
theorem leftB_bd {l : List Bx} (hok : ∀ b, b ∈ l → BxOk b) (k : Nat) : -1048576 ≤ leftB (l.take k) ∧ leftB (l.take k) ≤ 1048576 := by
  unfold leftB
  have h := le_mnF Bx.x (l.take k) 1048576
  refine ⟨(h _).2 ⟨by omega, fun b hb => ?_⟩, ((h _).1 (Int.le_refl _)).1⟩
  have := hok b (List.mem_of_mem_take hb)
  unfold BxOk at this
  omega
structure PSt where
  F : List (List Int)
  cur : Option (List Int)
def PSt.all (s : PSt) : List (List Int) := s.F ++ s.cur.toList
def newP (l : List Bx) (ind gap : Int) (i : Nat) : Prop := i = 0 ∨ ind ≤ (l.getD i Bx.zero).x - leftB l ∨ gap < (l.getD i Bx.zero).y - ((l.getD (i - 1) Bx.zero).y + (l.getD (i - 1) Bx.zero).h)
instance (l : List Bx) (ind gap : Int) (i : Nat) : Decidable (newP l ind gap i) := by unfold newP; infer_instance
def paN (l : List Bx) (ind gap : Int) : Nat → PSt
  | 0 => ⟨[], none⟩
  | i + 1 => if newP l ind gap i then ⟨(paN l ind gap i).all, some [(i : Int)]⟩ else ⟨(paN l ind gap i).F, some ((paN l ind gap i).cur.getD [] ++ [(i : Int)])⟩
theorem paN_cur (l : List Bx) (ind gap : Int) {i : Nat} (h : 0 < i) : ∃ c, (paN l ind gap i).cur = some c := by
  cases i with
  | zero => omega
  | succ i =>
    simp only [paN]
    split
    · exact ⟨_, rfl⟩
    · exact ⟨_, rfl⟩
theorem sum1 (c : List Int) : sumLen [c] = c.length := by simp [sumLen]
theorem paN_sum (l : List Bx) (ind gap : Int) : ∀ i, sumLen (paN l ind gap i).all = i
  | 0 => rfl
  | i + 1 => by
    have ih := paN_sum l ind gap i
    have hc := fun h => paN_cur l ind gap (i := i) h
    simp only [paN]
    generalize paN l ind gap i = s at *
    obtain ⟨F, cur⟩ := s
    split
    · show sumLen (PSt.all ⟨F, cur⟩ ++ [[(i : Int)]]) = _
      rw [sumLen_app, ih, sum1]; rfl
    · rename_i hn
      have h0 : 0 < i := by
        rcases Nat.eq_zero_or_pos i with h | h
        · exact absurd (Or.inl h) hn
        · exact h
      obtain ⟨c, rfl⟩ := hc h0
      show sumLen (F ++ [c ++ [(i : Int)]]) = _
      have h1 : sumLen (F ++ [c]) = i := ih
      rw [sumLen_app, sum1] at h1 ⊢
      rw [List.length_append]
      simp only [List.length_cons, List.length_nil]
      omega
theorem paN_len (l : List Bx) (ind gap : Int) : ∀ i, (paN l ind gap i).all.length ≤ i ∧ (paN l ind gap i).F.length ≤ i ∧ ((paN l ind gap i).cur.getD []).length ≤ i
  | 0 => ⟨Nat.le_refl _, Nat.le_refl _, Nat.le_refl _⟩
  | i + 1 => by
    obtain ⟨h1, h2, h3⟩ := paN_len l ind gap i
    have hc := fun h => paN_cur l ind gap (i := i) h
    simp only [paN]
    generalize paN l ind gap i = s at *
    obtain ⟨F, cur⟩ := s
    split
    · refine ⟨?_, Nat.le_succ_of_le h1, by simp⟩
      show (PSt.all ⟨F, cur⟩ ++ [[(i : Int)]]).length ≤ _
      rw [List.length_append]
      simp only [List.length_cons, List.length_nil]
      omega
    · rename_i hn
      have h0 : 0 < i := by
        rcases Nat.eq_zero_or_pos i with h | h
        · exact absurd (Or.inl h) hn
        · exact h
      obtain ⟨c, rfl⟩ := hc h0
      refine ⟨?_, Nat.le_succ_of_le h2, ?_⟩
      · show (F ++ [c ++ [(i : Int)]]).length ≤ _
        have : (F ++ [c]).length ≤ i := h1
        simp only [List.length_append, List.length_cons, List.length_nil] at this ⊢
        omega
      · show (c ++ [(i : Int)]).length ≤ _
        have : c.length ≤ i := h3
        simp only [List.length_append, List.length_cons, List.length_nil]
        omega
theorem sumLen_take {P : List (List Int)} {k : Nat} (h : k < P.length) : sumLen (P.take (k + 1)) = sumLen (P.take k) + (P.getD k []).length := by
  rw [List.take_succ_eq_append_getElem h, getD_lt h, sumLen_app, sum1]
theorem sumLen_le (P : List (List Int)) (k : Nat) : sumLen (P.take k) ≤ sumLen P := by
  have : sumLen P = sumLen (P.take k) + sumLen (P.drop k) := by rw [← sumLen_app, List.take_append_drop]
  omega
end Go.Fv.M

/- Facts about the program's types: each shown by reckoning it out. -/
namespace Go.Fv.M
open Go Go.Proofs
theorem e1 : ElemZ Tryd.prog 1 (.nilFunc) := .of (by kernel_rfl) (by kernel_rfl)
theorem e2 : ElemZ Tryd.prog 2 (.int .i64 0) := .of (by kernel_rfl) (by kernel_rfl)
theorem e3 : ElemZ Tryd.prog 3 (.int .i64 0) := .of (by kernel_rfl) (by kernel_rfl)
theorem z3 : zeroOf Tryd.prog 3 = some (.int .i64 0) := e3.zero
theorem c3 : Tryd.prog.cellsOf 3 = 1 := e3.cellsOf
theorem e4 : ElemZ Tryd.prog 4 (.bool false) := .of (by kernel_rfl) (by kernel_rfl)
theorem z4 : zeroOf Tryd.prog 4 = some (.bool false) := e4.zero
theorem c4 : Tryd.prog.cellsOf 4 = 1 := e4.cellsOf
theorem e5 : ElemZ Tryd.prog 5 (.int .u8 0) := .of (by kernel_rfl) (by kernel_rfl)
theorem z5 : zeroOf Tryd.prog 5 = some (.int .u8 0) := e5.zero
theorem e6 : ElemZ Tryd.prog 6 (.int .u8 0) := .of (by kernel_rfl) (by kernel_rfl)
theorem e9 : ElemZ Tryd.prog 9 (.string ⟨#[]⟩) := .of (by kernel_rfl) (by kernel_rfl)
theorem z9 : zeroOf Tryd.prog 9 = some (.string ⟨#[]⟩) := e9.zero
theorem e11 : ElemZ Tryd.prog 11 (.string ⟨#[]⟩) := .of (by kernel_rfl) (by kernel_rfl)
theorem e12 : ElemZ Tryd.prog 12 (.int .u64 0) := .of (by kernel_rfl) (by kernel_rfl)
theorem e17 : ElemZ Tryd.prog 17 (.pointer none) := .of (by kernel_rfl) (by kernel_rfl)
theorem e22 : ElemZ Tryd.prog 22 (.slice none 0 0) := .of (by kernel_rfl) (by kernel_rfl)
theorem z22 : zeroOf Tryd.prog 22 = some (.slice none 0 0) := e22.zero
theorem e23 : ElemZ Tryd.prog 23 (.agg #[.int .i64 0, .int .i64 0, .slice none 0 0]) := .of (by kernel_rfl) (by kernel_rfl)
theorem z23 : zeroOf Tryd.prog 23 = some (.agg #[.int .i64 0, .int .i64 0, .slice none 0 0]) := e23.zero
theorem e25 : ElemZ Tryd.prog 25 (.nilFunc) := .of (by kernel_rfl) (by kernel_rfl)
theorem z25 : zeroOf Tryd.prog 25 = some (.nilFunc) := e25.zero
theorem e32 : ElemZ Tryd.prog 32 (.agg #[.int .i64 0, .int .i64 0, .int .i64 0, .int .i64 0]) := .of (by kernel_rfl) (by kernel_rfl)
theorem z32 : zeroOf Tryd.prog 32 = some (.agg #[.int .i64 0, .int .i64 0, .int .i64 0, .int .i64 0]) := e32.zero
theorem c32 : Tryd.prog.cellsOf 32 = 4 := e32.cellsOf
theorem e34 : ElemZ Tryd.prog 34 (.agg #[.int .i64 0, .int .i64 0]) := .of (by kernel_rfl) (by kernel_rfl)
theorem e35 : ElemZ Tryd.prog 35 (.agg #[.int .i64 0, .int .i64 0, .int .i64 0, .int .i64 0, .int .i64 0, .int .i64 0, .int .i64 0]) := .of (by kernel_rfl) (by kernel_rfl)
theorem z35 : zeroOf Tryd.prog 35 = some (.agg #[.int .i64 0, .int .i64 0, .int .i64 0, .int .i64 0, .int .i64 0, .int .i64 0, .int .i64 0]) := e35.zero
theorem e36 : ElemZ Tryd.prog 36 (.agg #[.int .i64 0, .int .i64 0, .int .i64 0, .int .i64 0, .int .i64 0, .int .i64 0, .int .i64 0]) := .of (by kernel_rfl) (by kernel_rfl)
theorem z36 : zeroOf Tryd.prog 36 = some (.agg #[.int .i64 0, .int .i64 0, .int .i64 0, .int .i64 0, .int .i64 0, .int .i64 0, .int .i64 0]) := e36.zero
theorem e41 : ElemZ Tryd.prog 41 (.slice none 0 0) := .of (by kernel_rfl) (by kernel_rfl)
theorem z41 : zeroOf Tryd.prog 41 = some (.slice none 0 0) := e41.zero
theorem e46 : ElemZ Tryd.prog 46 (.slice none 0 0) := .of (by kernel_rfl) (by kernel_rfl)
theorem z46 : zeroOf Tryd.prog 46 = some (.slice none 0 0) := e46.zero
theorem e53 : ElemZ Tryd.prog 53 (.slice none 0 0) := .of (by kernel_rfl) (by kernel_rfl)
theorem z53 : zeroOf Tryd.prog 53 = some (.slice none 0 0) := e53.zero
theorem c53 : Tryd.prog.cellsOf 53 = 1 := e53.cellsOf
theorem e57 : ElemZ Tryd.prog 57 (.slice none 0 0) := .of (by kernel_rfl) (by kernel_rfl)
theorem z57 : zeroOf Tryd.prog 57 = some (.slice none 0 0) := e57.zero
theorem e63 : ElemZ Tryd.prog 63 (.nilFunc) := .of (by kernel_rfl) (by kernel_rfl)
theorem z63 : zeroOf Tryd.prog 63 = some (.nilFunc) := e63.zero
theorem e64 : ElemZ Tryd.prog 64 (.nilFunc) := .of (by kernel_rfl) (by kernel_rfl)
theorem z64 : zeroOf Tryd.prog 64 = some (.nilFunc) := e64.zero
theorem f7 : fieldsOkT Tryd.prog 7 := by
  intro d hd; rw [Tryd.underlying7] at hd; cases hd
  intro f hf; simp only [List.mem_cons, List.not_mem_nil, or_false] at hf
  rcases hf with rfl | rfl | rfl | rfl
  · obtain ⟨i, h, _⟩ := e2.ex; exact ⟨i, h⟩
  · obtain ⟨i, h, _⟩ := e3.ex; exact ⟨i, h⟩
  · obtain ⟨i, h, _⟩ := e4.ex; exact ⟨i, h⟩
  · obtain ⟨i, h, _⟩ := e6.ex; exact ⟨i, h⟩
theorem f8 : fieldsOkT Tryd.prog 8 := by
  intro d hd; rw [Tryd.underlying8] at hd; cases hd
  intro f hf; simp only [List.mem_cons, List.not_mem_nil, or_false] at hf
  rcases hf with rfl | rfl | rfl | rfl
  · obtain ⟨i, h, _⟩ := e2.ex; exact ⟨i, h⟩
  · obtain ⟨i, h, _⟩ := e3.ex; exact ⟨i, h⟩
  · obtain ⟨i, h, _⟩ := e4.ex; exact ⟨i, h⟩
  · obtain ⟨i, h, _⟩ := e6.ex; exact ⟨i, h⟩
theorem f13 : fieldsOkT Tryd.prog 13 := by
  intro d hd; rw [Tryd.underlying13] at hd; cases hd
  intro f hf; simp only [List.mem_cons, List.not_mem_nil, or_false] at hf
  rcases hf with rfl | rfl
  · obtain ⟨i, h, _⟩ := e9.ex; exact ⟨i, h⟩
  · obtain ⟨i, h, _⟩ := e12.ex; exact ⟨i, h⟩
theorem f14 : fieldsOkT Tryd.prog 14 := by
  intro d hd; rw [Tryd.underlying14] at hd; cases hd
  intro f hf; simp only [List.mem_cons, List.not_mem_nil, or_false] at hf
  rcases hf with rfl | rfl
  · obtain ⟨i, h, _⟩ := e9.ex; exact ⟨i, h⟩
  · obtain ⟨i, h, _⟩ := e12.ex; exact ⟨i, h⟩
theorem f18 : fieldsOkT Tryd.prog 18 := by
  intro d hd; rw [Tryd.underlying18] at hd; cases hd
  intro f hf; simp only [List.mem_cons, List.not_mem_nil, or_false] at hf
  rcases hf with rfl
  · obtain ⟨i, h, _⟩ := e17.ex; exact ⟨i, h⟩
theorem f19 : fieldsOkT Tryd.prog 19 := by
  intro d hd; rw [Tryd.underlying19] at hd; cases hd
  intro f hf; simp only [List.mem_cons, List.not_mem_nil, or_false] at hf
  rcases hf with rfl
  · obtain ⟨i, h, _⟩ := e17.ex; exact ⟨i, h⟩
theorem f24 : fieldsOkT Tryd.prog 24 := by
  intro d hd; rw [Tryd.underlying24] at hd; cases hd
  intro f hf; simp only [List.mem_cons, List.not_mem_nil, or_false] at hf
  rcases hf with rfl | rfl | rfl
  · obtain ⟨i, h, _⟩ := e3.ex; exact ⟨i, h⟩
  · obtain ⟨i, h, _⟩ := e3.ex; exact ⟨i, h⟩
  · obtain ⟨i, h, _⟩ := e22.ex; exact ⟨i, h⟩
theorem f31 : fieldsOkT Tryd.prog 31 := by
  intro d hd; rw [Tryd.underlying31] at hd; cases hd
  intro f hf; simp only [List.mem_cons, List.not_mem_nil, or_false] at hf
  rcases hf with rfl | rfl | rfl | rfl
  · obtain ⟨i, h, _⟩ := e3.ex; exact ⟨i, h⟩
  · obtain ⟨i, h, _⟩ := e3.ex; exact ⟨i, h⟩
  · obtain ⟨i, h, _⟩ := e3.ex; exact ⟨i, h⟩
  · obtain ⟨i, h, _⟩ := e3.ex; exact ⟨i, h⟩
theorem f32 : fieldsOkT Tryd.prog 32 := by
  intro d hd; rw [Tryd.underlying32] at hd; cases hd
  intro f hf; simp only [List.mem_cons, List.not_mem_nil, or_false] at hf
  rcases hf with rfl | rfl | rfl | rfl
  · obtain ⟨i, h, _⟩ := e3.ex; exact ⟨i, h⟩
  · obtain ⟨i, h, _⟩ := e3.ex; exact ⟨i, h⟩
  · obtain ⟨i, h, _⟩ := e3.ex; exact ⟨i, h⟩
  · obtain ⟨i, h, _⟩ := e3.ex; exact ⟨i, h⟩
theorem f33 : fieldsOkT Tryd.prog 33 := by
  intro d hd; rw [Tryd.underlying33] at hd; cases hd
  intro f hf; simp only [List.mem_cons, List.not_mem_nil, or_false] at hf
  rcases hf with rfl | rfl
  · obtain ⟨i, h, _⟩ := e3.ex; exact ⟨i, h⟩
  · obtain ⟨i, h, _⟩ := e3.ex; exact ⟨i, h⟩
theorem f34 : fieldsOkT Tryd.prog 34 := by
  intro d hd; rw [Tryd.underlying34] at hd; cases hd
  intro f hf; simp only [List.mem_cons, List.not_mem_nil, or_false] at hf
  rcases hf with rfl | rfl
  · obtain ⟨i, h, _⟩ := e3.ex; exact ⟨i, h⟩
  · obtain ⟨i, h, _⟩ := e3.ex; exact ⟨i, h⟩
theorem f35 : fieldsOkT Tryd.prog 35 := by
  intro d hd; rw [Tryd.underlying35] at hd; cases hd
  intro f hf; simp only [List.mem_cons, List.not_mem_nil, or_false] at hf
  rcases hf with rfl | rfl | rfl
  · obtain ⟨i, h, _⟩ := e32.ex; exact ⟨i, h⟩
  · obtain ⟨i, h, _⟩ := e3.ex; exact ⟨i, h⟩
  · obtain ⟨i, h, _⟩ := e34.ex; exact ⟨i, h⟩
theorem f59 : fieldsOkT Tryd.prog 59 := by
  intro d hd; rw [Tryd.underlying59] at hd; cases hd
  intro f hf; simp only [List.mem_cons, List.not_mem_nil, or_false] at hf
  rcases hf with rfl | rfl | rfl
  · obtain ⟨i, h, _⟩ := e3.ex; exact ⟨i, h⟩
  · obtain ⟨i, h, _⟩ := e3.ex; exact ⟨i, h⟩
  · obtain ⟨i, h, _⟩ := e57.ex; exact ⟨i, h⟩
theorem f106 : fieldsOkT Tryd.prog 106 := by
  intro d hd; rw [Tryd.underlying106] at hd; cases hd
  obtain ⟨i, h, _⟩ := e3.ex; exact ⟨i, h⟩
theorem k1 {K : Prop} : Chk (ElemZ Tryd.prog 1 (.nilFunc)) K = K := Chk_of e1
theorem k2 {K : Prop} : Chk (ElemZ Tryd.prog 2 (.int .i64 0)) K = K := Chk_of e2
theorem k3 {K : Prop} : Chk (ElemZ Tryd.prog 3 (.int .i64 0)) K = K := Chk_of e3
theorem ke3 : (ElemZ Tryd.prog 3 (.int .i64 0)) = True := eq_true e3
theorem k4 {K : Prop} : Chk (ElemZ Tryd.prog 4 (.bool false)) K = K := Chk_of e4
theorem ke4 : (ElemZ Tryd.prog 4 (.bool false)) = True := eq_true e4
theorem ke53 : (ElemZ Tryd.prog 53 (.slice none 0 0)) = True := eq_true e53
attribute [go_sem] Tryd.underlying0 Tryd.underlying1 Tryd.underlying2 Tryd.underlying3 Tryd.underlying4 Tryd.underlying5
attribute [go_sem] Tryd.underlying6 Tryd.underlying7 Tryd.underlying8 Tryd.underlying9 Tryd.underlying10 Tryd.underlying11 Tryd.underlying12 Tryd.underlying13 Tryd.underlying14 Tryd.underlying15 Tryd.underlying16 Tryd.underlying17
attribute [go_sem] Tryd.underlying18 Tryd.underlying19 Tryd.underlying20 Tryd.underlying21 Tryd.underlying22 Tryd.underlying23 Tryd.underlying24 Tryd.underlying25 Tryd.underlying26 Tryd.underlying27 Tryd.underlying28 Tryd.underlying29
attribute [go_sem] Tryd.underlying30 Tryd.underlying31 Tryd.underlying32 Tryd.underlying33 Tryd.underlying34 Tryd.underlying35 Tryd.underlying36 Tryd.underlying37 Tryd.underlying38 Tryd.underlying39 Tryd.underlying40 Tryd.underlying41
attribute [go_sem] Tryd.underlying42 Tryd.underlying43 Tryd.underlying44 Tryd.underlying45 Tryd.underlying46 Tryd.underlying47 Tryd.underlying48 Tryd.underlying49 Tryd.underlying50 Tryd.underlying51 Tryd.underlying52 Tryd.underlying53
attribute [go_sem] Tryd.underlying54 Tryd.underlying55 Tryd.underlying56 Tryd.underlying57 Tryd.underlying58 Tryd.underlying59 Tryd.underlying60 Tryd.underlying61 Tryd.underlying62 Tryd.underlying63 Tryd.underlying64 Tryd.underlying65
attribute [go_sem] Tryd.underlying66 Tryd.underlying67 Tryd.underlying68 Tryd.underlying69 Tryd.underlying70 Tryd.underlying71 Tryd.underlying72 Tryd.underlying73 Tryd.underlying74 Tryd.underlying75 Tryd.underlying76 Tryd.underlying77
attribute [go_sem] Tryd.underlying78 Tryd.underlying79 Tryd.underlying80 Tryd.underlying81 Tryd.underlying82 Tryd.underlying83 Tryd.underlying84 Tryd.underlying85 Tryd.underlying86 Tryd.underlying87 Tryd.underlying88 Tryd.underlying89
attribute [go_sem] Tryd.underlying90 Tryd.underlying91 Tryd.underlying92 Tryd.underlying93 Tryd.underlying94 Tryd.underlying95 Tryd.underlying96 Tryd.underlying97 Tryd.underlying98 Tryd.underlying99 Tryd.underlying100 Tryd.underlying101
attribute [go_sem] Tryd.underlying102 Tryd.underlying103 Tryd.underlying104 Tryd.underlying105 Tryd.underlying106 Tryd.underlying107 Tryd.underlying108 Tryd.underlying109 Tryd.underlying110 Tryd.underlying111 Tryd.underlying112 Tryd.underlying113
attribute [go_sem] Tryd.underlying114 Tryd.underlying115 Tryd.underlying116 Tryd.underlying117 Tryd.underlying118 Tryd.underlying119 Tryd.underlying120 Tryd.underlying121 Tryd.underlying122 Tryd.underlying123 Tryd.underlying124 Tryd.underlying125
attribute [go_sem] Tryd.underlying126 Tryd.underlying127 Tryd.underlying128 Tryd.underlying129 Tryd.underlying130 Tryd.underlying131 Tryd.underlying132 Tryd.underlying133 Tryd.underlying134 Tryd.underlying135 Tryd.underlying136 Tryd.underlying137
attribute [go_sem] Tryd.underlying138 Tryd.underlying139 Tryd.underlying140 Tryd.underlying141 Tryd.underlying142 Tryd.underlying143 Tryd.underlying144 Tryd.underlying145 Tryd.underlying146 Tryd.underlying147 Tryd.underlying148 Tryd.underlying149
attribute [go_sem] Tryd.underlying150 Tryd.underlying151 Tryd.underlying152 Tryd.underlying153 Tryd.underlying154 Tryd.underlying155 Tryd.underlying156 Tryd.underlying157 Tryd.underlying158 Tryd.underlying159 Tryd.underlying160 Tryd.underlying161
attribute [go_sem] Tryd.underlying162 Tryd.underlying163 Tryd.underlying164 Tryd.underlying165 Tryd.underlying166 Tryd.underlying167 Tryd.underlying168 Tryd.underlying169 Tryd.underlying170 Tryd.underlying171 Tryd.underlying172 Tryd.underlying173
attribute [go_sem] Tryd.underlying174 Tryd.underlying175 k1 k2 k3 ke3
attribute [go_sem] z3 c3 k4 ke4 z4 c4 z5
attribute [go_sem] z9
attribute [go_sem] z22 z23
attribute [go_sem] z25
attribute [go_sem] z32 c32
attribute [go_sem] z35 z36
attribute [go_sem] z41
attribute [go_sem] z46
attribute [go_sem] ke53 z53 c53
attribute [go_sem] z57
attribute [go_sem] z63 z64
end Go.Fv.M

namespace Go.Fv.M
open Go Go.Proofs
set_option linter.unusedSimpArgs false
set_option linter.unusedVariables false
set_option maxRecDepth 8000
theorem when_ok (b : Bool) (e : Int) : FnOk Tryd.prog 31 [.bool b, .int .i64 e] (.int .i64 (if b = true then e else 0)) [] := by
  refine FnOk.of_vc Tryd.func31 rfl (by decide) (by simp [Tryd.f31]) [.tmp 4] rfl fun w0 T0 _ => ?_
  simp only [Tryd.f31, argEnv]
  cases b <;> simp (maxSteps := 1000000) only [go_sem, reduceCtorEq, Nat.reduceLT, Nat.reduceLeDiff, reduceIte, ↓reduceIte, Nat.reduceEqDiff, Nat.reduceAdd, Nat.reduceMul, Nat.reduceSub, Int.reduceLE, Int.reduceLT, Int.reduceNeg, Int.reduceToNat] <;> (refine Ret.auto 0 ?_ rfl ?_ <;> simp only [go_sem, reduceCtorEq, reduceIte, Nat.reduceEqDiff, Nat.reduceLT, Nat.reduceLeDiff, Int.natCast_succ, Post])
end Go.Fv.M

namespace Go.Fv.M
open Go Go.Proofs
set_option linter.unusedSimpArgs false
set_option linter.unusedVariables false
set_option maxRecDepth 8000
end Go.Fv.M

namespace Go.Fv.M
open Go Go.Proofs
set_option linter.unusedSimpArgs false
set_option linter.unusedVariables false
set_option maxRecDepth 8000
end Go.Fv.M

namespace Go.Fv.M
open Go Go.Proofs
set_option linter.unusedSimpArgs false
set_option linter.unusedVariables false
set_option maxRecDepth 8000

end Go.Fv.M

/- The reference's Hull: the walk. -/
namespace Go.Fv.M
open Go Go.Proofs
set_option linter.unusedSimpArgs false
set_option linter.unusedVariables false
set_option linter.unnecessarySimpa false
set_option maxRecDepth 8000

theorem bx_take {l : List Bx} {k : Nat} (h : k < l.length) : l.take (k + 1) = l.take k ++ [l.getD k Bx.zero] := by
  rw [List.take_succ_eq_append_getElem h, getD_lt h]
theorem bx_mem {l : List Bx} {k : Nat} (h : k < l.length) : l.getD k Bx.zero ∈ l := by rw [getD_lt h]; exact List.getElem_mem h
end Go.Fv.M
