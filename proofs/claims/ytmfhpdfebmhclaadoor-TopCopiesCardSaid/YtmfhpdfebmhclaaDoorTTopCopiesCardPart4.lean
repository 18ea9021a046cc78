/-
  A part of the proof of the claim: walks over the program's functions and the plain laws that these need. No condition of its own.
-/
import Derived.Test.YtmfhpdfebmhclaaDoorTTopCopiesCardPart3
import Derived.Test.YtmfhpdfebmhclaaDoorTTopCopiesCardPart2
/- Prints that are alike lie in one group: plain law. -/
namespace Go.Fv.T
open Go Go.Proofs
set_option linter.unusedSimpArgs false
set_option linter.unusedVariables false
set_option linter.unnecessarySimpa false
set_option maxRecDepth 8000

theorem firstAt_no {α : Type} {q : α → Bool} : ∀ {l : List α} {i : Nat}, firstAt q l i < 0 → ∀ x, x ∈ l → q x = false
  | x :: l, i, h, y, hy => by
    simp only [firstAt] at h
    split at h
    · omega
    · rename_i h1
      cases List.mem_cons.1 hy with
      | inl e => subst e; simpa using h1
      | inr e => exact firstAt_no h y e
theorem firstAt_at {α : Type} {q : α → Bool} : ∀ {l : List α} {i k : Nat}, firstAt q l i = ((i + k : Nat) : Int) → ∃ x, l[k]? = some x ∧ q x = true ∧ ∀ j y, j < k → l[j]? = some y → q y = false
  | [], i, k, h => by simp [firstAt] at h; omega
  | x :: l, i, k, h => by
    simp only [firstAt] at h
    split at h
    · rename_i h1
      have : k = 0 := by omega
      subst this
      exact ⟨x, rfl, h1, fun j y hj => by omega⟩
    · rename_i h1
      rcases firstAt_bd q l (i + 1) with e | ⟨e1, e2⟩
      · rw [e] at h; omega
      · obtain ⟨m, rfl⟩ : ∃ m, k = m + 1 := ⟨k - 1, by omega⟩
        obtain ⟨y, h2, h3, h4⟩ := firstAt_at (l := l) (i := i + 1) (k := m) (by rw [h]; congr 1; omega)
        refine ⟨y, by simpa using h2, h3, fun j z hj hz => ?_⟩
        cases j with
        | zero => simp at hz; subst hz; simpa using h1
        | succ j => exact h4 j z (by omega) (by simpa using hz)
theorem apAt_zero {a b : List UInt8} : ∀ {n : Nat}, apAt a b n = 0 ↔ ∀ j, j < n → a.getD j 0 = b.getD j 0
  | 0 => by simp [apAt]
  | n + 1 => by
    rw [apAt_succ]
    constructor
    · intro h
      split at h
      · rename_i h1
        intro j hj
        by_cases e : j = n
        · subst e; exact h1
        · exact apAt_zero.1 h j (by omega)
      · omega
    · intro h
      rw [if_pos (h n (by omega))]
      exact apAt_zero.2 fun j hj => h j (by omega)
theorem apN_zero {a b : List UInt8} (h : a.length = b.length) : apN a b = 0 ↔ a = b := by
  unfold apN
  rw [apAt_zero]
  exact ⟨fun h1 => eq_of_getD 0 h h1, fun e j _ => by rw [e]⟩
/-- The print of a group. -/
def gp (l : List (List UInt8)) (g : List Int) : List UInt8 := l.getD (g.getD 0 0).toNat []
structure GInv (l : List (List UInt8)) (G : List (List Int)) (n : Nat) : Prop where
  mem : ∀ g, g ∈ G → g ≠ [] ∧ ∀ x, x ∈ g → 0 ≤ x ∧ x < n ∧ l.getD x.toNat [] = gp l g
  pw : G.Pairwise fun a b => gp l a ≠ gp l b
  all : ∀ x : Nat, x < n → ∃ g, g ∈ G ∧ (x : Int) ∈ g
theorem gp_app {l : List (List UInt8)} {g : List Int} (h : g ≠ []) (x : Int) : gp l (g ++ [x]) = gp l g := by
  cases g with
  | nil => exact absurd rfl h
  | cons y g => rfl
theorem near_zero {l : List (List UInt8)} {s : List UInt8} {g : List Int} (h : (gp l g).length = s.length) : near l 0 s g = decide (gp l g = s) := by
  unfold near
  rw [Bool.eq_iff_iff, decide_eq_true_eq, decide_eq_true_eq, ← apN_zero h]
  unfold gp; omega
theorem pw_set {α β : Type} {f : α → β} : ∀ {l : List α} {k : Nat} {x y : α}, l[k]? = some y → f x = f y → (l.Pairwise fun a b => f a ≠ f b) → (l.set k x).Pairwise fun a b => f a ≠ f b
  | z :: l, 0, x, y, h, e, hp => by
    simp at h; subst h
    rw [List.pairwise_cons] at hp
    rw [List.set_cons_zero, List.pairwise_cons]
    exact ⟨fun b hb => by rw [e]; exact hp.1 b hb, hp.2⟩
  | z :: l, k + 1, x, y, h, e, hp => by
    rw [List.pairwise_cons] at hp
    rw [List.set_cons_succ, List.pairwise_cons]
    refine ⟨fun b hb => ?_, pw_set (by simpa using h) e hp.2⟩
    rcases List.mem_or_eq_of_mem_set hb with hb | hb
    · exact hp.1 b hb
    · subst hb
      rw [e]
      exact hp.1 y (List.mem_of_getElem? (by simpa using h))
theorem GInv.step {l : List (List UInt8)} {G : List (List Int)} {n : Nat} (h64 : ∀ s, s ∈ l → s.length = 64) (hn : n < l.length) (h : GInv l G n) : GInv l (cpStep l 0 G n) (n + 1) := by
  have hl : (l.getD n []).length = 64 := h64 _ (by rw [getD_lt hn]; exact List.getElem_mem hn)
  have hgl : ∀ g, g ∈ G → (gp l g).length = (l.getD n []).length := fun g hg => by
    obtain ⟨h1, h2⟩ := h.mem g hg
    obtain ⟨a, b, c⟩ := h2 (g.getD 0 0) (by
      cases g with
      | nil => exact absurd rfl h1
      | cons y g => exact .head _)
    rw [hl]
    exact h64 _ (by unfold gp; rw [getD_lt (by omega)]; exact List.getElem_mem _)
  unfold cpStep
  split
  · rename_i h0
    have hno := firstAt_no h0
    refine ⟨fun g hg => ?_, ?_, fun x hx => ?_⟩
    · rcases List.mem_append.1 hg with hg | hg
      · obtain ⟨h1, h2⟩ := h.mem g hg
        exact ⟨h1, fun x hx => by obtain ⟨a, b, c⟩ := h2 x hx; exact ⟨a, by omega, c⟩⟩
      · rw [List.mem_singleton] at hg; subst hg
        exact ⟨by simp, fun x hx => by rw [List.mem_singleton] at hx; subst hx; exact ⟨by omega, by omega, rfl⟩⟩
    · rw [List.pairwise_append]
      refine ⟨h.pw, by simp, fun a ha b hb => ?_⟩
      rw [List.mem_singleton] at hb; subst hb
      have := hno a ha
      rw [near_zero (hgl a ha)] at this
      have e : gp l [(n : Int)] = l.getD n [] := rfl
      rw [e]
      exact of_decide_eq_false this
    · by_cases e : x = n
      · subst e; exact ⟨_, List.mem_append.2 (.inr (List.mem_singleton.2 rfl)), by simp⟩
      · obtain ⟨g, hg, hx2⟩ := h.all x (by omega)
        exact ⟨g, List.mem_append.2 (.inl hg), hx2⟩
  · rename_i h0
    rcases firstAt_bd (near l 0 (l.getD n [])) G 0 with hb | ⟨hb1, hb2⟩
    · rw [hb] at h0; omega
    · obtain ⟨k, hk⟩ : ∃ k : Nat, firstAt (near l 0 (l.getD n [])) G 0 = ((0 + k : Nat) : Int) := ⟨(firstAt (near l 0 (l.getD n [])) G 0).toNat, by omega⟩
      obtain ⟨g, hg, hq, _⟩ := firstAt_at hk
      rw [hk, Nat.zero_add, Int.toNat_natCast]
      have hgm := List.mem_of_getElem? hg
      have hgd : G.getD k [] = g := by rw [List.getD_eq_getElem?_getD, hg]; rfl
      rw [hgd]
      obtain ⟨g1, g2⟩ := h.mem g hgm
      rw [near_zero (hgl g hgm)] at hq
      have hq := of_decide_eq_true hq
      have hkl := (List.getElem?_eq_some_iff.1 hg).1
      refine ⟨fun a ha => ?_, pw_set hg (gp_app g1 _) h.pw, fun x hx => ?_⟩
      · rcases List.mem_or_eq_of_mem_set ha with ha | ha
        · obtain ⟨h1, h2⟩ := h.mem a ha
          exact ⟨h1, fun x hx => by obtain ⟨a, b, c⟩ := h2 x hx; exact ⟨a, by omega, c⟩⟩
        · subst ha
          refine ⟨by simp, fun x hx => ?_⟩
          rw [gp_app g1]
          rcases List.mem_append.1 hx with hx | hx
          · obtain ⟨a, b, c⟩ := g2 x hx; exact ⟨a, by omega, c⟩
          · rw [List.mem_singleton] at hx; subst hx
            exact ⟨by omega, by omega, by rw [hq]; rfl⟩
      · by_cases e : x = n
        · subst e
          exact ⟨_, List.mem_set hkl _, by simp⟩
        · obtain ⟨a, ha, hx2⟩ := h.all x (by omega)
          obtain ⟨i, hi, rfl⟩ := List.getElem_of_mem ha
          by_cases ei : i = k
          · subst ei
            have : G[i] = g := by rw [List.getElem?_eq_getElem hi] at hg; exact Option.some.inj hg
            rw [this] at hx2
            exact ⟨_, List.mem_set hkl _, List.mem_append.2 (.inl hx2)⟩
          · refine ⟨G[i], ?_, hx2⟩
            rw [List.mem_iff_getElem]
            exact ⟨i, by rw [List.length_set]; exact hi, by rw [List.getElem_set_ne (fun e => ei e.symm)]⟩
theorem cpN_inv {l : List (List UInt8)} (h64 : ∀ s, s ∈ l → s.length = 64) : ∀ n, n ≤ l.length → GInv l (cpN l 0 n) n
  | 0, _ => ⟨fun g hg => absurd hg (by simp [cpN]), .nil, fun x hx => by omega⟩
  | n + 1, h => (cpN_inv h64 n (by omega)).step h64 (by omega)
/-- The group of a place. -/
def grpOf (G : List (List Int)) (i : Int) : Int := firstAt (fun g => decide (i ∈ g)) G 0
theorem pw_idx {α β : Type} {f : α → β} {l : List α} (hp : l.Pairwise fun a b => f a ≠ f b) {i j : Nat} {x y : α} (hi : l[i]? = some x) (hj : l[j]? = some y) (e : f x = f y) : i = j := by
  obtain ⟨hi1, rfl⟩ := List.getElem?_eq_some_iff.1 hi
  obtain ⟨hj1, rfl⟩ := List.getElem?_eq_some_iff.1 hj
  rw [List.pairwise_iff_getElem] at hp
  rcases Nat.lt_trichotomy i j with h | h | h
  · exact absurd e (hp i j hi1 hj1 h)
  · exact h
  · exact absurd e.symm (hp j i hj1 hi1 h)
theorem groups_same {l : List (List UInt8)} (h64 : ∀ s, s ∈ l → s.length = 64) {i j : Nat} (hi : i < l.length) (hj : j < l.length) (hne : i ≠ j) :
    (l.getD i [] = l.getD j []) ↔ (0 ≤ grpOf (bigG (cpN l 0 l.length)) i ∧ grpOf (bigG (cpN l 0 l.length)) i = grpOf (bigG (cpN l 0 l.length)) j) := by
  have hI := cpN_inv h64 l.length (Nat.le_refl _)
  generalize cpN l 0 l.length = G at *
  have hmem : ∀ g, g ∈ bigG G → ∀ x, x ∈ g → 0 ≤ x ∧ l.getD x.toNat [] = gp l g := fun g hg x hx => by
    obtain ⟨a, b, c⟩ := (hI.mem g (List.mem_filter.1 hg).1).2 x hx
    exact ⟨a, c⟩
  have hpw : (bigG G).Pairwise fun a b => gp l a ≠ gp l b := hI.pw.filter _
  -- the group of x, where there is one
  have key : ∀ x y : Nat, ∀ k : Nat, grpOf (bigG G) x = k → (∃ g, g ∈ bigG G ∧ (y : Int) ∈ g ∧ gp l g = l.getD x []) → grpOf (bigG G) y = k := by
    intro x y k hk ⟨g, hg, hy, hgp⟩
    obtain ⟨gx, hx1, hx2, _⟩ := firstAt_at (q := fun g => decide ((x : Int) ∈ g)) (l := bigG G) (i := 0) (k := k) (by rw [Nat.zero_add]; exact hk)
    have hx3 := (hmem gx (List.mem_of_getElem? hx1) x (of_decide_eq_true hx2)).2
    rw [Int.toNat_natCast] at hx3
    obtain ⟨ig, hig, rfl⟩ := List.getElem_of_mem hg
    have e1 : ig = k := pw_idx hpw (List.getElem?_eq_getElem hig) hx1 (by rw [hgp, hx3])
    subst e1
    rcases firstAt_bd (fun g => decide ((y : Int) ∈ g)) (bigG G) 0 with hb | ⟨hb1, hb2⟩
    · have := firstAt_no (q := fun g => decide ((y : Int) ∈ g)) (l := bigG G) (i := 0) (by rw [hb]; omega) _ hg
      rw [decide_eq_true hy] at this; cases this
    · obtain ⟨m, hm⟩ : ∃ m : Nat, firstAt (fun g => decide ((y : Int) ∈ g)) (bigG G) 0 = ((0 + m : Nat) : Int) := ⟨(firstAt (fun g => decide ((y : Int) ∈ g)) (bigG G) 0).toNat, by omega⟩
      obtain ⟨gy, hy1, hy2, _⟩ := firstAt_at hm
      have hy3 := (hmem gy (List.mem_of_getElem? hy1) y (of_decide_eq_true hy2)).2
      have hy4 := (hmem _ hg y hy).2
      have : m = ig := pw_idx hpw hy1 (List.getElem?_eq_getElem hig) (by rw [← hy3, hy4])
      subst this
      unfold grpOf; rw [hm, Nat.zero_add]
  constructor
  · intro h
    obtain ⟨g, hg, hgi⟩ := hI.all i hi
    obtain ⟨g', hg', hgj⟩ := hI.all j hj
    have e1 := ((hI.mem g hg).2 i hgi).2.2
    have e2 := ((hI.mem g' hg').2 j hgj).2.2
    rw [Int.toNat_natCast] at e1 e2
    obtain ⟨a, ha, rfl⟩ := List.getElem_of_mem hg
    obtain ⟨b, hb, rfl⟩ := List.getElem_of_mem hg'
    have hab : a = b := pw_idx hI.pw (List.getElem?_eq_getElem ha) (List.getElem?_eq_getElem hb) (by rw [← e1, ← e2, h])
    subst hab
    have hlen : 2 ≤ G[a].length := by
      rcases hq : G[a] with _ | ⟨x, _ | ⟨y, r⟩⟩
      · rw [hq] at hgi; cases hgi
      · rw [hq] at hgi hgj
        rw [List.mem_singleton] at hgi hgj
        omega
      · simp
    have hgB : G[a] ∈ bigG G := List.mem_filter.2 ⟨List.getElem_mem _, decide_eq_true hlen⟩
    have hpos : 0 ≤ grpOf (bigG G) i := by
      rcases firstAt_bd (fun g => decide ((i : Int) ∈ g)) (bigG G) 0 with hb | ⟨hb1, _⟩
      · have := firstAt_no (q := fun g => decide ((i : Int) ∈ g)) (l := bigG G) (i := 0) (by rw [hb]; omega) _ hgB
        rw [decide_eq_true hgi] at this; cases this
      · exact hb1
    refine ⟨hpos, ?_⟩
    obtain ⟨k, hk⟩ : ∃ k : Nat, grpOf (bigG G) i = k := ⟨(grpOf (bigG G) i).toNat, by omega⟩
    rw [hk, key i j k hk ⟨_, hgB, hgj, e1.symm⟩]
  · rintro ⟨h0, h1⟩
    obtain ⟨k, hk⟩ : ∃ k : Nat, grpOf (bigG G) i = k := ⟨(grpOf (bigG G) i).toNat, by omega⟩
    obtain ⟨gi, a1, a2, _⟩ := firstAt_at (q := fun g => decide ((i : Int) ∈ g)) (l := bigG G) (i := 0) (k := k) (by rw [Nat.zero_add]; exact hk)
    obtain ⟨gj, b1, b2, _⟩ := firstAt_at (q := fun g => decide ((j : Int) ∈ g)) (l := bigG G) (i := 0) (k := k) (by rw [h1] at hk; rw [Nat.zero_add]; exact hk)
    have : gi = gj := by rw [a1] at b1; exact Option.some.inj b1
    subst this
    have e1 := (hmem gi (List.mem_of_getElem? a1) i (of_decide_eq_true a2)).2
    have e2 := (hmem gi (List.mem_of_getElem? a1) j (of_decide_eq_true b2)).2
    rw [Int.toNat_natCast] at e1 e2
    rw [e1, e2]
end Go.Fv.T

/- slices.Contains of integers. -/
namespace Go.Fv.T
open Go Go.Proofs
set_option linter.unusedSimpArgs false
set_option linter.unusedVariables false
set_option maxRecDepth 8000

theorem firstAt_mem (n : Int) (l : List Int) (i : Nat) : (0 ≤ firstAt (fun x => decide (n = x)) l i) ↔ n ∈ l := by
  rw [firstAt_any]
  simp
set_option maxHeartbeats 1000000 in
theorem indexI_ok (l : List Int) (n : Int) : FnOk Tryd.prog 24 [.ro (.ints .i64 l), .int .i64 n] (.int .i64 (firstAt (fun x => decide (n = x)) l 0)) [] := by
  refine FnOk.of_vc Tryd.func24 rfl (by decide) (by simp [Tryd.f24]) [.tmp 4] rfl fun w0 T0 _ => ?_
  simp only [Tryd.f24, argEnv]
  (repeat' first | with_reducible (first | refine Asm.intro fun _ => ?_ | refine Chk.g ?_ | refine AnyI.i64 fun _ _ => ?_ | refine LetW.g ?_ | refine LetW.h ?_ | refine Ite.t fun _ => ?_ | refine Ite.f fun _ => ?_ | refine Ite.decide (fun _ => ?_) fun _ => ?_ | refine Ite.bool (fun _ => ?_) fun _ => ?_ | refine And.intro ?_ ?_) | omega | simp (maxSteps := 1000000) only [go_sem, reduceCtorEq, Nat.reduceLT, Nat.reduceLeDiff, reduceIte, ↓reduceIte, Nat.reduceEqDiff, Nat.reduceAdd, Nat.reduceMul, Nat.reduceSub, Int.reduceLE, Int.reduceLT, Int.reduceNeg, Int.reduceToNat])
  refine VcLoop.intro (fun i : Nat => ⟨19, [(0, .ro (.ints .i64 l)), (1, .int .i64 n), (7, .int .i64 l.length), (8, .int .i64 i)], [], 0⟩) (fun i => i ≤ l.length ∧ firstAt (fun x => decide (n = x)) (l.drop i) i = firstAt (fun x => decide (n = x)) l 0) (fun i => l.length - i) 0 ?_ ⟨Nat.zero_le _, rfl⟩ fun i hI => ?_
  · refine Ent.auto0 rfl ?_ ?_ <;> simp only [go_sem, reduceCtorEq, reduceIte, Nat.reduceEqDiff, Nat.reduceLT, Nat.reduceLeDiff, Int.natCast_succ]
  obtain ⟨hl, hI⟩ := hI
  by_cases hlt : i < l.length
  · rw [drop_at l 0 hlt, firstAt] at hI
    by_cases he : n = l.getD i 0
    · rw [if_pos (decide_eq_true he)] at hI
      (repeat' first | with_reducible (first | refine Asm.intro fun _ => ?_ | refine Chk.g ?_ | refine AnyI.i64 fun _ _ => ?_ | refine LetW.g ?_ | refine LetW.h ?_ | refine Ite.t fun _ => ?_ | refine Ite.f fun _ => ?_ | refine Ite.decide (fun _ => ?_) fun _ => ?_ | refine Ite.bool (fun _ => ?_) fun _ => ?_ | refine And.intro ?_ ?_) | omega | simp (maxSteps := 1000000) only [go_sem, reduceCtorEq, Nat.reduceLT, Nat.reduceLeDiff, reduceIte, ↓reduceIte, Nat.reduceEqDiff, Nat.reduceAdd, Nat.reduceMul, Nat.reduceSub, Int.reduceLE, Int.reduceLT, Int.reduceNeg, Int.reduceToNat, ← he])
      refine Ret.auto 0 ?_ rfl ?_ <;> simp only [go_sem, reduceCtorEq, reduceIte, Nat.reduceEqDiff, Nat.reduceLT, Nat.reduceLeDiff, Int.natCast_succ, Post, hI]
    · rw [if_neg (by simpa using he)] at hI
      (repeat' first | with_reducible (first | refine Asm.intro fun _ => ?_ | refine Chk.g ?_ | refine AnyI.i64 fun _ _ => ?_ | refine LetW.g ?_ | refine LetW.h ?_ | refine Ite.t fun _ => ?_ | refine Ite.f fun _ => ?_ | refine Ite.decide (fun _ => ?_) fun _ => ?_ | refine Ite.bool (fun _ => ?_) fun _ => ?_ | refine And.intro ?_ ?_) | omega | simp (maxSteps := 1000000) only [go_sem, reduceCtorEq, Nat.reduceLT, Nat.reduceLeDiff, reduceIte, ↓reduceIte, Nat.reduceEqDiff, Nat.reduceAdd, Nat.reduceMul, Nat.reduceSub, Int.reduceLE, Int.reduceLT, Int.reduceNeg, Int.reduceToNat, he])
      refine ⟨i + 1, Ent.auto0 rfl ?_ ?_, ⟨by omega, hI⟩, by omega⟩ <;> simp only [go_sem, reduceCtorEq, reduceIte, Nat.reduceEqDiff, Nat.reduceLT, Nat.reduceLeDiff, Int.natCast_succ]
  · have e : i = l.length := by omega
    subst e
    rw [List.drop_length] at hI
    (repeat' first | with_reducible (first | refine Asm.intro fun _ => ?_ | refine Chk.g ?_ | refine AnyI.i64 fun _ _ => ?_ | refine LetW.g ?_ | refine LetW.h ?_ | refine Ite.t fun _ => ?_ | refine Ite.f fun _ => ?_ | refine Ite.decide (fun _ => ?_) fun _ => ?_ | refine Ite.bool (fun _ => ?_) fun _ => ?_ | refine And.intro ?_ ?_) | omega | simp (maxSteps := 1000000) only [go_sem, reduceCtorEq, Nat.reduceLT, Nat.reduceLeDiff, reduceIte, ↓reduceIte, Nat.reduceEqDiff, Nat.reduceAdd, Nat.reduceMul, Nat.reduceSub, Int.reduceLE, Int.reduceLT, Int.reduceNeg, Int.reduceToNat])
    refine Ret.auto 0 ?_ rfl ?_ <;> simp only [go_sem, reduceCtorEq, reduceIte, Nat.reduceEqDiff, Nat.reduceLT, Nat.reduceLeDiff, Int.natCast_succ, Post]
    rw [← hI]; rfl
theorem containsI_ok (l : List Int) (n : Int) : FnOk Tryd.prog 12 [.ro (.ints .i64 l), .int .i64 n] (.bool (decide (n ∈ l))) [] := by
  have k := indexI_ok l n
  have hm := firstAt_mem n l 0
  have e : decide (n ∈ l) = decide (0 ≤ firstAt (fun x => decide (n = x)) l 0) := by rw [Bool.eq_iff_iff, decide_eq_true_eq, decide_eq_true_eq, hm]
  rw [e]
  refine FnOk.of_vc Tryd.func12 rfl (by decide) (by simp [Tryd.f12]) [.tmp 4] rfl fun w0 T0 _ => ?_
  simp only [Tryd.f12, argEnv]
  (repeat' first | with_reducible (first | refine Asm.intro fun _ => ?_ | refine Chk.g ?_ | refine AnyI.i64 fun _ _ => ?_ | refine LetW.g ?_ | refine LetW.h ?_ | refine Ite.t fun _ => ?_ | refine Ite.f fun _ => ?_ | refine Ite.decide (fun _ => ?_) fun _ => ?_ | refine Ite.bool (fun _ => ?_) fun _ => ?_ | refine And.intro ?_ ?_) | omega | simp (maxSteps := 1000000) only [go_sem, reduceCtorEq, Nat.reduceLT, Nat.reduceLeDiff, reduceIte, ↓reduceIte, Nat.reduceEqDiff, Nat.reduceAdd, Nat.reduceMul, Nat.reduceSub, Int.reduceLE, Int.reduceLT, Int.reduceNeg, Int.reduceToNat])
  refine VcCall.fr (FnFr.of_ok (k) rfl rfl) (by simp only [noIdR_ok, argOkL, argOk, allOk, argOkN, List.drop_zero, lk, reduceIte, reduceCtorEq, Nat.reduceEqDiff, Option.some.injEq, Item.row.injEq, Item.box.injEq, AV.ro.injEq, exists_eq_left, exists_and_left, exists_eq_left', exists_eq_right, and_assoc, and_true, true_and, List.cons.injEq, exists_eq', exists_eq]) 0 rfl (by simp [rowsB]) ?_
  (repeat' first | with_reducible (first | refine Asm.intro fun _ => ?_ | refine Chk.g ?_ | refine AnyI.i64 fun _ _ => ?_ | refine LetW.g ?_ | refine LetW.h ?_ | refine Ite.t fun _ => ?_ | refine Ite.f fun _ => ?_ | refine Ite.decide (fun _ => ?_) fun _ => ?_ | refine Ite.bool (fun _ => ?_) fun _ => ?_ | refine And.intro ?_ ?_) | omega | simp (maxSteps := 1000000) only [go_sem, reduceCtorEq, Nat.reduceLT, Nat.reduceLeDiff, reduceIte, ↓reduceIte, Nat.reduceEqDiff, Nat.reduceAdd, Nat.reduceMul, Nat.reduceSub, Int.reduceLE, Int.reduceLT, Int.reduceNeg, Int.reduceToNat])
  refine Ret.auto 0 ?_ rfl ?_ <;> simp only [go_sem, reduceCtorEq, reduceIte, Nat.reduceEqDiff, Nat.reduceLT, Nat.reduceLeDiff, Int.natCast_succ, Post]
end Go.Fv.T

/- The law TopCopies. -/
namespace Go.Fv.T
open Go Go.Proofs
set_option linter.unusedSimpArgs false
set_option linter.unusedVariables false
set_option linter.unnecessarySimpa false
set_option maxRecDepth 8000

theorem inG_ok (x : List Int) (i : Int) : FnOk Tryd.prog 11 [.ro (.ints .i64 x), .cell [.int .i64 i]] (.bool (decide (i ∈ x))) [] := by
  have k := containsI_ok x i
  refine FnOk.of_vc Tryd.func11 rfl (by decide) (by simp [Tryd.f11]) [.tmp 3] rfl fun w0 T0 _ => ?_
  simp only [Tryd.f11, argEnv]
  (repeat' first | with_reducible (first | refine Asm.intro fun _ => ?_ | refine Chk.g ?_ | refine AnyI.i64 fun _ _ => ?_ | refine LetW.g ?_ | refine LetW.h ?_ | refine Ite.t fun _ => ?_ | refine Ite.f fun _ => ?_ | refine Ite.decide (fun _ => ?_) fun _ => ?_ | refine Ite.bool (fun _ => ?_) fun _ => ?_ | refine And.intro ?_ ?_) | omega | simp (maxSteps := 1000000) only [go_sem, reduceCtorEq, Nat.reduceLT, Nat.reduceLeDiff, reduceIte, ↓reduceIte, Nat.reduceEqDiff, Nat.reduceAdd, Nat.reduceMul, Nat.reduceSub, Int.reduceLE, Int.reduceLT, Int.reduceNeg, Int.reduceToNat])
  refine VcCall.fr (FnFr.of_ok (k) rfl rfl) (by simp only [noIdR_ok, argOkL, argOk, allOk, argOkN, List.drop_zero, lk, reduceIte, reduceCtorEq, Nat.reduceEqDiff, Option.some.injEq, Item.row.injEq, Item.box.injEq, AV.ro.injEq, exists_eq_left, exists_and_left, exists_eq_left', exists_eq_right, and_assoc, and_true, true_and, List.cons.injEq, exists_eq', exists_eq]) 0 rfl (by simp [rowsB]) ?_
  (repeat' first | with_reducible (first | refine Asm.intro fun _ => ?_ | refine Chk.g ?_ | refine AnyI.i64 fun _ _ => ?_ | refine LetW.g ?_ | refine LetW.h ?_ | refine Ite.t fun _ => ?_ | refine Ite.f fun _ => ?_ | refine Ite.decide (fun _ => ?_) fun _ => ?_ | refine Ite.bool (fun _ => ?_) fun _ => ?_ | refine And.intro ?_ ?_) | omega | simp (maxSteps := 1000000) only [go_sem, reduceCtorEq, Nat.reduceLT, Nat.reduceLeDiff, reduceIte, ↓reduceIte, Nat.reduceEqDiff, Nat.reduceAdd, Nat.reduceMul, Nat.reduceSub, Int.reduceLE, Int.reduceLT, Int.reduceNeg, Int.reduceToNat])
  refine Ret.auto 0 ?_ rfl ?_ <;> simp only [go_sem, reduceCtorEq, reduceIte, Nat.reduceEqDiff, Nat.reduceLT, Nat.reduceLeDiff, Int.natCast_succ, Post]
theorem grp_ok (G : List (List Int)) (i : Int) : FnOk Tryd.prog 9 [.int .i64 i, .cell [.ro (.objs 1 (G.map gAv))]] (.int .i64 (grpOf G i)) [] := by
  haveI cc : CapsOk [.cell [.int .i64 i]] := ⟨rfl⟩
  have k := indexFuncG_ok G 11 [.cell [.int .i64 i]] (fun g => decide (i ∈ g)) fun g hg => FnFr.of_ok (inG_ok g i) rfl rfl
  unfold grpOf
  refine FnOk.of_vc Tryd.func9 rfl (by decide) (by simp [Tryd.f9]) [.tmp 3] rfl fun w0 T0 _ => ?_
  simp only [Tryd.f9, argEnv]
  (repeat' first | with_reducible (first | refine Asm.intro fun _ => ?_ | refine Chk.g ?_ | refine AnyI.i64 fun _ _ => ?_ | refine LetW.g ?_ | refine LetW.h ?_ | refine Ite.t fun _ => ?_ | refine Ite.f fun _ => ?_ | refine Ite.decide (fun _ => ?_) fun _ => ?_ | refine Ite.bool (fun _ => ?_) fun _ => ?_ | refine And.intro ?_ ?_) | omega | simp (maxSteps := 1000000) only [go_sem, reduceCtorEq, Nat.reduceLT, Nat.reduceLeDiff, reduceIte, ↓reduceIte, Nat.reduceEqDiff, Nat.reduceAdd, Nat.reduceMul, Nat.reduceSub, Int.reduceLE, Int.reduceLT, Int.reduceNeg, Int.reduceToNat])
  refine VcCall.fr (FnFr.of_ok (k) rfl rfl) (by simp only [noIdR_ok, argOkL, argOk, allOk, argOkN, List.drop_zero, lk, reduceIte, reduceCtorEq, Nat.reduceEqDiff, Option.some.injEq, Item.row.injEq, Item.box.injEq, AV.ro.injEq, exists_eq_left, exists_and_left, exists_eq_left', exists_eq_right, and_assoc, and_true, true_and, List.cons.injEq, exists_eq', exists_eq]) 0 rfl (by simp [rowsB]) ?_
  (repeat' first | with_reducible (first | refine Asm.intro fun _ => ?_ | refine Chk.g ?_ | refine AnyI.i64 fun _ _ => ?_ | refine LetW.g ?_ | refine LetW.h ?_ | refine Ite.t fun _ => ?_ | refine Ite.f fun _ => ?_ | refine Ite.decide (fun _ => ?_) fun _ => ?_ | refine Ite.bool (fun _ => ?_) fun _ => ?_ | refine And.intro ?_ ?_) | omega | simp (maxSteps := 1000000) only [go_sem, reduceCtorEq, Nat.reduceLT, Nat.reduceLeDiff, reduceIte, ↓reduceIte, Nat.reduceEqDiff, Nat.reduceAdd, Nat.reduceMul, Nat.reduceSub, Int.reduceLE, Int.reduceLT, Int.reduceNeg, Int.reduceToNat])
  refine Ret.auto 0 ?_ rfl ?_ <;> simp only [go_sem, reduceCtorEq, reduceIte, Nat.reduceEqDiff, Nat.reduceLT, Nat.reduceLeDiff, Int.natCast_succ, Post]
def GoodP (x : Pg) : Prop := ∃ w h : Nat, x.W = w ∧ x.H = h ∧ 1 ≤ w ∧ w ≤ 32 ∧ 1 ≤ h ∧ h ≤ 32 ∧ x.p.length = w * h
theorem shP_good (x : Pg) : GoodP (shP x) := by
  obtain ⟨w1, w2, _⟩ := (show 1 ≤ fitN x.W 31 ∧ fitN x.W 31 ≤ 32 ∧ 1 + bitsI .and .i64 x.W 31 = ((fitN x.W 31 : Nat) : Int) from fitN_bd x.W 31 (by decide))
  obtain ⟨h1, h2, _⟩ := (show 1 ≤ fitN x.H 31 ∧ fitN x.H 31 ≤ 32 ∧ 1 + bitsI .and .i64 x.H 31 = ((fitN x.H 31 : Nat) : Int) from fitN_bd x.H 31 (by decide))
  exact ⟨fitN x.W 31, fitN x.H 31, rfl, rfl, w1, w2, h1, h2, shB_len _ _⟩
def prG (x : Pg) : List UInt8 := prOf x.p x.W.toNat x.H.toNat
theorem prG_ok (x : Pg) : prOk (prG x) = true := by
  unfold prOk prG prOf prL
  rw [Bool.and_eq_true, decide_eq_true_eq, List.all_eq_true]
  refine ⟨by simp [rowsOf], fun y hy => ?_⟩
  obtain ⟨n, _, rfl⟩ := List.mem_map.1 hy
  exact prB_in _ _
theorem mapTake {α β : Type} (f : α → β) (l : List α) (z : α) {i : Nat} (h : i < l.length) : (l.take (i + 1)).map f = (l.take i).map f ++ [f (l.getD i z)] := by
  rw [List.take_succ_eq_append_getElem h, List.map_append, getD_lt h]; rfl
theorem rem_bd (k : Int) {f : Int} (hf : 0 < f) : -f < k.tmod f ∧ k.tmod f < f := by
  have h1 := Int.emod_nonneg k (by omega : f ≠ 0)
  have h2 := Int.emod_lt_of_pos k hf
  rw [Int.tmod_eq_emod]
  split
  · omega
  · rename_i h
    have h3 : k % f ≠ 0 := fun e => h (.inr (Int.dvd_of_emod_eq_zero e))
    omega
theorem rem_in (k : Int) {f : Int} (hf : 0 < f) : 0 ≤ (k.tmod f + f).tmod f ∧ (k.tmod f + f).tmod f < f := by
  have := rem_bd k hf
  exact ⟨Int.tmod_nonneg _ (by omega), Int.tmod_lt_of_pos _ hf⟩
theorem pr_all {L : List Pg} : ((L.map prG).any fun s => !prOk s) = false := by
  rw [List.any_eq_false]
  intro s hs
  obtain ⟨x, _, rfl⟩ := List.mem_map.1 hs
  rw [prG_ok]; decide
set_option maxHeartbeats 16000000 in
theorem topCopies_ok (ps : List Pg) (ag : List Int) : FnOk Tryd.prog 3 [.ro (pgs ps), .ro (.ints .i64 ag)] (.bool true) [] := by
  have hl8 : (ps.take 8).length = min ps.length 8 := by simp [Nat.min_comm]
  have hsub : List.take (min ps.length 8 - 0) (ps.map Pg.av) = (ps.take 8).map Pg.av := by
    simp only [← List.map_take, Nat.sub_zero]
    rcases Nat.le_total ps.length 8 with h | h
    · rw [Nat.min_eq_left h, List.take_of_length_le (Nat.le_refl _), List.take_of_length_le h]
    · rw [Nat.min_eq_right h]
  have hmin : min (ps.length : Int) 8 = ((min ps.length 8 : Nat) : Int) := by omega
  have hmin2 : min (ag.length : Int) 5 = ((min ag.length 5 : Nat) : Int) := by omega
  have ha5 : (List.take (min ag.length 5 - 0) ag).length = min ag.length 5 := by simp
  generalize ps.take 8 = q at *
  refine FnOk.of_vc Tryd.func3 rfl (by decide) (by simp [Tryd.f3]) [.tmp 4] rfl fun w0 T0 _ => ?_
  simp only [Tryd.f3, argEnv]
  (repeat' first | with_reducible (first | refine Asm.intro fun _ => ?_ | refine Chk.g ?_ | refine AnyI.i64 fun _ _ => ?_ | refine LetW.g ?_ | refine LetW.h ?_ | refine Ite.t fun _ => ?_ | refine Ite.f fun _ => ?_ | refine Ite.decide (fun _ => ?_) fun _ => ?_ | refine Ite.bool (fun _ => ?_) fun _ => ?_ | refine And.intro ?_ ?_) | omega | simp (maxSteps := 1000000) only [go_sem, reduceCtorEq, Nat.reduceLT, Nat.reduceLeDiff, reduceIte, ↓reduceIte, Nat.reduceEqDiff, Nat.reduceAdd, Nat.reduceMul, Nat.reduceSub, Int.reduceLE, Int.reduceLT, Int.reduceNeg, Int.reduceToNat])
  refine VcCall.fr (FnFr.of_ok (landedT_ok) rfl rfl) (by simp only [noIdR_ok, argOkL, argOk, allOk, argOkN, List.drop_zero, lk, reduceIte, reduceCtorEq, Nat.reduceEqDiff, Option.some.injEq, Item.row.injEq, Item.box.injEq, AV.ro.injEq, exists_eq_left, exists_and_left, exists_eq_left', exists_eq_right, and_assoc, and_true, true_and, List.cons.injEq, exists_eq', exists_eq]) 0 rfl (by simp [rowsB]) ?_
  (repeat' first | with_reducible (first | refine Asm.intro fun _ => ?_ | refine Chk.g ?_ | refine AnyI.i64 fun _ _ => ?_ | refine LetW.g ?_ | refine LetW.h ?_ | refine Ite.t fun _ => ?_ | refine Ite.f fun _ => ?_ | refine Ite.decide (fun _ => ?_) fun _ => ?_ | refine Ite.bool (fun _ => ?_) fun _ => ?_ | refine And.intro ?_ ?_) | omega | simp (maxSteps := 1000000) only [go_sem, reduceCtorEq, Nat.reduceLT, Nat.reduceLeDiff, reduceIte, ↓reduceIte, Nat.reduceEqDiff, Nat.reduceAdd, Nat.reduceMul, Nat.reduceSub, Int.reduceLE, Int.reduceLT, Int.reduceNeg, Int.reduceToNat, minmax, hmin, Int.toNat_natCast, hsub, List.length_map])
  refine VcLoop.intro (fun i : Nat => ⟨129, [(30, .int .i64 i), (29, .int .i64 q.length), (28, .ro (pgs q)), (6, .own 0), (5, .own 1), (1, .ro (.ints .i64 ag))], [(0, .row 28 (pgs ((q.take i).map shP))), (1, .row 9 (.strs []))], 2⟩) (fun i => i ≤ q.length) (fun i => q.length - i) 0 ?_ (Nat.zero_le _) fun i hi => ?_
  · refine Ent.auto0 rfl ?_ ?_ <;> simp only [go_sem, reduceCtorEq, reduceIte, Nat.reduceEqDiff, Nat.reduceLT, Nat.reduceLeDiff, Int.natCast_succ, List.take_zero, List.map_nil, List.length_map]
  by_cases hlt : i < q.length
  · have he := pg_elem q hlt
    have hst := mapTake shP q Pg.zero hlt
    have hn : ((q.take i).map shP).length ≤ 8 := by simp; omega
    generalize q.getD i Pg.zero = x at *
    have k1 := sheetOf_ok x
    unfold Pg.av at k1
    have hsx : (shP x).av = [.int .i64 (fitN x.W 31), .int .i64 (fitN x.H 31), .ro (.bools (shB x.p (fitN x.W 31 * fitN x.H 31)))] := rfl
    generalize shB x.p (fitN x.W 31 * fitN x.H 31) = P at *
    generalize fitN x.W 31 = w at *
    generalize fitN x.H 31 = h at *
    generalize shP x = y at *
    generalize (q.take i).map shP = L at *
    have hlm : (L.map Pg.av).length = L.length := by simp
    (repeat' first | with_reducible (first | refine Asm.intro fun _ => ?_ | refine Chk.g ?_ | refine AnyI.i64 fun _ _ => ?_ | refine LetW.g ?_ | refine LetW.h ?_ | refine Ite.t fun _ => ?_ | refine Ite.f fun _ => ?_ | refine Ite.decide (fun _ => ?_) fun _ => ?_ | refine Ite.bool (fun _ => ?_) fun _ => ?_ | refine And.intro ?_ ?_) | omega | simp (maxSteps := 1000000) only [go_sem, reduceCtorEq, Nat.reduceLT, Nat.reduceLeDiff, reduceIte, ↓reduceIte, Nat.reduceEqDiff, Nat.reduceAdd, Nat.reduceMul, Nat.reduceSub, Int.reduceLE, Int.reduceLT, Int.reduceNeg, Int.reduceToNat, elemA, he, List.length_map])
    refine VcCall.ro (.agg [.int .i64 w, .int .i64 h, .ro (.bools P)]) (FnFr.of_ok k1 rfl rfl) (by simp only [noIdR_ok, argOkL, argOk, allOk, argOkN, List.drop_zero, lk, reduceIte, reduceCtorEq, Nat.reduceEqDiff, Option.some.injEq, Item.row.injEq, Item.box.injEq, AV.ro.injEq, exists_eq_left, exists_and_left, exists_eq_left', exists_eq_right, and_assoc, and_true, true_and, List.cons.injEq, exists_eq', exists_eq]) (by simp [outOk, argOkL, allOk, argOk, argOkN, lk, noIdR_ok]) rfl ?_
    (repeat' first | with_reducible (first | refine Asm.intro fun _ => ?_ | refine Chk.g ?_ | refine AnyI.i64 fun _ _ => ?_ | refine LetW.g ?_ | refine LetW.h ?_ | refine Ite.t fun _ => ?_ | refine Ite.f fun _ => ?_ | refine Ite.decide (fun _ => ?_) fun _ => ?_ | refine Ite.bool (fun _ => ?_) fun _ => ?_ | refine And.intro ?_ ?_) | omega | simp (maxSteps := 1000000) only [go_sem, reduceCtorEq, Nat.reduceLT, Nat.reduceLeDiff, reduceIte, ↓reduceIte, Nat.reduceEqDiff, Nat.reduceAdd, Nat.reduceMul, Nat.reduceSub, Int.reduceLE, Int.reduceLT, Int.reduceNeg, Int.reduceToNat, List.length_map])
    refine ⟨i + 1, Ent.auto0 rfl ?_ ?_, by omega, by omega⟩ <;> simp only [go_sem, reduceCtorEq, reduceIte, Nat.reduceEqDiff, Nat.reduceLT, Nat.reduceLeDiff, Int.natCast_succ, hst, List.map_append, List.map_cons, List.map_nil, hsx]
  · have hgood : ∀ x, x ∈ (q.take i).map shP → GoodP x := fun x hx => by
      obtain ⟨y, _, rfl⟩ := List.mem_map.1 hx
      exact shP_good y
    have hn : ((q.take i).map shP).length ≤ 8 := by simp; omega
    generalize (q.take i).map shP = L at *
    (repeat' first | with_reducible (first | refine Asm.intro fun _ => ?_ | refine Chk.g ?_ | refine AnyI.i64 fun _ _ => ?_ | refine LetW.g ?_ | refine LetW.h ?_ | refine Ite.t fun _ => ?_ | refine Ite.f fun _ => ?_ | refine Ite.decide (fun _ => ?_) fun _ => ?_ | refine Ite.bool (fun _ => ?_) fun _ => ?_ | refine And.intro ?_ ?_) | omega | simp (maxSteps := 1000000) only [go_sem, reduceCtorEq, Nat.reduceLT, Nat.reduceLeDiff, reduceIte, ↓reduceIte, Nat.reduceEqDiff, Nat.reduceAdd, Nat.reduceMul, Nat.reduceSub, Int.reduceLE, Int.reduceLT, Int.reduceNeg, Int.reduceToNat, minmax, hmin2, Int.toNat_natCast, List.length_map])
    generalize List.take (min ag.length 5 - 0) ag = a5 at *
    rw [← ha5]
    refine VcLoop.intro (fun z : Nat × List Pg => ⟨129, [(48, .int .i64 z.1), (47, .int .i64 a5.length), (46, .ro (.ints .i64 a5)), (9, .int .i64 L.length), (6, .own 0), (5, .own 1)], [(0, .row 28 (pgs z.2)), (1, .row 9 (.strs []))], 2⟩) (fun z => z.1 ≤ a5.length ∧ L.length ≤ z.2.length ∧ z.2.length ≤ 8 + z.1 ∧ ∀ x, x ∈ z.2 → GoodP x) (fun z => a5.length - z.1) (0, L) ?_ ⟨Nat.zero_le _, Nat.le_refl _, by omega, hgood⟩ fun z hz => ?_
    · refine Ent.auto0 rfl ?_ ?_ <;> simp only [go_sem, reduceCtorEq, reduceIte, Nat.reduceEqDiff, Nat.reduceLT, Nat.reduceLeDiff, Int.natCast_succ, List.length_map]
    obtain ⟨j, M⟩ := z
    obtain ⟨hj, hM1, hM2, hMg⟩ := hz
    dsimp only at hj hM1 hM2 hMg ⊢
    clear hgood
    by_cases hjl : j < a5.length
    · by_cases h0 : L.length = 0
      · have h0' : (L.length : Int) = 0 := by omega
        (repeat' first | with_reducible (first | refine Asm.intro fun _ => ?_ | refine Chk.g ?_ | refine AnyI.i64 fun _ _ => ?_ | refine LetW.g ?_ | refine LetW.h ?_ | refine Ite.t fun _ => ?_ | refine Ite.f fun _ => ?_ | refine Ite.decide (fun _ => ?_) fun _ => ?_ | refine Ite.bool (fun _ => ?_) fun _ => ?_ | refine And.intro ?_ ?_) | omega | simp (maxSteps := 1000000) only [go_sem, reduceCtorEq, Nat.reduceLT, Nat.reduceLeDiff, reduceIte, ↓reduceIte, Nat.reduceEqDiff, Nat.reduceAdd, Nat.reduceMul, Nat.reduceSub, Int.reduceLE, Int.reduceLT, Int.reduceNeg, Int.reduceToNat, h0'])
        refine Ret.auto 0 ?_ rfl ?_ <;> simp only [go_sem, reduceCtorEq, reduceIte, Nat.reduceEqDiff, Nat.reduceLT, Nat.reduceLeDiff, Int.natCast_succ, Post]
      · have h0' : ¬ (L.length : Int) = 0 := by omega
        obtain ⟨r1, r2⟩ := rem_in (a5.getD j 0) (f := L.length) (by omega)
        obtain ⟨r3, r4⟩ := rem_bd (a5.getD j 0) (f := L.length) (by omega)
        have hel := pg_elem M (i := (((a5.getD j 0).tmod L.length + L.length).tmod L.length).toNat) (by omega)
        have hgd := hMg (M.getD (((a5.getD j 0).tmod L.length + L.length).tmod L.length).toNat Pg.zero) (by rw [getD_lt (by omega)]; exact List.getElem_mem _)
        generalize M.getD (((a5.getD j 0).tmod L.length + L.length).tmod L.length).toNat Pg.zero = x at *
        generalize hk1 : (a5.getD j 0).tmod L.length = k1 at *
        generalize hk : (k1 + L.length).tmod L.length = k at *
        have hxa : x.av = [.int .i64 x.W, .int .i64 x.H, .ro (.bools x.p)] := rfl
        (repeat' first | with_reducible (first | refine Asm.intro fun _ => ?_ | refine Chk.g ?_ | refine AnyI.i64 fun _ _ => ?_ | refine LetW.g ?_ | refine LetW.h ?_ | refine Ite.t fun _ => ?_ | refine Ite.f fun _ => ?_ | refine Ite.decide (fun _ => ?_) fun _ => ?_ | refine Ite.bool (fun _ => ?_) fun _ => ?_ | refine And.intro ?_ ?_) | omega | simp (maxSteps := 1000000) only [go_sem, reduceCtorEq, Nat.reduceLT, Nat.reduceLeDiff, reduceIte, ↓reduceIte, Nat.reduceEqDiff, Nat.reduceAdd, Nat.reduceMul, Nat.reduceSub, Int.reduceLE, Int.reduceLT, Int.reduceNeg, Int.reduceToNat, h0', hk1, hk, elemA, hel, List.length_map])
        refine ⟨(j + 1, M ++ [x]), Ent.auto0 rfl ?_ ?_, ⟨by omega, by simp; omega, by simp; omega, fun y hy => ?_⟩, by dsimp only; omega⟩
        · simp only [go_sem, reduceCtorEq, reduceIte, Nat.reduceEqDiff, Nat.reduceLT, Nat.reduceLeDiff, Int.natCast_succ]
        · simp only [go_sem, reduceCtorEq, reduceIte, Nat.reduceEqDiff, Nat.reduceLT, Nat.reduceLeDiff, Int.natCast_succ, List.map_append, List.map_cons, List.map_nil, hxa]
        · rcases List.mem_append.1 hy with hy | hy
          · exact hMg y hy
          · rw [List.mem_singleton] at hy; subst hy; exact hgd
    · have hM13 : M.length ≤ 13 := by omega
      clear hM1 hM2 ha5
      (repeat' first | with_reducible (first | refine Asm.intro fun _ => ?_ | refine Chk.g ?_ | refine AnyI.i64 fun _ _ => ?_ | refine LetW.g ?_ | refine LetW.h ?_ | refine Ite.t fun _ => ?_ | refine Ite.f fun _ => ?_ | refine Ite.decide (fun _ => ?_) fun _ => ?_ | refine Ite.bool (fun _ => ?_) fun _ => ?_ | refine And.intro ?_ ?_) | omega | simp (maxSteps := 1000000) only [go_sem, reduceCtorEq, Nat.reduceLT, Nat.reduceLeDiff, reduceIte, ↓reduceIte, Nat.reduceEqDiff, Nat.reduceAdd, Nat.reduceMul, Nat.reduceSub, Int.reduceLE, Int.reduceLT, Int.reduceNeg, Int.reduceToNat, List.length_map])
      refine VcLoop.run (fun i : Nat => ⟨129, [(70, .int .i64 i), (69, .int .i64 M.length), (68, .ro (pgs M)), (5, .own 0)], [(0, .row 9 (.strs ((M.take i).map prG)))], 1⟩) (fun i => i ≤ M.length) (fun i => M.length - i) 0 ?_ (Nat.zero_le _) fun i hi => ?_
      · refine Ent.trans (Ent.fz 0 (e := 28) (r := pgs M) rfl (noIdR_ok _) (Nat.zero_le _)) ?_
        refine Ent.auto0 rfl ?_ ?_ <;> simp only [go_sem, reduceCtorEq, reduceIte, Nat.reduceEqDiff, Nat.reduceLT, Nat.reduceLeDiff, Int.natCast_succ, List.take_zero, List.map_nil]
      by_cases hlt2 : i < M.length
      · refine VcRun.of ?_
        have he := pg_elem M hlt2
        have hst := mapTake prG M Pg.zero hlt2
        obtain ⟨w, h, hw, hh, w1, w2, h1, h2, hp⟩ := hMg (M.getD i Pg.zero) (by rw [getD_lt hlt2]; exact List.getElem_mem _)
        have hn2 : ((M.take i).map prG).length ≤ 13 := by simp; omega
        generalize M.getD i Pg.zero = x at *
        have k1 := print_ok w h w1 w2 h1 h2 x.p hp
        have hpx : prG x = prOf x.p w h := by unfold prG; rw [hw, hh]; rfl
        rw [← hpx] at k1
        rw [hw, hh] at he
        generalize (M.take i).map prG = R at *
        generalize prG x = s at *
        (repeat' first | with_reducible (first | refine Asm.intro fun _ => ?_ | refine Chk.g ?_ | refine AnyI.i64 fun _ _ => ?_ | refine LetW.g ?_ | refine LetW.h ?_ | refine Ite.t fun _ => ?_ | refine Ite.f fun _ => ?_ | refine Ite.decide (fun _ => ?_) fun _ => ?_ | refine Ite.bool (fun _ => ?_) fun _ => ?_ | refine And.intro ?_ ?_) | omega | simp (maxSteps := 1000000) only [go_sem, reduceCtorEq, Nat.reduceLT, Nat.reduceLeDiff, reduceIte, ↓reduceIte, Nat.reduceEqDiff, Nat.reduceAdd, Nat.reduceMul, Nat.reduceSub, Int.reduceLE, Int.reduceLT, Int.reduceNeg, Int.reduceToNat, elemA, he, List.length_map])
        refine VcCall.fr (FnFr.of_ok (k1) rfl rfl) (by simp only [noIdR_ok, argOkL, argOk, allOk, argOkN, List.drop_zero, lk, reduceIte, reduceCtorEq, Nat.reduceEqDiff, Option.some.injEq, Item.row.injEq, Item.box.injEq, AV.ro.injEq, exists_eq_left, exists_and_left, exists_eq_left', exists_eq_right, and_assoc, and_true, true_and, List.cons.injEq, exists_eq', exists_eq]) 0 rfl (by simp [rowsB]) ?_
        (repeat' first | with_reducible (first | refine Asm.intro fun _ => ?_ | refine Chk.g ?_ | refine AnyI.i64 fun _ _ => ?_ | refine LetW.g ?_ | refine LetW.h ?_ | refine Ite.t fun _ => ?_ | refine Ite.f fun _ => ?_ | refine Ite.decide (fun _ => ?_) fun _ => ?_ | refine Ite.bool (fun _ => ?_) fun _ => ?_ | refine And.intro ?_ ?_) | omega | simp (maxSteps := 1000000) only [go_sem, reduceCtorEq, Nat.reduceLT, Nat.reduceLeDiff, reduceIte, ↓reduceIte, Nat.reduceEqDiff, Nat.reduceAdd, Nat.reduceMul, Nat.reduceSub, Int.reduceLE, Int.reduceLT, Int.reduceNeg, Int.reduceToNat])
        refine ⟨i + 1, Ent.auto0 rfl ?_ ?_, by omega, by omega⟩ <;> simp only [go_sem, reduceCtorEq, reduceIte, Nat.reduceEqDiff, Nat.reduceLT, Nat.reduceLeDiff, Int.natCast_succ, hst]
      · have e : i = M.length := by omega
        subst e
        rw [List.take_length]
        have hpa := pr_all (L := M)
        have hRl : (M.map prG).length ≤ 13 := by simp; omega
        generalize M.map prG = R at *
        have h64 := pr64 hpa
        have k2 := copies_ok R (by omega) 0
        have hE0 : copErr R 0 = 0 := by unfold copErr; rw [hpa]; decide
        rw [hE0, if_pos rfl] at k2
        have kg := fun n : Int => grp_ok (bigG (cpN R 0 R.length)) n
        have hgs := fun (i j : Nat) hi hj hne => groups_same h64 (i := i) (j := j) hi hj hne
        generalize bigG (cpN R 0 R.length) = G at *
        refine VcRun.ent (Ent.trans (Ent.fz 0 (e := 9) (r := .strs R) rfl rfl (Nat.zero_le _)) (Ent.refl _)) (VcRun.of ?_)
        (repeat' first | with_reducible (first | refine Asm.intro fun _ => ?_ | refine Chk.g ?_ | refine AnyI.i64 fun _ _ => ?_ | refine LetW.g ?_ | refine LetW.h ?_ | refine Ite.t fun _ => ?_ | refine Ite.f fun _ => ?_ | refine Ite.decide (fun _ => ?_) fun _ => ?_ | refine Ite.bool (fun _ => ?_) fun _ => ?_ | refine And.intro ?_ ?_) | omega | simp (maxSteps := 1000000) only [go_sem, reduceCtorEq, Nat.reduceLT, Nat.reduceLeDiff, reduceIte, ↓reduceIte, Nat.reduceEqDiff, Nat.reduceAdd, Nat.reduceMul, Nat.reduceSub, Int.reduceLE, Int.reduceLT, Int.reduceNeg, Int.reduceToNat, List.length_map])
        refine VcCall.ros (.tup [.ro (.objs 1 (G.map gAv)), .int .i64 0]) k2 (by simp only [noIdR_ok, argOkL, argOk, allOk, argOkN, List.drop_zero, lk, reduceIte, reduceCtorEq, Nat.reduceEqDiff, Option.some.injEq, Item.row.injEq, Item.box.injEq, AV.ro.injEq, exists_eq_left, exists_and_left, exists_eq_left', exists_eq_right, and_assoc, and_true, true_and, List.cons.injEq, exists_eq', exists_eq]) (by simp [outOk, argOkL, allOk, argOk, argOkN, lk, noIdR_ok]) rfl ?_
        (repeat' first | with_reducible (first | refine Asm.intro fun _ => ?_ | refine Chk.g ?_ | refine AnyI.i64 fun _ _ => ?_ | refine LetW.g ?_ | refine LetW.h ?_ | refine Ite.t fun _ => ?_ | refine Ite.f fun _ => ?_ | refine Ite.decide (fun _ => ?_) fun _ => ?_ | refine Ite.bool (fun _ => ?_) fun _ => ?_ | refine And.intro ?_ ?_) | omega | simp (maxSteps := 1000000) only [go_sem, reduceCtorEq, Nat.reduceLT, Nat.reduceLeDiff, reduceIte, ↓reduceIte, Nat.reduceEqDiff, Nat.reduceAdd, Nat.reduceMul, Nat.reduceSub, Int.reduceLE, Int.reduceLT, Int.reduceNeg, Int.reduceToNat])
        refine VcLoop.intro (fun i : Nat => ⟨129, [(96, .int .i64 i), (95, .int .i64 R.length), (18, .fn 9 [.ptr 0 0]), (5, .ro (.strs R))], [(0, .box 33 [.ro (.objs 1 (G.map gAv))])], 1⟩) (fun i => i ≤ R.length) (fun i => R.length - i) 0 ?_ (Nat.zero_le _) fun i hi => ?_
        · refine Ent.auto0 rfl ?_ ?_ <;> simp only [go_sem, reduceCtorEq, reduceIte, Nat.reduceEqDiff, Nat.reduceLT, Nat.reduceLeDiff, Int.natCast_succ]
        by_cases hil : i < R.length
        · (repeat' first | with_reducible (first | refine Asm.intro fun _ => ?_ | refine Chk.g ?_ | refine AnyI.i64 fun _ _ => ?_ | refine LetW.g ?_ | refine LetW.h ?_ | refine Ite.t fun _ => ?_ | refine Ite.f fun _ => ?_ | refine Ite.decide (fun _ => ?_) fun _ => ?_ | refine Ite.bool (fun _ => ?_) fun _ => ?_ | refine And.intro ?_ ?_) | omega | simp (maxSteps := 1000000) only [go_sem, reduceCtorEq, Nat.reduceLT, Nat.reduceLeDiff, reduceIte, ↓reduceIte, Nat.reduceEqDiff, Nat.reduceAdd, Nat.reduceMul, Nat.reduceSub, Int.reduceLE, Int.reduceLT, Int.reduceNeg, Int.reduceToNat])
          refine VcLoop.intro (fun j : Nat => ⟨129, [(100, .int .i64 j), (99, .int .i64 i), (19, .int .i64 i), (96, .int .i64 i), (95, .int .i64 R.length), (18, .fn 9 [.ptr 0 0]), (5, .ro (.strs R))], [(0, .box 33 [.ro (.objs 1 (G.map gAv))])], 1⟩) (fun j => j ≤ i) (fun j => i - j) 0 ?_ (Nat.zero_le _) fun j hj => ?_
          · refine Ent.auto0 rfl ?_ ?_ <;> simp only [go_sem, reduceCtorEq, reduceIte, Nat.reduceEqDiff, Nat.reduceLT, Nat.reduceLeDiff, Int.natCast_succ]
          by_cases hji : j < i
          · have hg := hgs i j hil (by omega) (by omega)
            have ki := kg i
            have kj := kg j
            generalize hu : R.getD i [] = u at *
            generalize hv : R.getD j [] = v at *
            generalize grpOf G i = gi at *
            generalize grpOf G j = gj at *
            by_cases he : u = v
            · obtain ⟨g0, g1⟩ := hg.1 he
              subst g1
              (repeat' first | with_reducible (first | refine Asm.intro fun _ => ?_ | refine Chk.g ?_ | refine AnyI.i64 fun _ _ => ?_ | refine LetW.g ?_ | refine LetW.h ?_ | refine Ite.t fun _ => ?_ | refine Ite.f fun _ => ?_ | refine Ite.decide (fun _ => ?_) fun _ => ?_ | refine Ite.bool (fun _ => ?_) fun _ => ?_ | refine And.intro ?_ ?_) | omega | simp (maxSteps := 1000000) only [go_sem, reduceCtorEq, Nat.reduceLT, Nat.reduceLeDiff, reduceIte, ↓reduceIte, Nat.reduceEqDiff, Nat.reduceAdd, Nat.reduceMul, Nat.reduceSub, Int.reduceLE, Int.reduceLT, Int.reduceNeg, Int.reduceToNat])
              refine VcDraw.lex [] [] (by kernel_rfl) (by kernel_rfl) ?_
              (repeat' first | with_reducible (first | refine Asm.intro fun _ => ?_ | refine Chk.g ?_ | refine AnyI.i64 fun _ _ => ?_ | refine LetW.g ?_ | refine LetW.h ?_ | refine Ite.t fun _ => ?_ | refine Ite.f fun _ => ?_ | refine Ite.decide (fun _ => ?_) fun _ => ?_ | refine Ite.bool (fun _ => ?_) fun _ => ?_ | refine And.intro ?_ ?_) | omega | simp (maxSteps := 1000000) only [go_sem, reduceCtorEq, Nat.reduceLT, Nat.reduceLeDiff, reduceIte, ↓reduceIte, Nat.reduceEqDiff, Nat.reduceAdd, Nat.reduceMul, Nat.reduceSub, Int.reduceLE, Int.reduceLT, Int.reduceNeg, Int.reduceToNat, Int.toNat_natCast, hu, hv, he])
              refine VcCall.fr (FnFr.of_ok (ki) rfl rfl) (by simp only [noIdR_ok, argOkL, argOk, allOk, argOkN, List.drop_zero, lk, reduceIte, reduceCtorEq, Nat.reduceEqDiff, Option.some.injEq, Item.row.injEq, Item.box.injEq, AV.ro.injEq, exists_eq_left, exists_and_left, exists_eq_left', exists_eq_right, and_assoc, and_true, true_and, List.cons.injEq, exists_eq', exists_eq]) 0 rfl (by simp [rowsB]) ?_
              (repeat' first | with_reducible (first | refine Asm.intro fun _ => ?_ | refine Chk.g ?_ | refine AnyI.i64 fun _ _ => ?_ | refine LetW.g ?_ | refine LetW.h ?_ | refine Ite.t fun _ => ?_ | refine Ite.f fun _ => ?_ | refine Ite.decide (fun _ => ?_) fun _ => ?_ | refine Ite.bool (fun _ => ?_) fun _ => ?_ | refine And.intro ?_ ?_) | omega | simp (maxSteps := 1000000) only [go_sem, reduceCtorEq, Nat.reduceLT, Nat.reduceLeDiff, reduceIte, ↓reduceIte, Nat.reduceEqDiff, Nat.reduceAdd, Nat.reduceMul, Nat.reduceSub, Int.reduceLE, Int.reduceLT, Int.reduceNeg, Int.reduceToNat, g0])
              refine VcCall.fr (FnFr.of_ok (ki) rfl rfl) (by simp only [noIdR_ok, argOkL, argOk, allOk, argOkN, List.drop_zero, lk, reduceIte, reduceCtorEq, Nat.reduceEqDiff, Option.some.injEq, Item.row.injEq, Item.box.injEq, AV.ro.injEq, exists_eq_left, exists_and_left, exists_eq_left', exists_eq_right, and_assoc, and_true, true_and, List.cons.injEq, exists_eq', exists_eq]) 0 rfl (by simp [rowsB]) ?_
              (repeat' first | with_reducible (first | refine Asm.intro fun _ => ?_ | refine Chk.g ?_ | refine AnyI.i64 fun _ _ => ?_ | refine LetW.g ?_ | refine LetW.h ?_ | refine Ite.t fun _ => ?_ | refine Ite.f fun _ => ?_ | refine Ite.decide (fun _ => ?_) fun _ => ?_ | refine Ite.bool (fun _ => ?_) fun _ => ?_ | refine And.intro ?_ ?_) | omega | simp (maxSteps := 1000000) only [go_sem, reduceCtorEq, Nat.reduceLT, Nat.reduceLeDiff, reduceIte, ↓reduceIte, Nat.reduceEqDiff, Nat.reduceAdd, Nat.reduceMul, Nat.reduceSub, Int.reduceLE, Int.reduceLT, Int.reduceNeg, Int.reduceToNat])
              refine VcCall.fr (FnFr.of_ok (kj) rfl rfl) (by simp only [noIdR_ok, argOkL, argOk, allOk, argOkN, List.drop_zero, lk, reduceIte, reduceCtorEq, Nat.reduceEqDiff, Option.some.injEq, Item.row.injEq, Item.box.injEq, AV.ro.injEq, exists_eq_left, exists_and_left, exists_eq_left', exists_eq_right, and_assoc, and_true, true_and, List.cons.injEq, exists_eq', exists_eq]) 0 rfl (by simp [rowsB]) ?_
              (repeat' first | with_reducible (first | refine Asm.intro fun _ => ?_ | refine Chk.g ?_ | refine AnyI.i64 fun _ _ => ?_ | refine LetW.g ?_ | refine LetW.h ?_ | refine Ite.t fun _ => ?_ | refine Ite.f fun _ => ?_ | refine Ite.decide (fun _ => ?_) fun _ => ?_ | refine Ite.bool (fun _ => ?_) fun _ => ?_ | refine And.intro ?_ ?_) | omega | simp (maxSteps := 1000000) only [go_sem, reduceCtorEq, Nat.reduceLT, Nat.reduceLeDiff, reduceIte, ↓reduceIte, Nat.reduceEqDiff, Nat.reduceAdd, Nat.reduceMul, Nat.reduceSub, Int.reduceLE, Int.reduceLT, Int.reduceNeg, Int.reduceToNat])
              refine ⟨j + 1, Ent.auto0 rfl ?_ ?_, by omega, by omega⟩ <;> simp only [go_sem, reduceCtorEq, reduceIte, Nat.reduceEqDiff, Nat.reduceLT, Nat.reduceLeDiff, Int.natCast_succ]
            · have hno := fun h => he (hg.2 h)
              (repeat' first | with_reducible (first | refine Asm.intro fun _ => ?_ | refine Chk.g ?_ | refine AnyI.i64 fun _ _ => ?_ | refine LetW.g ?_ | refine LetW.h ?_ | refine Ite.t fun _ => ?_ | refine Ite.f fun _ => ?_ | refine Ite.decide (fun _ => ?_) fun _ => ?_ | refine Ite.bool (fun _ => ?_) fun _ => ?_ | refine And.intro ?_ ?_) | omega | simp (maxSteps := 1000000) only [go_sem, reduceCtorEq, Nat.reduceLT, Nat.reduceLeDiff, reduceIte, ↓reduceIte, Nat.reduceEqDiff, Nat.reduceAdd, Nat.reduceMul, Nat.reduceSub, Int.reduceLE, Int.reduceLT, Int.reduceNeg, Int.reduceToNat])
              refine VcDraw.lex [] [] (by kernel_rfl) (by kernel_rfl) ?_
              (repeat' first | with_reducible (first | refine Asm.intro fun _ => ?_ | refine Chk.g ?_ | refine AnyI.i64 fun _ _ => ?_ | refine LetW.g ?_ | refine LetW.h ?_ | refine Ite.t fun _ => ?_ | refine Ite.f fun _ => ?_ | refine Ite.decide (fun _ => ?_) fun _ => ?_ | refine Ite.bool (fun _ => ?_) fun _ => ?_ | refine And.intro ?_ ?_) | omega | simp (maxSteps := 1000000) only [go_sem, reduceCtorEq, Nat.reduceLT, Nat.reduceLeDiff, reduceIte, ↓reduceIte, Nat.reduceEqDiff, Nat.reduceAdd, Nat.reduceMul, Nat.reduceSub, Int.reduceLE, Int.reduceLT, Int.reduceNeg, Int.reduceToNat, Int.toNat_natCast, hu, hv, he])
              refine VcCall.fr (FnFr.of_ok (ki) rfl rfl) (by simp only [noIdR_ok, argOkL, argOk, allOk, argOkN, List.drop_zero, lk, reduceIte, reduceCtorEq, Nat.reduceEqDiff, Option.some.injEq, Item.row.injEq, Item.box.injEq, AV.ro.injEq, exists_eq_left, exists_and_left, exists_eq_left', exists_eq_right, and_assoc, and_true, true_and, List.cons.injEq, exists_eq', exists_eq]) 0 rfl (by simp [rowsB]) ?_
              by_cases g0 : 0 ≤ gi
              · have g1 : ¬ gi = gj := fun e => hno ⟨g0, e⟩
                (repeat' first | with_reducible (first | refine Asm.intro fun _ => ?_ | refine Chk.g ?_ | refine AnyI.i64 fun _ _ => ?_ | refine LetW.g ?_ | refine LetW.h ?_ | refine Ite.t fun _ => ?_ | refine Ite.f fun _ => ?_ | refine Ite.decide (fun _ => ?_) fun _ => ?_ | refine Ite.bool (fun _ => ?_) fun _ => ?_ | refine And.intro ?_ ?_) | omega | simp (maxSteps := 1000000) only [go_sem, reduceCtorEq, Nat.reduceLT, Nat.reduceLeDiff, reduceIte, ↓reduceIte, Nat.reduceEqDiff, Nat.reduceAdd, Nat.reduceMul, Nat.reduceSub, Int.reduceLE, Int.reduceLT, Int.reduceNeg, Int.reduceToNat, g0])
                refine VcCall.fr (FnFr.of_ok (ki) rfl rfl) (by simp only [noIdR_ok, argOkL, argOk, allOk, argOkN, List.drop_zero, lk, reduceIte, reduceCtorEq, Nat.reduceEqDiff, Option.some.injEq, Item.row.injEq, Item.box.injEq, AV.ro.injEq, exists_eq_left, exists_and_left, exists_eq_left', exists_eq_right, and_assoc, and_true, true_and, List.cons.injEq, exists_eq', exists_eq]) 0 rfl (by simp [rowsB]) ?_
                (repeat' first | with_reducible (first | refine Asm.intro fun _ => ?_ | refine Chk.g ?_ | refine AnyI.i64 fun _ _ => ?_ | refine LetW.g ?_ | refine LetW.h ?_ | refine Ite.t fun _ => ?_ | refine Ite.f fun _ => ?_ | refine Ite.decide (fun _ => ?_) fun _ => ?_ | refine Ite.bool (fun _ => ?_) fun _ => ?_ | refine And.intro ?_ ?_) | omega | simp (maxSteps := 1000000) only [go_sem, reduceCtorEq, Nat.reduceLT, Nat.reduceLeDiff, reduceIte, ↓reduceIte, Nat.reduceEqDiff, Nat.reduceAdd, Nat.reduceMul, Nat.reduceSub, Int.reduceLE, Int.reduceLT, Int.reduceNeg, Int.reduceToNat])
                refine VcCall.fr (FnFr.of_ok (kj) rfl rfl) (by simp only [noIdR_ok, argOkL, argOk, allOk, argOkN, List.drop_zero, lk, reduceIte, reduceCtorEq, Nat.reduceEqDiff, Option.some.injEq, Item.row.injEq, Item.box.injEq, AV.ro.injEq, exists_eq_left, exists_and_left, exists_eq_left', exists_eq_right, and_assoc, and_true, true_and, List.cons.injEq, exists_eq', exists_eq]) 0 rfl (by simp [rowsB]) ?_
                (repeat' first | with_reducible (first | refine Asm.intro fun _ => ?_ | refine Chk.g ?_ | refine AnyI.i64 fun _ _ => ?_ | refine LetW.g ?_ | refine LetW.h ?_ | refine Ite.t fun _ => ?_ | refine Ite.f fun _ => ?_ | refine Ite.decide (fun _ => ?_) fun _ => ?_ | refine Ite.bool (fun _ => ?_) fun _ => ?_ | refine And.intro ?_ ?_) | omega | simp (maxSteps := 1000000) only [go_sem, reduceCtorEq, Nat.reduceLT, Nat.reduceLeDiff, reduceIte, ↓reduceIte, Nat.reduceEqDiff, Nat.reduceAdd, Nat.reduceMul, Nat.reduceSub, Int.reduceLE, Int.reduceLT, Int.reduceNeg, Int.reduceToNat, g1])
                refine ⟨j + 1, Ent.auto0 rfl ?_ ?_, by omega, by omega⟩ <;> simp only [go_sem, reduceCtorEq, reduceIte, Nat.reduceEqDiff, Nat.reduceLT, Nat.reduceLeDiff, Int.natCast_succ]
              · (repeat' first | with_reducible (first | refine Asm.intro fun _ => ?_ | refine Chk.g ?_ | refine AnyI.i64 fun _ _ => ?_ | refine LetW.g ?_ | refine LetW.h ?_ | refine Ite.t fun _ => ?_ | refine Ite.f fun _ => ?_ | refine Ite.decide (fun _ => ?_) fun _ => ?_ | refine Ite.bool (fun _ => ?_) fun _ => ?_ | refine And.intro ?_ ?_) | omega | simp (maxSteps := 1000000) only [go_sem, reduceCtorEq, Nat.reduceLT, Nat.reduceLeDiff, reduceIte, ↓reduceIte, Nat.reduceEqDiff, Nat.reduceAdd, Nat.reduceMul, Nat.reduceSub, Int.reduceLE, Int.reduceLT, Int.reduceNeg, Int.reduceToNat, g0])
                refine ⟨j + 1, Ent.auto0 rfl ?_ ?_, by omega, by omega⟩ <;> simp only [go_sem, reduceCtorEq, reduceIte, Nat.reduceEqDiff, Nat.reduceLT, Nat.reduceLeDiff, Int.natCast_succ]
          · (repeat' first | with_reducible (first | refine Asm.intro fun _ => ?_ | refine Chk.g ?_ | refine AnyI.i64 fun _ _ => ?_ | refine LetW.g ?_ | refine LetW.h ?_ | refine Ite.t fun _ => ?_ | refine Ite.f fun _ => ?_ | refine Ite.decide (fun _ => ?_) fun _ => ?_ | refine Ite.bool (fun _ => ?_) fun _ => ?_ | refine And.intro ?_ ?_) | omega | simp (maxSteps := 1000000) only [go_sem, reduceCtorEq, Nat.reduceLT, Nat.reduceLeDiff, reduceIte, ↓reduceIte, Nat.reduceEqDiff, Nat.reduceAdd, Nat.reduceMul, Nat.reduceSub, Int.reduceLE, Int.reduceLT, Int.reduceNeg, Int.reduceToNat])
            refine ⟨i + 1, Ent.auto0 rfl ?_ ?_, by omega, by omega⟩ <;> simp only [go_sem, reduceCtorEq, reduceIte, Nat.reduceEqDiff, Nat.reduceLT, Nat.reduceLeDiff, Int.natCast_succ]
        · (repeat' first | with_reducible (first | refine Asm.intro fun _ => ?_ | refine Chk.g ?_ | refine AnyI.i64 fun _ _ => ?_ | refine LetW.g ?_ | refine LetW.h ?_ | refine Ite.t fun _ => ?_ | refine Ite.f fun _ => ?_ | refine Ite.decide (fun _ => ?_) fun _ => ?_ | refine Ite.bool (fun _ => ?_) fun _ => ?_ | refine And.intro ?_ ?_) | omega | simp (maxSteps := 1000000) only [go_sem, reduceCtorEq, Nat.reduceLT, Nat.reduceLeDiff, reduceIte, ↓reduceIte, Nat.reduceEqDiff, Nat.reduceAdd, Nat.reduceMul, Nat.reduceSub, Int.reduceLE, Int.reduceLT, Int.reduceNeg, Int.reduceToNat])
          refine Ret.auto 0 ?_ rfl ?_ <;> simp only [go_sem, reduceCtorEq, reduceIte, Nat.reduceEqDiff, Nat.reduceLT, Nat.reduceLeDiff, Int.natCast_succ, Post]
end Go.Fv.T
