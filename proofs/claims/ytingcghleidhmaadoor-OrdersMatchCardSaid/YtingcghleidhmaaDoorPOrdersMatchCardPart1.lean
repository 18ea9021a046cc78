/-
  A part of the proof of the claim: walks over the program's functions and the plain laws that these need. No condition of its own.
-/
import Derived.Test.YtingcghleidhmaaDoorFvPart10
import Derived.Test.YtingcghleidhmaaDoorFvPart9
import Derived.Test.YtingcghleidhmaaDoorFvPart11
import Derived.Test.YtingcghleidhmaaDoorProg
/- Boxes, and the boxes of pixels, in plain words. -/
namespace Go.Fv.P
open Go
set_option linter.unusedSimpArgs false
set_option linter.unusedVariables false
set_option maxRecDepth 8000

structure Bx where
  x : Int
  y : Int
  w : Int
  h : Int
def Bx.av (b : Bx) : List AV := [.int .i64 b.x, .int .i64 b.y, .int .i64 b.w, .int .i64 b.h]
def Bx.zero : Bx := ⟨0, 0, 0, 0⟩
abbrev bxs (l : List Bx) : RowV := .objs 4 (l.map Bx.av)
instance : FNoId Bx.av := ⟨fun _ => rfl⟩
theorem bx_elem (l : List Bx) {i : Nat} (h : i < l.length) : (l.map Bx.av).getD i [] = [.int .i64 (l.getD i Bx.zero).x, .int .i64 (l.getD i Bx.zero).y, .int .i64 (l.getD i Bx.zero).w, .int .i64 (l.getD i Bx.zero).h] := by
  simp [List.getD_eq_getElem?_getD, h, Bx.av]
end Go.Fv.P

/-! The order of reading: plain law. -/
namespace Go.Fv.P
open Go
set_option linter.unusedSimpArgs false
set_option linter.unusedVariables false

/-! ### The widest stretch that no box has -/
/-- The state: where all that was seen ends; the best stretch (from, many). -/
def gapStep (least : Int) (s : Int × Int × Int) (p : Int × Int) : Int × Int × Int := (max s.1 p.2, if least ≤ p.1 - s.1 ∧ s.2.2 < p.1 - s.1 then (s.1, p.1 - s.1) else s.2)
def gapFold (least : Int) : List (Int × Int) → Int × Int
  | [] => (0, 0)
  | p :: l => (l.foldl (gapStep least) (p.2, 0, 0)).2
/-- A stretch that ends where one begins. -/
def Cand (M : List (Int × Int)) (least : Int) (c : Int × Int) : Prop := ∃ f t, (f, t) ∈ M ∧ (∃ q, q ∈ M ∧ q.1 < f ∧ q.2 = c.1) ∧ (∀ q, q ∈ M → q.1 < f → q.2 ≤ c.1) ∧ c.2 = f - c.1 ∧ least ≤ c.2
def Best (M : List (Int × Int)) (least : Int) (c : Int × Int) : Prop := (c = (0, 0) ∧ ∀ d, ¬ Cand M least d) ∨ (Cand M least c ∧ ∀ d, Cand M least d → d.2 < c.2 ∨ (d.2 = c.2 ∧ c.1 ≤ d.1))
theorem Cand.congr {M M' : List (Int × Int)} (h : ∀ p, p ∈ M ↔ p ∈ M') {least : Int} {c : Int × Int} (hc : Cand M least c) : Cand M' least c := by
  obtain ⟨f, t, h1, ⟨q, h2, h3⟩, h4, h5⟩ := hc
  exact ⟨f, t, (h _).1 h1, ⟨q, (h _).1 h2, h3⟩, fun q hq => h4 q ((h _).2 hq), h5⟩
theorem Best.unique {M M' : List (Int × Int)} (h : ∀ p, p ∈ M ↔ p ∈ M') {least : Int} {c d : Int × Int} (hc : Best M least c) (hd : Best M' least d) : c = d := by
  have h' : ∀ p, p ∈ M' ↔ p ∈ M := fun p => (h p).symm
  rcases hc with ⟨rfl, hc⟩ | ⟨hc, hc2⟩
  · rcases hd with ⟨rfl, _⟩ | ⟨hd, _⟩
    · rfl
    · exact absurd (hd.congr h') (hc _)
  · rcases hd with ⟨rfl, hd⟩ | ⟨hd, hd2⟩
    · exact absurd (hc.congr h) (hd _)
    · have h1 := hc2 d (hd.congr h')
      have h2 := hd2 c (hc.congr h)
      exact Prod.ext (by omega) (by omega)
structure GInv (least : Int) (M : List (Int × Int)) (s : Int × Int × Int) : Prop where
  hi : ∀ q, q ∈ M → q.2 ≤ s.1
  at' : ∃ q, q ∈ M ∧ q.2 = s.1
  best : Best M least s.2
  bd : (s.2 = (0, 0) ∨ s.2.1 ≤ s.1) ∧ 0 ≤ s.2.2
theorem GInv.step {least : Int} (hl : 1 ≤ least) {M : List (Int × Int)} {s : Int × Int × Int} {p : Int × Int} (h : GInv least M s) (hM : ∀ q, q ∈ M → q.1 < q.2) (hp : p.1 < p.2) (hs : ∀ q, q ∈ M → q.1 ≤ p.1) : GInv least (M ++ [p]) (gapStep least s p) := by
  obtain ⟨e, b⟩ := s
  obtain ⟨f, t⟩ := p
  dsimp only at hp hs
  have hhi := h.hi
  obtain ⟨q0, hq0, he0⟩ := h.at'
  have hbest := h.best
  have hbd := h.bd
  dsimp only at hhi he0 hbest hbd
  -- stretches of the longer list
  have old : ∀ c, Cand M least c → Cand (M ++ [(f, t)]) least c := by
    rintro c ⟨f', t', h1, ⟨q, h2, h3⟩, h4, h5⟩
    refine ⟨f', t', by simp [h1], ⟨q, by simp [h2], h3⟩, fun q hq hlt => ?_, h5⟩
    rcases List.mem_append.1 hq with hq | hq
    · exact h4 q hq hlt
    · rw [List.mem_singleton.1 hq] at hlt
      have := hs _ h1
      dsimp only at this hlt; omega
  have new : ∀ c, Cand (M ++ [(f, t)]) least c → Cand M least c ∨ (c = (e, f - e) ∧ least ≤ f - e) := by
    rintro ⟨ce, cg⟩ ⟨f', t', h1, ⟨q, h2, h3, h3'⟩, h4, h5, h6⟩
    dsimp only at h3' h4 h5 h6
    have hqM : f' ≤ f → q ∈ M := fun hle => by
      rcases List.mem_append.1 h2 with h2 | h2
      · exact h2
      · rw [List.mem_singleton.1 h2] at h3; dsimp only at h3; omega
    rcases List.mem_append.1 h1 with h1 | h1
    · exact .inl ⟨f', t', h1, ⟨q, hqM (hs _ h1), h3, h3'⟩, fun q hq => h4 q (by simp [hq]), h5, h6⟩
    · rw [List.mem_singleton] at h1
      obtain ⟨rfl, rfl⟩ := Prod.mk.inj h1
      by_cases heq : ∃ r, r ∈ M ∧ r.1 = f'
      · obtain ⟨r, hr, hrf⟩ := heq
        obtain ⟨rf, rt⟩ := r
        dsimp only at hrf
        subst hrf
        exact .inl ⟨rf, rt, hr, ⟨q, hqM (Int.le_refl _), h3, h3'⟩, fun q hq => h4 q (by simp [hq]), h5, h6⟩
      · have hlt : ∀ r, r ∈ M → r.1 < f' := fun r hr => by
          have := hs r hr
          have : r.1 ≠ f' := fun e => heq ⟨r, hr, e⟩
          omega
        have e1 := h4 q0 (by simp [hq0]) (hlt _ hq0)
        have e2 := hhi q (hqM (Int.le_refl _))
        have : ce = e := by omega
        subst this
        exact .inr ⟨by rw [h5], by omega⟩
  have nw : least ≤ f - e → Cand (M ++ [(f, t)]) least (e, f - e) := fun hle => by
    refine ⟨f, t, by simp, ⟨q0, by simp [hq0], by have := hM q0 hq0; omega, he0⟩, fun q hq hlt => ?_, rfl, hle⟩
    rcases List.mem_append.1 hq with hq | hq
    · exact hhi q hq
    · rw [List.mem_singleton.1 hq] at hlt; dsimp only at hlt; omega
  refine ⟨fun q hq => ?_, ?_, ?_, ?_⟩
  · unfold gapStep; dsimp only
    rcases List.mem_append.1 hq with hq | hq
    · have := hhi q hq; omega
    · rw [List.mem_singleton.1 hq]; dsimp only; omega
  · unfold gapStep; dsimp only
    by_cases hte : e ≤ t
    · exact ⟨(f, t), by simp, by dsimp only; omega⟩
    · exact ⟨q0, by simp [hq0], by omega⟩
  · unfold gapStep
    dsimp only
    split
    · rename_i hc
      refine .inr ⟨nw hc.1, fun d hd => ?_⟩
      rcases new d hd with hd | ⟨rfl, _⟩
      · rcases hbest with ⟨rfl, hb⟩ | ⟨hb, hb2⟩
        · exact absurd hd (hb d)
        · have := hb2 d hd
          dsimp only; omega
      · exact .inr ⟨rfl, Int.le_refl _⟩
    · rename_i hc
      rcases hbest with ⟨rfl, hb⟩ | ⟨hb, hb2⟩
      · refine .inl ⟨rfl, fun d hd => ?_⟩
        rcases new d hd with hd | ⟨rfl, h2⟩
        · exact hb d hd
        · dsimp only at hc; omega
      · refine .inr ⟨old _ hb, fun d hd => ?_⟩
        rcases new d hd with hd | ⟨rfl, h2⟩
        · exact hb2 d hd
        · have h1 : b.1 ≤ e := by
            obtain ⟨_, _, _, ⟨q, h2, _, h3⟩, _⟩ := hb
            have := hhi q h2; omega
          dsimp only
          omega
  · unfold gapStep
    dsimp only
    split
    · rename_i hc
      exact ⟨.inr (by dsimp only; omega), by dsimp only; omega⟩
    · refine ⟨?_, hbd.2⟩
      rcases hbd.1 with h1 | h1
      · exact .inl h1
      · exact .inr (by omega)
theorem gapGo_best {least : Int} (hl : 1 ≤ least) : ∀ (l M : List (Int × Int)) (s : Int × Int × Int), GInv least M s → (∀ q, q ∈ M ++ l → q.1 < q.2) → (M ++ l).Pairwise (fun p q => p.1 ≤ q.1) → GInv least (M ++ l) (l.foldl (gapStep least) s)
  | [], M, s, h, _, _ => by rw [List.append_nil]; exact h
  | p :: l, M, s, h, hM, hs => by
    have e : M ++ p :: l = (M ++ [p]) ++ l := by simp
    rw [e] at hs hM ⊢
    rw [List.foldl_cons]
    refine gapGo_best hl l (M ++ [p]) _ (h.step hl (fun q hq => hM q (by simp [hq])) (hM p (by simp)) fun q hq => ?_) hM hs
    exact (List.pairwise_append.1 (List.pairwise_append.1 hs).1).2.2 q hq p (by simp)
theorem ginv_one {least : Int} (p : Int × Int) : GInv least [p] (p.2, 0, 0) where
  hi := fun q hq => by rw [List.mem_singleton.1 hq]; exact Int.le_refl _
  at' := ⟨p, by simp, rfl⟩
  best := .inl ⟨rfl, fun d => by
    rintro ⟨f, t, h1, ⟨q, h2, h3, _⟩, _⟩
    rw [List.mem_singleton] at h1 h2
    subst h1; subst h2
    dsimp only at h3; omega⟩
  bd := ⟨.inl rfl, Int.le_refl _⟩
theorem gapFold_inv {least : Int} (hl : 1 ≤ least) {p : Int × Int} {l : List (Int × Int)} (hM : ∀ q, q ∈ p :: l → q.1 < q.2) (hs : (p :: l).Pairwise fun p q => p.1 ≤ q.1) : GInv least (p :: l) (l.foldl (gapStep least) (p.2, 0, 0)) :=
  gapGo_best hl l [p] _ (ginv_one p) hM hs
/-- What is found does not hang on how equal ones are sorted. -/
theorem gapFold_perm {least : Int} (hl : 1 ≤ least) {l l' : List (Int × Int)} (h : l.Perm l') (hM : ∀ q, q ∈ l → q.1 < q.2) (hs : l.Pairwise fun p q => p.1 ≤ q.1) (hs' : l'.Pairwise fun p q => p.1 ≤ q.1) : gapFold least l = gapFold least l' := by
  cases l with
  | nil => rw [List.nil_perm.1 h]
  | cons p l =>
    cases l' with
    | nil => exact absurd (List.perm_nil.1 h) (by simp)
    | cons p' l' =>
      exact Best.unique (fun q => h.mem_iff) (gapFold_inv hl hM hs).best (gapFold_inv hl (fun q hq => hM q (h.mem_iff.2 hq)) hs').best
/-- The first one, taken once more, changes nothing. -/
theorem gapStep_first {least : Int} (hl : 1 ≤ least) (p : Int × Int) (hp : p.1 < p.2) : gapStep least (p.2, 0, 0) p = (p.2, 0, 0) := by
  unfold gapStep
  dsimp only
  rw [if_neg (by omega)]
  congr 1; omega
def sortPr (l : List (Int × Int)) : List (Int × Int) := l.mergeSort fun p q => decide (p.1 ≤ q.1)
theorem sortPr_perm (l : List (Int × Int)) : (sortPr l).Perm l := List.mergeSort_perm _ _
theorem sortPr_sorted (l : List (Int × Int)) : (sortPr l).Pairwise fun p q => p.1 ≤ q.1 := by
  have := List.pairwise_mergeSort (le := fun p q : Int × Int => decide (p.1 ≤ q.1)) (fun a b c h1 h2 => by simp at *; omega) (fun a b => by simp; omega) l
  exact this.imp fun h => of_decide_eq_true h
/-- The first of the widest stretches. -/
def gapOf (least : Int) (l : List (Int × Int)) : Int × Int := gapFold least (sortPr l)
theorem gapOf_sorted {least : Int} (hl : 1 ≤ least) {l l' : List (Int × Int)} (h : l'.Perm l) (hM : ∀ q, q ∈ l → q.1 < q.2) (hs : l'.Pairwise fun p q => p.1 ≤ q.1) : gapFold least l' = gapOf least l :=
  gapFold_perm hl (h.trans (sortPr_perm l).symm) (fun q hq => hM q (h.mem_iff.1 hq)) hs (sortPr_sorted l)
theorem gapOf_perm {least : Int} (hl : 1 ≤ least) {l l' : List (Int × Int)} (h : l.Perm l') (hM : ∀ q, q ∈ l → q.1 < q.2) : gapOf least l = gapOf least l' :=
  gapFold_perm hl ((sortPr_perm l).trans (h.trans (sortPr_perm l').symm)) (fun q hq => hM q ((sortPr_perm l).mem_iff.1 hq)) (sortPr_sorted l) (sortPr_sorted l')
/-- Some begin ahead of a stretch that was found, and some do not. -/
theorem gapOf_parts {least : Int} (hl : 1 ≤ least) {l : List (Int × Int)} (hM : ∀ q, q ∈ l → q.1 < q.2) (h : (gapOf least l).2 ≠ 0) : (∃ q, q ∈ l ∧ q.1 < (gapOf least l).1) ∧ (∃ q, q ∈ l ∧ ¬ q.1 < (gapOf least l).1) ∧ 0 < (gapOf least l).2 := by
  have hp := sortPr_perm l
  have hs := sortPr_sorted l
  unfold gapOf at *
  generalize sortPr l = m at *
  cases m with
  | nil => exact absurd rfl h
  | cons p m =>
    have hi := gapFold_inv hl (fun q hq => hM q (hp.mem_iff.1 hq)) hs
    rcases hi.best with ⟨e, _⟩ | ⟨⟨f, t, h1, ⟨q, h2, h3, h4⟩, h5, h6, h7⟩, _⟩
    · exact absurd (show (gapFold least (p :: m)).2 = 0 from (congrArg Prod.snd e : (m.foldl (gapStep least) (p.2, 0, 0)).2.2 = 0)) h
    · have hq := hM q (hp.mem_iff.1 h2)
      have hg : gapFold least (p :: m) = (m.foldl (gapStep least) (p.2, 0, 0)).2 := rfl
      rw [hg]
      refine ⟨⟨q, hp.mem_iff.1 h2, by omega⟩, ⟨(f, t), hp.mem_iff.1 h1, by dsimp only; omega⟩, by omega⟩

/-! ### The order -/
def fx (b : Bx) : Int × Int := (b.x, b.x + b.w)
def fy (b : Bx) : Int × Int := (b.y, b.y + b.h)
def atG (c r : Int × Int) (gx gy : Int) : Prop := 0 < c.2 ∧ (r.2 = 0 ∨ r.2 * gx < c.2 * gy)
instance (c r : Int × Int) (gx gy : Int) : Decidable (atG c r gx gy) := inferInstanceAs (Decidable (_ ∧ _))
section
variable {τ : Type} (b : τ → Bx) (srt : List τ → List τ) (gx gy : Int)
/-- The order of reading, of things with boxes; 'srt': how those are read that no stretch parts. -/
def ordGo : Nat → List τ → List τ
  | 0, l => l
  | n + 1, l =>
    if l.length < 2 then l
    else if (gapOf gx (l.map fun i => fx (b i))).2 = 0 ∧ (gapOf gy (l.map fun i => fy (b i))).2 = 0 then srt l
    else if atG (gapOf gx (l.map fun i => fx (b i))) (gapOf gy (l.map fun i => fy (b i))) gx gy then
      ordGo n (l.filter fun i => decide ((b i).x < (gapOf gx (l.map fun i => fx (b i))).1)) ++ ordGo n (l.filter fun i => !decide ((b i).x < (gapOf gx (l.map fun i => fx (b i))).1))
    else
      ordGo n (l.filter fun i => decide ((b i).y < (gapOf gy (l.map fun i => fy (b i))).1)) ++ ordGo n (l.filter fun i => !decide ((b i).y < (gapOf gy (l.map fun i => fy (b i))).1))
end
theorem filter_lt {τ : Type} {p : τ → Bool} {l : List τ} (h : ∃ x, x ∈ l ∧ p x = false) : (l.filter p).length < l.length := by
  obtain ⟨x, hx, hp⟩ := h
  exact List.length_filter_lt_length_iff_exists.2 ⟨x, hx, by rw [hp]; decide⟩
end Go.Fv.P

/-! The order of reading: it does not hang on the order of the boxes. Plain law. -/
namespace Go.Fv.P
open Go
set_option linter.unusedSimpArgs false
set_option linter.unusedVariables false

/-! ### Sorts by a key -/
def sortKey {τ : Type} (key : τ → List Int) (l : List τ) : List τ := l.mergeSort fun i k => decide (key i ≤ key k)
theorem sortKey_perm {τ : Type} (key : τ → List Int) (l : List τ) : (sortKey key l).Perm l := List.mergeSort_perm _ _
theorem sortKey_sorted {τ : Type} (key : τ → List Int) (l : List τ) : (sortKey key l).Pairwise fun i k => key i ≤ key k := by
  have := List.pairwise_mergeSort (le := fun i k : τ => decide (key i ≤ key k)) (fun a b c h1 h2 => by
    rw [decide_eq_true_eq] at *; exact List.le_trans h1 h2) (fun a b => by
    rw [Bool.or_eq_true, decide_eq_true_eq, decide_eq_true_eq]; exact List.le_total _ _) l
  exact this.imp fun h => of_decide_eq_true h
theorem sortKey_unique {τ : Type} {key : τ → List Int} {l l' : List τ} (hi : ∀ i k, i ∈ l' → k ∈ l' → key i = key k → i = k) (hp : l'.Perm l) (hs : l'.Pairwise fun i k => key i ≤ key k) : l' = sortKey key l :=
  List.Perm.eq_of_pairwise (le := fun i k => key i ≤ key k) (fun a b ha hb h1 h2 => hi a b ha (hp.mem_iff.2 ((sortKey_perm key l).mem_iff.1 hb)) (List.le_antisymm h1 h2)) hs (sortKey_sorted key l) (hp.trans (sortKey_perm key l).symm)
/-- The first that is not nothing. -/
def orL : List Int → Int
  | [] => 0
  | x :: l => if x = 0 then orL l else x
/-- Two ways to compare numbers. -/
structure CmpI (c : Int → Int → Int) : Prop where
  lt : ∀ a b, c a b < 0 ↔ a < b
  eq : ∀ a b, c a b = 0 ↔ a = b
theorem orL_lt {c : Int → Int → Int} (h : CmpI c) : ∀ {a b : List Int}, a.length = b.length → (orL (List.zipWith c a b) < 0 ↔ a < b)
  | [], [], _ => by simp [orL]
  | x :: a, y :: b, e => by
    have ih := orL_lt h (a := a) (b := b) (by simpa using e)
    rw [List.zipWith_cons_cons, orL, List.cons_lt_cons_iff]
    have h1 := h.lt x y
    have h2 := h.eq x y
    split
    · rename_i h0
      have := h2.1 h0
      subst this
      rw [ih]
      constructor
      · exact fun h => .inr ⟨rfl, h⟩
      · rintro (h | ⟨_, h⟩)
        · omega
        · exact h
    · rename_i h0
      rw [h1]
      constructor
      · exact .inl
      · rintro (h | ⟨e, _⟩)
        · exact h
        · exact absurd (h2.2 e) h0
/-- A comparison by a key orders. -/
theorem cmpOrd_key {τ : Type} {good : τ → Prop} {key : τ → List Int} {cf : τ → τ → Int} (h : ∀ i k, good i → good k → (cf i k < 0 ↔ key i < key k)) : CmpOrd good cf where
  irrefl := fun x hx h1 => List.lt_irrefl _ ((h x x hx hx).1 h1)
  trans := fun x y z hx hy hz h1 h2 => (h x z hx hz).2 (List.lt_trans ((h x y hx hy).1 h1) ((h y z hy hz).1 h2))
  ntrans := fun x y z hx hy hz h1 h2 h3 => by
    have k1 : key y ≤ key x := fun hlt => h1 ((h x y hx hy).2 hlt)
    have k2 : key z ≤ key y := fun hlt => h2 ((h y z hy hz).2 hlt)
    exact List.le_trans k2 k1 ((h x z hx hz).1 h3)
theorem sortedBy_key {τ : Type} {good : τ → Prop} {key : τ → List Int} {cf : τ → τ → Int} (h : ∀ i k, good i → good k → (cf i k < 0 ↔ key i < key k)) {l : List τ} (hg : ∀ x, x ∈ l → good x) (hs : SortedBy cf l) : l.Pairwise fun i k => key i ≤ key k :=
  List.Pairwise.imp_of_mem (fun {x y} hx hy hxy hlt => hxy ((h y x (hg y hy) (hg x hx)).2 hlt)) hs

/-! ### The order of boxes -/
def kB (b : Bx) : List Int := [b.y, b.x, b.h, b.w]
def bAt (L : List Bx) (i : Int) : Bx := L.getD i.toNat Bx.zero
def kI (L : List Bx) (i : Int) : List Int := [(bAt L i).y, (bAt L i).x, (bAt L i).h, (bAt L i).w, i]
theorem kB_inj {a b : Bx} (h : kB a = kB b) : a = b := by
  obtain ⟨_, _, _, _⟩ := a
  obtain ⟨_, _, _, _⟩ := b
  simp [kB] at h
  obtain ⟨rfl, rfl, rfl, rfl⟩ := h
  rfl
theorem kI_inj {L : List Bx} {i k : Int} (h : kI L i = kI L k) : i = k := by
  unfold kI at h
  simp only [List.cons.injEq] at h
  exact h.2.2.2.2.1
theorem kI_le {L : List Bx} {i k : Int} (h : kI L i ≤ kI L k) : kB (bAt L i) ≤ kB (bAt L k) := by
  intro hlt
  apply h
  unfold kI kB at *
  simp only [List.cons_lt_cons_iff] at *
  rcases hlt with h | ⟨e1, h | ⟨e2, h | ⟨e3, h | ⟨e4, h⟩⟩⟩⟩
  · exact .inl h
  · exact .inr ⟨e1, .inl h⟩
  · exact .inr ⟨e1, .inr ⟨e2, .inl h⟩⟩
  · exact .inr ⟨e1, .inr ⟨e2, .inr ⟨e3, .inl h⟩⟩⟩
  · exact absurd h (by simp)
def ordI (L : List Bx) (gx gy : Int) (n : Nat) (l : List Int) : List Int := ordGo (bAt L) (sortKey (kI L)) gx gy n l
def ordB (gx gy : Int) (n : Nat) (l : List Bx) : List Bx := ordGo id (sortKey kB) gx gy n l
theorem sort_map (L : List Bx) (l : List Int) : (sortKey (kI L) l).map (bAt L) = sortKey kB (l.map (bAt L)) :=
  sortKey_unique (fun i k _ _ h => kB_inj h) ((sortKey_perm _ l).map _) (List.pairwise_map.2 ((sortKey_sorted (kI L) l).imp kI_le))
theorem ord_map (L : List Bx) (gx gy : Int) : ∀ (n : Nat) (l : List Int), (ordI L gx gy n l).map (bAt L) = ordB gx gy n (l.map (bAt L))
  | 0, l => rfl
  | n + 1, l => by
    have ih := ord_map L gx gy n
    unfold ordI ordB at *
    unfold ordGo
    rw [List.length_map]
    have e1 : (l.map (bAt L)).map (fun i => fx (id i)) = l.map fun i => fx (bAt L i) := by rw [List.map_map]; rfl
    have e2 : (l.map (bAt L)).map (fun i => fy (id i)) = l.map fun i => fy (bAt L i) := by rw [List.map_map]; rfl
    rw [e1, e2]
    split
    · rfl
    · split
      · exact sort_map L l
      · split
        · rw [List.map_append, ih, ih, List.filter_map, List.filter_map]; rfl
        · rw [List.map_append, ih, ih, List.filter_map, List.filter_map]; rfl
def BoxesOk (l : List Bx) : Prop := ∀ b, b ∈ l → 1 ≤ b.w ∧ 1 ≤ b.h
theorem fx_lt {l : List Bx} (h : BoxesOk l) : ∀ q, q ∈ l.map fx → q.1 < q.2 := fun q hq => by
  obtain ⟨b, hb, rfl⟩ := List.mem_map.1 hq
  have := h b hb
  unfold fx; dsimp only; omega
theorem fy_lt {l : List Bx} (h : BoxesOk l) : ∀ q, q ∈ l.map fy → q.1 < q.2 := fun q hq => by
  obtain ⟨b, hb, rfl⟩ := List.mem_map.1 hq
  have := h b hb
  unfold fy; dsimp only; omega
theorem ordB_succ (gx gy : Int) (n : Nat) (l : List Bx) : ordB gx gy (n + 1) l = if l.length < 2 then l
    else if (gapOf gx (l.map fx)).2 = 0 ∧ (gapOf gy (l.map fy)).2 = 0 then sortKey kB l
    else if atG (gapOf gx (l.map fx)) (gapOf gy (l.map fy)) gx gy then
      ordB gx gy n (l.filter fun i => decide (i.x < (gapOf gx (l.map fx)).1)) ++ ordB gx gy n (l.filter fun i => !decide (i.x < (gapOf gx (l.map fx)).1))
    else
      ordB gx gy n (l.filter fun i => decide (i.y < (gapOf gy (l.map fy)).1)) ++ ordB gx gy n (l.filter fun i => !decide (i.y < (gapOf gy (l.map fy)).1)) := rfl
theorem ordB_perm {gx gy : Int} (hgx : 1 ≤ gx) (hgy : 1 ≤ gy) : ∀ (n : Nat) {l l' : List Bx}, l.Perm l' → BoxesOk l → l.length ≤ n → ordB gx gy n l = ordB gx gy n l'
  | 0, l, l', h, _, hn => by
    have : l = [] := List.eq_nil_of_length_eq_zero (by omega)
    subst this
    rw [List.nil_perm.1 h]
  | n + 1, l, l', h, hb, hn => by
    rw [ordB_succ, ordB_succ]
    have el := h.length_eq
    rw [← el]
    split
    · rename_i h2
      match l, l', h with
      | [], l', h => rw [List.nil_perm.1 h]
      | [a], l', h => rw [List.singleton_perm.1 h]
      | _ :: _ :: _, _, _ => simp at h2; omega
    · have g1 := gapOf_perm hgx (h.map fx) (fx_lt hb)
      have g2 := gapOf_perm hgy (h.map fy) (fy_lt hb)
      have p1 := fun hne => gapOf_parts hgx (fx_lt hb) hne
      have p2 := fun hne => gapOf_parts hgy (fy_lt hb) hne
      rw [← g1, ← g2]
      generalize gapOf gx (l.map fx) = c at *
      generalize gapOf gy (l.map fy) = r at *
      have sub : ∀ p : Bx → Bool, BoxesOk (l.filter p) := fun p b hb' => hb b (List.mem_filter.1 hb').1
      split
      · exact List.Perm.eq_of_pairwise (le := fun i k => kB i ≤ kB k) (fun a b _ _ h1 h2 => kB_inj (List.le_antisymm h1 h2)) (sortKey_sorted _ _) (sortKey_sorted _ _) ((sortKey_perm _ _).trans (h.trans (sortKey_perm _ _).symm))
      · rename_i hne
        split
        · rename_i hat
          obtain ⟨⟨q1, m1, t1⟩, ⟨q2, m2, t2⟩, _⟩ := p1 (by unfold atG at hat; omega)
          obtain ⟨b1, n1, rfl⟩ := List.mem_map.1 m1
          obtain ⟨b2, n2, rfl⟩ := List.mem_map.1 m2
          have l1 := filter_lt (p := fun i : Bx => decide (i.x < c.1)) ⟨b2, n2, decide_eq_false t2⟩
          have l2 := filter_lt (p := fun i : Bx => !decide (i.x < c.1)) ⟨b1, n1, by rw [decide_eq_true (show b1.x < c.1 from t1)]; rfl⟩
          have r1 := ordB_perm hgx hgy n (h.filter fun i : Bx => decide (i.x < c.1)) (sub _) (by omega)
          have r2 := ordB_perm hgx hgy n (h.filter fun i : Bx => !decide (i.x < c.1)) (sub _) (by omega)
          rw [r1, r2]
        · rename_i hat
          obtain ⟨⟨q1, m1, t1⟩, ⟨q2, m2, t2⟩, _⟩ := p2 (by
            intro h0
            by_cases hc : c.2 = 0
            · exact hne ⟨hc, h0⟩
            · exact hat ⟨(p1 hc).2.2, .inl h0⟩)
          obtain ⟨b1, n1, rfl⟩ := List.mem_map.1 m1
          obtain ⟨b2, n2, rfl⟩ := List.mem_map.1 m2
          have l1 := filter_lt (p := fun i : Bx => decide (i.y < r.1)) ⟨b2, n2, decide_eq_false t2⟩
          have l2 := filter_lt (p := fun i : Bx => !decide (i.y < r.1)) ⟨b1, n1, by rw [decide_eq_true (show b1.y < r.1 from t1)]; rfl⟩
          have r1 := ordB_perm hgx hgy n (h.filter fun i : Bx => decide (i.y < r.1)) (sub _) (by omega)
          have r2 := ordB_perm hgx hgy n (h.filter fun i : Bx => !decide (i.y < r.1)) (sub _) (by omega)
          rw [r1, r2]
end Go.Fv.P

/- Facts about the program's types: each shown by reckoning it out. -/
namespace Go.Fv.P
open Go Go.Proofs
theorem e1 : ElemZ Tryd.prog 1 (.nilFunc) := .of (by kernel_rfl) (by kernel_rfl)
theorem c1 : Tryd.prog.cellsOf 1 = 1 := e1.cellsOf
theorem e2 : ElemZ Tryd.prog 2 (.int .i64 0) := .of (by kernel_rfl) (by kernel_rfl)
theorem c2 : Tryd.prog.cellsOf 2 = 1 := e2.cellsOf
theorem e3 : ElemZ Tryd.prog 3 (.int .i64 0) := .of (by kernel_rfl) (by kernel_rfl)
theorem z3 : zeroOf Tryd.prog 3 = some (.int .i64 0) := e3.zero
theorem c3 : Tryd.prog.cellsOf 3 = 1 := e3.cellsOf
theorem e4 : ElemZ Tryd.prog 4 (.bool false) := .of (by kernel_rfl) (by kernel_rfl)
theorem z4 : zeroOf Tryd.prog 4 = some (.bool false) := e4.zero
theorem c4 : Tryd.prog.cellsOf 4 = 1 := e4.cellsOf
theorem e5 : ElemZ Tryd.prog 5 (.int .u8 0) := .of (by kernel_rfl) (by kernel_rfl)
theorem z5 : zeroOf Tryd.prog 5 = some (.int .u8 0) := e5.zero
theorem c5 : Tryd.prog.cellsOf 5 = 1 := e5.cellsOf
theorem e6 : ElemZ Tryd.prog 6 (.int .u8 0) := .of (by kernel_rfl) (by kernel_rfl)
theorem e9 : ElemZ Tryd.prog 9 (.string ⟨#[]⟩) := .of (by kernel_rfl) (by kernel_rfl)
theorem z9 : zeroOf Tryd.prog 9 = some (.string ⟨#[]⟩) := e9.zero
theorem e12 : ElemZ Tryd.prog 12 (.int .u64 0) := .of (by kernel_rfl) (by kernel_rfl)
theorem e17 : ElemZ Tryd.prog 17 (.pointer none) := .of (by kernel_rfl) (by kernel_rfl)
theorem e20 : ElemZ Tryd.prog 20 (.nilIface) := .of (by kernel_rfl) (by kernel_rfl)
theorem z20 : zeroOf Tryd.prog 20 = some (.nilIface) := e20.zero
theorem e22 : ElemZ Tryd.prog 22 (.slice none 0 0) := .of (by kernel_rfl) (by kernel_rfl)
theorem z22 : zeroOf Tryd.prog 22 = some (.slice none 0 0) := e22.zero
theorem e24 : ElemZ Tryd.prog 24 (.agg #[.int .i64 0, .int .i64 0, .slice none 0 0]) := .of (by kernel_rfl) (by kernel_rfl)
theorem z24 : zeroOf Tryd.prog 24 = some (.agg #[.int .i64 0, .int .i64 0, .slice none 0 0]) := e24.zero
theorem e25 : ElemZ Tryd.prog 25 (.agg #[.int .i64 0, .int .i64 0, .int .i64 0, .int .i64 0]) := .of (by kernel_rfl) (by kernel_rfl)
theorem z25 : zeroOf Tryd.prog 25 = some (.agg #[.int .i64 0, .int .i64 0, .int .i64 0, .int .i64 0]) := e25.zero
theorem e26 : ElemZ Tryd.prog 26 (.agg #[.int .i64 0, .int .i64 0, .int .i64 0, .int .i64 0]) := .of (by kernel_rfl) (by kernel_rfl)
theorem z26 : zeroOf Tryd.prog 26 = some (.agg #[.int .i64 0, .int .i64 0, .int .i64 0, .int .i64 0]) := e26.zero
theorem c26 : Tryd.prog.cellsOf 26 = 4 := e26.cellsOf
theorem e29 : ElemZ Tryd.prog 29 (.slice none 0 0) := .of (by kernel_rfl) (by kernel_rfl)
theorem z29 : zeroOf Tryd.prog 29 = some (.slice none 0 0) := e29.zero
theorem c29 : Tryd.prog.cellsOf 29 = 1 := e29.cellsOf
theorem e30 : ElemZ Tryd.prog 30 (.int .i64 0) := .of (by kernel_rfl) (by kernel_rfl)
theorem z30 : zeroOf Tryd.prog 30 = some (.int .i64 0) := e30.zero
theorem c30 : Tryd.prog.cellsOf 30 = 1 := e30.cellsOf
theorem e45 : ElemZ Tryd.prog 45 (.nilFunc) := .of (by kernel_rfl) (by kernel_rfl)
theorem z45 : zeroOf Tryd.prog 45 = some (.nilFunc) := e45.zero
theorem e46 : ElemZ Tryd.prog 46 (.nilFunc) := .of (by kernel_rfl) (by kernel_rfl)
theorem z46 : zeroOf Tryd.prog 46 = some (.nilFunc) := e46.zero
theorem e50 : ElemZ Tryd.prog 50 (.nilFunc) := .of (by kernel_rfl) (by kernel_rfl)
theorem z50 : zeroOf Tryd.prog 50 = some (.nilFunc) := e50.zero
theorem e53 : ElemZ Tryd.prog 53 (.nilFunc) := .of (by kernel_rfl) (by kernel_rfl)
theorem z53 : zeroOf Tryd.prog 53 = some (.nilFunc) := e53.zero
theorem e54 : ElemZ Tryd.prog 54 (.slice none 0 0) := .of (by kernel_rfl) (by kernel_rfl)
theorem z54 : zeroOf Tryd.prog 54 = some (.slice none 0 0) := e54.zero
theorem c54 : Tryd.prog.cellsOf 54 = 1 := e54.cellsOf
theorem e66 : ElemZ Tryd.prog 66 (.nilFunc) := .of (by kernel_rfl) (by kernel_rfl)
theorem z66 : zeroOf Tryd.prog 66 = some (.nilFunc) := e66.zero
theorem e68 : ElemZ Tryd.prog 68 (.pointer none) := .of (by kernel_rfl) (by kernel_rfl)
theorem e70 : ElemZ Tryd.prog 70 (.agg #[.int .i64 0, .int .i64 0, .slice none 0 0, .pointer none, .int .i64 0, .int .i64 0, .slice none 0 0]) := .of (by kernel_rfl) (by kernel_rfl)
theorem z70 : zeroOf Tryd.prog 70 = some (.agg #[.int .i64 0, .int .i64 0, .slice none 0 0, .pointer none, .int .i64 0, .int .i64 0, .slice none 0 0]) := e70.zero
theorem e76 : ElemZ Tryd.prog 76 (.nilFunc) := .of (by kernel_rfl) (by kernel_rfl)
theorem z76 : zeroOf Tryd.prog 76 = some (.nilFunc) := e76.zero
theorem e77 : ElemZ Tryd.prog 77 (.nilFunc) := .of (by kernel_rfl) (by kernel_rfl)
theorem z77 : zeroOf Tryd.prog 77 = some (.nilFunc) := e77.zero
theorem e114 : ElemZ Tryd.prog 114 (.nilFunc) := .of (by kernel_rfl) (by kernel_rfl)
theorem z114 : zeroOf Tryd.prog 114 = some (.nilFunc) := e114.zero
theorem c114 : Tryd.prog.cellsOf 114 = 1 := e114.cellsOf
theorem e116 : ElemZ Tryd.prog 116 (.agg #[.int .i64 0, .int .i64 0]) := .of (by kernel_rfl) (by kernel_rfl)
theorem z116 : zeroOf Tryd.prog 116 = some (.agg #[.int .i64 0, .int .i64 0]) := e116.zero
theorem c116 : Tryd.prog.cellsOf 116 = 2 := e116.cellsOf
theorem e118 : ElemZ Tryd.prog 118 (.nilFunc) := .of (by kernel_rfl) (by kernel_rfl)
theorem c118 : Tryd.prog.cellsOf 118 = 1 := e118.cellsOf
theorem e156 : ElemZ Tryd.prog 156 (.agg #[.int .i64 0, .int .i64 0]) := .of (by kernel_rfl) (by kernel_rfl)
theorem z156 : zeroOf Tryd.prog 156 = some (.agg #[.int .i64 0, .int .i64 0]) := e156.zero
theorem c156 : Tryd.prog.cellsOf 156 = 2 := e156.cellsOf
theorem f7 : fieldsOkT Tryd.prog 7 := by
  intro d hd; rw [Tryd.underlying7] at hd; cases hd
  intro f hf; simp only [List.mem_cons, List.not_mem_nil, or_false] at hf
  rcases hf with rfl | rfl | rfl | rfl
  · obtain ⟨i, h, _⟩ := e2.ex; exact ⟨i, h⟩
  · obtain ⟨i, h, _⟩ := e3.ex; exact ⟨i, h⟩
  · obtain ⟨i, h, _⟩ := e4.ex; exact ⟨i, h⟩
  · obtain ⟨i, h, _⟩ := e6.ex; exact ⟨i, h⟩
theorem f14 : fieldsOkT Tryd.prog 14 := by
  intro d hd; rw [Tryd.underlying14] at hd; cases hd
  intro f hf; simp only [List.mem_cons, List.not_mem_nil, or_false] at hf
  rcases hf with rfl | rfl
  · obtain ⟨i, h, _⟩ := e9.ex; exact ⟨i, h⟩
  · obtain ⟨i, h, _⟩ := e12.ex; exact ⟨i, h⟩
theorem f18 : fieldsOkT Tryd.prog 18 := by
  intro d hd; rw [Tryd.underlying18] at hd; cases hd
  intro f hf; simp only [List.mem_cons, List.not_mem_nil, or_false] at hf
  rcases hf with rfl
  · obtain ⟨i, h, _⟩ := e17.ex; exact ⟨i, h⟩
theorem f23 : fieldsOkT Tryd.prog 23 := by
  intro d hd; rw [Tryd.underlying23] at hd; cases hd
  intro f hf; simp only [List.mem_cons, List.not_mem_nil, or_false] at hf
  rcases hf with rfl | rfl | rfl
  · obtain ⟨i, h, _⟩ := e3.ex; exact ⟨i, h⟩
  · obtain ⟨i, h, _⟩ := e3.ex; exact ⟨i, h⟩
  · obtain ⟨i, h, _⟩ := e22.ex; exact ⟨i, h⟩
theorem f24 : fieldsOkT Tryd.prog 24 := by
  intro d hd; rw [Tryd.underlying24] at hd; cases hd
  intro f hf; simp only [List.mem_cons, List.not_mem_nil, or_false] at hf
  rcases hf with rfl | rfl | rfl
  · obtain ⟨i, h, _⟩ := e3.ex; exact ⟨i, h⟩
  · obtain ⟨i, h, _⟩ := e3.ex; exact ⟨i, h⟩
  · obtain ⟨i, h, _⟩ := e22.ex; exact ⟨i, h⟩
theorem f25 : fieldsOkT Tryd.prog 25 := by
  intro d hd; rw [Tryd.underlying25] at hd; cases hd
  intro f hf; simp only [List.mem_cons, List.not_mem_nil, or_false] at hf
  rcases hf with rfl | rfl | rfl | rfl
  · obtain ⟨i, h, _⟩ := e3.ex; exact ⟨i, h⟩
  · obtain ⟨i, h, _⟩ := e3.ex; exact ⟨i, h⟩
  · obtain ⟨i, h, _⟩ := e3.ex; exact ⟨i, h⟩
  · obtain ⟨i, h, _⟩ := e3.ex; exact ⟨i, h⟩
theorem f26 : fieldsOkT Tryd.prog 26 := by
  intro d hd; rw [Tryd.underlying26] at hd; cases hd
  intro f hf; simp only [List.mem_cons, List.not_mem_nil, or_false] at hf
  rcases hf with rfl | rfl | rfl | rfl
  · obtain ⟨i, h, _⟩ := e3.ex; exact ⟨i, h⟩
  · obtain ⟨i, h, _⟩ := e3.ex; exact ⟨i, h⟩
  · obtain ⟨i, h, _⟩ := e3.ex; exact ⟨i, h⟩
  · obtain ⟨i, h, _⟩ := e3.ex; exact ⟨i, h⟩
theorem f70 : fieldsOkT Tryd.prog 70 := by
  intro d hd; rw [Tryd.underlying70] at hd; cases hd
  intro f hf; simp only [List.mem_cons, List.not_mem_nil, or_false] at hf
  rcases hf with rfl | rfl | rfl | rfl | rfl
  · obtain ⟨i, h, _⟩ := e24.ex; exact ⟨i, h⟩
  · obtain ⟨i, h, _⟩ := e68.ex; exact ⟨i, h⟩
  · obtain ⟨i, h, _⟩ := e3.ex; exact ⟨i, h⟩
  · obtain ⟨i, h, _⟩ := e3.ex; exact ⟨i, h⟩
  · obtain ⟨i, h, _⟩ := e29.ex; exact ⟨i, h⟩
theorem f71 : fieldsOkT Tryd.prog 71 := by
  intro d hd; rw [Tryd.underlying71] at hd; cases hd
  intro f hf; simp only [List.mem_cons, List.not_mem_nil, or_false] at hf
  rcases hf with rfl | rfl | rfl | rfl | rfl
  · obtain ⟨i, h, _⟩ := e24.ex; exact ⟨i, h⟩
  · obtain ⟨i, h, _⟩ := e68.ex; exact ⟨i, h⟩
  · obtain ⟨i, h, _⟩ := e3.ex; exact ⟨i, h⟩
  · obtain ⟨i, h, _⟩ := e3.ex; exact ⟨i, h⟩
  · obtain ⟨i, h, _⟩ := e29.ex; exact ⟨i, h⟩
theorem f111 : fieldsOkT Tryd.prog 111 := by
  intro d hd; rw [Tryd.underlying111] at hd; cases hd
  intro f hf; simp only [List.mem_cons, List.not_mem_nil, or_false] at hf
  rcases hf with rfl | rfl | rfl
  · obtain ⟨i, h, _⟩ := e3.ex; exact ⟨i, h⟩
  · obtain ⟨i, h, _⟩ := e3.ex; exact ⟨i, h⟩
  · obtain ⟨i, h, _⟩ := e3.ex; exact ⟨i, h⟩
theorem f112 : fieldsOkT Tryd.prog 112 := by
  intro d hd; rw [Tryd.underlying112] at hd; cases hd
  intro f hf; simp only [List.mem_cons, List.not_mem_nil, or_false] at hf
  rcases hf with rfl | rfl | rfl
  · obtain ⟨i, h, _⟩ := e3.ex; exact ⟨i, h⟩
  · obtain ⟨i, h, _⟩ := e3.ex; exact ⟨i, h⟩
  · obtain ⟨i, h, _⟩ := e3.ex; exact ⟨i, h⟩
theorem f115 : fieldsOkT Tryd.prog 115 := by
  intro d hd; rw [Tryd.underlying115] at hd; cases hd
  intro f hf; simp only [List.mem_cons, List.not_mem_nil, or_false] at hf
  rcases hf with rfl | rfl
  · obtain ⟨i, h, _⟩ := e3.ex; exact ⟨i, h⟩
  · obtain ⟨i, h, _⟩ := e3.ex; exact ⟨i, h⟩
theorem f116 : fieldsOkT Tryd.prog 116 := by
  intro d hd; rw [Tryd.underlying116] at hd; cases hd
  intro f hf; simp only [List.mem_cons, List.not_mem_nil, or_false] at hf
  rcases hf with rfl | rfl
  · obtain ⟨i, h, _⟩ := e3.ex; exact ⟨i, h⟩
  · obtain ⟨i, h, _⟩ := e3.ex; exact ⟨i, h⟩
theorem f149 : fieldsOkT Tryd.prog 149 := by
  intro d hd; rw [Tryd.underlying149] at hd; cases hd
  intro f hf; simp only [List.mem_cons, List.not_mem_nil, or_false] at hf
  rcases hf with rfl | rfl | rfl
  · obtain ⟨i, h, _⟩ := e3.ex; exact ⟨i, h⟩
  · obtain ⟨i, h, _⟩ := e3.ex; exact ⟨i, h⟩
  · obtain ⟨i, h, _⟩ := e3.ex; exact ⟨i, h⟩
theorem f156 : fieldsOkT Tryd.prog 156 := by
  intro d hd; rw [Tryd.underlying156] at hd; cases hd
  obtain ⟨i, h, _⟩ := e3.ex; exact ⟨i, h⟩
theorem f166 : fieldsOkT Tryd.prog 166 := by
  intro d hd; rw [Tryd.underlying166] at hd; cases hd
  intro f hf; simp only [List.mem_cons, List.not_mem_nil, or_false] at hf
  rcases hf with rfl | rfl | rfl
  · obtain ⟨i, h, _⟩ := e3.ex; exact ⟨i, h⟩
  · obtain ⟨i, h, _⟩ := e3.ex; exact ⟨i, h⟩
  · obtain ⟨i, h, _⟩ := e54.ex; exact ⟨i, h⟩
theorem f167 : fieldsOkT Tryd.prog 167 := by
  intro d hd; rw [Tryd.underlying167] at hd; cases hd
  intro f hf; simp only [List.mem_cons, List.not_mem_nil, or_false] at hf
  rcases hf with rfl | rfl | rfl
  · obtain ⟨i, h, _⟩ := e3.ex; exact ⟨i, h⟩
  · obtain ⟨i, h, _⟩ := e3.ex; exact ⟨i, h⟩
  · obtain ⟨i, h, _⟩ := e54.ex; exact ⟨i, h⟩
theorem q26 : EqT Tryd.prog 26 [.i .i64, .i .i64, .i .i64, .i .i64] := ⟨by kernel_rfl, by kernel_rfl⟩
theorem kqt26 : (EqT Tryd.prog 26 [.i .i64, .i .i64, .i .i64, .i .i64]) = True := eq_true q26
theorem k1 {K : Prop} : Chk (ElemZ Tryd.prog 1 (.nilFunc)) K = K := Chk_of e1
theorem k2 {K : Prop} : Chk (ElemZ Tryd.prog 2 (.int .i64 0)) K = K := Chk_of e2
theorem k3 {K : Prop} : Chk (ElemZ Tryd.prog 3 (.int .i64 0)) K = K := Chk_of e3
theorem ke3 : (ElemZ Tryd.prog 3 (.int .i64 0)) = True := eq_true e3
theorem k4 {K : Prop} : Chk (ElemZ Tryd.prog 4 (.bool false)) K = K := Chk_of e4
theorem k5 {K : Prop} : Chk (ElemZ Tryd.prog 5 (.int .u8 0)) K = K := Chk_of e5
theorem ke26 : (ElemZ Tryd.prog 26 (.agg #[.int .i64 0, .int .i64 0, .int .i64 0, .int .i64 0])) = True := eq_true e26
theorem ke29 : (ElemZ Tryd.prog 29 (.slice none 0 0)) = True := eq_true e29
theorem ke30 : (ElemZ Tryd.prog 30 (.int .i64 0)) = True := eq_true e30
theorem ke156 : (ElemZ Tryd.prog 156 (.agg #[.int .i64 0, .int .i64 0])) = True := eq_true e156
theorem kt116 : (fieldsOkT Tryd.prog 116) = True := eq_true f116
theorem kt156 : (fieldsOkT Tryd.prog 156) = True := eq_true f156
attribute [go_sem] kqt26
attribute [go_sem] Tryd.underlying0 Tryd.underlying1 Tryd.underlying2 Tryd.underlying3 Tryd.underlying4 Tryd.underlying5
attribute [go_sem] Tryd.underlying6 Tryd.underlying7 Tryd.underlying8 Tryd.underlying9 Tryd.underlying10 Tryd.underlying11 Tryd.underlying12 Tryd.underlying13 Tryd.underlying14 Tryd.underlying15 Tryd.underlying16 Tryd.underlying17
attribute [go_sem] Tryd.underlying18 Tryd.underlying19 Tryd.underlying20 Tryd.underlying21 Tryd.underlying22 Tryd.underlying23 Tryd.underlying24 Tryd.underlying25 Tryd.underlying26 Tryd.underlying27 Tryd.underlying28 Tryd.underlying29
attribute [go_sem] Tryd.underlying30 Tryd.underlying31 Tryd.underlying32 Tryd.underlying33 Tryd.underlying34 Tryd.underlying35 Tryd.underlying36 Tryd.underlying37 Tryd.underlying38 Tryd.underlying39 Tryd.underlying40 Tryd.underlying41
attribute [go_sem] Tryd.underlying42 Tryd.underlying43 Tryd.underlying44 Tryd.underlying45 Tryd.underlying46 Tryd.underlying47 Tryd.underlying48 Tryd.underlying49 Tryd.underlying50 Tryd.underlying51 Tryd.underlying52 Tryd.underlying53
attribute [go_sem] Tryd.underlying54 Tryd.underlying55 Tryd.underlying56 Tryd.underlying57 Tryd.underlying58 Tryd.underlying59 Tryd.underlying60 Tryd.underlying61 Tryd.underlying62 Tryd.underlying63 Tryd.underlying64 Tryd.underlying65
attribute [go_sem] Tryd.underlying66 Tryd.underlying67 Tryd.underlying68 Tryd.underlying69 Tryd.underlying70 Tryd.underlying71 Tryd.underlying72 Tryd.underlying73 Tryd.underlying74 Tryd.underlying75 Tryd.underlying76 Tryd.underlying77
attribute [go_sem] Tryd.underlying78 Tryd.underlying79 Tryd.underlying80 Tryd.underlying81 Tryd.underlying82 Tryd.underlying83 Tryd.underlying84 Tryd.underlying85 Tryd.underlying86 Tryd.underlying87 Tryd.underlying88 Tryd.underlying89
attribute [go_sem] Tryd.underlying90 Tryd.underlying91 Tryd.underlying92 Tryd.underlying93 Tryd.underlying94 Tryd.underlying95 Tryd.underlying96 Tryd.underlying97 Tryd.underlying98 Tryd.underlying99 Tryd.underlying100 Tryd.underlying101
attribute [go_sem] Tryd.underlying102 Tryd.underlying103 Tryd.underlying104 Tryd.underlying105 Tryd.underlying106 Tryd.underlying107 Tryd.underlying108 Tryd.underlying109 Tryd.underlying110 Tryd.underlying111 Tryd.underlying112 Tryd.underlying113
attribute [go_sem] Tryd.underlying114 Tryd.underlying115 Tryd.underlying116 Tryd.underlying117 Tryd.underlying118 Tryd.underlying119 Tryd.underlying120 Tryd.underlying121 Tryd.underlying122 Tryd.underlying123 Tryd.underlying124 Tryd.underlying125
attribute [go_sem] Tryd.underlying126 Tryd.underlying127 Tryd.underlying128 Tryd.underlying129 Tryd.underlying130 Tryd.underlying131 Tryd.underlying132 Tryd.underlying133 Tryd.underlying134 Tryd.underlying135 Tryd.underlying136 Tryd.underlying137
attribute [go_sem] Tryd.underlying138 Tryd.underlying139 Tryd.underlying140 Tryd.underlying141 Tryd.underlying142 Tryd.underlying143 Tryd.underlying144 Tryd.underlying145 Tryd.underlying146 Tryd.underlying147 Tryd.underlying148 Tryd.underlying149
attribute [go_sem] Tryd.underlying150 Tryd.underlying151 Tryd.underlying152 Tryd.underlying153 Tryd.underlying154 Tryd.underlying155 Tryd.underlying156 Tryd.underlying157 Tryd.underlying158 Tryd.underlying159 Tryd.underlying160 Tryd.underlying161
attribute [go_sem] Tryd.underlying162 Tryd.underlying163 Tryd.underlying164 Tryd.underlying165 Tryd.underlying166 Tryd.underlying167 Tryd.underlying168 Tryd.underlying169 Tryd.underlying170 Tryd.underlying171 Tryd.underlying172 Tryd.underlying173
attribute [go_sem] Tryd.underlying174 Tryd.underlying175 Tryd.underlying176 Tryd.underlying177 Tryd.underlying178 Tryd.underlying179 Tryd.underlying180 Tryd.underlying181 Tryd.underlying182 Tryd.underlying183 Tryd.underlying184 Tryd.underlying185
attribute [go_sem] Tryd.underlying186 Tryd.underlying187 Tryd.underlying188 Tryd.underlying189 Tryd.underlying190 Tryd.underlying191 Tryd.underlying192 Tryd.underlying193 Tryd.underlying194 Tryd.underlying195 Tryd.underlying196 Tryd.underlying197
attribute [go_sem] Tryd.underlying198 Tryd.underlying199 Tryd.underlying200 Tryd.underlying201 Tryd.underlying202 Tryd.underlying203 Tryd.underlying204 Tryd.underlying205 Tryd.underlying206 Tryd.underlying207 Tryd.underlying208 Tryd.underlying209
attribute [go_sem] Tryd.underlying210 Tryd.underlying211 Tryd.underlying212 Tryd.underlying213 Tryd.underlying214 Tryd.underlying215 Tryd.underlying216 Tryd.underlying217 Tryd.underlying218 Tryd.underlying219 Tryd.underlying220 Tryd.underlying221
attribute [go_sem] Tryd.underlying222 Tryd.underlying223 Tryd.underlying224 Tryd.underlying225 Tryd.underlying226 Tryd.underlying227 Tryd.underlying228 Tryd.underlying229 Tryd.underlying230 Tryd.underlying231 Tryd.underlying232 Tryd.underlying233
attribute [go_sem] Tryd.underlying234 k1 c1 k2 c2 k3 ke3 z3
attribute [go_sem] c3 k4 z4 c4 k5 z5 c5
attribute [go_sem] z9
attribute [go_sem] z20
attribute [go_sem] z22 z24
attribute [go_sem] z25 ke26 z26 c26
attribute [go_sem] ke29 z29 c29 ke30 z30
attribute [go_sem] c30
attribute [go_sem] z45 z46
attribute [go_sem] z50
attribute [go_sem] z53 z54
attribute [go_sem] c54
attribute [go_sem] z66
attribute [go_sem] z70
attribute [go_sem] z76 z77
attribute [go_sem] z114 c114 z116
attribute [go_sem] c116 c118
attribute [go_sem] ke156 z156
attribute [go_sem] c156
attribute [go_sem] kt116
attribute [go_sem] kt156
end Go.Fv.P

/- slices.SortFunc of numbers and of pairs of numbers, by the shelf. -/
namespace Go.Proofs
open Go.Shelf
def Tryd.lSoF_ren : Go.Shelf.Ren := ⟨fun | 6 => 73 | 15 => 109 | 14 => 108 | 28 => 137 | 29 => 138 | 20 => 129 | 21 => 130 | 22 => 131 | 23 => 132 | 24 => 133 | 25 => 134 | 26 => 135 | 27 => 136 | 46 => 149 | 47 => 150 | 48 => 151 | 49 => 152 | 50 => 153 | 57 => 160 | n => n, fun | 22 => 54 | 24 => 3 | 25 => 96 | 3 => 3 | 39 => 154 | 0 => 0 | 53 => 183 | 55 => 185 | 4 => 4 | 46 => 176 | 45 => 175 | 50 => 180 | 5 => 5 | 9 => 9 | 66 => 193 | 70 => 197 | 76 => 201 | 77 => 137 | n => n, fun | n => n⟩
theorem Tryd.lSoF : Go.Proofs.SlLaysF.n6 Tryd.prog Tryd.lSoF_ren := {
  mixed := by kernel_rfl
  f6 := ⟨Tryd.f73.name, by decide, Tryd.func73.trans (congrArg some (by kernel_rfl))⟩
  f14 := ⟨Tryd.f108.name, by decide, Tryd.func108.trans (congrArg some (by kernel_rfl))⟩
  f15 := Tryd.func109.trans (congrArg some (by kernel_rfl))
  f20 := ⟨Tryd.f129.name, by decide, Tryd.func129.trans (congrArg some (by kernel_rfl))⟩
  f21 := ⟨Tryd.f130.name, by decide, Tryd.func130.trans (congrArg some (by kernel_rfl))⟩
  f22 := ⟨Tryd.f131.name, by decide, Tryd.func131.trans (congrArg some (by kernel_rfl))⟩
  f23 := ⟨Tryd.f132.name, by decide, Tryd.func132.trans (congrArg some (by kernel_rfl))⟩
  f24 := ⟨Tryd.f133.name, by decide, Tryd.func133.trans (congrArg some (by kernel_rfl))⟩
  f25 := ⟨Tryd.f134.name, by decide, Tryd.func134.trans (congrArg some (by kernel_rfl))⟩
  f26 := ⟨Tryd.f135.name, by decide, Tryd.func135.trans (congrArg some (by kernel_rfl))⟩
  f27 := ⟨Tryd.f136.name, by decide, Tryd.func136.trans (congrArg some (by kernel_rfl))⟩
  f28 := Tryd.func137.trans (congrArg some (by kernel_rfl))
  f29 := Tryd.func138.trans (congrArg some (by kernel_rfl))
  f46 := ⟨Tryd.f149.name, by decide, Tryd.func149.trans (congrArg some (by kernel_rfl))⟩
  f47 := Tryd.func150.trans (congrArg some (by kernel_rfl))
  f48 := Tryd.func151.trans (congrArg some (by kernel_rfl))
  f49 := ⟨Tryd.f152.name, by decide, Tryd.func152.trans (congrArg some (by kernel_rfl))⟩
  f50 := ⟨Tryd.f153.name, by decide, Tryd.func153.trans (congrArg some (by kernel_rfl))⟩
  f57 := ⟨Tryd.f160.name, by decide, Tryd.func160.trans (congrArg some (by kernel_rfl))⟩
  t0 := Tryd.underlying0
  a0 := Tryd.isAgg0
  z0 := Tryd.sizeOf0
  v0 := Tryd.zeroValue0
  t3 := Tryd.underlying3
  a3 := Tryd.isAgg3
  z3 := Tryd.sizeOf3
  v3 := Tryd.zeroValue3
  t4 := Tryd.underlying4
  a4 := Tryd.isAgg4
  z4 := Tryd.sizeOf4
  v4 := Tryd.zeroValue4
  t5 := Tryd.underlying5
  a5 := Tryd.isAgg5
  z5 := Tryd.sizeOf5
  v5 := Tryd.zeroValue5
  t9 := Tryd.underlying9
  a9 := Tryd.isAgg9
  z9 := Tryd.sizeOf9
  v9 := Tryd.zeroValue9
  t22 := Tryd.underlying54
  a22 := Tryd.isAgg54
  z22 := Tryd.sizeOf54
  v22 := Tryd.zeroValue54
  a24 := Tryd.isAgg3
  z24 := Tryd.sizeOf3
  t25 := Tryd.underlying96
  a25 := Tryd.isAgg96
  z25 := Tryd.sizeOf96
  v25 := Tryd.zeroValue96
  t39 := Tryd.underlying154
  a39 := Tryd.isAgg154
  z39 := Tryd.sizeOf154
  v39 := Tryd.zeroValue154
  t45 := Tryd.underlying175
  a45 := Tryd.isAgg175
  z45 := Tryd.sizeOf175
  v45 := Tryd.zeroValue175
  t46 := Tryd.underlying176
  a46 := Tryd.isAgg176
  z46 := Tryd.sizeOf176
  v46 := Tryd.zeroValue176
  t50 := Tryd.underlying180
  a50 := Tryd.isAgg180
  z50 := Tryd.sizeOf180
  v50 := Tryd.zeroValue180
  t53 := Tryd.underlying183
  a53 := Tryd.isAgg183
  z53 := Tryd.sizeOf183
  v53 := Tryd.zeroValue183
  t55 := Tryd.underlying185
  a55 := Tryd.isAgg185
  z55 := Tryd.sizeOf185
  v55 := Tryd.zeroValue185
  t66 := Tryd.underlying193
  a66 := Tryd.isAgg193
  z66 := Tryd.sizeOf193
  v66 := Tryd.zeroValue193
  t70 := Tryd.underlying197
  a70 := Tryd.isAgg197
  z70 := Tryd.sizeOf197
  v70 := Tryd.zeroValue197
  t76 := Tryd.underlying201
  a76 := Tryd.isAgg201
  z76 := Tryd.sizeOf201
  v76 := Tryd.zeroValue201
  t77 := Tryd.underlying137
  a77 := Tryd.isAgg137
  z77 := Tryd.sizeOf137
  v77 := Tryd.zeroValue137 }
end Go.Proofs
namespace Go.Proofs
open Go.Shelf
def Tryd.lSoP_ren : Go.Shelf.Ren := ⟨fun | 6 => 140 | 15 => 109 | 14 => 154 | 28 => 137 | 29 => 138 | 20 => 161 | 21 => 162 | 22 => 163 | 23 => 164 | 24 => 165 | 25 => 166 | 26 => 167 | 27 => 168 | 46 => 173 | 47 => 150 | 48 => 151 | 49 => 174 | 50 => 175 | 57 => 177 | n => n, fun | 22 => 155 | 24 => 156 | 25 => 188 | 3 => 3 | 39 => 154 | 0 => 0 | 53 => 183 | 55 => 185 | 4 => 4 | 46 => 176 | 45 => 175 | 50 => 180 | 5 => 5 | 9 => 9 | 66 => 193 | 70 => 197 | 76 => 201 | 77 => 137 | n => n, fun | n => n⟩
theorem Tryd.lSoP : Go.Proofs.SlLaysF0.n6 Tryd.prog Tryd.lSoP_ren := {
  mixed := by kernel_rfl
  f6 := ⟨Tryd.f140.name, by decide, Tryd.func140.trans (congrArg some (by kernel_rfl))⟩
  f14 := ⟨Tryd.f154.name, by decide, Tryd.func154.trans (congrArg some (by kernel_rfl))⟩
  f15 := Tryd.func109.trans (congrArg some (by kernel_rfl))
  f20 := ⟨Tryd.f161.name, by decide, Tryd.func161.trans (congrArg some (by kernel_rfl))⟩
  f21 := ⟨Tryd.f162.name, by decide, Tryd.func162.trans (congrArg some (by kernel_rfl))⟩
  f22 := ⟨Tryd.f163.name, by decide, Tryd.func163.trans (congrArg some (by kernel_rfl))⟩
  f23 := ⟨Tryd.f164.name, by decide, Tryd.func164.trans (congrArg some (by kernel_rfl))⟩
  f24 := ⟨Tryd.f165.name, by decide, Tryd.func165.trans (congrArg some (by kernel_rfl))⟩
  f25 := ⟨Tryd.f166.name, by decide, Tryd.func166.trans (congrArg some (by kernel_rfl))⟩
  f26 := ⟨Tryd.f167.name, by decide, Tryd.func167.trans (congrArg some (by kernel_rfl))⟩
  f27 := ⟨Tryd.f168.name, by decide, Tryd.func168.trans (congrArg some (by kernel_rfl))⟩
  f28 := Tryd.func137.trans (congrArg some (by kernel_rfl))
  f29 := Tryd.func138.trans (congrArg some (by kernel_rfl))
  f46 := ⟨Tryd.f173.name, by decide, Tryd.func173.trans (congrArg some (by kernel_rfl))⟩
  f47 := Tryd.func150.trans (congrArg some (by kernel_rfl))
  f48 := Tryd.func151.trans (congrArg some (by kernel_rfl))
  f49 := ⟨Tryd.f174.name, by decide, Tryd.func174.trans (congrArg some (by kernel_rfl))⟩
  f50 := ⟨Tryd.f175.name, by decide, Tryd.func175.trans (congrArg some (by kernel_rfl))⟩
  f57 := ⟨Tryd.f177.name, by decide, Tryd.func177.trans (congrArg some (by kernel_rfl))⟩
  t0 := Tryd.underlying0
  a0 := Tryd.isAgg0
  z0 := Tryd.sizeOf0
  v0 := Tryd.zeroValue0
  t3 := Tryd.underlying3
  a3 := Tryd.isAgg3
  z3 := Tryd.sizeOf3
  v3 := Tryd.zeroValue3
  t4 := Tryd.underlying4
  a4 := Tryd.isAgg4
  z4 := Tryd.sizeOf4
  v4 := Tryd.zeroValue4
  t5 := Tryd.underlying5
  a5 := Tryd.isAgg5
  z5 := Tryd.sizeOf5
  v5 := Tryd.zeroValue5
  t9 := Tryd.underlying9
  a9 := Tryd.isAgg9
  z9 := Tryd.sizeOf9
  v9 := Tryd.zeroValue9
  t22 := Tryd.underlying155
  a22 := Tryd.isAgg155
  z22 := Tryd.sizeOf155
  v22 := Tryd.zeroValue155
  t25 := Tryd.underlying188
  a25 := Tryd.isAgg188
  z25 := Tryd.sizeOf188
  v25 := Tryd.zeroValue188
  t39 := Tryd.underlying154
  a39 := Tryd.isAgg154
  z39 := Tryd.sizeOf154
  v39 := Tryd.zeroValue154
  t45 := Tryd.underlying175
  a45 := Tryd.isAgg175
  z45 := Tryd.sizeOf175
  v45 := Tryd.zeroValue175
  t46 := Tryd.underlying176
  a46 := Tryd.isAgg176
  z46 := Tryd.sizeOf176
  v46 := Tryd.zeroValue176
  t50 := Tryd.underlying180
  a50 := Tryd.isAgg180
  z50 := Tryd.sizeOf180
  v50 := Tryd.zeroValue180
  t53 := Tryd.underlying183
  a53 := Tryd.isAgg183
  z53 := Tryd.sizeOf183
  v53 := Tryd.zeroValue183
  t55 := Tryd.underlying185
  a55 := Tryd.isAgg185
  z55 := Tryd.sizeOf185
  v55 := Tryd.zeroValue185
  t66 := Tryd.underlying193
  a66 := Tryd.isAgg193
  z66 := Tryd.sizeOf193
  v66 := Tryd.zeroValue193
  t70 := Tryd.underlying197
  a70 := Tryd.isAgg197
  z70 := Tryd.sizeOf197
  v70 := Tryd.zeroValue197
  t76 := Tryd.underlying201
  a76 := Tryd.isAgg201
  z76 := Tryd.sizeOf201
  v76 := Tryd.zeroValue201
  t77 := Tryd.underlying137
  a77 := Tryd.isAgg137
  z77 := Tryd.sizeOf137
  v77 := Tryd.zeroValue137 }
end Go.Proofs
namespace Go.Fv.P
open Go Go.Proofs
end Go.Fv.P

/- What is joined, in plain words: a search from each number that is not seen yet. -/
namespace Go.Fv.P
open Go
set_option linter.unusedSimpArgs false
set_option linter.unusedVariables false
set_option maxRecDepth 8000

/-- What is seen, and what was found, in order. -/
structure RS where
  seen : List Bool
  l : List Int
def bfs (f : RS → Int → RS) : Nat → Nat → RS → RS
  | 0, _, s => s
  | n + 1, k, s => if k < s.l.length then bfs f n (k + 1) (f s (s.l.getD k 0)) else s
/-! ### What holds of a region that grows -/
theorem count_set : ∀ {l : List Bool} {i : Nat}, i < l.length → l.getD i false = false → (l.set i true).count true = l.count true + 1
  | b :: l, 0, _, h => by
    have : b = false := h
    subst this
    simp
  | b :: l, i + 1, hi, h => by
    have ih := count_set (l := l) (i := i) (by simpa using hi) (by simpa using h)
    cases b <;> simp [ih]
structure RInv (ok : Nat → Bool) (n c0 : Nat) (s : RS) : Prop where
  len : s.seen.length = n
  cnt : s.seen.count true = c0 + s.l.length
  bd : ∀ x, x ∈ s.l → 0 ≤ x ∧ x < (n : Int)
  ink : ∀ j, s.seen.getD j false = true → ok j = true
  sn : ∀ x, x ∈ s.l → s.seen.getD x.toNat false = true
theorem getD_set_at {l : List Bool} {i : Nat} (hi : i < l.length) : (l.set i true).getD i false = true := by simp [List.getD_eq_getElem?_getD, hi]
theorem RInv.le {ok : Nat → Bool} {n c0 : Nat} {s : RS} (h : RInv ok n c0 s) : s.l.length ≤ n := by
  have h1 := h.cnt
  have h2 : s.seen.count true ≤ s.seen.length := List.count_le_length
  have h3 := h.len
  omega
theorem getD_set {l : List Bool} {i j : Nat} : (l.set i true).getD j false = true → l.getD j false = true ∨ j = i := by
  intro h
  by_cases e : i = j
  · exact .inr e.symm
  · rw [List.getD_eq_getElem?_getD, List.getElem?_set_ne e] at h
    exact .inl (by rw [List.getD_eq_getElem?_getD]; exact h)
theorem getD_set_mono {l : List Bool} {i j : Nat} (hi : i < l.length) : l.getD j false = true → (l.set i true).getD j false = true := by
  intro h
  by_cases e : i = j
  · subst e
    simp [List.getD_eq_getElem?_getD, hi]
  · rw [List.getD_eq_getElem?_getD, List.getElem?_set_ne e, ← List.getD_eq_getElem?_getD]; exact h
/-- How a region grows. -/
structure RLe (s s' : RS) : Prop where
  len : s.l.length ≤ s'.l.length
  pre : ∃ r, s'.l = s.l ++ r
  seen : ∀ j, s.seen.getD j false = true → s'.seen.getD j false = true
  new : ∀ x, x ∈ s'.l → x ∈ s.l ∨ s.seen.getD x.toNat false = false
theorem RLe.refl (s : RS) : RLe s s := ⟨Nat.le_refl _, ⟨[], (List.append_nil _).symm⟩, fun _ h => h, fun _ h => .inl h⟩
theorem RLe.trans {s s' s'' : RS} (h : RLe s s') (h' : RLe s' s'') : RLe s s'' := by
  refine ⟨Nat.le_trans h.len h'.len, ?_, fun j hj => h'.seen j (h.seen j hj), fun x hx => ?_⟩
  · obtain ⟨r, hr⟩ := h.pre
    obtain ⟨r', hr'⟩ := h'.pre
    exact ⟨r ++ r', by rw [hr', hr, List.append_assoc]⟩
  · rcases h'.new x hx with h1 | h1
    · exact h.new x h1
    · refine .inr ?_
      cases hq : s.seen.getD x.toNat false with
      | false => rfl
      | true => rw [h.seen _ hq] at h1; cases h1
theorem not_seen {a b : Bool} (h : ¬ (a = true ∨ b = false)) : a = false ∧ b = true := by
  cases a <;> cases b <;> simp at h ⊢
/-- A step of the search. -/
def StepOk (ok : Nat → Bool) (n : Nat) (f : RS → Int → RS) : Prop := ∀ c0 s c, RInv ok n c0 s → 0 ≤ c → c < (n : Int) → RInv ok n c0 (f s c) ∧ RLe s (f s c)
theorem getD_mem {l : List Int} {k : Nat} (h : k < l.length) : l.getD k 0 ∈ l := by rw [getD_lt h]; exact List.getElem_mem h
theorem bfs_inv {ok : Nat → Bool} {n : Nat} {f : RS → Int → RS} (hf : StepOk ok n f) {c0 : Nat} : ∀ (m k : Nat) (s : RS), RInv ok n c0 s → RInv ok n c0 (bfs f m k s) ∧ RLe s (bfs f m k s)
  | 0, k, s, h => ⟨h, RLe.refl s⟩
  | m + 1, k, s, h => by
    simp only [bfs]
    split
    · rename_i hk
      obtain ⟨b1, b2⟩ := h.bd _ (getD_mem hk)
      obtain ⟨h1, h2⟩ := hf c0 s (s.l.getD k 0) h b1 b2
      obtain ⟨h3, h4⟩ := bfs_inv hf m (k + 1) _ h1
      exact ⟨h3, h2.trans h4⟩
    · exact ⟨h, RLe.refl s⟩
/-- What holds between the regions: before number i. -/
structure SInv (ok : Nat → Bool) (n i : Nat) (seen : List Bool) : Prop where
  len : seen.length = n
  ink : ∀ j, seen.getD j false = true → ok j = true
  all : ∀ j, j < i → ok j = true → seen.getD j false = true
theorem SInv.zero (ok : Nat → Bool) (n : Nat) : SInv ok n 0 (List.replicate n false) := by
  refine ⟨by simp, fun j hj => ?_, fun j hj => absurd hj (by omega)⟩
  rw [List.getD_eq_getElem?_getD, List.getElem?_replicate] at hj
  split at hj <;> cases hj
theorem SInv.skip {ok : Nat → Bool} {n i : Nat} {seen : List Bool} (h : SInv ok n i seen) (hn : seen.getD i false = true ∨ ok i = false) : SInv ok n (i + 1) seen := by
  refine ⟨h.len, h.ink, fun j hj hp => ?_⟩
  by_cases e : j = i
  · subst e
    rcases hn with hn | hn
    · exact hn
    · rw [hp] at hn; cases hn
  · exact h.all j (by omega) hp
theorem SInv.start {ok : Nat → Bool} {n i : Nat} {seen : List Bool} (h : SInv ok n i seen) (hi : i < n) (hn : ¬ (seen.getD i false = true ∨ ok i = false)) :
    RInv ok n (seen.count true) ⟨seen.set i true, [(i : Int)]⟩ := by
  obtain ⟨hs, hp⟩ := not_seen hn
  have hl := h.len
  refine ⟨by simp only [List.length_set]; exact hl, ?_, fun x hx => ?_, fun j hj => ?_, fun x hx => ?_⟩
  · simp only [count_set (show i < seen.length by omega) hs, List.length_cons, List.length_nil]
  · rw [List.mem_singleton.1 hx]; omega
  · rcases getD_set hj with hj | rfl
    · exact h.ink j hj
    · exact hp
  · rw [List.mem_singleton.1 hx, Int.toNat_natCast]; exact getD_set_at (by omega)
/-- What a region is: numbers from the first one on. -/
structure RegOk (n i : Nat) (l : List Int) : Prop where
  bd : ∀ x, x ∈ l → (i : Int) ≤ x ∧ x < (n : Int)
  hd : ∃ t, l = (i : Int) :: t
  le : l.length ≤ n
theorem SInv.region {ok : Nat → Bool} {n : Nat} {f : RS → Int → RS} (hf : StepOk ok n f) {i : Nat} {seen : List Bool} (h : SInv ok n i seen) (hi : i < n) (hn : ¬ (seen.getD i false = true ∨ ok i = false)) (m : Nat) :
    SInv ok n (i + 1) (bfs f m 0 ⟨seen.set i true, [(i : Int)]⟩).seen ∧ RegOk n i (bfs f m 0 ⟨seen.set i true, [(i : Int)]⟩).l ∧
    (bfs f m 0 ⟨seen.set i true, [(i : Int)]⟩).seen.count true = seen.count true + (bfs f m 0 ⟨seen.set i true, [(i : Int)]⟩).l.length := by
  obtain ⟨h1, h2⟩ := bfs_inv hf m 0 _ (h.start hi hn)
  have hlt : i < seen.length := by rw [h.len]; exact hi
  refine ⟨⟨h1.len, h1.ink, fun j hj hq => ?_⟩, ⟨fun x hx => ⟨?_, (h1.bd x hx).2⟩, ?_, h1.le⟩, h1.cnt⟩
  · refine h2.seen j ?_
    by_cases e : j = i
    · subst e; exact getD_set_at hlt
    · exact getD_set_mono hlt (h.all j (by omega) hq)
  · have hb := h1.bd x hx
    rcases h2.new x hx with hx' | hx'
    · rw [List.mem_singleton.1 hx']; omega
    · refine Classical.byContradiction fun hlt' => ?_
      have hj : x.toNat < i := by omega
      have hq : ok x.toNat = true := h1.ink _ (h1.sn x hx)
      rw [getD_set_mono hlt (h.all _ hj hq)] at hx'
      cases hx'
  · obtain ⟨r, hr⟩ := h2.pre
    exact ⟨r, hr⟩

end Go.Fv.P

/- Boxes that are close, in plain words. -/
namespace Go.Fv.P
open Go
set_option linter.unusedSimpArgs false
set_option linter.unusedVariables false
set_option maxRecDepth 8000

def boxErr (b : Bx) : Int := if (-1048576 ≤ b.x ∧ b.x ≤ 1048576) ∧ (-1048576 ≤ b.y ∧ b.y ≤ 1048576) ∧ (1 ≤ b.w ∧ b.w ≤ 1048576) ∧ (1 ≤ b.h ∧ b.h ≤ 1048576) then 0 else 3
def BxOk (b : Bx) : Prop := (-1048576 ≤ b.x ∧ b.x ≤ 1048576) ∧ (-1048576 ≤ b.y ∧ b.y ≤ 1048576) ∧ (1 ≤ b.w ∧ b.w ≤ 1048576) ∧ (1 ≤ b.h ∧ b.h ≤ 1048576)
theorem boxErr_zero {b : Bx} : boxErr b = 0 ↔ BxOk b := by
  unfold boxErr BxOk
  split
  · rename_i h; exact ⟨fun _ => h, fun _ => rfl⟩
  · rename_i h; exact ⟨fun e => absurd e (by decide), fun e => absurd e h⟩
theorem boxErr_cases (b : Bx) : boxErr b = 0 ∨ boxErr b = 3 := by unfold boxErr; split <;> simp
def firstBad : List Bx → Int
  | [] => 0
  | b :: l => if boxErr b = 0 then firstBad l else boxErr b
theorem firstBad_zero : ∀ {l : List Bx}, firstBad l = 0 ↔ ∀ b, b ∈ l → BxOk b
  | [] => by simp [firstBad]
  | b :: l => by
    simp only [firstBad, List.mem_cons, forall_eq_or_imp]
    split
    · rename_i h
      rw [firstBad_zero (l := l)]
      exact ⟨fun q => ⟨boxErr_zero.1 h, q⟩, fun q => q.2⟩
    · rename_i h
      exact ⟨fun q => absurd q h, fun q => absurd (boxErr_zero.2 q.1) h⟩
end Go.Fv.P

namespace Go.Fv.P
open Go Go.Proofs
set_option linter.unusedSimpArgs false
set_option linter.unusedVariables false
set_option maxRecDepth 8000
theorem when_ok (b : Bool) (e : Int) : FnOk Tryd.prog 18 [.bool b, .int .i64 e] (.int .i64 (if b = true then e else 0)) [] := by
  refine FnOk.of_vc Tryd.func18 rfl (by decide) (by simp [Tryd.f18]) [.tmp 4] rfl fun w0 T0 _ => ?_
  simp only [Tryd.f18, argEnv]
  cases b <;> simp (maxSteps := 1000000) only [go_sem, simprocAttr, ↓reduceIte] <;> (refine Ret.auto 0 ?_ rfl ?_ <;> simp only [go_sem, reduceCtorEq, reduceIte, Nat.reduceEqDiff, Nat.reduceLT, Nat.reduceLeDiff, Int.natCast_succ, Post])
end Go.Fv.P

namespace Go.Fv.P
open Go Go.Proofs
set_option linter.unusedSimpArgs false
set_option linter.unusedVariables false
set_option maxRecDepth 8000
end Go.Fv.P

namespace Go.Fv.P
open Go Go.Proofs
set_option linter.unusedSimpArgs false
set_option linter.unusedVariables false
set_option maxRecDepth 8000
end Go.Fv.P

namespace Go.Fv.P
open Go Go.Proofs
set_option linter.unusedSimpArgs false
set_option linter.unusedVariables false
set_option maxRecDepth 8000

def firstErr : List Int → Int
  | [] => 0
  | e :: l => if e = 0 then firstErr l else e
set_option maxHeartbeats 2000000 in
theorem first_ok (l : List Int) (hl : l.length ≤ 1000) : FnOk Tryd.prog 17 [.ro (.ints .i64 l)] (.int .i64 (firstErr l)) [] := by
  refine FnOk.of_vc Tryd.func17 rfl (by decide) (by simp [Tryd.f17]) [.tmp 2] rfl fun w0 T0 _ => ?_
  simp only [Tryd.f17, argEnv]
  (repeat' first | with_reducible (first | intro _ | refine rc ?_ | refine rl ?_ | refine rh ?_ | refine rt ?_ | refine rf ?_ | refine rs ?_ | refine And.intro ?_ ?_) | omega | simp (maxSteps := 1000000) only [go_sem, simprocAttr, ↓reduceIte])
  refine VcLoop.intro (fun i : Nat => ⟨15, [(7, .int .i64 i), (6, .int .i64 l.length), (5, .ro (.ints .i64 l))], [], 0⟩) (fun i => i ≤ l.length ∧ firstErr (l.drop i) = firstErr l) (fun i => l.length - i) 0 ?_ ⟨Nat.zero_le _, rfl⟩ fun i hi => ?_
  · refine Ent.auto0 rfl ?_ ?_ <;> simp only [go_sem, reduceCtorEq, reduceIte, Nat.reduceEqDiff, Nat.reduceLT, Nat.reduceLeDiff, Int.natCast_succ]
  obtain ⟨hi, he⟩ := hi
  (repeat' first | with_reducible (first | intro _ | refine rc ?_ | refine rl ?_ | refine rh ?_ | refine rt ?_ | refine rf ?_ | refine rs ?_ | refine And.intro ?_ ?_) | omega | simp (maxSteps := 1000000) only [go_sem, simprocAttr, ↓reduceIte])
  · have hlt : i < l.length := by omega
    have hd : l.drop i = l.getD i 0 :: l.drop (i + 1) := by rw [List.drop_eq_getElem_cons hlt, getD_lt hlt]
    rw [hd, firstErr, if_neg (by omega)] at he
    rw [← he]
    refine Ret.auto 0 ?_ rfl ?_ <;> simp only [go_sem, reduceCtorEq, reduceIte, Nat.reduceEqDiff, Nat.reduceLT, Nat.reduceLeDiff, Int.natCast_succ, Post]
  · have hlt : i < l.length := by omega
    have hd : l.drop i = l.getD i 0 :: l.drop (i + 1) := by rw [List.drop_eq_getElem_cons hlt, getD_lt hlt]
    rw [hd, firstErr, if_pos (by omega)] at he
    refine ⟨i + 1, Ent.auto0 rfl ?_ ?_, ⟨by omega, he⟩, by omega⟩ <;> simp only [go_sem, reduceCtorEq, reduceIte, Nat.reduceEqDiff, Nat.reduceLT, Nat.reduceLeDiff, Int.natCast_succ]
    all_goals rfl
  · have e : i = l.length := by omega
    subst e
    rw [List.drop_length] at he
    rw [← he]
    refine Ret.auto 0 ?_ rfl ?_ <;> simp only [go_sem, reduceCtorEq, reduceIte, Nat.reduceEqDiff, Nat.reduceLT, Nat.reduceLeDiff, Int.natCast_succ, Post, firstErr]

end Go.Fv.P

/- The reference's Hull: the walk. -/
namespace Go.Fv.P
open Go Go.Proofs
set_option linter.unusedSimpArgs false
set_option linter.unusedVariables false
set_option linter.unnecessarySimpa false
set_option maxRecDepth 8000

end Go.Fv.P
