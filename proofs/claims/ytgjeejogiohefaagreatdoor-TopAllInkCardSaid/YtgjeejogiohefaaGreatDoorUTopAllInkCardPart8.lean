/-
  A part of the proof of the claim: walks over the program's functions and the plain laws that these need. No condition of its own.
-/
import Derived.Test.YtgjeejogiohefaaGreatDoorUTopAllInkCardPart7
import Derived.Test.YtgjeejogiohefaaGreatDoorFvPart11
import Derived.Test.YtgjeejogiohefaaGreatDoorUTopAllInkCardPart1
import Derived.Test.YtgjeejogiohefaaGreatDoorUTopAllInkCardPart4
import Derived.Test.YtgjeejogiohefaaGreatDoorUTopAllInkCardPart5
import Derived.Test.YtgjeejogiohefaaGreatDoorFvPart9
/-! The order of reading: it does not hang on the order of the boxes. Plain law. -/
namespace Go.Fv.U
open Go
set_option linter.unusedSimpArgs false
set_option linter.unusedVariables false

/-! ### Sorts by a key -/
def sortKey {τ : Type} (key : τ → List Int) (l : List τ) : List τ := l.mergeSort fun i k => decide (key i ≤ key k)
theorem sortKey_perm {τ : Type} (key : τ → List Int) (l : List τ) : (sortKey key l).Perm l := List.mergeSort_perm _ _
theorem sortKey_sorted {τ : Type} (key : τ → List Int) (l : List τ) : (sortKey key l).Pairwise fun i k => key i ≤ key k := by
  have := List.pairwise_mergeSort (le := fun i k : τ => decide (key i ≤ key k)) (fun a b c h1 h2 => by
    rw [decide_eq_true_eq] at *; exact List.le_trans h1 h2) (fun a b => by
    rw [Bool.or_eq_true, decide_eq_true_eq, decide_eq_true_eq]; exact List.le_total _ _) l
  exact this.imp fun h => of_decide_eq_true h
theorem sortKey_unique {τ : Type} {key : τ → List Int} {l l' : List τ} (hi : ∀ i k, i ∈ l' → k ∈ l' → key i = key k → i = k) (hp : l'.Perm l) (hs : l'.Pairwise fun i k => key i ≤ key k) : l' = sortKey key l :=
  List.Perm.eq_of_pairwise (le := fun i k => key i ≤ key k) (fun a b ha hb h1 h2 => hi a b ha (hp.mem_iff.2 ((sortKey_perm key l).mem_iff.1 hb)) (List.le_antisymm h1 h2)) hs (sortKey_sorted key l) (hp.trans (sortKey_perm key l).symm)
/-- The first that is not nothing. -/
def orL : List Int → Int
  | [] => 0
  | x :: l => if x = 0 then orL l else x
/-- Two ways to compare numbers. -/
structure CmpI (c : Int → Int → Int) : Prop where
  lt : ∀ a b, c a b < 0 ↔ a < b
  eq : ∀ a b, c a b = 0 ↔ a = b
theorem orL_lt {c : Int → Int → Int} (h : CmpI c) : ∀ {a b : List Int}, a.length = b.length → (orL (List.zipWith c a b) < 0 ↔ a < b)
  | [], [], _ => by simp [orL]
  | x :: a, y :: b, e => by
    have ih := orL_lt h (a := a) (b := b) (by simpa using e)
    rw [List.zipWith_cons_cons, orL, List.cons_lt_cons_iff]
    have h1 := h.lt x y
    have h2 := h.eq x y
    split
    · rename_i h0
      have := h2.1 h0
      subst this
      rw [ih]
      constructor
      · exact fun h => .inr ⟨rfl, h⟩
      · rintro (h | ⟨_, h⟩)
        · omega
        · exact h
    · rename_i h0
      rw [h1]
      constructor
      · exact .inl
      · rintro (h | ⟨e, _⟩)
        · exact h
        · exact absurd (h2.2 e) h0
/-- A comparison by a key orders. -/
theorem cmpOrd_key {τ : Type} {good : τ → Prop} {key : τ → List Int} {cf : τ → τ → Int} (h : ∀ i k, good i → good k → (cf i k < 0 ↔ key i < key k)) : CmpOrd good cf where
  irrefl := fun x hx h1 => List.lt_irrefl _ ((h x x hx hx).1 h1)
  trans := fun x y z hx hy hz h1 h2 => (h x z hx hz).2 (List.lt_trans ((h x y hx hy).1 h1) ((h y z hy hz).1 h2))
  ntrans := fun x y z hx hy hz h1 h2 h3 => by
    have k1 : key y ≤ key x := fun hlt => h1 ((h x y hx hy).2 hlt)
    have k2 : key z ≤ key y := fun hlt => h2 ((h y z hy hz).2 hlt)
    exact List.le_trans k2 k1 ((h x z hx hz).1 h3)
theorem sortedBy_key {τ : Type} {good : τ → Prop} {key : τ → List Int} {cf : τ → τ → Int} (h : ∀ i k, good i → good k → (cf i k < 0 ↔ key i < key k)) {l : List τ} (hg : ∀ x, x ∈ l → good x) (hs : SortedBy cf l) : l.Pairwise fun i k => key i ≤ key k :=
  List.Pairwise.imp_of_mem (fun {x y} hx hy hxy hlt => hxy ((h y x (hg y hy) (hg x hx)).2 hlt)) hs

/-! ### The order of boxes -/
def kB (b : Bx) : List Int := [b.y, b.x, b.h, b.w]
def bAt (L : List Bx) (i : Int) : Bx := L.getD i.toNat Bx.zero
def kI (L : List Bx) (i : Int) : List Int := [(bAt L i).y, (bAt L i).x, (bAt L i).h, (bAt L i).w, i]
theorem kB_inj {a b : Bx} (h : kB a = kB b) : a = b := by
  obtain ⟨_, _, _, _⟩ := a
  obtain ⟨_, _, _, _⟩ := b
  simp [kB] at h
  obtain ⟨rfl, rfl, rfl, rfl⟩ := h
  rfl
theorem kI_inj {L : List Bx} {i k : Int} (h : kI L i = kI L k) : i = k := by
  unfold kI at h
  simp only [List.cons.injEq] at h
  exact h.2.2.2.2.1
theorem kI_le {L : List Bx} {i k : Int} (h : kI L i ≤ kI L k) : kB (bAt L i) ≤ kB (bAt L k) := by
  intro hlt
  apply h
  unfold kI kB at *
  simp only [List.cons_lt_cons_iff] at *
  rcases hlt with h | ⟨e1, h | ⟨e2, h | ⟨e3, h | ⟨e4, h⟩⟩⟩⟩
  · exact .inl h
  · exact .inr ⟨e1, .inl h⟩
  · exact .inr ⟨e1, .inr ⟨e2, .inl h⟩⟩
  · exact .inr ⟨e1, .inr ⟨e2, .inr ⟨e3, .inl h⟩⟩⟩
  · exact absurd h (by simp)
def ordI (L : List Bx) (gx gy : Int) (n : Nat) (l : List Int) : List Int := ordGo (bAt L) (sortKey (kI L)) gx gy n l
def ordB (gx gy : Int) (n : Nat) (l : List Bx) : List Bx := ordGo id (sortKey kB) gx gy n l
theorem sort_map (L : List Bx) (l : List Int) : (sortKey (kI L) l).map (bAt L) = sortKey kB (l.map (bAt L)) :=
  sortKey_unique (fun i k _ _ h => kB_inj h) ((sortKey_perm _ l).map _) (List.pairwise_map.2 ((sortKey_sorted (kI L) l).imp kI_le))
theorem ord_map (L : List Bx) (gx gy : Int) : ∀ (n : Nat) (l : List Int), (ordI L gx gy n l).map (bAt L) = ordB gx gy n (l.map (bAt L))
  | 0, l => rfl
  | n + 1, l => by
    have ih := ord_map L gx gy n
    unfold ordI ordB at *
    unfold ordGo
    rw [List.length_map]
    have e1 : (l.map (bAt L)).map (fun i => fx (id i)) = l.map fun i => fx (bAt L i) := by rw [List.map_map]; rfl
    have e2 : (l.map (bAt L)).map (fun i => fy (id i)) = l.map fun i => fy (bAt L i) := by rw [List.map_map]; rfl
    rw [e1, e2]
    split
    · rfl
    · split
      · exact sort_map L l
      · split
        · rw [List.map_append, ih, ih, List.filter_map, List.filter_map]; rfl
        · rw [List.map_append, ih, ih, List.filter_map, List.filter_map]; rfl
def BoxesOk (l : List Bx) : Prop := ∀ b, b ∈ l → 1 ≤ b.w ∧ 1 ≤ b.h
theorem fx_lt {l : List Bx} (h : BoxesOk l) : ∀ q, q ∈ l.map fx → q.1 < q.2 := fun q hq => by
  obtain ⟨b, hb, rfl⟩ := List.mem_map.1 hq
  have := h b hb
  unfold fx; dsimp only; omega
theorem fy_lt {l : List Bx} (h : BoxesOk l) : ∀ q, q ∈ l.map fy → q.1 < q.2 := fun q hq => by
  obtain ⟨b, hb, rfl⟩ := List.mem_map.1 hq
  have := h b hb
  unfold fy; dsimp only; omega
theorem ordB_succ (gx gy : Int) (n : Nat) (l : List Bx) : ordB gx gy (n + 1) l = if l.length < 2 then l
    else if (gapOf gx (l.map fx)).2 = 0 ∧ (gapOf gy (l.map fy)).2 = 0 then sortKey kB l
    else if atG (gapOf gx (l.map fx)) (gapOf gy (l.map fy)) gx gy then
      ordB gx gy n (l.filter fun i => decide (i.x < (gapOf gx (l.map fx)).1)) ++ ordB gx gy n (l.filter fun i => !decide (i.x < (gapOf gx (l.map fx)).1))
    else
      ordB gx gy n (l.filter fun i => decide (i.y < (gapOf gy (l.map fy)).1)) ++ ordB gx gy n (l.filter fun i => !decide (i.y < (gapOf gy (l.map fy)).1)) := rfl
theorem ordB_perm {gx gy : Int} (hgx : 1 ≤ gx) (hgy : 1 ≤ gy) : ∀ (n : Nat) {l l' : List Bx}, l.Perm l' → BoxesOk l → l.length ≤ n → ordB gx gy n l = ordB gx gy n l'
  | 0, l, l', h, _, hn => by
    have : l = [] := List.eq_nil_of_length_eq_zero (by omega)
    subst this
    rw [List.nil_perm.1 h]
  | n + 1, l, l', h, hb, hn => by
    rw [ordB_succ, ordB_succ]
    have el := h.length_eq
    rw [← el]
    split
    · rename_i h2
      match l, l', h with
      | [], l', h => rw [List.nil_perm.1 h]
      | [a], l', h => rw [List.singleton_perm.1 h]
      | _ :: _ :: _, _, _ => simp at h2; omega
    · have g1 := gapOf_perm hgx (h.map fx) (fx_lt hb)
      have g2 := gapOf_perm hgy (h.map fy) (fy_lt hb)
      have p1 := fun hne => gapOf_parts hgx (fx_lt hb) hne
      have p2 := fun hne => gapOf_parts hgy (fy_lt hb) hne
      rw [← g1, ← g2]
      generalize gapOf gx (l.map fx) = c at *
      generalize gapOf gy (l.map fy) = r at *
      have sub : ∀ p : Bx → Bool, BoxesOk (l.filter p) := fun p b hb' => hb b (List.mem_filter.1 hb').1
      split
      · exact List.Perm.eq_of_pairwise (le := fun i k => kB i ≤ kB k) (fun a b _ _ h1 h2 => kB_inj (List.le_antisymm h1 h2)) (sortKey_sorted _ _) (sortKey_sorted _ _) ((sortKey_perm _ _).trans (h.trans (sortKey_perm _ _).symm))
      · rename_i hne
        split
        · rename_i hat
          obtain ⟨⟨q1, m1, t1⟩, ⟨q2, m2, t2⟩, _⟩ := p1 (by unfold atG at hat; omega)
          obtain ⟨b1, n1, rfl⟩ := List.mem_map.1 m1
          obtain ⟨b2, n2, rfl⟩ := List.mem_map.1 m2
          have l1 := filter_lt (p := fun i : Bx => decide (i.x < c.1)) ⟨b2, n2, decide_eq_false t2⟩
          have l2 := filter_lt (p := fun i : Bx => !decide (i.x < c.1)) ⟨b1, n1, by rw [decide_eq_true (show b1.x < c.1 from t1)]; rfl⟩
          have r1 := ordB_perm hgx hgy n (h.filter fun i : Bx => decide (i.x < c.1)) (sub _) (by omega)
          have r2 := ordB_perm hgx hgy n (h.filter fun i : Bx => !decide (i.x < c.1)) (sub _) (by omega)
          rw [r1, r2]
        · rename_i hat
          obtain ⟨⟨q1, m1, t1⟩, ⟨q2, m2, t2⟩, _⟩ := p2 (by
            intro h0
            by_cases hc : c.2 = 0
            · exact hne ⟨hc, h0⟩
            · exact hat ⟨(p1 hc).2.2, .inl h0⟩)
          obtain ⟨b1, n1, rfl⟩ := List.mem_map.1 m1
          obtain ⟨b2, n2, rfl⟩ := List.mem_map.1 m2
          have l1 := filter_lt (p := fun i : Bx => decide (i.y < r.1)) ⟨b2, n2, decide_eq_false t2⟩
          have l2 := filter_lt (p := fun i : Bx => !decide (i.y < r.1)) ⟨b1, n1, by rw [decide_eq_true (show b1.y < r.1 from t1)]; rfl⟩
          have r1 := ordB_perm hgx hgy n (h.filter fun i : Bx => decide (i.y < r.1)) (sub _) (by omega)
          have r2 := ordB_perm hgx hgy n (h.filter fun i : Bx => !decide (i.y < r.1)) (sub _) (by omega)
          rw [r1, r2]
end Go.Fv.U

/- slices.SortFunc of numbers and of pairs of numbers, by the shelf. -/
namespace Go.Proofs
open Go.Shelf
def Tryz.lSoF_ren : Go.Shelf.Ren := ⟨fun | 6 => 75 | 15 => 93 | 14 => 136 | 28 => 154 | 29 => 155 | 20 => 177 | 21 => 178 | 22 => 179 | 23 => 180 | 24 => 181 | 25 => 182 | 26 => 183 | 27 => 184 | 46 => 218 | 47 => 197 | 48 => 198 | 49 => 219 | 50 => 220 | 57 => 242 | n => n, fun | 22 => 81 | 24 => 3 | 25 => 161 | 3 => 3 | 39 => 180 | 0 => 0 | 53 => 236 | 55 => 238 | 4 => 4 | 46 => 228 | 45 => 227 | 50 => 233 | 5 => 5 | 9 => 9 | 66 => 270 | 70 => 274 | 76 => 303 | 77 => 304 | n => n, fun | n => n⟩
theorem Tryz.lSoF : Go.Proofs.SlLaysF.n6 Tryz.prog Tryz.lSoF_ren := {
  mixed := by kernel_rfl
  f6 := ⟨Tryz.f75.name, by decide, Tryz.func75.trans (congrArg some (by kernel_rfl))⟩
  f14 := ⟨Tryz.f136.name, by decide, Tryz.func136.trans (congrArg some (by kernel_rfl))⟩
  f15 := Tryz.func93.trans (congrArg some (by kernel_rfl))
  f20 := ⟨Tryz.f177.name, by decide, Tryz.func177.trans (congrArg some (by kernel_rfl))⟩
  f21 := ⟨Tryz.f178.name, by decide, Tryz.func178.trans (congrArg some (by kernel_rfl))⟩
  f22 := ⟨Tryz.f179.name, by decide, Tryz.func179.trans (congrArg some (by kernel_rfl))⟩
  f23 := ⟨Tryz.f180.name, by decide, Tryz.func180.trans (congrArg some (by kernel_rfl))⟩
  f24 := ⟨Tryz.f181.name, by decide, Tryz.func181.trans (congrArg some (by kernel_rfl))⟩
  f25 := ⟨Tryz.f182.name, by decide, Tryz.func182.trans (congrArg some (by kernel_rfl))⟩
  f26 := ⟨Tryz.f183.name, by decide, Tryz.func183.trans (congrArg some (by kernel_rfl))⟩
  f27 := ⟨Tryz.f184.name, by decide, Tryz.func184.trans (congrArg some (by kernel_rfl))⟩
  f28 := Tryz.func154.trans (congrArg some (by kernel_rfl))
  f29 := Tryz.func155.trans (congrArg some (by kernel_rfl))
  f46 := ⟨Tryz.f218.name, by decide, Tryz.func218.trans (congrArg some (by kernel_rfl))⟩
  f47 := Tryz.func197.trans (congrArg some (by kernel_rfl))
  f48 := Tryz.func198.trans (congrArg some (by kernel_rfl))
  f49 := ⟨Tryz.f219.name, by decide, Tryz.func219.trans (congrArg some (by kernel_rfl))⟩
  f50 := ⟨Tryz.f220.name, by decide, Tryz.func220.trans (congrArg some (by kernel_rfl))⟩
  f57 := ⟨Tryz.f242.name, by decide, Tryz.func242.trans (congrArg some (by kernel_rfl))⟩
  t0 := Tryz.underlying0
  a0 := Tryz.isAgg0
  z0 := Tryz.sizeOf0
  v0 := Tryz.zeroValue0
  t3 := Tryz.underlying3
  a3 := Tryz.isAgg3
  z3 := Tryz.sizeOf3
  v3 := Tryz.zeroValue3
  t4 := Tryz.underlying4
  a4 := Tryz.isAgg4
  z4 := Tryz.sizeOf4
  v4 := Tryz.zeroValue4
  t5 := Tryz.underlying5
  a5 := Tryz.isAgg5
  z5 := Tryz.sizeOf5
  v5 := Tryz.zeroValue5
  t9 := Tryz.underlying9
  a9 := Tryz.isAgg9
  z9 := Tryz.sizeOf9
  v9 := Tryz.zeroValue9
  t22 := Tryz.underlying81
  a22 := Tryz.isAgg81
  z22 := Tryz.sizeOf81
  v22 := Tryz.zeroValue81
  a24 := Tryz.isAgg3
  z24 := Tryz.sizeOf3
  t25 := Tryz.underlying161
  a25 := Tryz.isAgg161
  z25 := Tryz.sizeOf161
  v25 := Tryz.zeroValue161
  t39 := Tryz.underlying180
  a39 := Tryz.isAgg180
  z39 := Tryz.sizeOf180
  v39 := Tryz.zeroValue180
  t45 := Tryz.underlying227
  a45 := Tryz.isAgg227
  z45 := Tryz.sizeOf227
  v45 := Tryz.zeroValue227
  t46 := Tryz.underlying228
  a46 := Tryz.isAgg228
  z46 := Tryz.sizeOf228
  v46 := Tryz.zeroValue228
  t50 := Tryz.underlying233
  a50 := Tryz.isAgg233
  z50 := Tryz.sizeOf233
  v50 := Tryz.zeroValue233
  t53 := Tryz.underlying236
  a53 := Tryz.isAgg236
  z53 := Tryz.sizeOf236
  v53 := Tryz.zeroValue236
  t55 := Tryz.underlying238
  a55 := Tryz.isAgg238
  z55 := Tryz.sizeOf238
  v55 := Tryz.zeroValue238
  t66 := Tryz.underlying270
  a66 := Tryz.isAgg270
  z66 := Tryz.sizeOf270
  v66 := Tryz.zeroValue270
  t70 := Tryz.underlying274
  a70 := Tryz.isAgg274
  z70 := Tryz.sizeOf274
  v70 := Tryz.zeroValue274
  t76 := Tryz.underlying303
  a76 := Tryz.isAgg303
  z76 := Tryz.sizeOf303
  v76 := Tryz.zeroValue303
  t77 := Tryz.underlying304
  a77 := Tryz.isAgg304
  z77 := Tryz.sizeOf304
  v77 := Tryz.zeroValue304 }
end Go.Proofs
namespace Go.Fv.U
open Go Go.Proofs
end Go.Fv.U

/- Boxes that are close, in plain words. -/
namespace Go.Fv.U
open Go
set_option linter.unusedSimpArgs false
set_option linter.unusedVariables false
set_option maxRecDepth 8000

def boxErr (b : Bx) : Int := if (-1048576 ≤ b.x ∧ b.x ≤ 1048576) ∧ (-1048576 ≤ b.y ∧ b.y ≤ 1048576) ∧ (1 ≤ b.w ∧ b.w ≤ 1048576) ∧ (1 ≤ b.h ∧ b.h ≤ 1048576) then 0 else 3
def BxOk (b : Bx) : Prop := (-1048576 ≤ b.x ∧ b.x ≤ 1048576) ∧ (-1048576 ≤ b.y ∧ b.y ≤ 1048576) ∧ (1 ≤ b.w ∧ b.w ≤ 1048576) ∧ (1 ≤ b.h ∧ b.h ≤ 1048576)
theorem boxErr_zero {b : Bx} : boxErr b = 0 ↔ BxOk b := by
  unfold boxErr BxOk
  split
  · rename_i h; exact ⟨fun _ => h, fun _ => rfl⟩
  · rename_i h; exact ⟨fun e => absurd e (by decide), fun e => absurd e h⟩
theorem boxErr_cases (b : Bx) : boxErr b = 0 ∨ boxErr b = 3 := by unfold boxErr; split <;> simp
def firstBad : List Bx → Int
  | [] => 0
  | b :: l => if boxErr b = 0 then firstBad l else boxErr b
theorem firstBad_zero : ∀ {l : List Bx}, firstBad l = 0 ↔ ∀ b, b ∈ l → BxOk b
  | [] => by simp [firstBad]
  | b :: l => by
    simp only [firstBad, List.mem_cons, forall_eq_or_imp]
    split
    · rename_i h
      rw [firstBad_zero (l := l)]
      exact ⟨fun q => ⟨boxErr_zero.1 h, q⟩, fun q => q.2⟩
    · rename_i h
      exact ⟨fun q => absurd q h, fun q => absurd (boxErr_zero.2 q.1) h⟩
end Go.Fv.U

/- What is right of boxes, and how far they are apart: the walk. -/
namespace Go.Fv.U
open Go Go.Proofs
set_option linter.unusedSimpArgs false
set_option linter.unusedVariables false
set_option linter.unnecessarySimpa false
set_option maxRecDepth 8000

theorem boxErr_bad {b : Bx} (h : ¬ BxOk b) : boxErr b = 3 := (boxErr_cases b).resolve_left fun e => h (boxErr_zero.1 e)
theorem place_ok (n : Int) : FnOk Tryz.prog 175 [.int .i64 n] (.bool (decide (-1048576 ≤ n ∧ n ≤ 1048576))) [] := by
  refine FnOk.of_vc Tryz.func175 rfl (by decide) (by simp [Tryz.f175]) [.tmp 2] rfl fun w0 T0 _ => ?_
  simp only [Tryz.f175, argEnv]
  (repeat' first | with_reducible (first | intro _ | refine rc ?_ | refine rl ?_ | refine rh ?_ | refine rt ?_ | refine rf ?_ | refine rs ?_ | refine And.intro ?_ ?_) | omega | simp (maxSteps := 1000000) only [go_sem, simprocAttr, ↓reduceIte])
  refine Ret.auto 0 ?_ rfl ?_ <;> simp only [go_sem, reduceCtorEq, reduceIte, Nat.reduceEqDiff, Nat.reduceLT, Nat.reduceLeDiff, Int.natCast_succ, Post]
theorem side_ok (n : Int) : FnOk Tryz.prog 176 [.int .i64 n] (.bool (decide (1 ≤ n ∧ n ≤ 1048576))) [] := by
  refine FnOk.of_vc Tryz.func176 rfl (by decide) (by simp [Tryz.f176]) [.tmp 2] rfl fun w0 T0 _ => ?_
  simp only [Tryz.f176, argEnv]
  (repeat' first | with_reducible (first | intro _ | refine rc ?_ | refine rl ?_ | refine rh ?_ | refine rt ?_ | refine rf ?_ | refine rs ?_ | refine And.intro ?_ ?_) | omega | simp (maxSteps := 1000000) only [go_sem, simprocAttr, ↓reduceIte])
  refine Ret.auto 0 ?_ rfl ?_ <;> simp only [go_sem, reduceCtorEq, reduceIte, Nat.reduceEqDiff, Nat.reduceLT, Nat.reduceLeDiff, Int.natCast_succ, Post]
set_option maxHeartbeats 4000000 in
theorem checkBox_ok (b : Bx) : FnOk Tryz.prog 134 [.agg b.av] (.int .i64 (boxErr b)) [] := by
  obtain ⟨x, y, w, h⟩ := b
  have k0 := place_ok x
  have k1 := place_ok y
  have k2 := side_ok w
  have k3 := side_ok h
  unfold Bx.av
  by_cases h0 : -1048576 ≤ x ∧ x ≤ 1048576
  case neg =>
    rw [boxErr_bad (show ¬ BxOk ⟨x, y, w, h⟩ from fun q => h0 q.1)]
    rw [decide_eq_false h0] at k0
    refine FnOk.of_vc Tryz.func134 rfl (by decide) (by simp [Tryz.f134]) [.tmp 2] rfl fun w0 T0 _ => ?_
    simp only [Tryz.f134, argEnv]
    (repeat' first | with_reducible (first | intro _ | refine rc ?_ | refine rl ?_ | refine rh ?_ | refine rt ?_ | refine rf ?_ | refine rs ?_ | refine And.intro ?_ ?_) | omega | simp (maxSteps := 1000000) only [go_sem, simprocAttr, ↓reduceIte])
    refine VcCall.k (k0) ?_
    (repeat' first | with_reducible (first | intro _ | refine rc ?_ | refine rl ?_ | refine rh ?_ | refine rt ?_ | refine rf ?_ | refine rs ?_ | refine And.intro ?_ ?_) | omega | simp (maxSteps := 1000000) only [go_sem, simprocAttr, ↓reduceIte])
    refine Ret.auto 0 ?_ rfl ?_ <;> simp only [go_sem, reduceCtorEq, reduceIte, Nat.reduceEqDiff, Nat.reduceLT, Nat.reduceLeDiff, Int.natCast_succ, Post]
  by_cases h1 : -1048576 ≤ y ∧ y ≤ 1048576
  case neg =>
    rw [boxErr_bad (show ¬ BxOk ⟨x, y, w, h⟩ from fun q => h1 q.2.1)]
    rw [decide_eq_true h0] at k0
    rw [decide_eq_false h1] at k1
    refine FnOk.of_vc Tryz.func134 rfl (by decide) (by simp [Tryz.f134]) [.tmp 2] rfl fun w0 T0 _ => ?_
    simp only [Tryz.f134, argEnv]
    (repeat' first | with_reducible (first | intro _ | refine rc ?_ | refine rl ?_ | refine rh ?_ | refine rt ?_ | refine rf ?_ | refine rs ?_ | refine And.intro ?_ ?_) | omega | simp (maxSteps := 1000000) only [go_sem, simprocAttr, ↓reduceIte])
    refine VcCall.k (k0) ?_
    (repeat' first | with_reducible (first | intro _ | refine rc ?_ | refine rl ?_ | refine rh ?_ | refine rt ?_ | refine rf ?_ | refine rs ?_ | refine And.intro ?_ ?_) | omega | simp (maxSteps := 1000000) only [go_sem, simprocAttr, ↓reduceIte])
    refine VcCall.k (k1) ?_
    (repeat' first | with_reducible (first | intro _ | refine rc ?_ | refine rl ?_ | refine rh ?_ | refine rt ?_ | refine rf ?_ | refine rs ?_ | refine And.intro ?_ ?_) | omega | simp (maxSteps := 1000000) only [go_sem, simprocAttr, ↓reduceIte])
    refine Ret.auto 0 ?_ rfl ?_ <;> simp only [go_sem, reduceCtorEq, reduceIte, Nat.reduceEqDiff, Nat.reduceLT, Nat.reduceLeDiff, Int.natCast_succ, Post]
  by_cases h2 : 1 ≤ w ∧ w ≤ 1048576
  case neg =>
    rw [boxErr_bad (show ¬ BxOk ⟨x, y, w, h⟩ from fun q => h2 q.2.2.1)]
    rw [decide_eq_true h0] at k0
    rw [decide_eq_true h1] at k1
    rw [decide_eq_false h2] at k2
    refine FnOk.of_vc Tryz.func134 rfl (by decide) (by simp [Tryz.f134]) [.tmp 2] rfl fun w0 T0 _ => ?_
    simp only [Tryz.f134, argEnv]
    (repeat' first | with_reducible (first | intro _ | refine rc ?_ | refine rl ?_ | refine rh ?_ | refine rt ?_ | refine rf ?_ | refine rs ?_ | refine And.intro ?_ ?_) | omega | simp (maxSteps := 1000000) only [go_sem, simprocAttr, ↓reduceIte])
    refine VcCall.k (k0) ?_
    (repeat' first | with_reducible (first | intro _ | refine rc ?_ | refine rl ?_ | refine rh ?_ | refine rt ?_ | refine rf ?_ | refine rs ?_ | refine And.intro ?_ ?_) | omega | simp (maxSteps := 1000000) only [go_sem, simprocAttr, ↓reduceIte])
    refine VcCall.k (k1) ?_
    (repeat' first | with_reducible (first | intro _ | refine rc ?_ | refine rl ?_ | refine rh ?_ | refine rt ?_ | refine rf ?_ | refine rs ?_ | refine And.intro ?_ ?_) | omega | simp (maxSteps := 1000000) only [go_sem, simprocAttr, ↓reduceIte])
    refine VcCall.k (k2) ?_
    (repeat' first | with_reducible (first | intro _ | refine rc ?_ | refine rl ?_ | refine rh ?_ | refine rt ?_ | refine rf ?_ | refine rs ?_ | refine And.intro ?_ ?_) | omega | simp (maxSteps := 1000000) only [go_sem, simprocAttr, ↓reduceIte])
    refine Ret.auto 0 ?_ rfl ?_ <;> simp only [go_sem, reduceCtorEq, reduceIte, Nat.reduceEqDiff, Nat.reduceLT, Nat.reduceLeDiff, Int.natCast_succ, Post]
  by_cases h3 : 1 ≤ h ∧ h ≤ 1048576
  case neg =>
    rw [boxErr_bad (show ¬ BxOk ⟨x, y, w, h⟩ from fun q => h3 q.2.2.2)]
    rw [decide_eq_true h0] at k0
    rw [decide_eq_true h1] at k1
    rw [decide_eq_true h2] at k2
    rw [decide_eq_false h3] at k3
    refine FnOk.of_vc Tryz.func134 rfl (by decide) (by simp [Tryz.f134]) [.tmp 2] rfl fun w0 T0 _ => ?_
    simp only [Tryz.f134, argEnv]
    (repeat' first | with_reducible (first | intro _ | refine rc ?_ | refine rl ?_ | refine rh ?_ | refine rt ?_ | refine rf ?_ | refine rs ?_ | refine And.intro ?_ ?_) | omega | simp (maxSteps := 1000000) only [go_sem, simprocAttr, ↓reduceIte])
    refine VcCall.k (k0) ?_
    (repeat' first | with_reducible (first | intro _ | refine rc ?_ | refine rl ?_ | refine rh ?_ | refine rt ?_ | refine rf ?_ | refine rs ?_ | refine And.intro ?_ ?_) | omega | simp (maxSteps := 1000000) only [go_sem, simprocAttr, ↓reduceIte])
    refine VcCall.k (k1) ?_
    (repeat' first | with_reducible (first | intro _ | refine rc ?_ | refine rl ?_ | refine rh ?_ | refine rt ?_ | refine rf ?_ | refine rs ?_ | refine And.intro ?_ ?_) | omega | simp (maxSteps := 1000000) only [go_sem, simprocAttr, ↓reduceIte])
    refine VcCall.k (k2) ?_
    (repeat' first | with_reducible (first | intro _ | refine rc ?_ | refine rl ?_ | refine rh ?_ | refine rt ?_ | refine rf ?_ | refine rs ?_ | refine And.intro ?_ ?_) | omega | simp (maxSteps := 1000000) only [go_sem, simprocAttr, ↓reduceIte])
    refine VcCall.k (k3) ?_
    (repeat' first | with_reducible (first | intro _ | refine rc ?_ | refine rl ?_ | refine rh ?_ | refine rt ?_ | refine rf ?_ | refine rs ?_ | refine And.intro ?_ ?_) | omega | simp (maxSteps := 1000000) only [go_sem, simprocAttr, ↓reduceIte])
    refine Ret.auto 0 ?_ rfl ?_ <;> simp only [go_sem, reduceCtorEq, reduceIte, Nat.reduceEqDiff, Nat.reduceLT, Nat.reduceLeDiff, Int.natCast_succ, Post]
  rw [boxErr_zero.2 (show BxOk ⟨x, y, w, h⟩ from ⟨h0, h1, h2, h3⟩)]
  rw [decide_eq_true h0] at k0
  rw [decide_eq_true h1] at k1
  rw [decide_eq_true h2] at k2
  rw [decide_eq_true h3] at k3
  refine FnOk.of_vc Tryz.func134 rfl (by decide) (by simp [Tryz.f134]) [.tmp 2] rfl fun w0 T0 _ => ?_
  simp only [Tryz.f134, argEnv]
  (repeat' first | with_reducible (first | intro _ | refine rc ?_ | refine rl ?_ | refine rh ?_ | refine rt ?_ | refine rf ?_ | refine rs ?_ | refine And.intro ?_ ?_) | omega | simp (maxSteps := 1000000) only [go_sem, simprocAttr, ↓reduceIte])
  refine VcCall.k (k0) ?_
  (repeat' first | with_reducible (first | intro _ | refine rc ?_ | refine rl ?_ | refine rh ?_ | refine rt ?_ | refine rf ?_ | refine rs ?_ | refine And.intro ?_ ?_) | omega | simp (maxSteps := 1000000) only [go_sem, simprocAttr, ↓reduceIte])
  refine VcCall.k (k1) ?_
  (repeat' first | with_reducible (first | intro _ | refine rc ?_ | refine rl ?_ | refine rh ?_ | refine rt ?_ | refine rf ?_ | refine rs ?_ | refine And.intro ?_ ?_) | omega | simp (maxSteps := 1000000) only [go_sem, simprocAttr, ↓reduceIte])
  refine VcCall.k (k2) ?_
  (repeat' first | with_reducible (first | intro _ | refine rc ?_ | refine rl ?_ | refine rh ?_ | refine rt ?_ | refine rf ?_ | refine rs ?_ | refine And.intro ?_ ?_) | omega | simp (maxSteps := 1000000) only [go_sem, simprocAttr, ↓reduceIte])
  refine VcCall.k (k3) ?_
  (repeat' first | with_reducible (first | intro _ | refine rc ?_ | refine rl ?_ | refine rh ?_ | refine rt ?_ | refine rf ?_ | refine rs ?_ | refine And.intro ?_ ?_) | omega | simp (maxSteps := 1000000) only [go_sem, simprocAttr, ↓reduceIte])
  refine Ret.auto 0 ?_ rfl ?_ <;> simp only [go_sem, reduceCtorEq, reduceIte, Nat.reduceEqDiff, Nat.reduceLT, Nat.reduceLeDiff, Int.natCast_succ, Post]
set_option maxHeartbeats 2000000 in
theorem checkList_ok (l : List Bx) : FnOk Tryz.prog 67 [.ro (bxs l)] (.int .i64 (if 5000 < l.length then 4 else firstBad l)) [] := by
  by_cases hl : 5000 < l.length
  case pos =>
    rw [if_pos hl]
    refine FnOk.of_vc Tryz.func67 rfl (by decide) (by simp [Tryz.f67]) [.tmp 2] rfl fun w0 T0 _ => ?_
    simp only [Tryz.f67, argEnv]
    (repeat' first | with_reducible (first | intro _ | refine rc ?_ | refine rl ?_ | refine rh ?_ | refine rt ?_ | refine rf ?_ | refine rs ?_ | refine And.intro ?_ ?_) | omega | simp (maxSteps := 1000000) only [go_sem, simprocAttr, ↓reduceIte, List.length_map])
    refine Ret.auto 0 ?_ rfl ?_ <;> simp only [go_sem, reduceCtorEq, reduceIte, Nat.reduceEqDiff, Nat.reduceLT, Nat.reduceLeDiff, Int.natCast_succ, Post]
  rw [if_neg hl]
  refine FnOk.of_vc Tryz.func67 rfl (by decide) (by simp [Tryz.f67]) [.tmp 2] rfl fun w0 T0 _ => ?_
  simp only [Tryz.f67, argEnv]
  (repeat' first | with_reducible (first | intro _ | refine rc ?_ | refine rl ?_ | refine rh ?_ | refine rt ?_ | refine rf ?_ | refine rs ?_ | refine And.intro ?_ ?_) | omega | simp (maxSteps := 1000000) only [go_sem, simprocAttr, ↓reduceIte, List.length_map])
  refine VcLoop.intro (fun i : Nat => ⟨21, [(11, .int .i64 i), (10, .int .i64 l.length), (9, .ro (bxs l))], [], 0⟩) (fun i => i ≤ l.length ∧ firstBad (l.drop i) = firstBad l) (fun i => l.length - i) 0 ?_ ⟨Nat.zero_le _, rfl⟩ fun i hi => ?_
  · refine Ent.auto0 rfl ?_ ?_ <;> simp only [go_sem, reduceCtorEq, reduceIte, Nat.reduceEqDiff, Nat.reduceLT, Nat.reduceLeDiff, Int.natCast_succ]
  obtain ⟨hi, he⟩ := hi
  by_cases hlt : i < l.length
  · have hel := bx_elem l hlt
    have hd : l.drop i = l.getD i Bx.zero :: l.drop (i + 1) := by rw [List.drop_eq_getElem_cons hlt, getD_lt hlt]
    rw [hd] at he
    simp only [firstBad] at he
    generalize l.getD i Bx.zero = b at *
    have k := checkBox_ok b
    unfold Bx.av at k
    by_cases hz : boxErr b = 0
    · rw [if_pos hz] at he
      rw [hz] at k
      (repeat' first | with_reducible (first | intro _ | refine rc ?_ | refine rl ?_ | refine rh ?_ | refine rt ?_ | refine rf ?_ | refine rs ?_ | refine And.intro ?_ ?_) | omega | simp (maxSteps := 1000000) only [go_sem, simprocAttr, ↓reduceIte, List.length_map, elemA, hel, Int.toNat_natCast])
      refine VcCall.k (k) ?_
      (repeat' first | with_reducible (first | intro _ | refine rc ?_ | refine rl ?_ | refine rh ?_ | refine rt ?_ | refine rf ?_ | refine rs ?_ | refine And.intro ?_ ?_) | omega | simp (maxSteps := 1000000) only [go_sem, simprocAttr, ↓reduceIte])
      refine ⟨i + 1, Ent.auto0 rfl ?_ ?_, ⟨by omega, he⟩, by omega⟩ <;> simp only [go_sem, reduceCtorEq, reduceIte, Nat.reduceEqDiff, Nat.reduceLT, Nat.reduceLeDiff, Int.natCast_succ]
    · rw [if_neg hz] at he
      rw [← he]
      have h3 : boxErr b = 3 := (boxErr_cases b).resolve_left hz
      rw [h3] at k ⊢
      (repeat' first | with_reducible (first | intro _ | refine rc ?_ | refine rl ?_ | refine rh ?_ | refine rt ?_ | refine rf ?_ | refine rs ?_ | refine And.intro ?_ ?_) | omega | simp (maxSteps := 1000000) only [go_sem, simprocAttr, ↓reduceIte, List.length_map, elemA, hel, Int.toNat_natCast])
      refine VcCall.k (k) ?_
      (repeat' first | with_reducible (first | intro _ | refine rc ?_ | refine rl ?_ | refine rh ?_ | refine rt ?_ | refine rf ?_ | refine rs ?_ | refine And.intro ?_ ?_) | omega | simp (maxSteps := 1000000) only [go_sem, simprocAttr, ↓reduceIte])
      refine Ret.auto 0 ?_ rfl ?_ <;> simp only [go_sem, reduceCtorEq, reduceIte, Nat.reduceEqDiff, Nat.reduceLT, Nat.reduceLeDiff, Int.natCast_succ, Post]
  · have e : i = l.length := by omega
    subst e
    rw [List.drop_length] at he
    rw [← he]
    (repeat' first | with_reducible (first | intro _ | refine rc ?_ | refine rl ?_ | refine rh ?_ | refine rt ?_ | refine rf ?_ | refine rs ?_ | refine And.intro ?_ ?_) | omega | simp (maxSteps := 1000000) only [go_sem, simprocAttr, ↓reduceIte])
    refine Ret.auto 0 ?_ rfl ?_ <;> simp only [go_sem, reduceCtorEq, reduceIte, Nat.reduceEqDiff, Nat.reduceLT, Nat.reduceLeDiff, Int.natCast_succ, Post, firstBad]
end Go.Fv.U

/-! The order of reading: comparisons, and the widest stretch that no box has. The walk. -/
namespace Go.Fv.U
open Go Go.Proofs
set_option linter.unusedSimpArgs false
set_option linter.unusedVariables false
set_option linter.unnecessarySimpa false
set_option maxRecDepth 8000

theorem covO1 {a : Item} : ∀ j, j < 1 → ∃ it, lk [(0, a)] j = some it := fun j hj => by
  obtain rfl : j = 0 := by omega
  exact ⟨_, rfl⟩
def cmp3 (a b : Int) : Int := if a < b then -1 else if b < a then 1 else 0
theorem cmp3_i : CmpI cmp3 := ⟨fun a b => by unfold cmp3; split <;> (try split) <;> omega, fun a b => by unfold cmp3; split <;> (try split) <;> omega⟩
theorem isNaNI_ok (a : Int) : FnOk Tryz.prog 137 [.int .i64 a] (.bool false) [] := by
  refine FnOk.of_vc Tryz.func137 rfl (by decide) (by simp [Tryz.f137]) [.tmp 2] rfl fun w0 T0 _ => ?_
  simp only [Tryz.f137, argEnv]
  (repeat' first | with_reducible (first | intro _ | refine rc ?_ | refine rl ?_ | refine rh ?_ | refine rt ?_ | refine rf ?_ | refine rs ?_ | refine And.intro ?_ ?_) | omega | simp (maxSteps := 1000000) only [go_sem, simprocAttr, ↓reduceIte])
  refine Ret.auto 0 ?_ rfl ?_ <;> simp only [go_sem, reduceCtorEq, reduceIte, Nat.reduceEqDiff, Nat.reduceLT, Nat.reduceLeDiff, Int.natCast_succ, Post]
  all_goals simp
theorem compare_ok (a b : Int) : FnOk Tryz.prog 78 [.int .i64 a, .int .i64 b] (.int .i64 (cmp3 a b)) [] := by
  unfold cmp3
  refine FnOk.of_vc Tryz.func78 rfl (by decide) (by simp [Tryz.f78]) [.tmp 4] rfl fun w0 T0 _ => ?_
  simp only [Tryz.f78, argEnv]
  (repeat' first | with_reducible (first | intro _ | refine rc ?_ | refine rl ?_ | refine rh ?_ | refine rt ?_ | refine rf ?_ | refine rs ?_ | refine And.intro ?_ ?_) | omega | simp (maxSteps := 1000000) only [go_sem, simprocAttr, ↓reduceIte])
  refine VcCall.k (isNaNI_ok a) ?_
  (repeat' first | with_reducible (first | intro _ | refine rc ?_ | refine rl ?_ | refine rh ?_ | refine rt ?_ | refine rf ?_ | refine rs ?_ | refine And.intro ?_ ?_) | omega | simp (maxSteps := 1000000) only [go_sem, simprocAttr, ↓reduceIte])
  refine VcCall.k (isNaNI_ok b) ?_
  by_cases h1 : a < b
  · rw [if_pos h1]
    (repeat' first | with_reducible (first | intro _ | refine rc ?_ | refine rl ?_ | refine rh ?_ | refine rt ?_ | refine rf ?_ | refine rs ?_ | refine And.intro ?_ ?_) | omega | simp (maxSteps := 1000000) only [go_sem, simprocAttr, ↓reduceIte])
    refine Ret.auto 0 ?_ rfl ?_ <;> simp only [go_sem, reduceCtorEq, reduceIte, Nat.reduceEqDiff, Nat.reduceLT, Nat.reduceLeDiff, Int.natCast_succ, Post]
  · rw [if_neg h1]
    by_cases h2 : b < a
    · rw [if_pos h2]
      (repeat' first | with_reducible (first | intro _ | refine rc ?_ | refine rl ?_ | refine rh ?_ | refine rt ?_ | refine rf ?_ | refine rs ?_ | refine And.intro ?_ ?_) | omega | simp (maxSteps := 1000000) only [go_sem, simprocAttr, ↓reduceIte])
      refine Ret.auto 0 ?_ rfl ?_ <;> simp only [go_sem, reduceCtorEq, reduceIte, Nat.reduceEqDiff, Nat.reduceLT, Nat.reduceLeDiff, Int.natCast_succ, Post]
    · rw [if_neg h2]
      (repeat' first | with_reducible (first | intro _ | refine rc ?_ | refine rl ?_ | refine rh ?_ | refine rt ?_ | refine rf ?_ | refine rs ?_ | refine And.intro ?_ ?_) | omega | simp (maxSteps := 1000000) only [go_sem, simprocAttr, ↓reduceIte])
      refine Ret.auto 0 ?_ rfl ?_ <;> simp only [go_sem, reduceCtorEq, reduceIte, Nat.reduceEqDiff, Nat.reduceLT, Nat.reduceLeDiff, Int.natCast_succ, Post]
theorem orL_drop (l : List Int) {k : Nat} (h : k < l.length) : orL (l.drop k) = if l.getD k 0 = 0 then orL (l.drop (k + 1)) else l.getD k 0 := by
  rw [List.drop_eq_getElem_cons h, orL, getD_lt h]
theorem cmpOr_ok (l : List Int) : FnOk Tryz.prog 77 [.ro (.ints .i64 l)] (.int .i64 (orL l)) [] := by
  refine FnOk.of_vc Tryz.func77 rfl (by decide) (by simp [Tryz.f77]) [.tmp 2] rfl fun w0 T0 _ => ?_
  simp only [Tryz.f77, argEnv]
  (repeat' first | with_reducible (first | intro _ | refine rc ?_ | refine rl ?_ | refine rh ?_ | refine rt ?_ | refine rf ?_ | refine rs ?_ | refine And.intro ?_ ?_) | omega | simp (maxSteps := 1000000) only [go_sem, simprocAttr, ↓reduceIte])
  refine VcLoop.intro (fun i : Nat => ⟨18, [(8, .int .i64 i), (7, .int .i64 l.length), (6, .ro (.ints .i64 l)), (3, .int .i64 0)], [], 0⟩) (fun i => i ≤ l.length ∧ orL l = orL (l.drop i)) (fun i => l.length - i) 0 ?_ ⟨Nat.zero_le _, rfl⟩ fun i hi => ?_
  · refine Ent.auto0 rfl ?_ ?_ <;> simp only [go_sem, reduceCtorEq, reduceIte, Nat.reduceEqDiff, Nat.reduceLT, Nat.reduceLeDiff, Int.natCast_succ]
  obtain ⟨hi, ho⟩ := hi
  by_cases hlt : i < l.length
  · have hd := orL_drop l hlt
    by_cases h0 : l.getD i 0 = 0
    · rw [if_pos h0] at hd
      (repeat' first | with_reducible (first | intro _ | refine rc ?_ | refine rl ?_ | refine rh ?_ | refine rt ?_ | refine rf ?_ | refine rs ?_ | refine And.intro ?_ ?_) | omega | simp (maxSteps := 1000000) only [go_sem, simprocAttr, ↓reduceIte, h0])
      refine ⟨i + 1, Ent.auto0 rfl ?_ ?_, ⟨by omega, ho.trans hd⟩, by omega⟩ <;> simp only [go_sem, reduceCtorEq, reduceIte, Nat.reduceEqDiff, Nat.reduceLT, Nat.reduceLeDiff, Int.natCast_succ]
    · rw [if_neg h0] at hd
      (repeat' first | with_reducible (first | intro _ | refine rc ?_ | refine rl ?_ | refine rh ?_ | refine rt ?_ | refine rf ?_ | refine rs ?_ | refine And.intro ?_ ?_) | omega | simp (maxSteps := 1000000) only [go_sem, simprocAttr, ↓reduceIte])
      refine Ret.auto 0 ?_ rfl ?_ <;> simp only [go_sem, reduceCtorEq, reduceIte, Nat.reduceEqDiff, Nat.reduceLT, Nat.reduceLeDiff, Int.natCast_succ, Post, ho.trans hd]
  · have e : i = l.length := by omega
    subst e
    have : orL l = 0 := by rw [ho, List.drop_length]; rfl
    (repeat' first | with_reducible (first | intro _ | refine rc ?_ | refine rl ?_ | refine rh ?_ | refine rt ?_ | refine rf ?_ | refine rs ?_ | refine And.intro ?_ ?_) | omega | simp (maxSteps := 1000000) only [go_sem, simprocAttr, ↓reduceIte])
    refine Ret.auto 0 ?_ rfl ?_ <;> simp only [go_sem, reduceCtorEq, reduceIte, Nat.reduceEqDiff, Nat.reduceLT, Nat.reduceLeDiff, Int.natCast_succ, Post, this]
theorem cloneI_ok (l : List Int) (hl : l.length ≤ 100000) : FnOk Tryz.prog 74 [.ro (.ints .i64 l)] (.own 0) [(0, .row 3 (.ints .i64 l))] := by
  refine FnOk.of_vc Tryz.func74 rfl (by decide) (by simp [Tryz.f74]) [.tmp 2] rfl fun w0 T0 _ => ?_
  simp only [Tryz.f74, argEnv]
  (repeat' first | with_reducible (first | intro _ | refine rc ?_ | refine rl ?_ | refine rh ?_ | refine rt ?_ | refine rf ?_ | refine rs ?_ | refine And.intro ?_ ?_) | omega | simp (maxSteps := 1000000) only [go_sem, simprocAttr, ↓reduceIte])
  · rename_i h
    have : l = [] := List.eq_nil_of_length_eq_zero h
    refine Ret.auto 1 ?_ rfl ?_ <;> simp only [go_sem, reduceCtorEq, reduceIte, Nat.reduceEqDiff, Nat.reduceLT, Nat.reduceLeDiff, Int.natCast_succ, Post, this, zrow, List.replicate_zero]
  · refine Ret.auto 1 ?_ rfl ?_ <;> simp only [go_sem, reduceCtorEq, reduceIte, Nat.reduceEqDiff, Nat.reduceLT, Nat.reduceLeDiff, Int.natCast_succ, Post, zrow, List.replicate_zero]

section
variable (L : List Bx) (F T : Nat) (fr to : Bx → Int)
def InL (i : Int) : Prop := 0 ≤ i ∧ i < L.length
theorem bAt_mem {L : List Bx} {i : Int} (h : InL L i) : bAt L i ∈ L := by
  unfold bAt InL at *
  rw [getD_lt (by omega)]; exact List.getElem_mem _
theorem bAt_elem {L : List Bx} {i : Int} (h : InL L i) : (L.map Bx.av).getD i.toNat [] = [.int .i64 (bAt L i).x, .int .i64 (bAt L i).y, .int .i64 (bAt L i).w, .int .i64 (bAt L i).h] := bx_elem L (by unfold InL at h; omega)
/-- What the sort of 'between' compares by. -/
theorem between1_ok (kF : ∀ b, b ∈ L → FnOk Tryz.prog F [.agg b.av] (.int .i64 (fr b)) []) (i k : Int) (hi : InL L i) (hk : InL L k) :
    FnOk Tryz.prog 135 [.int .i64 i, .int .i64 k, .cell [.fn F []], .cell [.ro (bxs L)]] (.int .i64 (cmp3 (fr (bAt L i)) (fr (bAt L k)))) [] := by
  have k1 := kF _ (bAt_mem hi)
  have k2 := kF _ (bAt_mem hk)
  have e1 := bAt_elem hi
  have e2 := bAt_elem hk
  have kc := compare_ok (fr (bAt L i)) (fr (bAt L k))
  generalize bAt L i = bi at *
  generalize bAt L k = bk at *
  unfold Bx.av at k1 k2
  unfold InL at hi hk
  generalize fr bi = u at *
  generalize fr bk = v at *
  refine FnOk.of_vc Tryz.func135 rfl (by decide) (by simp [Tryz.f135]) [.tmp 6] rfl fun w0 T0 _ => ?_
  simp only [Tryz.f135, argEnv]
  (repeat' first | with_reducible (first | intro _ | refine rc ?_ | refine rl ?_ | refine rh ?_ | refine rt ?_ | refine rf ?_ | refine rs ?_ | refine And.intro ?_ ?_) | omega | simp (maxSteps := 1000000) only [go_sem, simprocAttr, ↓reduceIte])
  refine VcDraw.lex [] [] (by kernel_rfl) (by kernel_rfl) ?_
  (repeat' first | with_reducible (first | intro _ | refine rc ?_ | refine rl ?_ | refine rh ?_ | refine rt ?_ | refine rf ?_ | refine rs ?_ | refine And.intro ?_ ?_) | omega | simp (maxSteps := 1000000) only [go_sem, simprocAttr, ↓reduceIte, List.length_map, elemA, e1, e2])
  (refine QV.intro (.int .i64 u) ?_ ?_; focus ((repeat' first | with_reducible (first | intro _ | refine rc ?_ | refine rl ?_ | refine rh ?_ | refine rt ?_ | refine rf ?_ | refine rs ?_ | refine And.intro ?_ ?_) | omega | simp (maxSteps := 1000000) only [go_sem, simprocAttr, ↓reduceIte]); refine VcCall.k (k1) ?_; (repeat' first | with_reducible (first | intro _ | refine rc ?_ | refine rl ?_ | refine rh ?_ | refine rt ?_ | refine rf ?_ | refine rs ?_ | refine And.intro ?_ ?_) | omega | simp (maxSteps := 1000000) only [go_sem, simprocAttr, ↓reduceIte])))
  (repeat' first | with_reducible (first | intro _ | refine rc ?_ | refine rl ?_ | refine rh ?_ | refine rt ?_ | refine rf ?_ | refine rs ?_ | refine And.intro ?_ ?_) | omega | simp (maxSteps := 1000000) only [go_sem, simprocAttr, ↓reduceIte, List.length_map, elemA, e1, e2])
  (refine QV.intro (.int .i64 v) ?_ ?_; focus ((repeat' first | with_reducible (first | intro _ | refine rc ?_ | refine rl ?_ | refine rh ?_ | refine rt ?_ | refine rf ?_ | refine rs ?_ | refine And.intro ?_ ?_) | omega | simp (maxSteps := 1000000) only [go_sem, simprocAttr, ↓reduceIte]); refine VcCall.k (k2) ?_; (repeat' first | with_reducible (first | intro _ | refine rc ?_ | refine rl ?_ | refine rh ?_ | refine rt ?_ | refine rf ?_ | refine rs ?_ | refine And.intro ?_ ?_) | omega | simp (maxSteps := 1000000) only [go_sem, simprocAttr, ↓reduceIte])))
  (repeat' first | with_reducible (first | intro _ | refine rc ?_ | refine rl ?_ | refine rh ?_ | refine rt ?_ | refine rf ?_ | refine rs ?_ | refine And.intro ?_ ?_) | omega | simp (maxSteps := 1000000) only [go_sem, simprocAttr, ↓reduceIte, List.length_map, elemA, e1, e2])
  (refine QV.intro (.int .i64 (cmp3 u v)) ?_ ?_; focus ((repeat' first | with_reducible (first | intro _ | refine rc ?_ | refine rl ?_ | refine rh ?_ | refine rt ?_ | refine rf ?_ | refine rs ?_ | refine And.intro ?_ ?_) | omega | simp (maxSteps := 1000000) only [go_sem, simprocAttr, ↓reduceIte]); refine VcCall.k (kc) ?_; (repeat' first | with_reducible (first | intro _ | refine rc ?_ | refine rl ?_ | refine rh ?_ | refine rt ?_ | refine rf ?_ | refine rs ?_ | refine And.intro ?_ ?_) | omega | simp (maxSteps := 1000000) only [go_sem, simprocAttr, ↓reduceIte])))
  (repeat' first | with_reducible (first | intro _ | refine rc ?_ | refine rl ?_ | refine rh ?_ | refine rt ?_ | refine rf ?_ | refine rs ?_ | refine And.intro ?_ ?_) | omega | simp (maxSteps := 1000000) only [go_sem, simprocAttr, ↓reduceIte])
  refine Ret.auto 0 ?_ rfl ?_ <;> simp only [go_sem, reduceCtorEq, reduceIte, Nat.reduceEqDiff, Nat.reduceLT, Nat.reduceLeDiff, Int.natCast_succ, Post]
def prI (i : Int) : Int × Int := (fr (bAt L i), to (bAt L i))
theorem foldl_bd {least lo hi : Int} {s0 : Int × Int × Int} (h0 : lo ≤ s0.1 ∧ s0.1 ≤ hi) (hb : (lo - hi ≤ s0.2.2 ∧ s0.2.2 ≤ hi - lo) ∧ lo - hi ≤ s0.2.1 ∧ s0.2.1 ≤ hi + (hi - lo)) (hlh : lo ≤ 0 ∧ 0 ≤ hi) : ∀ (l : List (Int × Int)), (∀ p, p ∈ l → (lo ≤ p.1 ∧ p.1 ≤ hi) ∧ lo ≤ p.2 ∧ p.2 ≤ hi) →
    (lo ≤ (l.foldl (gapStep least) s0).1 ∧ (l.foldl (gapStep least) s0).1 ≤ hi) ∧ ((lo - hi ≤ (l.foldl (gapStep least) s0).2.2 ∧ (l.foldl (gapStep least) s0).2.2 ≤ hi - lo) ∧ lo - hi ≤ (l.foldl (gapStep least) s0).2.1 ∧ (l.foldl (gapStep least) s0).2.1 ≤ hi + (hi - lo))
  | [], _ => ⟨h0, hb⟩
  | p :: l, h => by
    have hp := h p (.head _)
    rw [List.foldl_cons]
    refine foldl_bd ?_ ?_ hlh l fun q hq => h q (.tail _ hq)
    · unfold gapStep; dsimp only; omega
    · unfold gapStep; dsimp only
      split
      · dsimp only; omega
      · exact hb
set_option maxHeartbeats 4000000 in
theorem between_ok (hfr : ∀ b, b ∈ L → (-3000000 ≤ fr b ∧ fr b ≤ 3000000) ∧ (-3000000 ≤ to b ∧ to b ≤ 3000000) ∧ fr b < to b) (l : List Int) (hl : ∀ i, i ∈ l → InL L i) (hne : 1 ≤ l.length) (hln : l.length ≤ 6000) (hLn : L.length ≤ 6000) (least : Int) (hl1 : 1 ≤ least) (hl2 : least ≤ 4000)
    (kF : ∀ b, b ∈ L → FnOk Tryz.prog F [.agg b.av] (.int .i64 (fr b)) []) (kT : ∀ b, b ∈ L → FnOk Tryz.prog T [.agg b.av] (.int .i64 (to b)) []) :
    FnOk Tryz.prog 69 [.ro (bxs L), .ro (.ints .i64 l), .int .i64 least, .fn F [], .fn T []] (.agg [.int .i64 (gapOf least (l.map (prI L fr to))).1, .int .i64 (gapOf least (l.map (prI L fr to))).2]) [] := by
  obtain ⟨l', hp, hs, kS⟩ := sortF1_io Tryz.lSoF ⟨_, Tryz.func75, by kernel_rfl, by kernel_rfl⟩ 3 (good := fun i => InL L i ∧ InK .i64 i) (cf := fun i k => cmp3 (fr (bAt L i)) (fr (bAt L k)))
    ⟨fun x _ => by have := (cmp3_i.lt (fr (bAt L x)) (fr (bAt L x))); omega, fun x y z _ _ _ h1 h2 => by rw [cmp3_i.lt] at *; omega, fun x y z _ _ _ h1 h2 => by rw [cmp3_i.lt] at *; omega⟩
    135 [.cell [.fn F []], .cell [.ro (bxs L)]] rfl (fun x y hx hy => FnFr.of_ok (between1_ok L F fr kF x y hx.1 hy.1) rfl rfl) l (fun x hx => ⟨hl x hx, by have := hl x hx; unfold InL at this; exact InK_i64.2 (by omega)⟩) (fun x h => h.2) (by omega)
  have hl' : ∀ i, i ∈ l' → InL L i := fun i hi => hl i (hp.mem_iff.1 hi)
  have hln' := hp.length_eq
  have hsort : (l'.map (prI L fr to)).Pairwise fun p q => p.1 ≤ q.1 := List.pairwise_map.2 (hs.imp fun {i k} h => by
    rw [cmp3_i.lt] at h; unfold prI; dsimp only; omega)
  have hpr : ∀ i, InL L i → ((-3000000 ≤ (prI L fr to i).1 ∧ (prI L fr to i).1 ≤ 3000000) ∧ -3000000 ≤ (prI L fr to i).2 ∧ (prI L fr to i).2 ≤ 3000000) ∧ (prI L fr to i).1 < (prI L fr to i).2 := fun i hi => by
    have := hfr _ (bAt_mem hi)
    unfold prI; dsimp only; omega
  have hgap : gapFold least (l'.map (prI L fr to)) = gapOf least (l.map (prI L fr to)) := gapOf_sorted hl1 (hp.map _) (fun q hq => by
    obtain ⟨i, hi, rfl⟩ := List.mem_map.1 hq
    exact (hpr i (hl i hi)).2) hsort
  have h0 : 0 < l'.length := by omega
  have hi0 : InL L (l'.getD 0 0) := hl' _ (by rw [getD_lt h0]; exact List.getElem_mem _)
  have hfold : ((l'.map (prI L fr to)).foldl (gapStep least) ((prI L fr to (l'.getD 0 0)).2, 0, 0)).2 = gapOf least (l.map (prI L fr to)) := by
    rw [← hgap]
    cases l' with
    | nil => simp at h0
    | cons i m =>
      show (((prI L fr to i) :: m.map (prI L fr to)).foldl (gapStep least) ((prI L fr to i).2, 0, 0)).2 = _
      rw [List.foldl_cons, gapStep_first hl1 _ (hpr i (hl' i (.head _))).2]
      rfl
  have k0 := kT _ (bAt_mem hi0)
  have e0 := bAt_elem hi0
  have hp0 := hpr _ hi0
  generalize gapOf least (l.map (prI L fr to)) = G at *
  have hp0e : (prI L fr to (l'.getD 0 0)).2 = to (bAt L (l'.getD 0 0)) := rfl
  unfold InL at hi0
  generalize hbb : bAt L (l'.getD 0 0) = b0 at *
  generalize hs0 : ((prI L fr to (l'.getD 0 0)).2, (0 : Int), (0 : Int)) = s0 at *
  have hbd := fun k => foldl_bd (least := least) (lo := -3000000) (hi := 3000000) (s0 := s0) (by rw [← hs0]; dsimp only; omega) (by rw [← hs0]; dsimp only; omega) (by omega) ((l'.take k).map (prI L fr to)) (fun p hp => by
    obtain ⟨i, hi, rfl⟩ := List.mem_map.1 hp
    exact (hpr i (hl' i (List.mem_of_mem_take hi))).1)
  have hstp : ∀ k, k < l'.length → ((l'.take (k + 1)).map (prI L fr to)).foldl (gapStep least) s0 = gapStep least (((l'.take k).map (prI L fr to)).foldl (gapStep least) s0) (prI L fr to (l'.getD k 0)) := fun k hk => by
    rw [List.take_succ_eq_append_getElem hk, getD_lt hk, List.map_append, List.foldl_append]; rfl
  unfold Bx.av at k0
  refine FnOk.of_vc Tryz.func69 rfl (by decide) (by simp [Tryz.f69]) [.cell 10 156] rfl fun w0 T0 _ => ?_
  simp only [Tryz.f69, argEnv]
  (repeat' first | with_reducible (first | intro _ | refine rc ?_ | refine rl ?_ | refine rh ?_ | refine rt ?_ | refine rf ?_ | refine rs ?_ | refine And.intro ?_ ?_) | omega | simp (maxSteps := 1000000) only [go_sem, simprocAttr, ↓reduceIte])
  refine VcCall.fr (FnFr.of_ok (cloneI_ok l (by omega)) rfl rfl) (by simp only [noIdR_ok, argOkL, argOk, allOk, argOkN, List.drop_zero, lk, reduceIte, reduceCtorEq, Nat.reduceEqDiff, Option.some.injEq, Item.row.injEq, Item.box.injEq, AV.ro.injEq, exists_eq_left, exists_and_left, exists_eq_left', exists_eq_right, and_assoc, and_true, true_and, List.cons.injEq, exists_eq', exists_eq]) 1 rfl (by simp [rowsB, Item.below, belowR_ok]) ?_
  (repeat' first | with_reducible (first | intro _ | refine rc ?_ | refine rl ?_ | refine rh ?_ | refine rt ?_ | refine rf ?_ | refine rs ?_ | refine And.intro ?_ ?_) | omega | simp (maxSteps := 1000000) only [go_sem, simprocAttr, ↓reduceIte, renR_ok])
  refine VcCall.ioL [3] kS rfl rfl (by decide) ⟨_, _, .inl ⟨rfl, rfl⟩, ⟨_, _, .inr (by simp only [noIdR_ok, argOkL, argOk, allOk, argOkN, List.drop_zero, lk, reduceIte, reduceCtorEq, Nat.reduceEqDiff, Option.some.injEq, Item.row.injEq, Item.box.injEq, AV.ro.injEq, exists_eq_left, exists_and_left, exists_eq_left', exists_eq_right, and_assoc, and_true, true_and, List.cons.injEq, exists_eq', exists_eq, delL, del]), rfl, rfl⟩, rfl⟩ (by simp [subOk, ioN, lk, Item.ren, Item.below, renR_ok, belowR_ok]) covO1 1 (by decide) rfl (by simp [rowsB, Item.below, belowR_ok]) ?_
  (repeat' first | with_reducible (first | intro _ | refine rc ?_ | refine rl ?_ | refine rh ?_ | refine rt ?_ | refine rf ?_ | refine rs ?_ | refine And.intro ?_ ?_) | omega | simp (maxSteps := 1000000) only [go_sem, simprocAttr, ↓reduceIte, S.ioS, ioRows, ioN, delL, Item.ren, renR_ok, List.length_cons, List.length_nil, List.getElem?_cons_zero, List.cons_append, List.nil_append, Nat.sub_self, Nat.add_zero, List.filter])
  refine VcDraw.lex [] [] (by kernel_rfl) (by kernel_rfl) ?_
  (repeat' first | with_reducible (first | intro _ | refine rc ?_ | refine rl ?_ | refine rh ?_ | refine rt ?_ | refine rf ?_ | refine rs ?_ | refine And.intro ?_ ?_) | omega | simp (maxSteps := 1000000) only [go_sem, simprocAttr, ↓reduceIte, List.length_map, elemA, e0])
  (refine QV.intro (.int .i64 (to b0)) ?_ ?_; focus ((repeat' first | with_reducible (first | intro _ | refine rc ?_ | refine rl ?_ | refine rh ?_ | refine rt ?_ | refine rf ?_ | refine rs ?_ | refine And.intro ?_ ?_) | omega | simp (maxSteps := 1000000) only [go_sem, simprocAttr, ↓reduceIte]); refine VcCall.k (k0) ?_; (repeat' first | with_reducible (first | intro _ | refine rc ?_ | refine rl ?_ | refine rh ?_ | refine rt ?_ | refine rf ?_ | refine rs ?_ | refine And.intro ?_ ?_) | omega | simp (maxSteps := 1000000) only [go_sem, simprocAttr, ↓reduceIte])))
  (repeat' first | with_reducible (first | intro _ | refine rc ?_ | refine rl ?_ | refine rh ?_ | refine rt ?_ | refine rf ?_ | refine rs ?_ | refine And.intro ?_ ?_) | omega | simp (maxSteps := 1000000) only [go_sem, simprocAttr, ↓reduceIte])
  refine VcLoop.intro (fun k : Nat => ⟨65, [(31, .int .i64 k), (30, .int .i64 l'.length), (29, .own 3), (12, .int .i64 (((l'.take k).map (prI L fr to)).foldl (gapStep least) s0).1), (10, .ptr 2 0), (8, .ptr 1 0), (5, .ptr 0 0), (2, .int .i64 least), (4, .fn T [])], [(0, .box 77 [.ro (bxs L)]), (1, .box 73 [.fn F []]), (2, .box 156 [.int .i64 (((l'.take k).map (prI L fr to)).foldl (gapStep least) s0).2.1, .int .i64 (((l'.take k).map (prI L fr to)).foldl (gapStep least) s0).2.2]), (3, .row 3 (.ints .i64 l'))], 4⟩) (fun k => k ≤ l'.length) (fun k => l'.length - k) 0 ?_ (Nat.zero_le _) fun k hk => ?_
  · have ez : (([] : List (Int × Int)).foldl (gapStep least) s0) = (to b0, 0, 0) := by rw [← hs0, hp0e]; rfl
    refine Ent.auto0 rfl ?_ ?_ <;> simp only [go_sem, reduceCtorEq, reduceIte, Nat.reduceEqDiff, Nat.reduceLT, Nat.reduceLeDiff, Int.natCast_succ, List.take_zero, List.map_nil, ez]
  by_cases hlt : k < l'.length
  · have hik : InL L (l'.getD k 0) := hl' _ (by rw [getD_lt hlt]; exact List.getElem_mem _)
    have kf := kF _ (bAt_mem hik)
    have kt := kT _ (bAt_mem hik)
    have ek := bAt_elem hik
    have hpk := hpr _ hik
    have hst := hstp k hlt
    have hb1 := hbd k
    have hp1 : prI L fr to (l'.getD k 0) = (fr (bAt L (l'.getD k 0)), to (bAt L (l'.getD k 0))) := rfl
    rw [hp1] at hpk hst
    unfold InL at hik
    generalize ((l'.take k).map (prI L fr to)).foldl (gapStep least) s0 = s at *
    generalize bAt L (l'.getD k 0) = b at *
    obtain ⟨e, bf, bm⟩ := s
    unfold Bx.av at kf kt
    dsimp only at hpk hst hb1
    generalize fr b = f at *
    generalize to b = t at *
    change _ = (max e t, if least ≤ f - e ∧ bm < f - e then (e, f - e) else (bf, bm)) at hst
    (repeat' first | with_reducible (first | intro _ | refine rc ?_ | refine rl ?_ | refine rh ?_ | refine rt ?_ | refine rf ?_ | refine rs ?_ | refine And.intro ?_ ?_) | omega | simp (maxSteps := 1000000) only [go_sem, simprocAttr, ↓reduceIte])
    refine VcDraw.lex [] [] (by kernel_rfl) (by kernel_rfl) ?_
    (repeat' first | with_reducible (first | intro _ | refine rc ?_ | refine rl ?_ | refine rh ?_ | refine rt ?_ | refine rf ?_ | refine rs ?_ | refine And.intro ?_ ?_) | omega | simp (maxSteps := 1000000) only [go_sem, simprocAttr, ↓reduceIte, List.length_map, elemA, ek])
    (refine QV.intro (.int .i64 f) ?_ ?_; focus ((repeat' first | with_reducible (first | intro _ | refine rc ?_ | refine rl ?_ | refine rh ?_ | refine rt ?_ | refine rf ?_ | refine rs ?_ | refine And.intro ?_ ?_) | omega | simp (maxSteps := 1000000) only [go_sem, simprocAttr, ↓reduceIte]); refine VcCall.k (kf) ?_; (repeat' first | with_reducible (first | intro _ | refine rc ?_ | refine rl ?_ | refine rh ?_ | refine rt ?_ | refine rf ?_ | refine rs ?_ | refine And.intro ?_ ?_) | omega | simp (maxSteps := 1000000) only [go_sem, simprocAttr, ↓reduceIte])))
    by_cases hc : least ≤ f - e ∧ bm < f - e
    · rw [if_pos hc] at hst
      (repeat' first | with_reducible (first | intro _ | refine rc ?_ | refine rl ?_ | refine rh ?_ | refine rt ?_ | refine rf ?_ | refine rs ?_ | refine And.intro ?_ ?_) | omega | simp (maxSteps := 1000000) only [go_sem, simprocAttr, ↓reduceIte, List.length_map, elemA, ek])
      refine VcCall.k (kt) ?_
      (repeat' first | with_reducible (first | intro _ | refine rc ?_ | refine rl ?_ | refine rh ?_ | refine rt ?_ | refine rf ?_ | refine rs ?_ | refine And.intro ?_ ?_) | omega | simp (maxSteps := 1000000) only [go_sem, simprocAttr, ↓reduceIte, minmax, Bool.false_eq_true])
      refine ⟨k + 1, Ent.auto0 rfl ?_ ?_, by omega, by omega⟩ <;> simp only [go_sem, reduceCtorEq, reduceIte, Nat.reduceEqDiff, Nat.reduceLT, Nat.reduceLeDiff, Int.natCast_succ, hst]
    · rw [if_neg hc] at hst
      (repeat' first | with_reducible (first | intro _ | refine rc ?_ | refine rl ?_ | refine rh ?_ | refine rt ?_ | refine rf ?_ | refine rs ?_ | refine And.intro ?_ ?_) | omega | simp (maxSteps := 1000000) only [go_sem, simprocAttr, ↓reduceIte, List.length_map, elemA, ek])
      refine VcCall.k (kt) ?_
      (repeat' first | with_reducible (first | intro _ | refine rc ?_ | refine rl ?_ | refine rh ?_ | refine rt ?_ | refine rf ?_ | refine rs ?_ | refine And.intro ?_ ?_) | omega | simp (maxSteps := 1000000) only [go_sem, simprocAttr, ↓reduceIte, minmax, Bool.false_eq_true])
      refine ⟨k + 1, Ent.auto0 rfl ?_ ?_, by omega, by omega⟩ <;> simp only [go_sem, reduceCtorEq, reduceIte, Nat.reduceEqDiff, Nat.reduceLT, Nat.reduceLeDiff, Int.natCast_succ, hst]
  · have e : k = l'.length := by omega
    subst e
    rw [List.take_length, hfold]
    (repeat' first | with_reducible (first | intro _ | refine rc ?_ | refine rl ?_ | refine rh ?_ | refine rt ?_ | refine rf ?_ | refine rs ?_ | refine And.intro ?_ ?_) | omega | simp (maxSteps := 1000000) only [go_sem, simprocAttr, ↓reduceIte])
    refine Ret.auto 0 ?_ rfl ?_ <;> simp only [go_sem, reduceCtorEq, reduceIte, Nat.reduceEqDiff, Nat.reduceLT, Nat.reduceLeDiff, Int.natCast_succ, Post]
end
end Go.Fv.U

/-! The order of reading: the closures of Order. The walk. -/
namespace Go.Fv.U
open Go Go.Proofs
set_option linter.unusedSimpArgs false
set_option linter.unusedVariables false
set_option linter.unnecessarySimpa false
set_option maxRecDepth 8000

theorem side1_ok (b : Bx) (hb : BxOk b) : FnOk Tryz.prog 70 [.agg b.av] (.int .i64 (b.x)) [] := by
  unfold BxOk at hb
  obtain ⟨x, y, w, h⟩ := b
  dsimp only [Bx.av] at *
  refine FnOk.of_vc Tryz.func70 rfl (by decide) (by simp [Tryz.f70]) [.tmp 2] rfl fun w0 T0 _ => ?_
  simp only [Tryz.f70, argEnv]
  (repeat' first | with_reducible (first | intro _ | refine rc ?_ | refine rl ?_ | refine rh ?_ | refine rt ?_ | refine rf ?_ | refine rs ?_ | refine And.intro ?_ ?_) | omega | simp (maxSteps := 1000000) only [go_sem, simprocAttr, ↓reduceIte])
  refine Ret.auto 0 ?_ rfl ?_ <;> simp only [go_sem, reduceCtorEq, reduceIte, Nat.reduceEqDiff, Nat.reduceLT, Nat.reduceLeDiff, Int.natCast_succ, Post]
theorem side2_ok (b : Bx) (hb : BxOk b) : FnOk Tryz.prog 71 [.agg b.av] (.int .i64 (b.x + b.w)) [] := by
  unfold BxOk at hb
  obtain ⟨x, y, w, h⟩ := b
  dsimp only [Bx.av] at *
  refine FnOk.of_vc Tryz.func71 rfl (by decide) (by simp [Tryz.f71]) [.tmp 2] rfl fun w0 T0 _ => ?_
  simp only [Tryz.f71, argEnv]
  (repeat' first | with_reducible (first | intro _ | refine rc ?_ | refine rl ?_ | refine rh ?_ | refine rt ?_ | refine rf ?_ | refine rs ?_ | refine And.intro ?_ ?_) | omega | simp (maxSteps := 1000000) only [go_sem, simprocAttr, ↓reduceIte])
  refine Ret.auto 0 ?_ rfl ?_ <;> simp only [go_sem, reduceCtorEq, reduceIte, Nat.reduceEqDiff, Nat.reduceLT, Nat.reduceLeDiff, Int.natCast_succ, Post]
theorem side3_ok (b : Bx) (hb : BxOk b) : FnOk Tryz.prog 72 [.agg b.av] (.int .i64 (b.y)) [] := by
  unfold BxOk at hb
  obtain ⟨x, y, w, h⟩ := b
  dsimp only [Bx.av] at *
  refine FnOk.of_vc Tryz.func72 rfl (by decide) (by simp [Tryz.f72]) [.tmp 2] rfl fun w0 T0 _ => ?_
  simp only [Tryz.f72, argEnv]
  (repeat' first | with_reducible (first | intro _ | refine rc ?_ | refine rl ?_ | refine rh ?_ | refine rt ?_ | refine rf ?_ | refine rs ?_ | refine And.intro ?_ ?_) | omega | simp (maxSteps := 1000000) only [go_sem, simprocAttr, ↓reduceIte])
  refine Ret.auto 0 ?_ rfl ?_ <;> simp only [go_sem, reduceCtorEq, reduceIte, Nat.reduceEqDiff, Nat.reduceLT, Nat.reduceLeDiff, Int.natCast_succ, Post]
theorem side4_ok (b : Bx) (hb : BxOk b) : FnOk Tryz.prog 73 [.agg b.av] (.int .i64 (b.y + b.h)) [] := by
  unfold BxOk at hb
  obtain ⟨x, y, w, h⟩ := b
  dsimp only [Bx.av] at *
  refine FnOk.of_vc Tryz.func73 rfl (by decide) (by simp [Tryz.f73]) [.tmp 2] rfl fun w0 T0 _ => ?_
  simp only [Tryz.f73, argEnv]
  (repeat' first | with_reducible (first | intro _ | refine rc ?_ | refine rl ?_ | refine rh ?_ | refine rt ?_ | refine rf ?_ | refine rs ?_ | refine And.intro ?_ ?_) | omega | simp (maxSteps := 1000000) only [go_sem, simprocAttr, ↓reduceIte])
  refine Ret.auto 0 ?_ rfl ?_ <;> simp only [go_sem, reduceCtorEq, reduceIte, Nat.reduceEqDiff, Nat.reduceLT, Nat.reduceLeDiff, Int.natCast_succ, Post]
section
variable (L : List Bx)
set_option maxHeartbeats 2000000 in
theorem ord5_ok (i k : Int) (hi : InL L i) (hk : InL L k) : FnOk Tryz.prog 76 [.int .i64 i, .int .i64 k, .cell [.ro (bxs L)]] (.int .i64 (orL (List.zipWith cmp3 (kI L i) (kI L k)))) [] := by
  have e1 := bAt_elem hi
  have e2 := bAt_elem hk
  have e3 : List.zipWith cmp3 (kI L i) (kI L k) = [cmp3 (bAt L i).y (bAt L k).y, cmp3 (bAt L i).x (bAt L k).x, cmp3 (bAt L i).h (bAt L k).h, cmp3 (bAt L i).w (bAt L k).w, cmp3 i k] := rfl
  rw [e3]
  generalize bAt L i = a at *
  generalize bAt L k = b at *
  obtain ⟨ax, ay, aw, ah⟩ := a
  obtain ⟨bx, by', bw, bh⟩ := b
  dsimp only at *
  have k1 := compare_ok ay by'
  have k2 := compare_ok ax bx
  have k3 := compare_ok ah bh
  have k4 := compare_ok aw bw
  have k5 := compare_ok i k
  have ko := cmpOr_ok [cmp3 ay by', cmp3 ax bx, cmp3 ah bh, cmp3 aw bw, cmp3 i k]
  generalize cmp3 ay by' = c1 at *
  generalize cmp3 ax bx = c2 at *
  generalize cmp3 ah bh = c3 at *
  generalize cmp3 aw bw = c4 at *
  generalize cmp3 i k = c5 at *
  generalize orL [c1, c2, c3, c4, c5] = o at *
  unfold InL at hi hk
  refine FnOk.of_vc Tryz.func76 rfl (by decide) (by simp [Tryz.f76]) [.tmp 5] rfl fun w0 T0 _ => ?_
  simp only [Tryz.f76, argEnv]
  (repeat' first | with_reducible (first | intro _ | refine rc ?_ | refine rl ?_ | refine rh ?_ | refine rt ?_ | refine rf ?_ | refine rs ?_ | refine And.intro ?_ ?_) | omega | simp (maxSteps := 1000000) only [go_sem, simprocAttr, ↓reduceIte])
  refine VcDraw.forkCut (.quiet 0 (.quiet 1 (.quiet 2 (.quiet 3 (.quiet 4 (.quiet 5 (.quiet 6 (.quiet 7 (.eff 8 [7, 6, 5, 4, 3, 2, 1, 0] (.eff 9 [7, 6, 5, 4, 3, 2, 1, 0] (.eff 10 [7, 6, 5, 4] (.eff 11 [] .done .none) .none) .none) (.eff 9 [7, 6, 5, 4, 3, 2, 1, 0] (.eff 8 [7, 6, 5, 4, 3, 2, 1, 0] (.eff 10 [7, 6, 5, 4] (.eff 11 [] .done .none) .none) .none) .none)))))))))) (by kernel_rfl) (by kernel_rfl) (by kernel_rfl) ⟨41, [(0, .int .i64 i), (1, .int .i64 k), (6, .ptr 0 0), (7, .ptr 1 0)], [(0, .box 65 [.int .i64 ax, .int .i64 ay, .int .i64 aw, .int .i64 ah]), (1, .box 65 [.int .i64 bx, .int .i64 by', .int .i64 bw, .int .i64 bh])], 2⟩ ?_ ?_
  · (repeat' first | with_reducible (first | intro _ | refine rc ?_ | refine rl ?_ | refine rh ?_ | refine rt ?_ | refine rf ?_ | refine rs ?_ | refine And.intro ?_ ?_) | omega | simp (maxSteps := 1000000) only [go_sem, simprocAttr, ↓reduceIte, List.length_map, elemA, e1, e2])
    all_goals refine Ent.auto0 rfl ?_ ?_ <;> simp only [go_sem, reduceCtorEq, reduceIte, Nat.reduceEqDiff, Nat.reduceLT, Nat.reduceLeDiff, Int.natCast_succ]
  (repeat' first | with_reducible (first | intro _ | refine rc ?_ | refine rl ?_ | refine rh ?_ | refine rt ?_ | refine rf ?_ | refine rs ?_ | refine And.intro ?_ ?_) | omega | simp (maxSteps := 1000000) only [go_sem, simprocAttr, ↓reduceIte])
  refine VcDraw.lex [23] [] (by kernel_rfl) (by kernel_rfl) ?_
  (repeat' first | with_reducible (first | intro _ | refine rc ?_ | refine rl ?_ | refine rh ?_ | refine rt ?_ | refine rf ?_ | refine rs ?_ | refine And.intro ?_ ?_) | omega | simp (maxSteps := 1000000) only [go_sem, simprocAttr, ↓reduceIte])
  (refine QV.intro (.int .i64 c1) ?_ ?_; focus ((repeat' first | with_reducible (first | intro _ | refine rc ?_ | refine rl ?_ | refine rh ?_ | refine rt ?_ | refine rf ?_ | refine rs ?_ | refine And.intro ?_ ?_) | omega | simp (maxSteps := 1000000) only [go_sem, simprocAttr, ↓reduceIte]); refine VcCall.k (k1) ?_; (repeat' first | with_reducible (first | intro _ | refine rc ?_ | refine rl ?_ | refine rh ?_ | refine rt ?_ | refine rf ?_ | refine rs ?_ | refine And.intro ?_ ?_) | omega | simp (maxSteps := 1000000) only [go_sem, simprocAttr, ↓reduceIte])))
  (repeat' first | with_reducible (first | intro _ | refine rc ?_ | refine rl ?_ | refine rh ?_ | refine rt ?_ | refine rf ?_ | refine rs ?_ | refine And.intro ?_ ?_) | omega | simp (maxSteps := 1000000) only [go_sem, simprocAttr, ↓reduceIte])
  (refine QV.intro (.int .i64 c2) ?_ ?_; focus ((repeat' first | with_reducible (first | intro _ | refine rc ?_ | refine rl ?_ | refine rh ?_ | refine rt ?_ | refine rf ?_ | refine rs ?_ | refine And.intro ?_ ?_) | omega | simp (maxSteps := 1000000) only [go_sem, simprocAttr, ↓reduceIte]); refine VcCall.k (k2) ?_; (repeat' first | with_reducible (first | intro _ | refine rc ?_ | refine rl ?_ | refine rh ?_ | refine rt ?_ | refine rf ?_ | refine rs ?_ | refine And.intro ?_ ?_) | omega | simp (maxSteps := 1000000) only [go_sem, simprocAttr, ↓reduceIte])))
  (repeat' first | with_reducible (first | intro _ | refine rc ?_ | refine rl ?_ | refine rh ?_ | refine rt ?_ | refine rf ?_ | refine rs ?_ | refine And.intro ?_ ?_) | omega | simp (maxSteps := 1000000) only [go_sem, simprocAttr, ↓reduceIte])
  (refine QV.intro (.int .i64 c3) ?_ ?_; focus ((repeat' first | with_reducible (first | intro _ | refine rc ?_ | refine rl ?_ | refine rh ?_ | refine rt ?_ | refine rf ?_ | refine rs ?_ | refine And.intro ?_ ?_) | omega | simp (maxSteps := 1000000) only [go_sem, simprocAttr, ↓reduceIte]); refine VcCall.k (k3) ?_; (repeat' first | with_reducible (first | intro _ | refine rc ?_ | refine rl ?_ | refine rh ?_ | refine rt ?_ | refine rf ?_ | refine rs ?_ | refine And.intro ?_ ?_) | omega | simp (maxSteps := 1000000) only [go_sem, simprocAttr, ↓reduceIte])))
  (repeat' first | with_reducible (first | intro _ | refine rc ?_ | refine rl ?_ | refine rh ?_ | refine rt ?_ | refine rf ?_ | refine rs ?_ | refine And.intro ?_ ?_) | omega | simp (maxSteps := 1000000) only [go_sem, simprocAttr, ↓reduceIte])
  (refine QV.intro (.int .i64 c4) ?_ ?_; focus ((repeat' first | with_reducible (first | intro _ | refine rc ?_ | refine rl ?_ | refine rh ?_ | refine rt ?_ | refine rf ?_ | refine rs ?_ | refine And.intro ?_ ?_) | omega | simp (maxSteps := 1000000) only [go_sem, simprocAttr, ↓reduceIte]); refine VcCall.k (k4) ?_; (repeat' first | with_reducible (first | intro _ | refine rc ?_ | refine rl ?_ | refine rh ?_ | refine rt ?_ | refine rf ?_ | refine rs ?_ | refine And.intro ?_ ?_) | omega | simp (maxSteps := 1000000) only [go_sem, simprocAttr, ↓reduceIte])))
  (repeat' first | with_reducible (first | intro _ | refine rc ?_ | refine rl ?_ | refine rh ?_ | refine rt ?_ | refine rf ?_ | refine rs ?_ | refine And.intro ?_ ?_) | omega | simp (maxSteps := 1000000) only [go_sem, simprocAttr, ↓reduceIte])
  (refine QV.intro (.int .i64 c5) ?_ ?_; focus ((repeat' first | with_reducible (first | intro _ | refine rc ?_ | refine rl ?_ | refine rh ?_ | refine rt ?_ | refine rf ?_ | refine rs ?_ | refine And.intro ?_ ?_) | omega | simp (maxSteps := 1000000) only [go_sem, simprocAttr, ↓reduceIte]); refine VcCall.k (k5) ?_; (repeat' first | with_reducible (first | intro _ | refine rc ?_ | refine rl ?_ | refine rh ?_ | refine rt ?_ | refine rf ?_ | refine rs ?_ | refine And.intro ?_ ?_) | omega | simp (maxSteps := 1000000) only [go_sem, simprocAttr, ↓reduceIte])))
  (repeat' first | with_reducible (first | intro _ | refine rc ?_ | refine rl ?_ | refine rh ?_ | refine rt ?_ | refine rf ?_ | refine rs ?_ | refine And.intro ?_ ?_) | omega | simp (maxSteps := 1000000) only [go_sem, simprocAttr, ↓reduceIte])
  (refine QV.intro (.int .i64 o) ?_ ?_; focus ((repeat' first | with_reducible (first | intro _ | refine rc ?_ | refine rl ?_ | refine rh ?_ | refine rt ?_ | refine rf ?_ | refine rs ?_ | refine And.intro ?_ ?_) | omega | simp (maxSteps := 1000000) only [go_sem, simprocAttr, ↓reduceIte]); refine VcCall.k (ko) ?_; (repeat' first | with_reducible (first | intro _ | refine rc ?_ | refine rl ?_ | refine rh ?_ | refine rt ?_ | refine rf ?_ | refine rs ?_ | refine And.intro ?_ ?_) | omega | simp (maxSteps := 1000000) only [go_sem, simprocAttr, ↓reduceIte])))
  (repeat' first | with_reducible (first | intro _ | refine rc ?_ | refine rl ?_ | refine rh ?_ | refine rt ?_ | refine rf ?_ | refine rs ?_ | refine And.intro ?_ ?_) | omega | simp (maxSteps := 1000000) only [go_sem, simprocAttr, ↓reduceIte])
  refine Ret.auto 0 ?_ rfl ?_ <;> simp only [go_sem, reduceCtorEq, reduceIte, Nat.reduceEqDiff, Nat.reduceLT, Nat.reduceLeDiff, Int.natCast_succ, Post]
theorem first6_ok (i e m : Int) (hi : InL L i) : FnOk Tryz.prog 79 [.int .i64 i, .cell [.ro (bxs L)], .cell [.int .i64 e, .int .i64 m]] (.bool (decide ((bAt L i).y < e))) [] := by
  have e1 := bAt_elem hi
  unfold InL at hi
  generalize bAt L i = a at *
  refine FnOk.of_vc Tryz.func79 rfl (by decide) (by simp [Tryz.f79]) [.tmp 4] rfl fun w0 T0 _ => ?_
  simp only [Tryz.f79, argEnv]
  (repeat' first | with_reducible (first | intro _ | refine rc ?_ | refine rl ?_ | refine rh ?_ | refine rt ?_ | refine rf ?_ | refine rs ?_ | refine And.intro ?_ ?_) | omega | simp (maxSteps := 1000000) only [go_sem, simprocAttr, ↓reduceIte])
  refine VcDraw.lex [] [] (by kernel_rfl) (by kernel_rfl) ?_
  (repeat' first | with_reducible (first | intro _ | refine rc ?_ | refine rl ?_ | refine rh ?_ | refine rt ?_ | refine rf ?_ | refine rs ?_ | refine And.intro ?_ ?_) | omega | simp (maxSteps := 1000000) only [go_sem, simprocAttr, ↓reduceIte, List.length_map, elemA, e1])
  refine Ret.auto 0 ?_ rfl ?_ <;> simp only [go_sem, reduceCtorEq, reduceIte, Nat.reduceEqDiff, Nat.reduceLT, Nat.reduceLeDiff, Int.natCast_succ, Post]
theorem first7_ok (i e m : Int) (hi : InL L i) : FnOk Tryz.prog 81 [.int .i64 i, .cell [.ro (bxs L)], .cell [.int .i64 e, .int .i64 m]] (.bool (decide ((bAt L i).x < e))) [] := by
  have e1 := bAt_elem hi
  unfold InL at hi
  generalize bAt L i = a at *
  refine FnOk.of_vc Tryz.func81 rfl (by decide) (by simp [Tryz.f81]) [.tmp 4] rfl fun w0 T0 _ => ?_
  simp only [Tryz.f81, argEnv]
  (repeat' first | with_reducible (first | intro _ | refine rc ?_ | refine rl ?_ | refine rh ?_ | refine rt ?_ | refine rf ?_ | refine rs ?_ | refine And.intro ?_ ?_) | omega | simp (maxSteps := 1000000) only [go_sem, simprocAttr, ↓reduceIte])
  refine VcDraw.lex [] [] (by kernel_rfl) (by kernel_rfl) ?_
  (repeat' first | with_reducible (first | intro _ | refine rc ?_ | refine rl ?_ | refine rh ?_ | refine rt ?_ | refine rf ?_ | refine rs ?_ | refine And.intro ?_ ?_) | omega | simp (maxSteps := 1000000) only [go_sem, simprocAttr, ↓reduceIte, List.length_map, elemA, e1])
  refine Ret.auto 0 ?_ rfl ?_ <;> simp only [go_sem, reduceCtorEq, reduceIte, Nat.reduceEqDiff, Nat.reduceLT, Nat.reduceLeDiff, Int.natCast_succ, Post]
end
end Go.Fv.U
