/-
  A part of the proof of the claim: walks over the program's functions and the plain laws that these need. No condition of its own.
-/
import Derived.Test.YtingcghleidhmaaGreatDoorQLinesMatchCardPart7
import Derived.Test.YtingcghleidhmaaGreatDoorQLinesMatchCardPart2
import Derived.Test.YtingcghleidhmaaGreatDoorQLinesMatchCardPart1
import Derived.Test.YtingcghleidhmaaGreatDoorFvPart9
/- Joined pixels of a page, in plain words: the way round a pixel, and the reference's. -/
namespace Go.Fv.Q
open Go
set_option linter.unusedSimpArgs false
set_option linter.unusedVariables false
set_option maxRecDepth 8000

structure Pg2 where
  p : List Bool
  w : Nat
  h : Nat
  ink : Bool
  cor : Bool
def Pg2.ok (g : Pg2) (i : Nat) : Bool := g.p.getD i false == g.ink
def RS.pt (g : Pg2) (x y v : Int) (s : RS) (u : Int) : RS := if g.cor = false ∧ u ≠ x ∧ v ≠ y then s else s.vis g.ok (v * g.w + u).toNat
def RS.row (g : Pg2) (x y : Int) (us : List Int) (s : RS) (v : Int) : RS := us.foldl (RS.pt g x y v) s
def lo3 (x : Int) : Int := max (x - 1) 0
def hi3 (x w : Int) : Int := min (x + 1) (w - 1)
def rng3 (x w : Int) : List Int := rng (lo3 x) (hi3 x w + 1 - lo3 x).toNat
def pix (g : Pg2) (s : RS) (c : Int) : RS := (rng3 (c / g.w) g.h).foldl (RS.row g (c % g.w) (c / g.w) (rng3 (c % g.w) g.w)) s

theorem cell_lt {w h : Nat} {u v : Int} (hu : 0 ≤ u ∧ u < w) (hv : 0 ≤ v ∧ v < h) : (v * w + u).toNat < w * h ∧ 0 ≤ v * w + u ∧ v * w + u < ((w * h : Nat) : Int) := by
  obtain ⟨a, rfl⟩ : ∃ a : Nat, u = a := ⟨u.toNat, by omega⟩
  obtain ⟨b, rfl⟩ : ∃ b : Nat, v = b := ⟨v.toNat, by omega⟩
  have e : (b : Int) * w + a = ((b * w + a : Nat) : Int) := by simp
  rw [e]
  have h1 : b * w + w ≤ h * w := by rw [← Nat.succ_mul]; exact Nat.mul_le_mul_right _ (by omega)
  have h2 : w * h = h * w := Nat.mul_comm _ _
  omega
theorem rng3_mem {x w u : Int} (h : u ∈ rng3 x w) : 0 ≤ u ∧ u < w := by
  have := rng_mem h
  unfold lo3 hi3 at this
  omega
theorem pt_inv {g : Pg2} {c0 : Nat} {s : RS} (h : RInv g.ok (g.w * g.h) c0 s) {x y u v : Int} (hu : 0 ≤ u ∧ u < g.w) (hv : 0 ≤ v ∧ v < g.h) : RInv g.ok (g.w * g.h) c0 (RS.pt g x y v s u) ∧ RLe s (RS.pt g x y v s u) := by
  unfold RS.pt
  split
  · exact ⟨h, RLe.refl s⟩
  · exact RS.vis_inv h (cell_lt hu hv).1
theorem row_inv {g : Pg2} {c0 : Nat} {s : RS} (h : RInv g.ok (g.w * g.h) c0 s) {x y v : Int} {us : List Int} (hu : ∀ u, u ∈ us → 0 ≤ u ∧ u < g.w) (hv : 0 ≤ v ∧ v < g.h) : RInv g.ok (g.w * g.h) c0 (RS.row g x y us s v) ∧ RLe s (RS.row g x y us s v) :=
  fold_inv (P := RInv g.ok (g.w * g.h) c0) (R := RLe) RLe.refl (fun _ _ _ h h' => h.trans h') us s h fun s u hs hm => pt_inv hs (hu u hm) hv
theorem sq_inv {g : Pg2} {c0 : Nat} {s : RS} (h : RInv g.ok (g.w * g.h) c0 s) {x y : Int} {us vs : List Int} (hu : ∀ u, u ∈ us → 0 ≤ u ∧ u < g.w) (hv : ∀ v, v ∈ vs → 0 ≤ v ∧ v < g.h) : RInv g.ok (g.w * g.h) c0 (vs.foldl (RS.row g x y us) s) ∧ RLe s (vs.foldl (RS.row g x y us) s) :=
  fold_inv (P := RInv g.ok (g.w * g.h) c0) (R := RLe) RLe.refl (fun _ _ _ h h' => h.trans h') vs s h fun s v hs hm => row_inv hs hu (hv v hm)
theorem pix_step (g : Pg2) : StepOk g.ok (g.w * g.h) (pix g) := fun c0 s c h _ _ =>
  sq_inv h (fun _ hm => rng3_mem hm) (fun _ hm => rng3_mem hm)
def pieces (g : Pg2) : List (List Int) := regsOf g.ok (pix g) (g.w * g.h)
theorem pieces_ok (g : Pg2) : ∀ r, r ∈ pieces g → ∃ j, j < g.w * g.h ∧ RegOk (g.w * g.h) j r := regsOf_ok (pix_step g)
theorem pieces_len (g : Pg2) : (pieces g).length ≤ g.w * g.h := regsOf_len _ _ _
theorem pieces_sum (g : Pg2) (hp : g.p.length = g.w * g.h) : sumLen (pieces g) = g.p.count g.ink := by
  unfold pieces
  rw [regsOf_sum (pix_step g), ← hp]
  have e : (List.range g.p.length).map g.ok = g.p.map fun b => b == g.ink := by
    refine List.ext_getElem (by simp) fun j h1 h2 => ?_
    have hj : j < g.p.length := by simpa using h2
    simp [Pg2.ok, List.getD_eq_getElem?_getD, hj]
  rw [e]
  generalize g.p = p
  generalize g.ink = k
  induction p with
  | nil => rfl
  | cons b p ih =>
    simp only [List.map_cons, List.count_cons, ih]
    cases b <;> cases k <;> rfl

/-! ### The reference's way: all nine places, those outside left out -/
def okAt (g : Pg2) (v u : Int) : Prop := 0 ≤ u ∧ 0 ≤ v ∧ u < g.w ∧ v < g.h
instance (g : Pg2) (v u : Int) : Decidable (okAt g v u) := by unfold okAt; infer_instance
def pt9 (g : Pg2) (x y v : Int) (s : RS) (u : Int) : RS := if okAt g v u then RS.pt g x y v s u else s
def row9 (g : Pg2) (x y : Int) (s : RS) (v : Int) : RS := (rng (x - 1) 3).foldl (pt9 g x y v) s
def pix9 (g : Pg2) (s : RS) (c : Int) : RS := (rng (c / g.w - 1) 3).foldl (row9 g (c % g.w) (c / g.w)) s
theorem fold_skip {α : Type} {f : α → Int → α} : ∀ (l : List Int) (s : α), (∀ s x, x ∈ l → f s x = s) → l.foldl f s = s
  | [], s, _ => rfl
  | x :: l, s, h => by
    rw [List.foldl_cons, h s x (List.mem_cons_self)]
    exact fold_skip l s fun s y hy => h s y (List.mem_cons_of_mem _ hy)
theorem fold_congr {α : Type} {f f' : α → Int → α} : ∀ (l : List Int) (s : α), (∀ s x, x ∈ l → f s x = f' s x) → l.foldl f s = l.foldl f' s
  | [], s, _ => rfl
  | x :: l, s, h => by
    rw [List.foldl_cons, List.foldl_cons, h s x (List.mem_cons_self)]
    exact fold_congr l _ fun s y hy => h s y (List.mem_cons_of_mem _ hy)
/-- What is done at three places is done at those inside, where the others do nothing. -/
theorem fold3 {α : Type} {f : α → Int → α} {x w : Int} (hx : 0 ≤ x) (hxw : x < w) (s : α) (hout : ∀ s u, ¬ (0 ≤ u ∧ u < w) → f s u = s) : (rng (x - 1) 3).foldl f s = (rng3 x w).foldl f s := by
  unfold rng3 lo3 hi3
  by_cases h0 : x = 0
  · subst h0
    have e0 : (rng (0 - 1) 3) = [-1, 0, 1] := by decide
    rw [e0]
    simp only [List.foldl_cons, List.foldl_nil]
    rw [hout s (-1) (by omega)]
    by_cases h1 : w = 1
    · subst h1
      rw [hout _ 1 (by omega)]
      rfl
    · have : (min (0 + 1) (w - 1) + 1 - max ((0 : Int) - 1) 0).toNat = 2 := by omega
      have e2 : max ((0 : Int) - 1) 0 = 0 := by decide
      rw [this, e2]
      rfl
  · have em : max (x - 1) 0 = x - 1 := by omega
    rw [em]
    by_cases h1 : x = w - 1
    · have : (min (x + 1) (w - 1) + 1 - (x - 1)).toNat = 2 := by omega
      rw [this]
      simp only [rng, List.foldl_cons, List.foldl_nil]
      rw [hout _ (x - 1 + 1 + 1) (by omega)]
    · have : (min (x + 1) (w - 1) + 1 - (x - 1)).toNat = 3 := by omega
      rw [this]
theorem xy_bd {g : Pg2} {c : Int} (h0 : 0 ≤ c) (h1 : c < ((g.w * g.h : Nat) : Int)) : (0 ≤ c % g.w ∧ c % g.w < g.w) ∧ (0 ≤ c / g.w ∧ c / g.w < g.h) := by
  obtain ⟨k, rfl⟩ : ∃ k : Nat, c = k := ⟨c.toNat, by omega⟩
  have hk : k < g.w * g.h := by omega
  have hw : 0 < g.w := by
    rcases Nat.eq_zero_or_pos g.w with h | h
    · rw [h, Nat.zero_mul] at hk; omega
    · exact h
  have e1 : (k : Int) % g.w = ((k % g.w : Nat) : Int) := rfl
  have e2 : (k : Int) / g.w = ((k / g.w : Nat) : Int) := rfl
  have h3 := Nat.mod_lt k hw
  have h4 : k / g.w < g.h := Nat.div_lt_of_lt_mul hk
  rw [e1, e2]
  exact ⟨⟨Int.natCast_nonneg _, Int.ofNat_lt.2 h3⟩, Int.natCast_nonneg _, Int.ofNat_lt.2 h4⟩
theorem pix9_eq (g : Pg2) (s : RS) {c : Int} (h0 : 0 ≤ c) (h1 : c < ((g.w * g.h : Nat) : Int)) : pix9 g s c = pix g s c := by
  obtain ⟨hx, hy⟩ := xy_bd h0 h1
  unfold pix9 pix
  generalize c % g.w = x at *
  generalize c / g.w = y at *
  rw [fold3 (f := row9 g x y) (w := g.h) hy.1 hy.2 s fun s v hv => fold_skip (f := pt9 g x y v) _ _ fun s u _ => ?_]
  · refine fold_congr _ _ fun s v hv => ?_
    have hv' := rng3_mem hv
    unfold row9
    rw [fold3 (w := g.w) hx.1 hx.2 s fun s u hu => ?_]
    · refine fold_congr _ _ fun s u hu => ?_
      have hu' := rng3_mem hu
      unfold pt9
      rw [if_pos ⟨hu'.1, hv'.1, hu'.2, hv'.2⟩]
    · unfold pt9
      rw [if_neg fun h => hu ⟨h.1, h.2.2.1⟩]
  · unfold pt9
    rw [if_neg fun h => hv ⟨h.2.1, h.2.2.2⟩]
end Go.Fv.Q

/- Pixels of regions that are chosen change their colour, in plain words. -/
namespace Go.Fv.Q
open Go
set_option linter.unusedSimpArgs false
set_option linter.unusedVariables false
set_option maxRecDepth 8000

def chg (v : Bool) (p : List Bool) (l : List Int) : List Bool := l.foldl (fun p i => p.set i.toNat v) p
structure CS where
  p : List Bool
  n : Nat
def CS.step (v : Bool) (sel : List Int → Bool) (s : CS) (l : List Int) : CS := if sel l = true then ⟨chg v s.p l, s.n + 1⟩ else s
end Go.Fv.Q

/- Pieces of a page, in plain words. -/
namespace Go.Fv.Q
open Go
set_option linter.unusedSimpArgs false
set_option linter.unusedVariables false
set_option maxRecDepth 8000

structure Pc where
  b : Bx
  n : Int
  x : Int
  y : Int
def Pc.av (c : Pc) : List AV := [.int .i64 c.b.x, .int .i64 c.b.y, .int .i64 c.b.w, .int .i64 c.b.h, .int .i64 c.n, .int .i64 c.x, .int .i64 c.y]
def Pc.zero : Pc := ⟨Bx.zero, 0, 0, 0⟩
abbrev pcR (l : List Pc) : RowV := .objs 7 (l.map Pc.av)
instance : FNoId Pc.av := ⟨fun _ => rfl⟩
theorem pc_elem (l : List Pc) {i : Nat} (h : i < l.length) : (l.map Pc.av).getD i [] = [.int .i64 (l.getD i Pc.zero).b.x, .int .i64 (l.getD i Pc.zero).b.y, .int .i64 (l.getD i Pc.zero).b.w, .int .i64 (l.getD i Pc.zero).b.h, .int .i64 (l.getD i Pc.zero).n, .int .i64 (l.getD i Pc.zero).x, .int .i64 (l.getD i Pc.zero).y] := by
  simp [List.getD_eq_getElem?_getD, h, Pc.av]
def pcOf (w h : Nat) (l : List Int) : Pc := ⟨boxOf w h l, l.length, l.getD 0 0 % w, l.getD 0 0 / w⟩
def pcOf2 (w : Nat) (l : List Int) : Pc := ⟨hullL (l.map (pxB w)), l.length, l.getD 0 0 % w, l.getD 0 0 / w⟩
theorem pc_eq {w h j : Nat} {l : List Int} (ho : RegOk (w * h) j l) : pcOf2 w (sortI l) = pcOf w h l := by
  obtain ⟨t, ht⟩ := ho.hd
  have hne : l ≠ [] := by rw [ht]; simp
  have hb : InPg w h l := fun i hi => by have := ho.bd i hi; omega
  have hs : sortI l ≠ [] := by
    intro e
    have := sortI_len l
    rw [e] at this
    exact hne (List.eq_nil_of_length_eq_zero this.symm)
  have hj : (j : Int) ∈ l := by rw [ht]; exact List.mem_cons_self
  have h0 : l.getD 0 0 = (j : Int) := by rw [ht]; rfl
  unfold pcOf2 pcOf
  rw [hull_px hs (fun i hi => hb i ((sortI_mem l i).1 hi)), sortI_len, sortI_head hj fun x hx => (ho.bd x hx).1, h0, boxOf_mem w h (sortI_mem l)]
theorem pcs_eq (g : Pg2) : ((pieces g).map sortI).map (pcOf2 g.w) = (pieces g).map (pcOf g.w g.h) := by
  rw [List.map_map]
  refine List.map_congr_left fun l hl => ?_
  obtain ⟨j, hj, ho⟩ := pieces_ok g l hl
  exact pc_eq ho
theorem sum_b2i : ∀ p : List Bool, (p.map b2i).sum = ((p.count true : Nat) : Int)
  | [] => rfl
  | b :: p => by
    rw [List.map_cons, List.sum_cons, sum_b2i p, List.count_cons]
    cases b <;> simp [b2i] <;> omega
theorem ink_whole (p : List Bool) (w h : Nat) (hp : p.length = w * h) : inkN p w 0 0 w h = p.count true := by
  have h1 := inkN_rows p w 0 0 w h
  have h2 : rowsOf w (cutAt p w 0 0) (h * w) = p := by
    refine eq_of_bools (by rw [rowsOf_len, hp, Nat.mul_comm]) fun k => ?_
    by_cases hk : k < w * h
    · have hw : 0 < w := by
        rcases Nat.eq_zero_or_pos w with h | h
        · rw [h, Nat.zero_mul] at hk; omega
        · exact h
      have hx := Nat.mod_lt k hw
      have hy : k / w < h := Nat.div_lt_of_lt_mul hk
      have e : k = k / w * w + k % w := (Nat.div_add_mod' k w).symm
      rw [e, rowsOf_get hx hy]
      unfold cutAt
      rw [Nat.zero_add, Nat.add_zero]
    · rw [List.getD_eq_getElem?_getD, List.getD_eq_getElem?_getD, List.getElem?_eq_none (by rw [rowsOf_len, Nat.mul_comm]; omega), List.getElem?_eq_none (by omega)]
  rw [h2, sum_b2i] at h1
  omega
end Go.Fv.Q

/-! The row on which most pieces end: plain law. -/
namespace Go.Fv.Q
open Go
set_option linter.unusedSimpArgs false
set_option linter.unusedVariables false

def LowL (l S : List Int) (b : Int) : Prop := (S = [] ∧ b = -1) ∨ (b ∈ S ∧ ∀ k, k ∈ S → cnt l k < cnt l b ∨ (cnt l k = cnt l b ∧ k ≤ b))
def pickLow (l : List Int) (b k : Int) : Int := if b < 0 ∨ cnt l b < cnt l k ∨ (cnt l k = cnt l b ∧ b < k) then k else b
theorem LowL.step {l S : List Int} {b k : Int} (hS : ∀ k, k ∈ S → 0 ≤ k) (h : LowL l S b) : LowL l (S ++ [k]) (pickLow l b k) := by
  unfold pickLow
  rcases h with ⟨rfl, rfl⟩ | ⟨hb, ha⟩
  · rw [if_pos (.inl (by omega))]
    exact .inr ⟨by simp, fun k' hk' => .inr (by simp at hk'; subst hk'; exact ⟨rfl, Int.le_refl _⟩)⟩
  · have hb0 := hS b hb
    split
    · rename_i hc
      refine .inr ⟨by simp, fun k' hk' => ?_⟩
      rcases List.mem_append.1 hk' with hk' | hk'
      · have := ha k' hk'; omega
      · simp at hk'; subst hk'; exact .inr ⟨rfl, Int.le_refl _⟩
    · rename_i hc
      refine .inr ⟨List.mem_append_left _ hb, fun k' hk' => ?_⟩
      rcases List.mem_append.1 hk' with hk' | hk'
      · exact ha k' hk'
      · simp at hk'; subst hk'; omega
theorem LowL.one {l S S' : List Int} {b b' : Int} (he : ∀ k, k ∈ S ↔ k ∈ S') (h : LowL l S b) (h' : LowL l S' b') : b = b' := by
  rcases h with ⟨rfl, rfl⟩ | ⟨hb, ha⟩
  · rcases h' with ⟨_, rfl⟩ | ⟨hb', _⟩
    · rfl
    · exact absurd ((he _).2 hb') (by simp)
  · rcases h' with ⟨rfl, _⟩ | ⟨hb', ha'⟩
    · exact absurd ((he _).1 hb) (by simp)
    · have h1 := ha b' ((he _).2 hb')
      have h2 := ha' b ((he _).1 hb)
      omega
def lowOf (l : List Int) : Int := (uq l).foldl (pickLow l) (-1)
theorem lowOf_spec {l : List Int} (hp : ∀ k, k ∈ l → 0 ≤ k) : LowL l (uq l) (lowOf l) := by
  have aux : ∀ (r S : List Int) (b : Int), (∀ k, k ∈ S ++ r → 0 ≤ k) → LowL l S b → LowL l (S ++ r) (r.foldl (pickLow l) b) := by
    intro r
    induction r with
    | nil => intro S b _ h; simpa using h
    | cons k r ih =>
      intro S b hr h
      have := ih (S ++ [k]) (pickLow l b k) (fun k' hk' => hr k' (by simpa using hk')) (h.step fun k' hk' => hr k' (List.mem_append_left _ hk'))
      simpa using this
  have := aux (uq l) [] (-1) (fun k hk => hp k (mem_uq.1 (by simpa using hk))) (.inl ⟨rfl, rfl⟩)
  simpa [lowOf] using this
theorem low_all {l : List Int} {seen : List Nat} {b : Int} (hp : ∀ k, k ∈ l → 0 ≤ k) (hs : ∀ j, j ∈ seen → j < (uq l).length) (ha : ∀ j, j < (uq l).length → j ∈ seen) (h : LowL l (seenK l seen) b) : b = lowOf l := by
  refine h.one (fun k => ?_) (lowOf_spec hp)
  unfold seenK
  rw [List.mem_map]
  constructor
  · rintro ⟨j, hj, rfl⟩
    have := hs j hj
    rw [List.getD_eq_getElem?_getD, List.getElem?_eq_getElem this]
    exact List.getElem_mem this
  · intro hk
    obtain ⟨j, hj, e⟩ := List.getElem_of_mem hk
    exact ⟨j, ha j hj, by rw [List.getD_eq_getElem?_getD, List.getElem?_eq_getElem hj]; exact e⟩
theorem uq_nil {l : List Int} : (uq l).length = 0 ↔ l = [] := by
  constructor
  · intro h
    cases l with
    | nil => rfl
    | cons x t =>
      have : x ∈ uq (x :: t) := mem_uq.2 (.head _)
      rw [List.eq_nil_of_length_eq_zero h] at this; cases this
  · rintro rfl; rfl
theorem foldl_ins_len : ∀ (l s : List Int), (l.foldl insE s).length ≤ s.length + l.length
  | [], s => Nat.le_refl _
  | x :: l, s => by
    have h1 := foldl_ins_len l (insE s x)
    have h2 : (insE s x).length ≤ s.length + 1 := by
      unfold insE; split
      · omega
      · simp
    rw [List.foldl_cons, List.length_cons]; omega
theorem uq_le (l : List Int) : (uq l).length ≤ l.length := by
  have := foldl_ins_len l []
  simpa [uq] using this
/-- The bottoms of the pieces of a page. -/
def bots (p : List Bool) (w h : Nat) : List Int := (pieces ⟨p, w, h, true, true⟩).map (botP w)
theorem box_bot (w h : Nat) (l : List Int) : (boxOf w h l).y + (boxOf w h l).h - 1 = botP w l := by
  unfold boxOf; dsimp only; omega
theorem piece_pg {p : List Bool} {w h : Nat} {l : List Int} (hl : l ∈ pieces ⟨p, w, h, true, true⟩) : InPg w h l ∧ l ≠ [] := by
  obtain ⟨j, hj, ho⟩ := pieces_ok _ l hl
  obtain ⟨t, ht⟩ := ho.hd
  exact ⟨fun i hi => by have := ho.bd i hi; dsimp only at this; omega, by rw [ht]; simp⟩
theorem bot_bd {w h : Nat} {l : List Int} (hb : InPg w h l) (h0 : l ≠ []) : 0 ≤ botP w l ∧ botP w l ≤ h := by
  obtain ⟨x, t, rfl⟩ := List.exists_cons_of_ne_nil h0
  have h1 := (mxF_le (fun i => i / (w : Int)) (x :: t) (-1) (botP w (x :: t))).1 (Int.le_refl _)
  have h2 := h1.2 x (.head _)
  have h3 := xy_bd' (hb x (.head _)).1 (hb x (.head _)).2
  refine ⟨by omega, ?_⟩
  refine (mxF_le (fun i => i / (w : Int)) (x :: t) (-1) h).2 ⟨by omega, fun i hi => ?_⟩
  have := (xy_bd' (hb i hi).1 (hb i hi).2).2.2
  omega
theorem bots_bd (p : List Bool) (w h : Nat) : ∀ x, x ∈ bots p w h → 0 ≤ x ∧ x ≤ h := by
  intro x hx
  unfold bots at hx
  obtain ⟨l, hl, rfl⟩ := List.mem_map.1 hx
  exact bot_bd (piece_pg hl).1 (piece_pg hl).2
theorem bots_len (p : List Bool) (w h : Nat) : (bots p w h).length ≤ w * h := by
  unfold bots; rw [List.length_map]; exact pieces_len _
theorem bots_nil (p : List Bool) (w h : Nat) (hp : p.length = w * h) : bots p w h = [] ↔ p.count true = 0 := by
  have hs := pieces_sum ⟨p, w, h, true, true⟩ hp
  dsimp only at hs
  unfold bots
  rw [List.map_eq_nil_iff, ← hs]
  constructor
  · intro h; rw [h]; rfl
  · intro h0
    cases hR : pieces ⟨p, w, h, true, true⟩ with
    | nil => rfl
    | cons l t =>
      have h1 := (piece_pg (p := p) (w := w) (h := h) (l := l) (by rw [hR]; exact .head _)).2
      rw [hR] at h0
      unfold sumLen at h0
      rw [List.map_cons, List.sum_cons] at h0
      exact absurd (List.eq_nil_of_length_eq_zero (by omega)) h1
end Go.Fv.Q

/- Rows of rows of integers, as data. -/
namespace Go.Fv.Q
open Go Go.Proofs
set_option linter.unusedSimpArgs false
set_option linter.unusedVariables false
set_option maxRecDepth 8000

def gAv (g : List Int) : List AV := [.ro (.ints .i64 g)]
instance : FNoId gAv := ⟨fun _ => rfl⟩
theorem g_elem (l : List (List Int)) {i : Nat} (h : i < l.length) : (l.map gAv).getD i [] = [.ro (.ints .i64 (l.getD i []))] := by
  simp [List.getD_eq_getElem?_getD, h, gAv]
end Go.Fv.Q

/- Regions: the walk. -/
namespace Go.Fv.Q
open Go Go.Proofs
set_option linter.unusedSimpArgs false
set_option linter.unusedVariables false
set_option linter.unnecessarySimpa false
set_option maxRecDepth 8000

theorem skip_t {a b k : Bool} (h : (a || decide ¬ b = k) = true) : a = true ∨ (b == k) = false := by revert h; cases a <;> cases b <;> cases k <;> simp
theorem skip_f {a b k : Bool} (h : (a || decide ¬ b = k) = false) : ¬ (a = true ∨ (b == k) = false) := by revert h; cases a <;> cases b <;> cases k <;> simp
theorem pt_t {a b k cor : Bool} {P Q : Prop} [Decidable P] [Decidable Q] (h : (a || decide ¬ b = k || !cor && decide ¬ P && decide ¬ Q) = true) : (cor = false ∧ ¬ P ∧ ¬ Q) ∨ (a = true ∨ (b == k) = false) := by
  revert h
  by_cases hp : P <;> by_cases hq : Q <;> cases a <;> cases b <;> cases k <;> cases cor <;> simp [hp, hq]
theorem pt_f {a b k cor : Bool} {P Q : Prop} [Decidable P] [Decidable Q] (h : (a || decide ¬ b = k || !cor && decide ¬ P && decide ¬ Q) = false) : ¬ (cor = false ∧ ¬ P ∧ ¬ Q) ∧ ¬ (a = true ∨ (b == k) = false) := by
  revert h
  by_cases hp : P <;> by_cases hq : Q <;> cases a <;> cases b <;> cases k <;> cases cor <;> simp [hp, hq]
set_option maxHeartbeats 8000000 in
theorem regions_ok (w h : Nat) (hw1 : 1 ≤ w) (hw : w ≤ 1000) (hh1 : 1 ≤ h) (hh : h ≤ 1000) (p : List Bool) (hp : p.length = w * h) (ink cor : Bool) :
    FnOk Tryz.prog 40 [.agg [.int .i64 w, .int .i64 h, .ro (.bools p)], .bool ink, .bool cor] (.own 0) [(0, .row 64 (.objs 1 ((pieces ⟨p, w, h, ink, cor⟩).map gAv)))] := by
  have hn : w * h ≤ 1000 * 1000 := Nat.mul_le_mul hw hh
  have hst : StepOk (Pg2.ok ⟨p, w, h, ink, cor⟩) (w * h) (pix ⟨p, w, h, ink, cor⟩) := pix_step ⟨p, w, h, ink, cor⟩
  have hRl : (pieces ⟨p, w, h, ink, cor⟩).length ≤ w * h := pieces_len ⟨p, w, h, ink, cor⟩
  have hpt : ∀ c0 s x y v u, RInv (Pg2.ok ⟨p, w, h, ink, cor⟩) (w * h) c0 s → (0 ≤ u ∧ u < (w : Int)) → (0 ≤ v ∧ v < (h : Int)) → RInv (Pg2.ok ⟨p, w, h, ink, cor⟩) (w * h) c0 (RS.pt ⟨p, w, h, ink, cor⟩ x y v s u) ∧ RLe s (RS.pt ⟨p, w, h, ink, cor⟩ x y v s u) :=
    fun c0 s x y v u hs hu hv => pt_inv (g := ⟨p, w, h, ink, cor⟩) hs hu hv
  generalize hg : (⟨p, w, h, ink, cor⟩ : Pg2) = g at *
  generalize hR : pieces g = R at *
  refine FnOk.of_vc Tryz.func40 rfl (by decide) (by simp [Tryz.f40]) [.tmp 6] rfl fun w0 T0 _ => ?_
  simp only [Tryz.f40, argEnv]
  (repeat' first | with_reducible (first | refine Asm.intro fun _ => ?_ | refine Chk.g ?_ | refine AnyI.i64 fun _ _ => ?_ | refine LetW.g ?_ | refine LetW.h ?_ | refine Ite.t fun _ => ?_ | refine Ite.f fun _ => ?_ | refine Ite.decide (fun _ => ?_) fun _ => ?_ | refine Ite.bool (fun _ => ?_) fun _ => ?_ | refine And.intro ?_ ?_) | omega | simp (maxSteps := 1000000) only [go_sem, reduceCtorEq, Nat.reduceLT, Nat.reduceLeDiff, reduceIte, ↓reduceIte, Nat.reduceEqDiff, Nat.reduceAdd, Nat.reduceMul, Nat.reduceSub, Int.reduceLE, Int.reduceLT, Int.reduceNeg, Int.reduceToNat, hp])
  refine VcLoop.intro (fun x : Nat × List Bool × List (List Int) => ⟨137, [(24, .int .i64 (x.1 : Nat)), (23, .int .i64 (w * h : Nat)), (8, .own 2), (7, .own 1), (3, .ptr 0 0), (1, .bool ink), (2, .bool cor)], [(0, .box 24 [.int .i64 w, .int .i64 h, .ro (.bools p)]), (1, .row 4 (.bools x.2.1)), (2, .row 64 (.objs 1 (x.2.2.map gAv)))], 3⟩) (fun x => x.1 ≤ w * h ∧ SInv g.ok (w * h) x.1 x.2.1 ∧ x.2.2 ++ regs g.ok (pix g) (w * h) (w * h - x.1) x.1 x.2.1 = R) (fun x => w * h - x.1) (0, List.replicate (w * h) false, []) ?_ ⟨Nat.zero_le _, SInv.zero _ _, ?_⟩ fun x hx => ?_
  · refine Ent.auto0 rfl ?_ ?_ <;> simp only [go_sem, reduceCtorEq, reduceIte, Nat.reduceEqDiff, Nat.reduceLT, Nat.reduceLeDiff, Int.natCast_succ, zrow, List.map_nil, Int.toNat_natCast]
  · subst hg
    dsimp only
    rw [Nat.sub_zero, List.nil_append]
    exact hR
  obtain ⟨i, seen, D⟩ := x
  obtain ⟨hi, hS, hD⟩ := hx
  dsimp only at hi hS hD ⊢
  have hsl := hS.len
  by_cases hlt : i < w * h
  · obtain ⟨m, hm⟩ : ∃ m, w * h - i = m + 1 := ⟨w * h - i - 1, by omega⟩
    have hm' : w * h - (i + 1) = m := by omega
    have hok : g.ok i = (p.getD i false == ink) := by subst hg; rfl
    rw [hm] at hD
    simp only [regs] at hD
    (repeat' first | with_reducible (first | refine Asm.intro fun _ => ?_ | refine Chk.g ?_ | refine AnyI.i64 fun _ _ => ?_ | refine LetW.g ?_ | refine LetW.h ?_ | refine Ite.t fun _ => ?_ | refine Ite.f fun _ => ?_ | refine Ite.decide (fun _ => ?_) fun _ => ?_ | refine Ite.bool (fun _ => ?_) fun _ => ?_ | refine And.intro ?_ ?_) | omega | simp (maxSteps := 1000000) only [go_sem, reduceCtorEq, Nat.reduceLT, Nat.reduceLeDiff, reduceIte, ↓reduceIte, Nat.reduceEqDiff, Nat.reduceAdd, Nat.reduceMul, Nat.reduceSub, Int.reduceLE, Int.reduceLT, Int.reduceNeg, Int.reduceToNat, Int.toNat_natCast, hsl, hp])
    refine Chk.g ?_ (fun h => ⟨h, by omega⟩)
    refine Ite.bool (fun hc => ?_) (fun hc => ?_)
    · have hs : seen.getD i false = true ∨ g.ok i = false := by rw [hok]; exact skip_t hc
      rw [if_pos hs] at hD
      (repeat' first | with_reducible (first | refine Asm.intro fun _ => ?_ | refine Chk.g ?_ | refine AnyI.i64 fun _ _ => ?_ | refine LetW.g ?_ | refine LetW.h ?_ | refine Ite.t fun _ => ?_ | refine Ite.f fun _ => ?_ | refine Ite.decide (fun _ => ?_) fun _ => ?_ | refine Ite.bool (fun _ => ?_) fun _ => ?_ | refine And.intro ?_ ?_) | omega | simp (maxSteps := 1000000) only [go_sem, reduceCtorEq, Nat.reduceLT, Nat.reduceLeDiff, reduceIte, ↓reduceIte, Nat.reduceEqDiff, Nat.reduceAdd, Nat.reduceMul, Nat.reduceSub, Int.reduceLE, Int.reduceLT, Int.reduceNeg, Int.reduceToNat])
      refine ⟨(i + 1, seen, D), Ent.auto0 rfl ?_ ?_, ⟨by omega, hS.skip hs, by dsimp only; rw [hm']; exact hD⟩, by dsimp only; omega⟩ <;> simp only [go_sem, reduceCtorEq, reduceIte, Nat.reduceEqDiff, Nat.reduceLT, Nat.reduceLeDiff, Int.natCast_succ]
    · have hs : ¬ (seen.getD i false = true ∨ g.ok i = false) := by rw [hok]; exact skip_f hc
      rw [if_neg hs] at hD
      have hI := hS.start hlt hs
      obtain ⟨hS2, hO2, _⟩ := hS.region hst hlt hs (w * h)
      generalize hF : bfs (pix g) (w * h) 0 ⟨seen.set i true, [(i : Int)]⟩ = F at *
      generalize seen.count true = c0 at *
      (repeat' first | with_reducible (first | refine Asm.intro fun _ => ?_ | refine Chk.g ?_ | refine AnyI.i64 fun _ _ => ?_ | refine LetW.g ?_ | refine LetW.h ?_ | refine Ite.t fun _ => ?_ | refine Ite.f fun _ => ?_ | refine Ite.decide (fun _ => ?_) fun _ => ?_ | refine Ite.bool (fun _ => ?_) fun _ => ?_ | refine And.intro ?_ ?_) | omega | simp (maxSteps := 1000000) only [go_sem, reduceCtorEq, Nat.reduceLT, Nat.reduceLeDiff, reduceIte, ↓reduceIte, Nat.reduceEqDiff, Nat.reduceAdd, Nat.reduceMul, Nat.reduceSub, Int.reduceLE, Int.reduceLT, Int.reduceNeg, Int.reduceToNat, Int.toNat_natCast, hsl, hp])
      refine VcLoop.intro (fun x : Nat × RS => ⟨137, [(11, .int .i64 (x.1 : Nat)), (10, .own 3), (24, .int .i64 (i : Nat)), (23, .int .i64 (w * h : Nat)), (8, .own 2), (7, .own 1), (3, .ptr 0 0), (1, .bool ink), (2, .bool cor)], [(0, .box 24 [.int .i64 w, .int .i64 h, .ro (.bools p)]), (1, .row 4 (.bools x.2.seen)), (2, .row 64 (.objs 1 (D.map gAv))), (3, .row 3 (.ints .i64 x.2.l))], 4⟩) (fun x => x.1 ≤ x.2.l.length ∧ RInv g.ok (w * h) c0 x.2 ∧ bfs (pix g) (w * h - x.1) x.1 x.2 = F) (fun x => w * h - x.1) (0, ⟨seen.set i true, [(i : Int)]⟩) ?_ ⟨Nat.zero_le _, hI, hF⟩ fun x hx => ?_
      · refine Ent.auto0 rfl ?_ ?_ <;> simp only [go_sem, reduceCtorEq, reduceIte, Nat.reduceEqDiff, Nat.reduceLT, Nat.reduceLeDiff, Int.natCast_succ]
      obtain ⟨k, s⟩ := x
      obtain ⟨hk, hI, hF⟩ := hx
      dsimp only at hk hI hF ⊢
      have hll := hI.le
      have hDl : D.length ≤ w * h := by
        rw [← hD, List.length_append] at hRl
        omega
      by_cases hlk : k < s.l.length
      · obtain ⟨hb1, hb2⟩ := hI.bd _ (getD_mem hlk)
        obtain ⟨m2, hm2⟩ : ∃ m2, w * h - k = m2 + 1 := ⟨w * h - k - 1, by omega⟩
        have hm2' : w * h - (k + 1) = m2 := by omega
        rw [hm2, bfs_step _ hlk] at hF
        obtain ⟨c, hc⟩ : ∃ c : Nat, s.l.getD k 0 = c := ⟨(s.l.getD k 0).toNat, by omega⟩
        rw [hc] at hF hb2
        obtain ⟨⟨_, hx2⟩, _, hy2⟩ := xy_bd (g := g) (c := c) (by omega) (by subst hg; exact hb2)
        have hgw : g.w = w := by subst hg; rfl
        have hgh : g.h = h := by subst hg; rfl
        rw [hgw] at hx2 hy2
        rw [hgh] at hy2
        have ex : (c : Int) % (w : Int) = ((c % w : Nat) : Int) := rfl
        have ey : (c : Int) / (w : Int) = ((c / w : Nat) : Int) := rfl
        rw [ex] at hx2
        rw [ey] at hy2
        generalize hQ : pix g s (c : Int) = Q at *
        unfold pix at hQ
        rw [hgw, hgh, ex, ey] at hQ
        generalize hx0 : c % w = x at *
        generalize hy0 : c / w = y at *
        (repeat' first | with_reducible (first | refine Asm.intro fun _ => ?_ | refine Chk.g ?_ | refine AnyI.i64 fun _ _ => ?_ | refine LetW.g ?_ | refine LetW.h ?_ | refine Ite.t fun _ => ?_ | refine Ite.f fun _ => ?_ | refine Ite.decide (fun _ => ?_) fun _ => ?_ | refine Ite.bool (fun _ => ?_) fun _ => ?_ | refine And.intro ?_ ?_) | omega | simp (maxSteps := 1000000) only [go_sem, reduceCtorEq, Nat.reduceLT, Nat.reduceLeDiff, reduceIte, ↓reduceIte, Nat.reduceEqDiff, Nat.reduceAdd, Nat.reduceMul, Nat.reduceSub, Int.reduceLE, Int.reduceLT, Int.reduceNeg, Int.reduceToNat, Int.toNat_natCast])
        refine VcDraw.lex [] [] (by kernel_rfl) (by kernel_rfl) ?_
        (repeat' first | with_reducible (first | refine Asm.intro fun _ => ?_ | refine Chk.g ?_ | refine AnyI.i64 fun _ _ => ?_ | refine LetW.g ?_ | refine LetW.h ?_ | refine Ite.t fun _ => ?_ | refine Ite.f fun _ => ?_ | refine Ite.decide (fun _ => ?_) fun _ => ?_ | refine Ite.bool (fun _ => ?_) fun _ => ?_ | refine And.intro ?_ ?_) | omega | simp (maxSteps := 1000000) only [go_sem, reduceCtorEq, Nat.reduceLT, Nat.reduceLeDiff, reduceIte, ↓reduceIte, Nat.reduceEqDiff, Nat.reduceAdd, Nat.reduceMul, Nat.reduceSub, Int.reduceLE, Int.reduceLT, Int.reduceNeg, Int.reduceToNat, Int.toNat_natCast, hc, up_tmod, up_tdiv, minmax, hx0, hy0])
        have ha1 : lo3 (y : Int) = max ((y : Int) - 1) 0 := rfl
        have ha2 : hi3 (y : Int) h = min ((y : Int) + 1) ((h : Int) - 1) := rfl
        have ha3 : lo3 (x : Int) = max ((x : Int) - 1) 0 := rfl
        have ha4 : hi3 (x : Int) w = min ((x : Int) + 1) ((w : Int) - 1) := rfl
        refine VcLoop.intro (fun z : Int × RS => ⟨137, [(14, .int .i64 z.1), (13, .int .i64 (y : Nat)), (12, .int .i64 (x : Nat)), (11, .int .i64 (k : Nat)), (10, .own 3), (24, .int .i64 (i : Nat)), (23, .int .i64 (w * h : Nat)), (8, .own 2), (7, .own 1), (3, .ptr 0 0), (1, .bool ink), (2, .bool cor)], [(0, .box 24 [.int .i64 w, .int .i64 h, .ro (.bools p)]), (1, .row 4 (.bools z.2.seen)), (2, .row 64 (.objs 1 (D.map gAv))), (3, .row 3 (.ints .i64 z.2.l))], 4⟩) (fun z => lo3 y ≤ z.1 ∧ z.1 ≤ hi3 y h + 1 ∧ RInv g.ok (w * h) c0 z.2 ∧ k < z.2.l.length ∧ (rng z.1 (hi3 y h + 1 - z.1).toNat).foldl (RS.row g x y (rng3 x w)) z.2 = Q) (fun z => (hi3 y h + 1 - z.1).toNat) (lo3 y, s) ?_ ⟨by dsimp only; omega, by dsimp only; omega, hI, hlk, hQ⟩ fun z hz => ?_
        · refine Ent.auto0 rfl ?_ ?_ <;> simp only [go_sem, reduceCtorEq, reduceIte, Nat.reduceEqDiff, Nat.reduceLT, Nat.reduceLeDiff, Int.natCast_succ, ha1]
        obtain ⟨v, t⟩ := z
        obtain ⟨hv1, hv2, hIt, hkt, hrest⟩ := hz
        dsimp only at hv1 hv2 hIt hkt hrest ⊢
        have hlt2 := hIt.le
        by_cases hv : v ≤ hi3 y h
        · obtain ⟨m3, hm3⟩ : ∃ m3, (hi3 y h + 1 - v).toNat = m3 + 1 := ⟨(hi3 y h + 1 - v).toNat - 1, by omega⟩
          have hm3' : (hi3 y h + 1 - (v + 1)).toNat = m3 := by omega
          rw [hm3] at hrest
          simp only [rng, List.foldl_cons] at hrest
          have hv0 : 0 ≤ v ∧ v < (h : Int) := by omega
          have hvw0 : 0 ≤ v * (w : Int) := Int.mul_nonneg hv0.1 (by omega)
          have hvw1 : v * (w : Int) ≤ 1000 * 1000 := Int.mul_le_mul (by omega) (by omega) (by omega) (by omega)
          obtain ⟨hI3, hL3⟩ := row_inv (g := g) (s := t) (c0 := c0) (x := x) (y := y) (v := v) (us := rng3 x w) (by rw [hgw, hgh]; exact hIt) (fun u hu => by rw [hgw]; exact rng3_mem hu) (by rw [hgh]; exact hv0)
          rw [hgw, hgh] at hI3
          have hl3 := hL3.len
          generalize hQ2 : RS.row g x y (rng3 x w) t v = Q2 at *
          unfold RS.row at hQ2
          (repeat' first | with_reducible (first | refine Asm.intro fun _ => ?_ | refine Chk.g ?_ | refine AnyI.i64 fun _ _ => ?_ | refine LetW.g ?_ | refine LetW.h ?_ | refine Ite.t fun _ => ?_ | refine Ite.f fun _ => ?_ | refine Ite.decide (fun _ => ?_) fun _ => ?_ | refine Ite.bool (fun _ => ?_) fun _ => ?_ | refine And.intro ?_ ?_) | omega | simp (maxSteps := 1000000) only [go_sem, reduceCtorEq, Nat.reduceLT, Nat.reduceLeDiff, reduceIte, ↓reduceIte, Nat.reduceEqDiff, Nat.reduceAdd, Nat.reduceMul, Nat.reduceSub, Int.reduceLE, Int.reduceLT, Int.reduceNeg, Int.reduceToNat, Int.toNat_natCast, minmax])
          refine VcLoop.intro (fun z : Int × RS => ⟨137, [(15, .int .i64 z.1), (14, .int .i64 v), (13, .int .i64 (y : Nat)), (12, .int .i64 (x : Nat)), (11, .int .i64 (k : Nat)), (10, .own 3), (24, .int .i64 (i : Nat)), (23, .int .i64 (w * h : Nat)), (8, .own 2), (7, .own 1), (3, .ptr 0 0), (1, .bool ink), (2, .bool cor)], [(0, .box 24 [.int .i64 w, .int .i64 h, .ro (.bools p)]), (1, .row 4 (.bools z.2.seen)), (2, .row 64 (.objs 1 (D.map gAv))), (3, .row 3 (.ints .i64 z.2.l))], 4⟩) (fun z => lo3 x ≤ z.1 ∧ z.1 ≤ hi3 x w + 1 ∧ RInv g.ok (w * h) c0 z.2 ∧ (rng z.1 (hi3 x w + 1 - z.1).toNat).foldl (RS.pt g x y v) z.2 = Q2) (fun z => (hi3 x w + 1 - z.1).toNat) (lo3 x, t) ?_ ⟨by dsimp only; omega, by dsimp only; omega, hIt, hQ2⟩ fun z hz => ?_
          · refine Ent.auto0 rfl ?_ ?_ <;> simp only [go_sem, reduceCtorEq, reduceIte, Nat.reduceEqDiff, Nat.reduceLT, Nat.reduceLeDiff, Int.natCast_succ, ha3]
          clear hlt2
          obtain ⟨u, t⟩ := z
          obtain ⟨hu1, hu2, hIu, hrest2⟩ := hz
          dsimp only at hu1 hu2 hIu hrest2 ⊢
          have hlu := hIu.le
          have hsu := hIu.len
          by_cases hu : u ≤ hi3 x w
          · obtain ⟨m4, hm4⟩ : ∃ m4, (hi3 x w + 1 - u).toNat = m4 + 1 := ⟨(hi3 x w + 1 - u).toNat - 1, by omega⟩
            have hm4' : (hi3 x w + 1 - (u + 1)).toNat = m4 := by omega
            rw [hm4] at hrest2
            simp only [rng, List.foldl_cons] at hrest2
            have hu0 : 0 ≤ u ∧ u < (w : Int) := by omega
            obtain ⟨hc1, hc2, hc3⟩ := cell_lt hu0 hv0
            have hI4 := (hpt c0 t x y v u hIu hu0 hv0).1
            obtain ⟨q, hq⟩ : ∃ q : Nat, v * (w : Int) + u = q := ⟨(v * (w : Int) + u).toNat, by omega⟩
            have hqn : q < w * h := by omega
            have hRS : RS.pt g x y v t u = if cor = false ∧ u ≠ x ∧ v ≠ y then t else t.vis g.ok q := by
              unfold RS.pt
              rw [hgw, hq, Int.toNat_natCast]
              subst hg
              rfl
            have hokq : g.ok q = (p.getD q false == ink) := by subst hg; rfl
            rw [hRS] at hI4 hrest2
            unfold RS.vis at hI4 hrest2
            rw [hokq] at hI4 hrest2
            (repeat' first | with_reducible (first | refine Asm.intro fun _ => ?_ | refine Chk.g ?_ | refine AnyI.i64 fun _ _ => ?_ | refine LetW.g ?_ | refine LetW.h ?_ | refine Ite.t fun _ => ?_ | refine Ite.f fun _ => ?_ | refine Ite.decide (fun _ => ?_) fun _ => ?_ | refine Ite.bool (fun _ => ?_) fun _ => ?_ | refine And.intro ?_ ?_) | omega | simp (maxSteps := 1000000) only [go_sem, reduceCtorEq, Nat.reduceLT, Nat.reduceLeDiff, reduceIte, ↓reduceIte, Nat.reduceEqDiff, Nat.reduceAdd, Nat.reduceMul, Nat.reduceSub, Int.reduceLE, Int.reduceLT, Int.reduceNeg, Int.reduceToNat, Int.toNat_natCast, minmax, hq, hp])
            refine Chk.g (Chk.g (Chk.g (Ite.bool (fun hc => ?_) (fun hc => ?_)) (fun h => ⟨h, fun h2 => ⟨h, h2⟩⟩)) (fun h => ⟨h, fun h2 => ⟨h, h2⟩⟩)) (fun h => ⟨h, by omega⟩)
            · have e : (if cor = false ∧ u ≠ x ∧ v ≠ y then t else if t.seen.getD q false = true ∨ (p.getD q false == ink) = false then t else ⟨t.seen.set q true, t.l ++ [(q : Int)]⟩) = t := by
                rcases pt_t hc with h1 | h1
                · exact if_pos h1
                · rw [if_pos h1, ite_self]
              rw [e] at hI4 hrest2
              (repeat' first | with_reducible (first | refine Asm.intro fun _ => ?_ | refine Chk.g ?_ | refine AnyI.i64 fun _ _ => ?_ | refine LetW.g ?_ | refine LetW.h ?_ | refine Ite.t fun _ => ?_ | refine Ite.f fun _ => ?_ | refine Ite.decide (fun _ => ?_) fun _ => ?_ | refine Ite.bool (fun _ => ?_) fun _ => ?_ | refine And.intro ?_ ?_) | omega | simp (maxSteps := 1000000) only [go_sem, reduceCtorEq, Nat.reduceLT, Nat.reduceLeDiff, reduceIte, ↓reduceIte, Nat.reduceEqDiff, Nat.reduceAdd, Nat.reduceMul, Nat.reduceSub, Int.reduceLE, Int.reduceLT, Int.reduceNeg, Int.reduceToNat, Int.toNat_natCast, minmax, hq, hp])
              refine ⟨(u + 1, t), Ent.auto0 rfl ?_ ?_, ⟨by dsimp only; omega, by dsimp only; omega, hI4, by dsimp only; rw [hm4']; exact hrest2⟩, by dsimp only; omega⟩ <;> simp only [go_sem, reduceCtorEq, reduceIte, Nat.reduceEqDiff, Nat.reduceLT, Nat.reduceLeDiff, Int.natCast_succ]
            · obtain ⟨h1, h2⟩ := pt_f hc
              rw [if_neg h1, if_neg h2] at hI4 hrest2
              (repeat' first | with_reducible (first | refine Asm.intro fun _ => ?_ | refine Chk.g ?_ | refine AnyI.i64 fun _ _ => ?_ | refine LetW.g ?_ | refine LetW.h ?_ | refine Ite.t fun _ => ?_ | refine Ite.f fun _ => ?_ | refine Ite.decide (fun _ => ?_) fun _ => ?_ | refine Ite.bool (fun _ => ?_) fun _ => ?_ | refine And.intro ?_ ?_) | omega | simp (maxSteps := 1000000) only [go_sem, reduceCtorEq, Nat.reduceLT, Nat.reduceLeDiff, reduceIte, ↓reduceIte, Nat.reduceEqDiff, Nat.reduceAdd, Nat.reduceMul, Nat.reduceSub, Int.reduceLE, Int.reduceLT, Int.reduceNeg, Int.reduceToNat, Int.toNat_natCast, minmax, hq, hp, hsu])
              refine ⟨(u + 1, ⟨t.seen.set q true, t.l ++ [(q : Int)]⟩), Ent.auto0 rfl ?_ ?_, ⟨by dsimp only; omega, by dsimp only; omega, hI4, by dsimp only; rw [hm4']; exact hrest2⟩, by dsimp only; omega⟩ <;> simp only [go_sem, reduceCtorEq, reduceIte, Nat.reduceEqDiff, Nat.reduceLT, Nat.reduceLeDiff, Int.natCast_succ]
          · have eu : u = hi3 x w + 1 := by omega
            subst eu
            rw [show (hi3 (x : Int) (w : Int) + 1 - (hi3 (x : Int) (w : Int) + 1)).toNat = 0 by omega] at hrest2
            have e : t = Q2 := hrest2
            subst e
            (repeat' first | with_reducible (first | refine Asm.intro fun _ => ?_ | refine Chk.g ?_ | refine AnyI.i64 fun _ _ => ?_ | refine LetW.g ?_ | refine LetW.h ?_ | refine Ite.t fun _ => ?_ | refine Ite.f fun _ => ?_ | refine Ite.decide (fun _ => ?_) fun _ => ?_ | refine Ite.bool (fun _ => ?_) fun _ => ?_ | refine And.intro ?_ ?_) | omega | simp (maxSteps := 1000000) only [go_sem, reduceCtorEq, Nat.reduceLT, Nat.reduceLeDiff, reduceIte, ↓reduceIte, Nat.reduceEqDiff, Nat.reduceAdd, Nat.reduceMul, Nat.reduceSub, Int.reduceLE, Int.reduceLT, Int.reduceNeg, Int.reduceToNat, Int.toNat_natCast, minmax])
            refine ⟨(v + 1, t), Ent.auto0 rfl ?_ ?_, ⟨by dsimp only; omega, by dsimp only; omega, hI3, by dsimp only; omega, by dsimp only; rw [hm3']; exact hrest⟩, by dsimp only; omega⟩ <;> simp only [go_sem, reduceCtorEq, reduceIte, Nat.reduceEqDiff, Nat.reduceLT, Nat.reduceLeDiff, Int.natCast_succ]
        · have ev : v = hi3 y h + 1 := by omega
          subst ev
          rw [show (hi3 (y : Int) (h : Int) + 1 - (hi3 (y : Int) (h : Int) + 1)).toNat = 0 by omega] at hrest
          have e : t = Q := hrest
          subst e
          (repeat' first | with_reducible (first | refine Asm.intro fun _ => ?_ | refine Chk.g ?_ | refine AnyI.i64 fun _ _ => ?_ | refine LetW.g ?_ | refine LetW.h ?_ | refine Ite.t fun _ => ?_ | refine Ite.f fun _ => ?_ | refine Ite.decide (fun _ => ?_) fun _ => ?_ | refine Ite.bool (fun _ => ?_) fun _ => ?_ | refine And.intro ?_ ?_) | omega | simp (maxSteps := 1000000) only [go_sem, reduceCtorEq, Nat.reduceLT, Nat.reduceLeDiff, reduceIte, ↓reduceIte, Nat.reduceEqDiff, Nat.reduceAdd, Nat.reduceMul, Nat.reduceSub, Int.reduceLE, Int.reduceLT, Int.reduceNeg, Int.reduceToNat, Int.toNat_natCast, minmax])
          refine ⟨(k + 1, t), Ent.auto0 rfl ?_ ?_, ⟨by dsimp only; omega, hIt, by dsimp only; rw [hm2']; exact hF⟩, by dsimp only; omega⟩ <;> simp only [go_sem, reduceCtorEq, reduceIte, Nat.reduceEqDiff, Nat.reduceLT, Nat.reduceLeDiff, Int.natCast_succ]
      · have e : F = s := by rw [← hF, bfs_end _ _ _ _ hlk]
        subst e
        (repeat' first | with_reducible (first | refine Asm.intro fun _ => ?_ | refine Chk.g ?_ | refine AnyI.i64 fun _ _ => ?_ | refine LetW.g ?_ | refine LetW.h ?_ | refine Ite.t fun _ => ?_ | refine Ite.f fun _ => ?_ | refine Ite.decide (fun _ => ?_) fun _ => ?_ | refine Ite.bool (fun _ => ?_) fun _ => ?_ | refine And.intro ?_ ?_) | omega | simp (maxSteps := 1000000) only [go_sem, reduceCtorEq, Nat.reduceLT, Nat.reduceLeDiff, reduceIte, ↓reduceIte, Nat.reduceEqDiff, Nat.reduceAdd, Nat.reduceMul, Nat.reduceSub, Int.reduceLE, Int.reduceLT, Int.reduceNeg, Int.reduceToNat])
        refine ⟨(i + 1, F.seen, D ++ [F.l]), Ent.auto0 rfl ?_ ?_, ⟨by omega, hS2, by dsimp only; rw [hm', List.append_assoc]; exact hD⟩, by dsimp only; omega⟩ <;> simp only [go_sem, reduceCtorEq, reduceIte, Nat.reduceEqDiff, Nat.reduceLT, Nat.reduceLeDiff, Int.natCast_succ, List.map_append, gAv]
  · have e : i = w * h := by omega
    subst e
    rw [Nat.sub_self] at hD
    simp only [regs, List.append_nil] at hD
    subst hD
    (repeat' first | with_reducible (first | refine Asm.intro fun _ => ?_ | refine Chk.g ?_ | refine AnyI.i64 fun _ _ => ?_ | refine LetW.g ?_ | refine LetW.h ?_ | refine Ite.t fun _ => ?_ | refine Ite.f fun _ => ?_ | refine Ite.decide (fun _ => ?_) fun _ => ?_ | refine Ite.bool (fun _ => ?_) fun _ => ?_ | refine And.intro ?_ ?_) | omega | simp (maxSteps := 1000000) only [go_sem, reduceCtorEq, Nat.reduceLT, Nat.reduceLeDiff, reduceIte, ↓reduceIte, Nat.reduceEqDiff, Nat.reduceAdd, Nat.reduceMul, Nat.reduceSub, Int.reduceLE, Int.reduceLT, Int.reduceNeg, Int.reduceToNat])
    refine Ret.auto 1 ?_ rfl ?_ <;> simp only [go_sem, reduceCtorEq, reduceIte, Nat.reduceEqDiff, Nat.reduceLT, Nat.reduceLeDiff, Int.natCast_succ, Post]
end Go.Fv.Q

namespace Go.Fv.Q
open Go Go.Proofs
set_option linter.unusedSimpArgs false
set_option linter.unusedVariables false
set_option maxRecDepth 8000

end Go.Fv.Q

/- Boxes of pixels; regions that are chosen change: the walk. -/
namespace Go.Fv.Q
open Go Go.Proofs
set_option linter.unusedSimpArgs false
set_option linter.unusedVariables false
set_option linter.unnecessarySimpa false
set_option maxRecDepth 8000

theorem take_snoc {l : List Int} {k : Nat} (h : k < l.length) : l.take (k + 1) = l.take k ++ [l.getD k 0] := by
  rw [List.take_succ_eq_append_getElem h, getD_lt h]
theorem InPg.take {w h : Nat} {l : List Int} (hb : InPg w h l) (k : Nat) : InPg w h (l.take k) := fun i hi => hb i (List.mem_of_mem_take hi)
theorem bxBounds {w h : Nat} {l : List Int} (hb : InPg w h l) : (0 ≤ leftP w l ∧ leftP w l ≤ w) ∧ (0 ≤ topP w h l ∧ topP w h l ≤ h) ∧ (-1 ≤ rightP w l ∧ rightP w l ≤ w) ∧ (-1 ≤ botP w l ∧ botP w l ≤ h) := by
  have hbd := fun i hi => xy_bd' (hb i hi).1 (hb i hi).2
  have a1 := le_mnF (fun i => i % (w : Int)) l w
  have a2 := le_mnF (fun i => i / (w : Int)) l h
  have a3 := mxF_le (fun i => i % (w : Int)) l (-1)
  have a4 := mxF_le (fun i => i / (w : Int)) l (-1)
  change (∀ m, m ≤ leftP w l ↔ _) at a1
  change (∀ m, m ≤ topP w h l ↔ _) at a2
  change (∀ m, rightP w l ≤ m ↔ _) at a3
  change (∀ m, botP w l ≤ m ↔ _) at a4
  refine ⟨⟨(a1 0).2 ⟨by omega, fun i hi => (hbd i hi).1.1⟩, ((a1 _).1 (Int.le_refl _)).1⟩, ⟨(a2 0).2 ⟨by omega, fun i hi => (hbd i hi).2.1⟩, ((a2 _).1 (Int.le_refl _)).1⟩, ⟨((a3 _).1 (Int.le_refl _)).1, (a3 _).2 ⟨by omega, fun i hi => by have := (hbd i hi).1.2; (try dsimp only); omega⟩⟩, ⟨((a4 _).1 (Int.le_refl _)).1, (a4 _).2 ⟨by omega, fun i hi => by have := (hbd i hi).2.2; (try dsimp only); omega⟩⟩⟩
set_option maxHeartbeats 4000000 in
theorem boxOf_ok (w h : Nat) (hw : w ≤ 4000) (hh : h ≤ 4000) (hw1 : 1 ≤ w) (p : List Bool) (l : List Int) (hb : InPg w h l) :
    FnOk Tryz.prog 41 [.agg [.int .i64 w, .int .i64 h, .ro (.bools p)], .ro (.ints .i64 l)] (.agg (boxOf w h l).av) [] := by
  obtain ⟨⟨g1, g2⟩, ⟨g3, g4⟩, ⟨g5, g6⟩, ⟨g7, g8⟩⟩ := bxBounds hb
  refine FnOk.of_vc Tryz.func41 rfl (by decide) (by simp [Tryz.f41]) [.cell 4 26] rfl fun w0 T0 _ => ?_
  simp only [Tryz.f41, argEnv]
  (repeat' first | with_reducible (first | refine Asm.intro fun _ => ?_ | refine Chk.g ?_ | refine AnyI.i64 fun _ _ => ?_ | refine LetW.g ?_ | refine LetW.h ?_ | refine Ite.t fun _ => ?_ | refine Ite.f fun _ => ?_ | refine Ite.decide (fun _ => ?_) fun _ => ?_ | refine Ite.bool (fun _ => ?_) fun _ => ?_ | refine And.intro ?_ ?_) | omega | simp (maxSteps := 1000000) only [go_sem, reduceCtorEq, Nat.reduceLT, Nat.reduceLeDiff, reduceIte, ↓reduceIte, Nat.reduceEqDiff, Nat.reduceAdd, Nat.reduceMul, Nat.reduceSub, Int.reduceLE, Int.reduceLT, Int.reduceNeg, Int.reduceToNat])
  refine VcDraw.lex [] [] (by kernel_rfl) (by kernel_rfl) ?_
  (repeat' first | with_reducible (first | refine Asm.intro fun _ => ?_ | refine Chk.g ?_ | refine AnyI.i64 fun _ _ => ?_ | refine LetW.g ?_ | refine LetW.h ?_ | refine Ite.t fun _ => ?_ | refine Ite.f fun _ => ?_ | refine Ite.decide (fun _ => ?_) fun _ => ?_ | refine Ite.bool (fun _ => ?_) fun _ => ?_ | refine And.intro ?_ ?_) | omega | simp (maxSteps := 1000000) only [go_sem, reduceCtorEq, Nat.reduceLT, Nat.reduceLeDiff, reduceIte, ↓reduceIte, Nat.reduceEqDiff, Nat.reduceAdd, Nat.reduceMul, Nat.reduceSub, Int.reduceLE, Int.reduceLT, Int.reduceNeg, Int.reduceToNat])
  refine VcLoop.intro (fun k : Nat => ⟨55, [(19, .int .i64 k), (18, .int .i64 l.length), (17, .ro (.ints .i64 l)), (5, .int .i64 (leftP w (l.take k))), (6, .int .i64 (topP w h (l.take k))), (7, .int .i64 (rightP w (l.take k))), (8, .int .i64 (botP w (l.take k))), (2, .ptr 0 0), (4, .ptr 1 0)], [(0, .box 24 [.int .i64 w, .int .i64 h, .ro (.bools p)]), (1, .box 26 [.int .i64 0, .int .i64 0, .int .i64 0, .int .i64 0])], 2⟩) (fun k => k ≤ l.length) (fun k => l.length - k) 0 ?_ (Nat.zero_le _) fun k hk => ?_
  · refine Ent.auto0 rfl ?_ ?_ <;> simp only [go_sem, reduceCtorEq, reduceIte, Nat.reduceEqDiff, Nat.reduceLT, Nat.reduceLeDiff, Int.natCast_succ, List.take_zero, leftP, topP, rightP, botP, mnF, mxF, List.foldl_nil]
  by_cases hlt : k < l.length
  · obtain ⟨b1, b2⟩ := hb _ (getD_mem hlt)
    have hts := take_snoc hlt
    have hx : (l.getD k 0).tmod w = l.getD k 0 % w := Int.tmod_eq_emod_of_nonneg b1
    have hy : (l.getD k 0).tdiv w = l.getD k 0 / w := Int.tdiv_eq_ediv_of_nonneg b1
    have hxy := xy_bd' b1 b2
    (repeat' first | with_reducible (first | refine Asm.intro fun _ => ?_ | refine Chk.g ?_ | refine AnyI.i64 fun _ _ => ?_ | refine LetW.g ?_ | refine LetW.h ?_ | refine Ite.t fun _ => ?_ | refine Ite.f fun _ => ?_ | refine Ite.decide (fun _ => ?_) fun _ => ?_ | refine Ite.bool (fun _ => ?_) fun _ => ?_ | refine And.intro ?_ ?_) | omega | simp (maxSteps := 1000000) only [go_sem, reduceCtorEq, Nat.reduceLT, Nat.reduceLeDiff, reduceIte, ↓reduceIte, Nat.reduceEqDiff, Nat.reduceAdd, Nat.reduceMul, Nat.reduceSub, Int.reduceLE, Int.reduceLT, Int.reduceNeg, Int.reduceToNat, Int.toNat_natCast])
    refine VcDraw.lex [] [] (by kernel_rfl) (by kernel_rfl) ?_
    (repeat' first | with_reducible (first | refine Asm.intro fun _ => ?_ | refine Chk.g ?_ | refine AnyI.i64 fun _ _ => ?_ | refine LetW.g ?_ | refine LetW.h ?_ | refine Ite.t fun _ => ?_ | refine Ite.f fun _ => ?_ | refine Ite.decide (fun _ => ?_) fun _ => ?_ | refine Ite.bool (fun _ => ?_) fun _ => ?_ | refine And.intro ?_ ?_) | omega | simp (maxSteps := 1000000) only [go_sem, reduceCtorEq, Nat.reduceLT, Nat.reduceLeDiff, reduceIte, ↓reduceIte, Nat.reduceEqDiff, Nat.reduceAdd, Nat.reduceMul, Nat.reduceSub, Int.reduceLE, Int.reduceLT, Int.reduceNeg, Int.reduceToNat, Int.toNat_natCast, hx, hy, minmax])
    refine ⟨k + 1, Ent.auto0 rfl ?_ ?_, by omega, by omega⟩ <;> simp only [go_sem, reduceCtorEq, reduceIte, Nat.reduceEqDiff, Nat.reduceLT, Nat.reduceLeDiff, Int.natCast_succ, hts, leftP, topP, rightP, botP, mnF_snoc, mxF_snoc]
  · have e : k = l.length := by omega
    subst e
    rw [List.take_length]
    (repeat' first | with_reducible (first | refine Asm.intro fun _ => ?_ | refine Chk.g ?_ | refine AnyI.i64 fun _ _ => ?_ | refine LetW.g ?_ | refine LetW.h ?_ | refine Ite.t fun _ => ?_ | refine Ite.f fun _ => ?_ | refine Ite.decide (fun _ => ?_) fun _ => ?_ | refine Ite.bool (fun _ => ?_) fun _ => ?_ | refine And.intro ?_ ?_) | omega | simp (maxSteps := 1000000) only [go_sem, reduceCtorEq, Nat.reduceLT, Nat.reduceLeDiff, reduceIte, ↓reduceIte, Nat.reduceEqDiff, Nat.reduceAdd, Nat.reduceMul, Nat.reduceSub, Int.reduceLE, Int.reduceLT, Int.reduceNeg, Int.reduceToNat])
    refine Ret.auto 0 ?_ rfl ?_ <;> simp only [go_sem, reduceCtorEq, reduceIte, Nat.reduceEqDiff, Nat.reduceLT, Nat.reduceLeDiff, Int.natCast_succ, Post, Bx.av, boxOf, List.drop_zero]
def BxBd (b : Bx) : Prop := -10000 ≤ b.x ∧ b.x ≤ 10000 ∧ -10000 ≤ b.y ∧ b.y ≤ 10000 ∧ -10000 ≤ b.w ∧ b.w ≤ 10000 ∧ -10000 ≤ b.h ∧ b.h ≤ 10000
theorem boxOf_bd {w h : Nat} (hw : w ≤ 4000) (hh : h ≤ 4000) {l : List Int} (hb : InPg w h l) : BxBd (boxOf w h l) := by
  obtain ⟨⟨g1, g2⟩, ⟨g3, g4⟩, ⟨g5, g6⟩, ⟨g7, g8⟩⟩ := bxBounds hb
  unfold BxBd boxOf
  dsimp only
  omega
end Go.Fv.Q
