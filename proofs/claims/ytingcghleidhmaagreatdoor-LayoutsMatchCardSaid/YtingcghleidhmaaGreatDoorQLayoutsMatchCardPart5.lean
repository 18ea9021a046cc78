/-
  A part of the proof of the claim: walks over the program's functions and the plain laws that these need. No condition of its own.
-/
import Derived.Test.YtingcghleidhmaaGreatDoorQLayoutsMatchCardPart4
import Derived.Test.YtingcghleidhmaaGreatDoorQLayoutsMatchCardPart2
import Derived.Test.YtingcghleidhmaaGreatDoorQLayoutsMatchCardPart1
import Derived.Test.YtingcghleidhmaaGreatDoorFvPart9
import Derived.Test.YtingcghleidhmaaGreatDoorQLayoutsMatchCardPart3
/- Pieces of a page, in plain words. -/
namespace Go.Fv.Q
open Go
set_option linter.unusedSimpArgs false
set_option linter.unusedVariables false
set_option maxRecDepth 8000

structure Pc where
  b : Bx
  n : Int
  x : Int
  y : Int
def Pc.av (c : Pc) : List AV := [.int .i64 c.b.x, .int .i64 c.b.y, .int .i64 c.b.w, .int .i64 c.b.h, .int .i64 c.n, .int .i64 c.x, .int .i64 c.y]
def Pc.zero : Pc := ⟨Bx.zero, 0, 0, 0⟩
abbrev pcR (l : List Pc) : RowV := .objs 7 (l.map Pc.av)
instance : FNoId Pc.av := ⟨fun _ => rfl⟩
theorem pc_elem (l : List Pc) {i : Nat} (h : i < l.length) : (l.map Pc.av).getD i [] = [.int .i64 (l.getD i Pc.zero).b.x, .int .i64 (l.getD i Pc.zero).b.y, .int .i64 (l.getD i Pc.zero).b.w, .int .i64 (l.getD i Pc.zero).b.h, .int .i64 (l.getD i Pc.zero).n, .int .i64 (l.getD i Pc.zero).x, .int .i64 (l.getD i Pc.zero).y] := by
  simp [List.getD_eq_getElem?_getD, h, Pc.av]
def pcOf (w h : Nat) (l : List Int) : Pc := ⟨boxOf w h l, l.length, l.getD 0 0 % w, l.getD 0 0 / w⟩
def pcOf2 (w : Nat) (l : List Int) : Pc := ⟨hullL (l.map (pxB w)), l.length, l.getD 0 0 % w, l.getD 0 0 / w⟩
theorem pc_eq {w h j : Nat} {l : List Int} (ho : RegOk (w * h) j l) : pcOf2 w (sortI l) = pcOf w h l := by
  obtain ⟨t, ht⟩ := ho.hd
  have hne : l ≠ [] := by rw [ht]; simp
  have hb : InPg w h l := fun i hi => by have := ho.bd i hi; omega
  have hs : sortI l ≠ [] := by
    intro e
    have := sortI_len l
    rw [e] at this
    exact hne (List.eq_nil_of_length_eq_zero this.symm)
  have hj : (j : Int) ∈ l := by rw [ht]; exact List.mem_cons_self
  have h0 : l.getD 0 0 = (j : Int) := by rw [ht]; rfl
  unfold pcOf2 pcOf
  rw [hull_px hs (fun i hi => hb i ((sortI_mem l i).1 hi)), sortI_len, sortI_head hj fun x hx => (ho.bd x hx).1, h0, boxOf_mem w h (sortI_mem l)]
theorem pcs_eq (g : Pg2) : ((pieces g).map sortI).map (pcOf2 g.w) = (pieces g).map (pcOf g.w g.h) := by
  rw [List.map_map]
  refine List.map_congr_left fun l hl => ?_
  obtain ⟨j, hj, ho⟩ := pieces_ok g l hl
  exact pc_eq ho
theorem sum_b2i : ∀ p : List Bool, (p.map b2i).sum = ((p.count true : Nat) : Int)
  | [] => rfl
  | b :: p => by
    rw [List.map_cons, List.sum_cons, sum_b2i p, List.count_cons]
    cases b <;> simp [b2i] <;> omega
theorem ink_whole (p : List Bool) (w h : Nat) (hp : p.length = w * h) : inkN p w 0 0 w h = p.count true := by
  have h1 := inkN_rows p w 0 0 w h
  have h2 : rowsOf w (cutAt p w 0 0) (h * w) = p := by
    refine eq_of_bools (by rw [rowsOf_len, hp, Nat.mul_comm]) fun k => ?_
    by_cases hk : k < w * h
    · have hw : 0 < w := by
        rcases Nat.eq_zero_or_pos w with h | h
        · rw [h, Nat.zero_mul] at hk; omega
        · exact h
      have hx := Nat.mod_lt k hw
      have hy : k / w < h := Nat.div_lt_of_lt_mul hk
      have e : k = k / w * w + k % w := (Nat.div_add_mod' k w).symm
      rw [e, rowsOf_get hx hy]
      unfold cutAt
      rw [Nat.zero_add, Nat.add_zero]
    · rw [List.getD_eq_getElem?_getD, List.getD_eq_getElem?_getD, List.getElem?_eq_none (by rw [rowsOf_len, Nat.mul_comm]; omega), List.getElem?_eq_none (by omega)]
  rw [h2, sum_b2i] at h1
  omega
end Go.Fv.Q

/-! The row on which most pieces end: plain law. -/
namespace Go.Fv.Q
open Go
set_option linter.unusedSimpArgs false
set_option linter.unusedVariables false

def LowL (l S : List Int) (b : Int) : Prop := (S = [] ∧ b = -1) ∨ (b ∈ S ∧ ∀ k, k ∈ S → cnt l k < cnt l b ∨ (cnt l k = cnt l b ∧ k ≤ b))
def pickLow (l : List Int) (b k : Int) : Int := if b < 0 ∨ cnt l b < cnt l k ∨ (cnt l k = cnt l b ∧ b < k) then k else b
theorem LowL.step {l S : List Int} {b k : Int} (hS : ∀ k, k ∈ S → 0 ≤ k) (h : LowL l S b) : LowL l (S ++ [k]) (pickLow l b k) := by
  unfold pickLow
  rcases h with ⟨rfl, rfl⟩ | ⟨hb, ha⟩
  · rw [if_pos (.inl (by omega))]
    exact .inr ⟨by simp, fun k' hk' => .inr (by simp at hk'; subst hk'; exact ⟨rfl, Int.le_refl _⟩)⟩
  · have hb0 := hS b hb
    split
    · rename_i hc
      refine .inr ⟨by simp, fun k' hk' => ?_⟩
      rcases List.mem_append.1 hk' with hk' | hk'
      · have := ha k' hk'; omega
      · simp at hk'; subst hk'; exact .inr ⟨rfl, Int.le_refl _⟩
    · rename_i hc
      refine .inr ⟨List.mem_append_left _ hb, fun k' hk' => ?_⟩
      rcases List.mem_append.1 hk' with hk' | hk'
      · exact ha k' hk'
      · simp at hk'; subst hk'; omega
theorem LowL.one {l S S' : List Int} {b b' : Int} (he : ∀ k, k ∈ S ↔ k ∈ S') (h : LowL l S b) (h' : LowL l S' b') : b = b' := by
  rcases h with ⟨rfl, rfl⟩ | ⟨hb, ha⟩
  · rcases h' with ⟨_, rfl⟩ | ⟨hb', _⟩
    · rfl
    · exact absurd ((he _).2 hb') (by simp)
  · rcases h' with ⟨rfl, _⟩ | ⟨hb', ha'⟩
    · exact absurd ((he _).1 hb) (by simp)
    · have h1 := ha b' ((he _).2 hb')
      have h2 := ha' b ((he _).1 hb)
      omega
def lowOf (l : List Int) : Int := (uq l).foldl (pickLow l) (-1)
theorem lowOf_spec {l : List Int} (hp : ∀ k, k ∈ l → 0 ≤ k) : LowL l (uq l) (lowOf l) := by
  have aux : ∀ (r S : List Int) (b : Int), (∀ k, k ∈ S ++ r → 0 ≤ k) → LowL l S b → LowL l (S ++ r) (r.foldl (pickLow l) b) := by
    intro r
    induction r with
    | nil => intro S b _ h; simpa using h
    | cons k r ih =>
      intro S b hr h
      have := ih (S ++ [k]) (pickLow l b k) (fun k' hk' => hr k' (by simpa using hk')) (h.step fun k' hk' => hr k' (List.mem_append_left _ hk'))
      simpa using this
  have := aux (uq l) [] (-1) (fun k hk => hp k (mem_uq.1 (by simpa using hk))) (.inl ⟨rfl, rfl⟩)
  simpa [lowOf] using this
theorem low_all {l : List Int} {seen : List Nat} {b : Int} (hp : ∀ k, k ∈ l → 0 ≤ k) (hs : ∀ j, j ∈ seen → j < (uq l).length) (ha : ∀ j, j < (uq l).length → j ∈ seen) (h : LowL l (seenK l seen) b) : b = lowOf l := by
  refine h.one (fun k => ?_) (lowOf_spec hp)
  unfold seenK
  rw [List.mem_map]
  constructor
  · rintro ⟨j, hj, rfl⟩
    have := hs j hj
    rw [List.getD_eq_getElem?_getD, List.getElem?_eq_getElem this]
    exact List.getElem_mem this
  · intro hk
    obtain ⟨j, hj, e⟩ := List.getElem_of_mem hk
    exact ⟨j, ha j hj, by rw [List.getD_eq_getElem?_getD, List.getElem?_eq_getElem hj]; exact e⟩
theorem uq_nil {l : List Int} : (uq l).length = 0 ↔ l = [] := by
  constructor
  · intro h
    cases l with
    | nil => rfl
    | cons x t =>
      have : x ∈ uq (x :: t) := mem_uq.2 (.head _)
      rw [List.eq_nil_of_length_eq_zero h] at this; cases this
  · rintro rfl; rfl
theorem foldl_ins_len : ∀ (l s : List Int), (l.foldl insE s).length ≤ s.length + l.length
  | [], s => Nat.le_refl _
  | x :: l, s => by
    have h1 := foldl_ins_len l (insE s x)
    have h2 : (insE s x).length ≤ s.length + 1 := by
      unfold insE; split
      · omega
      · simp
    rw [List.foldl_cons, List.length_cons]; omega
theorem uq_le (l : List Int) : (uq l).length ≤ l.length := by
  have := foldl_ins_len l []
  simpa [uq] using this
/-- The bottoms of the pieces of a page. -/
def bots (p : List Bool) (w h : Nat) : List Int := (pieces ⟨p, w, h, true, true⟩).map (botP w)
theorem box_bot (w h : Nat) (l : List Int) : (boxOf w h l).y + (boxOf w h l).h - 1 = botP w l := by
  unfold boxOf; dsimp only; omega
theorem piece_pg {p : List Bool} {w h : Nat} {l : List Int} (hl : l ∈ pieces ⟨p, w, h, true, true⟩) : InPg w h l ∧ l ≠ [] := by
  obtain ⟨j, hj, ho⟩ := pieces_ok _ l hl
  obtain ⟨t, ht⟩ := ho.hd
  exact ⟨fun i hi => by have := ho.bd i hi; dsimp only at this; omega, by rw [ht]; simp⟩
theorem bot_bd {w h : Nat} {l : List Int} (hb : InPg w h l) (h0 : l ≠ []) : 0 ≤ botP w l ∧ botP w l ≤ h := by
  obtain ⟨x, t, rfl⟩ := List.exists_cons_of_ne_nil h0
  have h1 := (mxF_le (fun i => i / (w : Int)) (x :: t) (-1) (botP w (x :: t))).1 (Int.le_refl _)
  have h2 := h1.2 x (.head _)
  have h3 := xy_bd' (hb x (.head _)).1 (hb x (.head _)).2
  refine ⟨by omega, ?_⟩
  refine (mxF_le (fun i => i / (w : Int)) (x :: t) (-1) h).2 ⟨by omega, fun i hi => ?_⟩
  have := (xy_bd' (hb i hi).1 (hb i hi).2).2.2
  omega
theorem bots_bd (p : List Bool) (w h : Nat) : ∀ x, x ∈ bots p w h → 0 ≤ x ∧ x ≤ h := by
  intro x hx
  unfold bots at hx
  obtain ⟨l, hl, rfl⟩ := List.mem_map.1 hx
  exact bot_bd (piece_pg hl).1 (piece_pg hl).2
theorem bots_len (p : List Bool) (w h : Nat) : (bots p w h).length ≤ w * h := by
  unfold bots; rw [List.length_map]; exact pieces_len _
theorem bots_nil (p : List Bool) (w h : Nat) (hp : p.length = w * h) : bots p w h = [] ↔ p.count true = 0 := by
  have hs := pieces_sum ⟨p, w, h, true, true⟩ hp
  dsimp only at hs
  unfold bots
  rw [List.map_eq_nil_iff, ← hs]
  constructor
  · intro h; rw [h]; rfl
  · intro h0
    cases hR : pieces ⟨p, w, h, true, true⟩ with
    | nil => rfl
    | cons l t =>
      have h1 := (piece_pg (p := p) (w := w) (h := h) (l := l) (by rw [hR]; exact .head _)).2
      rw [hR] at h0
      unfold sumLen at h0
      rw [List.map_cons, List.sum_cons] at h0
      exact absurd (List.eq_nil_of_length_eq_zero (by omega)) h1
end Go.Fv.Q

/-! Lists of boxes are held against one another. -/
namespace Go.Fv.Q
open Go Go.Proofs
set_option linter.unusedSimpArgs false
set_option linter.unusedVariables false
set_option maxRecDepth 8000

theorem nb_elem (l : List Nb) {i : Nat} (h : i < l.length) : (l.map Nb.av).getD i [] = [.int .i64 (l.getD i Nb.zero).x, .int .i64 (l.getD i Nb.zero).y, .int .i64 (l.getD i Nb.zero).w, .int .i64 (l.getD i Nb.zero).h] := by
  rw [getD_lt (by simpa using h), getD_lt h, List.getElem_map]; rfl
set_option maxHeartbeats 2000000 in
theorem equalNb_ok (a : List Nb) : FnOk Tryz.prog 10 [.ro (nbs a), .ro (nbs a)] (.bool true) [] := by
  refine FnOk.of_vc Tryz.func10 rfl (by decide) (by simp [Tryz.f10]) [.tmp 4] rfl fun w0 T0 _ => ?_
  simp only [Tryz.f10, argEnv]
  unfold nbs
  (repeat' first | with_reducible (first | intro _ | refine rc ?_ | refine rl ?_ | refine rh ?_ | refine rt ?_ | refine rf ?_ | refine rs ?_ | refine And.intro ?_ ?_) | omega | simp (maxSteps := 1000000) only [go_sem, simprocAttr, ↓reduceIte, List.length_map])
  refine VcLoop.intro (fun i : Nat => ⟨26, [(0, .ro (.objs 4 (a.map Nb.av))), (1, .ro (.objs 4 (a.map Nb.av))), (12, .int .i64 a.length), (13, .int .i64 i)], [], 0⟩) (fun i => i ≤ a.length) (fun i => a.length - i) 0 ?_ (Nat.zero_le _) fun i hi => ?_
  · refine Ent.auto0 rfl ?_ ?_ <;> simp only [go_sem, reduceCtorEq, reduceIte, Nat.reduceEqDiff, Nat.reduceLT, Nat.reduceLeDiff, Int.natCast_succ]
  by_cases hlt : i < a.length
  · have he := nb_elem a hlt
    generalize a.getD i Nb.zero = x at *
    (repeat' first | with_reducible (first | intro _ | refine rc ?_ | refine rl ?_ | refine rh ?_ | refine rt ?_ | refine rf ?_ | refine rs ?_ | refine And.intro ?_ ?_) | omega | simp (maxSteps := 1000000) only [go_sem, simprocAttr, ↓reduceIte, List.length_map])
    refine VcDraw.lex [] [] (by kernel_rfl) (by kernel_rfl) ?_
    (repeat' first | with_reducible (first | intro _ | refine rc ?_ | refine rl ?_ | refine rh ?_ | refine rt ?_ | refine rf ?_ | refine rs ?_ | refine And.intro ?_ ?_) | omega | simp (maxSteps := 1000000) only [go_sem, simprocAttr, ↓reduceIte, elemA, he, List.length_map])
    refine ⟨i + 1, Ent.auto0 rfl ?_ ?_, by omega, by omega⟩ <;> simp only [go_sem, reduceCtorEq, reduceIte, Nat.reduceEqDiff, Nat.reduceLT, Nat.reduceLeDiff, Int.natCast_succ]
  · (repeat' first | with_reducible (first | intro _ | refine rc ?_ | refine rl ?_ | refine rh ?_ | refine rt ?_ | refine rf ?_ | refine rs ?_ | refine And.intro ?_ ?_) | omega | simp (maxSteps := 1000000) only [go_sem, simprocAttr, ↓reduceIte, List.length_map])
    refine Ret.auto 0 ?_ rfl ?_ <;> simp only [go_sem, reduceCtorEq, reduceIte, Nat.reduceEqDiff, Nat.reduceLT, Nat.reduceLeDiff, Int.natCast_succ, Post]
end Go.Fv.Q

namespace Go.Fv.Q
open Go Go.Proofs
set_option linter.unusedSimpArgs false
set_option linter.unusedVariables false
set_option maxRecDepth 8000

theorem inPage_ok (w h X Y W H : Nat) (hw : w ≤ 4000) (hh : h ≤ 4000) (hW : 1 ≤ W) (hH : 1 ≤ H) (hX : X + W ≤ w) (hY : Y + H ≤ h) :
    FnOk Tryz.prog 95 [.agg [.int .i64 X, .int .i64 Y, .int .i64 W, .int .i64 H], .int .i64 w, .int .i64 h] (.int .i64 0) [] := by
  refine FnOk.of_vc Tryz.func95 rfl (by decide) (by simp [Tryz.f95]) [.tmp 6] rfl fun w0 T0 _ => ?_
  simp only [Tryz.f95, argEnv]
  (repeat' first | with_reducible (first | intro _ | refine rc ?_ | refine rl ?_ | refine rh ?_ | refine rt ?_ | refine rf ?_ | refine rs ?_ | refine And.intro ?_ ?_) | omega | simp (maxSteps := 1000000) only [go_sem, simprocAttr, ↓reduceIte])
  refine Ret.auto 0 ?_ rfl ?_ <;> simp only [go_sem, reduceCtorEq, reduceIte, Nat.reduceEqDiff, Nat.reduceLT, Nat.reduceLeDiff, Int.natCast_succ, Post]

theorem bitsErr_ok {w h : Nat} (hw1 : 1 ≤ w) (hw : w ≤ 4000) (hh1 : 1 ≤ h) (hh : h ≤ 4000) (hwh : w * h ≤ 1048576) {n : Nat} (hn : n = w * h) : grayErr w h n = 0 := by
  unfold grayErr
  rw [sizeErr_of (by omega) (by omega) (by omega) (by omega) (by rw [← Int.natCast_mul]; omega), if_pos rfl, if_pos (by rw [hn]; exact Int.natCast_mul w h)]

set_option maxHeartbeats 1000000 in
theorem checkBoth_ok (w h X Y W H : Nat) (hw1 : 1 ≤ w) (hw : w ≤ 4000) (hh1 : 1 ≤ h) (hh : h ≤ 4000) (hwh : w * h ≤ 1048576) (p : List Bool) (hp : p.length = w * h) (hW : 1 ≤ W) (hH : 1 ≤ H) (hX : X + W ≤ w) (hY : Y + H ≤ h) :
    FnOk Tryz.prog 58 [.agg [.int .i64 w, .int .i64 h, .ro (.bools p)], .agg [.int .i64 X, .int .i64 Y, .int .i64 W, .int .i64 H]] (.int .i64 0) [] := by
  have k1 := checkBits_ok w h p
  rw [bitsErr_ok hw1 hw hh1 hh hwh hp] at k1
  refine FnOk.of_vc Tryz.func58 rfl (by decide) (by simp [Tryz.f58]) [.tmp 4] rfl fun w0 T0 _ => ?_
  simp only [Tryz.f58, argEnv]
  (repeat' first | with_reducible (first | intro _ | refine rc ?_ | refine rl ?_ | refine rh ?_ | refine rt ?_ | refine rf ?_ | refine rs ?_ | refine And.intro ?_ ?_) | omega | simp (maxSteps := 1000000) only [go_sem, simprocAttr, ↓reduceIte])
  refine VcCall.k k1 ?_
  (repeat' first | with_reducible (first | intro _ | refine rc ?_ | refine rl ?_ | refine rh ?_ | refine rt ?_ | refine rf ?_ | refine rs ?_ | refine And.intro ?_ ?_) | omega | simp (maxSteps := 1000000) only [go_sem, simprocAttr, ↓reduceIte])
  refine VcCall.fr (FnFr.of_ok (inPage_ok w h X Y W H (by omega) (by omega) hW hH hX hY) rfl rfl) (by simp only [noIdR_ok, argOkL, argOk, allOk, argOkN, List.drop_zero, lk, reduceIte, reduceCtorEq, Nat.reduceEqDiff, Option.some.injEq, Item.row.injEq, Item.box.injEq, AV.ro.injEq, exists_eq_left, exists_and_left, exists_eq_left', exists_eq_right, and_assoc, and_true, true_and, List.cons.injEq, exists_eq', exists_eq]) 0 rfl (by simp [rowsB]) ?_
  (repeat' first | with_reducible (first | intro _ | refine rc ?_ | refine rl ?_ | refine rh ?_ | refine rt ?_ | refine rf ?_ | refine rs ?_ | refine And.intro ?_ ?_) | omega | simp (maxSteps := 1000000) only [go_sem, simprocAttr, ↓reduceIte])
  refine Ret.auto 0 ?_ rfl ?_ <;> simp only [go_sem, reduceCtorEq, reduceIte, Nat.reduceEqDiff, Nat.reduceLT, Nat.reduceLeDiff, Int.natCast_succ, Post]

set_option maxHeartbeats 2000000 in
theorem pageMade_ok (w h : Nat) (hw : w ≤ 4000) (hh : h ≤ 4000) (f : Nat) (caps : List AV) [CapsOk caps] (q : Nat → Nat → Bool) (hq : ∀ x y : Nat, x < w → y < h → FnFr Tryz.prog f ([.int .i64 x, .int .i64 y] ++ caps) (.bool (q x y)) []) :
    FnOk Tryz.prog 70 [.int .i64 w, .int .i64 h, .fn f caps] (.agg [.int .i64 w, .int .i64 h, .own 0]) [(0, .row 4 (.bools (rowsOf w q (h * w))))] := by
  have hwh : h * w ≤ 4000 * 4000 := Nat.mul_le_mul hh hw
  have hc : ((w : Int) * h) = ((h * w : Nat) : Int) := by rw [Int.natCast_mul, Int.mul_comm]
  have hlt : ∀ x y, x < w → y < h → y * w + x < h * w := fun x y hx hy => by
    have : y * w + w ≤ h * w := by rw [← Nat.succ_mul]; exact Nat.mul_le_mul_right _ (by omega)
    omega
  generalize hn : h * w = n at hwh hc hlt ⊢
  refine FnOk.of_vc Tryz.func70 rfl (by decide) (by simp [Tryz.f70]) [.cell 6 24] rfl fun w0 T0 _ => ?_
  simp only [Tryz.f70, argEnv]
  (repeat' first | with_reducible (first | intro _ | refine rc ?_ | refine rl ?_ | refine rh ?_ | refine rt ?_ | refine rf ?_ | refine rs ?_ | refine And.intro ?_ ?_) | omega | simp (maxSteps := 1000000) only [go_sem, simprocAttr, ↓reduceIte, hc])
  refine VcLoop.intro (fun y : Nat => ⟨40, [(18, .int .i64 y), (17, .int .i64 h), (7, .ptr 2 0), (6, .ptr 0 0), (0, .int .i64 w), (2, .fn f caps)], [(2, .box 24 [.int .i64 w, .int .i64 h, .own 1]), (0, .box 24 [.int .i64 0, .int .i64 0, .nilS]), (1, .row 4 (.bools (rowsOf w q (y * w) ++ List.replicate (n - y * w) false)))], 3⟩) (fun y => y ≤ h) (fun y => h - y) 0 ?_ (Nat.zero_le _) fun y hy => ?_
  · refine Ent.auto0 rfl ?_ ?_ <;> simp only [go_sem, reduceCtorEq, reduceIte, Nat.reduceEqDiff, Nat.reduceLT, Nat.reduceLeDiff, Int.natCast_succ, zrow, rowsOf, Nat.zero_mul, List.range_zero, List.map_nil, Nat.sub_zero, Int.toNat_natCast]
  (repeat' first | with_reducible (first | intro _ | refine rc ?_ | refine rl ?_ | refine rh ?_ | refine rt ?_ | refine rf ?_ | refine rs ?_ | refine And.intro ?_ ?_) | omega | simp (maxSteps := 1000000) only [go_sem, simprocAttr, ↓reduceIte])
  · refine VcLoop.intro (fun x : Nat => ⟨40, [(22, .int .i64 x), (21, .int .i64 w), (8, .int .i64 y), (18, .int .i64 y), (17, .int .i64 h), (7, .ptr 2 0), (6, .ptr 0 0), (0, .int .i64 w), (2, .fn f caps)], [(2, .box 24 [.int .i64 w, .int .i64 h, .own 1]), (0, .box 24 [.int .i64 0, .int .i64 0, .nilS]), (1, .row 4 (.bools (rowsOf w q (y * w + x) ++ List.replicate (n - (y * w + x)) false)))], 3⟩) (fun x => x ≤ w) (fun x => w - x) 0 ?_ (Nat.zero_le _) fun x hx => ?_
    · refine Ent.auto0 rfl ?_ ?_ <;> simp only [go_sem, reduceCtorEq, reduceIte, Nat.reduceEqDiff, Nat.reduceLT, Nat.reduceLeDiff, Int.natCast_succ, Nat.add_zero]
    (repeat' first | with_reducible (first | intro _ | refine rc ?_ | refine rl ?_ | refine rh ?_ | refine rt ?_ | refine rf ?_ | refine rs ?_ | refine And.intro ?_ ?_) | omega | simp (maxSteps := 1000000) only [go_sem, simprocAttr, ↓reduceIte])
    · have hb : y * w ≤ 4000 * 4000 := Nat.mul_le_mul (by omega) hw
      refine VcDraw.lex [12] [] (by kernel_rfl) (by kernel_rfl) ?_
      (repeat' first | with_reducible (first | intro _ | refine rc ?_ | refine rl ?_ | refine rh ?_ | refine rt ?_ | refine rf ?_ | refine rs ?_ | refine And.intro ?_ ?_) | omega | simp (maxSteps := 1000000) only [go_sem, simprocAttr, ↓reduceIte, up_mul, up_add])
      refine QV.intro (.bool (q x y)) ?_ ?_
      · (repeat' first | with_reducible (first | intro _ | refine rc ?_ | refine rl ?_ | refine rh ?_ | refine rt ?_ | refine rf ?_ | refine rs ?_ | refine And.intro ?_ ?_) | omega | simp (maxSteps := 1000000) only [go_sem, simprocAttr, ↓reduceIte])
        refine VcCall.fr (args' := [.int .i64 x, .int .i64 y] ++ caps) (hq x y (by omega) (by omega)) (by simp [argOkL, allOk, argOkN, allOk_caps]) 0 rfl (by simp [rowsB]) ?_
        (repeat' first | with_reducible (first | intro _ | refine rc ?_ | refine rl ?_ | refine rh ?_ | refine rt ?_ | refine rf ?_ | refine rs ?_ | refine And.intro ?_ ?_) | omega | simp (maxSteps := 1000000) only [go_sem, simprocAttr, ↓reduceIte])
      · have hl := hlt x y (by omega) (by omega)
        have hs := set_range (n := n) (fun k => q (k % w) (k / w)) false hl
        have hr := rowsOf_len w q (y * w + x)
        have e1 : (y * w + x) % w = x := by rw [Nat.mul_comm, Nat.mul_add_mod, Nat.mod_eq_of_lt (by omega)]
        have e2 : (y * w + x) / w = y := by rw [Nat.mul_comm, Nat.mul_add_div (by omega), Nat.div_eq_of_lt (by omega), Nat.add_zero]
        rw [e1, e2] at hs
        (repeat' first | with_reducible (first | intro _ | refine rc ?_ | refine rl ?_ | refine rh ?_ | refine rt ?_ | refine rf ?_ | refine rs ?_ | refine And.intro ?_ ?_) | omega | simp (maxSteps := 1000000) only [go_sem, simprocAttr, ↓reduceIte, up_mul, up_add, Int.toNat_natCast, List.length_append, List.length_replicate, hr])
        refine ⟨x + 1, Ent.auto0 rfl ?_ ?_, by omega, by omega⟩ <;> simp only [go_sem, reduceCtorEq, reduceIte, Nat.reduceEqDiff, Nat.reduceLT, Nat.reduceLeDiff, Int.natCast_succ]
        all_goals first | rfl | exact hs
    · refine ⟨y + 1, Ent.auto0 rfl ?_ ?_, by omega, by omega⟩ <;> simp only [go_sem, reduceCtorEq, reduceIte, Nat.reduceEqDiff, Nat.reduceLT, Nat.reduceLeDiff, Int.natCast_succ]
      have e : x = w := by omega
      all_goals first | rfl | rw [e, Nat.succ_mul]
  · have e : y = h := by omega
    subst e
    subst hn
    refine Ret.auto 1 ?_ rfl ?_ <;> simp only [go_sem, reduceCtorEq, reduceIte, Nat.reduceEqDiff, Nat.reduceLT, Nat.reduceLeDiff, Int.natCast_succ, Post, List.drop_zero, Nat.sub_self, List.replicate_zero, List.append_nil]
    all_goals simp (maxSteps := 1000000) only [go_sem, simprocAttr, ↓reduceIte]

set_option maxHeartbeats 1000000 in
theorem cut1_ok (w h X Y W H : Nat) (hw : w ≤ 4000) (hh : h ≤ 4000) (p : List Bool) (hp : p.length = w * h) (hX : X + W ≤ w) (hY : Y + H ≤ h) (x y : Nat) (hx : x < W) (hy : y < H) :
    FnOk Tryz.prog 71 [.int .i64 x, .int .i64 y, .cell [.int .i64 w, .int .i64 h, .ro (.bools p)], .cell [.int .i64 X, .int .i64 Y, .int .i64 W, .int .i64 H]] (.bool (cutAt p w X Y x y)) [] := by
  have b1 : (Y + y) * w + w ≤ h * w := by rw [← Nat.succ_mul]; exact Nat.mul_le_mul_right _ (by omega)
  have b2 : h * w ≤ 4000 * 4000 := Nat.mul_le_mul hh hw
  have b3 : w * h = h * w := Nat.mul_comm _ _
  refine FnOk.of_vc Tryz.func71 rfl (by decide) (by simp [Tryz.f71]) [.tmp 6] rfl fun w0 T0 _ => ?_
  simp only [Tryz.f71, argEnv]
  (repeat' first | with_reducible (first | intro _ | refine rc ?_ | refine rl ?_ | refine rh ?_ | refine rt ?_ | refine rf ?_ | refine rs ?_ | refine And.intro ?_ ?_) | omega | simp (maxSteps := 1000000) only [go_sem, simprocAttr, ↓reduceIte, up_mul, up_add, Int.toNat_natCast])
  refine Ret.auto 0 ?_ rfl ?_ <;> simp only [go_sem, reduceCtorEq, reduceIte, Nat.reduceEqDiff, Nat.reduceLT, Nat.reduceLeDiff, Int.natCast_succ, Post, cutAt]

set_option maxHeartbeats 2000000 in
theorem cut_ok (w h X Y W H : Nat) (hw1 : 1 ≤ w) (hw : w ≤ 4000) (hh1 : 1 ≤ h) (hh : h ≤ 4000) (hwh : w * h ≤ 1048576) (p : List Bool) (hp : p.length = w * h) (hW : 1 ≤ W) (hH : 1 ≤ H) (hX : X + W ≤ w) (hY : Y + H ≤ h) :
    FnOk Tryz.prog 39 [.agg [.int .i64 w, .int .i64 h, .ro (.bools p)], .agg [.int .i64 X, .int .i64 Y, .int .i64 W, .int .i64 H]] (.tup [.agg [.int .i64 W, .int .i64 H, .own 0], .int .i64 0]) [(0, .row 4 (.bools (rowsOf W (cutAt p w X Y) (H * W))))] := by
  haveI c1 : CapsOk [.cell [.int .i64 w, .int .i64 h, .ro (.bools p)], .cell [.int .i64 X, .int .i64 Y, .int .i64 W, .int .i64 H]] := ⟨rfl⟩
  have k1 := pageMade_ok W H (by omega) (by omega) 71 [.cell [.int .i64 w, .int .i64 h, .ro (.bools p)], .cell [.int .i64 X, .int .i64 Y, .int .i64 W, .int .i64 H]] (cutAt p w X Y)
    (fun x y hx hy => FnFr.of_ok (cut1_ok w h X Y W H (by omega) (by omega) p hp hX hY x y hx hy) rfl rfl)
  generalize rowsOf W (cutAt p w X Y) (H * W) = out at *
  refine FnOk.of_vc Tryz.func39 rfl (by decide) (by simp [Tryz.f39]) [.cell 4 24, .tmp 5] rfl fun w0 T0 _ => ?_
  simp only [Tryz.f39, argEnv]
  (repeat' first | with_reducible (first | intro _ | refine rc ?_ | refine rl ?_ | refine rh ?_ | refine rt ?_ | refine rf ?_ | refine rs ?_ | refine And.intro ?_ ?_) | omega | simp (maxSteps := 1000000) only [go_sem, simprocAttr, ↓reduceIte])
  refine VcCall.k (checkBoth_ok w h X Y W H hw1 hw hh1 hh hwh p hp hW hH hX hY) ?_
  (repeat' first | with_reducible (first | intro _ | refine rc ?_ | refine rl ?_ | refine rh ?_ | refine rt ?_ | refine rf ?_ | refine rs ?_ | refine And.intro ?_ ?_) | omega | simp (maxSteps := 1000000) only [go_sem, simprocAttr, ↓reduceIte])
  refine VcCall.fr (FnFr.of_ok k1 rfl rfl) (by simp only [noIdR_ok, argOkL, argOk, allOk, argOkN, List.drop_zero, lk, reduceIte, reduceCtorEq, Nat.reduceEqDiff, Option.some.injEq, Item.row.injEq, Item.box.injEq, AV.ro.injEq, exists_eq_left, exists_and_left, exists_eq_left', exists_eq_right, and_assoc, and_true, true_and, List.cons.injEq, exists_eq', exists_eq]) 1 rfl (by simp [rowsB, Item.below, Fv.below, belowL]) ?_
  (repeat' first | with_reducible (first | intro _ | refine rc ?_ | refine rl ?_ | refine rh ?_ | refine rt ?_ | refine rf ?_ | refine rs ?_ | refine And.intro ?_ ?_) | omega | simp (maxSteps := 1000000) only [go_sem, simprocAttr, ↓reduceIte])
  refine Ret.auto 1 ?_ rfl ?_ <;> simp only [go_sem, reduceCtorEq, reduceIte, Nat.reduceEqDiff, Nat.reduceLT, Nat.reduceLeDiff, Int.natCast_succ, Post, List.drop_zero]
  all_goals simp (maxSteps := 1000000) only [go_sem, simprocAttr, ↓reduceIte]

set_option maxHeartbeats 2000000 in
theorem inkOf_ok (w h X Y W H : Nat) (hw : w ≤ 4000) (hh : h ≤ 4000) (p : List Bool) (hp : p.length = w * h) (hX : X + W ≤ w) (hY : Y + H ≤ h) :
    FnOk Tryz.prog 16 [.agg [.int .i64 w, .int .i64 h, .ro (.bools p)], .agg [.int .i64 X, .int .i64 Y, .int .i64 W, .int .i64 H]] (.int .i64 (inkN p w X Y W H)) [] := by
  rw [← inkN_eq]
  refine FnOk.of_vc Tryz.func16 rfl (by decide) (by simp [Tryz.f16]) [.tmp 4] rfl fun w0 T0 _ => ?_
  simp only [Tryz.f16, argEnv]
  (repeat' first | with_reducible (first | intro _ | refine rc ?_ | refine rl ?_ | refine rh ?_ | refine rt ?_ | refine rf ?_ | refine rs ?_ | refine And.intro ?_ ?_) | omega | simp (maxSteps := 1000000) only [go_sem, simprocAttr, ↓reduceIte])
  refine VcLoop.intro (fun j : Nat => ⟨37, [(6, .int .i64 (Y + j : Nat)), (5, .int .i64 (boxL (inkV p) w Y X W j).sum), (2, .ptr 0 0), (3, .ptr 1 0)], [(0, .box 24 [.int .i64 w, .int .i64 h, .ro (.bools p)]), (1, .box 26 [.int .i64 X, .int .i64 Y, .int .i64 W, .int .i64 H])], 2⟩) (fun j => j ≤ H) (fun j => H - j) 0 ?_ (Nat.zero_le _) fun j hj => ?_
  · refine Ent.auto0 rfl ?_ ?_ <;> simp only [go_sem, reduceCtorEq, reduceIte, Nat.reduceEqDiff, Nat.reduceLT, Nat.reduceLeDiff, Int.natCast_succ, Nat.add_zero, boxL, List.sum_nil]
  have b1 := box_bd p w Y X W j
  have b2 : j * W ≤ 4000 * 4000 := Nat.mul_le_mul (by omega) (by omega)
  (repeat' first | with_reducible (first | intro _ | refine rc ?_ | refine rl ?_ | refine rh ?_ | refine rt ?_ | refine rf ?_ | refine rs ?_ | refine And.intro ?_ ?_) | omega | simp (maxSteps := 1000000) only [go_sem, simprocAttr, ↓reduceIte])
  · refine VcLoop.intro (fun i : Nat => ⟨37, [(7, .int .i64 (X + i : Nat)), (6, .int .i64 (Y + j : Nat)), (5, .int .i64 ((boxL (inkV p) w Y X W j).sum + (segL (inkV p) w (Y + j) X i).sum)), (2, .ptr 0 0), (3, .ptr 1 0)], [(0, .box 24 [.int .i64 w, .int .i64 h, .ro (.bools p)]), (1, .box 26 [.int .i64 X, .int .i64 Y, .int .i64 W, .int .i64 H])], 2⟩) (fun i => i ≤ W) (fun i => W - i) 0 ?_ (Nat.zero_le _) fun i hi => ?_
    · refine Ent.auto0 rfl ?_ ?_ <;> simp only [go_sem, reduceCtorEq, reduceIte, Nat.reduceEqDiff, Nat.reduceLT, Nat.reduceLeDiff, Int.natCast_succ, Nat.add_zero, segL, List.range_zero, List.map_nil, List.sum_nil]
      omega
    have b3 := seg_bd p w (Y + j) X i
    (repeat' first | with_reducible (first | intro _ | refine rc ?_ | refine rl ?_ | refine rh ?_ | refine rt ?_ | refine rf ?_ | refine rs ?_ | refine And.intro ?_ ?_) | omega | simp (maxSteps := 1000000) only [go_sem, simprocAttr, ↓reduceIte])
    · have k := refAt_ok w h (by omega) (by omega) p hp (X + i : Nat) (Y + j : Nat)
      rw [atB_in p (by omega) (by omega)] at k
      have hs : (segL (inkV p) w (Y + j) X (i + 1)).sum = (segL (inkV p) w (Y + j) X i).sum + b2i (p.getD ((Y + j) * w + (X + i)) false) := by rw [segL_succ, List.sum_append]; simp [inkV, b2i]
      refine VcCall.k k ?_
      generalize p.getD ((Y + j) * w + (X + i)) false = c at *
      cases c with
      | true =>
        (repeat' first | with_reducible (first | intro _ | refine rc ?_ | refine rl ?_ | refine rh ?_ | refine rt ?_ | refine rf ?_ | refine rs ?_ | refine And.intro ?_ ?_) | omega | simp (maxSteps := 1000000) only [go_sem, simprocAttr, ↓reduceIte])
        refine ⟨i + 1, Ent.auto0 rfl ?_ ?_, by omega, by omega⟩ <;> simp only [go_sem, reduceCtorEq, reduceIte, Nat.reduceEqDiff, Nat.reduceLT, Nat.reduceLeDiff, Int.natCast_succ]
        rw [hs]
        exact ⟨by omega, by simp only [b2i, reduceIte]; omega⟩
      | false =>
        (repeat' first | with_reducible (first | intro _ | refine rc ?_ | refine rl ?_ | refine rh ?_ | refine rt ?_ | refine rf ?_ | refine rs ?_ | refine And.intro ?_ ?_) | omega | simp (maxSteps := 1000000) only [go_sem, simprocAttr, ↓reduceIte])
        refine ⟨i + 1, Ent.auto0 rfl ?_ ?_, by omega, by omega⟩ <;> simp only [go_sem, reduceCtorEq, reduceIte, Nat.reduceEqDiff, Nat.reduceLT, Nat.reduceLeDiff, Int.natCast_succ]
        rw [hs]
        exact ⟨by omega, by simp [b2i]⟩
    · have e : i = W := by omega
      subst e
      refine ⟨j + 1, Ent.auto0 rfl ?_ ?_, by omega, by omega⟩ <;> simp only [go_sem, reduceCtorEq, reduceIte, Nat.reduceEqDiff, Nat.reduceLT, Nat.reduceLeDiff, Int.natCast_succ, boxL, List.sum_append]
      omega
  · have e : j = H := by omega
    subst e
    refine Ret.auto 0 ?_ rfl ?_ <;> simp only [go_sem, reduceCtorEq, reduceIte, Nat.reduceEqDiff, Nat.reduceLT, Nat.reduceLeDiff, Int.natCast_succ, Post]
end Go.Fv.Q

namespace Go.Fv.Q
open Go Go.Proofs
set_option linter.unusedSimpArgs false
set_option linter.unusedVariables false
set_option maxRecDepth 8000
/-- The first place where something holds, or -1. -/
def firstAt {α : Type} (q : α → Bool) : List α → Nat → Int
  | [], _ => -1
  | x :: l, i => if q x = true then i else firstAt q l (i + 1)
theorem firstAt_any {α : Type} (q : α → Bool) : ∀ (l : List α) (i : Nat), (0 ≤ firstAt q l i) ↔ l.any q = true
  | [], i => by simp [firstAt]
  | x :: l, i => by
    simp only [firstAt, List.any_cons]
    split
    · rename_i h; simp [h]
    · rename_i h; simp [h, firstAt_any q l (i + 1)]
theorem drop_at {α : Type} (l : List α) (d : α) {i : Nat} (h : i < l.length) : l.drop i = l.getD i d :: l.drop (i + 1) := by
  rw [List.drop_eq_getElem_cons h, getD_lt h]
end Go.Fv.Q

/- slices.IndexFunc and ContainsFunc of integers. -/
namespace Go.Fv.Q
open Go Go.Proofs
set_option linter.unusedSimpArgs false
set_option linter.unusedVariables false
set_option maxRecDepth 8000
set_option maxHeartbeats 1000000 in
theorem indexFuncI_ok (l : List Int) (f : Nat) (caps : List AV) [CapsOk caps] (q : Int → Bool) (hq : ∀ x : Int, x ∈ l → FnFr Tryz.prog f ([.int .i64 x] ++ caps) (.bool (q x)) []) :
    FnOk Tryz.prog 110 [.ro (.ints .i64 l), .fn f caps] (.int .i64 (firstAt q l 0)) [] := by
  refine FnOk.of_vc Tryz.func110 rfl (by decide) (by simp [Tryz.f110]) [.tmp 4] rfl fun w0 T0 _ => ?_
  simp only [Tryz.f110, argEnv]
  (repeat' first | with_reducible (first | intro _ | refine rc ?_ | refine rl ?_ | refine rh ?_ | refine rt ?_ | refine rf ?_ | refine rs ?_ | refine And.intro ?_ ?_) | omega | simp (maxSteps := 1000000) only [go_sem, simprocAttr, ↓reduceIte, List.length_map])
  refine VcLoop.intro (fun i : Nat => ⟨19, [(0, .ro (.ints .i64 l)), (1, .fn f caps), (7, .int .i64 l.length), (8, .int .i64 i)], [], 0⟩) (fun i => i ≤ l.length ∧ firstAt q (l.drop i) i = firstAt q l 0) (fun i => l.length - i) 0 ?_ ⟨Nat.zero_le _, rfl⟩ fun i hI => ?_
  · refine Ent.auto0 rfl ?_ ?_ <;> simp only [go_sem, reduceCtorEq, reduceIte, Nat.reduceEqDiff, Nat.reduceLT, Nat.reduceLeDiff, Int.natCast_succ]
  obtain ⟨hl, hI⟩ := hI
  by_cases hlt : i < l.length
  · have he := trivial
    have hd := drop_at l 0 hlt
    rw [hd, firstAt] at hI
    (repeat' first | with_reducible (first | intro _ | refine rc ?_ | refine rl ?_ | refine rh ?_ | refine rt ?_ | refine rf ?_ | refine rs ?_ | refine And.intro ?_ ?_) | omega | simp (maxSteps := 1000000) only [go_sem, simprocAttr, ↓reduceIte, List.length_map, true_and])
    refine VcCall.fr (args' := [.int .i64 (l.getD i 0)] ++ caps) (hq _ (by rw [getD_lt hlt]; exact List.getElem_mem hlt)) (by simp [argOkL, allOk, argOkN, allOk_caps]) 0 rfl (by simp [rowsB]) ?_
    (repeat' first | with_reducible (first | intro _ | refine rc ?_ | refine rl ?_ | refine rh ?_ | refine rt ?_ | refine rf ?_ | refine rs ?_ | refine And.intro ?_ ?_) | omega | simp (maxSteps := 1000000) only [go_sem, simprocAttr, ↓reduceIte])
    · rename_i h2
      rw [if_pos h2] at hI
      refine Ret.auto 0 ?_ rfl ?_ <;> simp only [go_sem, reduceCtorEq, reduceIte, Nat.reduceEqDiff, Nat.reduceLT, Nat.reduceLeDiff, Int.natCast_succ, Post]
      rw [← hI]
    · rename_i h2
      rw [if_neg (by rw [h2]; exact Bool.false_ne_true)] at hI
      refine ⟨i + 1, Ent.auto0 rfl ?_ ?_, ⟨by omega, hI⟩, by omega⟩ <;> simp only [go_sem, reduceCtorEq, reduceIte, Nat.reduceEqDiff, Nat.reduceLT, Nat.reduceLeDiff, Int.natCast_succ]
      all_goals rfl
  · have e : i = l.length := by omega
    subst e
    rw [List.drop_length] at hI
    (repeat' first | with_reducible (first | intro _ | refine rc ?_ | refine rl ?_ | refine rh ?_ | refine rt ?_ | refine rf ?_ | refine rs ?_ | refine And.intro ?_ ?_) | omega | simp (maxSteps := 1000000) only [go_sem, simprocAttr, ↓reduceIte, List.length_map])
    refine Ret.auto 0 ?_ rfl ?_ <;> simp only [go_sem, reduceCtorEq, reduceIte, Nat.reduceEqDiff, Nat.reduceLT, Nat.reduceLeDiff, Int.natCast_succ, Post]
    rw [← hI]; rfl

theorem contFuncI_ok (l : List Int) (f : Nat) (caps : List AV) [CapsOk caps] (q : Int → Bool) (hq : ∀ s : Int, s ∈ l → FnFr Tryz.prog f ([.int .i64 s] ++ caps) (.bool (q s)) []) :
    FnOk Tryz.prog 77 [.ro (.ints .i64 l), .fn f caps] (.bool (l.any q)) [] := by
  have k := indexFuncI_ok l f caps q hq
  have e : l.any q = decide (0 ≤ firstAt q l 0) := by rw [Bool.eq_iff_iff, decide_eq_true_eq, firstAt_any]
  rw [e]
  refine FnOk.of_vc Tryz.func77 rfl (by decide) (by simp [Tryz.f77]) [.tmp 4] rfl fun w0 T0 _ => ?_
  simp only [Tryz.f77, argEnv]
  (repeat' first | with_reducible (first | intro _ | refine rc ?_ | refine rl ?_ | refine rh ?_ | refine rt ?_ | refine rf ?_ | refine rs ?_ | refine And.intro ?_ ?_) | omega | simp (maxSteps := 1000000) only [go_sem, simprocAttr, ↓reduceIte])
  refine VcCall.fr (args' := [.ro (.ints .i64 l), .fn f caps]) (FnFr.of_ok k rfl rfl) (by simp [argOkL, allOk, argOkN, allOk_caps5]) 0 rfl (by simp [rowsB]) ?_
  (repeat' first | with_reducible (first | intro _ | refine rc ?_ | refine rl ?_ | refine rh ?_ | refine rt ?_ | refine rf ?_ | refine rs ?_ | refine And.intro ?_ ?_) | omega | simp (maxSteps := 1000000) only [go_sem, simprocAttr, ↓reduceIte])
  refine Ret.auto 0 ?_ rfl ?_ <;> simp only [go_sem, reduceCtorEq, reduceIte, Nat.reduceEqDiff, Nat.reduceLT, Nat.reduceLeDiff, Int.natCast_succ, Post]
end Go.Fv.Q

/-! The reference's bounds of the ink of a page: the walk. -/
namespace Go.Fv.Q
open Go Go.Proofs
set_option linter.unusedSimpArgs false
set_option linter.unusedVariables false
set_option linter.unnecessarySimpa false
set_option maxRecDepth 8000

theorem firstAt_is {q : Int → Bool} : ∀ (l : List Int) (i k : Nat), k < l.length → (∀ j, j < k → q (l.getD j 0) = false) → q (l.getD k 0) = true → firstAt q l i = ((i + k : Nat) : Int)
  | x :: l, i, 0, _, _, h => by
    unfold firstAt; rw [if_pos (by simpa using h)]; simp
  | x :: l, i, k + 1, hk, hn, h => by
    have h0 := hn 0 (by omega)
    unfold firstAt
    rw [if_neg (by simp at h0; simp [h0])]
    rw [firstAt_is l (i + 1) k (by simpa using hk) (fun j hj => by have := hn (j + 1) (by omega); simpa using this) (by simpa using h)]
    congr 1; omega
theorem firstAt_not {q : Int → Bool} : ∀ (l : List Int) (i : Nat), (∀ x, x ∈ l → q x = false) → firstAt q l i = -1
  | [], _, _ => rfl
  | x :: l, i, h => by
    unfold firstAt
    rw [if_neg (by simp [h x (.head _)])]
    exact firstAt_not l (i + 1) fun y hy => h y (.tail _ hy)
def natL (g : Nat → Nat) (n : Nat) : List Int := (List.range n).map fun i => ((g i : Nat) : Int)
theorem natL_len (g : Nat → Nat) (n : Nat) : (natL g n).length = n := by simp [natL]
theorem natL_get (g : Nat → Nat) {n i : Nat} (h : i < n) : (natL g n).getD i 0 = g i := range_getD (fun i => ((g i : Nat) : Int)) h
theorem natL_succ (g : Nat → Nat) (n : Nat) : natL g (n + 1) = natL g n ++ [(g n : Int)] := by
  unfold natL; rw [List.range_succ, List.map_append]; rfl
theorem refCut1_ok (w h : Nat) (hw : w ≤ 4000) (hh : h ≤ 4000) (p : List Bool) (hp : p.length = w * h) (b : Nb) (hX : b.x + b.w ≤ w) (hY : b.y + b.h ≤ h) (x y : Nat) (hx : x < b.w) (hy : y < b.h) :
    FnOk Tryz.prog 67 [.int .i64 x, .int .i64 y, .cell [.int .i64 w, .int .i64 h, .ro (.bools p)], .cell b.av] (.bool (cutAt p w b.x b.y x y)) [] := by
  have k := refAt_ok w h hw hh p hp ((b.x + x : Nat) : Int) ((b.y + y : Nat) : Int)
  rw [atB_in p (by omega) (by omega)] at k
  rw [show cutAt p w b.x b.y x y = p.getD ((b.y + y) * w + (b.x + x)) false by unfold cutAt; rw [Nat.add_assoc]]
  generalize p.getD ((b.y + y) * w + (b.x + x)) false = q at *
  rw [Int.natCast_add, Int.natCast_add] at k
  unfold Nb.av
  refine FnOk.of_vc Tryz.func67 rfl (by decide) (by simp [Tryz.f67]) [.tmp 6] rfl fun w0 T0 _ => ?_
  simp only [Tryz.f67, argEnv]
  (repeat' first | with_reducible (first | intro _ | refine rc ?_ | refine rl ?_ | refine rh ?_ | refine rt ?_ | refine rf ?_ | refine rs ?_ | refine And.intro ?_ ?_) | omega | simp (maxSteps := 1000000) only [go_sem, simprocAttr, ↓reduceIte])
  refine VcCall.k (k) ?_
  (repeat' first | with_reducible (first | intro _ | refine rc ?_ | refine rl ?_ | refine rh ?_ | refine rt ?_ | refine rf ?_ | refine rs ?_ | refine And.intro ?_ ?_) | omega | simp (maxSteps := 1000000) only [go_sem, simprocAttr, ↓reduceIte])
  refine Ret.auto 0 ?_ rfl ?_ <;> simp only [go_sem, reduceCtorEq, reduceIte, Nat.reduceEqDiff, Nat.reduceLT, Nat.reduceLeDiff, Int.natCast_succ, Post]
def cutP (p : List Bool) (w : Nat) (b : Nb) : List Bool := rowsOf b.w (cutAt p w b.x b.y) (b.h * b.w)
instance (w h : Nat) (p : List Bool) (b : Nb) : CapsOk [.cell [.int .i64 w, .int .i64 h, .ro (.bools p)], .cell b.av] := ⟨by simp [Nb.av, lendB]⟩
set_option maxHeartbeats 2000000 in
theorem refCut_ok (w h : Nat) (hw : w ≤ 4000) (hh : h ≤ 4000) (p : List Bool) (hp : p.length = w * h) (b : Nb) (hX : b.x + b.w ≤ w) (hY : b.y + b.h ≤ h) :
    FnOk Tryz.prog 35 [.agg [.int .i64 w, .int .i64 h, .ro (.bools p)], .agg b.av] (.agg [.int .i64 b.w, .int .i64 b.h, .own 0]) [(0, .row 4 (.bools (cutP p w b)))] := by
  have k := made_ok b.w b.h (by omega) (by omega) 67 [.cell [.int .i64 w, .int .i64 h, .ro (.bools p)], .cell b.av] (cutAt p w b.x b.y) fun x y hx hy => FnFr.of_ok (refCut1_ok w h hw hh p hp b hX hY x y hx hy) rfl rfl
  unfold cutP
  generalize rowsOf b.w (cutAt p w b.x b.y) (b.h * b.w) = q at *
  obtain ⟨x, y, W, H⟩ := b
  unfold Nb.av at *
  dsimp only at *
  refine FnOk.of_vc Tryz.func35 rfl (by decide) (by simp [Tryz.f35]) [.cell 4 24] rfl fun w0 T0 _ => ?_
  simp only [Tryz.f35, argEnv]
  (repeat' first | with_reducible (first | intro _ | refine rc ?_ | refine rl ?_ | refine rh ?_ | refine rt ?_ | refine rf ?_ | refine rs ?_ | refine And.intro ?_ ?_) | omega | simp (maxSteps := 1000000) only [go_sem, simprocAttr, ↓reduceIte])
  refine VcCall.fr (FnFr.of_ok k rfl rfl) (by simp only [noIdR_ok, argOkL, argOk, allOk, argOkN, List.drop_zero, lk, reduceIte, reduceCtorEq, Nat.reduceEqDiff, Option.some.injEq, Item.row.injEq, Item.box.injEq, AV.ro.injEq, exists_eq_left, exists_and_left, exists_eq_left', exists_eq_right, and_assoc, and_true, true_and, List.cons.injEq, exists_eq', exists_eq]) 1 rfl (by simp [rowsB, Item.below, Fv.below, belowR]) ?_
  (repeat' first | with_reducible (first | intro _ | refine rc ?_ | refine rl ?_ | refine rh ?_ | refine rt ?_ | refine rf ?_ | refine rs ?_ | refine And.intro ?_ ?_) | omega | simp (maxSteps := 1000000) only [go_sem, simprocAttr, ↓reduceIte])
  refine Ret.auto 1 ?_ rfl ?_ <;> simp only [go_sem, reduceCtorEq, reduceIte, Nat.reduceEqDiff, Nat.reduceLT, Nat.reduceLeDiff, Int.natCast_succ, Post]
set_option maxHeartbeats 2000000 in
theorem columnsOf_ok (w h : Nat) (hw : w ≤ 4000) (hh : h ≤ 4000) (p : List Bool) (hp : p.length = w * h) :
    FnOk Tryz.prog 37 [.agg [.int .i64 w, .int .i64 h, .ro (.bools p)]] (.own 0) [(0, .row 3 (.ints .i64 (natL (fun i => inkN p w i 0 1 h) w)))] := by
  refine FnOk.of_vc Tryz.func37 rfl (by decide) (by simp [Tryz.f37]) [.tmp 2] rfl fun w0 T0 _ => ?_
  simp only [Tryz.f37, argEnv]
  (repeat' first | with_reducible (first | intro _ | refine rc ?_ | refine rl ?_ | refine rh ?_ | refine rt ?_ | refine rf ?_ | refine rs ?_ | refine And.intro ?_ ?_) | omega | simp (maxSteps := 1000000) only [go_sem, simprocAttr, ↓reduceIte])
  refine VcLoop.intro (fun i : Nat => ⟨21, [(7, .int .i64 i), (6, .int .i64 w), (3, .own 0), (1, .ptr 1 0)], [(0, .row 3 (.ints .i64 (natL (fun i => inkN p w i 0 1 h) i))), (1, .box 24 [.int .i64 w, .int .i64 h, .ro (.bools p)])], 2⟩) (fun i => i ≤ w) (fun i => w - i) 0 ?_ (Nat.zero_le _) fun i hi => ?_
  · refine Ent.auto0 rfl ?_ ?_ <;> simp only [go_sem, reduceCtorEq, reduceIte, Nat.reduceEqDiff, Nat.reduceLT, Nat.reduceLeDiff, Int.natCast_succ, natL, List.range_zero, List.map_nil]
  (repeat' first | with_reducible (first | intro _ | refine rc ?_ | refine rl ?_ | refine rh ?_ | refine rt ?_ | refine rf ?_ | refine rs ?_ | refine And.intro ?_ ?_) | omega | simp (maxSteps := 1000000) only [go_sem, simprocAttr, ↓reduceIte])
  · have k : FnOk Tryz.prog 16 [.agg [.int .i64 w, .int .i64 h, .ro (.bools p)], .agg [.int .i64 i, .int .i64 0, .int .i64 1, .int .i64 h]] (.int .i64 (inkN p w i 0 1 h)) [] := inkOf_ok w h i 0 1 h hw hh p hp (by omega) (by omega)
    have hs := natL_succ (fun i => inkN p w i 0 1 h) i
    have hll := natL_len (fun i => inkN p w i 0 1 h) i
    generalize inkN p w i 0 1 h = n at *
    refine VcCall.k (k) ?_
    generalize natL (fun i => inkN p w i 0 1 h) i = l at *
    (repeat' first | with_reducible (first | intro _ | refine rc ?_ | refine rl ?_ | refine rh ?_ | refine rt ?_ | refine rf ?_ | refine rs ?_ | refine And.intro ?_ ?_) | omega | simp (maxSteps := 1000000) only [go_sem, simprocAttr, ↓reduceIte])
    refine ⟨i + 1, Ent.auto0 rfl ?_ ?_, by omega, by omega⟩ <;> simp only [go_sem, reduceCtorEq, reduceIte, Nat.reduceEqDiff, Nat.reduceLT, Nat.reduceLeDiff, Int.natCast_succ, hs]
  · have e : i = w := by omega
    subst e
    refine Ret.auto 1 ?_ rfl ?_ <;> simp only [go_sem, reduceCtorEq, reduceIte, Nat.reduceEqDiff, Nat.reduceLT, Nat.reduceLeDiff, Int.natCast_succ, Post]
set_option maxHeartbeats 2000000 in
theorem rowsOfP_ok (w h : Nat) (hw : w ≤ 4000) (hh : h ≤ 4000) (p : List Bool) (hp : p.length = w * h) :
    FnOk Tryz.prog 34 [.agg [.int .i64 w, .int .i64 h, .ro (.bools p)]] (.own 0) [(0, .row 3 (.ints .i64 (natL (fun i => inkN p w 0 i w 1) h)))] := by
  refine FnOk.of_vc Tryz.func34 rfl (by decide) (by simp [Tryz.f34]) [.tmp 2] rfl fun w0 T0 _ => ?_
  simp only [Tryz.f34, argEnv]
  (repeat' first | with_reducible (first | intro _ | refine rc ?_ | refine rl ?_ | refine rh ?_ | refine rt ?_ | refine rf ?_ | refine rs ?_ | refine And.intro ?_ ?_) | omega | simp (maxSteps := 1000000) only [go_sem, simprocAttr, ↓reduceIte])
  refine VcLoop.intro (fun i : Nat => ⟨21, [(7, .int .i64 i), (6, .int .i64 h), (3, .own 0), (1, .ptr 1 0)], [(0, .row 3 (.ints .i64 (natL (fun i => inkN p w 0 i w 1) i))), (1, .box 24 [.int .i64 w, .int .i64 h, .ro (.bools p)])], 2⟩) (fun i => i ≤ h) (fun i => h - i) 0 ?_ (Nat.zero_le _) fun i hi => ?_
  · refine Ent.auto0 rfl ?_ ?_ <;> simp only [go_sem, reduceCtorEq, reduceIte, Nat.reduceEqDiff, Nat.reduceLT, Nat.reduceLeDiff, Int.natCast_succ, natL, List.range_zero, List.map_nil]
  (repeat' first | with_reducible (first | intro _ | refine rc ?_ | refine rl ?_ | refine rh ?_ | refine rt ?_ | refine rf ?_ | refine rs ?_ | refine And.intro ?_ ?_) | omega | simp (maxSteps := 1000000) only [go_sem, simprocAttr, ↓reduceIte])
  · have k : FnOk Tryz.prog 16 [.agg [.int .i64 w, .int .i64 h, .ro (.bools p)], .agg [.int .i64 0, .int .i64 i, .int .i64 w, .int .i64 1]] (.int .i64 (inkN p w 0 i w 1)) [] := inkOf_ok w h 0 i w 1 hw hh p hp (by omega) (by omega)
    have hs := natL_succ (fun i => inkN p w 0 i w 1) i
    have hll := natL_len (fun i => inkN p w 0 i w 1) i
    generalize inkN p w 0 i w 1 = n at *
    refine VcCall.k (k) ?_
    generalize natL (fun i => inkN p w 0 i w 1) i = l at *
    (repeat' first | with_reducible (first | intro _ | refine rc ?_ | refine rl ?_ | refine rh ?_ | refine rt ?_ | refine rf ?_ | refine rs ?_ | refine And.intro ?_ ?_) | omega | simp (maxSteps := 1000000) only [go_sem, simprocAttr, ↓reduceIte])
    refine ⟨i + 1, Ent.auto0 rfl ?_ ?_, by omega, by omega⟩ <;> simp only [go_sem, reduceCtorEq, reduceIte, Nat.reduceEqDiff, Nat.reduceLT, Nat.reduceLeDiff, Int.natCast_succ, hs]
  · have e : i = h := by omega
    subst e
    refine Ret.auto 1 ?_ rfl ?_ <;> simp only [go_sem, reduceCtorEq, reduceIte, Nat.reduceEqDiff, Nat.reduceLT, Nat.reduceLeDiff, Int.natCast_succ, Post]
theorem ends1_ok (n : Int) : FnOk Tryz.prog 121 [.int .i64 n] (.bool (decide (0 < n))) [] := by
  refine FnOk.of_vc Tryz.func121 rfl (by decide) (by simp [Tryz.f121]) [.tmp 2] rfl fun w0 T0 _ => ?_
  simp only [Tryz.f121, argEnv]
  (repeat' first | with_reducible (first | intro _ | refine rc ?_ | refine rl ?_ | refine rh ?_ | refine rt ?_ | refine rf ?_ | refine rs ?_ | refine And.intro ?_ ?_) | omega | simp (maxSteps := 1000000) only [go_sem, simprocAttr, ↓reduceIte])
  refine Ret.auto 0 ?_ rfl ?_ <;> simp only [go_sem, reduceCtorEq, reduceIte, Nat.reduceEqDiff, Nat.reduceLT, Nat.reduceLeDiff, Int.natCast_succ, Post]
theorem endsNo_ok (g : Nat → Nat) (n : Nat) (h0 : ∀ i, i < n → g i = 0) : FnOk Tryz.prog 97 [.ro (.ints .i64 (natL g n))] (.tup [.int .i64 0, .int .i64 0, .bool false]) [] := by
  haveI c1 : CapsOk [] := ⟨rfl⟩
  have k := indexFuncI_ok (natL g n) 121 [] (fun x => decide (0 < x)) fun x _ => FnFr.of_ok (ends1_ok x) rfl rfl
  rw [firstAt_not _ 0 (fun x hx => by
    unfold natL at hx
    obtain ⟨i, hi, rfl⟩ := List.mem_map.1 hx
    rw [h0 i (List.mem_range.1 hi)]; rfl)] at k
  generalize natL g n = l at *
  refine FnOk.of_vc Tryz.func97 rfl (by decide) (by simp [Tryz.f97]) [.tmp 2, .tmp 3, .tmp 4] rfl fun w0 T0 _ => ?_
  simp only [Tryz.f97, argEnv]
  (repeat' first | with_reducible (first | intro _ | refine rc ?_ | refine rl ?_ | refine rh ?_ | refine rt ?_ | refine rf ?_ | refine rs ?_ | refine And.intro ?_ ?_) | omega | simp (maxSteps := 1000000) only [go_sem, simprocAttr, ↓reduceIte])
  refine VcCall.k (k) ?_
  (repeat' first | with_reducible (first | intro _ | refine rc ?_ | refine rl ?_ | refine rh ?_ | refine rt ?_ | refine rf ?_ | refine rs ?_ | refine And.intro ?_ ?_) | omega | simp (maxSteps := 1000000) only [go_sem, simprocAttr, ↓reduceIte])
  refine Ret.auto 0 ?_ rfl ?_ <;> simp only [go_sem, reduceCtorEq, reduceIte, Nat.reduceEqDiff, Nat.reduceLT, Nat.reduceLeDiff, Int.natCast_succ, Post]
set_option maxHeartbeats 2000000 in
theorem ends_ok (g : Nat → Nat) (n f l : Nat) (he : EndsAt g n f l) (hn : n ≤ 4000) : FnOk Tryz.prog 97 [.ro (.ints .i64 (natL g n))] (.tup [.int .i64 f, .int .i64 l, .bool true]) [] := by
  haveI c1 : CapsOk [] := ⟨rfl⟩
  have h1 := he.fl
  have h2 := he.ln
  have hll := natL_len g n
  have k := indexFuncI_ok (natL g n) 121 [] (fun x => decide (0 < x)) fun x _ => FnFr.of_ok (ends1_ok x) rfl rfl
  rw [firstAt_is (natL g n) 0 f (by omega) (fun j hj => by rw [natL_get g (by omega), he.lo j hj]; rfl) (by rw [natL_get g (by omega)]; have := he.atf; exact decide_eq_true (by omega)), Nat.zero_add] at k
  have hg : ∀ i, i < n → (natL g n).getD i 0 = g i := fun i hi => natL_get g hi
  generalize natL g n = L at *
  refine FnOk.of_vc Tryz.func97 rfl (by decide) (by simp [Tryz.f97]) [.tmp 2, .tmp 3, .tmp 4] rfl fun w0 T0 _ => ?_
  simp only [Tryz.f97, argEnv]
  (repeat' first | with_reducible (first | intro _ | refine rc ?_ | refine rl ?_ | refine rh ?_ | refine rt ?_ | refine rf ?_ | refine rs ?_ | refine And.intro ?_ ?_) | omega | simp (maxSteps := 1000000) only [go_sem, simprocAttr, ↓reduceIte])
  refine VcCall.k (k) ?_
  (repeat' first | with_reducible (first | intro _ | refine rc ?_ | refine rl ?_ | refine rh ?_ | refine rt ?_ | refine rf ?_ | refine rs ?_ | refine And.intro ?_ ?_) | omega | simp (maxSteps := 1000000) only [go_sem, simprocAttr, ↓reduceIte])
  refine VcLoop.intro (fun i : Nat => ⟨23, [(0, .ro (.ints .i64 L)), (5, .int .i64 f), (6, .int .i64 i)], [], 0⟩) (fun i => l ≤ i ∧ i < n) (fun i => i) (n - 1) ?_ ⟨by omega, by omega⟩ fun i hi => ?_
  · refine Ent.auto0 rfl ?_ ?_ <;> simp only [go_sem, reduceCtorEq, reduceIte, Nat.reduceEqDiff, Nat.reduceLT, Nat.reduceLeDiff, Int.natCast_succ]
    omega
  obtain ⟨hi1, hi2⟩ := hi
  have e := hg i hi2
  by_cases hil : i = l
  · subst hil
    have hne := he.atl
    (repeat' first | with_reducible (first | intro _ | refine rc ?_ | refine rl ?_ | refine rh ?_ | refine rt ?_ | refine rf ?_ | refine rs ?_ | refine And.intro ?_ ?_) | omega | simp (maxSteps := 1000000) only [go_sem, simprocAttr, ↓reduceIte, Int.toNat_natCast, e])
    refine Ret.auto 0 ?_ rfl ?_ <;> simp only [go_sem, reduceCtorEq, reduceIte, Nat.reduceEqDiff, Nat.reduceLT, Nat.reduceLeDiff, Int.natCast_succ, Post]
  · have hz := he.hi i (by omega) hi2
    rw [hz] at e
    (repeat' first | with_reducible (first | intro _ | refine rc ?_ | refine rl ?_ | refine rh ?_ | refine rt ?_ | refine rf ?_ | refine rs ?_ | refine And.intro ?_ ?_) | omega | simp (maxSteps := 1000000) only [go_sem, simprocAttr, ↓reduceIte, Int.toNat_natCast, e])
    refine ⟨i - 1, Ent.auto0 rfl ?_ ?_, ⟨by omega, by omega⟩, by omega⟩ <;> simp only [go_sem, reduceCtorEq, reduceIte, Nat.reduceEqDiff, Nat.reduceLT, Nat.reduceLeDiff, Int.natCast_succ]
    omega
end Go.Fv.Q

/-! Blocks, lines and words of a page, as data. -/
namespace Go.Fv.Q
open Go
set_option linter.unusedSimpArgs false
set_option linter.unusedVariables false

structure Ln where
  b : Nb
  base : Int
  ws : List Nb
def Ln.av (l : Ln) : List AV := [.int .i64 l.b.x, .int .i64 l.b.y, .int .i64 l.b.w, .int .i64 l.b.h, .int .i64 l.base, .ro (nbs l.ws)]
def Ln.zero : Ln := ⟨Nb.zero, 0, []⟩
abbrev lns (l : List Ln) : RowV := .objs 6 (l.map Ln.av)
instance : FNoId Ln.av := ⟨fun _ => rfl⟩
structure Bk where
  b : Nb
  ls : List Ln
def Bk.av (b : Bk) : List AV := [.int .i64 b.b.x, .int .i64 b.b.y, .int .i64 b.b.w, .int .i64 b.b.h, .ro (lns b.ls)]
def Bk.zero : Bk := ⟨Nb.zero, []⟩
abbrev bks (l : List Bk) : RowV := .objs 5 (l.map Bk.av)
instance : FNoId Bk.av := ⟨fun _ => rfl⟩
theorem ln_elem (l : List Ln) {i : Nat} (h : i < l.length) : (l.map Ln.av).getD i [] = [.int .i64 (l.getD i Ln.zero).b.x, .int .i64 (l.getD i Ln.zero).b.y, .int .i64 (l.getD i Ln.zero).b.w, .int .i64 (l.getD i Ln.zero).b.h, .int .i64 (l.getD i Ln.zero).base, .ro (nbs (l.getD i Ln.zero).ws)] := by
  rw [getD_lt (by simpa using h), getD_lt h, List.getElem_map]; rfl
theorem bk_elem (l : List Bk) {i : Nat} (h : i < l.length) : (l.map Bk.av).getD i [] = [.int .i64 (l.getD i Bk.zero).b.x, .int .i64 (l.getD i Bk.zero).b.y, .int .i64 (l.getD i Bk.zero).b.w, .int .i64 (l.getD i Bk.zero).b.h, .ro (lns (l.getD i Bk.zero).ls)] := by
  rw [getD_lt (by simpa using h), getD_lt h, List.getElem_map]; rfl
section
variable (p : List Bool) (w : Nat)
def lineGap (word : Nat) (l : Nb) : Nat := if word = 0 then (gapV (inkS p w l)).toNat else word
def lineWords (word : Nat) (l : Nb) : List Nb := (linesC p w l (lineGap p w word l)).map (wordBox p w l)
def layLn (word : Nat) (l : Nb) : Ln := ⟨l, lowOf (bots (cutP p w l) l.w l.h) + l.y, lineWords p w word l⟩
def blockLines (line : Nat) (b : Nb) : List Nb := (linesR p w b line).map (rowBox p w b)
def layBk (line word : Nat) (b : Nb) : Bk := ⟨b, (blockLines p w line b).map (layLn p w word)⟩
def layL (h gx gy line word : Nat) : List Bk := (cutL p w gx gy (w + h + 1) ⟨0, 0, w, h⟩).map (layBk p w line word)
/-- All words of a page. -/
def flatB (l : List Bk) : List Nb := l.flatMap fun b => b.ls.flatMap Ln.ws
theorem flat_lay (h gx gy line word : Nat) : flatB (layL p w h gx gy line word) = (cutL p w gx gy (w + h + 1) ⟨0, 0, w, h⟩).flatMap fun b => (blockLines p w line b).flatMap (lineWords p w word) := by
  unfold flatB layL
  rw [List.flatMap_map]
  congr 1
  funext b
  unfold layBk
  dsimp only
  rw [List.flatMap_map]
  rfl
theorem flat_cuts (h gx gy line word : Nat) : Cuts p w ⟨0, 0, w, h⟩ (flatB (layL p w h gx gy line word)) := by
  rw [flat_lay]
  refine Cuts.flat p w _ (cutL_spec p w gx gy (w + h + 1) ⟨0, 0, w, h⟩ (by dsimp only; omega)) fun b hb => ?_
  exact Cuts.flat p w _ (rows_cuts p w b line) fun l hl => words_cuts p w l _
end
end Go.Fv.Q

/-! Gaps out of their range: the walk. -/
namespace Go.Fv.Q
open Go Go.Proofs
set_option linter.unusedSimpArgs false
set_option linter.unusedVariables false
set_option maxRecDepth 8000

def gapBad (n : Int) : Bool := decide (n < 1 ∨ 4000 < n)
theorem badGap1_ok (n : Int) : FnOk Tryz.prog 78 [.int .i64 n] (.bool (gapBad n)) [] := by
  unfold gapBad
  refine FnOk.of_vc Tryz.func78 rfl (by decide) (by simp [Tryz.f78]) [.tmp 2] rfl fun w0 T0 _ => ?_
  simp only [Tryz.f78, argEnv]
  (repeat' first | with_reducible (first | intro _ | refine rc ?_ | refine rl ?_ | refine rh ?_ | refine rt ?_ | refine rf ?_ | refine rs ?_ | refine And.intro ?_ ?_) | omega | simp (maxSteps := 1000000) only [go_sem, simprocAttr, ↓reduceIte])
  all_goals refine Ret.auto 0 ?_ rfl ?_ <;> simp only [go_sem, reduceCtorEq, reduceIte, Nat.reduceEqDiff, Nat.reduceLT, Nat.reduceLeDiff, Int.natCast_succ, Post]
theorem badGap_ok (l : List Int) (hl : l.length ≤ 1000) : FnOk Tryz.prog 46 [.ro (.ints .i64 l)] (.bool (l.any gapBad)) [] := by
  haveI c1 : CapsOk [] := ⟨rfl⟩
  have k := contFuncI_ok l 78 [] gapBad (fun x _ => FnFr.of_ok (badGap1_ok x) rfl rfl)
  refine FnOk.of_vc Tryz.func46 rfl (by decide) (by simp [Tryz.f46]) [.tmp 2] rfl fun w0 T0 _ => ?_
  simp only [Tryz.f46, argEnv]
  (repeat' first | with_reducible (first | intro _ | refine rc ?_ | refine rl ?_ | refine rh ?_ | refine rt ?_ | refine rf ?_ | refine rs ?_ | refine And.intro ?_ ?_) | omega | simp (maxSteps := 1000000) only [go_sem, simprocAttr, ↓reduceIte])
  refine VcCall.k (k) ?_
  (repeat' first | with_reducible (first | intro _ | refine rc ?_ | refine rl ?_ | refine rh ?_ | refine rt ?_ | refine rf ?_ | refine rs ?_ | refine And.intro ?_ ?_) | omega | simp (maxSteps := 1000000) only [go_sem, simprocAttr, ↓reduceIte])
  refine Ret.auto 0 ?_ rfl ?_ <;> simp only [go_sem, reduceCtorEq, reduceIte, Nat.reduceEqDiff, Nat.reduceLT, Nat.reduceLeDiff, Int.natCast_succ, Post]
end Go.Fv.Q

namespace Go.Fv.Q
open Go Go.Proofs
set_option linter.unusedSimpArgs false
set_option linter.unusedVariables false
set_option maxRecDepth 8000

end Go.Fv.Q

/-! The arguments of Split: a box of a page and gaps. -/
namespace Go.Fv.Q
open Go Go.Proofs
set_option linter.unusedSimpArgs false
set_option linter.unusedVariables false
set_option maxRecDepth 8000

/-- A box that lies in a page. -/
def BoxIn (w h X Y W H : Int) : Prop := 1 ≤ W ∧ 1 ≤ H ∧ 0 ≤ X ∧ 0 ≤ Y ∧ X + W ≤ w ∧ Y + H ≤ h
instance (w h X Y W H : Int) : Decidable (BoxIn w h X Y W H) := inferInstanceAs (Decidable (_ ∧ _))
set_option maxHeartbeats 2000000 in
theorem inPageG_ok (w h : Nat) (hw1 : 1 ≤ w) (hw : w ≤ 4000) (hh1 : 1 ≤ h) (hh : h ≤ 4000) (X Y W H : Int) :
    FnOk Tryz.prog 95 [.agg [.int .i64 X, .int .i64 Y, .int .i64 W, .int .i64 H], .int .i64 w, .int .i64 h] (.int .i64 (if BoxIn w h X Y W H then 0 else 13)) [] := by
  refine FnOk.of_vc Tryz.func95 rfl (by decide) (by simp [Tryz.f95]) [.tmp 6] rfl fun w0 T0 _ => ?_
  simp only [Tryz.f95, argEnv]
  by_cases hb : BoxIn w h X Y W H
  · rw [if_pos hb]
    unfold BoxIn at hb
    (repeat' first | with_reducible (first | intro _ | refine rc ?_ | refine rl ?_ | refine rh ?_ | refine rt ?_ | refine rf ?_ | refine rs ?_ | refine And.intro ?_ ?_) | omega | simp (maxSteps := 1000000) only [go_sem, simprocAttr, ↓reduceIte])
    all_goals refine Ret.auto 0 ?_ rfl ?_ <;> simp only [go_sem, reduceCtorEq, reduceIte, Nat.reduceEqDiff, Nat.reduceLT, Nat.reduceLeDiff, Int.natCast_succ, Post]
  · rw [if_neg hb]
    unfold BoxIn at hb
    (repeat' first | with_reducible (first | intro _ | refine rc ?_ | refine rl ?_ | refine rh ?_ | refine rt ?_ | refine rf ?_ | refine rs ?_ | refine And.intro ?_ ?_) | omega | simp (maxSteps := 1000000) only [go_sem, simprocAttr, ↓reduceIte])
    all_goals refine Ret.auto 0 ?_ rfl ?_ <;> simp only [go_sem, reduceCtorEq, reduceIte, Nat.reduceEqDiff, Nat.reduceLT, Nat.reduceLeDiff, Int.natCast_succ, Post]
set_option maxHeartbeats 1000000 in
theorem checkBothG_ok (w h : Nat) (hw1 : 1 ≤ w) (hw : w ≤ 4000) (hh1 : 1 ≤ h) (hh : h ≤ 4000) (hwh : w * h ≤ 1048576) (p : List Bool) (hp : p.length = w * h) (X Y W H : Int) :
    FnOk Tryz.prog 58 [.agg [.int .i64 w, .int .i64 h, .ro (.bools p)], .agg [.int .i64 X, .int .i64 Y, .int .i64 W, .int .i64 H]] (.int .i64 (if BoxIn w h X Y W H then 0 else 13)) [] := by
  have k1 := checkBits_ok w h p
  rw [bitsErr_ok hw1 hw hh1 hh hwh hp] at k1
  have k2 := inPageG_ok w h hw1 hw hh1 hh X Y W H
  generalize (if BoxIn w h X Y W H then (0 : Int) else 13) = e at *
  refine FnOk.of_vc Tryz.func58 rfl (by decide) (by simp [Tryz.f58]) [.tmp 4] rfl fun w0 T0 _ => ?_
  simp only [Tryz.f58, argEnv]
  (repeat' first | with_reducible (first | intro _ | refine rc ?_ | refine rl ?_ | refine rh ?_ | refine rt ?_ | refine rf ?_ | refine rs ?_ | refine And.intro ?_ ?_) | omega | simp (maxSteps := 1000000) only [go_sem, simprocAttr, ↓reduceIte])
  refine VcCall.k (k1) ?_
  (repeat' first | with_reducible (first | intro _ | refine rc ?_ | refine rl ?_ | refine rh ?_ | refine rt ?_ | refine rf ?_ | refine rs ?_ | refine And.intro ?_ ?_) | omega | simp (maxSteps := 1000000) only [go_sem, simprocAttr, ↓reduceIte])
  refine VcCall.k (k2) ?_
  (repeat' first | with_reducible (first | intro _ | refine rc ?_ | refine rl ?_ | refine rh ?_ | refine rt ?_ | refine rf ?_ | refine rs ?_ | refine And.intro ?_ ?_) | omega | simp (maxSteps := 1000000) only [go_sem, simprocAttr, ↓reduceIte])
  refine Ret.auto 0 ?_ rfl ?_ <;> simp only [go_sem, reduceCtorEq, reduceIte, Nat.reduceEqDiff, Nat.reduceLT, Nat.reduceLeDiff, Int.natCast_succ, Post]
/-- The error of a box of a page and of gaps. -/
def boxErr (w h X Y W H : Int) (g : List Int) : Int := if BoxIn w h X Y W H then (if g.any gapBad = true then 3 else 0) else 13
end Go.Fv.Q

/-! Rows, Words and Gap: the walk. -/
namespace Go.Fv.Q
open Go Go.Proofs
set_option linter.unusedSimpArgs false
set_option linter.unusedVariables false
set_option linter.unnecessarySimpa false
set_option maxRecDepth 8000

end Go.Fv.Q

/- Rows of rows of integers, as data. -/
namespace Go.Fv.Q
open Go Go.Proofs
set_option linter.unusedSimpArgs false
set_option linter.unusedVariables false
set_option maxRecDepth 8000

def gAv (g : List Int) : List AV := [.ro (.ints .i64 g)]
instance : FNoId gAv := ⟨fun _ => rfl⟩
theorem g_elem (l : List (List Int)) {i : Nat} (h : i < l.length) : (l.map gAv).getD i [] = [.ro (.ints .i64 (l.getD i []))] := by
  simp [List.getD_eq_getElem?_getD, h, gAv]
end Go.Fv.Q
