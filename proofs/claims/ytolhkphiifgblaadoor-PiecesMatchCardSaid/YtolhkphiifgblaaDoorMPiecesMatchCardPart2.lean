/-
  A part of the proof of the claim: walks over the program's functions and the plain laws that these need. No condition of its own.
-/
import Derived.Test.YtolhkphiifgblaaDoorMPiecesMatchCardPart1
import Derived.Test.YtolhkphiifgblaaDoorFvPart9
import Derived.Test.YtolhkphiifgblaaDoorFvPart10
namespace Go.Fv.M
open Go Go.Proofs
set_option linter.unusedSimpArgs false
set_option linter.unusedVariables false
set_option maxRecDepth 8000
/-- Ink as a number. -/
def inkV (p : List Bool) (i : Nat) : Int := if p.getD i false = true then 1 else 0
theorem inkV_bd (p : List Bool) (i : Nat) : 0 ≤ inkV p i ∧ inkV p i ≤ 255 := by unfold inkV; split <;> omega
end Go.Fv.M

namespace Go.Fv.M
open Go Go.Proofs
set_option linter.unusedSimpArgs false
set_option linter.unusedVariables false
set_option maxRecDepth 8000
theorem refIn_ok (n lo hi : Int) : FnOk Tryd.prog 91 [.int .i64 n, .int .i64 lo, .int .i64 hi] (.bool (decide (lo ≤ n ∧ n ≤ hi))) [] := by
  refine FnOk.of_vc Tryd.func91 rfl (by decide) (by simp [Tryd.f91]) [.tmp 6] rfl fun w0 T0 _ => ?_
  simp only [Tryd.f91, argEnv]
  (repeat' first | with_reducible (first | refine Asm.intro fun _ => ?_ | refine Chk.g ?_ | refine AnyI.i64 fun _ _ => ?_ | refine LetW.g ?_ | refine LetW.h ?_ | refine Ite.t fun _ => ?_ | refine Ite.f fun _ => ?_ | refine Ite.decide (fun _ => ?_) fun _ => ?_ | refine Ite.bool (fun _ => ?_) fun _ => ?_ | refine And.intro ?_ ?_) | omega | simp (maxSteps := 1000000) only [go_sem, reduceCtorEq, Nat.reduceLT, Nat.reduceLeDiff, reduceIte, ↓reduceIte, Nat.reduceEqDiff, Nat.reduceAdd, Nat.reduceMul, Nat.reduceSub, Int.reduceLE, Int.reduceLT, Int.reduceNeg, Int.reduceToNat])
  refine Ret.auto 0 ?_ rfl ?_ <;> simp only [go_sem, reduceCtorEq, reduceIte, Nat.reduceEqDiff, Nat.reduceLT, Nat.reduceLeDiff, Int.natCast_succ, Post]
def atB (p : List Bool) (w h : Nat) (i j : Int) : Bool := decide (0 ≤ i ∧ i < w ∧ 0 ≤ j ∧ j < h) && p.getD (j * w + i).toNat false
theorem atB_in (p : List Bool) {w h i j : Nat} (hi : i < w) (hj : j < h) : atB p w h i j = p.getD (j * w + i) false := by
  unfold atB
  rw [decide_eq_true (show 0 ≤ (i : Int) ∧ (i : Int) < w ∧ 0 ≤ (j : Int) ∧ (j : Int) < h by omega), Bool.true_and, up_mul, up_add, Int.toNat_natCast]
theorem atB_out (p : List Bool) {w h : Nat} {i j : Int} (h' : ¬ (0 ≤ i ∧ i < w ∧ 0 ≤ j ∧ j < h)) : atB p w h i j = false := by
  unfold atB; rw [decide_eq_false h', Bool.false_and]
set_option maxHeartbeats 2000000 in
theorem refAt_ok (w h : Nat) (hw : w ≤ 4000) (hh : h ≤ 4000) (p : List Bool) (hp : p.length = w * h) (i j : Int) : FnOk Tryd.prog 53 [.agg [.int .i64 w, .int .i64 h, .ro (.bools p)], .int .i64 i, .int .i64 j] (.bool (atB p w h i j)) [] := by
  refine FnOk.of_vc Tryd.func53 rfl (by decide) (by simp [Tryd.f53]) [.tmp 6] rfl fun w0 T0 _ => ?_
  simp only [Tryd.f53, argEnv]
  by_cases hin : 0 ≤ i ∧ i < w ∧ 0 ≤ j ∧ j < h
  · obtain ⟨i, rfl⟩ : ∃ k : Nat, i = k := ⟨i.toNat, by omega⟩
    obtain ⟨j, rfl⟩ : ∃ k : Nat, j = k := ⟨j.toNat, by omega⟩
    rw [atB_in p (by omega) (by omega)]
    have b1 : j * w + w ≤ h * w := by rw [← Nat.succ_mul]; exact Nat.mul_le_mul_right _ (by omega)
    have b2 : h * w ≤ 4000 * 4000 := Nat.mul_le_mul hh hw
    have b3 : w * h = h * w := Nat.mul_comm _ _
    (repeat' first | with_reducible (first | refine Asm.intro fun _ => ?_ | refine Chk.g ?_ | refine AnyI.i64 fun _ _ => ?_ | refine LetW.g ?_ | refine LetW.h ?_ | refine Ite.t fun _ => ?_ | refine Ite.f fun _ => ?_ | refine Ite.decide (fun _ => ?_) fun _ => ?_ | refine Ite.bool (fun _ => ?_) fun _ => ?_ | refine And.intro ?_ ?_) | omega | simp (maxSteps := 1000000) only [go_sem, reduceCtorEq, Nat.reduceLT, Nat.reduceLeDiff, reduceIte, ↓reduceIte, Nat.reduceEqDiff, Nat.reduceAdd, Nat.reduceMul, Nat.reduceSub, Int.reduceLE, Int.reduceLT, Int.reduceNeg, Int.reduceToNat])
    refine VcCall.fr (FnFr.of_ok (refIn_ok i 0 (w - 1)) rfl rfl) (by simp only [noIdR_ok, argOkL, argOk, allOk, argOkN, List.drop_zero, lk, reduceIte, reduceCtorEq, Nat.reduceEqDiff, Option.some.injEq, Item.row.injEq, Item.box.injEq, AV.ro.injEq, exists_eq_left, exists_and_left, exists_eq_left', exists_eq_right, and_assoc, and_true, true_and, List.cons.injEq, exists_eq', exists_eq]) 0 rfl (by simp [rowsB]) ?_
    rw [decide_eq_true (show 0 ≤ (i : Int) ∧ (i : Int) ≤ w - 1 by omega)]
    (repeat' first | with_reducible (first | refine Asm.intro fun _ => ?_ | refine Chk.g ?_ | refine AnyI.i64 fun _ _ => ?_ | refine LetW.g ?_ | refine LetW.h ?_ | refine Ite.t fun _ => ?_ | refine Ite.f fun _ => ?_ | refine Ite.decide (fun _ => ?_) fun _ => ?_ | refine Ite.bool (fun _ => ?_) fun _ => ?_ | refine And.intro ?_ ?_) | omega | simp (maxSteps := 1000000) only [go_sem, reduceCtorEq, Nat.reduceLT, Nat.reduceLeDiff, reduceIte, ↓reduceIte, Nat.reduceEqDiff, Nat.reduceAdd, Nat.reduceMul, Nat.reduceSub, Int.reduceLE, Int.reduceLT, Int.reduceNeg, Int.reduceToNat])
    refine VcCall.fr (FnFr.of_ok (refIn_ok j 0 (h - 1)) rfl rfl) (by simp only [noIdR_ok, argOkL, argOk, allOk, argOkN, List.drop_zero, lk, reduceIte, reduceCtorEq, Nat.reduceEqDiff, Option.some.injEq, Item.row.injEq, Item.box.injEq, AV.ro.injEq, exists_eq_left, exists_and_left, exists_eq_left', exists_eq_right, and_assoc, and_true, true_and, List.cons.injEq, exists_eq', exists_eq]) 0 rfl (by simp [rowsB]) ?_
    rw [decide_eq_true (show 0 ≤ (j : Int) ∧ (j : Int) ≤ h - 1 by omega)]
    (repeat' first | with_reducible (first | refine Asm.intro fun _ => ?_ | refine Chk.g ?_ | refine AnyI.i64 fun _ _ => ?_ | refine LetW.g ?_ | refine LetW.h ?_ | refine Ite.t fun _ => ?_ | refine Ite.f fun _ => ?_ | refine Ite.decide (fun _ => ?_) fun _ => ?_ | refine Ite.bool (fun _ => ?_) fun _ => ?_ | refine And.intro ?_ ?_) | omega | simp (maxSteps := 1000000) only [go_sem, reduceCtorEq, Nat.reduceLT, Nat.reduceLeDiff, reduceIte, ↓reduceIte, Nat.reduceEqDiff, Nat.reduceAdd, Nat.reduceMul, Nat.reduceSub, Int.reduceLE, Int.reduceLT, Int.reduceNeg, Int.reduceToNat, up_mul, up_add, Int.toNat_natCast])
    refine Ret.auto 0 ?_ rfl ?_ <;> simp only [go_sem, reduceCtorEq, reduceIte, Nat.reduceEqDiff, Nat.reduceLT, Nat.reduceLeDiff, Int.natCast_succ, Post]
  · rw [atB_out p hin]
    (repeat' first | with_reducible (first | refine Asm.intro fun _ => ?_ | refine Chk.g ?_ | refine AnyI.i64 fun _ _ => ?_ | refine LetW.g ?_ | refine LetW.h ?_ | refine Ite.t fun _ => ?_ | refine Ite.f fun _ => ?_ | refine Ite.decide (fun _ => ?_) fun _ => ?_ | refine Ite.bool (fun _ => ?_) fun _ => ?_ | refine And.intro ?_ ?_) | omega | simp (maxSteps := 1000000) only [go_sem, reduceCtorEq, Nat.reduceLT, Nat.reduceLeDiff, reduceIte, ↓reduceIte, Nat.reduceEqDiff, Nat.reduceAdd, Nat.reduceMul, Nat.reduceSub, Int.reduceLE, Int.reduceLT, Int.reduceNeg, Int.reduceToNat])
    refine VcCall.fr (FnFr.of_ok (refIn_ok i 0 (w - 1)) rfl rfl) (by simp only [noIdR_ok, argOkL, argOk, allOk, argOkN, List.drop_zero, lk, reduceIte, reduceCtorEq, Nat.reduceEqDiff, Option.some.injEq, Item.row.injEq, Item.box.injEq, AV.ro.injEq, exists_eq_left, exists_and_left, exists_eq_left', exists_eq_right, and_assoc, and_true, true_and, List.cons.injEq, exists_eq', exists_eq]) 0 rfl (by simp [rowsB]) ?_
    (repeat' first | with_reducible (first | refine Asm.intro fun _ => ?_ | refine Chk.g ?_ | refine AnyI.i64 fun _ _ => ?_ | refine LetW.g ?_ | refine LetW.h ?_ | refine Ite.t fun _ => ?_ | refine Ite.f fun _ => ?_ | refine Ite.decide (fun _ => ?_) fun _ => ?_ | refine Ite.bool (fun _ => ?_) fun _ => ?_ | refine And.intro ?_ ?_) | omega | simp (maxSteps := 1000000) only [go_sem, reduceCtorEq, Nat.reduceLT, Nat.reduceLeDiff, reduceIte, ↓reduceIte, Nat.reduceEqDiff, Nat.reduceAdd, Nat.reduceMul, Nat.reduceSub, Int.reduceLE, Int.reduceLT, Int.reduceNeg, Int.reduceToNat])
    · refine VcCall.fr (FnFr.of_ok (refIn_ok j 0 (h - 1)) rfl rfl) (by simp only [noIdR_ok, argOkL, argOk, allOk, argOkN, List.drop_zero, lk, reduceIte, reduceCtorEq, Nat.reduceEqDiff, Option.some.injEq, Item.row.injEq, Item.box.injEq, AV.ro.injEq, exists_eq_left, exists_and_left, exists_eq_left', exists_eq_right, and_assoc, and_true, true_and, List.cons.injEq, exists_eq', exists_eq]) 0 rfl (by simp [rowsB]) ?_
      rw [decide_eq_false (show ¬ (0 ≤ (j : Int) ∧ (j : Int) ≤ h - 1) by omega)]
      (repeat' first | with_reducible (first | refine Asm.intro fun _ => ?_ | refine Chk.g ?_ | refine AnyI.i64 fun _ _ => ?_ | refine LetW.g ?_ | refine LetW.h ?_ | refine Ite.t fun _ => ?_ | refine Ite.f fun _ => ?_ | refine Ite.decide (fun _ => ?_) fun _ => ?_ | refine Ite.bool (fun _ => ?_) fun _ => ?_ | refine And.intro ?_ ?_) | omega | simp (maxSteps := 1000000) only [go_sem, reduceCtorEq, Nat.reduceLT, Nat.reduceLeDiff, reduceIte, ↓reduceIte, Nat.reduceEqDiff, Nat.reduceAdd, Nat.reduceMul, Nat.reduceSub, Int.reduceLE, Int.reduceLT, Int.reduceNeg, Int.reduceToNat])
      refine Ret.auto 0 ?_ rfl ?_ <;> simp only [go_sem, reduceCtorEq, reduceIte, Nat.reduceEqDiff, Nat.reduceLT, Nat.reduceLeDiff, Int.natCast_succ, Post]
    · refine Ret.auto 0 ?_ rfl ?_ <;> simp only [go_sem, reduceCtorEq, reduceIte, Nat.reduceEqDiff, Nat.reduceLT, Nat.reduceLeDiff, Int.natCast_succ, Post]
end Go.Fv.M

namespace Go.Fv.M
open Go Go.Proofs
set_option linter.unusedSimpArgs false
set_option linter.unusedVariables false
set_option maxRecDepth 8000

def b2i (b : Bool) : Int := if b = true then 1 else 0
/-- A pixel of a part of a page. -/
def cutAt (p : List Bool) (w X Y x y : Nat) : Bool := p.getD ((Y + y) * w + X + x) false
theorem rows_box (p : List Bool) (w X Y W : Nat) : ∀ m : Nat, (rowsOf W (cutAt p w X Y) (m * W)).map b2i = boxL (inkV p) w Y X W m
  | 0 => by simp [rowsOf, boxL]
  | m + 1 => by
    have aux : ∀ k, k ≤ W → (rowsOf W (cutAt p w X Y) (m * W + k)).map b2i = boxL (inkV p) w Y X W m ++ segL (inkV p) w (Y + m) X k := by
      intro k
      induction k with
      | zero => intro _; rw [Nat.add_zero, rows_box p w X Y W m]; simp [segL]
      | succ k ih =>
        intro hk
        rw [rowsOf_succ _ (by omega), List.map_append, ih (by omega), segL_succ, List.append_assoc]
        simp [b2i, cutAt, inkV, Nat.add_assoc]
    rw [Nat.succ_mul, aux W (Nat.le_refl _), boxL]
/-- The ink of a part of a page, counted. -/
def inkN (p : List Bool) (w X Y W H : Nat) : Nat := (boxL (inkV p) w Y X W H).sum.toNat
theorem inkN_eq (p : List Bool) (w X Y W H : Nat) : (boxL (inkV p) w Y X W H).sum = ((inkN p w X Y W H : Nat) : Int) := by
  have h := sum_bd (boxL_mem (inkV_bd p) w Y X W H)
  unfold inkN; omega
theorem inkN_rows (p : List Bool) (w X Y W H : Nat) : ((rowsOf W (cutAt p w X Y) (H * W)).map b2i).sum = ((inkN p w X Y W H : Nat) : Int) := by
  rw [rows_box, inkN_eq]
theorem sum01_bd {l : List Int} (h : ∀ x, x ∈ l → 0 ≤ x ∧ x ≤ 1) : 0 ≤ l.sum ∧ l.sum ≤ (l.length : Int) := by
  induction l with
  | nil => simp
  | cons x l ih =>
    have h1 := h x (.head _)
    have h2 := ih fun y hy => h y (.tail _ hy)
    simp only [List.sum_cons, List.length_cons]
    omega
theorem boxL_mem1 (p : List Bool) (w t l n : Nat) : ∀ m x, x ∈ boxL (inkV p) w t l n m → 0 ≤ x ∧ x ≤ 1
  | 0, x, h => by simp [boxL] at h
  | m + 1, x, h => by
    rcases List.mem_append.1 h with h | h
    · exact boxL_mem1 p w t l n m x h
    · obtain ⟨i, _, rfl⟩ := List.mem_map.1 h
      unfold inkV; split <;> omega
theorem segL_mem1 (p : List Bool) (w y l n : Nat) : ∀ x, x ∈ segL (inkV p) w y l n → 0 ≤ x ∧ x ≤ 1 := by
  intro x h
  obtain ⟨i, _, rfl⟩ := List.mem_map.1 h
  unfold inkV; split <;> omega
theorem box_bd (p : List Bool) (w t l n m : Nat) : 0 ≤ (boxL (inkV p) w t l n m).sum ∧ (boxL (inkV p) w t l n m).sum ≤ ((m * n : Nat) : Int) := by
  have h := sum01_bd (boxL_mem1 p w t l n m)
  rwa [boxL_len] at h
theorem seg_bd (p : List Bool) (w y l n : Nat) : 0 ≤ (segL (inkV p) w y l n).sum ∧ (segL (inkV p) w y l n).sum ≤ (n : Int) := by
  have h := sum01_bd (segL_mem1 p w y l n)
  rwa [segL_len] at h
end Go.Fv.M

/- Pieces of a page, in plain words. -/
namespace Go.Fv.M
open Go
set_option linter.unusedSimpArgs false
set_option linter.unusedVariables false
set_option maxRecDepth 8000

structure Pc where
  b : Bx
  n : Int
  x : Int
  y : Int
def Pc.av (c : Pc) : List AV := [.int .i64 c.b.x, .int .i64 c.b.y, .int .i64 c.b.w, .int .i64 c.b.h, .int .i64 c.n, .int .i64 c.x, .int .i64 c.y]
def Pc.zero : Pc := ⟨Bx.zero, 0, 0, 0⟩
abbrev pcR (l : List Pc) : RowV := .objs 7 (l.map Pc.av)
instance : FNoId Pc.av := ⟨fun _ => rfl⟩
theorem pc_elem (l : List Pc) {i : Nat} (h : i < l.length) : (l.map Pc.av).getD i [] = [.int .i64 (l.getD i Pc.zero).b.x, .int .i64 (l.getD i Pc.zero).b.y, .int .i64 (l.getD i Pc.zero).b.w, .int .i64 (l.getD i Pc.zero).b.h, .int .i64 (l.getD i Pc.zero).n, .int .i64 (l.getD i Pc.zero).x, .int .i64 (l.getD i Pc.zero).y] := by
  simp [List.getD_eq_getElem?_getD, h, Pc.av]
def pcOf (w h : Nat) (l : List Int) : Pc := ⟨boxOf w h l, l.length, l.getD 0 0 % w, l.getD 0 0 / w⟩
def pcOf2 (w : Nat) (l : List Int) : Pc := ⟨hullL (l.map (pxB w)), l.length, l.getD 0 0 % w, l.getD 0 0 / w⟩
theorem pc_eq {w h j : Nat} {l : List Int} (ho : RegOk (w * h) j l) : pcOf2 w (sortI l) = pcOf w h l := by
  obtain ⟨t, ht⟩ := ho.hd
  have hne : l ≠ [] := by rw [ht]; simp
  have hb : InPg w h l := fun i hi => by have := ho.bd i hi; omega
  have hs : sortI l ≠ [] := by
    intro e
    have := sortI_len l
    rw [e] at this
    exact hne (List.eq_nil_of_length_eq_zero this.symm)
  have hj : (j : Int) ∈ l := by rw [ht]; exact List.mem_cons_self
  have h0 : l.getD 0 0 = (j : Int) := by rw [ht]; rfl
  unfold pcOf2 pcOf
  rw [hull_px hs (fun i hi => hb i ((sortI_mem l i).1 hi)), sortI_len, sortI_head hj fun x hx => (ho.bd x hx).1, h0, boxOf_mem w h (sortI_mem l)]
theorem pcs_eq (g : Pg2) : ((pieces g).map sortI).map (pcOf2 g.w) = (pieces g).map (pcOf g.w g.h) := by
  rw [List.map_map]
  refine List.map_congr_left fun l hl => ?_
  obtain ⟨j, hj, ho⟩ := pieces_ok g l hl
  exact pc_eq ho
theorem sum_b2i : ∀ p : List Bool, (p.map b2i).sum = ((p.count true : Nat) : Int)
  | [] => rfl
  | b :: p => by
    rw [List.map_cons, List.sum_cons, sum_b2i p, List.count_cons]
    cases b <;> simp [b2i] <;> omega
theorem ink_whole (p : List Bool) (w h : Nat) (hp : p.length = w * h) : inkN p w 0 0 w h = p.count true := by
  have h1 := inkN_rows p w 0 0 w h
  have h2 : rowsOf w (cutAt p w 0 0) (h * w) = p := by
    refine eq_of_bools (by rw [rowsOf_len, hp, Nat.mul_comm]) fun k => ?_
    by_cases hk : k < w * h
    · have hw : 0 < w := by
        rcases Nat.eq_zero_or_pos w with h | h
        · rw [h, Nat.zero_mul] at hk; omega
        · exact h
      have hx := Nat.mod_lt k hw
      have hy : k / w < h := Nat.div_lt_of_lt_mul hk
      have e : k = k / w * w + k % w := (Nat.div_add_mod' k w).symm
      rw [e, rowsOf_get hx hy]
      unfold cutAt
      rw [Nat.zero_add, Nat.add_zero]
    · rw [List.getD_eq_getElem?_getD, List.getD_eq_getElem?_getD, List.getElem?_eq_none (by rw [rowsOf_len, Nat.mul_comm]; omega), List.getElem?_eq_none (by omega)]
  rw [h2, sum_b2i] at h1
  omega
def cntL (l : List Pc) : Int := (l.map Pc.n).sum
theorem cnt_pcs (w h : Nat) (R : List (List Int)) : cntL (R.map (pcOf w h)) = ((sumLen R : Nat) : Int) := by
  induction R with
  | nil => rfl
  | cons l R ih =>
    have e1 : cntL ((l :: R).map (pcOf w h)) = (l.length : Int) + cntL (R.map (pcOf w h)) := by
      simp [cntL, pcOf]
    have e2 : sumLen (l :: R) = l.length + sumLen R := by simp [sumLen]
    rw [e1, e2, ih]
    omega
theorem count_le : ∀ (l : List Pc), (∀ c, c ∈ l → 0 ≤ c.n ∧ c.n ≤ 1000000) → ∀ k, 0 ≤ cntL (l.take k) ∧ cntL (l.take k) ≤ 1000000 * (k : Int)
  | l, h, 0 => by simp [cntL]
  | [], h, k + 1 => by simp [cntL]; omega
  | c :: l, h, k + 1 => by
    have ih := count_le l (fun c hc => h c (List.mem_cons_of_mem _ hc)) k
    have hc := h c (List.mem_cons_self)
    have e : cntL ((c :: l).take (k + 1)) = c.n + cntL (l.take k) := by simp [cntL]
    rw [e]
    omega
end Go.Fv.M

/- Rows of rows of integers, as data. -/
namespace Go.Fv.M
open Go Go.Proofs
set_option linter.unusedSimpArgs false
set_option linter.unusedVariables false
set_option maxRecDepth 8000

def gAv (g : List Int) : List AV := [.ro (.ints .i64 g)]
instance : FNoId gAv := ⟨fun _ => rfl⟩
theorem g_elem (l : List (List Int)) {i : Nat} (h : i < l.length) : (l.map gAv).getD i [] = [.ro (.ints .i64 (l.getD i []))] := by
  simp [List.getD_eq_getElem?_getD, h, gAv]
end Go.Fv.M

/- Regions: the walk. -/
namespace Go.Fv.M
open Go Go.Proofs
set_option linter.unusedSimpArgs false
set_option linter.unusedVariables false
set_option linter.unnecessarySimpa false
set_option maxRecDepth 8000

theorem skip_t {a b k : Bool} (h : (a || decide ¬ b = k) = true) : a = true ∨ (b == k) = false := by revert h; cases a <;> cases b <;> cases k <;> simp
theorem skip_f {a b k : Bool} (h : (a || decide ¬ b = k) = false) : ¬ (a = true ∨ (b == k) = false) := by revert h; cases a <;> cases b <;> cases k <;> simp
theorem pt_t {a b k cor : Bool} {P Q : Prop} [Decidable P] [Decidable Q] (h : (a || decide ¬ b = k || !cor && decide ¬ P && decide ¬ Q) = true) : (cor = false ∧ ¬ P ∧ ¬ Q) ∨ (a = true ∨ (b == k) = false) := by
  revert h
  by_cases hp : P <;> by_cases hq : Q <;> cases a <;> cases b <;> cases k <;> cases cor <;> simp [hp, hq]
theorem pt_f {a b k cor : Bool} {P Q : Prop} [Decidable P] [Decidable Q] (h : (a || decide ¬ b = k || !cor && decide ¬ P && decide ¬ Q) = false) : ¬ (cor = false ∧ ¬ P ∧ ¬ Q) ∧ ¬ (a = true ∨ (b == k) = false) := by
  revert h
  by_cases hp : P <;> by_cases hq : Q <;> cases a <;> cases b <;> cases k <;> cases cor <;> simp [hp, hq]
set_option maxHeartbeats 8000000 in
theorem regions_ok (w h : Nat) (hw1 : 1 ≤ w) (hw : w ≤ 1000) (hh1 : 1 ≤ h) (hh : h ≤ 1000) (p : List Bool) (hp : p.length = w * h) (ink cor : Bool) :
    FnOk Tryd.prog 49 [.agg [.int .i64 w, .int .i64 h, .ro (.bools p)], .bool ink, .bool cor] (.own 0) [(0, .row 53 (.objs 1 ((pieces ⟨p, w, h, ink, cor⟩).map gAv)))] := by
  have hn : w * h ≤ 1000 * 1000 := Nat.mul_le_mul hw hh
  have hst : StepOk (Pg2.ok ⟨p, w, h, ink, cor⟩) (w * h) (pix ⟨p, w, h, ink, cor⟩) := pix_step ⟨p, w, h, ink, cor⟩
  have hRl : (pieces ⟨p, w, h, ink, cor⟩).length ≤ w * h := pieces_len ⟨p, w, h, ink, cor⟩
  have hpt : ∀ c0 s x y v u, RInv (Pg2.ok ⟨p, w, h, ink, cor⟩) (w * h) c0 s → (0 ≤ u ∧ u < (w : Int)) → (0 ≤ v ∧ v < (h : Int)) → RInv (Pg2.ok ⟨p, w, h, ink, cor⟩) (w * h) c0 (RS.pt ⟨p, w, h, ink, cor⟩ x y v s u) ∧ RLe s (RS.pt ⟨p, w, h, ink, cor⟩ x y v s u) :=
    fun c0 s x y v u hs hu hv => pt_inv (g := ⟨p, w, h, ink, cor⟩) hs hu hv
  generalize hg : (⟨p, w, h, ink, cor⟩ : Pg2) = g at *
  generalize hR : pieces g = R at *
  refine FnOk.of_vc Tryd.func49 rfl (by decide) (by simp [Tryd.f49]) [.tmp 6] rfl fun w0 T0 _ => ?_
  simp only [Tryd.f49, argEnv]
  (repeat' first | with_reducible (first | refine Asm.intro fun _ => ?_ | refine Chk.g ?_ | refine AnyI.i64 fun _ _ => ?_ | refine LetW.g ?_ | refine LetW.h ?_ | refine Ite.t fun _ => ?_ | refine Ite.f fun _ => ?_ | refine Ite.decide (fun _ => ?_) fun _ => ?_ | refine Ite.bool (fun _ => ?_) fun _ => ?_ | refine And.intro ?_ ?_) | omega | simp (maxSteps := 1000000) only [go_sem, reduceCtorEq, Nat.reduceLT, Nat.reduceLeDiff, reduceIte, ↓reduceIte, Nat.reduceEqDiff, Nat.reduceAdd, Nat.reduceMul, Nat.reduceSub, Int.reduceLE, Int.reduceLT, Int.reduceNeg, Int.reduceToNat, hp])
  refine VcLoop.intro (fun x : Nat × List Bool × List (List Int) => ⟨137, [(24, .int .i64 (x.1 : Nat)), (23, .int .i64 (w * h : Nat)), (8, .own 2), (7, .own 1), (3, .ptr 0 0), (1, .bool ink), (2, .bool cor)], [(0, .box 24 [.int .i64 w, .int .i64 h, .ro (.bools p)]), (1, .row 4 (.bools x.2.1)), (2, .row 53 (.objs 1 (x.2.2.map gAv)))], 3⟩) (fun x => x.1 ≤ w * h ∧ SInv g.ok (w * h) x.1 x.2.1 ∧ x.2.2 ++ regs g.ok (pix g) (w * h) (w * h - x.1) x.1 x.2.1 = R) (fun x => w * h - x.1) (0, List.replicate (w * h) false, []) ?_ ⟨Nat.zero_le _, SInv.zero _ _, ?_⟩ fun x hx => ?_
  · refine Ent.auto0 rfl ?_ ?_ <;> simp only [go_sem, reduceCtorEq, reduceIte, Nat.reduceEqDiff, Nat.reduceLT, Nat.reduceLeDiff, Int.natCast_succ, zrow, List.map_nil, Int.toNat_natCast]
  · subst hg
    dsimp only
    rw [Nat.sub_zero, List.nil_append]
    exact hR
  obtain ⟨i, seen, D⟩ := x
  obtain ⟨hi, hS, hD⟩ := hx
  dsimp only at hi hS hD ⊢
  have hsl := hS.len
  by_cases hlt : i < w * h
  · obtain ⟨m, hm⟩ : ∃ m, w * h - i = m + 1 := ⟨w * h - i - 1, by omega⟩
    have hm' : w * h - (i + 1) = m := by omega
    have hok : g.ok i = (p.getD i false == ink) := by subst hg; rfl
    rw [hm] at hD
    simp only [regs] at hD
    (repeat' first | with_reducible (first | refine Asm.intro fun _ => ?_ | refine Chk.g ?_ | refine AnyI.i64 fun _ _ => ?_ | refine LetW.g ?_ | refine LetW.h ?_ | refine Ite.t fun _ => ?_ | refine Ite.f fun _ => ?_ | refine Ite.decide (fun _ => ?_) fun _ => ?_ | refine Ite.bool (fun _ => ?_) fun _ => ?_ | refine And.intro ?_ ?_) | omega | simp (maxSteps := 1000000) only [go_sem, reduceCtorEq, Nat.reduceLT, Nat.reduceLeDiff, reduceIte, ↓reduceIte, Nat.reduceEqDiff, Nat.reduceAdd, Nat.reduceMul, Nat.reduceSub, Int.reduceLE, Int.reduceLT, Int.reduceNeg, Int.reduceToNat, Int.toNat_natCast, hsl, hp])
    refine Chk.g ?_ (fun h => ⟨h, by omega⟩)
    refine Ite.bool (fun hc => ?_) (fun hc => ?_)
    · have hs : seen.getD i false = true ∨ g.ok i = false := by rw [hok]; exact skip_t hc
      rw [if_pos hs] at hD
      (repeat' first | with_reducible (first | refine Asm.intro fun _ => ?_ | refine Chk.g ?_ | refine AnyI.i64 fun _ _ => ?_ | refine LetW.g ?_ | refine LetW.h ?_ | refine Ite.t fun _ => ?_ | refine Ite.f fun _ => ?_ | refine Ite.decide (fun _ => ?_) fun _ => ?_ | refine Ite.bool (fun _ => ?_) fun _ => ?_ | refine And.intro ?_ ?_) | omega | simp (maxSteps := 1000000) only [go_sem, reduceCtorEq, Nat.reduceLT, Nat.reduceLeDiff, reduceIte, ↓reduceIte, Nat.reduceEqDiff, Nat.reduceAdd, Nat.reduceMul, Nat.reduceSub, Int.reduceLE, Int.reduceLT, Int.reduceNeg, Int.reduceToNat])
      refine ⟨(i + 1, seen, D), Ent.auto0 rfl ?_ ?_, ⟨by omega, hS.skip hs, by dsimp only; rw [hm']; exact hD⟩, by dsimp only; omega⟩ <;> simp only [go_sem, reduceCtorEq, reduceIte, Nat.reduceEqDiff, Nat.reduceLT, Nat.reduceLeDiff, Int.natCast_succ]
    · have hs : ¬ (seen.getD i false = true ∨ g.ok i = false) := by rw [hok]; exact skip_f hc
      rw [if_neg hs] at hD
      have hI := hS.start hlt hs
      obtain ⟨hS2, hO2, _⟩ := hS.region hst hlt hs (w * h)
      generalize hF : bfs (pix g) (w * h) 0 ⟨seen.set i true, [(i : Int)]⟩ = F at *
      generalize seen.count true = c0 at *
      (repeat' first | with_reducible (first | refine Asm.intro fun _ => ?_ | refine Chk.g ?_ | refine AnyI.i64 fun _ _ => ?_ | refine LetW.g ?_ | refine LetW.h ?_ | refine Ite.t fun _ => ?_ | refine Ite.f fun _ => ?_ | refine Ite.decide (fun _ => ?_) fun _ => ?_ | refine Ite.bool (fun _ => ?_) fun _ => ?_ | refine And.intro ?_ ?_) | omega | simp (maxSteps := 1000000) only [go_sem, reduceCtorEq, Nat.reduceLT, Nat.reduceLeDiff, reduceIte, ↓reduceIte, Nat.reduceEqDiff, Nat.reduceAdd, Nat.reduceMul, Nat.reduceSub, Int.reduceLE, Int.reduceLT, Int.reduceNeg, Int.reduceToNat, Int.toNat_natCast, hsl, hp])
      refine VcLoop.intro (fun x : Nat × RS => ⟨137, [(11, .int .i64 (x.1 : Nat)), (10, .own 3), (24, .int .i64 (i : Nat)), (23, .int .i64 (w * h : Nat)), (8, .own 2), (7, .own 1), (3, .ptr 0 0), (1, .bool ink), (2, .bool cor)], [(0, .box 24 [.int .i64 w, .int .i64 h, .ro (.bools p)]), (1, .row 4 (.bools x.2.seen)), (2, .row 53 (.objs 1 (D.map gAv))), (3, .row 3 (.ints .i64 x.2.l))], 4⟩) (fun x => x.1 ≤ x.2.l.length ∧ RInv g.ok (w * h) c0 x.2 ∧ bfs (pix g) (w * h - x.1) x.1 x.2 = F) (fun x => w * h - x.1) (0, ⟨seen.set i true, [(i : Int)]⟩) ?_ ⟨Nat.zero_le _, hI, hF⟩ fun x hx => ?_
      · refine Ent.auto0 rfl ?_ ?_ <;> simp only [go_sem, reduceCtorEq, reduceIte, Nat.reduceEqDiff, Nat.reduceLT, Nat.reduceLeDiff, Int.natCast_succ]
      obtain ⟨k, s⟩ := x
      obtain ⟨hk, hI, hF⟩ := hx
      dsimp only at hk hI hF ⊢
      have hll := hI.le
      have hDl : D.length ≤ w * h := by
        rw [← hD, List.length_append] at hRl
        omega
      by_cases hlk : k < s.l.length
      · obtain ⟨hb1, hb2⟩ := hI.bd _ (getD_mem hlk)
        obtain ⟨m2, hm2⟩ : ∃ m2, w * h - k = m2 + 1 := ⟨w * h - k - 1, by omega⟩
        have hm2' : w * h - (k + 1) = m2 := by omega
        rw [hm2, bfs_step _ hlk] at hF
        obtain ⟨c, hc⟩ : ∃ c : Nat, s.l.getD k 0 = c := ⟨(s.l.getD k 0).toNat, by omega⟩
        rw [hc] at hF hb2
        obtain ⟨⟨_, hx2⟩, _, hy2⟩ := xy_bd (g := g) (c := c) (by omega) (by subst hg; exact hb2)
        have hgw : g.w = w := by subst hg; rfl
        have hgh : g.h = h := by subst hg; rfl
        rw [hgw] at hx2 hy2
        rw [hgh] at hy2
        have ex : (c : Int) % (w : Int) = ((c % w : Nat) : Int) := rfl
        have ey : (c : Int) / (w : Int) = ((c / w : Nat) : Int) := rfl
        rw [ex] at hx2
        rw [ey] at hy2
        generalize hQ : pix g s (c : Int) = Q at *
        unfold pix at hQ
        rw [hgw, hgh, ex, ey] at hQ
        generalize hx0 : c % w = x at *
        generalize hy0 : c / w = y at *
        (repeat' first | with_reducible (first | refine Asm.intro fun _ => ?_ | refine Chk.g ?_ | refine AnyI.i64 fun _ _ => ?_ | refine LetW.g ?_ | refine LetW.h ?_ | refine Ite.t fun _ => ?_ | refine Ite.f fun _ => ?_ | refine Ite.decide (fun _ => ?_) fun _ => ?_ | refine Ite.bool (fun _ => ?_) fun _ => ?_ | refine And.intro ?_ ?_) | omega | simp (maxSteps := 1000000) only [go_sem, reduceCtorEq, Nat.reduceLT, Nat.reduceLeDiff, reduceIte, ↓reduceIte, Nat.reduceEqDiff, Nat.reduceAdd, Nat.reduceMul, Nat.reduceSub, Int.reduceLE, Int.reduceLT, Int.reduceNeg, Int.reduceToNat, Int.toNat_natCast])
        refine VcDraw.lex [] [] (by kernel_rfl) (by kernel_rfl) ?_
        (repeat' first | with_reducible (first | refine Asm.intro fun _ => ?_ | refine Chk.g ?_ | refine AnyI.i64 fun _ _ => ?_ | refine LetW.g ?_ | refine LetW.h ?_ | refine Ite.t fun _ => ?_ | refine Ite.f fun _ => ?_ | refine Ite.decide (fun _ => ?_) fun _ => ?_ | refine Ite.bool (fun _ => ?_) fun _ => ?_ | refine And.intro ?_ ?_) | omega | simp (maxSteps := 1000000) only [go_sem, reduceCtorEq, Nat.reduceLT, Nat.reduceLeDiff, reduceIte, ↓reduceIte, Nat.reduceEqDiff, Nat.reduceAdd, Nat.reduceMul, Nat.reduceSub, Int.reduceLE, Int.reduceLT, Int.reduceNeg, Int.reduceToNat, Int.toNat_natCast, hc, up_tmod, up_tdiv, minmax, hx0, hy0])
        have ha1 : lo3 (y : Int) = max ((y : Int) - 1) 0 := rfl
        have ha2 : hi3 (y : Int) h = min ((y : Int) + 1) ((h : Int) - 1) := rfl
        have ha3 : lo3 (x : Int) = max ((x : Int) - 1) 0 := rfl
        have ha4 : hi3 (x : Int) w = min ((x : Int) + 1) ((w : Int) - 1) := rfl
        refine VcLoop.intro (fun z : Int × RS => ⟨137, [(14, .int .i64 z.1), (13, .int .i64 (y : Nat)), (12, .int .i64 (x : Nat)), (11, .int .i64 (k : Nat)), (10, .own 3), (24, .int .i64 (i : Nat)), (23, .int .i64 (w * h : Nat)), (8, .own 2), (7, .own 1), (3, .ptr 0 0), (1, .bool ink), (2, .bool cor)], [(0, .box 24 [.int .i64 w, .int .i64 h, .ro (.bools p)]), (1, .row 4 (.bools z.2.seen)), (2, .row 53 (.objs 1 (D.map gAv))), (3, .row 3 (.ints .i64 z.2.l))], 4⟩) (fun z => lo3 y ≤ z.1 ∧ z.1 ≤ hi3 y h + 1 ∧ RInv g.ok (w * h) c0 z.2 ∧ k < z.2.l.length ∧ (rng z.1 (hi3 y h + 1 - z.1).toNat).foldl (RS.row g x y (rng3 x w)) z.2 = Q) (fun z => (hi3 y h + 1 - z.1).toNat) (lo3 y, s) ?_ ⟨by dsimp only; omega, by dsimp only; omega, hI, hlk, hQ⟩ fun z hz => ?_
        · refine Ent.auto0 rfl ?_ ?_ <;> simp only [go_sem, reduceCtorEq, reduceIte, Nat.reduceEqDiff, Nat.reduceLT, Nat.reduceLeDiff, Int.natCast_succ, ha1]
        obtain ⟨v, t⟩ := z
        obtain ⟨hv1, hv2, hIt, hkt, hrest⟩ := hz
        dsimp only at hv1 hv2 hIt hkt hrest ⊢
        have hlt2 := hIt.le
        by_cases hv : v ≤ hi3 y h
        · obtain ⟨m3, hm3⟩ : ∃ m3, (hi3 y h + 1 - v).toNat = m3 + 1 := ⟨(hi3 y h + 1 - v).toNat - 1, by omega⟩
          have hm3' : (hi3 y h + 1 - (v + 1)).toNat = m3 := by omega
          rw [hm3] at hrest
          simp only [rng, List.foldl_cons] at hrest
          have hv0 : 0 ≤ v ∧ v < (h : Int) := by omega
          have hvw0 : 0 ≤ v * (w : Int) := Int.mul_nonneg hv0.1 (by omega)
          have hvw1 : v * (w : Int) ≤ 1000 * 1000 := Int.mul_le_mul (by omega) (by omega) (by omega) (by omega)
          obtain ⟨hI3, hL3⟩ := row_inv (g := g) (s := t) (c0 := c0) (x := x) (y := y) (v := v) (us := rng3 x w) (by rw [hgw, hgh]; exact hIt) (fun u hu => by rw [hgw]; exact rng3_mem hu) (by rw [hgh]; exact hv0)
          rw [hgw, hgh] at hI3
          have hl3 := hL3.len
          generalize hQ2 : RS.row g x y (rng3 x w) t v = Q2 at *
          unfold RS.row at hQ2
          (repeat' first | with_reducible (first | refine Asm.intro fun _ => ?_ | refine Chk.g ?_ | refine AnyI.i64 fun _ _ => ?_ | refine LetW.g ?_ | refine LetW.h ?_ | refine Ite.t fun _ => ?_ | refine Ite.f fun _ => ?_ | refine Ite.decide (fun _ => ?_) fun _ => ?_ | refine Ite.bool (fun _ => ?_) fun _ => ?_ | refine And.intro ?_ ?_) | omega | simp (maxSteps := 1000000) only [go_sem, reduceCtorEq, Nat.reduceLT, Nat.reduceLeDiff, reduceIte, ↓reduceIte, Nat.reduceEqDiff, Nat.reduceAdd, Nat.reduceMul, Nat.reduceSub, Int.reduceLE, Int.reduceLT, Int.reduceNeg, Int.reduceToNat, Int.toNat_natCast, minmax])
          refine VcLoop.intro (fun z : Int × RS => ⟨137, [(15, .int .i64 z.1), (14, .int .i64 v), (13, .int .i64 (y : Nat)), (12, .int .i64 (x : Nat)), (11, .int .i64 (k : Nat)), (10, .own 3), (24, .int .i64 (i : Nat)), (23, .int .i64 (w * h : Nat)), (8, .own 2), (7, .own 1), (3, .ptr 0 0), (1, .bool ink), (2, .bool cor)], [(0, .box 24 [.int .i64 w, .int .i64 h, .ro (.bools p)]), (1, .row 4 (.bools z.2.seen)), (2, .row 53 (.objs 1 (D.map gAv))), (3, .row 3 (.ints .i64 z.2.l))], 4⟩) (fun z => lo3 x ≤ z.1 ∧ z.1 ≤ hi3 x w + 1 ∧ RInv g.ok (w * h) c0 z.2 ∧ (rng z.1 (hi3 x w + 1 - z.1).toNat).foldl (RS.pt g x y v) z.2 = Q2) (fun z => (hi3 x w + 1 - z.1).toNat) (lo3 x, t) ?_ ⟨by dsimp only; omega, by dsimp only; omega, hIt, hQ2⟩ fun z hz => ?_
          · refine Ent.auto0 rfl ?_ ?_ <;> simp only [go_sem, reduceCtorEq, reduceIte, Nat.reduceEqDiff, Nat.reduceLT, Nat.reduceLeDiff, Int.natCast_succ, ha3]
          clear hlt2
          obtain ⟨u, t⟩ := z
          obtain ⟨hu1, hu2, hIu, hrest2⟩ := hz
          dsimp only at hu1 hu2 hIu hrest2 ⊢
          have hlu := hIu.le
          have hsu := hIu.len
          by_cases hu : u ≤ hi3 x w
          · obtain ⟨m4, hm4⟩ : ∃ m4, (hi3 x w + 1 - u).toNat = m4 + 1 := ⟨(hi3 x w + 1 - u).toNat - 1, by omega⟩
            have hm4' : (hi3 x w + 1 - (u + 1)).toNat = m4 := by omega
            rw [hm4] at hrest2
            simp only [rng, List.foldl_cons] at hrest2
            have hu0 : 0 ≤ u ∧ u < (w : Int) := by omega
            obtain ⟨hc1, hc2, hc3⟩ := cell_lt hu0 hv0
            have hI4 := (hpt c0 t x y v u hIu hu0 hv0).1
            obtain ⟨q, hq⟩ : ∃ q : Nat, v * (w : Int) + u = q := ⟨(v * (w : Int) + u).toNat, by omega⟩
            have hqn : q < w * h := by omega
            have hRS : RS.pt g x y v t u = if cor = false ∧ u ≠ x ∧ v ≠ y then t else t.vis g.ok q := by
              unfold RS.pt
              rw [hgw, hq, Int.toNat_natCast]
              subst hg
              rfl
            have hokq : g.ok q = (p.getD q false == ink) := by subst hg; rfl
            rw [hRS] at hI4 hrest2
            unfold RS.vis at hI4 hrest2
            rw [hokq] at hI4 hrest2
            (repeat' first | with_reducible (first | refine Asm.intro fun _ => ?_ | refine Chk.g ?_ | refine AnyI.i64 fun _ _ => ?_ | refine LetW.g ?_ | refine LetW.h ?_ | refine Ite.t fun _ => ?_ | refine Ite.f fun _ => ?_ | refine Ite.decide (fun _ => ?_) fun _ => ?_ | refine Ite.bool (fun _ => ?_) fun _ => ?_ | refine And.intro ?_ ?_) | omega | simp (maxSteps := 1000000) only [go_sem, reduceCtorEq, Nat.reduceLT, Nat.reduceLeDiff, reduceIte, ↓reduceIte, Nat.reduceEqDiff, Nat.reduceAdd, Nat.reduceMul, Nat.reduceSub, Int.reduceLE, Int.reduceLT, Int.reduceNeg, Int.reduceToNat, Int.toNat_natCast, minmax, hq, hp])
            refine Chk.g (Chk.g (Chk.g (Ite.bool (fun hc => ?_) (fun hc => ?_)) (fun h => ⟨h, fun h2 => ⟨h, h2⟩⟩)) (fun h => ⟨h, fun h2 => ⟨h, h2⟩⟩)) (fun h => ⟨h, by omega⟩)
            · have e : (if cor = false ∧ u ≠ x ∧ v ≠ y then t else if t.seen.getD q false = true ∨ (p.getD q false == ink) = false then t else ⟨t.seen.set q true, t.l ++ [(q : Int)]⟩) = t := by
                rcases pt_t hc with h1 | h1
                · exact if_pos h1
                · rw [if_pos h1, ite_self]
              rw [e] at hI4 hrest2
              (repeat' first | with_reducible (first | refine Asm.intro fun _ => ?_ | refine Chk.g ?_ | refine AnyI.i64 fun _ _ => ?_ | refine LetW.g ?_ | refine LetW.h ?_ | refine Ite.t fun _ => ?_ | refine Ite.f fun _ => ?_ | refine Ite.decide (fun _ => ?_) fun _ => ?_ | refine Ite.bool (fun _ => ?_) fun _ => ?_ | refine And.intro ?_ ?_) | omega | simp (maxSteps := 1000000) only [go_sem, reduceCtorEq, Nat.reduceLT, Nat.reduceLeDiff, reduceIte, ↓reduceIte, Nat.reduceEqDiff, Nat.reduceAdd, Nat.reduceMul, Nat.reduceSub, Int.reduceLE, Int.reduceLT, Int.reduceNeg, Int.reduceToNat, Int.toNat_natCast, minmax, hq, hp])
              refine ⟨(u + 1, t), Ent.auto0 rfl ?_ ?_, ⟨by dsimp only; omega, by dsimp only; omega, hI4, by dsimp only; rw [hm4']; exact hrest2⟩, by dsimp only; omega⟩ <;> simp only [go_sem, reduceCtorEq, reduceIte, Nat.reduceEqDiff, Nat.reduceLT, Nat.reduceLeDiff, Int.natCast_succ]
            · obtain ⟨h1, h2⟩ := pt_f hc
              rw [if_neg h1, if_neg h2] at hI4 hrest2
              (repeat' first | with_reducible (first | refine Asm.intro fun _ => ?_ | refine Chk.g ?_ | refine AnyI.i64 fun _ _ => ?_ | refine LetW.g ?_ | refine LetW.h ?_ | refine Ite.t fun _ => ?_ | refine Ite.f fun _ => ?_ | refine Ite.decide (fun _ => ?_) fun _ => ?_ | refine Ite.bool (fun _ => ?_) fun _ => ?_ | refine And.intro ?_ ?_) | omega | simp (maxSteps := 1000000) only [go_sem, reduceCtorEq, Nat.reduceLT, Nat.reduceLeDiff, reduceIte, ↓reduceIte, Nat.reduceEqDiff, Nat.reduceAdd, Nat.reduceMul, Nat.reduceSub, Int.reduceLE, Int.reduceLT, Int.reduceNeg, Int.reduceToNat, Int.toNat_natCast, minmax, hq, hp, hsu])
              refine ⟨(u + 1, ⟨t.seen.set q true, t.l ++ [(q : Int)]⟩), Ent.auto0 rfl ?_ ?_, ⟨by dsimp only; omega, by dsimp only; omega, hI4, by dsimp only; rw [hm4']; exact hrest2⟩, by dsimp only; omega⟩ <;> simp only [go_sem, reduceCtorEq, reduceIte, Nat.reduceEqDiff, Nat.reduceLT, Nat.reduceLeDiff, Int.natCast_succ]
          · have eu : u = hi3 x w + 1 := by omega
            subst eu
            rw [show (hi3 (x : Int) (w : Int) + 1 - (hi3 (x : Int) (w : Int) + 1)).toNat = 0 by omega] at hrest2
            have e : t = Q2 := hrest2
            subst e
            (repeat' first | with_reducible (first | refine Asm.intro fun _ => ?_ | refine Chk.g ?_ | refine AnyI.i64 fun _ _ => ?_ | refine LetW.g ?_ | refine LetW.h ?_ | refine Ite.t fun _ => ?_ | refine Ite.f fun _ => ?_ | refine Ite.decide (fun _ => ?_) fun _ => ?_ | refine Ite.bool (fun _ => ?_) fun _ => ?_ | refine And.intro ?_ ?_) | omega | simp (maxSteps := 1000000) only [go_sem, reduceCtorEq, Nat.reduceLT, Nat.reduceLeDiff, reduceIte, ↓reduceIte, Nat.reduceEqDiff, Nat.reduceAdd, Nat.reduceMul, Nat.reduceSub, Int.reduceLE, Int.reduceLT, Int.reduceNeg, Int.reduceToNat, Int.toNat_natCast, minmax])
            refine ⟨(v + 1, t), Ent.auto0 rfl ?_ ?_, ⟨by dsimp only; omega, by dsimp only; omega, hI3, by dsimp only; omega, by dsimp only; rw [hm3']; exact hrest⟩, by dsimp only; omega⟩ <;> simp only [go_sem, reduceCtorEq, reduceIte, Nat.reduceEqDiff, Nat.reduceLT, Nat.reduceLeDiff, Int.natCast_succ]
        · have ev : v = hi3 y h + 1 := by omega
          subst ev
          rw [show (hi3 (y : Int) (h : Int) + 1 - (hi3 (y : Int) (h : Int) + 1)).toNat = 0 by omega] at hrest
          have e : t = Q := hrest
          subst e
          (repeat' first | with_reducible (first | refine Asm.intro fun _ => ?_ | refine Chk.g ?_ | refine AnyI.i64 fun _ _ => ?_ | refine LetW.g ?_ | refine LetW.h ?_ | refine Ite.t fun _ => ?_ | refine Ite.f fun _ => ?_ | refine Ite.decide (fun _ => ?_) fun _ => ?_ | refine Ite.bool (fun _ => ?_) fun _ => ?_ | refine And.intro ?_ ?_) | omega | simp (maxSteps := 1000000) only [go_sem, reduceCtorEq, Nat.reduceLT, Nat.reduceLeDiff, reduceIte, ↓reduceIte, Nat.reduceEqDiff, Nat.reduceAdd, Nat.reduceMul, Nat.reduceSub, Int.reduceLE, Int.reduceLT, Int.reduceNeg, Int.reduceToNat, Int.toNat_natCast, minmax])
          refine ⟨(k + 1, t), Ent.auto0 rfl ?_ ?_, ⟨by dsimp only; omega, hIt, by dsimp only; rw [hm2']; exact hF⟩, by dsimp only; omega⟩ <;> simp only [go_sem, reduceCtorEq, reduceIte, Nat.reduceEqDiff, Nat.reduceLT, Nat.reduceLeDiff, Int.natCast_succ]
      · have e : F = s := by rw [← hF, bfs_end _ _ _ _ hlk]
        subst e
        (repeat' first | with_reducible (first | refine Asm.intro fun _ => ?_ | refine Chk.g ?_ | refine AnyI.i64 fun _ _ => ?_ | refine LetW.g ?_ | refine LetW.h ?_ | refine Ite.t fun _ => ?_ | refine Ite.f fun _ => ?_ | refine Ite.decide (fun _ => ?_) fun _ => ?_ | refine Ite.bool (fun _ => ?_) fun _ => ?_ | refine And.intro ?_ ?_) | omega | simp (maxSteps := 1000000) only [go_sem, reduceCtorEq, Nat.reduceLT, Nat.reduceLeDiff, reduceIte, ↓reduceIte, Nat.reduceEqDiff, Nat.reduceAdd, Nat.reduceMul, Nat.reduceSub, Int.reduceLE, Int.reduceLT, Int.reduceNeg, Int.reduceToNat])
        refine ⟨(i + 1, F.seen, D ++ [F.l]), Ent.auto0 rfl ?_ ?_, ⟨by omega, hS2, by dsimp only; rw [hm', List.append_assoc]; exact hD⟩, by dsimp only; omega⟩ <;> simp only [go_sem, reduceCtorEq, reduceIte, Nat.reduceEqDiff, Nat.reduceLT, Nat.reduceLeDiff, Int.natCast_succ, List.map_append, gAv]
  · have e : i = w * h := by omega
    subst e
    rw [Nat.sub_self] at hD
    simp only [regs, List.append_nil] at hD
    subst hD
    (repeat' first | with_reducible (first | refine Asm.intro fun _ => ?_ | refine Chk.g ?_ | refine AnyI.i64 fun _ _ => ?_ | refine LetW.g ?_ | refine LetW.h ?_ | refine Ite.t fun _ => ?_ | refine Ite.f fun _ => ?_ | refine Ite.decide (fun _ => ?_) fun _ => ?_ | refine Ite.bool (fun _ => ?_) fun _ => ?_ | refine And.intro ?_ ?_) | omega | simp (maxSteps := 1000000) only [go_sem, reduceCtorEq, Nat.reduceLT, Nat.reduceLeDiff, reduceIte, ↓reduceIte, Nat.reduceEqDiff, Nat.reduceAdd, Nat.reduceMul, Nat.reduceSub, Int.reduceLE, Int.reduceLT, Int.reduceNeg, Int.reduceToNat])
    refine Ret.auto 1 ?_ rfl ?_ <;> simp only [go_sem, reduceCtorEq, reduceIte, Nat.reduceEqDiff, Nat.reduceLT, Nat.reduceLeDiff, Int.natCast_succ, Post]
end Go.Fv.M

namespace Go.Fv.M
open Go Go.Proofs
set_option linter.unusedSimpArgs false
set_option linter.unusedVariables false
set_option maxRecDepth 8000

theorem grayErr_ok {w h : Nat} (hw1 : 1 ≤ w) (hw : w ≤ 1000) (hh1 : 1 ≤ h) (hh : h ≤ 1000) {n : Nat} (hn : n = w * h) : grayErr w h n = 0 := by
  have hm : w * h ≤ 1000 * 1000 := Nat.mul_le_mul hw hh
  unfold grayErr
  rw [sizeErr_of (by omega) (by omega) (by omega) (by omega) (by rw [up_mul]; omega), hn, up_mul]
  simp
end Go.Fv.M

/- Boxes of pixels; regions that are chosen change: the walk. -/
namespace Go.Fv.M
open Go Go.Proofs
set_option linter.unusedSimpArgs false
set_option linter.unusedVariables false
set_option linter.unnecessarySimpa false
set_option maxRecDepth 8000

theorem take_snoc {l : List Int} {k : Nat} (h : k < l.length) : l.take (k + 1) = l.take k ++ [l.getD k 0] := by
  rw [List.take_succ_eq_append_getElem h, getD_lt h]
theorem InPg.take {w h : Nat} {l : List Int} (hb : InPg w h l) (k : Nat) : InPg w h (l.take k) := fun i hi => hb i (List.mem_of_mem_take hi)
theorem bxBounds {w h : Nat} {l : List Int} (hb : InPg w h l) : (0 ≤ leftP w l ∧ leftP w l ≤ w) ∧ (0 ≤ topP w h l ∧ topP w h l ≤ h) ∧ (-1 ≤ rightP w l ∧ rightP w l ≤ w) ∧ (-1 ≤ botP w l ∧ botP w l ≤ h) := by
  have hbd := fun i hi => xy_bd' (hb i hi).1 (hb i hi).2
  have a1 := le_mnF (fun i => i % (w : Int)) l w
  have a2 := le_mnF (fun i => i / (w : Int)) l h
  have a3 := mxF_le (fun i => i % (w : Int)) l (-1)
  have a4 := mxF_le (fun i => i / (w : Int)) l (-1)
  change (∀ m, m ≤ leftP w l ↔ _) at a1
  change (∀ m, m ≤ topP w h l ↔ _) at a2
  change (∀ m, rightP w l ≤ m ↔ _) at a3
  change (∀ m, botP w l ≤ m ↔ _) at a4
  refine ⟨⟨(a1 0).2 ⟨by omega, fun i hi => (hbd i hi).1.1⟩, ((a1 _).1 (Int.le_refl _)).1⟩, ⟨(a2 0).2 ⟨by omega, fun i hi => (hbd i hi).2.1⟩, ((a2 _).1 (Int.le_refl _)).1⟩, ⟨((a3 _).1 (Int.le_refl _)).1, (a3 _).2 ⟨by omega, fun i hi => by have := (hbd i hi).1.2; (try dsimp only); omega⟩⟩, ⟨((a4 _).1 (Int.le_refl _)).1, (a4 _).2 ⟨by omega, fun i hi => by have := (hbd i hi).2.2; (try dsimp only); omega⟩⟩⟩
set_option maxHeartbeats 4000000 in
theorem boxOf_ok (w h : Nat) (hw : w ≤ 4000) (hh : h ≤ 4000) (hw1 : 1 ≤ w) (p : List Bool) (l : List Int) (hb : InPg w h l) :
    FnOk Tryd.prog 50 [.agg [.int .i64 w, .int .i64 h, .ro (.bools p)], .ro (.ints .i64 l)] (.agg (boxOf w h l).av) [] := by
  obtain ⟨⟨g1, g2⟩, ⟨g3, g4⟩, ⟨g5, g6⟩, ⟨g7, g8⟩⟩ := bxBounds hb
  refine FnOk.of_vc Tryd.func50 rfl (by decide) (by simp [Tryd.f50]) [.cell 4 32] rfl fun w0 T0 _ => ?_
  simp only [Tryd.f50, argEnv]
  (repeat' first | with_reducible (first | refine Asm.intro fun _ => ?_ | refine Chk.g ?_ | refine AnyI.i64 fun _ _ => ?_ | refine LetW.g ?_ | refine LetW.h ?_ | refine Ite.t fun _ => ?_ | refine Ite.f fun _ => ?_ | refine Ite.decide (fun _ => ?_) fun _ => ?_ | refine Ite.bool (fun _ => ?_) fun _ => ?_ | refine And.intro ?_ ?_) | omega | simp (maxSteps := 1000000) only [go_sem, reduceCtorEq, Nat.reduceLT, Nat.reduceLeDiff, reduceIte, ↓reduceIte, Nat.reduceEqDiff, Nat.reduceAdd, Nat.reduceMul, Nat.reduceSub, Int.reduceLE, Int.reduceLT, Int.reduceNeg, Int.reduceToNat])
  refine VcDraw.lex [] [] (by kernel_rfl) (by kernel_rfl) ?_
  (repeat' first | with_reducible (first | refine Asm.intro fun _ => ?_ | refine Chk.g ?_ | refine AnyI.i64 fun _ _ => ?_ | refine LetW.g ?_ | refine LetW.h ?_ | refine Ite.t fun _ => ?_ | refine Ite.f fun _ => ?_ | refine Ite.decide (fun _ => ?_) fun _ => ?_ | refine Ite.bool (fun _ => ?_) fun _ => ?_ | refine And.intro ?_ ?_) | omega | simp (maxSteps := 1000000) only [go_sem, reduceCtorEq, Nat.reduceLT, Nat.reduceLeDiff, reduceIte, ↓reduceIte, Nat.reduceEqDiff, Nat.reduceAdd, Nat.reduceMul, Nat.reduceSub, Int.reduceLE, Int.reduceLT, Int.reduceNeg, Int.reduceToNat])
  refine VcLoop.intro (fun k : Nat => ⟨55, [(19, .int .i64 k), (18, .int .i64 l.length), (17, .ro (.ints .i64 l)), (5, .int .i64 (leftP w (l.take k))), (6, .int .i64 (topP w h (l.take k))), (7, .int .i64 (rightP w (l.take k))), (8, .int .i64 (botP w (l.take k))), (2, .ptr 0 0), (4, .ptr 1 0)], [(0, .box 24 [.int .i64 w, .int .i64 h, .ro (.bools p)]), (1, .box 32 [.int .i64 0, .int .i64 0, .int .i64 0, .int .i64 0])], 2⟩) (fun k => k ≤ l.length) (fun k => l.length - k) 0 ?_ (Nat.zero_le _) fun k hk => ?_
  · refine Ent.auto0 rfl ?_ ?_ <;> simp only [go_sem, reduceCtorEq, reduceIte, Nat.reduceEqDiff, Nat.reduceLT, Nat.reduceLeDiff, Int.natCast_succ, List.take_zero, leftP, topP, rightP, botP, mnF, mxF, List.foldl_nil]
  by_cases hlt : k < l.length
  · obtain ⟨b1, b2⟩ := hb _ (getD_mem hlt)
    have hts := take_snoc hlt
    have hx : (l.getD k 0).tmod w = l.getD k 0 % w := Int.tmod_eq_emod_of_nonneg b1
    have hy : (l.getD k 0).tdiv w = l.getD k 0 / w := Int.tdiv_eq_ediv_of_nonneg b1
    have hxy := xy_bd' b1 b2
    (repeat' first | with_reducible (first | refine Asm.intro fun _ => ?_ | refine Chk.g ?_ | refine AnyI.i64 fun _ _ => ?_ | refine LetW.g ?_ | refine LetW.h ?_ | refine Ite.t fun _ => ?_ | refine Ite.f fun _ => ?_ | refine Ite.decide (fun _ => ?_) fun _ => ?_ | refine Ite.bool (fun _ => ?_) fun _ => ?_ | refine And.intro ?_ ?_) | omega | simp (maxSteps := 1000000) only [go_sem, reduceCtorEq, Nat.reduceLT, Nat.reduceLeDiff, reduceIte, ↓reduceIte, Nat.reduceEqDiff, Nat.reduceAdd, Nat.reduceMul, Nat.reduceSub, Int.reduceLE, Int.reduceLT, Int.reduceNeg, Int.reduceToNat, Int.toNat_natCast])
    refine VcDraw.lex [] [] (by kernel_rfl) (by kernel_rfl) ?_
    (repeat' first | with_reducible (first | refine Asm.intro fun _ => ?_ | refine Chk.g ?_ | refine AnyI.i64 fun _ _ => ?_ | refine LetW.g ?_ | refine LetW.h ?_ | refine Ite.t fun _ => ?_ | refine Ite.f fun _ => ?_ | refine Ite.decide (fun _ => ?_) fun _ => ?_ | refine Ite.bool (fun _ => ?_) fun _ => ?_ | refine And.intro ?_ ?_) | omega | simp (maxSteps := 1000000) only [go_sem, reduceCtorEq, Nat.reduceLT, Nat.reduceLeDiff, reduceIte, ↓reduceIte, Nat.reduceEqDiff, Nat.reduceAdd, Nat.reduceMul, Nat.reduceSub, Int.reduceLE, Int.reduceLT, Int.reduceNeg, Int.reduceToNat, Int.toNat_natCast, hx, hy, minmax])
    refine ⟨k + 1, Ent.auto0 rfl ?_ ?_, by omega, by omega⟩ <;> simp only [go_sem, reduceCtorEq, reduceIte, Nat.reduceEqDiff, Nat.reduceLT, Nat.reduceLeDiff, Int.natCast_succ, hts, leftP, topP, rightP, botP, mnF_snoc, mxF_snoc]
  · have e : k = l.length := by omega
    subst e
    rw [List.take_length]
    (repeat' first | with_reducible (first | refine Asm.intro fun _ => ?_ | refine Chk.g ?_ | refine AnyI.i64 fun _ _ => ?_ | refine LetW.g ?_ | refine LetW.h ?_ | refine Ite.t fun _ => ?_ | refine Ite.f fun _ => ?_ | refine Ite.decide (fun _ => ?_) fun _ => ?_ | refine Ite.bool (fun _ => ?_) fun _ => ?_ | refine And.intro ?_ ?_) | omega | simp (maxSteps := 1000000) only [go_sem, reduceCtorEq, Nat.reduceLT, Nat.reduceLeDiff, reduceIte, ↓reduceIte, Nat.reduceEqDiff, Nat.reduceAdd, Nat.reduceMul, Nat.reduceSub, Int.reduceLE, Int.reduceLT, Int.reduceNeg, Int.reduceToNat])
    refine Ret.auto 0 ?_ rfl ?_ <;> simp only [go_sem, reduceCtorEq, reduceIte, Nat.reduceEqDiff, Nat.reduceLT, Nat.reduceLeDiff, Int.natCast_succ, Post, Bx.av, boxOf, List.drop_zero]
end Go.Fv.M

/- slices.Sort of ints, by the shelf. -/
namespace Go.Proofs
open Go.Shelf
def Tryd.lSort_ren : Go.Shelf.Ren := ⟨fun | 5 => 59 | 8 => 93 | 7 => 92 | 19 => 120 | 20 => 121 | 10 => 111 | 11 => 112 | 12 => 113 | 13 => 114 | 14 => 115 | 15 => 116 | 16 => 117 | 17 => 118 | 18 => 119 | 30 => 126 | 31 => 127 | 32 => 128 | 33 => 129 | 34 => 130 | 35 => 131 | 40 => 135 | n => n, fun | 23 => 53 | 25 => 3 | 3 => 3 | 32 => 114 | 22 => 53 | 0 => 0 | 44 => 137 | 46 => 139 | 4 => 4 | 36 => 130 | 35 => 129 | 41 => 134 | 5 => 5 | 9 => 9 | 53 => 144 | 57 => 148 | 63 => 151 | 64 => 50 | n => n, fun | n => n⟩
theorem Tryd.lSort : Go.Proofs.SlLaysM.n5 Tryd.prog Tryd.lSort_ren := {
  mixed := by kernel_rfl
  f5 := ⟨Tryd.f59.name, by decide, Tryd.func59.trans (congrArg some (by kernel_rfl))⟩
  f7 := ⟨Tryd.f92.name, by decide, Tryd.func92.trans (congrArg some (by kernel_rfl))⟩
  f8 := Tryd.func93.trans (congrArg some (by kernel_rfl))
  f10 := ⟨Tryd.f111.name, by decide, Tryd.func111.trans (congrArg some (by kernel_rfl))⟩
  f11 := ⟨Tryd.f112.name, by decide, Tryd.func112.trans (congrArg some (by kernel_rfl))⟩
  f12 := ⟨Tryd.f113.name, by decide, Tryd.func113.trans (congrArg some (by kernel_rfl))⟩
  f13 := ⟨Tryd.f114.name, by decide, Tryd.func114.trans (congrArg some (by kernel_rfl))⟩
  f14 := ⟨Tryd.f115.name, by decide, Tryd.func115.trans (congrArg some (by kernel_rfl))⟩
  f15 := ⟨Tryd.f116.name, by decide, Tryd.func116.trans (congrArg some (by kernel_rfl))⟩
  f16 := ⟨Tryd.f117.name, by decide, Tryd.func117.trans (congrArg some (by kernel_rfl))⟩
  f17 := ⟨Tryd.f118.name, by decide, Tryd.func118.trans (congrArg some (by kernel_rfl))⟩
  f18 := ⟨Tryd.f119.name, by decide, Tryd.func119.trans (congrArg some (by kernel_rfl))⟩
  f19 := Tryd.func120.trans (congrArg some (by kernel_rfl))
  f20 := Tryd.func121.trans (congrArg some (by kernel_rfl))
  f30 := ⟨Tryd.f126.name, by decide, Tryd.func126.trans (congrArg some (by kernel_rfl))⟩
  f31 := Tryd.func127.trans (congrArg some (by kernel_rfl))
  f32 := Tryd.func128.trans (congrArg some (by kernel_rfl))
  f33 := ⟨Tryd.f129.name, by decide, Tryd.func129.trans (congrArg some (by kernel_rfl))⟩
  f34 := ⟨Tryd.f130.name, by decide, Tryd.func130.trans (congrArg some (by kernel_rfl))⟩
  f35 := ⟨Tryd.f131.name, by decide, Tryd.func131.trans (congrArg some (by kernel_rfl))⟩
  f40 := ⟨Tryd.f135.name, by decide, Tryd.func135.trans (congrArg some (by kernel_rfl))⟩
  t0 := Tryd.underlying0
  a0 := Tryd.isAgg0
  z0 := Tryd.sizeOf0
  v0 := Tryd.zeroValue0
  t3 := Tryd.underlying3
  a3 := Tryd.isAgg3
  z3 := Tryd.sizeOf3
  v3 := Tryd.zeroValue3
  t4 := Tryd.underlying4
  a4 := Tryd.isAgg4
  z4 := Tryd.sizeOf4
  v4 := Tryd.zeroValue4
  t5 := Tryd.underlying5
  a5 := Tryd.isAgg5
  z5 := Tryd.sizeOf5
  v5 := Tryd.zeroValue5
  t9 := Tryd.underlying9
  a9 := Tryd.isAgg9
  z9 := Tryd.sizeOf9
  v9 := Tryd.zeroValue9
  t22 := Tryd.underlying53
  a22 := Tryd.isAgg53
  z22 := Tryd.sizeOf53
  v22 := Tryd.zeroValue53
  t23 := Tryd.underlying53
  a23 := Tryd.isAgg53
  z23 := Tryd.sizeOf53
  v23 := Tryd.zeroValue53
  t25 := Tryd.underlying3
  a25 := Tryd.isAgg3
  z25 := Tryd.sizeOf3
  v25 := Tryd.zeroValue3
  t32 := Tryd.underlying114
  a32 := Tryd.isAgg114
  z32 := Tryd.sizeOf114
  v32 := Tryd.zeroValue114
  t35 := Tryd.underlying129
  a35 := Tryd.isAgg129
  z35 := Tryd.sizeOf129
  v35 := Tryd.zeroValue129
  t36 := Tryd.underlying130
  a36 := Tryd.isAgg130
  z36 := Tryd.sizeOf130
  v36 := Tryd.zeroValue130
  t41 := Tryd.underlying134
  a41 := Tryd.isAgg134
  z41 := Tryd.sizeOf134
  v41 := Tryd.zeroValue134
  t44 := Tryd.underlying137
  a44 := Tryd.isAgg137
  z44 := Tryd.sizeOf137
  v44 := Tryd.zeroValue137
  t46 := Tryd.underlying139
  a46 := Tryd.isAgg139
  z46 := Tryd.sizeOf139
  v46 := Tryd.zeroValue139
  t53 := Tryd.underlying144
  a53 := Tryd.isAgg144
  z53 := Tryd.sizeOf144
  v53 := Tryd.zeroValue144
  t57 := Tryd.underlying148
  a57 := Tryd.isAgg148
  z57 := Tryd.sizeOf148
  v57 := Tryd.zeroValue148
  t63 := Tryd.underlying151
  a63 := Tryd.isAgg151
  z63 := Tryd.sizeOf151
  v63 := Tryd.zeroValue151
  t64 := Tryd.underlying50
  a64 := Tryd.isAgg50
  z64 := Tryd.sizeOf50
  v64 := Tryd.zeroValue50 }
end Go.Proofs
namespace Go.Fv.M
open Go Go.Proofs
end Go.Fv.M

/- slices.Sort of ints, as a contract that writes the caller's row. -/
namespace Go.Fv.M
open Go Go.Proofs
theorem sortR_ok (l : List Int) (hl : l.length ≤ 1000000000) : FnIO Tryd.prog 59 [.own 0] [(0, .row 3 (.ints .i64 l))] 1 (.tup []) [(0, .row 3 (.ints .i64 (Go.Fv.sortI l)))] :=
  Go.Fv.sortInts_io Tryd.lSort ⟨_, Tryd.func59, by kernel_rfl, by kernel_rfl⟩ 3 l (by omega)
theorem cov1 {a : Item} : ∀ j, j < 1 → ∃ it, lk [(0, a)] j = some it
  | 0, _ => ⟨_, rfl⟩
  | _ + 1, h => absurd h (by omega)
end Go.Fv.M
