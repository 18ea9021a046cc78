/-
  A part of the proof of the claim: walks over the program's functions and the plain laws that these need. No condition of its own.
-/
import Derived.Test.YtkfadacmcknejaaDoorVLearnsCardPart1
import Derived.Test.YtkfadacmcknejaaDoorFvPart9
import Derived.Test.YtkfadacmcknejaaDoorFvPart6
import Derived.Shelf.Small.Strs
import Derived.Test.YtkfadacmcknejaaDoorFvPart4
/- The steps of the tokens, by places of the text. -/
namespace Go.Fv.V
open Go
set_option linter.unusedSimpArgs false
set_option linter.unusedVariables false
set_option linter.unnecessarySimpa false

/-- What is from a up to b. -/
def sub (s : Bytes) (a b : Nat) : Bytes := (s.drop a).take (b - a)
theorem sub_len {s : Bytes} {a b : Nat} (h : a ≤ b) (hb : b ≤ s.length) : (sub s a b).length = b - a := by
  simp [sub]; omega
theorem sub_self (s : Bytes) (a : Nat) : sub s a a = [] := by simp [sub]
theorem sub_app {s : Bytes} {a b c : Nat} (h : a ≤ b) (h2 : b ≤ c) : sub s a b ++ sub s b c = sub s a c := by
  unfold sub
  have e : c - a = (b - a) + (c - b) := by omega
  rw [e, List.take_add, List.drop_drop]
  congr 3; omega
theorem sub_one {s : Bytes} {i : Nat} (h : i < s.length) : sub s i (i + 1) = [s.getD i 0] := by
  unfold sub
  rw [List.drop_eq_getElem_cons h, getD_lt h, show i + 1 - i = 1 by omega]; rfl
theorem sub_snoc {s : Bytes} {a i : Nat} (h0 : a ≤ i) (h : i < s.length) : sub s a i ++ [s.getD i 0] = sub s a (i + 1) := by
  rw [← sub_one h, sub_app h0 (by omega)]
/-- Where the row of letters ends. -/
theorem run_at {s : Bytes} : ∀ (n i k : Nat), k - i ≤ n → i ≤ k → k ≤ s.length → (∀ j, i ≤ j → j < k → inW (s.getD j 0) = true) → (k < s.length → inW (s.getD k 0) = false) →
    (s.drop i).takeWhile inW = sub s i k ∧ (s.drop i).dropWhile inW = s.drop k
  | 0, i, k, hn, h1, h2, h3, h4 => by
    have : i = k := by omega
    subst this
    rw [sub_self]
    by_cases h : i < s.length
    · have := h4 h
      rw [getD_lt h] at this
      rw [List.drop_eq_getElem_cons h, List.takeWhile_cons, List.dropWhile_cons, this]
      exact ⟨rfl, rfl⟩
    · rw [List.drop_of_length_le (by omega)]; exact ⟨rfl, rfl⟩
  | n + 1, i, k, hn, h1, h2, h3, h4 => by
    by_cases h : i = k
    · exact run_at 0 i k (by omega) h1 h2 h3 h4
    · have hi : i < s.length := by omega
      obtain ⟨e1, e2⟩ := run_at n (i + 1) k (by omega) (by omega) h2 (fun j hj hk => h3 j (by omega) hk) h4
      have hw := h3 i (Nat.le_refl _) (by omega)
      rw [← sub_app (s := s) (a := i) (b := i + 1) (c := k) (by omega) (by omega), sub_one hi, List.drop_eq_getElem_cons hi]
      rw [getD_lt hi] at hw ⊢
      rw [List.takeWhile_cons, List.dropWhile_cons, hw, if_pos rfl, if_pos rfl, e1, e2]
      exact ⟨rfl, rfl⟩
theorem step_other {s : Bytes} {i a : Nat} (h : i < s.length) (ha : a ≤ i) (hc : inW (s.getD i 0) = false) (out : List Tok) : toks (s.drop i) (sub s a i) out = toks (s.drop (i + 1)) (sub s a (i + 1)) out := by
  rw [← sub_snoc ha h, List.drop_eq_getElem_cons h]
  rw [getD_lt h] at hc ⊢
  rw [toks_other hc]
theorem step_row {s : Bytes} {i k a : Nat} (h : i < s.length) (ha : a ≤ i) (hk : i < k) (hkl : k ≤ s.length) (hr : ∀ j, i ≤ j → j < k → inW (s.getD j 0) = true) (he : k < s.length → inW (s.getD k 0) = false) (out : List Tok)
    (hw : isWd (midQ (sub s i k)) = false) : toks (s.drop i) (sub s a i) out = toks (s.drop k) (sub s a k) out := by
  obtain ⟨e1, e2⟩ := run_at (k - i) i k (Nat.le_refl _) (by omega) hkl hr he
  have hc := hr i (Nat.le_refl _) hk
  rw [List.drop_eq_getElem_cons h] at e1 e2 ⊢
  rw [getD_lt h] at hc
  rw [toks_row hc _ _ (by rw [e1, hw]; decide), e1, e2, sub_app ha (by omega)]
/-- The quotes ahead. -/
def preN (t : Bytes) : Nat := (preQ t).length
theorem preN_le (t : Bytes) : preN t + (midQ t).length ≤ t.length := by
  have := congrArg List.length (three t)
  simp only [List.length_append] at this
  unfold preN; omega
theorem step_word {s : Bytes} {i k a : Nat} (h : i < s.length) (ha : a ≤ i) (hk : i < k) (hkl : k ≤ s.length) (hr : ∀ j, i ≤ j → j < k → inW (s.getD j 0) = true) (he : k < s.length → inW (s.getD k 0) = false) (out : List Tok)
    (hw : isWd (midQ (sub s i k)) = true) : toks (s.drop i) (sub s a i) out = toks (s.drop k) (sub s (i + preN (sub s i k) + (midQ (sub s i k)).length) k) (flush out (sub s a (i + preN (sub s i k))) ++ [(midQ (sub s i k), true)]) := by
  obtain ⟨e1, e2⟩ := run_at (k - i) i k (Nat.le_refl _) (by omega) hkl hr he
  have hc := hr i (Nat.le_refl _) hk
  rw [List.drop_eq_getElem_cons h] at e1 e2 ⊢
  rw [getD_lt h] at hc
  rw [toks_word hc _ _ (by rw [e1, hw]), e1, e2]
  have h3 := three (sub s i k)
  have hle := preN_le (sub s i k)
  have hlen := sub_len (s := s) (a := i) (b := k) (by omega) hkl
  generalize hrow : sub s i k = row at *
  have p1 : preQ row = sub s i (i + preN row) := by
    have := congrArg (List.take (preN row)) h3
    rw [List.take_append_of_le_length (by simp [preN]), List.take_of_length_le (by simp [preN])] at this
    rw [this]; generalize preN row = q at *
    rw [← hrow]; unfold sub
    rw [List.take_take]; congr 1; omega
  have p2 : postQ (dropQ row) = sub s (i + preN row + (midQ row).length) k := by
    have := congrArg (List.drop (preN row + (midQ row).length)) h3
    rw [← List.append_assoc, List.drop_append_of_le_length (by simp [preN]), List.drop_of_length_le (by simp [preN]), List.nil_append] at this
    rw [this]; generalize preN row = q at *; generalize (midQ row).length = q2 at *
    rw [← hrow]; unfold sub
    rw [List.drop_take, List.drop_drop]; congr 1
    · omega
    · congr 1; omega
  rw [p2]
  conv => lhs; rw [p1]
  rw [sub_app ha (by omega)]

/-- Where the word is found. -/
theorem index_mid {t : Bytes} (h : midQ t ≠ []) : Lib.index t (midQ t) = preN t := by
  have h3 := three t
  have hd : t.drop (preN t) = midQ t ++ postQ (dropQ t) := by
    have := congrArg (List.drop (preN t)) h3
    rw [List.drop_append_of_le_length (by simp [preN]), List.drop_of_length_le (by simp [preN]), List.nil_append] at this
    exact this.symm
  have hle := preN_le t
  refine Lib.index_first (by omega) ?_ ?_
  · unfold Lib.occAt; rw [hd]
    rw [List.isPrefixOf_iff_prefix]; exact List.prefix_append _ _
  · intro j hj
    obtain ⟨c, m, hm⟩ : ∃ c m, midQ t = c :: m := by
      cases hq : midQ t with
      | nil => exact absurd hq h
      | cons c m => exact ⟨c, m, rfl⟩
    have hc : qu c = false := by
      have hdq : dropQ t = c :: (m ++ postQ (dropQ t)) := by
        have := mid_post (dropQ t)
        rw [← this]; show midQ t ++ _ = _; rw [hm]; simp [this]
      have := List.head?_dropWhile_not qu t
      rw [show t.dropWhile qu = dropQ t from rfl, hdq] at this
      simpa using this
    have hq : ∃ l, t.drop j = 39 :: l := by
      have hj2 : j < t.length := by omega
      refine ⟨t.drop (j + 1), ?_⟩
      rw [List.drop_eq_getElem_cons hj2]
      have hjp : j < (preQ t).length := hj
      have e : t[j] = (preQ t)[j] := by
        have hpre : preQ t <+: t := List.takeWhile_prefix _
        exact (List.IsPrefix.getElem hpre hjp).symm
      have hall : ∀ x, x ∈ preQ t → qu x = true := fun x hx => (List.all_eq_true.1 List.all_takeWhile) x hx
      have := hall _ (List.getElem_mem hjp)
      rw [e]; simp only [qu, decide_eq_true_eq] at this; rw [this]
    obtain ⟨l, hl⟩ := hq
    unfold Lib.occAt; rw [hl, hm]
    have : ¬ c = 39 := by simpa [qu] using hc
    simp [List.isPrefixOf, this]
end Go.Fv.V

/- Split. -/
namespace Go.Fv.V
open Go Go.Proofs
set_option linter.unusedSimpArgs false
set_option linter.unusedVariables false
set_option linter.unnecessarySimpa false
set_option maxRecDepth 8000

theorem lastW_nil : LastW [] := fun h => absurd h (by simp)
theorem lastW_snoc (l : List Tok) (m : Bytes) : LastW (l ++ [(m, true)]) := fun _ => by
  simp [List.getD]
structure SpI where
  i : Nat
  o : Nat
  out : List Tok
set_option maxHeartbeats 8000000 in
theorem split_ok (s : List UInt8) (hs : s.length ≤ 1048576) : FnOk Tryd.prog 21 [.str s] (.own 0) [(0, .row 51 (tkR (toks s [] [])))] := by
  refine FnOk.of_vc Tryd.func21 rfl (by decide) (by simp [Tryd.f21]) [.tmp 2] rfl fun w0 T0 _ => ?_
  simp only [Tryd.f21, argEnv]
  (repeat' first | with_reducible (first | intro _ | refine rc ?_ | refine rl ?_ | refine rh ?_ | refine rt ?_ | refine rf ?_ | refine rs ?_ | refine And.intro ?_ ?_) | omega | simp (maxSteps := 1000000) only [go_sem, simprocAttr, ↓reduceIte])
  refine VcLoop.intro (fun x : SpI => ⟨69, [(6, .int .i64 x.i), (5, .int .i64 x.o), (4, .fn 41 [.ptr 0 0]), (3, .ptr 0 0), (0, .str s)], [(0, .box 48 [.own 1]), (1, .row 51 (tkR x.out))], 2⟩) (fun x => x.o ≤ x.i ∧ x.i ≤ s.length ∧ toks (s.drop x.i) (sub s x.o x.i) x.out = toks s [] [] ∧ LastW x.out ∧ x.out.length ≤ 2 * x.i) (fun x => s.length - x.i) ⟨0, 0, []⟩ ?_ ⟨Nat.le_refl _, Nat.zero_le _, by rw [sub_self]; rfl, lastW_nil, Nat.le_refl _⟩ fun x hx => ?_
  · refine Ent.trans (Ent.nilBox (P := Tryd.prog) 1 0 51 e51 rfl rfl) (Ent.auto0 rfl ?_ ?_) <;> simp only [go_sem, reduceCtorEq, reduceIte, Nat.reduceEqDiff, Nat.reduceLT, Nat.reduceLeDiff, Int.natCast_succ, zrow, tkR, put, List.set_cons_zero, List.set_cons_succ, Nat.zero_mul, List.range_zero, List.map_nil, List.replicate_zero]
  obtain ⟨i, o, out⟩ := x
  obtain ⟨hoi, hil, ht, hL, hol⟩ := hx
  dsimp only at hoi hil ht hL hol ⊢
  (repeat' first | with_reducible (first | intro _ | refine rc ?_ | refine rl ?_ | refine rh ?_ | refine rt ?_ | refine rf ?_ | refine rs ?_ | refine And.intro ?_ ?_) | omega | simp (maxSteps := 1000000) only [go_sem, simprocAttr, ↓reduceIte, Int.toNat_natCast])
  · refine VcCall.fr (FnFr.of_ok (inWord_ok (s.getD i 0)) rfl rfl) (by simp only [noIdR_ok, argOkL, argOk, allOk, argOkN, List.drop_zero, lk, reduceIte, reduceCtorEq, Nat.reduceEqDiff, Option.some.injEq, Item.row.injEq, Item.box.injEq, AV.ro.injEq, exists_eq_left, exists_and_left, exists_eq_left', exists_eq_right, and_assoc, and_true, true_and, List.cons.injEq, exists_eq', exists_eq]) 0 rfl (by simp [rowsB]) ?_
    have hlt : i < s.length := by omega
    cases hc : inW (s.getD i 0) with
    | false =>
      (repeat' first | with_reducible (first | intro _ | refine rc ?_ | refine rl ?_ | refine rh ?_ | refine rt ?_ | refine rf ?_ | refine rs ?_ | refine And.intro ?_ ?_) | omega | simp (maxSteps := 1000000) only [go_sem, simprocAttr, ↓reduceIte, hc])
      refine ⟨⟨i + 1, o, out⟩, Ent.auto0 rfl ?_ ?_, ⟨Nat.le_succ_of_le hoi, hlt, ?_, hL, by dsimp only; omega⟩, by dsimp only; omega⟩
      · simp only [go_sem, reduceCtorEq, reduceIte, Nat.reduceEqDiff, Nat.reduceLT, Nat.reduceLeDiff, Int.natCast_succ]
      · simp only [go_sem, reduceCtorEq, reduceIte, Nat.reduceEqDiff, Nat.reduceLT, Nat.reduceLeDiff, Int.natCast_succ, tkR]
      · rw [← step_other hlt hoi hc]; exact ht
    | true =>
      (repeat' first | with_reducible (first | intro _ | refine rc ?_ | refine rl ?_ | refine rh ?_ | refine rt ?_ | refine rf ?_ | refine rs ?_ | refine And.intro ?_ ?_) | omega | simp (maxSteps := 1000000) only [go_sem, simprocAttr, ↓reduceIte, hc])
      refine VcLoop.intro (fun k : Nat => ⟨69, [(7, .int .i64 k), (6, .int .i64 i), (5, .int .i64 o), (4, .fn 41 [.ptr 0 0]), (3, .ptr 0 0), (0, .str s)], [(0, .box 48 [.own 1]), (1, .row 51 (tkR out))], 2⟩) (fun k => i ≤ k ∧ k ≤ s.length ∧ ∀ j, i ≤ j → j < k → inW (s.getD j 0) = true) (fun k => s.length - k) i ?_ ⟨Nat.le_refl _, hil, fun j h1 h2 => absurd h2 (by omega)⟩ fun k hk => ?_
      · refine Ent.auto0 rfl ?_ ?_ <;> simp only [go_sem, reduceCtorEq, reduceIte, Nat.reduceEqDiff, Nat.reduceLT, Nat.reduceLeDiff, Int.natCast_succ, tkR]
      obtain ⟨hk1, hk2, hr⟩ := hk
      by_cases hkl : k < s.length
      · have hkl2 : (k : Int) < s.length := by omega
        (repeat' first | with_reducible (first | intro _ | refine rc ?_ | refine rl ?_ | refine rh ?_ | refine rt ?_ | refine rf ?_ | refine rs ?_ | refine And.intro ?_ ?_) | omega | simp (maxSteps := 1000000) only [go_sem, simprocAttr, ↓reduceIte, hkl2, Int.toNat_natCast])
        refine VcCall.fr (FnFr.of_ok (inWord_ok (s.getD k 0)) rfl rfl) (by simp only [noIdR_ok, argOkL, argOk, allOk, argOkN, List.drop_zero, lk, reduceIte, reduceCtorEq, Nat.reduceEqDiff, Option.some.injEq, Item.row.injEq, Item.box.injEq, AV.ro.injEq, exists_eq_left, exists_and_left, exists_eq_left', exists_eq_right, and_assoc, and_true, true_and, List.cons.injEq, exists_eq', exists_eq]) 0 rfl (by simp [rowsB]) ?_
        cases hW : inW (s.getD k 0) with
        | true =>
          (repeat' first | with_reducible (first | intro _ | refine rc ?_ | refine rl ?_ | refine rh ?_ | refine rt ?_ | refine rf ?_ | refine rs ?_ | refine And.intro ?_ ?_) | omega | simp (maxSteps := 1000000) only [go_sem, simprocAttr, ↓reduceIte, hW])
          refine ⟨k + 1, Ent.auto0 rfl ?_ ?_, ⟨by omega, by omega, fun j h1 h2 => ?_⟩, by omega⟩
          · simp only [go_sem, reduceCtorEq, reduceIte, Nat.reduceEqDiff, Nat.reduceLT, Nat.reduceLeDiff, Int.natCast_succ]
          · simp only [go_sem, reduceCtorEq, reduceIte, Nat.reduceEqDiff, Nat.reduceLT, Nat.reduceLeDiff, Int.natCast_succ, tkR]
          · by_cases hj : j = k
            · rw [hj]; exact hW
            · exact hr j h1 (by omega)
        | false =>
          have he : k < s.length → inW (s.getD k 0) = false := fun _ => hW
          have hik : i < k := by
            by_cases h : i = k
            · subst h; exact absurd hc (by rw [hW]; decide)
            · omega
          obtain ⟨row, hR⟩ : ∃ row, (s.drop i).take (k - i) = row := ⟨_, rfl⟩
          have hR2 : sub s i k = row := hR
          have hrl : row.length = k - i := by rw [← hR2]; exact sub_len (by omega) (by omega)
          (repeat' first | with_reducible (first | intro _ | refine rc ?_ | refine rl ?_ | refine rh ?_ | refine rt ?_ | refine rf ?_ | refine rs ?_ | refine And.intro ?_ ?_) | omega | simp (maxSteps := 1000000) only [go_sem, simprocAttr, ↓reduceIte, hR, hW])
          refine VcCall.fr (FnFr.of_ok (trim_ok row (by omega)) rfl rfl) (by simp only [noIdR_ok, argOkL, argOk, allOk, argOkN, List.drop_zero, lk, reduceIte, reduceCtorEq, Nat.reduceEqDiff, Option.some.injEq, Item.row.injEq, Item.box.injEq, AV.ro.injEq, exists_eq_left, exists_and_left, exists_eq_left', exists_eq_right, and_assoc, and_true, true_and, List.cons.injEq, exists_eq', exists_eq]) 0 rfl (by simp [rowsB]) ?_
          (repeat' first | with_reducible (first | intro _ | refine rc ?_ | refine rl ?_ | refine rh ?_ | refine rt ?_ | refine rf ?_ | refine rs ?_ | refine And.intro ?_ ?_) | omega | simp (maxSteps := 1000000) only [go_sem, simprocAttr, ↓reduceIte])
          have hml := preN_le row
          refine VcCall.fr (FnFr.of_ok (isWord_ok (midQ row) (by omega)) rfl rfl) (by simp only [noIdR_ok, argOkL, argOk, allOk, argOkN, List.drop_zero, lk, reduceIte, reduceCtorEq, Nat.reduceEqDiff, Option.some.injEq, Item.row.injEq, Item.box.injEq, AV.ro.injEq, exists_eq_left, exists_and_left, exists_eq_left', exists_eq_right, and_assoc, and_true, true_and, List.cons.injEq, exists_eq', exists_eq]) 0 rfl (by simp [rowsB]) ?_
          cases hw : isWd (midQ row) with
          | false =>
            (repeat' first | with_reducible (first | intro _ | refine rc ?_ | refine rl ?_ | refine rh ?_ | refine rt ?_ | refine rf ?_ | refine rs ?_ | refine And.intro ?_ ?_) | omega | simp (maxSteps := 1000000) only [go_sem, simprocAttr, ↓reduceIte, hw])
            refine ⟨⟨k, o, out⟩, Ent.auto0 rfl ?_ ?_, ⟨by dsimp only; omega, hk2, ?_, hL, by dsimp only; omega⟩, by dsimp only; omega⟩
            · simp only [go_sem, reduceCtorEq, reduceIte, Nat.reduceEqDiff, Nat.reduceLT, Nat.reduceLeDiff, Int.natCast_succ]
            · simp only [go_sem, reduceCtorEq, reduceIte, Nat.reduceEqDiff, Nat.reduceLT, Nat.reduceLeDiff, Int.natCast_succ, tkR]
            · rw [← step_row hlt hoi hik hk2 hr he out (by rw [hR2]; exact hw)]; exact ht
          | true =>
            have hne : midQ row ≠ [] := by
              intro h; rw [h, isWd_nil] at hw; cases hw
            have kI := index_ok row (midQ row) (by omega)
            rw [index_mid hne] at kI
            have hst := step_word hlt hoi hik hk2 hr he out (by rw [hR2]; exact hw)
            rw [hR2] at hst
            have eF : ((i : Int) + (preN row : Int)).toNat = i + preN row := by omega
            obtain ⟨p, hp⟩ : ∃ p, preN row = p := ⟨_, rfl⟩
            rw [hp] at kI hst eF hml
            have hbl := sub_len (s := s) (a := o) (b := i + p) (by omega) (by omega)
            obtain ⟨b, hb⟩ : ∃ b, sub s o (i + p) = b := ⟨_, rfl⟩
            rw [hb] at hst hbl
            have hb2 : (s.drop o).take (i + p - o) = b := hb
            have k1 := add_ok out b false (by omega) (fun _ => hL)
            have k2 := add_ok (addT out b false) (midQ row) true (by have := addT_len out b false; omega) (fun h => by cases h)
            rw [show addT (addT out b false) (midQ row) true = flush out b ++ [(midQ row, true)] from if_neg hne] at k2
            generalize midQ row = m at *
            (repeat' first | with_reducible (first | intro _ | refine rc ?_ | refine rl ?_ | refine rh ?_ | refine rt ?_ | refine rf ?_ | refine rs ?_ | refine And.intro ?_ ?_) | omega | simp (maxSteps := 1000000) only [go_sem, simprocAttr, ↓reduceIte, hw])
            refine VcCall.k kI ?_
            (repeat' first | with_reducible (first | intro _ | refine rc ?_ | refine rl ?_ | refine rh ?_ | refine rt ?_ | refine rf ?_ | refine rs ?_ | refine And.intro ?_ ?_) | omega | simp (maxSteps := 1000000) only [go_sem, simprocAttr, ↓reduceIte, eF, hb2, Int.toNat_natCast])
            refine VcCall.io [0, 1] k1 (by decide) (by simp [renL, ren, ioN]) rfl (by simp [subOk, ioN, lk, Item.ren, Item.below, ren, renL, belowL, Fv.below, tkR, renR_ok, belowR_ok]) covA2 3 (by decide) rfl (by simp [rowsB, Item.below, Fv.below, belowL, tkR, belowR_ok]) ?_
            (repeat' first | with_reducible (first | intro _ | refine rc ?_ | refine rl ?_ | refine rh ?_ | refine rt ?_ | refine rf ?_ | refine rs ?_ | refine And.intro ?_ ?_) | omega | simp (maxSteps := 1000000) only [go_sem, simprocAttr, ↓reduceIte, S.ioS, ioRows, ioN, delL, Item.ren, ren, renL, tkR, List.length_cons, List.length_nil, List.getElem?_cons_zero, List.getElem?_cons_succ, List.getElem?_nil, List.cons_append, List.nil_append, Nat.reduceAdd, Nat.sub_self, Nat.add_zero, List.filter, eF, hb2])
            refine VcCall.io [0, 2] k2 (by decide) (by simp [renL, ren, ioN]) rfl (by simp [subOk, ioN, lk, Item.ren, Item.below, ren, renL, belowL, Fv.below, tkR, renR_ok, belowR_ok]) covA2 3 (by decide) rfl (by simp [rowsB, Item.below, Fv.below, belowL, tkR, belowR_ok]) ?_
            (repeat' first | with_reducible (first | intro _ | refine rc ?_ | refine rl ?_ | refine rh ?_ | refine rt ?_ | refine rf ?_ | refine rs ?_ | refine And.intro ?_ ?_) | omega | simp (maxSteps := 1000000) only [go_sem, simprocAttr, ↓reduceIte, S.ioS, ioRows, ioN, delL, Item.ren, ren, renL, tkR, List.length_cons, List.length_nil, List.getElem?_cons_zero, List.getElem?_cons_succ, List.getElem?_nil, List.cons_append, List.nil_append, Nat.reduceAdd, Nat.sub_self, Nat.add_zero, List.filter])
            refine ⟨⟨k, i + p + m.length, flush out b ++ [(m, true)]⟩, Ent.auto0 rfl ?_ ?_, ⟨by dsimp only; omega, hk2, ?_, lastW_snoc _ _, ?_⟩, by dsimp only; omega⟩
            · simp only [go_sem, reduceCtorEq, reduceIte, Nat.reduceEqDiff, Nat.reduceLT, Nat.reduceLeDiff, Int.natCast_succ, Int.natCast_add]
            · simp only [go_sem, reduceCtorEq, reduceIte, Nat.reduceEqDiff, Nat.reduceLT, Nat.reduceLeDiff, Int.natCast_succ, tkR]
            · rw [← hst]; exact ht
            · have := addT_len out b false
              show (addT out b false ++ [(m, true)]).length ≤ 2 * k
              rw [List.length_append, List.length_singleton]; omega
      · have hkl2 : ¬ (k : Int) < s.length := by omega
        have he : k < s.length → inW (s.getD k 0) = false := fun h => absurd h hkl
        have hik : i < k := by
          by_cases h : i = k
          · subst h; exact absurd hc (by omega)
          · omega
        obtain ⟨row, hR⟩ : ∃ row, (s.drop i).take (k - i) = row := ⟨_, rfl⟩
        have hR2 : sub s i k = row := hR
        have hrl : row.length = k - i := by rw [← hR2]; exact sub_len (by omega) (by omega)
        (repeat' first | with_reducible (first | intro _ | refine rc ?_ | refine rl ?_ | refine rh ?_ | refine rt ?_ | refine rf ?_ | refine rs ?_ | refine And.intro ?_ ?_) | omega | simp (maxSteps := 1000000) only [go_sem, simprocAttr, ↓reduceIte, hR, hkl2])
        refine VcCall.fr (FnFr.of_ok (trim_ok row (by omega)) rfl rfl) (by simp only [noIdR_ok, argOkL, argOk, allOk, argOkN, List.drop_zero, lk, reduceIte, reduceCtorEq, Nat.reduceEqDiff, Option.some.injEq, Item.row.injEq, Item.box.injEq, AV.ro.injEq, exists_eq_left, exists_and_left, exists_eq_left', exists_eq_right, and_assoc, and_true, true_and, List.cons.injEq, exists_eq', exists_eq]) 0 rfl (by simp [rowsB]) ?_
        (repeat' first | with_reducible (first | intro _ | refine rc ?_ | refine rl ?_ | refine rh ?_ | refine rt ?_ | refine rf ?_ | refine rs ?_ | refine And.intro ?_ ?_) | omega | simp (maxSteps := 1000000) only [go_sem, simprocAttr, ↓reduceIte])
        have hml := preN_le row
        refine VcCall.fr (FnFr.of_ok (isWord_ok (midQ row) (by omega)) rfl rfl) (by simp only [noIdR_ok, argOkL, argOk, allOk, argOkN, List.drop_zero, lk, reduceIte, reduceCtorEq, Nat.reduceEqDiff, Option.some.injEq, Item.row.injEq, Item.box.injEq, AV.ro.injEq, exists_eq_left, exists_and_left, exists_eq_left', exists_eq_right, and_assoc, and_true, true_and, List.cons.injEq, exists_eq', exists_eq]) 0 rfl (by simp [rowsB]) ?_
        cases hw : isWd (midQ row) with
        | false =>
          (repeat' first | with_reducible (first | intro _ | refine rc ?_ | refine rl ?_ | refine rh ?_ | refine rt ?_ | refine rf ?_ | refine rs ?_ | refine And.intro ?_ ?_) | omega | simp (maxSteps := 1000000) only [go_sem, simprocAttr, ↓reduceIte, hw])
          refine ⟨⟨k, o, out⟩, Ent.auto0 rfl ?_ ?_, ⟨by dsimp only; omega, hk2, ?_, hL, by dsimp only; omega⟩, by dsimp only; omega⟩
          · simp only [go_sem, reduceCtorEq, reduceIte, Nat.reduceEqDiff, Nat.reduceLT, Nat.reduceLeDiff, Int.natCast_succ]
          · simp only [go_sem, reduceCtorEq, reduceIte, Nat.reduceEqDiff, Nat.reduceLT, Nat.reduceLeDiff, Int.natCast_succ, tkR]
          · rw [← step_row hlt hoi hik hk2 hr he out (by rw [hR2]; exact hw)]; exact ht
        | true =>
          have hne : midQ row ≠ [] := by
            intro h; rw [h, isWd_nil] at hw; cases hw
          have kI := index_ok row (midQ row) (by omega)
          rw [index_mid hne] at kI
          have hst := step_word hlt hoi hik hk2 hr he out (by rw [hR2]; exact hw)
          rw [hR2] at hst
          have eF : ((i : Int) + (preN row : Int)).toNat = i + preN row := by omega
          obtain ⟨p, hp⟩ : ∃ p, preN row = p := ⟨_, rfl⟩
          rw [hp] at kI hst eF hml
          have hbl := sub_len (s := s) (a := o) (b := i + p) (by omega) (by omega)
          obtain ⟨b, hb⟩ : ∃ b, sub s o (i + p) = b := ⟨_, rfl⟩
          rw [hb] at hst hbl
          have hb2 : (s.drop o).take (i + p - o) = b := hb
          have k1 := add_ok out b false (by omega) (fun _ => hL)
          have k2 := add_ok (addT out b false) (midQ row) true (by have := addT_len out b false; omega) (fun h => by cases h)
          rw [show addT (addT out b false) (midQ row) true = flush out b ++ [(midQ row, true)] from if_neg hne] at k2
          generalize midQ row = m at *
          (repeat' first | with_reducible (first | intro _ | refine rc ?_ | refine rl ?_ | refine rh ?_ | refine rt ?_ | refine rf ?_ | refine rs ?_ | refine And.intro ?_ ?_) | omega | simp (maxSteps := 1000000) only [go_sem, simprocAttr, ↓reduceIte, hw])
          refine VcCall.k kI ?_
          (repeat' first | with_reducible (first | intro _ | refine rc ?_ | refine rl ?_ | refine rh ?_ | refine rt ?_ | refine rf ?_ | refine rs ?_ | refine And.intro ?_ ?_) | omega | simp (maxSteps := 1000000) only [go_sem, simprocAttr, ↓reduceIte, eF, hb2, Int.toNat_natCast])
          refine VcCall.io [0, 1] k1 (by decide) (by simp [renL, ren, ioN]) rfl (by simp [subOk, ioN, lk, Item.ren, Item.below, ren, renL, belowL, Fv.below, tkR, renR_ok, belowR_ok]) covA2 3 (by decide) rfl (by simp [rowsB, Item.below, Fv.below, belowL, tkR, belowR_ok]) ?_
          (repeat' first | with_reducible (first | intro _ | refine rc ?_ | refine rl ?_ | refine rh ?_ | refine rt ?_ | refine rf ?_ | refine rs ?_ | refine And.intro ?_ ?_) | omega | simp (maxSteps := 1000000) only [go_sem, simprocAttr, ↓reduceIte, S.ioS, ioRows, ioN, delL, Item.ren, ren, renL, tkR, List.length_cons, List.length_nil, List.getElem?_cons_zero, List.getElem?_cons_succ, List.getElem?_nil, List.cons_append, List.nil_append, Nat.reduceAdd, Nat.sub_self, Nat.add_zero, List.filter, eF, hb2])
          refine VcCall.io [0, 2] k2 (by decide) (by simp [renL, ren, ioN]) rfl (by simp [subOk, ioN, lk, Item.ren, Item.below, ren, renL, belowL, Fv.below, tkR, renR_ok, belowR_ok]) covA2 3 (by decide) rfl (by simp [rowsB, Item.below, Fv.below, belowL, tkR, belowR_ok]) ?_
          (repeat' first | with_reducible (first | intro _ | refine rc ?_ | refine rl ?_ | refine rh ?_ | refine rt ?_ | refine rf ?_ | refine rs ?_ | refine And.intro ?_ ?_) | omega | simp (maxSteps := 1000000) only [go_sem, simprocAttr, ↓reduceIte, S.ioS, ioRows, ioN, delL, Item.ren, ren, renL, tkR, List.length_cons, List.length_nil, List.getElem?_cons_zero, List.getElem?_cons_succ, List.getElem?_nil, List.cons_append, List.nil_append, Nat.reduceAdd, Nat.sub_self, Nat.add_zero, List.filter])
          refine ⟨⟨k, i + p + m.length, flush out b ++ [(m, true)]⟩, Ent.auto0 rfl ?_ ?_, ⟨by dsimp only; omega, hk2, ?_, lastW_snoc _ _, ?_⟩, by dsimp only; omega⟩
          · simp only [go_sem, reduceCtorEq, reduceIte, Nat.reduceEqDiff, Nat.reduceLT, Nat.reduceLeDiff, Int.natCast_succ, Int.natCast_add]
          · simp only [go_sem, reduceCtorEq, reduceIte, Nat.reduceEqDiff, Nat.reduceLT, Nat.reduceLeDiff, Int.natCast_succ, tkR]
          · rw [← hst]; exact ht
          · have := addT_len out b false
            show (addT out b false ++ [(m, true)]).length ≤ 2 * k
            rw [List.length_append, List.length_singleton]; omega
  · have e : i = s.length := by omega
    subst e
    rw [List.drop_of_length_le (Nat.le_refl _), toks_nil] at ht
    obtain ⟨b, hb⟩ : ∃ b, sub s o s.length = b := ⟨_, rfl⟩
    have hb2 : (s.drop o).take (s.length - o) = b := hb
    have hbl := sub_len (s := s) (a := o) (b := s.length) hoi (Nat.le_refl _)
    rw [hb] at hbl ht
    have k1 := add_ok out b false (by omega) (fun _ => hL)
    rw [show addT out b false = toks s [] [] from ht] at k1
    rw [hb2]
    refine VcCall.io [0, 1] k1 (by decide) (by simp [renL, ren, ioN]) rfl (by simp [subOk, ioN, lk, Item.ren, Item.below, ren, renL, belowL, Fv.below, tkR, renR_ok, belowR_ok]) covA2 3 (by decide) rfl (by simp [rowsB, Item.below, Fv.below, belowL, tkR, belowR_ok]) ?_
    (repeat' first | with_reducible (first | intro _ | refine rc ?_ | refine rl ?_ | refine rh ?_ | refine rt ?_ | refine rf ?_ | refine rs ?_ | refine And.intro ?_ ?_) | omega | simp (maxSteps := 1000000) only [go_sem, simprocAttr, ↓reduceIte, S.ioS, ioRows, ioN, delL, Item.ren, ren, renL, tkR, List.length_cons, List.length_nil, List.getElem?_cons_zero, List.getElem?_cons_succ, List.getElem?_nil, List.cons_append, List.nil_append, Nat.reduceAdd, Nat.sub_self, Nat.add_zero, List.filter, hb2])
    refine Ret.auto 1 ?_ rfl ?_ <;> simp only [go_sem, reduceCtorEq, reduceIte, Nat.reduceEqDiff, Nat.reduceLT, Nat.reduceLeDiff, Int.natCast_succ, Post, tkR]
end Go.Fv.V

/- How many tokens there are. -/
namespace Go.Fv.V
open Go
set_option linter.unusedSimpArgs false
set_option linter.unusedVariables false
set_option linter.unnecessarySimpa false

theorem flush_len (out : List Tok) (b : Bytes) : (flush out b).length ≤ out.length + 1 := by
  unfold flush; split <;> simp
theorem toks_len : ∀ (n : Nat) (s btw : Bytes) (out : List Tok), s.length ≤ n → (toks s btw out).length ≤ out.length + 2 * s.length + 1
  | 0, s, btw, out, h => by
    have : s = [] := List.eq_nil_of_length_eq_zero (by omega)
    subst this
    rw [toks_nil]; have := flush_len out btw; simp; omega
  | n + 1, [], btw, out, h => by rw [toks_nil]; have := flush_len out btw; simp; omega
  | n + 1, c :: s, btw, out, h => by
    cases hc : inW c with
    | false =>
      rw [toks_other hc]
      have := toks_len n s (btw ++ [c]) out (by simpa using h)
      simp only [List.length_cons]; omega
    | true =>
      have hd := drop_lt (s := s) hc
      by_cases hw : isWd (midQ ((c :: s).takeWhile inW)) = true
      · rw [toks_word hc _ _ hw]
        have h1 := toks_len n ((c :: s).dropWhile inW) (postQ (dropQ ((c :: s).takeWhile inW))) (flush out (btw ++ preQ ((c :: s).takeWhile inW)) ++ [(midQ ((c :: s).takeWhile inW), true)]) (by omega)
        have h2 := flush_len out (btw ++ preQ ((c :: s).takeWhile inW))
        simp only [List.length_append, List.length_singleton] at h1
        omega
      · rw [toks_row hc _ _ hw]
        have h1 := toks_len n ((c :: s).dropWhile inW) (btw ++ (c :: s).takeWhile inW) out (by omega)
        omega
end Go.Fv.V

/- wordsOf. -/
namespace Go.Fv.V
open Go Go.Proofs
set_option linter.unusedSimpArgs false
set_option linter.unusedVariables false
set_option linter.unnecessarySimpa false
set_option maxRecDepth 8000

def wds (l : List Tok) : List Bytes := (l.filter (·.2)).map (·.1)
theorem wds_take (l : List Tok) {i : Nat} (h : i < l.length) : wds (l.take (i + 1)) = wds (l.take i) ++ (if (l.getD i ([], false)).2 = true then [(l.getD i ([], false)).1] else []) := by
  rw [List.take_succ_eq_append_getElem h, getD_lt h]
  unfold wds
  rw [List.filter_append, List.map_append]
  congr 1
  by_cases hw : (l[i]).2 = true
  · rw [if_pos hw]; simp [hw]
  · rw [if_neg hw]; simp [hw]
theorem wds_len (l : List Tok) : (wds l).length ≤ l.length := by
  unfold wds; rw [List.length_map]; exact List.length_filter_le _ _
set_option maxHeartbeats 4000000 in
theorem wordsOf_ok (s : List UInt8) (hs : s.length ≤ 1048576) (l : List Tok) (hl : toks s [] [] = l) : FnOk Tryd.prog 29 [.str s] (.own 0) [(0, .row 9 (.strs (wds l)))] := by
  have c1 := split_ok s hs
  rw [hl] at c1
  have hll := toks_len _ s [] [] (Nat.le_refl _)
  rw [hl] at hll
  simp only [List.length_nil] at hll
  refine FnOk.of_vc Tryd.func29 rfl (by decide) (by simp [Tryd.f29]) [.tmp 2] rfl fun w0 T0 _ => ?_
  simp only [Tryd.f29, argEnv]
  (repeat' first | with_reducible (first | intro _ | refine rc ?_ | refine rl ?_ | refine rh ?_ | refine rt ?_ | refine rf ?_ | refine rs ?_ | refine And.intro ?_ ?_) | omega | simp (maxSteps := 1000000) only [go_sem, simprocAttr, ↓reduceIte])
  refine VcCall.ro (.ro (tkR l)) (FnFr.of_ok c1 rfl (by simp [noRoRows, noRoItem, noRoRow, noRoL, noRo, tkR, tkAv])) (by simp only [noIdR_ok, argOkL, argOk, allOk, argOkN, List.drop_zero, lk, reduceIte, reduceCtorEq, Nat.reduceEqDiff, Option.some.injEq, Item.row.injEq, Item.box.injEq, AV.ro.injEq, exists_eq_left, exists_and_left, exists_eq_left', exists_eq_right, and_assoc, and_true, true_and, List.cons.injEq, exists_eq', exists_eq]) (by simp [outOk, argOkL, allOk, argOk, argOkN, lk, noIdR_ok, tkR]) rfl ?_
  (repeat' first | with_reducible (first | intro _ | refine rc ?_ | refine rl ?_ | refine rh ?_ | refine rt ?_ | refine rf ?_ | refine rs ?_ | refine And.intro ?_ ?_) | omega | simp (maxSteps := 1000000) only [go_sem, simprocAttr, ↓reduceIte, tkR, List.length_map])
  refine VcLoop.intro (fun i : Nat => ⟨22, [(9, .int .i64 i), (8, .int .i64 l.length), (7, .ro (tkR l)), (3, .own 0)], [(0, .row 9 (.strs (wds (l.take i))))], 1⟩) (fun i => i ≤ l.length) (fun i => l.length - i) 0 ?_ (Nat.zero_le _) fun i hi => ?_
  · refine Ent.auto0 rfl ?_ ?_
    · simp only [go_sem, reduceCtorEq, reduceIte, Nat.reduceEqDiff, Nat.reduceLT, Nat.reduceLeDiff, Int.natCast_succ, tkR]
    · simp only [go_sem, reduceCtorEq, reduceIte, Nat.reduceEqDiff, Nat.reduceLT, Nat.reduceLeDiff, Int.natCast_succ, tkR]
      rfl
  by_cases hlt : i < l.length
  · have hel := tk_elem l hlt
    have hst := wds_take l hlt
    have hwl := wds_len (l.take i)
    have hwl2 : (l.take i).length ≤ l.length := by simp; omega
    generalize l.getD i ([], false) = z at *
    obtain ⟨z1, z2⟩ := z
    dsimp only at hel hst
    cases z2 with
    | true =>
      rw [if_pos rfl] at hst
      (repeat' first | with_reducible (first | intro _ | refine rc ?_ | refine rl ?_ | refine rh ?_ | refine rt ?_ | refine rf ?_ | refine rs ?_ | refine And.intro ?_ ?_) | omega | simp (maxSteps := 1000000) only [go_sem, simprocAttr, ↓reduceIte, elemA, hel, tkR, List.length_map])
      refine ⟨i + 1, Ent.auto0 rfl ?_ ?_, by omega, by omega⟩ <;> simp only [go_sem, reduceCtorEq, reduceIte, Nat.reduceEqDiff, Nat.reduceLT, Nat.reduceLeDiff, Int.natCast_succ, tkR, hst]
    | false =>
      rw [if_neg (by decide), List.append_nil] at hst
      (repeat' first | with_reducible (first | intro _ | refine rc ?_ | refine rl ?_ | refine rh ?_ | refine rt ?_ | refine rf ?_ | refine rs ?_ | refine And.intro ?_ ?_) | omega | simp (maxSteps := 1000000) only [go_sem, simprocAttr, ↓reduceIte, elemA, hel, tkR, List.length_map])
      refine ⟨i + 1, Ent.auto0 rfl ?_ ?_, by omega, by omega⟩ <;> simp only [go_sem, reduceCtorEq, reduceIte, Nat.reduceEqDiff, Nat.reduceLT, Nat.reduceLeDiff, Int.natCast_succ, tkR, hst]
  · have e : i = l.length := by omega
    subst e
    (repeat' first | with_reducible (first | intro _ | refine rc ?_ | refine rl ?_ | refine rh ?_ | refine rt ?_ | refine rf ?_ | refine rs ?_ | refine And.intro ?_ ?_) | omega | simp (maxSteps := 1000000) only [go_sem, simprocAttr, ↓reduceIte, tkR, List.length_map])
    refine Ret.auto 1 ?_ rfl ?_ <;> simp only [go_sem, reduceCtorEq, reduceIte, Nat.reduceEqDiff, Nat.reduceLT, Nat.reduceLeDiff, Int.natCast_succ, Post, List.take_of_length_le, Nat.le_refl]
end Go.Fv.V

/- A text is one word just where its tokens are that word alone; small letters. -/
namespace Go.Fv.V
open Go
set_option linter.unusedSimpArgs false
set_option linter.unusedVariables false
set_option linter.unnecessarySimpa false

/-- Each word among the tokens is a word. -/
def WordsOk (l : List Tok) : Prop := ∀ t, t ∈ l → t.2 = true → isWd t.1 = true
theorem WordsOk.flush {l : List Tok} (h : WordsOk l) (b : Bytes) : WordsOk (flush l b) := by
  unfold Go.Fv.V.flush
  split
  · exact h
  · intro t ht hw
    rcases List.mem_append.1 ht with h1 | h1
    · exact h t h1 hw
    · simp at h1; subst h1; cases hw
/-- A to Z made small. -/
def smallB (c : UInt8) : UInt8 := if 65 ≤ c.toNat ∧ c.toNat ≤ 90 then c + 32 else c
def smallL (s : Bytes) : Bytes := s.map smallB
end Go.Fv.V

/- The reference's way to cut the quotes. -/
namespace Go.Fv.V
open Go
set_option linter.unusedSimpArgs false
set_option linter.unusedVariables false
set_option linter.unnecessarySimpa false

theorem preN_eq (t : Bytes) : t.length - (dropQ t).length = preN t := by
  have := congrArg List.length (pre_drop t)
  simp only [List.length_append] at this
  unfold preN; omega
theorem pre_of {r q t : Bytes} (h : r ++ q = t) (h2 : dropQ r ≠ []) : preQ t = preQ r := by
  subst h
  have := congrArg List.length (pre_drop r)
  have h3 : 0 < (dropQ r).length := List.length_pos_iff.2 h2
  simp only [List.length_append] at this
  unfold preQ at this ⊢
  rw [List.takeWhile_append, if_neg (by omega)]
theorem pre_all {r q t : Bytes} (h : r ++ q = t) (h2 : dropQ r = []) : r.length ≤ preN t := by
  subst h
  have := congrArg List.length (pre_drop r)
  rw [h2] at this
  simp only [List.length_append, List.length_nil] at this
  unfold preN preQ at *
  rw [List.takeWhile_append, if_pos (by omega)]
  simp
theorem cut_none {t : Bytes} (h : midQ t = []) : (dropR t).length ≤ preN t := by
  rw [← midQ_eq] at h
  exact pre_all (mid_post t) h
theorem cut_some {t : Bytes} (h : midQ t ≠ []) : (dropR t).length = preN t + (midQ t).length := by
  have h' := h
  rw [← midQ_eq] at h'
  have := pre_of (mid_post t) h'
  have h3 := congrArg List.length (pre_drop (dropR t))
  rw [midQ_eq, ← this] at h3
  simp only [List.length_append] at h3
  unfold preN; omega
theorem cut_parts {t : Bytes} {a b : Nat} (ha : preN t = a) (hb : a + (midQ t).length = b) : t.take a = preQ t ∧ (t.drop a).take (b - a) = midQ t ∧ t.drop b = postQ (dropQ t) := by
  have h3 := three t
  have e1 : preN t = (preQ t).length := rfl
  generalize preQ t = x at *
  generalize midQ t = y at *
  generalize postQ (dropQ t) = z at *
  rw [← h3]
  have e2 : a = x.length := by omega
  subst e2
  refine ⟨?_, ?_, ?_⟩
  · rw [List.take_append_of_le_length (Nat.le_refl _), List.take_of_length_le (Nat.le_refl _)]
  · rw [List.drop_append_of_le_length (Nat.le_refl _), List.drop_of_length_le (Nat.le_refl _), List.nil_append, List.take_append_of_le_length (by omega), List.take_of_length_le (by omega)]
  · rw [← List.append_assoc, List.drop_append_of_le_length (by simp; omega), List.drop_of_length_le (by simp; omega), List.nil_append]
theorem inW_ne {c : UInt8} (h : inW c = true) (h2 : qu c = false) : isL c = true := by
  unfold inW at h
  have : ¬ c = 39 := by simpa [qu] using h2
  simpa [this] using h
theorem midQ_head {t : Bytes} (h : midQ t ≠ []) : qu ((midQ t).getD 0 0) = false := by
  have e := midQ_eq t
  have h2 := List.head?_dropWhile_not qu (dropR t)
  rw [show (dropR t).dropWhile qu = dropQ (dropR t) from rfl, e] at h2
  cases hm : midQ t with
  | nil => exact absurd hm h
  | cons c l => rw [hm] at h2; simpa using h2
theorem midQ_last {t : Bytes} (h : midQ t ≠ []) : qu ((midQ t).getD ((midQ t).length - 1) 0) = false := by
  have h2 := List.head?_dropWhile_not qu (dropQ t).reverse
  have e : ((dropQ t).reverse.dropWhile qu) = (midQ t).reverse := by unfold midQ dropR; rw [List.reverse_reverse]
  rw [e, List.head?_reverse] at h2
  rw [List.getLast?_eq_getElem?] at h2
  have hl : 0 < (midQ t).length := List.length_pos_iff.2 h
  rw [List.getElem?_eq_getElem (by omega)] at h2
  rw [getD_lt (by omega)]
  simpa using h2
theorem midQ_mem {t : Bytes} {x : UInt8} (h : x ∈ midQ t) : x ∈ t := by
  rw [← three t]; simp [h]
/-- Of a row of letters and quotes, a word is what is not too long. -/
theorem isWd_row {t : Bytes} (ha : t.all inW = true) : isWd (midQ t) = true ↔ midQ t ≠ [] ∧ (midQ t).length ≤ 40 := by
  constructor
  · intro h
    refine ⟨fun e => ?_, ?_⟩
    · rw [e, isWd_nil] at h; cases h
    · by_cases h2 : 40 < ((midQ t).length : Int)
      · rw [isWd_long h2] at h; cases h
      · omega
  · rintro ⟨h1, h2⟩
    rw [isWd_mid h1 (by omega)]
    have hl : 0 < (midQ t).length := List.length_pos_iff.2 h1
    rw [List.all_eq_true] at ha
    have hin : ∀ j, j < (midQ t).length → inW ((midQ t).getD j 0) = true := fun j hj => by
      rw [getD_lt hj]; exact ha _ (midQ_mem (List.getElem_mem hj))
    rw [inW_ne (hin 0 hl) (midQ_head h1), inW_ne (hin _ (by omega)) (midQ_last h1), all_of hin]; rfl
theorem cut_dec {t : Bytes} (ha : t.all inW = true) : (preN t ≥ (dropR t).length ∨ (dropR t).length - preN t > 40) ↔ isWd (midQ t) = false := by
  rw [← Bool.not_eq_true, isWd_row ha]
  by_cases h : midQ t = []
  · have := cut_none h
    simp [h]; omega
  · have := cut_some h
    have hl : 0 < (midQ t).length := List.length_pos_iff.2 h
    simp only [h, ne_eq, not_false_eq_true, true_and]; omega
theorem takeW_all (u : Bytes) : (u.takeWhile inW).all inW = true := List.all_takeWhile
end Go.Fv.V

/- Words of texts, counted and put in order. Plain law. -/
namespace Go.Fv.V
open Go
set_option linter.unusedSimpArgs false
set_option linter.unusedVariables false
set_option linter.unnecessarySimpa false

theorem flush_words {out : List Tok} {b : Bytes} (h : ∀ t, t ∈ out → t.2 = true → isWd t.1 = true) : ∀ t, t ∈ flush out b → t.2 = true → isWd t.1 = true := by
  unfold flush; split
  · exact h
  · intro t ht h2
    rcases List.mem_append.1 ht with ht | ht
    · exact h t ht h2
    · rw [List.mem_singleton.1 ht] at h2; cases h2
/-- Tokens that are words are words. -/
theorem toks_isWd : ∀ (n : Nat) (s btw : Bytes) (out : List Tok), s.length ≤ n → (∀ t, t ∈ out → t.2 = true → isWd t.1 = true) → ∀ t, t ∈ toks s btw out → t.2 = true → isWd t.1 = true
  | 0, s, btw, out, h, ho => by
    have : s = [] := List.eq_nil_of_length_eq_zero (by omega)
    subst this
    rw [toks_nil]; exact flush_words ho
  | n + 1, [], btw, out, h, ho => by rw [toks_nil]; exact flush_words ho
  | n + 1, c :: s, btw, out, h, ho => by
    cases hc : inW c with
    | false =>
      rw [toks_other hc]
      exact toks_isWd n s (btw ++ [c]) out (by simpa using h) ho
    | true =>
      have hd := drop_lt (s := s) hc
      by_cases hw : isWd (midQ ((c :: s).takeWhile inW)) = true
      · rw [toks_word hc _ _ hw]
        refine toks_isWd n ((c :: s).dropWhile inW) _ _ (by omega) fun t ht h2 => ?_
        rcases List.mem_append.1 ht with ht | ht
        · exact flush_words ho t ht h2
        · rw [List.mem_singleton.1 ht]; exact hw
      · rw [toks_row hc _ _ hw]
        exact toks_isWd n ((c :: s).dropWhile inW) _ out (by omega) ho
def wordsIn (s : Bytes) : List Bytes := (wds (toks s [] [])).map smallL
def wordsAll (T : List Bytes) : List Bytes := T.flatMap wordsIn
def lenSum (T : List Bytes) : Nat := (T.map List.length).sum
theorem lenSum_take {T : List Bytes} {i : Nat} (h : i < T.length) : lenSum (T.take (i + 1)) = lenSum (T.take i) + (T.getD i []).length := by
  unfold lenSum
  rw [List.take_succ_eq_append_getElem h, getD_lt h, List.map_append, List.sum_append]; simp
theorem lenSum_le (T : List Bytes) (i : Nat) : lenSum (T.take i) ≤ lenSum T := by
  have : lenSum T = lenSum (T.take i) + lenSum (T.drop i) := by
    unfold lenSum
    rw [← List.sum_append, ← List.map_append, List.take_append_drop]
  omega
theorem wordsAll_take {T : List Bytes} {i : Nat} (h : i < T.length) : wordsAll (T.take (i + 1)) = wordsAll (T.take i) ++ wordsIn (T.getD i []) := by
  unfold wordsAll
  rw [List.take_succ_eq_append_getElem h, getD_lt h, List.flatMap_append]; simp
theorem wordsIn_len (s : Bytes) : (wordsIn s).length ≤ 2 * s.length + 1 := by
  unfold wordsIn
  have h1 := wds_len (toks s [] [])
  have h2 := toks_len _ s [] [] (Nat.le_refl _)
  rw [List.length_map]
  simp only [List.length_nil] at h2
  omega
theorem wordsAll_len (T : List Bytes) : (wordsAll T).length ≤ 2 * lenSum T + T.length := by
  induction T with
  | nil => simp [wordsAll, lenSum]
  | cons s T ih =>
    have h := wordsIn_len s
    have e1 : wordsAll (s :: T) = wordsIn s ++ wordsAll T := by simp [wordsAll]
    have e2 : lenSum (s :: T) = s.length + lenSum T := by simp [lenSum]
    rw [e1, e2, List.length_append, List.length_cons]
    omega
theorem wordsIn_word {s x : Bytes} (h : x ∈ wordsIn s) : x.length ≤ 40 := by
  unfold wordsIn wds at h
  obtain ⟨y, hy, rfl⟩ := List.mem_map.1 h
  obtain ⟨t, ht, rfl⟩ := List.mem_map.1 hy
  obtain ⟨h1, h2⟩ := List.mem_filter.1 ht
  have hw := toks_isWd _ s [] [] (Nat.le_refl _) (fun t ht => by cases ht) t h1 h2
  unfold isWd at hw
  simp only [Bool.and_eq_true, decide_eq_true_eq] at hw
  unfold smallL
  rw [List.length_map]
  exact hw.1.1.1.2
theorem wordsAll_word {T : List Bytes} {x : Bytes} (h : x ∈ wordsAll T) : x.length ≤ 40 := by
  obtain ⟨s, _, h⟩ := List.mem_flatMap.1 h
  exact wordsIn_word h
/-- What is left of words at some places of the map's keys. -/
def pickW (ws : List Bytes) (least : Int) (K : List Bytes) : List Wd := (K.filter fun k => decide (least ≤ cntG ws k)).map fun k => ⟨k, cntG ws k⟩
def learnL (ws : List Bytes) (least : Int) : List Wd := sortW (pickW ws least (uqG ws))
theorem pickW_snoc (ws : List Bytes) (least : Int) (K : List Bytes) (k : Bytes) : pickW ws least (K ++ [k]) = if least ≤ cntG ws k then pickW ws least K ++ [⟨k, cntG ws k⟩] else pickW ws least K := by
  unfold pickW
  rw [List.filter_append]
  by_cases h : least ≤ cntG ws k
  · rw [if_pos h]; simp [h]
  · rw [if_neg h]; simp [h]
theorem pickW_t (ws : List Bytes) (least : Int) (K : List Bytes) : (pickW ws least K).map Wd.t = K.filter fun k => decide (least ≤ cntG ws k) := by
  unfold pickW
  rw [List.map_map]
  conv => rhs; rw [← List.map_id (K.filter _)]
  rfl
theorem pickW_nodup {ws : List Bytes} {least : Int} {K : List Bytes} (h : K.Nodup) : ((pickW ws least K).map Wd.t).Nodup := by
  rw [pickW_t]; exact h.filter _
theorem pickW_mem {ws : List Bytes} {least : Int} {K : List Bytes} {x : Wd} (h : x ∈ pickW ws least K) : x.t ∈ K ∧ x.c = cntG ws x.t := by
  unfold pickW at h
  obtain ⟨k, hk, rfl⟩ := List.mem_map.1 h
  exact ⟨(List.mem_filter.1 hk).1, rfl⟩
/-- All places, each once. -/
theorem perm_range {n : Nat} {l : List Nat} (hn : l.Nodup) (h1 : ∀ j, j ∈ l → j < n) (h2 : ∀ j, j < n → j ∈ l) : l.Perm (List.range n) :=
  (List.perm_ext_iff_of_nodup hn List.nodup_range).2 fun a => ⟨fun h => List.mem_range.2 (h1 a h), fun h => h2 a (List.mem_range.1 h)⟩
theorem nodup_lt {l : List Nat} {n : Nat} (hn : l.Nodup) (h : ∀ j, j ∈ l → j < n) : l.length ≤ n := by
  have key : ∀ (r r' : List Nat), r.Nodup → (∀ x, x ∈ r → x ∈ r') → r.length ≤ r'.length := by
    intro r
    induction r with
    | nil => intro r' _ _; exact Nat.zero_le _
    | cons x t ih =>
      intro r' hn hs
      obtain ⟨h1, h2⟩ := List.nodup_cons.1 hn
      have hx := hs x List.mem_cons_self
      have ih := ih (r'.erase x) h2 fun y hy => (List.mem_erase_of_ne (fun e => h1 (by rw [← e]; exact hy))).2 (hs y (List.mem_cons_of_mem _ hy))
      rw [List.length_erase_of_mem hx] at ih
      have := List.length_pos_of_mem hx
      rw [List.length_cons]
      omega
  have := key l (List.range n) hn fun x hx => List.mem_range.2 (h x hx)
  rwa [List.length_range] at this
theorem map_range {K : List Bytes} : (List.range K.length).map (fun j => K.getD j []) = K := by
  refine List.ext_getElem (by simp) fun j h1 h2 => ?_
  rw [List.getElem_map, List.getElem_range, getD_lt h2]
theorem pick_all {ws : List Bytes} {least : Int} {K : List Bytes} {l : List Nat} (hK : K.Nodup) (hn : l.Nodup) (h1 : ∀ j, j ∈ l → j < K.length) (h2 : ∀ j, j < K.length → j ∈ l) :
    (pickW ws least (l.map fun j => K.getD j [])).Perm (pickW ws least K) := by
  have hp := (perm_range hn h1 h2).map fun j => K.getD j []
  rw [map_range] at hp
  exact (hp.filter _).map _
theorem sortW_perm_eq {l l' : List Wd} (hp : l'.Perm l) (hn : (l.map Wd.t).Nodup) : sortW l' = sortW l :=
  sorted_eq ((sortW_perm l').trans (hp.trans (sortW_perm l).symm)) (((sortW_perm l').trans hp).map Wd.t |>.nodup_iff.2 hn) (sortW_le l') (sortW_le l)
end Go.Fv.V

/- strings.Compare, and slices.SortFunc of words, by the shelf. -/
namespace Go.Proofs
open Go.Shelf
def Tryd.lays106_ren : Go.Shelf.Ren := ⟨fun | 106 => 25 | 213 => 48 | 265 => 77 | n => n, fun | 9 => 9 | 3 => 3 | n => n, fun | n => n⟩
theorem Tryd.lays106 : Go.Proofs.Lays.n106 Tryd.prog Tryd.lays106_ren := {
  mixed := by kernel_rfl
  f106 := Tryd.func25.trans (congrArg some (by kernel_rfl))
  f213 := Tryd.func48.trans (congrArg some (by kernel_rfl))
  f265 := Tryd.func77.trans (congrArg some (by kernel_rfl))
  t3 := Tryd.underlying3
  a3 := Tryd.isAgg3
  z3 := Tryd.sizeOf3
  v3 := Tryd.zeroValue3
  t9 := Tryd.underlying9
  a9 := Tryd.isAgg9
  z9 := Tryd.sizeOf9
  v9 := Tryd.zeroValue9 }
end Go.Proofs
namespace Go.Proofs
open Go.Shelf
def Tryd.lSoW_ren : Go.Shelf.Ren := ⟨fun | 6 => 23 | 15 => 47 | 14 => 46 | 28 => 75 | 29 => 76 | 20 => 67 | 21 => 68 | 22 => 69 | 23 => 70 | 24 => 71 | 25 => 72 | 26 => 73 | 27 => 74 | 46 => 95 | 47 => 96 | 48 => 97 | 49 => 98 | 50 => 99 | 57 => 108 | n => n, fun | 22 => 24 | 24 => 30 | 25 => 55 | 3 => 3 | 39 => 79 | 0 => 0 | 53 => 109 | 55 => 111 | 4 => 4 | 46 => 103 | 45 => 102 | 50 => 70 | 5 => 5 | 9 => 9 | 66 => 126 | 70 => 130 | 76 => 137 | 77 => 33 | n => n, fun | n => n⟩
theorem Tryd.lSoW : Go.Proofs.SlLaysF0.n6 Tryd.prog Tryd.lSoW_ren := {
  mixed := by kernel_rfl
  f6 := ⟨Tryd.f23.name, by decide, Tryd.func23.trans (congrArg some (by kernel_rfl))⟩
  f14 := ⟨Tryd.f46.name, by decide, Tryd.func46.trans (congrArg some (by kernel_rfl))⟩
  f15 := Tryd.func47.trans (congrArg some (by kernel_rfl))
  f20 := ⟨Tryd.f67.name, by decide, Tryd.func67.trans (congrArg some (by kernel_rfl))⟩
  f21 := ⟨Tryd.f68.name, by decide, Tryd.func68.trans (congrArg some (by kernel_rfl))⟩
  f22 := ⟨Tryd.f69.name, by decide, Tryd.func69.trans (congrArg some (by kernel_rfl))⟩
  f23 := ⟨Tryd.f70.name, by decide, Tryd.func70.trans (congrArg some (by kernel_rfl))⟩
  f24 := ⟨Tryd.f71.name, by decide, Tryd.func71.trans (congrArg some (by kernel_rfl))⟩
  f25 := ⟨Tryd.f72.name, by decide, Tryd.func72.trans (congrArg some (by kernel_rfl))⟩
  f26 := ⟨Tryd.f73.name, by decide, Tryd.func73.trans (congrArg some (by kernel_rfl))⟩
  f27 := ⟨Tryd.f74.name, by decide, Tryd.func74.trans (congrArg some (by kernel_rfl))⟩
  f28 := Tryd.func75.trans (congrArg some (by kernel_rfl))
  f29 := Tryd.func76.trans (congrArg some (by kernel_rfl))
  f46 := ⟨Tryd.f95.name, by decide, Tryd.func95.trans (congrArg some (by kernel_rfl))⟩
  f47 := Tryd.func96.trans (congrArg some (by kernel_rfl))
  f48 := Tryd.func97.trans (congrArg some (by kernel_rfl))
  f49 := ⟨Tryd.f98.name, by decide, Tryd.func98.trans (congrArg some (by kernel_rfl))⟩
  f50 := ⟨Tryd.f99.name, by decide, Tryd.func99.trans (congrArg some (by kernel_rfl))⟩
  f57 := ⟨Tryd.f108.name, by decide, Tryd.func108.trans (congrArg some (by kernel_rfl))⟩
  t0 := Tryd.underlying0
  a0 := Tryd.isAgg0
  z0 := Tryd.sizeOf0
  v0 := Tryd.zeroValue0
  t3 := Tryd.underlying3
  a3 := Tryd.isAgg3
  z3 := Tryd.sizeOf3
  v3 := Tryd.zeroValue3
  t4 := Tryd.underlying4
  a4 := Tryd.isAgg4
  z4 := Tryd.sizeOf4
  v4 := Tryd.zeroValue4
  t5 := Tryd.underlying5
  a5 := Tryd.isAgg5
  z5 := Tryd.sizeOf5
  v5 := Tryd.zeroValue5
  t9 := Tryd.underlying9
  a9 := Tryd.isAgg9
  z9 := Tryd.sizeOf9
  v9 := Tryd.zeroValue9
  t22 := Tryd.underlying24
  a22 := Tryd.isAgg24
  z22 := Tryd.sizeOf24
  v22 := Tryd.zeroValue24
  t25 := Tryd.underlying55
  a25 := Tryd.isAgg55
  z25 := Tryd.sizeOf55
  v25 := Tryd.zeroValue55
  t39 := Tryd.underlying79
  a39 := Tryd.isAgg79
  z39 := Tryd.sizeOf79
  v39 := Tryd.zeroValue79
  t45 := Tryd.underlying102
  a45 := Tryd.isAgg102
  z45 := Tryd.sizeOf102
  v45 := Tryd.zeroValue102
  t46 := Tryd.underlying103
  a46 := Tryd.isAgg103
  z46 := Tryd.sizeOf103
  v46 := Tryd.zeroValue103
  t50 := Tryd.underlying70
  a50 := Tryd.isAgg70
  z50 := Tryd.sizeOf70
  v50 := Tryd.zeroValue70
  t53 := Tryd.underlying109
  a53 := Tryd.isAgg109
  z53 := Tryd.sizeOf109
  v53 := Tryd.zeroValue109
  t55 := Tryd.underlying111
  a55 := Tryd.isAgg111
  z55 := Tryd.sizeOf111
  v55 := Tryd.zeroValue111
  t66 := Tryd.underlying126
  a66 := Tryd.isAgg126
  z66 := Tryd.sizeOf126
  v66 := Tryd.zeroValue126
  t70 := Tryd.underlying130
  a70 := Tryd.isAgg130
  z70 := Tryd.sizeOf130
  v70 := Tryd.zeroValue130
  t76 := Tryd.underlying137
  a76 := Tryd.isAgg137
  z76 := Tryd.sizeOf137
  v76 := Tryd.zeroValue137
  t77 := Tryd.underlying33
  a77 := Tryd.isAgg33
  z77 := Tryd.sizeOf33
  v77 := Tryd.zeroValue33 }
end Go.Proofs
namespace Go.Fv.V
open Go Go.Proofs
set_option linter.unusedSimpArgs false
set_option linter.unusedVariables false
set_option linter.unnecessarySimpa false
set_option maxRecDepth 8000

theorem compareS_ok (s t : List UInt8) : FnOk Tryd.prog 25 [.str s, .str t] (.int .i64 (Lib.compareBytes s t)) [] := by
  refine ⟨⟨_, Tryd.func25, by kernel_rfl, by kernel_rfl⟩, fun w T vals hg hv => ?_⟩
  cases hv with
  | cons _ _ _ _ h1 hv => cases hv with
    | cons _ _ _ _ h2 hv =>
      cases hv
      cases h1 with
      | str _ e1 => cases h2 with
        | str _ e2 =>
          have L := Tryd.lays106
          refine (Any.strings_Compare { L with } ⟨s.toArray⟩ ⟨t.toArray⟩ w).mono ?_
          rintro e w' ⟨rfl, rfl⟩
          refine ⟨_, rfl, BelowD.refl _ _, fun _ => undef, 0, ?_, ?_, ?_⟩
          · have h1 := cmp_bd s t
            have e1 : IntKind.i64.min = -9223372036854775808 := by decide
            have e2 : IntKind.i64.max = 9223372036854775807 := by decide
            exact .int .i64 _ ⟨by rw [e1]; omega, by rw [e2]; omega⟩
          · intro i it h; cases h
          · intro i j it jt b h; cases h
theorem learn1_ok (x y : Wd) : FnOk Tryd.prog 24 [.agg x.av, .agg y.av] (.int .i64 (cfW x y)) [] := by
  have k := compareS_ok x.t y.t
  unfold Wd.av cfW
  refine FnOk.of_vc Tryd.func24 rfl (by decide) (by simp [Tryd.f24]) [.tmp 4] rfl fun w0 T0 _ => ?_
  simp only [Tryd.f24, argEnv]
  (repeat' first | with_reducible (first | intro _ | refine rc ?_ | refine rl ?_ | refine rh ?_ | refine rt ?_ | refine rf ?_ | refine rs ?_ | refine And.intro ?_ ?_) | omega | simp (maxSteps := 1000000) only [go_sem, simprocAttr, ↓reduceIte])
  refine VcCall.k (k) ?_
  (repeat' first | with_reducible (first | intro _ | refine rc ?_ | refine rl ?_ | refine rh ?_ | refine rt ?_ | refine rf ?_ | refine rs ?_ | refine And.intro ?_ ?_) | omega | simp (maxSteps := 1000000) only [go_sem, simprocAttr, ↓reduceIte])
  refine Ret.auto 0 ?_ rfl ?_ <;> simp only [go_sem, reduceCtorEq, reduceIte, Nat.reduceEqDiff, Nat.reduceLT, Nat.reduceLeDiff, Int.natCast_succ, Post]
theorem refLearn1_ok (x y : Wd) : FnOk Tryd.prog 28 [.agg x.av, .agg y.av] (.int .i64 (cfW x y)) [] := by
  have k := compareS_ok x.t y.t
  unfold Wd.av cfW
  refine FnOk.of_vc Tryd.func28 rfl (by decide) (by simp [Tryd.f28]) [.tmp 4] rfl fun w0 T0 _ => ?_
  simp only [Tryd.f28, argEnv]
  (repeat' first | with_reducible (first | intro _ | refine rc ?_ | refine rl ?_ | refine rh ?_ | refine rt ?_ | refine rf ?_ | refine rs ?_ | refine And.intro ?_ ?_) | omega | simp (maxSteps := 1000000) only [go_sem, simprocAttr, ↓reduceIte])
  refine VcCall.k (k) ?_
  (repeat' first | with_reducible (first | intro _ | refine rc ?_ | refine rl ?_ | refine rh ?_ | refine rt ?_ | refine rf ?_ | refine rs ?_ | refine And.intro ?_ ?_) | omega | simp (maxSteps := 1000000) only [go_sem, simprocAttr, ↓reduceIte])
  refine Ret.auto 0 ?_ rfl ?_ <;> simp only [go_sem, reduceCtorEq, reduceIte, Nat.reduceEqDiff, Nat.reduceLT, Nat.reduceLeDiff, Int.natCast_succ, Post]
theorem sortWd_io (F : Nat) (kF : ∀ x y, FnFr Tryd.prog F [.agg (Wd.av x), .agg (Wd.av y)] (.int .i64 (cfW x y)) []) (l : List Wd) (hl : ∀ x, x ∈ l → WdOk x) (hn : (l.map Wd.t).Nodup) (hln : l.length ≤ 1000000000) :
    FnIO Tryd.prog 23 [.own 0, .fn F []] [(0, .row 30 (wdR l))] 1 (.tup []) [(0, .row 30 (wdR (sortW l)))] := by
  obtain ⟨l', hp, hs, kS⟩ := sortFK_io Wd.av 2 (fun _ => rfl) (by decide) Tryd.lSoW ⟨_, Tryd.func23, by kernel_rfl, by kernel_rfl⟩ Tryd.isAgg30 Tryd.sizeOf30 30 (good := WdOk)
    cfW_ord F [] rfl (fun x y _ _ => kF x y) l hl (fun x hx y hy => by
      unfold WdOk at hx
      unfold Wd.av at hy
      rcases List.mem_cons.1 hy with rfl | hy
      · show x.t.length ≤ maxLen
        have : maxLen = 9223372036854775807 := rfl
        omega
      · rw [List.mem_singleton] at hy; subst hy; exact InK_i64.2 (by omega)) (by omega)
  rw [sortW_eq hp hs hn] at kS
  exact kS
end Go.Fv.V

/- Small letters: the bytes on the way. -/
namespace Go.Fv.V
open Go Go.Proofs
set_option linter.unusedSimpArgs false
set_option linter.unusedVariables false
set_option linter.unnecessarySimpa false
set_option maxRecDepth 8000

theorem byteInts_len (l : List UInt8) : (byteInts l).length = l.length := by simp [byteInts]
theorem bytesOf_byteInts (l : List UInt8) : bytesOf (byteInts l) = l := by
  unfold bytesOf byteInts
  rw [List.map_map]
  conv => rhs; rw [← List.map_id l]
  refine List.map_congr_left fun b _ => ?_
  simp
def smallAt (s : List UInt8) (i : Nat) : List Int := byteInts ((s.take i).map smallB ++ s.drop i)
theorem smallAt_zero (s : List UInt8) : smallAt s 0 = byteInts s := by simp [smallAt]
theorem smallAt_end (s : List UInt8) : bytesOf (smallAt s s.length) = smallL s := by
  unfold smallAt
  rw [bytesOf_byteInts]; simp [smallL]
theorem smallAt_len (s : List UInt8) (i : Nat) : (smallAt s i).length = s.length := by
  simp [smallAt, byteInts]; omega
theorem smallAt_get {s : List UInt8} {i : Nat} (h : i < s.length) : (smallAt s i).getD i 0 = ((s.getD i 0).toNat : Int) := by
  unfold smallAt byteInts
  simp only [List.getD_eq_getElem?_getD, List.getElem?_map]
  rw [List.getElem?_append_right (by simp; omega)]
  have e : i - ((s.take i).map smallB).length = 0 := by simp; omega
  rw [e, List.getElem?_drop]
  simp [h]
theorem smallB_int (c : UInt8) : ((smallB c).toNat : Int) = if 65 ≤ c.toNat ∧ c.toNat ≤ 90 then (c.toNat : Int) + 32 else c.toNat := by
  unfold smallB
  split
  · rw [UInt8.toNat_add]
    have : (32 : UInt8).toNat = 32 := rfl
    rw [this]; omega
  · rfl
theorem smallAt_step {s : List UInt8} {i : Nat} (h : i < s.length) : smallAt s (i + 1) = if 65 ≤ (s.getD i 0).toNat ∧ (s.getD i 0).toNat ≤ 90 then (smallAt s i).set i (((s.getD i 0).toNat : Int) + 32) else smallAt s i := by
  have hb := smallB_int (s.getD i 0)
  have e1 : smallAt s (i + 1) = (smallAt s i).set i ((smallB (s.getD i 0)).toNat : Int) := by
    unfold smallAt byteInts
    rw [List.take_succ_eq_append_getElem h, getD_lt h]
    have hd : s.drop i = s[i] :: s.drop (i + 1) := List.drop_eq_getElem_cons h
    rw [hd]
    simp only [List.map_append, List.map_cons, List.map_nil]
    have hl : (((s.take i).map smallB).map fun b => (b.toNat : Int)).length = i := by simp; omega
    rw [List.set_append_right (h := by omega), hl, Nat.sub_self, List.set_cons_zero]
    simp
  rw [e1, hb]
  split
  · rfl
  · have hg := smallAt_get h
    rw [← hg]
    apply List.ext_getElem?
    intro j
    rw [List.getElem?_set]
    split
    · rename_i e; subst e
      have hl := smallAt_len s i
      simp [List.getD_eq_getElem?_getD, hl, h]
    · rfl
end Go.Fv.V

/- words.mapped and small letters. -/
namespace Go.Fv.V
open Go Go.Proofs
set_option linter.unusedSimpArgs false
set_option linter.unusedVariables false
set_option linter.unnecessarySimpa false
set_option maxRecDepth 8000

def mapAt (f : UInt8 → UInt8) (s : List UInt8) (i : Nat) : List Int := byteInts ((s.take i).map f ++ s.drop i)
theorem mapAt_zero (f : UInt8 → UInt8) (s : List UInt8) : mapAt f s 0 = byteInts s := by simp [mapAt]
theorem mapAt_end (f : UInt8 → UInt8) (s : List UInt8) : bytesOf (mapAt f s s.length) = s.map f := by
  unfold mapAt
  rw [bytesOf_byteInts]; simp
theorem mapAt_len (f : UInt8 → UInt8) (s : List UInt8) (i : Nat) : (mapAt f s i).length = s.length := by
  simp [mapAt, byteInts]; omega
theorem mapAt_get (f : UInt8 → UInt8) {s : List UInt8} {i : Nat} (h : i < s.length) : (mapAt f s i).getD i 0 = ((s.getD i 0).toNat : Int) := by
  unfold mapAt byteInts
  simp only [List.getD_eq_getElem?_getD, List.getElem?_map]
  rw [List.getElem?_append_right (by simp; omega)]
  have e : i - ((s.take i).map f).length = 0 := by simp; omega
  rw [e, List.getElem?_drop]
  simp [h]
theorem mapAt_step (f : UInt8 → UInt8) {s : List UInt8} {i : Nat} (h : i < s.length) : mapAt f s (i + 1) = (mapAt f s i).set i ((f (s.getD i 0)).toNat : Int) := by
  unfold mapAt
  have e1 : s.drop i = s.getD i 0 :: s.drop (i + 1) := by rw [List.drop_eq_getElem_cons h, getD_lt h]
  have e2 : s.take (i + 1) = s.take i ++ [s.getD i 0] := by rw [List.take_succ_eq_append_getElem h, getD_lt h]
  have hl : (byteInts ((s.take i).map f)).length = i := by simp [byteInts]; omega
  rw [e1, e2]
  unfold byteInts at *
  rw [List.map_append, List.map_append, List.map_append, List.map_append, List.set_append_right _ _ (by omega), hl, Nat.sub_self]
  simp
set_option maxHeartbeats 1000000 in
theorem mapped_ok (s : List UInt8) (F : Nat) (f : UInt8 → UInt8) (hf : ∀ c : UInt8, FnFr Tryd.prog F [.int .u8 c.toNat] (.int .u8 (f c).toNat) []) : FnOk Tryd.prog 44 [.str s, .fn F []] (.str (s.map f)) [] := by
  have h0 := mapAt_zero f s
  have hz := mapAt_end f s
  refine FnOk.of_vc Tryd.func44 rfl (by decide) (by simp [Tryd.f44]) [.tmp 4] rfl fun w0 T0 _ => ?_
  simp only [Tryd.f44, argEnv]
  (repeat' first | with_reducible (first | intro _ | refine rc ?_ | refine rl ?_ | refine rh ?_ | refine rt ?_ | refine rf ?_ | refine rs ?_ | refine And.intro ?_ ?_) | omega | simp (maxSteps := 1000000) only [go_sem, simprocAttr, ↓reduceIte, byteInts_len])
  refine VcLoop.intro (fun i : Nat => ⟨26, [(12, .int .i64 i), (11, .int .i64 s.length), (10, .own 0), (5, .own 0), (1, .fn F [])], [(0, .row 5 (.ints .u8 (mapAt f s i)))], 1⟩) (fun i => i ≤ s.length) (fun i => s.length - i) 0 ?_ (Nat.zero_le _) fun i hi => ?_
  · refine Ent.auto0 rfl ?_ ?_ <;> simp only [go_sem, reduceCtorEq, reduceIte, Nat.reduceEqDiff, Nat.reduceLT, Nat.reduceLeDiff, Int.natCast_succ, h0]
  by_cases hlt : i < s.length
  · have hg := mapAt_get f hlt
    have hst := mapAt_step f hlt
    have hl := mapAt_len f s i
    have hc2 := (s.getD i 0).toNat_lt
    have kf := hf (s.getD i 0)
    have hd2 := (f (s.getD i 0)).toNat_lt
    generalize f (s.getD i 0) = d at *
    generalize s.getD i 0 = c at *
    (repeat' first | with_reducible (first | intro _ | refine rc ?_ | refine rl ?_ | refine rh ?_ | refine rt ?_ | refine rf ?_ | refine rs ?_ | refine And.intro ?_ ?_) | omega | simp (maxSteps := 1000000) only [go_sem, simprocAttr, ↓reduceIte, Int.toNat_natCast, hg, hl])
    refine VcCall.fr kf (by simp only [noIdR_ok, argOkL, argOk, allOk, argOkN, List.drop_zero, lk, reduceIte, reduceCtorEq, Nat.reduceEqDiff, Option.some.injEq, Item.row.injEq, Item.box.injEq, AV.ro.injEq, exists_eq_left, exists_and_left, exists_eq_left', exists_eq_right, and_assoc, and_true, true_and, List.cons.injEq, exists_eq', exists_eq]) 0 rfl (by simp [rowsB]) ?_
    (repeat' first | with_reducible (first | intro _ | refine rc ?_ | refine rl ?_ | refine rh ?_ | refine rt ?_ | refine rf ?_ | refine rs ?_ | refine And.intro ?_ ?_) | omega | simp (maxSteps := 1000000) only [go_sem, simprocAttr, ↓reduceIte, Int.toNat_natCast, hg, hl])
    refine ⟨i + 1, Ent.auto0 rfl ?_ ?_, by omega, by omega⟩ <;> simp only [go_sem, reduceCtorEq, reduceIte, Nat.reduceEqDiff, Nat.reduceLT, Nat.reduceLeDiff, Int.natCast_succ, hst]
  · have e : i = s.length := by omega
    subst e
    (repeat' first | with_reducible (first | intro _ | refine rc ?_ | refine rl ?_ | refine rh ?_ | refine rt ?_ | refine rf ?_ | refine rs ?_ | refine And.intro ?_ ?_) | omega | simp (maxSteps := 1000000) only [go_sem, simprocAttr, ↓reduceIte, hz])
    refine Ret.auto 0 ?_ rfl ?_ <;> simp only [go_sem, reduceCtorEq, reduceIte, Nat.reduceEqDiff, Nat.reduceLT, Nat.reduceLeDiff, Int.natCast_succ, Post]
    all_goals exact hz
theorem small1W_ok (c : UInt8) : FnOk Tryd.prog 45 [.int .u8 c.toNat] (.int .u8 (smallB c).toNat) [] := by
  have h := smallB_int c
  have hc2 := c.toNat_lt
  refine FnOk.of_vc Tryd.func45 rfl (by decide) (by simp [Tryd.f45]) [.tmp 2] rfl fun w0 T0 _ => ?_
  simp only [Tryd.f45, argEnv]
  by_cases hc : 65 ≤ c.toNat ∧ c.toNat ≤ 90
  · rw [if_pos hc] at h
    (repeat' first | with_reducible (first | intro _ | refine rc ?_ | refine rl ?_ | refine rh ?_ | refine rt ?_ | refine rf ?_ | refine rs ?_ | refine And.intro ?_ ?_) | omega | simp (maxSteps := 1000000) only [go_sem, simprocAttr, ↓reduceIte])
    refine Ret.auto 0 ?_ rfl ?_ <;> simp only [go_sem, reduceCtorEq, reduceIte, Nat.reduceEqDiff, Nat.reduceLT, Nat.reduceLeDiff, Int.natCast_succ, Post, h]
  · rw [if_neg hc] at h
    (repeat' first | with_reducible (first | intro _ | refine rc ?_ | refine rl ?_ | refine rh ?_ | refine rt ?_ | refine rf ?_ | refine rs ?_ | refine And.intro ?_ ?_) | omega | simp (maxSteps := 1000000) only [go_sem, simprocAttr, ↓reduceIte])
    refine Ret.auto 0 ?_ rfl ?_ <;> simp only [go_sem, reduceCtorEq, reduceIte, Nat.reduceEqDiff, Nat.reduceLT, Nat.reduceLeDiff, Int.natCast_succ, Post, h]
theorem smallW_ok (s : List UInt8) : FnOk Tryd.prog 22 [.str s] (.str (smallL s)) [] := by
  have k := mapped_ok s 45 smallB fun c => FnFr.of_ok (small1W_ok c) rfl rfl
  rw [show s.map smallB = smallL s from rfl] at k
  refine FnOk.of_vc Tryd.func22 rfl (by decide) (by simp [Tryd.f22]) [.tmp 2] rfl fun w0 T0 _ => ?_
  simp only [Tryd.f22, argEnv]
  (repeat' first | with_reducible (first | intro _ | refine rc ?_ | refine rl ?_ | refine rh ?_ | refine rt ?_ | refine rf ?_ | refine rs ?_ | refine And.intro ?_ ?_) | omega | simp (maxSteps := 1000000) only [go_sem, simprocAttr, ↓reduceIte])
  refine VcCall.k (k) ?_
  (repeat' first | with_reducible (first | intro _ | refine rc ?_ | refine rl ?_ | refine rh ?_ | refine rt ?_ | refine rf ?_ | refine rs ?_ | refine And.intro ?_ ?_) | omega | simp (maxSteps := 1000000) only [go_sem, simprocAttr, ↓reduceIte])
  refine Ret.auto 0 ?_ rfl ?_ <;> simp only [go_sem, reduceCtorEq, reduceIte, Nat.reduceEqDiff, Nat.reduceLT, Nat.reduceLeDiff, Int.natCast_succ, Post]
set_option maxHeartbeats 1000000 in
set_option maxHeartbeats 1000000 in
theorem refSmall_ok (s : List UInt8) : FnOk Tryd.prog 27 [.str s] (.str (smallL s)) [] := by
  have h0 := smallAt_zero s
  have hz := smallAt_end s
  refine FnOk.of_vc Tryd.func27 rfl (by decide) (by simp [Tryd.f27]) [.tmp 2] rfl fun w0 T0 _ => ?_
  simp only [Tryd.f27, argEnv]
  (repeat' first | with_reducible (first | intro _ | refine rc ?_ | refine rl ?_ | refine rh ?_ | refine rt ?_ | refine rf ?_ | refine rs ?_ | refine And.intro ?_ ?_) | omega | simp (maxSteps := 1000000) only [go_sem, simprocAttr, ↓reduceIte, byteInts_len])
  refine VcLoop.intro (fun i : Nat => ⟨29, [(10, .int .i64 i), (9, .int .i64 s.length), (8, .own 0), (3, .own 0)], [(0, .row 5 (.ints .u8 (smallAt s i)))], 1⟩) (fun i => i ≤ s.length) (fun i => s.length - i) 0 ?_ (Nat.zero_le _) fun i hi => ?_
  · refine Ent.auto0 rfl ?_ ?_ <;> simp only [go_sem, reduceCtorEq, reduceIte, Nat.reduceEqDiff, Nat.reduceLT, Nat.reduceLeDiff, Int.natCast_succ, h0]
  by_cases hlt : i < s.length
  · have hg := smallAt_get hlt
    have hst := smallAt_step hlt
    have hl := smallAt_len s i
    have hc2 := (s.getD i 0).toNat_lt
    generalize s.getD i 0 = c at *
    by_cases hc : 65 ≤ c.toNat ∧ c.toNat ≤ 90
    · rw [if_pos hc] at hst
      have e1 : (c.toNat : Int) + 97 - 65 = (c.toNat : Int) + 32 := by omega
      (repeat' first | with_reducible (first | intro _ | refine rc ?_ | refine rl ?_ | refine rh ?_ | refine rt ?_ | refine rf ?_ | refine rs ?_ | refine And.intro ?_ ?_) | omega | simp (maxSteps := 1000000) only [go_sem, simprocAttr, ↓reduceIte, Int.toNat_natCast, hg, hl, e1])
      refine ⟨i + 1, Ent.auto0 rfl ?_ ?_, by omega, by omega⟩ <;> simp only [go_sem, reduceCtorEq, reduceIte, Nat.reduceEqDiff, Nat.reduceLT, Nat.reduceLeDiff, Int.natCast_succ, hst]
    · rw [if_neg hc] at hst
      (repeat' first | with_reducible (first | intro _ | refine rc ?_ | refine rl ?_ | refine rh ?_ | refine rt ?_ | refine rf ?_ | refine rs ?_ | refine And.intro ?_ ?_) | omega | simp (maxSteps := 1000000) only [go_sem, simprocAttr, ↓reduceIte, Int.toNat_natCast, hg, hl])
      refine ⟨i + 1, Ent.auto0 rfl ?_ ?_, by omega, by omega⟩ <;> simp only [go_sem, reduceCtorEq, reduceIte, Nat.reduceEqDiff, Nat.reduceLT, Nat.reduceLeDiff, Int.natCast_succ, hst]
  · have e : i = s.length := by omega
    subst e
    (repeat' first | with_reducible (first | intro _ | refine rc ?_ | refine rl ?_ | refine rh ?_ | refine rt ?_ | refine rf ?_ | refine rs ?_ | refine And.intro ?_ ?_) | omega | simp (maxSteps := 1000000) only [go_sem, simprocAttr, ↓reduceIte, hz])
    refine Ret.auto 0 ?_ rfl ?_ <;> simp only [go_sem, reduceCtorEq, reduceIte, Nat.reduceEqDiff, Nat.reduceLT, Nat.reduceLeDiff, Int.natCast_succ, Post]
    all_goals exact hz

end Go.Fv.V
