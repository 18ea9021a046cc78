/-
  A part of the proof of the claim: walks over the program's functions and the plain laws that these need. No condition of its own.
-/
import Derived.Test.YtmdaiceacfgkpaaGreatDoorYLinesJoinCardPart1
import Derived.Test.YtmdaiceacfgkpaaGreatDoorFvPart9
import Derived.Test.YtmdaiceacfgkpaaGreatDoorFvPart10
import Derived.Lib.Bytealg
import Derived.Test.YtmdaiceacfgkpaaGreatDoorFvPart6
import Derived.Test.YtmdaiceacfgkpaaGreatDoorFvPart4
/- Lines put together, in plain words: the last and the first word of a text by rows of letters and by tokens. -/
namespace Go.Fv.Y
open Go
set_option linter.unusedSimpArgs false
set_option linter.unusedVariables false
set_option linter.unnecessarySimpa false

/-- Where the row of letters at the end of `b` begins: `i` bytes are left to look at, `f` is the first letter so far. -/
def lfirst (b : Bytes) : Nat → Nat → Nat
  | 0, f => f
  | i + 1, f => if inW (b.getD i 0) = true ∧ b.length - f ≤ 40 then lfirst b i (if isL (b.getD i 0) = true then i else f) else f
def lrow (b : Bytes) : Bytes := b.drop (lfirst b b.length b.length)
def frow (s : Bytes) : Bytes := dropR (s.takeWhile inW)
/-- The word at the end, and the one at the beginning, by tokens. -/
def lastT : List Tok → Bytes
  | [] => []
  | [t] => if t.2 = true then t.1 else []
  | _ :: l => lastT l
def headT : List Tok → Bytes
  | [] => []
  | t :: _ => if t.2 = true then t.1 else []
theorem lastT_snoc : ∀ (l : List Tok) (t : Tok), lastT (l ++ [t]) = if t.2 = true then t.1 else []
  | [], t => rfl
  | [a], t => rfl
  | a :: b :: l, t => by rw [List.cons_append, List.cons_append]; exact lastT_snoc (b :: l) t
theorem flush_ext (out : List Tok) (b : Bytes) : ∃ l, flush out b = out ++ l := by
  unfold flush; split
  · exact ⟨[], by simp⟩
  · exact ⟨_, rfl⟩
theorem toks_ext : ∀ (n : Nat) (s btw : Bytes) (out : List Tok), s.length ≤ n → ∃ l, toks s btw out = out ++ l
  | 0, s, btw, out, h => by
    have : s = [] := List.eq_nil_of_length_eq_zero (by omega)
    subst this
    rw [toks_nil]; exact flush_ext _ _
  | n + 1, [], btw, out, h => by rw [toks_nil]; exact flush_ext _ _
  | n + 1, c :: s, btw, out, h => by
    cases hc : inW c with
    | false => rw [toks_other hc]; exact toks_ext n _ _ _ (by simpa using h)
    | true =>
      have hd := drop_lt (s := s) hc
      by_cases hw : isWd (midQ ((c :: s).takeWhile inW)) = true
      · rw [toks_word hc _ _ hw]
        obtain ⟨l, hl⟩ := toks_ext n ((c :: s).dropWhile inW) (postQ (dropQ ((c :: s).takeWhile inW))) (flush out (btw ++ preQ ((c :: s).takeWhile inW)) ++ [(midQ ((c :: s).takeWhile inW), true)]) (by omega)
        obtain ⟨l2, hl2⟩ := flush_ext out (btw ++ preQ ((c :: s).takeWhile inW))
        rw [hl, hl2]
        exact ⟨l2 ++ ([(midQ ((c :: s).takeWhile inW), true)] ++ l), by simp only [List.append_assoc]⟩
      · rw [toks_row hc _ _ hw]; exact toks_ext n _ _ _ (by omega)
/-- With something between, the first token is no word. -/
theorem headT_btw : ∀ (n : Nat) (s btw : Bytes), s.length ≤ n → btw ≠ [] → headT (toks s btw []) = []
  | 0, s, btw, h, hb => by
    have : s = [] := List.eq_nil_of_length_eq_zero (by omega)
    subst this
    rw [toks_nil]; unfold flush; rw [if_neg hb]; rfl
  | n + 1, [], btw, h, hb => by rw [toks_nil]; unfold flush; rw [if_neg hb]; rfl
  | n + 1, c :: s, btw, h, hb => by
    cases hc : inW c with
    | false => rw [toks_other hc]; exact headT_btw n _ _ (by simpa using h) (by simp)
    | true =>
      have hd := drop_lt (s := s) hc
      by_cases hw : isWd (midQ ((c :: s).takeWhile inW)) = true
      · rw [toks_word hc _ _ hw]
        obtain ⟨l, hl⟩ := toks_ext _ ((c :: s).dropWhile inW) (postQ (dropQ ((c :: s).takeWhile inW))) (flush [] (btw ++ preQ ((c :: s).takeWhile inW)) ++ [(midQ ((c :: s).takeWhile inW), true)]) (Nat.le_refl _)
        rw [hl]
        unfold flush
        rw [if_neg (by simp [hb])]
        rfl
      · rw [toks_row hc _ _ hw]; exact headT_btw n _ _ (by omega) (by simp [hb])
theorem isL_inW {c : UInt8} (h : isL c = true) : inW c = true := by simp [inW, h]
theorem headT_toks {c : UInt8} {s : Bytes} (hc : isL c = true) : headT (toks (c :: s) [] []) = if isWd (frow (c :: s)) = true then frow (c :: s) else [] := by
  have hi := isL_inW hc
  have hq := isL_nq hc
  have ht : (c :: s).takeWhile inW = c :: s.takeWhile inW := by simp [List.takeWhile_cons, hi]
  have hdq : dropQ ((c :: s).takeWhile inW) = (c :: s).takeWhile inW := by rw [ht]; unfold dropQ; rw [List.dropWhile_cons, hq]; simp
  have hpq : preQ ((c :: s).takeWhile inW) = [] := by rw [ht]; unfold preQ; rw [List.takeWhile_cons, hq]; simp
  have hm : midQ ((c :: s).takeWhile inW) = frow (c :: s) := by unfold midQ frow; rw [hdq]
  by_cases hw : isWd (midQ ((c :: s).takeWhile inW)) = true
  · rw [toks_word hi _ _ hw]
    obtain ⟨l, hl⟩ := toks_ext _ ((c :: s).dropWhile inW) (postQ (dropQ ((c :: s).takeWhile inW))) (flush [] ([] ++ preQ ((c :: s).takeWhile inW)) ++ [(midQ ((c :: s).takeWhile inW), true)]) (Nat.le_refl _)
    rw [hl, hpq, hm]
    rw [hm] at hw
    rw [if_pos hw]
    rfl
  · rw [toks_row hi _ _ hw, headT_btw _ _ _ (Nat.le_refl _) (by rw [ht]; simp)]
    rw [hm] at hw
    rw [if_neg hw]
/-- What stands ahead of the last row changes nothing but what is between and what is out. -/
theorem toks_skip (t : Bytes) : ∀ (n : Nat) (u btw : Bytes) (out : List Tok), u.length ≤ n → (∀ h : u ≠ [], inW (u.getLast h) = false) → ∃ b o, toks (u ++ t) btw out = toks t b o
  | 0, u, btw, out, h, hl => by
    have : u = [] := List.eq_nil_of_length_eq_zero (by omega)
    subst this
    exact ⟨_, _, rfl⟩
  | n + 1, [], btw, out, h, hl => ⟨_, _, rfl⟩
  | n + 1, c :: u, btw, out, h, hl => by
    have hlast : ∀ v : Bytes, ∀ w, w ++ v = c :: u → ∀ h : v ≠ [], inW (v.getLast h) = false := fun v w e h => by
      have h1 := hl (by simp)
      have e2 : v.getLast? = (c :: u).getLast? := by
        rw [← e, List.getLast?_append, List.getLast?_eq_some_getLast h]; rfl
      rw [List.getLast?_eq_some_getLast h, List.getLast?_eq_some_getLast (List.cons_ne_nil c u)] at e2
      rw [Option.some.inj e2]
      exact h1
    cases hc : inW c with
    | false =>
      rw [List.cons_append, toks_other hc]
      exact toks_skip t n u _ _ (by simpa using h) (hlast u [c] rfl)
    | true =>
      have hne : ¬ (c :: u).all inW = true := fun ha => by
        have h1 := hl (by simp)
        rw [List.all_eq_true] at ha
        rw [ha _ (List.getLast_mem _)] at h1
        exact absurd h1 (by decide)
      have hj : (c :: u).takeWhile inW ++ (c :: u).dropWhile inW = c :: u := List.takeWhile_append_dropWhile
      have hdn : (c :: u).dropWhile inW ≠ [] := fun h => hne (by
        rw [h, List.append_nil] at hj
        rw [← hj]; exact List.all_takeWhile)
      have hd := drop_lt (s := u) hc
      have tk : (c :: (u ++ t)).takeWhile inW = (c :: u).takeWhile inW := by
        rw [← List.cons_append, List.takeWhile_append, if_neg]
        intro h
        apply hne
        have : (c :: u).takeWhile inW = c :: u := List.IsPrefix.eq_of_length (List.takeWhile_prefix _) h
        rw [← this]; exact List.all_takeWhile
      have dk : (c :: (u ++ t)).dropWhile inW = (c :: u).dropWhile inW ++ t := by
        rw [← List.cons_append, List.dropWhile_append, if_neg (by simpa using hdn)]
      by_cases hw : isWd (midQ ((c :: u).takeWhile inW)) = true
      · rw [List.cons_append, toks_word hc _ _ (by rw [tk]; exact hw), dk]
        exact toks_skip t n _ _ _ (by omega) (hlast _ _ hj)
      · rw [List.cons_append, toks_row hc _ _ (by rw [tk]; exact hw), dk]
        exact toks_skip t n _ _ _ (by omega) (hlast _ _ hj)
/-- The last word of a text that ends with a letter. -/
theorem lastT_row {t b : Bytes} {o : List Tok} (h0 : t ≠ []) (ha : t.all inW = true) (hl : isL (t.getLastD 0) = true) : lastT (toks t b o) = if isWd (dropQ t) = true then dropQ t else [] := by
  have hq := isL_nq hl
  obtain ⟨r, hr⟩ := rev_head h0
  have hdd : ∀ x : Bytes, x ≠ [] → x.getLastD 0 = t.getLastD 0 → dropR x = x ∧ postQ x = [] := fun x hx e => by
    obtain ⟨r, hr⟩ := rev_head hx
    unfold dropR postQ
    rw [hr, List.dropWhile_cons, List.takeWhile_cons, e, hq]
    constructor
    · simp only [Bool.false_eq_true, if_false, ← e]; rw [← hr, List.reverse_reverse]
    · rfl
  obtain ⟨hw1, hw2⟩ := all_take_drop ha
  have hdn : dropQ t ≠ [] := fun h => by
    have : t.all qu = true := by
      have := pre_drop t
      rw [h, List.append_nil] at this
      rw [← this]; exact List.all_takeWhile
    rw [List.all_eq_true] at this
    have hm : t.getLastD 0 ∈ t := by
      rw [List.getLastD_eq_getLast?, List.getLast?_eq_some_getLast h0]; exact List.getLast_mem _
    rw [this _ hm] at hq
    exact absurd hq (by decide)
  have hdl : (dropQ t).getLastD 0 = t.getLastD 0 := by
    conv => rhs; rw [← pre_drop t]
    rw [List.getLastD_eq_getLast?, List.getLastD_eq_getLast?, List.getLast?_append, List.getLast?_eq_some_getLast hdn]
    rfl
  obtain ⟨e1, e2⟩ := hdd _ hdn hdl
  have hm : midQ t = dropQ t := e1
  cases t with
  | nil => exact absurd rfl h0
  | cons c s =>
    have hc : inW c = true := by rw [List.all_cons, Bool.and_eq_true] at ha; exact ha.1
    by_cases hw : isWd (midQ ((c :: s).takeWhile inW)) = true
    · rw [toks_word hc _ _ hw, hw1, hw2, toks_nil, e2]
      rw [hw1, hm] at hw
      rw [hm, if_pos hw]
      unfold flush
      rw [if_pos rfl, lastT_snoc]
      rfl
    · rw [toks_row hc _ _ hw, hw1, hw2, toks_nil]
      rw [hw1, hm] at hw
      rw [if_neg hw]
      unfold flush
      rw [if_neg (by simp), lastT_snoc]
      rfl
theorem isWd_gt {s : Bytes} (h : 40 < s.length) : isWd s = false := by
  unfold isWd
  rw [decide_eq_false (show ¬ s.length ≤ 40 by omega)]
  simp
theorem dropQ_drop (t : Bytes) : ∀ k, (dropQ (t.drop k)).length ≤ (dropQ t).length := by
  induction t with
  | nil => intro k; simp
  | cons c s ih =>
    intro k
    cases k with
    | zero => exact Nat.le_refl _
    | succ k =>
      rw [List.drop_succ_cons]
      refine Nat.le_trans (ih k) ?_
      unfold dropQ
      rw [List.dropWhile_cons]
      split
      · exact Nat.le_refl _
      · have := takeWhile_len_le qu s
        rw [List.length_cons]; omega
theorem drop_pre (t : Bytes) : t.drop (preQ t).length = dropQ t := by
  have := List.drop_left (l₁ := preQ t) (l₂ := dropQ t)
  rw [pre_drop] at this
  exact this
/-- The row at the end, as the program finds it: the row of letters, or something too long. -/
theorem lfirst_ok {u t : Bytes} (ha : t.all inW = true) (hu : ∀ h : u ≠ [], inW (u.getLast h) = false) : ∀ (k f : Nat), k ≤ t.length → f = u.length + k + (preQ (t.drop k)).length →
    (u ++ t).drop (lfirst (u ++ t) (u.length + k) f) = dropQ t ∨ 40 < ((u ++ t).drop (lfirst (u ++ t) (u.length + k) f)).length ∧ 40 < (dropQ t).length := by
  have hdr : ∀ k, (u ++ t).drop (u.length + k + (preQ (t.drop k)).length) = dropQ (t.drop k) := fun k => by
    rw [← drop_pre (t.drop k), Nat.add_assoc, ← List.drop_drop (l := u ++ t), List.drop_left, List.drop_drop]
  intro k
  induction k with
  | zero =>
    intro f hk hf
    left
    have e : lfirst (u ++ t) (u.length + 0) f = f := by
      cases hul : u.length with
      | zero => rfl
      | succ j =>
        have hne : u ≠ [] := by intro h; rw [h] at hul; simp at hul
        have hg : (u ++ t).getD (j + 0) 0 = u.getLast hne := by
          rw [List.getD_eq_getElem?_getD, List.getElem?_append_left (by omega), List.getLast_eq_getElem, List.getElem?_eq_getElem (by omega)]
          simp [hul]
        rw [Nat.add_zero] at hg
        show lfirst (u ++ t) (j + 1) f = f
        unfold lfirst
        rw [hg, hu hne, if_neg (by simp)]
    rw [e, hf]
    exact hdr 0
  | succ k ih =>
    intro f hk hf
    have hg : (u ++ t).getD (u.length + k) 0 = t.getD k 0 := by
      rw [List.getD_eq_getElem?_getD, List.getElem?_append_right (by omega), Nat.add_sub_cancel_left, List.getD_eq_getElem?_getD]
    have hkl : k < t.length := by omega
    have hin : inW (t.getD k 0) = true := by
      rw [List.all_eq_true] at ha
      apply ha
      rw [List.getD_eq_getElem?_getD, List.getElem?_eq_getElem hkl]
      exact List.getElem_mem _
    have hcons : t.drop k = t.getD k 0 :: t.drop (k + 1) := by
      rw [List.getD_eq_getElem?_getD, List.getElem?_eq_getElem hkl, List.drop_eq_getElem_cons hkl]; rfl
    show (u ++ t).drop (lfirst (u ++ t) (u.length + k + 1) f) = dropQ t ∨ 40 < ((u ++ t).drop (lfirst (u ++ t) (u.length + k + 1) f)).length ∧ 40 < (dropQ t).length
    unfold lfirst
    rw [hg, hin]
    by_cases h40 : (u ++ t).length - f ≤ 40
    · rw [if_pos ⟨rfl, h40⟩]
      apply ih _ (by omega)
      by_cases hL : isL (t.getD k 0) = true
      · rw [if_pos hL]
        have hq := isL_nq hL
        rw [hcons]; unfold preQ; rw [List.takeWhile_cons, hq]; simp
      · rw [if_neg hL]
        have hq : qu (t.getD k 0) = true := by
          cases hq : qu (t.getD k 0) with
          | true => rfl
          | false => exact absurd (inW_ne hin hq) hL
        rw [hf, hcons]; unfold preQ; rw [List.takeWhile_cons, hq]; simp; omega
    · rw [if_neg (by simp only [true_and]; exact h40)]
      right
      have e := hdr (k + 1)
      rw [← hf] at e
      rw [e]
      have e2 := congrArg List.length e
      rw [List.length_drop] at e2
      have := dropQ_drop t (k + 1)
      omega
theorem last_split (b : Bytes) : ∃ u t : Bytes, b = u ++ t ∧ t.all inW = true ∧ ∀ h : u ≠ [], inW (u.getLast h) = false := by
  refine ⟨(b.reverse.dropWhile inW).reverse, (b.reverse.takeWhile inW).reverse, ?_, ?_, ?_⟩
  · rw [← List.reverse_append, List.takeWhile_append_dropWhile, List.reverse_reverse]
  · rw [List.all_reverse]; exact List.all_takeWhile
  · intro h
    have h1 := List.head?_dropWhile_not inW b.reverse
    have h3 : (b.reverse.dropWhile inW).head? = some (((b.reverse.dropWhile inW).reverse).getLast h) := by
      rw [← List.getLast?_reverse, List.getLast?_eq_some_getLast h]
    rw [h3] at h1
    simpa using h1
/-- The last word by tokens is the last row, where that is a word. -/
theorem lastT_toks {b : Bytes} (h0 : b ≠ []) (hl : isL (b.getLastD 0) = true) : lastT (toks b [] []) = if isWd (lrow b) = true then lrow b else [] := by
  obtain ⟨u, t, rfl, ha, hu⟩ := last_split b
  have ht : t ≠ [] := by
    rintro rfl
    rw [List.append_nil] at hl h0
    have := hu h0
    rw [List.getLastD_eq_getLast?, List.getLast?_eq_some_getLast h0] at hl
    have h2 := isL_inW hl
    rw [Option.getD_some, this] at h2
    exact absurd h2 (by decide)
  have htl : isL (t.getLastD 0) = true := by
    rw [List.getLastD_eq_getLast?, List.getLast?_append, List.getLast?_eq_some_getLast ht] at hl
    rw [List.getLastD_eq_getLast?, List.getLast?_eq_some_getLast ht]
    exact hl
  obtain ⟨b', o', e⟩ := toks_skip t _ u [] [] (Nat.le_refl _) hu
  rw [e, lastT_row ht ha htl]
  have hf := lfirst_ok ha hu t.length (u ++ t).length (Nat.le_refl _) (by rw [List.drop_length]; simp [preQ])
  have e2 : lrow (u ++ t) = (u ++ t).drop (lfirst (u ++ t) (u.length + t.length) (u ++ t).length) := by
    unfold lrow; rw [List.length_append]
  rw [← e2] at hf
  rcases hf with hf | ⟨h1, h2⟩
  · rw [hf]
  · rw [isWd_gt h1, isWd_gt h2]; simp
/-- Whether the hyphen goes: as the program asks, and as the reference asks. -/
def goes (has : Bytes → Bool) (a b : Bytes) : Bool :=
  (isWd a && isWd b && has (a ++ b)) || (!(isWd a && has a) && !(isWd b && has b))
theorem goes_eq {has : Bytes → Bool} (h0 : has [] = false) (a b : Bytes) : goes has a b =
    (let x := if isWd a = true then a else []; let y := if isWd b = true then b else []; (decide (x ≠ []) && decide (y ≠ []) && has (x ++ y)) || (!has x && !has y)) := by
  have hne : ∀ {s : Bytes}, isWd s = true → s ≠ [] := fun h => (isWd_parts h).1
  unfold goes
  cases ha : isWd a <;> cases hb : isWd b
  · simp [h0]
  · simp [h0]
  · simp [h0]
  · simp [hne ha, hne hb]
end Go.Fv.Y

namespace Go.Fv.Y
open Go Go.Proofs
set_option linter.unusedSimpArgs false
set_option linter.unusedVariables false
set_option maxRecDepth 8000
theorem drop_bools {tab : List Bool} {n : Nat} (h : n < tab.length) : (tab.map AV.bool).drop n = .bool (tab.getD n false) :: (tab.map AV.bool).drop (n + 1) := by
  rw [List.drop_eq_getElem_cons (by simpa using h)]
  simp [List.getD, h]

set_option maxHeartbeats 1000000 in
theorem contains_ok (tab : List Bool) (b : Int) (hl : tab.length = 256) (h0 : 0 ≤ b) (h1 : b < 256) : FnOk Tryz.prog 111 [.cell (tab.map .bool), .int .u8 b] (.bool (tab.getD b.toNat false)) [] := by
  refine FnOk.of_vc Tryz.func111 rfl (by decide) (by simp [Tryz.f111]) [.tmp 4] rfl fun w0 T0 _ => ?_
  simp only [Tryz.f111, argEnv]
  have hd := drop_bools (tab := tab) (n := b.toNat) (by omega)
  simp (maxSteps := 1000000) only [go_sem, reduceCtorEq, Nat.reduceLT, Nat.reduceLeDiff, reduceIte, ↓reduceIte, Nat.reduceEqDiff, Nat.reduceAdd, Nat.reduceMul, Nat.reduceSub, Int.reduceLE, Int.reduceLT, Int.reduceNeg, Int.reduceToNat, Nat.mul_one, hd]
  (repeat' first | (with_reducible refine Asm.intro fun _ => ?_) | ((with_reducible refine Chk.intro ?_ ?_); (· first | omega | (with_reducible refine Chk.intro ?_ ?_ <;> omega) | (simp; done) | (simp; omega))) | ((with_reducible refine LetW.i64 ?_ ?_ ?_); (· omega); (· omega)) | ((with_reducible refine Ite.decide (fun _ => ?_) (fun _ => ?_)) <;> first | (exfalso; omega) | simp (maxSteps := 1000000) only [go_sem, reduceCtorEq, Nat.reduceLT, Nat.reduceLeDiff, reduceIte, ↓reduceIte, Nat.reduceEqDiff, Nat.reduceAdd, Nat.reduceMul, Nat.reduceSub, Int.reduceLE, Int.reduceLT, Int.reduceNeg, Int.reduceToNat]) | ((with_reducible refine Ite.bool (fun _ => ?_) (fun _ => ?_)) <;> simp (maxSteps := 1000000) only [go_sem, reduceCtorEq, Nat.reduceLT, Nat.reduceLeDiff, reduceIte, ↓reduceIte, Nat.reduceEqDiff, Nat.reduceAdd, Nat.reduceMul, Nat.reduceSub, Int.reduceLE, Int.reduceLT, Int.reduceNeg, Int.reduceToNat]) | (with_reducible refine And.intro ?_ ?_))
  refine Ret.auto 0 ?_ rfl ?_ <;> simp only [go_sem, reduceCtorEq, reduceIte, Nat.reduceEqDiff, Nat.reduceLT, Nat.reduceLeDiff, Int.natCast_succ, Post]

set_option maxHeartbeats 1000000 in
theorem trimRight_a (tab : List Bool) (hl : tab.length = 256) (ha : tab.getD 97 false = true) : FnOk Tryz.prog 81 [.str [97], .cell (tab.map .bool)] (.str []) [] := by
  refine FnOk.of_vc Tryz.func81 rfl (by decide) (by simp [Tryz.f81]) [.tmp 4] rfl fun w0 T0 _ => ?_
  simp only [Tryz.f81, argEnv]
  simp (maxSteps := 1000000) only [go_sem, reduceCtorEq, Nat.reduceLT, Nat.reduceLeDiff, reduceIte, ↓reduceIte, Nat.reduceEqDiff, Nat.reduceAdd, Nat.reduceMul, Nat.reduceSub, Int.reduceLE, Int.reduceLT, Int.reduceNeg, Int.reduceToNat]
  refine VcLoop.intro (fun k : Bool => ⟨22, [(0, .str (cond k [97] [])), (1, .cell (tab.map .bool))], [], 0⟩) (fun _ => True) (fun k => cond k 1 0) true ?_ trivial fun k _ => ?_
  · refine Ent.auto0 rfl ?_ ?_ <;> simp only [go_sem, reduceCtorEq, reduceIte, Nat.reduceEqDiff, Nat.reduceLT, Nat.reduceLeDiff, Int.natCast_succ, cond_true]
  cases k with
  | true =>
    simp (maxSteps := 1000000) only [go_sem, reduceCtorEq, Nat.reduceLT, Nat.reduceLeDiff, reduceIte, ↓reduceIte, Nat.reduceEqDiff, Nat.reduceAdd, Nat.reduceMul, Nat.reduceSub, Int.reduceLE, Int.reduceLT, Int.reduceNeg, Int.reduceToNat]
    (repeat' first | (with_reducible refine Asm.intro fun _ => ?_) | ((with_reducible refine Chk.intro ?_ ?_); (· first | omega | (with_reducible refine Chk.intro ?_ ?_ <;> omega) | (simp; done) | (simp; omega))) | ((with_reducible refine LetW.i64 ?_ ?_ ?_); (· omega); (· omega)) | ((with_reducible refine Ite.decide (fun _ => ?_) (fun _ => ?_)) <;> first | (exfalso; omega) | simp (maxSteps := 1000000) only [go_sem, reduceCtorEq, Nat.reduceLT, Nat.reduceLeDiff, reduceIte, ↓reduceIte, Nat.reduceEqDiff, Nat.reduceAdd, Nat.reduceMul, Nat.reduceSub, Int.reduceLE, Int.reduceLT, Int.reduceNeg, Int.reduceToNat]) | ((with_reducible refine Ite.bool (fun _ => ?_) (fun _ => ?_)) <;> simp (maxSteps := 1000000) only [go_sem, reduceCtorEq, Nat.reduceLT, Nat.reduceLeDiff, reduceIte, ↓reduceIte, Nat.reduceEqDiff, Nat.reduceAdd, Nat.reduceMul, Nat.reduceSub, Int.reduceLE, Int.reduceLT, Int.reduceNeg, Int.reduceToNat]) | (with_reducible refine And.intro ?_ ?_))
    have e : ((([97] : List UInt8).getD (((1 : Nat) : Int) - 1).toNat 0).toNat : Int) = 97 := rfl
    rw [e]
    refine VcCall.fr (args' := [.cell (tab.map .bool), .int .u8 97]) (FnFr.of_ok (contains_ok tab 97 hl (by omega) (by omega)) rfl rfl) (by simp [argOkL, allOk, argOkN]) 0 rfl (by simp [rowsB]) ?_
    simp (maxSteps := 1000000) only [go_sem, reduceCtorEq, Nat.reduceLT, Nat.reduceLeDiff, reduceIte, ↓reduceIte, Nat.reduceEqDiff, Nat.reduceAdd, Nat.reduceMul, Nat.reduceSub, Int.reduceLE, Int.reduceLT, Int.reduceNeg, Int.reduceToNat, ha]
    (repeat' first | (with_reducible refine Asm.intro fun _ => ?_) | ((with_reducible refine Chk.intro ?_ ?_); (· first | omega | (with_reducible refine Chk.intro ?_ ?_ <;> omega) | (simp; done) | (simp; omega))) | ((with_reducible refine LetW.i64 ?_ ?_ ?_); (· omega); (· omega)) | ((with_reducible refine Ite.decide (fun _ => ?_) (fun _ => ?_)) <;> first | (exfalso; omega) | simp (maxSteps := 1000000) only [go_sem, reduceCtorEq, Nat.reduceLT, Nat.reduceLeDiff, reduceIte, ↓reduceIte, Nat.reduceEqDiff, Nat.reduceAdd, Nat.reduceMul, Nat.reduceSub, Int.reduceLE, Int.reduceLT, Int.reduceNeg, Int.reduceToNat]) | ((with_reducible refine Ite.bool (fun _ => ?_) (fun _ => ?_)) <;> simp (maxSteps := 1000000) only [go_sem, reduceCtorEq, Nat.reduceLT, Nat.reduceLeDiff, reduceIte, ↓reduceIte, Nat.reduceEqDiff, Nat.reduceAdd, Nat.reduceMul, Nat.reduceSub, Int.reduceLE, Int.reduceLT, Int.reduceNeg, Int.reduceToNat]) | (with_reducible refine And.intro ?_ ?_))
    refine ⟨false, Ent.auto0 rfl ?_ ?_, Nat.zero_lt_one⟩ <;> simp only [go_sem, reduceCtorEq, reduceIte, Nat.reduceEqDiff, Nat.reduceLT, Nat.reduceLeDiff, Int.natCast_succ, cond_false]
    simp
  | false =>
    simp (maxSteps := 1000000) only [go_sem, reduceCtorEq, Nat.reduceLT, Nat.reduceLeDiff, reduceIte, ↓reduceIte, Nat.reduceEqDiff, Nat.reduceAdd, Nat.reduceMul, Nat.reduceSub, Int.reduceLE, Int.reduceLT, Int.reduceNeg, Int.reduceToNat]
    (repeat' first | (with_reducible refine Asm.intro fun _ => ?_) | ((with_reducible refine Chk.intro ?_ ?_); (· first | omega | (with_reducible refine Chk.intro ?_ ?_ <;> omega) | (simp; done) | (simp; omega))) | ((with_reducible refine LetW.i64 ?_ ?_ ?_); (· omega); (· omega)) | ((with_reducible refine Ite.decide (fun _ => ?_) (fun _ => ?_)) <;> first | (exfalso; omega) | simp (maxSteps := 1000000) only [go_sem, reduceCtorEq, Nat.reduceLT, Nat.reduceLeDiff, reduceIte, ↓reduceIte, Nat.reduceEqDiff, Nat.reduceAdd, Nat.reduceMul, Nat.reduceSub, Int.reduceLE, Int.reduceLT, Int.reduceNeg, Int.reduceToNat]) | ((with_reducible refine Ite.bool (fun _ => ?_) (fun _ => ?_)) <;> simp (maxSteps := 1000000) only [go_sem, reduceCtorEq, Nat.reduceLT, Nat.reduceLeDiff, reduceIte, ↓reduceIte, Nat.reduceEqDiff, Nat.reduceAdd, Nat.reduceMul, Nat.reduceSub, Int.reduceLE, Int.reduceLT, Int.reduceNeg, Int.reduceToNat]) | (with_reducible refine And.intro ?_ ?_))
    refine Ret.auto 0 ?_ rfl ?_ <;> simp only [go_sem, reduceCtorEq, reduceIte, Nat.reduceEqDiff, Nat.reduceLT, Nat.reduceLeDiff, Int.natCast_succ, Post]

set_option maxHeartbeats 1000000 in
theorem trimLeft_nil (tab : List Bool) : FnOk Tryz.prog 80 [.str [], .cell (tab.map .bool)] (.str []) [] := by
  refine FnOk.of_vc Tryz.func80 rfl (by decide) (by simp [Tryz.f80]) [.tmp 4] rfl fun w0 T0 _ => ?_
  simp only [Tryz.f80, argEnv]
  simp (maxSteps := 1000000) only [go_sem, reduceCtorEq, Nat.reduceLT, Nat.reduceLeDiff, reduceIte, ↓reduceIte, Nat.reduceEqDiff, Nat.reduceAdd, Nat.reduceMul, Nat.reduceSub, Int.reduceLE, Int.reduceLT, Int.reduceNeg, Int.reduceToNat]
  refine VcLoop.intro (fun k : Unit => ⟨16, [(0, .str [])], [], 0⟩) (fun _ => True) (fun k => 0) () ?_ trivial fun k _ => ?_
  · refine Ent.auto0 rfl ?_ ?_ <;> simp only [go_sem, reduceCtorEq, reduceIte, Nat.reduceEqDiff, Nat.reduceLT, Nat.reduceLeDiff, Int.natCast_succ]
  simp (maxSteps := 1000000) only [go_sem, reduceCtorEq, Nat.reduceLT, Nat.reduceLeDiff, reduceIte, ↓reduceIte, Nat.reduceEqDiff, Nat.reduceAdd, Nat.reduceMul, Nat.reduceSub, Int.reduceLE, Int.reduceLT, Int.reduceNeg, Int.reduceToNat]
  (repeat' first | (with_reducible refine Asm.intro fun _ => ?_) | ((with_reducible refine Chk.intro ?_ ?_); (· first | omega | (with_reducible refine Chk.intro ?_ ?_ <;> omega) | (simp; done) | (simp; omega))) | ((with_reducible refine LetW.i64 ?_ ?_ ?_); (· omega); (· omega)) | ((with_reducible refine Ite.decide (fun _ => ?_) (fun _ => ?_)) <;> first | (exfalso; omega) | simp (maxSteps := 1000000) only [go_sem, reduceCtorEq, Nat.reduceLT, Nat.reduceLeDiff, reduceIte, ↓reduceIte, Nat.reduceEqDiff, Nat.reduceAdd, Nat.reduceMul, Nat.reduceSub, Int.reduceLE, Int.reduceLT, Int.reduceNeg, Int.reduceToNat]) | ((with_reducible refine Ite.bool (fun _ => ?_) (fun _ => ?_)) <;> simp (maxSteps := 1000000) only [go_sem, reduceCtorEq, Nat.reduceLT, Nat.reduceLeDiff, reduceIte, ↓reduceIte, Nat.reduceEqDiff, Nat.reduceAdd, Nat.reduceMul, Nat.reduceSub, Int.reduceLE, Int.reduceLT, Int.reduceNeg, Int.reduceToNat]) | (with_reducible refine And.intro ?_ ?_))
  refine Ret.auto 0 ?_ rfl ?_ <;> simp only [go_sem, reduceCtorEq, reduceIte, Nat.reduceEqDiff, Nat.reduceLT, Nat.reduceLeDiff, Int.natCast_succ, Post]

theorem z121 : zeroOf Tryz.prog 121 = some (.agg (Array.replicate 256 (.bool false))) := by kernel_rfl
theorem c121 : Tryz.prog.cellsOf 121 = 256 := by kernel_rfl

attribute [go_sem] z121 c121
def asciiAt (s : List UInt8) : Nat → List Bool
  | 0 => List.replicate 256 false
  | i + 1 => (asciiAt s i).set (s.getD i 0).toNat true
theorem asciiAt_len (s : List UInt8) : ∀ i, (asciiAt s i).length = 256
  | 0 => by simp [asciiAt]
  | i + 1 => by simp [asciiAt, asciiAt_len s i]

set_option maxHeartbeats 1000000 in
theorem makeAscii_ok (s : List UInt8) (hs : ∀ i, i < s.length → (s.getD i 0).toNat < 128) : FnOk Tryz.prog 79 [.str s] (.tup [.agg ((asciiAt s s.length).map .bool), .bool true]) [] := by
  refine FnOk.of_vc Tryz.func79 rfl (by decide) (by simp [Tryz.f79]) [.cell 2 121, .tmp 3] rfl fun w0 T0 _ => ?_
  simp only [Tryz.f79, argEnv]
  simp (maxSteps := 1000000) only [go_sem, reduceCtorEq, Nat.reduceLT, Nat.reduceLeDiff, reduceIte, ↓reduceIte, Nat.reduceEqDiff, Nat.reduceAdd, Nat.reduceMul, Nat.reduceSub, Int.reduceLE, Int.reduceLT, Int.reduceNeg, Int.reduceToNat]
  refine VcLoop.intro (fun i : Nat => ⟨21, [(0, .str s), (2, .ptr 0 0), (4, .int .i64 i)], [(0, .box 121 ((asciiAt s i).map .bool))], 1⟩) (fun i => i ≤ s.length) (fun i => s.length - i) 0 ?_ (Nat.zero_le _) fun i hi => ?_
  · refine Ent.auto0 rfl ?_ ?_ <;> simp only [go_sem, reduceCtorEq, reduceIte, Nat.reduceEqDiff, Nat.reduceLT, Nat.reduceLeDiff, Int.natCast_succ, asciiAt]
  have hlen := asciiAt_len s i
  simp (maxSteps := 1000000) only [go_sem, reduceCtorEq, Nat.reduceLT, Nat.reduceLeDiff, reduceIte, ↓reduceIte, Nat.reduceEqDiff, Nat.reduceAdd, Nat.reduceMul, Nat.reduceSub, Int.reduceLE, Int.reduceLT, Int.reduceNeg, Int.reduceToNat]
  (repeat' first | (with_reducible refine Asm.intro fun _ => ?_) | ((with_reducible refine Chk.intro ?_ ?_); (· first | omega | (with_reducible refine Chk.intro ?_ ?_ <;> omega) | (simp; done) | (simp; omega))) | ((with_reducible refine LetW.i64 ?_ ?_ ?_); (· omega); (· omega)) | ((with_reducible refine Ite.decide (fun _ => ?_) (fun _ => ?_)) <;> first | (exfalso; omega) | simp (maxSteps := 1000000) only [go_sem, reduceCtorEq, Nat.reduceLT, Nat.reduceLeDiff, reduceIte, ↓reduceIte, Nat.reduceEqDiff, Nat.reduceAdd, Nat.reduceMul, Nat.reduceSub, Int.reduceLE, Int.reduceLT, Int.reduceNeg, Int.reduceToNat]) | ((with_reducible refine Ite.bool (fun _ => ?_) (fun _ => ?_)) <;> simp (maxSteps := 1000000) only [go_sem, reduceCtorEq, Nat.reduceLT, Nat.reduceLeDiff, reduceIte, ↓reduceIte, Nat.reduceEqDiff, Nat.reduceAdd, Nat.reduceMul, Nat.reduceSub, Int.reduceLE, Int.reduceLT, Int.reduceNeg, Int.reduceToNat]) | (with_reducible refine And.intro ?_ ?_))
  · have := hs i (by omega)
    omega
  · refine ⟨i + 1, Ent.auto0 rfl ?_ ?_, by omega, by omega⟩
    · simp only [go_sem, reduceCtorEq, reduceIte, Nat.reduceEqDiff, Nat.reduceLT, Nat.reduceLeDiff, Int.natCast_succ]
    · simp only [go_sem, reduceCtorEq, reduceIte, Nat.reduceEqDiff, Nat.reduceLT, Nat.reduceLeDiff, Int.natCast_succ, asciiAt]
  · have e : i = s.length := by omega
    subst e
    have e2 : ((asciiAt s s.length).map AV.bool).take 256 = (asciiAt s s.length).map AV.bool := List.take_of_length_le (by simp [hlen])
    have e3 : spl ((asciiAt s s.length).map AV.bool) 0 ((asciiAt s s.length).map AV.bool) = (asciiAt s s.length).map AV.bool := spl_all rfl
    refine Ret.auto 0 ?_ ?_ ?_ <;> simp only [go_sem, reduceCtorEq, reduceIte, Nat.reduceEqDiff, Nat.reduceLT, Nat.reduceLeDiff, Int.natCast_succ, Post, e2, e3, List.drop_zero]
    simp (maxSteps := 1000000) only [go_sem, reduceCtorEq, Nat.reduceLT, Nat.reduceLeDiff, reduceIte, ↓reduceIte, Nat.reduceEqDiff, Nat.reduceAdd, Nat.reduceMul, Nat.reduceSub, Int.reduceLE, Int.reduceLT, Int.reduceNeg, Int.reduceToNat, e2, hlen, List.length_map]

def cutset : List UInt8 := [97, 98, 99, 100, 101, 102, 103, 104, 105, 106, 107, 108, 109, 110, 111, 112, 113, 114, 115, 116, 117, 118, 119, 120, 121, 122, 48, 49, 50, 51, 52, 53, 54, 55, 56, 57, 45]
theorem cut_small : ∀ i, i < cutset.length → (cutset.getD i 0).toNat < 128 := by decide
theorem cut_a : (asciiAt cutset cutset.length).getD 97 false = true := by decide

set_option maxHeartbeats 1000000 in
theorem trim_a : FnOk Tryz.prog 31 [.str [97], .str cutset] (.str []) [] := by
  refine FnOk.of_vc Tryz.func31 rfl (by decide) (by simp [Tryz.f31]) [.tmp 4] rfl fun w0 T0 _ => ?_
  simp only [Tryz.f31, argEnv]
  have hc : ¬ cutset = [] := by decide
  have hl : cutset.length = 37 := rfl
  simp (maxSteps := 1000000) only [go_sem, reduceCtorEq, Nat.reduceLT, Nat.reduceLeDiff, reduceIte, ↓reduceIte, Nat.reduceEqDiff, Nat.reduceAdd, Nat.reduceMul, Nat.reduceSub, Int.reduceLE, Int.reduceLT, Int.reduceNeg, Int.reduceToNat, hc, hl]
  (repeat' first | (with_reducible refine Asm.intro fun _ => ?_) | ((with_reducible refine Chk.intro ?_ ?_); (· first | omega | (with_reducible refine Chk.intro ?_ ?_ <;> omega) | (simp; done) | (simp; omega))) | ((with_reducible refine LetW.i64 ?_ ?_ ?_); (· omega); (· omega)) | ((with_reducible refine Ite.decide (fun _ => ?_) (fun _ => ?_)) <;> first | (exfalso; omega) | simp (maxSteps := 1000000) only [go_sem, reduceCtorEq, Nat.reduceLT, Nat.reduceLeDiff, reduceIte, ↓reduceIte, Nat.reduceEqDiff, Nat.reduceAdd, Nat.reduceMul, Nat.reduceSub, Int.reduceLE, Int.reduceLT, Int.reduceNeg, Int.reduceToNat]) | ((with_reducible refine Ite.bool (fun _ => ?_) (fun _ => ?_)) <;> simp (maxSteps := 1000000) only [go_sem, reduceCtorEq, Nat.reduceLT, Nat.reduceLeDiff, reduceIte, ↓reduceIte, Nat.reduceEqDiff, Nat.reduceAdd, Nat.reduceMul, Nat.reduceSub, Int.reduceLE, Int.reduceLT, Int.reduceNeg, Int.reduceToNat]) | (with_reducible refine And.intro ?_ ?_))
  have hlen := asciiAt_len cutset cutset.length
  refine VcCall.fr (args' := [.str cutset]) (FnFr.of_ok (makeAscii_ok cutset cut_small) (by simp [noRo, noRoL, noRoL_bools]) rfl) (by simp [argOkL, allOk, argOkN]) 0 (by simp [Fv.below, belowL, belowL_bools]) (by simp [rowsB]) ?_
  have ha := cut_a
  generalize asciiAt cutset cutset.length = tab at hlen ha ⊢
  simp (maxSteps := 1000000) only [go_sem, reduceCtorEq, Nat.reduceLT, Nat.reduceLeDiff, reduceIte, ↓reduceIte, Nat.reduceEqDiff, Nat.reduceAdd, Nat.reduceMul, Nat.reduceSub, Int.reduceLE, Int.reduceLT, Int.reduceNeg, Int.reduceToNat]
  have e1 : spl (List.replicate 256 (AV.bool false)) 0 (tab.map .bool) = tab.map .bool := spl_all (by simp [hlen])
  refine Chk.intro (by simp [hlen]) ?_
  rw [e1]
  refine Chk.intro (by omega) ?_
  refine VcCall.fr (args' := [.str [97], .cell (tab.map .bool)]) (FnFr.of_ok (trimRight_a tab hlen ha) rfl rfl) ?_ 0 rfl (by simp [rowsB]) ?_
  · exact ⟨_, _, rfl, ⟨_, _, ⟨_, _, _, rfl, allOk_bools _ 4 _, rfl⟩, rfl, rfl⟩, rfl⟩
  simp (maxSteps := 1000000) only [go_sem, reduceCtorEq, Nat.reduceLT, Nat.reduceLeDiff, reduceIte, ↓reduceIte, Nat.reduceEqDiff, Nat.reduceAdd, Nat.reduceMul, Nat.reduceSub, Int.reduceLE, Int.reduceLT, Int.reduceNeg, Int.reduceToNat]
  refine VcCall.fr (args' := [.str [], .cell (tab.map .bool)]) (FnFr.of_ok (trimLeft_nil tab) rfl rfl) ?_ 0 rfl (by simp [rowsB]) ?_
  · exact ⟨_, _, rfl, ⟨_, _, ⟨_, _, _, rfl, allOk_bools _ 4 _, rfl⟩, rfl, rfl⟩, rfl⟩
  simp (maxSteps := 1000000) only [go_sem, reduceCtorEq, Nat.reduceLT, Nat.reduceLeDiff, reduceIte, ↓reduceIte, Nat.reduceEqDiff, Nat.reduceAdd, Nat.reduceMul, Nat.reduceSub, Int.reduceLE, Int.reduceLT, Int.reduceNeg, Int.reduceToNat]
  refine Ret.auto 0 ?_ rfl ?_ <;> simp only [go_sem, reduceCtorEq, reduceIte, Nat.reduceEqDiff, Nat.reduceLT, Nat.reduceLeDiff, Int.natCast_succ, Post]

set_option maxHeartbeats 1000000 in
theorem isName_a : FnOk Tryz.prog 29 [.str [97]] (.bool true) [] := by
  refine FnOk.of_vc Tryz.func29 rfl (by decide) (by simp [Tryz.f29]) [.tmp 2] rfl fun w0 T0 _ => ?_
  simp only [Tryz.f29, argEnv]
  simp (maxSteps := 1000000) only [go_sem, reduceCtorEq, Nat.reduceLT, Nat.reduceLeDiff, reduceIte, ↓reduceIte, Nat.reduceEqDiff, Nat.reduceAdd, Nat.reduceMul, Nat.reduceSub, Int.reduceLE, Int.reduceLT, Int.reduceNeg, Int.reduceToNat]
  (repeat' first | (with_reducible refine Asm.intro fun _ => ?_) | ((with_reducible refine Chk.intro ?_ ?_); (· first | omega | (with_reducible refine Chk.intro ?_ ?_ <;> omega) | (simp; done) | (simp; omega))) | ((with_reducible refine LetW.i64 ?_ ?_ ?_); (· omega); (· omega)) | ((with_reducible refine Ite.decide (fun _ => ?_) (fun _ => ?_)) <;> first | (exfalso; omega) | simp (maxSteps := 1000000) only [go_sem, reduceCtorEq, Nat.reduceLT, Nat.reduceLeDiff, reduceIte, ↓reduceIte, Nat.reduceEqDiff, Nat.reduceAdd, Nat.reduceMul, Nat.reduceSub, Int.reduceLE, Int.reduceLT, Int.reduceNeg, Int.reduceToNat]) | ((with_reducible refine Ite.bool (fun _ => ?_) (fun _ => ?_)) <;> simp (maxSteps := 1000000) only [go_sem, reduceCtorEq, Nat.reduceLT, Nat.reduceLeDiff, reduceIte, ↓reduceIte, Nat.reduceEqDiff, Nat.reduceAdd, Nat.reduceMul, Nat.reduceSub, Int.reduceLE, Int.reduceLT, Int.reduceNeg, Int.reduceToNat]) | (with_reducible refine And.intro ?_ ?_))
  · refine VcCall.fr (args' := [.str [97], .str cutset]) (FnFr.of_ok trim_a rfl rfl) (by simp [argOkL, allOk, argOkN, cutset]) 0 rfl (by simp [rowsB]) ?_
    simp (maxSteps := 1000000) only [go_sem, reduceCtorEq, Nat.reduceLT, Nat.reduceLeDiff, reduceIte, ↓reduceIte, Nat.reduceEqDiff, Nat.reduceAdd, Nat.reduceMul, Nat.reduceSub, Int.reduceLE, Int.reduceLT, Int.reduceNeg, Int.reduceToNat]
    (repeat' first | (with_reducible refine Asm.intro fun _ => ?_) | ((with_reducible refine Chk.intro ?_ ?_); (· first | omega | (with_reducible refine Chk.intro ?_ ?_ <;> omega) | (simp; done) | (simp; omega))) | ((with_reducible refine LetW.i64 ?_ ?_ ?_); (· omega); (· omega)) | ((with_reducible refine Ite.decide (fun _ => ?_) (fun _ => ?_)) <;> first | (exfalso; omega) | simp (maxSteps := 1000000) only [go_sem, reduceCtorEq, Nat.reduceLT, Nat.reduceLeDiff, reduceIte, ↓reduceIte, Nat.reduceEqDiff, Nat.reduceAdd, Nat.reduceMul, Nat.reduceSub, Int.reduceLE, Int.reduceLT, Int.reduceNeg, Int.reduceToNat]) | ((with_reducible refine Ite.bool (fun _ => ?_) (fun _ => ?_)) <;> simp (maxSteps := 1000000) only [go_sem, reduceCtorEq, Nat.reduceLT, Nat.reduceLeDiff, reduceIte, ↓reduceIte, Nat.reduceEqDiff, Nat.reduceAdd, Nat.reduceMul, Nat.reduceSub, Int.reduceLE, Int.reduceLT, Int.reduceNeg, Int.reduceToNat]) | (with_reducible refine And.intro ?_ ?_))
    refine Ret.auto 0 ?_ rfl ?_ <;> simp only [go_sem, reduceCtorEq, reduceIte, Nat.reduceEqDiff, Nat.reduceLT, Nat.reduceLeDiff, Int.natCast_succ, Post]
  · rename_i h
    exact (h (by decide)).elim

theorem landed_ok : FnOk Tryz.prog 7 [] (.bool true) [] := by
  refine FnOk.of_vc Tryz.func7 rfl (by decide) (by simp [Tryz.f7]) [.tmp 0] rfl fun w0 T0 _ => ?_
  simp only [Tryz.f7, argEnv]
  simp (maxSteps := 1000000) only [go_sem, reduceCtorEq, Nat.reduceLT, Nat.reduceLeDiff, reduceIte, ↓reduceIte, Nat.reduceEqDiff, Nat.reduceAdd, Nat.reduceMul, Nat.reduceSub, Int.reduceLE, Int.reduceLT, Int.reduceNeg, Int.reduceToNat]
  refine VcCall.fr (args' := [.str [97]]) (FnFr.of_ok isName_a rfl rfl) (by simp [argOkL, allOk, argOkN]) 0 rfl (by simp [rowsB]) ?_
  simp (maxSteps := 1000000) only [go_sem, reduceCtorEq, Nat.reduceLT, Nat.reduceLeDiff, reduceIte, ↓reduceIte, Nat.reduceEqDiff, Nat.reduceAdd, Nat.reduceMul, Nat.reduceSub, Int.reduceLE, Int.reduceLT, Int.reduceNeg, Int.reduceToNat]
  refine Ret.auto 0 ?_ rfl ?_ <;> simp only [go_sem, reduceCtorEq, reduceIte, Nat.reduceEqDiff, Nat.reduceLT, Nat.reduceLeDiff, Int.natCast_succ, Post]

end Go.Fv.Y

/- strings.Trim at any set of small letters; IsName. -/
namespace Go.Fv.Y
open Go Go.Proofs
set_option linter.unusedSimpArgs false
set_option linter.unusedVariables false
set_option linter.unnecessarySimpa false
set_option maxRecDepth 8000

def endOff (p : UInt8 → Bool) (s : List UInt8) : List UInt8 := (s.reverse.dropWhile p).reverse
def inCut (cut : List UInt8) (c : UInt8) : Bool := decide (c ∈ cut)
theorem asciiAt_get (s : List UInt8) (c : UInt8) : ∀ i, i ≤ s.length → (asciiAt s i).getD c.toNat false = decide (c ∈ s.take i)
  | 0, _ => by
    have h : c.toNat < 256 := c.toNat_lt
    rw [List.take_zero]
    show (List.replicate 256 false).getD c.toNat false = _
    rw [List.getD_eq_getElem?_getD, List.getElem?_replicate, if_pos h]
    simp
  | i + 1, h => by
    have ih := asciiAt_get s c i (by omega)
    have hlen := asciiAt_len s i
    have hlt : i < s.length := by omega
    have hc := c.toNat_lt
    have htk := List.take_succ_eq_append_getElem hlt
    rw [htk]
    simp only [asciiAt, List.getD_eq_getElem?_getD] at ih ⊢
    rw [List.getElem?_set]
    have e : s[i]?.getD 0 = s[i] := by simp [hlt]
    rw [e]
    by_cases hq : s[i].toNat = c.toNat
    · have hq2 : s[i] = c := UInt8.toNat_inj.1 hq
      rw [if_pos hq, if_pos (by rw [hlen]; omega)]
      simp [hq2]
    · rw [if_neg hq, ih]
      have hq2 : ¬ c = s[i] := fun h => hq (by rw [h])
      rw [Bool.eq_iff_iff, decide_eq_true_eq, decide_eq_true_eq, List.mem_append, List.mem_singleton]
      exact ⟨.inl, fun h => h.elim id fun h => absurd h hq2⟩
theorem last_of2 {s : List UInt8} (h0 : 0 < s.length) : s = s.take (s.length - 1) ++ [s.getD (s.length - 1) 0] := by
  rw [getD_lt (by omega), List.take_append_getElem (by omega), List.take_of_length_le (by omega)]
theorem endOff_snoc (p : UInt8 → Bool) (t : List UInt8) (c : UInt8) : endOff p (t ++ [c]) = if p c = true then endOff p t else t ++ [c] := by
  unfold endOff
  rw [List.reverse_append, List.reverse_singleton, List.singleton_append, List.dropWhile_cons]
  split <;> simp_all
theorem endOff_y {p : UInt8 → Bool} {s : List UInt8} (h0 : 0 < s.length) (h : p (s.getD (s.length - 1) 0) = true) : endOff p (s.take (s.length - 1)) = endOff p s := by
  conv => rhs; rw [last_of2 h0, endOff_snoc, if_pos h]
theorem endOff_n {p : UInt8 → Bool} {s : List UInt8} (h : 0 < s.length → p (s.getD (s.length - 1) 0) = false) : endOff p s = s := by
  by_cases h0 : 0 < s.length
  · conv => lhs; rw [last_of2 h0, endOff_snoc, if_neg (by rw [h h0]; decide)]
    exact (last_of2 h0).symm
  · have : s = [] := List.eq_nil_of_length_eq_zero (by omega)
    subst this; rfl
theorem dropW_y {p : UInt8 → Bool} {s : List UInt8} (h0 : 0 < s.length) (h : p (s.getD 0 0) = true) : (s.drop 1).dropWhile p = s.dropWhile p := by
  cases s with
  | nil => simp at h0
  | cons c t =>
    have h' : p c = true := h
    rw [List.dropWhile_cons, if_pos h']; rfl
theorem dropW_n {p : UInt8 → Bool} {s : List UInt8} (h : 0 < s.length → p (s.getD 0 0) = false) : s.dropWhile p = s := by
  cases s with
  | nil => rfl
  | cons c t => rw [List.dropWhile_cons, if_neg (by have := h (by simp); rw [show (c :: t).getD 0 0 = c from rfl] at this; rw [this]; decide)]
theorem endOff_len (p : UInt8 → Bool) (s : List UInt8) : (endOff p s).length ≤ s.length := by
  unfold endOff
  rw [List.length_reverse]
  refine Nat.le_trans (List.dropWhile_sublist p).length_le ?_
  simp

theorem containsU_ok (tab : List Bool) (hl : tab.length = 256) (c : UInt8) : FnOk Tryz.prog 111 [.cell (tab.map .bool), .int .u8 c.toNat] (.bool (tab.getD c.toNat false)) [] := by
  have h := contains_ok tab c.toNat hl (by omega) (by have := c.toNat_lt; omega)
  rwa [Int.toNat_natCast] at h

set_option maxHeartbeats 1000000 in
theorem trimLeftA_ok (tab : List Bool) (hl : tab.length = 256) (p : UInt8 → Bool) (hp : ∀ c : UInt8, tab.getD c.toNat false = p c) (s : List UInt8) :
    FnOk Tryz.prog 80 [.str s, .cell (tab.map .bool)] (.str (s.dropWhile p)) [] := by
  refine FnOk.of_vc Tryz.func80 rfl (by decide) (by simp [Tryz.f80]) [.tmp 4] rfl fun w0 T0 _ => ?_
  simp only [Tryz.f80, argEnv]
  (repeat' first | with_reducible (first | intro _ | refine rc ?_ | refine rl ?_ | refine rh ?_ | refine rt ?_ | refine rf ?_ | refine rs ?_ | refine And.intro ?_ ?_) | omega | simp (maxSteps := 1000000) only [go_sem, reduceCtorEq, Nat.reduceLT, Nat.reduceLeDiff, reduceIte, ↓reduceIte, Nat.reduceEqDiff, Nat.reduceAdd, Nat.reduceMul, Nat.reduceSub, Int.reduceLE, Int.reduceLT, Int.reduceNeg, Int.reduceToNat])
  refine VcLoop.intro (fun t : List UInt8 => ⟨16, [(0, .str t), (1, .cell (tab.map .bool))], [], 0⟩) (fun t => t.dropWhile p = s.dropWhile p) (fun t => t.length) s ?_ rfl fun t he => ?_
  · refine Ent.auto0 rfl ?_ ?_ <;> simp only [go_sem, reduceCtorEq, reduceIte, Nat.reduceEqDiff, Nat.reduceLT, Nat.reduceLeDiff, Int.natCast_succ]
  (repeat' first | with_reducible (first | intro _ | refine rc ?_ | refine rl ?_ | refine rh ?_ | refine rt ?_ | refine rf ?_ | refine rs ?_ | refine And.intro ?_ ?_) | omega | simp (maxSteps := 1000000) only [go_sem, reduceCtorEq, Nat.reduceLT, Nat.reduceLeDiff, reduceIte, ↓reduceIte, Nat.reduceEqDiff, Nat.reduceAdd, Nat.reduceMul, Nat.reduceSub, Int.reduceLE, Int.reduceLT, Int.reduceNeg, Int.reduceToNat])
  · have k := containsU_ok tab hl (t.getD 0 0)
    rw [hp] at k
    refine VcCall.fr (args' := [.cell (tab.map .bool), .int .u8 (t.getD 0 0).toNat]) (FnFr.of_ok k rfl rfl) (by simp [argOkL, allOk, argOkN]) 0 rfl (by simp [rowsB]) ?_
    cases hq : p (t.getD 0 0) with
    | true =>
      (repeat' first | with_reducible (first | intro _ | refine rc ?_ | refine rl ?_ | refine rh ?_ | refine rt ?_ | refine rf ?_ | refine rs ?_ | refine And.intro ?_ ?_) | omega | simp (maxSteps := 1000000) only [go_sem, reduceCtorEq, Nat.reduceLT, Nat.reduceLeDiff, reduceIte, ↓reduceIte, Nat.reduceEqDiff, Nat.reduceAdd, Nat.reduceMul, Nat.reduceSub, Int.reduceLE, Int.reduceLT, Int.reduceNeg, Int.reduceToNat])
      refine ⟨t.drop 1, Ent.auto0 rfl ?_ ?_, ?_, ?_⟩
      · simp only [go_sem, reduceCtorEq, reduceIte, Nat.reduceEqDiff, Nat.reduceLT, Nat.reduceLeDiff, Int.natCast_succ]
        all_goals first | rfl | exact List.take_of_length_le (by simp)
      · simp only [go_sem, reduceCtorEq, reduceIte, Nat.reduceEqDiff, Nat.reduceLT, Nat.reduceLeDiff, Int.natCast_succ]
      · rw [dropW_y (by omega) hq]; exact he
      · simp; omega
    | false =>
      have e : t = s.dropWhile p := by rw [← he, dropW_n (fun _ => hq)]
      (repeat' first | with_reducible (first | intro _ | refine rc ?_ | refine rl ?_ | refine rh ?_ | refine rt ?_ | refine rf ?_ | refine rs ?_ | refine And.intro ?_ ?_) | omega | simp (maxSteps := 1000000) only [go_sem, reduceCtorEq, Nat.reduceLT, Nat.reduceLeDiff, reduceIte, ↓reduceIte, Nat.reduceEqDiff, Nat.reduceAdd, Nat.reduceMul, Nat.reduceSub, Int.reduceLE, Int.reduceLT, Int.reduceNeg, Int.reduceToNat])
      refine Ret.auto 0 ?_ rfl ?_ <;> simp only [go_sem, reduceCtorEq, reduceIte, Nat.reduceEqDiff, Nat.reduceLT, Nat.reduceLeDiff, Int.natCast_succ, Post, e]
  · have e : t = s.dropWhile p := by rw [← he, dropW_n (fun h => by omega)]
    refine Ret.auto 0 ?_ rfl ?_ <;> simp only [go_sem, reduceCtorEq, reduceIte, Nat.reduceEqDiff, Nat.reduceLT, Nat.reduceLeDiff, Int.natCast_succ, Post, e]
set_option maxHeartbeats 1000000 in
theorem trimRightA_ok (tab : List Bool) (hl : tab.length = 256) (p : UInt8 → Bool) (hp : ∀ c : UInt8, tab.getD c.toNat false = p c) (s : List UInt8) :
    FnOk Tryz.prog 81 [.str s, .cell (tab.map .bool)] (.str (endOff p s)) [] := by
  refine FnOk.of_vc Tryz.func81 rfl (by decide) (by simp [Tryz.f81]) [.tmp 4] rfl fun w0 T0 _ => ?_
  simp only [Tryz.f81, argEnv]
  (repeat' first | with_reducible (first | intro _ | refine rc ?_ | refine rl ?_ | refine rh ?_ | refine rt ?_ | refine rf ?_ | refine rs ?_ | refine And.intro ?_ ?_) | omega | simp (maxSteps := 1000000) only [go_sem, reduceCtorEq, Nat.reduceLT, Nat.reduceLeDiff, reduceIte, ↓reduceIte, Nat.reduceEqDiff, Nat.reduceAdd, Nat.reduceMul, Nat.reduceSub, Int.reduceLE, Int.reduceLT, Int.reduceNeg, Int.reduceToNat])
  refine VcLoop.intro (fun t : List UInt8 => ⟨22, [(0, .str t), (1, .cell (tab.map .bool))], [], 0⟩) (fun t => endOff p t = endOff p s) (fun t => t.length) s ?_ rfl fun t he => ?_
  · refine Ent.auto0 rfl ?_ ?_ <;> simp only [go_sem, reduceCtorEq, reduceIte, Nat.reduceEqDiff, Nat.reduceLT, Nat.reduceLeDiff, Int.natCast_succ]
  have et : ((t.length : Int) - 1).toNat = t.length - 1 := by omega
  (repeat' first | with_reducible (first | intro _ | refine rc ?_ | refine rl ?_ | refine rh ?_ | refine rt ?_ | refine rf ?_ | refine rs ?_ | refine And.intro ?_ ?_) | omega | simp (maxSteps := 1000000) only [go_sem, reduceCtorEq, Nat.reduceLT, Nat.reduceLeDiff, reduceIte, ↓reduceIte, Nat.reduceEqDiff, Nat.reduceAdd, Nat.reduceMul, Nat.reduceSub, Int.reduceLE, Int.reduceLT, Int.reduceNeg, Int.reduceToNat, et])
  · have k := containsU_ok tab hl (t.getD (t.length - 1) 0)
    rw [hp] at k
    refine VcCall.fr (args' := [.cell (tab.map .bool), .int .u8 (t.getD (t.length - 1) 0).toNat]) (FnFr.of_ok k rfl rfl) (by simp [argOkL, allOk, argOkN]) 0 rfl (by simp [rowsB]) ?_
    cases hq : p (t.getD (t.length - 1) 0) with
    | true =>
      (repeat' first | with_reducible (first | intro _ | refine rc ?_ | refine rl ?_ | refine rh ?_ | refine rt ?_ | refine rf ?_ | refine rs ?_ | refine And.intro ?_ ?_) | omega | simp (maxSteps := 1000000) only [go_sem, reduceCtorEq, Nat.reduceLT, Nat.reduceLeDiff, reduceIte, ↓reduceIte, Nat.reduceEqDiff, Nat.reduceAdd, Nat.reduceMul, Nat.reduceSub, Int.reduceLE, Int.reduceLT, Int.reduceNeg, Int.reduceToNat, et])
      refine ⟨t.take (t.length - 1), Ent.auto0 rfl ?_ ?_, ?_, ?_⟩
      · simp only [go_sem, reduceCtorEq, reduceIte, Nat.reduceEqDiff, Nat.reduceLT, Nat.reduceLeDiff, Int.natCast_succ, et]
        all_goals rfl
      · simp only [go_sem, reduceCtorEq, reduceIte, Nat.reduceEqDiff, Nat.reduceLT, Nat.reduceLeDiff, Int.natCast_succ]
      · rw [endOff_y (by omega) hq]; exact he
      · simp; omega
    | false =>
      have e : t = endOff p s := by rw [← he, endOff_n (fun _ => hq)]
      (repeat' first | with_reducible (first | intro _ | refine rc ?_ | refine rl ?_ | refine rh ?_ | refine rt ?_ | refine rf ?_ | refine rs ?_ | refine And.intro ?_ ?_) | omega | simp (maxSteps := 1000000) only [go_sem, reduceCtorEq, Nat.reduceLT, Nat.reduceLeDiff, reduceIte, ↓reduceIte, Nat.reduceEqDiff, Nat.reduceAdd, Nat.reduceMul, Nat.reduceSub, Int.reduceLE, Int.reduceLT, Int.reduceNeg, Int.reduceToNat])
      refine Ret.auto 0 ?_ rfl ?_ <;> simp only [go_sem, reduceCtorEq, reduceIte, Nat.reduceEqDiff, Nat.reduceLT, Nat.reduceLeDiff, Int.natCast_succ, Post, e]
  · have e : t = endOff p s := by rw [← he, endOff_n (fun h => by omega)]
    refine Ret.auto 0 ?_ rfl ?_ <;> simp only [go_sem, reduceCtorEq, reduceIte, Nat.reduceEqDiff, Nat.reduceLT, Nat.reduceLeDiff, Int.natCast_succ, Post, e]

set_option maxHeartbeats 1000000 in
theorem trimA_ok (s cut : List UInt8) (hc : ∀ i, i < cut.length → (cut.getD i 0).toNat < 128) (h2 : 2 ≤ cut.length) :
    FnOk Tryz.prog 31 [.str s, .str cut] (.str ((endOff (inCut cut) s).dropWhile (inCut cut))) [] := by
  have hlen := asciiAt_len cut cut.length
  have km := makeAscii_ok cut hc
  have hg : ∀ c : UInt8, (asciiAt cut cut.length).getD c.toNat false = inCut cut c := fun c => by
    rw [asciiAt_get cut c _ (Nat.le_refl _), List.take_length]; rfl
  have hne : ¬ cut = [] := fun e => by subst e; simp at h2
  refine FnOk.of_vc Tryz.func31 rfl (by decide) (by simp [Tryz.f31]) [.tmp 4] rfl fun w0 T0 _ => ?_
  simp only [Tryz.f31, argEnv]
  by_cases h0 : s = []
  · have e : (endOff (inCut cut) []).dropWhile (inCut cut) = [] := rfl
    (repeat' first | with_reducible (first | intro _ | refine rc ?_ | refine rl ?_ | refine rh ?_ | refine rt ?_ | refine rf ?_ | refine rs ?_ | refine And.intro ?_ ?_) | omega | simp (maxSteps := 1000000) only [go_sem, reduceCtorEq, Nat.reduceLT, Nat.reduceLeDiff, reduceIte, ↓reduceIte, Nat.reduceEqDiff, Nat.reduceAdd, Nat.reduceMul, Nat.reduceSub, Int.reduceLE, Int.reduceLT, Int.reduceNeg, Int.reduceToNat, h0])
    refine Ret.auto 0 ?_ rfl ?_ <;> simp only [go_sem, reduceCtorEq, reduceIte, Nat.reduceEqDiff, Nat.reduceLT, Nat.reduceLeDiff, Int.natCast_succ, Post, e]
  generalize inCut cut = p at *
  (repeat' first | with_reducible (first | intro _ | refine rc ?_ | refine rl ?_ | refine rh ?_ | refine rt ?_ | refine rf ?_ | refine rs ?_ | refine And.intro ?_ ?_) | omega | simp (maxSteps := 1000000) only [go_sem, reduceCtorEq, Nat.reduceLT, Nat.reduceLeDiff, reduceIte, ↓reduceIte, Nat.reduceEqDiff, Nat.reduceAdd, Nat.reduceMul, Nat.reduceSub, Int.reduceLE, Int.reduceLT, Int.reduceNeg, Int.reduceToNat, h0, hne])
  refine VcCall.fr (args' := [.str cut]) (FnFr.of_ok km (by simp [noRo, noRoL, noRoL_bools]) rfl) (by simp [argOkL, allOk, argOkN]) 0 (by simp [Fv.below, belowL, belowL_bools]) (by simp [rowsB]) ?_
  generalize asciiAt cut cut.length = tab at hlen hg ⊢
  simp (maxSteps := 1000000) only [go_sem, reduceCtorEq, Nat.reduceLT, Nat.reduceLeDiff, reduceIte, ↓reduceIte, Nat.reduceEqDiff, Nat.reduceAdd, Nat.reduceMul, Nat.reduceSub, Int.reduceLE, Int.reduceLT, Int.reduceNeg, Int.reduceToNat]
  have e1 : spl (List.replicate 256 (AV.bool false)) 0 (tab.map .bool) = tab.map .bool := spl_all (by simp [hlen])
  refine Chk.intro (by simp [hlen]) ?_
  rw [e1]
  refine Chk.intro (by omega) ?_
  refine VcCall.fr (args' := [.str s, .cell (tab.map .bool)]) (FnFr.of_ok (trimRightA_ok tab hlen p hg s) rfl rfl) ?_ 0 rfl (by simp [rowsB]) ?_
  · exact ⟨_, _, rfl, ⟨_, _, ⟨_, _, _, rfl, allOk_bools _ 4 _, rfl⟩, rfl, rfl⟩, rfl⟩
  simp (maxSteps := 1000000) only [go_sem, reduceCtorEq, Nat.reduceLT, Nat.reduceLeDiff, reduceIte, ↓reduceIte, Nat.reduceEqDiff, Nat.reduceAdd, Nat.reduceMul, Nat.reduceSub, Int.reduceLE, Int.reduceLT, Int.reduceNeg, Int.reduceToNat]
  refine VcCall.fr (args' := [.str (endOff p s), .cell (tab.map .bool)]) (FnFr.of_ok (trimLeftA_ok tab hlen p hg (endOff p s)) rfl rfl) ?_ 0 rfl (by simp [rowsB]) ?_
  · exact ⟨_, _, rfl, ⟨_, _, ⟨_, _, _, rfl, allOk_bools _ 4 _, rfl⟩, rfl, rfl⟩, rfl⟩
  simp (maxSteps := 1000000) only [go_sem, reduceCtorEq, Nat.reduceLT, Nat.reduceLeDiff, reduceIte, ↓reduceIte, Nat.reduceEqDiff, Nat.reduceAdd, Nat.reduceMul, Nat.reduceSub, Int.reduceLE, Int.reduceLT, Int.reduceNeg, Int.reduceToNat]
  refine Ret.auto 0 ?_ rfl ?_ <;> simp only [go_sem, reduceCtorEq, reduceIte, Nat.reduceEqDiff, Nat.reduceLT, Nat.reduceLeDiff, Int.natCast_succ, Post]

end Go.Fv.Y

/-! A list without what comes twice, in order of the first places; and how often each is there, as a map has it. -/
namespace Go.Fv.Y
open Go
set_option linter.unusedSimpArgs false
set_option linter.unusedVariables false
set_option linter.unusedSectionVars false
section
variable {α β : Type} [DecidableEq α] [DecidableEq β]
variable {f : α → AV}
end
/-- How many places are left. -/
def left (n : Nat) (seen : List Nat) : Nat := ((List.range n).filter fun j => decide (j ∉ seen)).length
end Go.Fv.Y

/- Words with counts, as data; their order. -/
namespace Go.Fv.Y
open Go Go.Proofs
set_option linter.unusedSimpArgs false
set_option linter.unusedVariables false
set_option maxRecDepth 8000

structure Wd where
  t : List UInt8
  c : Int
deriving DecidableEq
def Wd.av (x : Wd) : List AV := [.str x.t, .int .i64 x.c]
def Wd.zero : Wd := ⟨[], 0⟩
abbrev wdR (l : List Wd) : RowV := .objs 2 (l.map Wd.av)
instance : FNoId Wd.av := ⟨fun _ => rfl⟩
theorem wd_elem (l : List Wd) {i : Nat} (h : i < l.length) : (l.map Wd.av).getD i [] = [.str (l.getD i Wd.zero).t, .int .i64 (l.getD i Wd.zero).c] := by
  rw [getD_lt (by simpa using h), getD_lt h, List.getElem_map]; rfl
theorem wd_snoc (l : List Wd) (s : List UInt8) (n : Int) : l.map Wd.av ++ [[.str s, .int .i64 n]] = (l ++ [(⟨s, n⟩ : Wd)]).map Wd.av := by simp [Wd.av]
theorem cmp_lt : ∀ a b : List UInt8, Lib.compareBytes a b < 0 ↔ a < b
  | [], [] => by simp [Lib.compareBytes]
  | [], b :: bs => by simp [Lib.compareBytes]
  | a :: r, [] => by simp [Lib.compareBytes]
  | a :: r, b :: bs => by
    rw [Lib.compareBytes, List.cons_lt_cons_iff]
    have ih := cmp_lt r bs
    by_cases h1 : a < b
    · rw [if_pos h1]; simp [h1]
    · rw [if_neg h1]
      by_cases h2 : b < a
      · rw [if_pos h2]
        constructor
        · intro h; omega
        · rintro (h | ⟨h, _⟩)
          · exact absurd h h1
          · subst h; exact absurd h2 h1
      · rw [if_neg h2, ih]
        have e : a = b := UInt8.le_antisymm (UInt8.not_lt.1 h2) (UInt8.not_lt.1 h1)
        subst e
        simp [h1]
theorem cmp_bd : ∀ a b : List UInt8, -1 ≤ Lib.compareBytes a b ∧ Lib.compareBytes a b ≤ 1
  | [], [] => by simp [Lib.compareBytes]
  | [], b :: bs => by simp [Lib.compareBytes]
  | a :: r, [] => by simp [Lib.compareBytes]
  | a :: r, b :: bs => by
    rw [Lib.compareBytes]
    have ih := cmp_bd r bs
    split
    · omega
    · split
      · omega
      · exact ih
def cfW (x y : Wd) : Int := Lib.compareBytes x.t y.t
def WdOk (x : Wd) : Prop := x.t.length ≤ 1048576 ∧ 0 ≤ x.c ∧ x.c ≤ 1000000000000
theorem cfW_ord : CmpOrd WdOk cfW where
  irrefl := fun x _ h => List.lt_irrefl _ ((cmp_lt _ _).1 h)
  trans := fun x y z _ _ _ h1 h2 => (cmp_lt _ _).2 (List.lt_trans ((cmp_lt _ _).1 h1) ((cmp_lt _ _).1 h2))
  ntrans := fun x y z _ _ _ h1 h2 h3 => by
    have k1 : y.t ≤ x.t := fun hlt => h1 ((cmp_lt _ _).2 hlt)
    have k2 : z.t ≤ y.t := fun hlt => h2 ((cmp_lt _ _).2 hlt)
    exact List.le_trans k2 k1 ((cmp_lt _ _).1 h3)
theorem sorted_le {l : List Wd} (h : SortedBy cfW l) : l.Pairwise fun x y => x.t ≤ y.t :=
  h.imp fun {x y} hxy hlt => hxy ((cmp_lt _ _).2 hlt)
theorem sorted_eq : ∀ {l l' : List Wd}, l.Perm l' → (l.map Wd.t).Nodup → (l.Pairwise fun x y => x.t ≤ y.t) → (l'.Pairwise fun x y => x.t ≤ y.t) → l = l'
  | [], l', hp, _, _, _ => (List.nil_perm.1 hp).symm
  | x :: l, [], hp, _, _, _ => by simp at hp
  | x :: l, y :: l', hp, hn, h1, h2 => by
    have e : x = y := by
      obtain ⟨a1, a2⟩ := List.pairwise_cons.1 h1
      obtain ⟨b1, b2⟩ := List.pairwise_cons.1 h2
      have hx : x ∈ y :: l' := hp.mem_iff.1 List.mem_cons_self
      have hy : y ∈ x :: l := hp.mem_iff.2 List.mem_cons_self
      rcases List.mem_cons.1 hx with h | hx
      · exact h
      rcases List.mem_cons.1 hy with h | hy
      · exact h.symm
      have et : x.t = y.t := List.le_antisymm (a1 y hy) (b1 x hx)
      have hn2 := (List.nodup_cons.1 hn).1
      exact absurd (List.mem_map.2 ⟨y, hy, et.symm⟩) hn2
    subst e
    rw [sorted_eq (List.perm_cons x |>.1 hp) (List.nodup_cons.1 hn).2 (List.pairwise_cons.1 h1).2 (List.pairwise_cons.1 h2).2]
def sortW (l : List Wd) : List Wd := l.mergeSort fun x y => decide (x.t ≤ y.t)
theorem sortW_perm (l : List Wd) : (sortW l).Perm l := List.mergeSort_perm _ _
theorem sortW_le (l : List Wd) : (sortW l).Pairwise fun x y => x.t ≤ y.t := by
  have h := List.pairwise_mergeSort (le := fun x y : Wd => decide (x.t ≤ y.t)) (fun a b c h1 h2 => decide_eq_true (List.le_trans (of_decide_eq_true h1) (of_decide_eq_true h2))) (fun a b => by
    rcases List.le_total a.t b.t with h | h <;> simp [h]) l
  exact h.imp fun h => of_decide_eq_true h
/-- What the library makes of words with different texts. -/
theorem sortW_eq {l l' : List Wd} (hp : l'.Perm l) (hs : SortedBy cfW l') (hn : (l.map Wd.t).Nodup) : l' = sortW l :=
  sorted_eq (hp.trans (sortW_perm l).symm) ((hp.map Wd.t).nodup_iff.2 hn) (sorted_le hs) (sortW_le l)
end Go.Fv.Y

/- The closures that put tokens. -/
namespace Go.Fv.Y
open Go Go.Proofs
set_option linter.unusedSimpArgs false
set_option linter.unusedVariables false
set_option linter.unnecessarySimpa false
set_option maxRecDepth 8000

def tkAv (t : Tok) : List AV := [.str t.1, .bool t.2]
instance : FNoId tkAv := ⟨fun _ => rfl⟩
def tkR (l : List Tok) : RowV := .objs 2 (l.map tkAv)
theorem tk_elem (l : List Tok) {i : Nat} (h : i < l.length) : (l.map tkAv).getD i [] = [.str (l.getD i ([], false)).1, .bool (l.getD i ([], false)).2] := by
  rw [getD_lt (by simpa using h), getD_lt h, List.getElem_map]; rfl
theorem covA3 {a b c : Item} : ∀ j, j < 3 → ∃ it, lk [(0, a), (1, b), (2, c)] j = some it
  | 0, _ => ⟨_, rfl⟩
  | 1, _ => ⟨_, rfl⟩
  | 2, _ => ⟨_, rfl⟩
  | _ + 3, h => absurd h (by omega)
/-- What is put. -/
def addT (out : List Tok) (s : Bytes) (w : Bool) : List Tok := if s = [] then out else out ++ [(s, w)]
theorem addT_len (out : List Tok) (s : Bytes) (w : Bool) : (addT out s w).length ≤ out.length + 1 := by
  unfold addT; split
  · omega
  · simp
end Go.Fv.Y

/- Split. -/
namespace Go.Fv.Y
open Go Go.Proofs
set_option linter.unusedSimpArgs false
set_option linter.unusedVariables false
set_option linter.unnecessarySimpa false
set_option maxRecDepth 8000

end Go.Fv.Y

/- How many tokens there are. -/
namespace Go.Fv.Y
open Go
set_option linter.unusedSimpArgs false
set_option linter.unusedVariables false
set_option linter.unnecessarySimpa false

theorem flush_len (out : List Tok) (b : Bytes) : (flush out b).length ≤ out.length + 1 := by
  unfold flush; split <;> simp
theorem toks_len : ∀ (n : Nat) (s btw : Bytes) (out : List Tok), s.length ≤ n → (toks s btw out).length ≤ out.length + 2 * s.length + 1
  | 0, s, btw, out, h => by
    have : s = [] := List.eq_nil_of_length_eq_zero (by omega)
    subst this
    rw [toks_nil]; have := flush_len out btw; simp; omega
  | n + 1, [], btw, out, h => by rw [toks_nil]; have := flush_len out btw; simp; omega
  | n + 1, c :: s, btw, out, h => by
    cases hc : inW c with
    | false =>
      rw [toks_other hc]
      have := toks_len n s (btw ++ [c]) out (by simpa using h)
      simp only [List.length_cons]; omega
    | true =>
      have hd := drop_lt (s := s) hc
      by_cases hw : isWd (midQ ((c :: s).takeWhile inW)) = true
      · rw [toks_word hc _ _ hw]
        have h1 := toks_len n ((c :: s).dropWhile inW) (postQ (dropQ ((c :: s).takeWhile inW))) (flush out (btw ++ preQ ((c :: s).takeWhile inW)) ++ [(midQ ((c :: s).takeWhile inW), true)]) (by omega)
        have h2 := flush_len out (btw ++ preQ ((c :: s).takeWhile inW))
        simp only [List.length_append, List.length_singleton] at h1
        omega
      · rw [toks_row hc _ _ hw]
        have h1 := toks_len n ((c :: s).dropWhile inW) (btw ++ (c :: s).takeWhile inW) out (by omega)
        omega
end Go.Fv.Y

/- wordsOf. -/
namespace Go.Fv.Y
open Go Go.Proofs
set_option linter.unusedSimpArgs false
set_option linter.unusedVariables false
set_option linter.unnecessarySimpa false
set_option maxRecDepth 8000

end Go.Fv.Y

/- Words of texts, counted and put in order. Plain law. -/
namespace Go.Fv.Y
open Go
set_option linter.unusedSimpArgs false
set_option linter.unusedVariables false
set_option linter.unnecessarySimpa false

def lenSum (T : List Bytes) : Nat := (T.map List.length).sum
theorem lenSum_take {T : List Bytes} {i : Nat} (h : i < T.length) : lenSum (T.take (i + 1)) = lenSum (T.take i) + (T.getD i []).length := by
  unfold lenSum
  rw [List.take_succ_eq_append_getElem h, getD_lt h, List.map_append, List.sum_append]; simp
theorem lenSum_le (T : List Bytes) (i : Nat) : lenSum (T.take i) ≤ lenSum T := by
  have : lenSum T = lenSum (T.take i) + lenSum (T.drop i) := by
    unfold lenSum
    rw [← List.sum_append, ← List.map_append, List.take_append_drop]
  omega
end Go.Fv.Y

/- Lines put together: what JoinLines computes. -/
namespace Go.Fv.Y
open Go
set_option linter.unusedSimpArgs false
set_option linter.unusedVariables false
set_option linter.unnecessarySimpa false

def trimB (s : Bytes) : Bytes := (endOff (inCut [32, 9]) s).dropWhile (inCut [32, 9])
theorem trimB_len (s : Bytes) : (trimB s).length ≤ s.length := by
  unfold trimB
  have h1 := endOff_len (inCut [32, 9]) s
  have h2 := takeWhile_len_le (inCut [32, 9]) (endOff (inCut [32, 9]) s)
  omega
/-- A hyphen at the end behind a letter, and a letter at the beginning. -/
def hy (b s : Bytes) : Bool := decide (2 ≤ b.length) && decide (b.getD (b.length - 1) 0 = 45) && isL (b.getD (b.length - 2) 0) && isL (s.getD 0 0)
def jStep (h : Bytes → Bool) (b : Bytes) (ap : Bool) (s : Bytes) : Bytes × Bool :=
  if s = [] then (b, true)
  else if b = [] then (s, false)
  else if ap = true then (b ++ [10] ++ s, false)
  else if hy b s = true then (if goes h (lrow (b.take (b.length - 1))) (frow s) = true then b.take (b.length - 1) ++ s else b ++ s, false)
  else (b ++ [32] ++ s, false)
def jAll (h : Bytes → Bool) : List Bytes → Bytes → Bool → Bytes
  | [], b, _ => b
  | s :: l, b, ap => jAll h l (jStep h b ap (trimB s)).1 (jStep h b ap (trimB s)).2
theorem jAll_nil (h : Bytes → Bool) : ∀ (l : List Bytes) (ap ap' : Bool), jAll h l [] ap = jAll h l [] ap'
  | [], ap, ap' => rfl
  | s :: l, ap, ap' => by
    unfold jAll
    have e : jStep h [] ap (trimB s) = jStep h [] ap' (trimB s) := by unfold jStep; simp
    rw [e]
theorem jAll_drop (h : Bytes → Bool) {l : List Bytes} {i : Nat} (hi : i < l.length) (b : Bytes) (ap : Bool) : jAll h (l.drop i) b ap = jAll h (l.drop (i + 1)) (jStep h b ap (trimB (l.getD i []))).1 (jStep h b ap (trimB (l.getD i []))).2 := by
  rw [List.drop_eq_getElem_cons hi, getD_lt hi]; rfl
theorem jStep_len (h : Bytes → Bool) (b : Bytes) (ap : Bool) (s : Bytes) : (jStep h b ap s).1.length ≤ b.length + s.length + 1 := by
  unfold jStep
  split
  · dsimp only; omega
  split
  · dsimp only; omega
  split
  · simp; omega
  split
  · dsimp only; split <;> simp <;> omega
  · simp; omega
/-- The errors. -/
def jErr (l : List Bytes) : Int := if 10000 < l.length ∨ 1048576 < lenSum l then 4 else if (l.any fun s => decide (0 ≤ Lib.index s [10])) = true then 2 else 0
end Go.Fv.Y

/- Small letters: the bytes on the way. -/
namespace Go.Fv.Y
open Go Go.Proofs
set_option linter.unusedSimpArgs false
set_option linter.unusedVariables false
set_option linter.unnecessarySimpa false
set_option maxRecDepth 8000

theorem byteInts_len (l : List UInt8) : (byteInts l).length = l.length := by simp [byteInts]
theorem bytesOf_byteInts (l : List UInt8) : bytesOf (byteInts l) = l := by
  unfold bytesOf byteInts
  rw [List.map_map]
  conv => rhs; rw [← List.map_id l]
  refine List.map_congr_left fun b _ => ?_
  simp
def smallAt (s : List UInt8) (i : Nat) : List Int := byteInts ((s.take i).map smallB ++ s.drop i)
theorem smallAt_zero (s : List UInt8) : smallAt s 0 = byteInts s := by simp [smallAt]
theorem smallAt_end (s : List UInt8) : bytesOf (smallAt s s.length) = smallL s := by
  unfold smallAt
  rw [bytesOf_byteInts]; simp [smallL]
theorem smallAt_len (s : List UInt8) (i : Nat) : (smallAt s i).length = s.length := by
  simp [smallAt, byteInts]; omega
theorem smallAt_get {s : List UInt8} {i : Nat} (h : i < s.length) : (smallAt s i).getD i 0 = ((s.getD i 0).toNat : Int) := by
  unfold smallAt byteInts
  simp only [List.getD_eq_getElem?_getD, List.getElem?_map]
  rw [List.getElem?_append_right (by simp; omega)]
  have e : i - ((s.take i).map smallB).length = 0 := by simp; omega
  rw [e, List.getElem?_drop]
  simp [h]
theorem smallB_int (c : UInt8) : ((smallB c).toNat : Int) = if 65 ≤ c.toNat ∧ c.toNat ≤ 90 then (c.toNat : Int) + 32 else c.toNat := by
  unfold smallB
  split
  · rw [UInt8.toNat_add]
    have : (32 : UInt8).toNat = 32 := rfl
    rw [this]; omega
  · rfl
theorem smallAt_step {s : List UInt8} {i : Nat} (h : i < s.length) : smallAt s (i + 1) = if 65 ≤ (s.getD i 0).toNat ∧ (s.getD i 0).toNat ≤ 90 then (smallAt s i).set i (((s.getD i 0).toNat : Int) + 32) else smallAt s i := by
  have hb := smallB_int (s.getD i 0)
  have e1 : smallAt s (i + 1) = (smallAt s i).set i ((smallB (s.getD i 0)).toNat : Int) := by
    unfold smallAt byteInts
    rw [List.take_succ_eq_append_getElem h, getD_lt h]
    have hd : s.drop i = s[i] :: s.drop (i + 1) := List.drop_eq_getElem_cons h
    rw [hd]
    simp only [List.map_append, List.map_cons, List.map_nil]
    have hl : (((s.take i).map smallB).map fun b => (b.toNat : Int)).length = i := by simp; omega
    rw [List.set_append_right (h := by omega), hl, Nat.sub_self, List.set_cons_zero]
    simp
  rw [e1, hb]
  split
  · rfl
  · have hg := smallAt_get h
    rw [← hg]
    apply List.ext_getElem?
    intro j
    rw [List.getElem?_set]
    split
    · rename_i e; subst e
      have hl := smallAt_len s i
      simp [List.getD_eq_getElem?_getD, hl, h]
    · rfl
end Go.Fv.Y
