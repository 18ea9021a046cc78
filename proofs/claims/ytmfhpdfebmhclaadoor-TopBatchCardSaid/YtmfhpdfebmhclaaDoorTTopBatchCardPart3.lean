/-
  A part of the proof of the claim: walks over the program's functions and the plain laws that these need. No condition of its own.
-/
import Derived.Test.YtmfhpdfebmhclaaDoorTTopBatchCardPart2
import Derived.Test.YtmfhpdfebmhclaaDoorFvPart10
import Derived.Test.YtmfhpdfebmhclaaDoorTTopBatchCardPart1
import Derived.Shelf.Strings.Shaped
import Derived.Test.YtmfhpdfebmhclaaDoorFvPart9
import Derived.Test.YtmfhpdfebmhclaaDoorFvPart4
/- The trims at the quote. -/
namespace Go.Fv.T
open Go Go.Proofs
set_option linter.unusedSimpArgs false
set_option linter.unusedVariables false
set_option linter.unnecessarySimpa false
set_option maxRecDepth 8000

theorem dropQ_q {s : List UInt8} (h0 : 0 < s.length) (h : (s.getD 0 0).toNat = 39) : dropQ (s.drop 1) = dropQ s := by
  cases s with
  | nil => simp at h0
  | cons c t =>
    have hc : c = 39 := UInt8.toNat_inj.1 h
    subst hc; rfl
theorem dropQ_n {s : List UInt8} (h : 0 < s.length → ¬ ((s.getD 0 0).toNat = 39)) : dropQ s = s := by
  cases s with
  | nil => rfl
  | cons c t =>
    have hc : ¬ c = 39 := fun e => h (by simp) (by subst e; rfl)
    simp [dropQ, qu, hc]
theorem dropR_snoc (t : List UInt8) (c : UInt8) : dropR (t ++ [c]) = if c = 39 then dropR t else t ++ [c] := by
  unfold dropR
  rw [List.reverse_append, List.reverse_singleton, List.singleton_append, List.dropWhile_cons]
  by_cases h : c = 39
  · simp [qu, h]
  · simp [qu, h]
theorem last_of {s : List UInt8} (h0 : 0 < s.length) : s = s.take (s.length - 1) ++ [s.getD (s.length - 1) 0] := by
  rw [getD_lt (by omega)]
  rw [List.take_append_getElem (by omega)]
  rw [List.take_of_length_le (by omega)]
theorem dropR_q {s : List UInt8} (h0 : 0 < s.length) (h : (s.getD (s.length - 1) 0).toNat = 39) : dropR (s.take (s.length - 1)) = dropR s := by
  have hc : s.getD (s.length - 1) 0 = 39 := UInt8.toNat_inj.1 h
  conv => rhs; rw [last_of h0, dropR_snoc, if_pos hc]
theorem dropR_n {s : List UInt8} (h : 0 < s.length → ¬ ((s.getD (s.length - 1) 0).toNat = 39)) : dropR s = s := by
  by_cases h0 : 0 < s.length
  · have hc : ¬ s.getD (s.length - 1) 0 = 39 := fun e => h h0 (by rw [e]; rfl)
    conv => lhs; rw [last_of h0, dropR_snoc, if_neg hc]
    exact (last_of h0).symm
  · have : s = [] := List.eq_nil_of_length_eq_zero (by omega)
    subst this; rfl
theorem dropQ_snoc (t : List UInt8) (c : UInt8) (h : ¬ c = 39) : dropQ (t ++ [c]) = dropQ t ++ [c] := by
  induction t with
  | nil => simp [dropQ, qu, h]
  | cons d t ih =>
    by_cases hd : d = 39
    · subst hd; exact ih
    · simp [dropQ, qu, hd]
theorem dropQ_app (t : List UInt8) : dropQ (t ++ [39]) = if dropQ t = [] then [] else dropQ t ++ [39] := by
  induction t with
  | nil => simp [dropQ, qu]
  | cons d t ih =>
    by_cases hd : d = 39
    · subst hd; exact ih
    · simp [dropQ, qu, hd]
/-- Either order of the two trims. -/
theorem drop_swap : ∀ (n : Nat) (s : List UInt8), s.length ≤ n → dropQ (dropR s) = dropR (dropQ s)
  | 0, s, h => by
    have : s = [] := List.eq_nil_of_length_eq_zero (by omega)
    subst this; rfl
  | n + 1, s, h => by
    by_cases h0 : 0 < s.length
    · rw [last_of h0]
      generalize hc : s.getD (s.length - 1) 0 = c
      have hl : (s.take (s.length - 1)).length ≤ n := by simp; omega
      generalize s.take (s.length - 1) = t at hl
      rw [dropR_snoc]
      by_cases h39 : c = 39
      · subst h39
        rw [if_pos rfl, dropQ_app, drop_swap n t hl]
        by_cases hq : dropQ t = []
        · rw [if_pos hq, hq]
        · rw [if_neg hq, dropR_snoc, if_pos rfl]
      · rw [if_neg h39, dropQ_snoc t c h39, dropR_snoc, if_neg h39]
    · have : s = [] := List.eq_nil_of_length_eq_zero (by omega)
      subst this; rfl
theorem midQ_eq (s : List UInt8) : dropQ (dropR s) = midQ s := drop_swap s.length s (Nat.le_refl _)

theorem trimLeftByte_ok (s : List UInt8) (hs : s.length ≤ 1000000000000) : FnOk Tryd.prog 45 [.str s, .int .u8 39] (.str (dropQ s)) [] := by
  refine FnOk.of_vc Tryd.func45 rfl (by decide) (by simp [Tryd.f45]) [.tmp 4] rfl fun w0 T0 _ => ?_
  simp only [Tryd.f45, argEnv]
  (repeat' first | with_reducible (first | refine Asm.intro fun _ => ?_ | refine Chk.g ?_ | refine AnyI.i64 fun _ _ => ?_ | refine LetW.g ?_ | refine LetW.h ?_ | refine Ite.t fun _ => ?_ | refine Ite.f fun _ => ?_ | refine Ite.decide (fun _ => ?_) fun _ => ?_ | refine Ite.bool (fun _ => ?_) fun _ => ?_ | refine And.intro ?_ ?_) | omega | simp (maxSteps := 1000000) only [go_sem, reduceCtorEq, Nat.reduceLT, Nat.reduceLeDiff, reduceIte, ↓reduceIte, Nat.reduceEqDiff, Nat.reduceAdd, Nat.reduceMul, Nat.reduceSub, Int.reduceLE, Int.reduceLT, Int.reduceNeg, Int.reduceToNat])
  refine VcLoop.intro (fun t : List UInt8 => ⟨17, [(0, .str t), (1, .int .u8 39)], [], 0⟩) (fun t => t.length ≤ 1000000000000 ∧ dropQ t = dropQ s) (fun t => t.length) s ?_ ⟨hs, rfl⟩ fun t ht => ?_
  · refine Ent.auto0 rfl ?_ ?_ <;> simp only [go_sem, reduceCtorEq, reduceIte, Nat.reduceEqDiff, Nat.reduceLT, Nat.reduceLeDiff, Int.natCast_succ]
  obtain ⟨hl, he⟩ := ht
  (repeat' first | with_reducible (first | refine Asm.intro fun _ => ?_ | refine Chk.g ?_ | refine AnyI.i64 fun _ _ => ?_ | refine LetW.g ?_ | refine LetW.h ?_ | refine Ite.t fun _ => ?_ | refine Ite.f fun _ => ?_ | refine Ite.decide (fun _ => ?_) fun _ => ?_ | refine Ite.bool (fun _ => ?_) fun _ => ?_ | refine And.intro ?_ ?_) | omega | simp (maxSteps := 1000000) only [go_sem, reduceCtorEq, Nat.reduceLT, Nat.reduceLeDiff, reduceIte, ↓reduceIte, Nat.reduceEqDiff, Nat.reduceAdd, Nat.reduceMul, Nat.reduceSub, Int.reduceLE, Int.reduceLT, Int.reduceNeg, Int.reduceToNat])
  · refine ⟨t.drop 1, Ent.auto0 rfl ?_ ?_, ⟨?_, ?_⟩, ?_⟩
    · simp only [go_sem, reduceCtorEq, reduceIte, Nat.reduceEqDiff, Nat.reduceLT, Nat.reduceLeDiff, Int.natCast_succ]
      exact List.take_of_length_le (by simp)
    · simp only [go_sem, reduceCtorEq, reduceIte, Nat.reduceEqDiff, Nat.reduceLT, Nat.reduceLeDiff, Int.natCast_succ]
    · simp; omega
    · rw [dropQ_q (by omega) (by omega)]; exact he
    · simp; omega
  · have e : t = dropQ s := by rw [← he, dropQ_n (fun h => by omega)]
    refine Ret.auto 0 ?_ rfl ?_ <;> simp only [go_sem, reduceCtorEq, reduceIte, Nat.reduceEqDiff, Nat.reduceLT, Nat.reduceLeDiff, Int.natCast_succ, Post, e]
theorem trimRightByte_ok (s : List UInt8) (hs : s.length ≤ 1000000000000) : FnOk Tryd.prog 46 [.str s, .int .u8 39] (.str (dropR s)) [] := by
  refine FnOk.of_vc Tryd.func46 rfl (by decide) (by simp [Tryd.f46]) [.tmp 4] rfl fun w0 T0 _ => ?_
  simp only [Tryd.f46, argEnv]
  (repeat' first | with_reducible (first | refine Asm.intro fun _ => ?_ | refine Chk.g ?_ | refine AnyI.i64 fun _ _ => ?_ | refine LetW.g ?_ | refine LetW.h ?_ | refine Ite.t fun _ => ?_ | refine Ite.f fun _ => ?_ | refine Ite.decide (fun _ => ?_) fun _ => ?_ | refine Ite.bool (fun _ => ?_) fun _ => ?_ | refine And.intro ?_ ?_) | omega | simp (maxSteps := 1000000) only [go_sem, reduceCtorEq, Nat.reduceLT, Nat.reduceLeDiff, reduceIte, ↓reduceIte, Nat.reduceEqDiff, Nat.reduceAdd, Nat.reduceMul, Nat.reduceSub, Int.reduceLE, Int.reduceLT, Int.reduceNeg, Int.reduceToNat])
  refine VcLoop.intro (fun t : List UInt8 => ⟨23, [(0, .str t), (1, .int .u8 39)], [], 0⟩) (fun t => t.length ≤ 1000000000000 ∧ dropR t = dropR s) (fun t => t.length) s ?_ ⟨hs, rfl⟩ fun t ht => ?_
  · refine Ent.auto0 rfl ?_ ?_ <;> simp only [go_sem, reduceCtorEq, reduceIte, Nat.reduceEqDiff, Nat.reduceLT, Nat.reduceLeDiff, Int.natCast_succ]
  obtain ⟨hl, he⟩ := ht
  have et : ((t.length : Int) - 1).toNat = t.length - 1 := by omega
  (repeat' first | with_reducible (first | refine Asm.intro fun _ => ?_ | refine Chk.g ?_ | refine AnyI.i64 fun _ _ => ?_ | refine LetW.g ?_ | refine LetW.h ?_ | refine Ite.t fun _ => ?_ | refine Ite.f fun _ => ?_ | refine Ite.decide (fun _ => ?_) fun _ => ?_ | refine Ite.bool (fun _ => ?_) fun _ => ?_ | refine And.intro ?_ ?_) | omega | simp (maxSteps := 1000000) only [go_sem, reduceCtorEq, Nat.reduceLT, Nat.reduceLeDiff, reduceIte, ↓reduceIte, Nat.reduceEqDiff, Nat.reduceAdd, Nat.reduceMul, Nat.reduceSub, Int.reduceLE, Int.reduceLT, Int.reduceNeg, Int.reduceToNat, et])
  · refine ⟨t.take (t.length - 1), Ent.auto0 rfl ?_ ?_, ⟨?_, ?_⟩, ?_⟩
    · simp only [go_sem, reduceCtorEq, reduceIte, Nat.reduceEqDiff, Nat.reduceLT, Nat.reduceLeDiff, Int.natCast_succ, et]
      rfl
    · simp only [go_sem, reduceCtorEq, reduceIte, Nat.reduceEqDiff, Nat.reduceLT, Nat.reduceLeDiff, Int.natCast_succ]
    · simp; omega
    · rw [dropR_q (by omega) (by omega)]; exact he
    · simp; omega
  · have e : t = dropR s := by rw [← he, dropR_n (fun h => by omega)]
    refine Ret.auto 0 ?_ rfl ?_ <;> simp only [go_sem, reduceCtorEq, reduceIte, Nat.reduceEqDiff, Nat.reduceLT, Nat.reduceLeDiff, Int.natCast_succ, Post, e]
theorem dropR_len (s : List UInt8) : (dropR s).length ≤ s.length := by
  unfold dropR
  have := takeWhile_len_le qu s.reverse
  simp at this ⊢; omega
theorem trim_ok (s : List UInt8) (hs : s.length ≤ 1000000000000) : FnOk Tryd.prog 32 [.str s, .str [39]] (.str (midQ s)) [] := by
  have k := trimRightByte_ok s hs
  have k2 := trimLeftByte_ok (dropR s) (Nat.le_trans (dropR_len s) hs)
  rw [midQ_eq] at k2
  have one : ((1 : Nat) : Int) = 1 := rfl
  have q39 : ((([39] : List UInt8).getD 0 0).toNat : Int) = 39 := rfl
  have l39 : (39 : Int) < 128 := by decide
  refine FnOk.of_vc Tryd.func32 rfl (by decide) (by simp [Tryd.f32]) [.tmp 4] rfl fun w0 T0 _ => ?_
  simp only [Tryd.f32, argEnv]
  by_cases h0 : s = []
  · have e : midQ [] = [] := rfl
    (repeat' first | with_reducible (first | refine Asm.intro fun _ => ?_ | refine Chk.g ?_ | refine AnyI.i64 fun _ _ => ?_ | refine LetW.g ?_ | refine LetW.h ?_ | refine Ite.t fun _ => ?_ | refine Ite.f fun _ => ?_ | refine Ite.decide (fun _ => ?_) fun _ => ?_ | refine Ite.bool (fun _ => ?_) fun _ => ?_ | refine And.intro ?_ ?_) | omega | simp (maxSteps := 1000000) only [go_sem, reduceCtorEq, Nat.reduceLT, Nat.reduceLeDiff, reduceIte, ↓reduceIte, Nat.reduceEqDiff, Nat.reduceAdd, Nat.reduceMul, Nat.reduceSub, Int.reduceLE, Int.reduceLT, Int.reduceNeg, Int.reduceToNat, h0])
    refine Ret.auto 0 ?_ rfl ?_ <;> simp only [go_sem, reduceCtorEq, reduceIte, Nat.reduceEqDiff, Nat.reduceLT, Nat.reduceLeDiff, Int.natCast_succ, Post, e]
  · (repeat' first | with_reducible (first | refine Asm.intro fun _ => ?_ | refine Chk.g ?_ | refine AnyI.i64 fun _ _ => ?_ | refine LetW.g ?_ | refine LetW.h ?_ | refine Ite.t fun _ => ?_ | refine Ite.f fun _ => ?_ | refine Ite.decide (fun _ => ?_) fun _ => ?_ | refine Ite.bool (fun _ => ?_) fun _ => ?_ | refine And.intro ?_ ?_) | omega | simp (maxSteps := 1000000) only [go_sem, reduceCtorEq, Nat.reduceLT, Nat.reduceLeDiff, reduceIte, ↓reduceIte, Nat.reduceEqDiff, Nat.reduceAdd, Nat.reduceMul, Nat.reduceSub, Int.reduceLE, Int.reduceLT, Int.reduceNeg, Int.reduceToNat, h0, one, q39, l39])
    refine VcDraw.lex [] [] (by kernel_rfl) (by kernel_rfl) ?_
    (repeat' first | with_reducible (first | refine Asm.intro fun _ => ?_ | refine Chk.g ?_ | refine AnyI.i64 fun _ _ => ?_ | refine LetW.g ?_ | refine LetW.h ?_ | refine Ite.t fun _ => ?_ | refine Ite.f fun _ => ?_ | refine Ite.decide (fun _ => ?_) fun _ => ?_ | refine Ite.bool (fun _ => ?_) fun _ => ?_ | refine And.intro ?_ ?_) | omega | simp (maxSteps := 1000000) only [go_sem, reduceCtorEq, Nat.reduceLT, Nat.reduceLeDiff, reduceIte, ↓reduceIte, Nat.reduceEqDiff, Nat.reduceAdd, Nat.reduceMul, Nat.reduceSub, Int.reduceLE, Int.reduceLT, Int.reduceNeg, Int.reduceToNat, one, q39])
    refine QV.intro (.str (dropR s)) ?_ ?_
    · (repeat' first | with_reducible (first | refine Asm.intro fun _ => ?_ | refine Chk.g ?_ | refine AnyI.i64 fun _ _ => ?_ | refine LetW.g ?_ | refine LetW.h ?_ | refine Ite.t fun _ => ?_ | refine Ite.f fun _ => ?_ | refine Ite.decide (fun _ => ?_) fun _ => ?_ | refine Ite.bool (fun _ => ?_) fun _ => ?_ | refine And.intro ?_ ?_) | omega | simp (maxSteps := 1000000) only [go_sem, reduceCtorEq, Nat.reduceLT, Nat.reduceLeDiff, reduceIte, ↓reduceIte, Nat.reduceEqDiff, Nat.reduceAdd, Nat.reduceMul, Nat.reduceSub, Int.reduceLE, Int.reduceLT, Int.reduceNeg, Int.reduceToNat])
      refine VcCall.fr (FnFr.of_ok k rfl rfl) (by simp only [noIdR_ok, argOkL, argOk, allOk, argOkN, List.drop_zero, lk, reduceIte, reduceCtorEq, Nat.reduceEqDiff, Option.some.injEq, Item.row.injEq, Item.box.injEq, AV.ro.injEq, exists_eq_left, exists_and_left, exists_eq_left', exists_eq_right, and_assoc, and_true, true_and, List.cons.injEq, exists_eq', exists_eq]) 0 rfl (by simp [rowsB]) ?_
      (repeat' first | with_reducible (first | refine Asm.intro fun _ => ?_ | refine Chk.g ?_ | refine AnyI.i64 fun _ _ => ?_ | refine LetW.g ?_ | refine LetW.h ?_ | refine Ite.t fun _ => ?_ | refine Ite.f fun _ => ?_ | refine Ite.decide (fun _ => ?_) fun _ => ?_ | refine Ite.bool (fun _ => ?_) fun _ => ?_ | refine And.intro ?_ ?_) | omega | simp (maxSteps := 1000000) only [go_sem, reduceCtorEq, Nat.reduceLT, Nat.reduceLeDiff, reduceIte, ↓reduceIte, Nat.reduceEqDiff, Nat.reduceAdd, Nat.reduceMul, Nat.reduceSub, Int.reduceLE, Int.reduceLT, Int.reduceNeg, Int.reduceToNat])
    (repeat' first | with_reducible (first | refine Asm.intro fun _ => ?_ | refine Chk.g ?_ | refine AnyI.i64 fun _ _ => ?_ | refine LetW.g ?_ | refine LetW.h ?_ | refine Ite.t fun _ => ?_ | refine Ite.f fun _ => ?_ | refine Ite.decide (fun _ => ?_) fun _ => ?_ | refine Ite.bool (fun _ => ?_) fun _ => ?_ | refine And.intro ?_ ?_) | omega | simp (maxSteps := 1000000) only [go_sem, reduceCtorEq, Nat.reduceLT, Nat.reduceLeDiff, reduceIte, ↓reduceIte, Nat.reduceEqDiff, Nat.reduceAdd, Nat.reduceMul, Nat.reduceSub, Int.reduceLE, Int.reduceLT, Int.reduceNeg, Int.reduceToNat, one, q39])
    refine QV.intro (.str (midQ s)) ?_ ?_
    · (repeat' first | with_reducible (first | refine Asm.intro fun _ => ?_ | refine Chk.g ?_ | refine AnyI.i64 fun _ _ => ?_ | refine LetW.g ?_ | refine LetW.h ?_ | refine Ite.t fun _ => ?_ | refine Ite.f fun _ => ?_ | refine Ite.decide (fun _ => ?_) fun _ => ?_ | refine Ite.bool (fun _ => ?_) fun _ => ?_ | refine And.intro ?_ ?_) | omega | simp (maxSteps := 1000000) only [go_sem, reduceCtorEq, Nat.reduceLT, Nat.reduceLeDiff, reduceIte, ↓reduceIte, Nat.reduceEqDiff, Nat.reduceAdd, Nat.reduceMul, Nat.reduceSub, Int.reduceLE, Int.reduceLT, Int.reduceNeg, Int.reduceToNat])
      refine VcCall.fr (FnFr.of_ok k2 rfl rfl) (by simp only [noIdR_ok, argOkL, argOk, allOk, argOkN, List.drop_zero, lk, reduceIte, reduceCtorEq, Nat.reduceEqDiff, Option.some.injEq, Item.row.injEq, Item.box.injEq, AV.ro.injEq, exists_eq_left, exists_and_left, exists_eq_left', exists_eq_right, and_assoc, and_true, true_and, List.cons.injEq, exists_eq', exists_eq]) 0 rfl (by simp [rowsB]) ?_
      (repeat' first | with_reducible (first | refine Asm.intro fun _ => ?_ | refine Chk.g ?_ | refine AnyI.i64 fun _ _ => ?_ | refine LetW.g ?_ | refine LetW.h ?_ | refine Ite.t fun _ => ?_ | refine Ite.f fun _ => ?_ | refine Ite.decide (fun _ => ?_) fun _ => ?_ | refine Ite.bool (fun _ => ?_) fun _ => ?_ | refine And.intro ?_ ?_) | omega | simp (maxSteps := 1000000) only [go_sem, reduceCtorEq, Nat.reduceLT, Nat.reduceLeDiff, reduceIte, ↓reduceIte, Nat.reduceEqDiff, Nat.reduceAdd, Nat.reduceMul, Nat.reduceSub, Int.reduceLE, Int.reduceLT, Int.reduceNeg, Int.reduceToNat])
    (repeat' first | with_reducible (first | refine Asm.intro fun _ => ?_ | refine Chk.g ?_ | refine AnyI.i64 fun _ _ => ?_ | refine LetW.g ?_ | refine LetW.h ?_ | refine Ite.t fun _ => ?_ | refine Ite.f fun _ => ?_ | refine Ite.decide (fun _ => ?_) fun _ => ?_ | refine Ite.bool (fun _ => ?_) fun _ => ?_ | refine And.intro ?_ ?_) | omega | simp (maxSteps := 1000000) only [go_sem, reduceCtorEq, Nat.reduceLT, Nat.reduceLeDiff, reduceIte, ↓reduceIte, Nat.reduceEqDiff, Nat.reduceAdd, Nat.reduceMul, Nat.reduceSub, Int.reduceLE, Int.reduceLT, Int.reduceNeg, Int.reduceToNat])
    refine Ret.auto 0 ?_ rfl ?_ <;> simp only [go_sem, reduceCtorEq, reduceIte, Nat.reduceEqDiff, Nat.reduceLT, Nat.reduceLeDiff, Int.natCast_succ, Post]
end Go.Fv.T

/- The closures that put tokens. -/
namespace Go.Fv.T
open Go Go.Proofs
set_option linter.unusedSimpArgs false
set_option linter.unusedVariables false
set_option linter.unnecessarySimpa false
set_option maxRecDepth 8000

def tkAv (t : Tok) : List AV := [.str t.1, .bool t.2]
instance : FNoId tkAv := ⟨fun _ => rfl⟩
def tkR (l : List Tok) : RowV := .objs 2 (l.map tkAv)
theorem tk_elem (l : List Tok) {i : Nat} (h : i < l.length) : (l.map tkAv).getD i [] = [.str (l.getD i ([], false)).1, .bool (l.getD i ([], false)).2] := by
  rw [getD_lt (by simpa using h), getD_lt h, List.getElem_map]; rfl
theorem covA2 {a b : Item} : ∀ j, j < 2 → ∃ it, lk [(0, a), (1, b)] j = some it
  | 0, _ => ⟨_, rfl⟩
  | 1, _ => ⟨_, rfl⟩
  | _ + 2, h => absurd h (by omega)
/-- What is put. -/
def addT (out : List Tok) (s : Bytes) (w : Bool) : List Tok := if s = [] then out else out ++ [(s, w)]
theorem addT_len (out : List Tok) (s : Bytes) (w : Bool) : (addT out s w).length ≤ out.length + 1 := by
  unfold addT; split
  · omega
  · simp
def LastW (out : List Tok) : Prop := 0 < out.length → (out.getD (out.length - 1) ([], false)).2 = true

set_option maxHeartbeats 2000000 in
theorem add_ok (out : List Tok) (s : Bytes) (w : Bool) (hl : out.length ≤ 1000000000) (hw : w = false → LastW out) :
    FnIO Tryd.prog 64 [.str s, .bool w, .ptr 0 0] [(0, .box 97 [.own 1]), (1, .row 100 (tkR out))] 2 (.tup []) [(0, .box 97 [.own 2]), (2, .row 100 (tkR (addT out s w)))] := by
  refine FnIO.of_vc Tryd.func64 rfl (by decide) (by simp [Tryd.f64]) covA2 [] rfl fun w0 T0 _ => ?_
  simp only [Tryd.f64, argEnv]
  by_cases h0 : s = []
  · have e : addT out [] w = out := if_pos rfl
    (repeat' first | with_reducible (first | refine Asm.intro fun _ => ?_ | refine Chk.g ?_ | refine AnyI.i64 fun _ _ => ?_ | refine LetW.g ?_ | refine LetW.h ?_ | refine Ite.t fun _ => ?_ | refine Ite.f fun _ => ?_ | refine Ite.decide (fun _ => ?_) fun _ => ?_ | refine Ite.bool (fun _ => ?_) fun _ => ?_ | refine And.intro ?_ ?_) | omega | simp (maxSteps := 1000000) only [go_sem, reduceCtorEq, Nat.reduceLT, Nat.reduceLeDiff, reduceIte, ↓reduceIte, Nat.reduceEqDiff, Nat.reduceAdd, Nat.reduceMul, Nat.reduceSub, Int.reduceLE, Int.reduceLT, Int.reduceNeg, Int.reduceToNat, h0, tkR, List.length_map])
    rw [e]
    refine RetK.of [(2, 1)] 3 (by decide) (by decide) ?_ rfl ?_ <;> simp only [go_sem, reduceCtorEq, reduceIte, Nat.reduceEqDiff, Nat.reduceLT, Nat.reduceLeDiff, Int.natCast_succ]
  · have e : addT out s w = out ++ [(s, w)] := if_neg h0
    have e2 : (out ++ [(s, w)]).map tkAv = out.map tkAv ++ [[.str s, .bool w]] := by simp [tkAv]
    rw [e]
    by_cases h1 : 0 < out.length
    · have h2 : (0 : Int) ≤ (out.length : Int) - 1 := by omega
      have h3 := tk_elem out (i := out.length - 1) (by omega)
      have h4 : ((out.length : Int) - 1).toNat = out.length - 1 := by omega
      cases w with
      | true =>
        (repeat' first | with_reducible (first | refine Asm.intro fun _ => ?_ | refine Chk.g ?_ | refine AnyI.i64 fun _ _ => ?_ | refine LetW.g ?_ | refine LetW.h ?_ | refine Ite.t fun _ => ?_ | refine Ite.f fun _ => ?_ | refine Ite.decide (fun _ => ?_) fun _ => ?_ | refine Ite.bool (fun _ => ?_) fun _ => ?_ | refine And.intro ?_ ?_) | omega | simp (maxSteps := 1000000) only [go_sem, reduceCtorEq, Nat.reduceLT, Nat.reduceLeDiff, reduceIte, ↓reduceIte, Nat.reduceEqDiff, Nat.reduceAdd, Nat.reduceMul, Nat.reduceSub, Int.reduceLE, Int.reduceLT, Int.reduceNeg, Int.reduceToNat, h0, h2, h3, h4, tkR, List.length_map])
        refine RetK.of [(2, 3)] 3 (by decide) (by decide) ?_ rfl ?_ <;> simp only [go_sem, reduceCtorEq, reduceIte, Nat.reduceEqDiff, Nat.reduceLT, Nat.reduceLeDiff, Int.natCast_succ, e2, tkAv]
      | false =>
        rw [hw rfl h1] at h3
        (repeat' first | with_reducible (first | refine Asm.intro fun _ => ?_ | refine Chk.g ?_ | refine AnyI.i64 fun _ _ => ?_ | refine LetW.g ?_ | refine LetW.h ?_ | refine Ite.t fun _ => ?_ | refine Ite.f fun _ => ?_ | refine Ite.decide (fun _ => ?_) fun _ => ?_ | refine Ite.bool (fun _ => ?_) fun _ => ?_ | refine And.intro ?_ ?_) | omega | simp (maxSteps := 1000000) only [go_sem, reduceCtorEq, Nat.reduceLT, Nat.reduceLeDiff, reduceIte, ↓reduceIte, Nat.reduceEqDiff, Nat.reduceAdd, Nat.reduceMul, Nat.reduceSub, Int.reduceLE, Int.reduceLT, Int.reduceNeg, Int.reduceToNat, h0, h2, h3, h4, tkR, List.length_map])
        refine RetK.of [(2, 3)] 3 (by decide) (by decide) ?_ rfl ?_ <;> simp only [go_sem, reduceCtorEq, reduceIte, Nat.reduceEqDiff, Nat.reduceLT, Nat.reduceLeDiff, Int.natCast_succ, e2, tkAv]
    · have h2 : out = [] := List.eq_nil_of_length_eq_zero (by omega)
      subst h2
      have h6 : ∀ n, ([] : List (List AV)).getD n [] = [] := fun n => by simp
      have h5 : ¬ (0 : Int) ≤ (([] : List Tok).length : Int) - 1 := by simp
      cases w with
      | true =>
        (repeat' first | with_reducible (first | refine Asm.intro fun _ => ?_ | refine Chk.g ?_ | refine AnyI.i64 fun _ _ => ?_ | refine LetW.g ?_ | refine LetW.h ?_ | refine Ite.t fun _ => ?_ | refine Ite.f fun _ => ?_ | refine Ite.decide (fun _ => ?_) fun _ => ?_ | refine Ite.bool (fun _ => ?_) fun _ => ?_ | refine And.intro ?_ ?_) | omega | simp (maxSteps := 1000000) only [go_sem, reduceCtorEq, Nat.reduceLT, Nat.reduceLeDiff, reduceIte, ↓reduceIte, Nat.reduceEqDiff, Nat.reduceAdd, Nat.reduceMul, Nat.reduceSub, Int.reduceLE, Int.reduceLT, Int.reduceNeg, Int.reduceToNat, h0, h5, h6, List.drop_nil, tkR, List.length_map])
        refine RetK.of [(2, 3)] 3 (by decide) (by decide) ?_ rfl ?_ <;> simp only [go_sem, reduceCtorEq, reduceIte, Nat.reduceEqDiff, Nat.reduceLT, Nat.reduceLeDiff, Int.natCast_succ, e2, tkAv]
      | false =>
        (repeat' first | with_reducible (first | refine Asm.intro fun _ => ?_ | refine Chk.g ?_ | refine AnyI.i64 fun _ _ => ?_ | refine LetW.g ?_ | refine LetW.h ?_ | refine Ite.t fun _ => ?_ | refine Ite.f fun _ => ?_ | refine Ite.decide (fun _ => ?_) fun _ => ?_ | refine Ite.bool (fun _ => ?_) fun _ => ?_ | refine And.intro ?_ ?_) | omega | simp (maxSteps := 1000000) only [go_sem, reduceCtorEq, Nat.reduceLT, Nat.reduceLeDiff, reduceIte, ↓reduceIte, Nat.reduceEqDiff, Nat.reduceAdd, Nat.reduceMul, Nat.reduceSub, Int.reduceLE, Int.reduceLT, Int.reduceNeg, Int.reduceToNat, h0, h5, h6, List.drop_nil, tkR, List.length_map])
        refine RetK.of [(2, 3)] 3 (by decide) (by decide) ?_ rfl ?_ <;> simp only [go_sem, reduceCtorEq, reduceIte, Nat.reduceEqDiff, Nat.reduceLT, Nat.reduceLeDiff, Int.natCast_succ, e2, tkAv]
end Go.Fv.T

/- strings.Index, strings.Count, by the contracts of the shelf. -/
namespace Go.Proofs
open Go.Shelf
def Tryd.lays143_ren : Go.Shelf.Ren := ⟨fun | 143 => 67 | 219 => 75 | 217 => 81 | 225 => 80 | 224 => 79 | 267 => 82 | 266 => 83 | 314 => 84 | n => n, fun | 9 => 9 | 3 => 3 | 4 => 4 | 5 => 5 | 46 => 115 | 146 => 122 | 51 => 121 | n => n, fun | 1 => 2 | n => n⟩
theorem Tryd.lays143 : Go.Proofs.LaysM.n143 Tryd.prog Tryd.lays143_ren := {
  mixed := by kernel_rfl
  f143 := Tryd.func67.trans (congrArg some (by kernel_rfl))
  f217 := Tryd.func81.trans (congrArg some (by kernel_rfl))
  f219 := Tryd.func75.trans (congrArg some (by kernel_rfl))
  f224 := Tryd.func79.trans (congrArg some (by kernel_rfl))
  f225 := Tryd.func80.trans (congrArg some (by kernel_rfl))
  f266 := Tryd.func83.trans (congrArg some (by kernel_rfl))
  f267 := Tryd.func82.trans (congrArg some (by kernel_rfl))
  f314 := Tryd.func84.trans (congrArg some (by kernel_rfl))
  t3 := Tryd.underlying3
  a3 := Tryd.isAgg3
  z3 := Tryd.sizeOf3
  v3 := Tryd.zeroValue3
  t4 := Tryd.underlying4
  a4 := Tryd.isAgg4
  z4 := Tryd.sizeOf4
  v4 := Tryd.zeroValue4
  t5 := Tryd.underlying5
  a5 := Tryd.isAgg5
  z5 := Tryd.sizeOf5
  v5 := Tryd.zeroValue5
  t9 := Tryd.underlying9
  a9 := Tryd.isAgg9
  z9 := Tryd.sizeOf9
  v9 := Tryd.zeroValue9
  t46 := Tryd.underlying115
  a46 := Tryd.isAgg115
  z46 := Tryd.sizeOf115
  v46 := Tryd.zeroValue115
  t51 := Tryd.underlying121
  a51 := Tryd.isAgg121
  z51 := Tryd.sizeOf121
  v51 := Tryd.zeroValue121
  t146 := Tryd.underlying122
  a146 := Tryd.isAgg122
  z146 := Tryd.sizeOf122
  v146 := Tryd.zeroValue122
  g1 := by kernel_rfl
  i3 := by kernel_rfl
  i4 := by kernel_rfl
  i5 := by kernel_rfl
  i9 := by kernel_rfl
  i46 := by kernel_rfl
  i51 := by kernel_rfl
  i146 := by kernel_rfl
  m1 := by kernel_rfl
  s1_3 := fun w h => Go.Proofs.cell_of_shapedOpen_int (zero := #[.int .i64 0]) (t := 3) h (of_decide_eq_true (by kernel_rfl)) (by kernel_rfl) rfl (by kernel_rfl) (by kernel_rfl) Tryd.underlying3 }
end Go.Proofs

namespace Go.Fv.T
open Go Go.Proofs
set_option linter.unusedSimpArgs false
set_option linter.unusedVariables false
set_option linter.unnecessarySimpa false
set_option maxRecDepth 8000

theorem index_ok (s t : List UInt8) (hs : s.length ≤ 1048576) : FnOk Tryd.prog 67 [.str s, .str t] (.int .i64 (Lib.index s t)) [] := by
  refine ⟨⟨_, Tryd.func67, by kernel_rfl, by kernel_rfl⟩, fun w T vals hg hv => ?_⟩
  obtain ⟨m, t0, _, hm⟩ := hg 2 .i64 (by kernel_rfl)
  cases hv with
  | cons _ _ _ _ h1 hv => cases hv with
    | cons _ _ _ _ h2 hv =>
      cases hv
      cases h1 with
      | str _ e1 => cases h2 with
        | str _ e2 =>
          have L := Tryd.lays143
          refine (Any.strings_Index { L with } ⟨s.toArray⟩ ⟨t.toArray⟩ m w ?_ ?_).mono ?_
          · show s.toArray.size < 4294967281
            simp; omega
          · simp [World.cell?, Tryd.lays143_ren, hm]
          · rintro e w' ⟨rfl, rfl⟩
            refine ⟨_, rfl, RowKit.Below.refl _ _, fun _ => undef, 0, ?_, ?_, ?_⟩
            · have h1 := Lib.index_ge s t
              have h2 := Lib.index_le s t
              have e1 : IntKind.i64.min = -9223372036854775808 := by decide
              have e2 : IntKind.i64.max = 9223372036854775807 := by decide
              exact .int .i64 _ ⟨by rw [e1]; omega, by rw [e2]; omega⟩
            · intro i it h; cases h
            · intro i j it jt b h; cases h
end Go.Fv.T

/- The steps of the tokens, by places of the text. -/
namespace Go.Fv.T
open Go
set_option linter.unusedSimpArgs false
set_option linter.unusedVariables false
set_option linter.unnecessarySimpa false

/-- What is from a up to b. -/
def sub (s : Bytes) (a b : Nat) : Bytes := (s.drop a).take (b - a)
theorem sub_len {s : Bytes} {a b : Nat} (h : a ≤ b) (hb : b ≤ s.length) : (sub s a b).length = b - a := by
  simp [sub]; omega
theorem sub_self (s : Bytes) (a : Nat) : sub s a a = [] := by simp [sub]
theorem sub_app {s : Bytes} {a b c : Nat} (h : a ≤ b) (h2 : b ≤ c) : sub s a b ++ sub s b c = sub s a c := by
  unfold sub
  have e : c - a = (b - a) + (c - b) := by omega
  rw [e, List.take_add, List.drop_drop]
  congr 3; omega
theorem sub_one {s : Bytes} {i : Nat} (h : i < s.length) : sub s i (i + 1) = [s.getD i 0] := by
  unfold sub
  rw [List.drop_eq_getElem_cons h, getD_lt h, show i + 1 - i = 1 by omega]; rfl
theorem sub_snoc {s : Bytes} {a i : Nat} (h0 : a ≤ i) (h : i < s.length) : sub s a i ++ [s.getD i 0] = sub s a (i + 1) := by
  rw [← sub_one h, sub_app h0 (by omega)]
/-- Where the row of letters ends. -/
theorem run_at {s : Bytes} : ∀ (n i k : Nat), k - i ≤ n → i ≤ k → k ≤ s.length → (∀ j, i ≤ j → j < k → inW (s.getD j 0) = true) → (k < s.length → inW (s.getD k 0) = false) →
    (s.drop i).takeWhile inW = sub s i k ∧ (s.drop i).dropWhile inW = s.drop k
  | 0, i, k, hn, h1, h2, h3, h4 => by
    have : i = k := by omega
    subst this
    rw [sub_self]
    by_cases h : i < s.length
    · have := h4 h
      rw [getD_lt h] at this
      rw [List.drop_eq_getElem_cons h, List.takeWhile_cons, List.dropWhile_cons, this]
      exact ⟨rfl, rfl⟩
    · rw [List.drop_of_length_le (by omega)]; exact ⟨rfl, rfl⟩
  | n + 1, i, k, hn, h1, h2, h3, h4 => by
    by_cases h : i = k
    · exact run_at 0 i k (by omega) h1 h2 h3 h4
    · have hi : i < s.length := by omega
      obtain ⟨e1, e2⟩ := run_at n (i + 1) k (by omega) (by omega) h2 (fun j hj hk => h3 j (by omega) hk) h4
      have hw := h3 i (Nat.le_refl _) (by omega)
      rw [← sub_app (s := s) (a := i) (b := i + 1) (c := k) (by omega) (by omega), sub_one hi, List.drop_eq_getElem_cons hi]
      rw [getD_lt hi] at hw ⊢
      rw [List.takeWhile_cons, List.dropWhile_cons, hw, if_pos rfl, if_pos rfl, e1, e2]
      exact ⟨rfl, rfl⟩
theorem step_other {s : Bytes} {i a : Nat} (h : i < s.length) (ha : a ≤ i) (hc : inW (s.getD i 0) = false) (out : List Tok) : toks (s.drop i) (sub s a i) out = toks (s.drop (i + 1)) (sub s a (i + 1)) out := by
  rw [← sub_snoc ha h, List.drop_eq_getElem_cons h]
  rw [getD_lt h] at hc ⊢
  rw [toks_other hc]
theorem step_row {s : Bytes} {i k a : Nat} (h : i < s.length) (ha : a ≤ i) (hk : i < k) (hkl : k ≤ s.length) (hr : ∀ j, i ≤ j → j < k → inW (s.getD j 0) = true) (he : k < s.length → inW (s.getD k 0) = false) (out : List Tok)
    (hw : isWd (midQ (sub s i k)) = false) : toks (s.drop i) (sub s a i) out = toks (s.drop k) (sub s a k) out := by
  obtain ⟨e1, e2⟩ := run_at (k - i) i k (Nat.le_refl _) (by omega) hkl hr he
  have hc := hr i (Nat.le_refl _) hk
  rw [List.drop_eq_getElem_cons h] at e1 e2 ⊢
  rw [getD_lt h] at hc
  rw [toks_row hc _ _ (by rw [e1, hw]; decide), e1, e2, sub_app ha (by omega)]
/-- The quotes ahead. -/
def preN (t : Bytes) : Nat := (preQ t).length
theorem preN_le (t : Bytes) : preN t + (midQ t).length ≤ t.length := by
  have := congrArg List.length (three t)
  simp only [List.length_append] at this
  unfold preN; omega
theorem step_word {s : Bytes} {i k a : Nat} (h : i < s.length) (ha : a ≤ i) (hk : i < k) (hkl : k ≤ s.length) (hr : ∀ j, i ≤ j → j < k → inW (s.getD j 0) = true) (he : k < s.length → inW (s.getD k 0) = false) (out : List Tok)
    (hw : isWd (midQ (sub s i k)) = true) : toks (s.drop i) (sub s a i) out = toks (s.drop k) (sub s (i + preN (sub s i k) + (midQ (sub s i k)).length) k) (flush out (sub s a (i + preN (sub s i k))) ++ [(midQ (sub s i k), true)]) := by
  obtain ⟨e1, e2⟩ := run_at (k - i) i k (Nat.le_refl _) (by omega) hkl hr he
  have hc := hr i (Nat.le_refl _) hk
  rw [List.drop_eq_getElem_cons h] at e1 e2 ⊢
  rw [getD_lt h] at hc
  rw [toks_word hc _ _ (by rw [e1, hw]), e1, e2]
  have h3 := three (sub s i k)
  have hle := preN_le (sub s i k)
  have hlen := sub_len (s := s) (a := i) (b := k) (by omega) hkl
  generalize hrow : sub s i k = row at *
  have p1 : preQ row = sub s i (i + preN row) := by
    have := congrArg (List.take (preN row)) h3
    rw [List.take_append_of_le_length (by simp [preN]), List.take_of_length_le (by simp [preN])] at this
    rw [this]; generalize preN row = q at *
    rw [← hrow]; unfold sub
    rw [List.take_take]; congr 1; omega
  have p2 : postQ (dropQ row) = sub s (i + preN row + (midQ row).length) k := by
    have := congrArg (List.drop (preN row + (midQ row).length)) h3
    rw [← List.append_assoc, List.drop_append_of_le_length (by simp [preN]), List.drop_of_length_le (by simp [preN]), List.nil_append] at this
    rw [this]; generalize preN row = q at *; generalize (midQ row).length = q2 at *
    rw [← hrow]; unfold sub
    rw [List.drop_take, List.drop_drop]; congr 1
    · omega
    · congr 1; omega
  rw [p2]
  conv => lhs; rw [p1]
  rw [sub_app ha (by omega)]

/-- Where the word is found. -/
theorem index_mid {t : Bytes} (h : midQ t ≠ []) : Lib.index t (midQ t) = preN t := by
  have h3 := three t
  have hd : t.drop (preN t) = midQ t ++ postQ (dropQ t) := by
    have := congrArg (List.drop (preN t)) h3
    rw [List.drop_append_of_le_length (by simp [preN]), List.drop_of_length_le (by simp [preN]), List.nil_append] at this
    exact this.symm
  have hle := preN_le t
  refine Lib.index_first (by omega) ?_ ?_
  · unfold Lib.occAt; rw [hd]
    rw [List.isPrefixOf_iff_prefix]; exact List.prefix_append _ _
  · intro j hj
    obtain ⟨c, m, hm⟩ : ∃ c m, midQ t = c :: m := by
      cases hq : midQ t with
      | nil => exact absurd hq h
      | cons c m => exact ⟨c, m, rfl⟩
    have hc : qu c = false := by
      have hdq : dropQ t = c :: (m ++ postQ (dropQ t)) := by
        have := mid_post (dropQ t)
        rw [← this]; show midQ t ++ _ = _; rw [hm]; simp [this]
      have := List.head?_dropWhile_not qu t
      rw [show t.dropWhile qu = dropQ t from rfl, hdq] at this
      simpa using this
    have hq : ∃ l, t.drop j = 39 :: l := by
      have hj2 : j < t.length := by omega
      refine ⟨t.drop (j + 1), ?_⟩
      rw [List.drop_eq_getElem_cons hj2]
      have hjp : j < (preQ t).length := hj
      have e : t[j] = (preQ t)[j] := by
        have hpre : preQ t <+: t := List.takeWhile_prefix _
        exact (List.IsPrefix.getElem hpre hjp).symm
      have hall : ∀ x, x ∈ preQ t → qu x = true := fun x hx => (List.all_eq_true.1 List.all_takeWhile) x hx
      have := hall _ (List.getElem_mem hjp)
      rw [e]; simp only [qu, decide_eq_true_eq] at this; rw [this]
    obtain ⟨l, hl⟩ := hq
    unfold Lib.occAt; rw [hl, hm]
    have : ¬ c = 39 := by simpa [qu] using hc
    simp [List.isPrefixOf, this]
end Go.Fv.T

/- Split. -/
namespace Go.Fv.T
open Go Go.Proofs
set_option linter.unusedSimpArgs false
set_option linter.unusedVariables false
set_option linter.unnecessarySimpa false
set_option maxRecDepth 8000

theorem lastW_nil : LastW [] := fun h => absurd h (by simp)
theorem lastW_snoc (l : List Tok) (m : Bytes) : LastW (l ++ [(m, true)]) := fun _ => by
  simp [List.getD]
structure SpI where
  i : Nat
  o : Nat
  out : List Tok
set_option maxHeartbeats 8000000 in
theorem split_ok (s : List UInt8) (hs : s.length ≤ 1048576) : FnOk Tryd.prog 56 [.str s] (.own 0) [(0, .row 100 (tkR (toks s [] [])))] := by
  refine FnOk.of_vc Tryd.func56 rfl (by decide) (by simp [Tryd.f56]) [.tmp 2] rfl fun w0 T0 _ => ?_
  simp only [Tryd.f56, argEnv]
  (repeat' first | with_reducible (first | refine Asm.intro fun _ => ?_ | refine Chk.g ?_ | refine AnyI.i64 fun _ _ => ?_ | refine LetW.g ?_ | refine LetW.h ?_ | refine Ite.t fun _ => ?_ | refine Ite.f fun _ => ?_ | refine Ite.decide (fun _ => ?_) fun _ => ?_ | refine Ite.bool (fun _ => ?_) fun _ => ?_ | refine And.intro ?_ ?_) | omega | simp (maxSteps := 1000000) only [go_sem, reduceCtorEq, Nat.reduceLT, Nat.reduceLeDiff, reduceIte, ↓reduceIte, Nat.reduceEqDiff, Nat.reduceAdd, Nat.reduceMul, Nat.reduceSub, Int.reduceLE, Int.reduceLT, Int.reduceNeg, Int.reduceToNat])
  refine VcLoop.intro (fun x : SpI => ⟨69, [(6, .int .i64 x.i), (5, .int .i64 x.o), (4, .fn 64 [.ptr 0 0]), (3, .ptr 0 0), (0, .str s)], [(0, .box 97 [.own 1]), (1, .row 100 (tkR x.out))], 2⟩) (fun x => x.o ≤ x.i ∧ x.i ≤ s.length ∧ toks (s.drop x.i) (sub s x.o x.i) x.out = toks s [] [] ∧ LastW x.out ∧ x.out.length ≤ 2 * x.i) (fun x => s.length - x.i) ⟨0, 0, []⟩ ?_ ⟨Nat.le_refl _, Nat.zero_le _, by rw [sub_self]; rfl, lastW_nil, Nat.le_refl _⟩ fun x hx => ?_
  · refine Ent.trans (Ent.nilBox (P := Tryd.prog) 1 0 100 e100 rfl rfl) (Ent.auto0 rfl ?_ ?_) <;> simp only [go_sem, reduceCtorEq, reduceIte, Nat.reduceEqDiff, Nat.reduceLT, Nat.reduceLeDiff, Int.natCast_succ, zrow, tkR, put, List.set_cons_zero, List.set_cons_succ, Nat.zero_mul, List.range_zero, List.map_nil, List.replicate_zero]
  obtain ⟨i, o, out⟩ := x
  obtain ⟨hoi, hil, ht, hL, hol⟩ := hx
  dsimp only at hoi hil ht hL hol ⊢
  (repeat' first | with_reducible (first | refine Asm.intro fun _ => ?_ | refine Chk.g ?_ | refine AnyI.i64 fun _ _ => ?_ | refine LetW.g ?_ | refine LetW.h ?_ | refine Ite.t fun _ => ?_ | refine Ite.f fun _ => ?_ | refine Ite.decide (fun _ => ?_) fun _ => ?_ | refine Ite.bool (fun _ => ?_) fun _ => ?_ | refine And.intro ?_ ?_) | omega | simp (maxSteps := 1000000) only [go_sem, reduceCtorEq, Nat.reduceLT, Nat.reduceLeDiff, reduceIte, ↓reduceIte, Nat.reduceEqDiff, Nat.reduceAdd, Nat.reduceMul, Nat.reduceSub, Int.reduceLE, Int.reduceLT, Int.reduceNeg, Int.reduceToNat, Int.toNat_natCast])
  · refine VcCall.fr (FnFr.of_ok (inWord_ok (s.getD i 0)) rfl rfl) (by simp only [noIdR_ok, argOkL, argOk, allOk, argOkN, List.drop_zero, lk, reduceIte, reduceCtorEq, Nat.reduceEqDiff, Option.some.injEq, Item.row.injEq, Item.box.injEq, AV.ro.injEq, exists_eq_left, exists_and_left, exists_eq_left', exists_eq_right, and_assoc, and_true, true_and, List.cons.injEq, exists_eq', exists_eq]) 0 rfl (by simp [rowsB]) ?_
    have hlt : i < s.length := by omega
    cases hc : inW (s.getD i 0) with
    | false =>
      (repeat' first | with_reducible (first | refine Asm.intro fun _ => ?_ | refine Chk.g ?_ | refine AnyI.i64 fun _ _ => ?_ | refine LetW.g ?_ | refine LetW.h ?_ | refine Ite.t fun _ => ?_ | refine Ite.f fun _ => ?_ | refine Ite.decide (fun _ => ?_) fun _ => ?_ | refine Ite.bool (fun _ => ?_) fun _ => ?_ | refine And.intro ?_ ?_) | omega | simp (maxSteps := 1000000) only [go_sem, reduceCtorEq, Nat.reduceLT, Nat.reduceLeDiff, reduceIte, ↓reduceIte, Nat.reduceEqDiff, Nat.reduceAdd, Nat.reduceMul, Nat.reduceSub, Int.reduceLE, Int.reduceLT, Int.reduceNeg, Int.reduceToNat, hc])
      refine ⟨⟨i + 1, o, out⟩, Ent.auto0 rfl ?_ ?_, ⟨Nat.le_succ_of_le hoi, hlt, ?_, hL, by dsimp only; omega⟩, by dsimp only; omega⟩
      · simp only [go_sem, reduceCtorEq, reduceIte, Nat.reduceEqDiff, Nat.reduceLT, Nat.reduceLeDiff, Int.natCast_succ]
      · simp only [go_sem, reduceCtorEq, reduceIte, Nat.reduceEqDiff, Nat.reduceLT, Nat.reduceLeDiff, Int.natCast_succ, tkR]
      · rw [← step_other hlt hoi hc]; exact ht
    | true =>
      (repeat' first | with_reducible (first | refine Asm.intro fun _ => ?_ | refine Chk.g ?_ | refine AnyI.i64 fun _ _ => ?_ | refine LetW.g ?_ | refine LetW.h ?_ | refine Ite.t fun _ => ?_ | refine Ite.f fun _ => ?_ | refine Ite.decide (fun _ => ?_) fun _ => ?_ | refine Ite.bool (fun _ => ?_) fun _ => ?_ | refine And.intro ?_ ?_) | omega | simp (maxSteps := 1000000) only [go_sem, reduceCtorEq, Nat.reduceLT, Nat.reduceLeDiff, reduceIte, ↓reduceIte, Nat.reduceEqDiff, Nat.reduceAdd, Nat.reduceMul, Nat.reduceSub, Int.reduceLE, Int.reduceLT, Int.reduceNeg, Int.reduceToNat, hc])
      refine VcLoop.intro (fun k : Nat => ⟨69, [(7, .int .i64 k), (6, .int .i64 i), (5, .int .i64 o), (4, .fn 64 [.ptr 0 0]), (3, .ptr 0 0), (0, .str s)], [(0, .box 97 [.own 1]), (1, .row 100 (tkR out))], 2⟩) (fun k => i ≤ k ∧ k ≤ s.length ∧ ∀ j, i ≤ j → j < k → inW (s.getD j 0) = true) (fun k => s.length - k) i ?_ ⟨Nat.le_refl _, hil, fun j h1 h2 => absurd h2 (by omega)⟩ fun k hk => ?_
      · refine Ent.auto0 rfl ?_ ?_ <;> simp only [go_sem, reduceCtorEq, reduceIte, Nat.reduceEqDiff, Nat.reduceLT, Nat.reduceLeDiff, Int.natCast_succ, tkR]
      obtain ⟨hk1, hk2, hr⟩ := hk
      by_cases hkl : k < s.length
      · have hkl2 : (k : Int) < s.length := by omega
        (repeat' first | with_reducible (first | refine Asm.intro fun _ => ?_ | refine Chk.g ?_ | refine AnyI.i64 fun _ _ => ?_ | refine LetW.g ?_ | refine LetW.h ?_ | refine Ite.t fun _ => ?_ | refine Ite.f fun _ => ?_ | refine Ite.decide (fun _ => ?_) fun _ => ?_ | refine Ite.bool (fun _ => ?_) fun _ => ?_ | refine And.intro ?_ ?_) | omega | simp (maxSteps := 1000000) only [go_sem, reduceCtorEq, Nat.reduceLT, Nat.reduceLeDiff, reduceIte, ↓reduceIte, Nat.reduceEqDiff, Nat.reduceAdd, Nat.reduceMul, Nat.reduceSub, Int.reduceLE, Int.reduceLT, Int.reduceNeg, Int.reduceToNat, hkl2, Int.toNat_natCast])
        refine VcCall.fr (FnFr.of_ok (inWord_ok (s.getD k 0)) rfl rfl) (by simp only [noIdR_ok, argOkL, argOk, allOk, argOkN, List.drop_zero, lk, reduceIte, reduceCtorEq, Nat.reduceEqDiff, Option.some.injEq, Item.row.injEq, Item.box.injEq, AV.ro.injEq, exists_eq_left, exists_and_left, exists_eq_left', exists_eq_right, and_assoc, and_true, true_and, List.cons.injEq, exists_eq', exists_eq]) 0 rfl (by simp [rowsB]) ?_
        cases hW : inW (s.getD k 0) with
        | true =>
          (repeat' first | with_reducible (first | refine Asm.intro fun _ => ?_ | refine Chk.g ?_ | refine AnyI.i64 fun _ _ => ?_ | refine LetW.g ?_ | refine LetW.h ?_ | refine Ite.t fun _ => ?_ | refine Ite.f fun _ => ?_ | refine Ite.decide (fun _ => ?_) fun _ => ?_ | refine Ite.bool (fun _ => ?_) fun _ => ?_ | refine And.intro ?_ ?_) | omega | simp (maxSteps := 1000000) only [go_sem, reduceCtorEq, Nat.reduceLT, Nat.reduceLeDiff, reduceIte, ↓reduceIte, Nat.reduceEqDiff, Nat.reduceAdd, Nat.reduceMul, Nat.reduceSub, Int.reduceLE, Int.reduceLT, Int.reduceNeg, Int.reduceToNat, hW])
          refine ⟨k + 1, Ent.auto0 rfl ?_ ?_, ⟨by omega, by omega, fun j h1 h2 => ?_⟩, by omega⟩
          · simp only [go_sem, reduceCtorEq, reduceIte, Nat.reduceEqDiff, Nat.reduceLT, Nat.reduceLeDiff, Int.natCast_succ]
          · simp only [go_sem, reduceCtorEq, reduceIte, Nat.reduceEqDiff, Nat.reduceLT, Nat.reduceLeDiff, Int.natCast_succ, tkR]
          · by_cases hj : j = k
            · rw [hj]; exact hW
            · exact hr j h1 (by omega)
        | false =>
          have he : k < s.length → inW (s.getD k 0) = false := fun _ => hW
          have hik : i < k := by
            by_cases h : i = k
            · subst h; exact absurd hc (by rw [hW]; decide)
            · omega
          obtain ⟨row, hR⟩ : ∃ row, (s.drop i).take (k - i) = row := ⟨_, rfl⟩
          have hR2 : sub s i k = row := hR
          have hrl : row.length = k - i := by rw [← hR2]; exact sub_len (by omega) (by omega)
          (repeat' first | with_reducible (first | refine Asm.intro fun _ => ?_ | refine Chk.g ?_ | refine AnyI.i64 fun _ _ => ?_ | refine LetW.g ?_ | refine LetW.h ?_ | refine Ite.t fun _ => ?_ | refine Ite.f fun _ => ?_ | refine Ite.decide (fun _ => ?_) fun _ => ?_ | refine Ite.bool (fun _ => ?_) fun _ => ?_ | refine And.intro ?_ ?_) | omega | simp (maxSteps := 1000000) only [go_sem, reduceCtorEq, Nat.reduceLT, Nat.reduceLeDiff, reduceIte, ↓reduceIte, Nat.reduceEqDiff, Nat.reduceAdd, Nat.reduceMul, Nat.reduceSub, Int.reduceLE, Int.reduceLT, Int.reduceNeg, Int.reduceToNat, hR, hW])
          refine VcCall.fr (FnFr.of_ok (trim_ok row (by omega)) rfl rfl) (by simp only [noIdR_ok, argOkL, argOk, allOk, argOkN, List.drop_zero, lk, reduceIte, reduceCtorEq, Nat.reduceEqDiff, Option.some.injEq, Item.row.injEq, Item.box.injEq, AV.ro.injEq, exists_eq_left, exists_and_left, exists_eq_left', exists_eq_right, and_assoc, and_true, true_and, List.cons.injEq, exists_eq', exists_eq]) 0 rfl (by simp [rowsB]) ?_
          (repeat' first | with_reducible (first | refine Asm.intro fun _ => ?_ | refine Chk.g ?_ | refine AnyI.i64 fun _ _ => ?_ | refine LetW.g ?_ | refine LetW.h ?_ | refine Ite.t fun _ => ?_ | refine Ite.f fun _ => ?_ | refine Ite.decide (fun _ => ?_) fun _ => ?_ | refine Ite.bool (fun _ => ?_) fun _ => ?_ | refine And.intro ?_ ?_) | omega | simp (maxSteps := 1000000) only [go_sem, reduceCtorEq, Nat.reduceLT, Nat.reduceLeDiff, reduceIte, ↓reduceIte, Nat.reduceEqDiff, Nat.reduceAdd, Nat.reduceMul, Nat.reduceSub, Int.reduceLE, Int.reduceLT, Int.reduceNeg, Int.reduceToNat])
          have hml := preN_le row
          refine VcCall.fr (FnFr.of_ok (isWord_ok (midQ row) (by omega)) rfl rfl) (by simp only [noIdR_ok, argOkL, argOk, allOk, argOkN, List.drop_zero, lk, reduceIte, reduceCtorEq, Nat.reduceEqDiff, Option.some.injEq, Item.row.injEq, Item.box.injEq, AV.ro.injEq, exists_eq_left, exists_and_left, exists_eq_left', exists_eq_right, and_assoc, and_true, true_and, List.cons.injEq, exists_eq', exists_eq]) 0 rfl (by simp [rowsB]) ?_
          cases hw : isWd (midQ row) with
          | false =>
            (repeat' first | with_reducible (first | refine Asm.intro fun _ => ?_ | refine Chk.g ?_ | refine AnyI.i64 fun _ _ => ?_ | refine LetW.g ?_ | refine LetW.h ?_ | refine Ite.t fun _ => ?_ | refine Ite.f fun _ => ?_ | refine Ite.decide (fun _ => ?_) fun _ => ?_ | refine Ite.bool (fun _ => ?_) fun _ => ?_ | refine And.intro ?_ ?_) | omega | simp (maxSteps := 1000000) only [go_sem, reduceCtorEq, Nat.reduceLT, Nat.reduceLeDiff, reduceIte, ↓reduceIte, Nat.reduceEqDiff, Nat.reduceAdd, Nat.reduceMul, Nat.reduceSub, Int.reduceLE, Int.reduceLT, Int.reduceNeg, Int.reduceToNat, hw])
            refine ⟨⟨k, o, out⟩, Ent.auto0 rfl ?_ ?_, ⟨by dsimp only; omega, hk2, ?_, hL, by dsimp only; omega⟩, by dsimp only; omega⟩
            · simp only [go_sem, reduceCtorEq, reduceIte, Nat.reduceEqDiff, Nat.reduceLT, Nat.reduceLeDiff, Int.natCast_succ]
            · simp only [go_sem, reduceCtorEq, reduceIte, Nat.reduceEqDiff, Nat.reduceLT, Nat.reduceLeDiff, Int.natCast_succ, tkR]
            · rw [← step_row hlt hoi hik hk2 hr he out (by rw [hR2]; exact hw)]; exact ht
          | true =>
            have hne : midQ row ≠ [] := by
              intro h; rw [h, isWd_nil] at hw; cases hw
            have kI := index_ok row (midQ row) (by omega)
            rw [index_mid hne] at kI
            have hst := step_word hlt hoi hik hk2 hr he out (by rw [hR2]; exact hw)
            rw [hR2] at hst
            have eF : ((i : Int) + (preN row : Int)).toNat = i + preN row := by omega
            obtain ⟨p, hp⟩ : ∃ p, preN row = p := ⟨_, rfl⟩
            rw [hp] at kI hst eF hml
            have hbl := sub_len (s := s) (a := o) (b := i + p) (by omega) (by omega)
            obtain ⟨b, hb⟩ : ∃ b, sub s o (i + p) = b := ⟨_, rfl⟩
            rw [hb] at hst hbl
            have hb2 : (s.drop o).take (i + p - o) = b := hb
            have k1 := add_ok out b false (by omega) (fun _ => hL)
            have k2 := add_ok (addT out b false) (midQ row) true (by have := addT_len out b false; omega) (fun h => by cases h)
            rw [show addT (addT out b false) (midQ row) true = flush out b ++ [(midQ row, true)] from if_neg hne] at k2
            generalize midQ row = m at *
            (repeat' first | with_reducible (first | refine Asm.intro fun _ => ?_ | refine Chk.g ?_ | refine AnyI.i64 fun _ _ => ?_ | refine LetW.g ?_ | refine LetW.h ?_ | refine Ite.t fun _ => ?_ | refine Ite.f fun _ => ?_ | refine Ite.decide (fun _ => ?_) fun _ => ?_ | refine Ite.bool (fun _ => ?_) fun _ => ?_ | refine And.intro ?_ ?_) | omega | simp (maxSteps := 1000000) only [go_sem, reduceCtorEq, Nat.reduceLT, Nat.reduceLeDiff, reduceIte, ↓reduceIte, Nat.reduceEqDiff, Nat.reduceAdd, Nat.reduceMul, Nat.reduceSub, Int.reduceLE, Int.reduceLT, Int.reduceNeg, Int.reduceToNat, hw])
            refine VcCall.fr (FnFr.of_ok kI rfl rfl) (by simp only [noIdR_ok, argOkL, argOk, allOk, argOkN, List.drop_zero, lk, reduceIte, reduceCtorEq, Nat.reduceEqDiff, Option.some.injEq, Item.row.injEq, Item.box.injEq, AV.ro.injEq, exists_eq_left, exists_and_left, exists_eq_left', exists_eq_right, and_assoc, and_true, true_and, List.cons.injEq, exists_eq', exists_eq]) 0 rfl (by simp [rowsB]) ?_
            (repeat' first | with_reducible (first | refine Asm.intro fun _ => ?_ | refine Chk.g ?_ | refine AnyI.i64 fun _ _ => ?_ | refine LetW.g ?_ | refine LetW.h ?_ | refine Ite.t fun _ => ?_ | refine Ite.f fun _ => ?_ | refine Ite.decide (fun _ => ?_) fun _ => ?_ | refine Ite.bool (fun _ => ?_) fun _ => ?_ | refine And.intro ?_ ?_) | omega | simp (maxSteps := 1000000) only [go_sem, reduceCtorEq, Nat.reduceLT, Nat.reduceLeDiff, reduceIte, ↓reduceIte, Nat.reduceEqDiff, Nat.reduceAdd, Nat.reduceMul, Nat.reduceSub, Int.reduceLE, Int.reduceLT, Int.reduceNeg, Int.reduceToNat, eF, hb2, Int.toNat_natCast])
            refine VcCall.io [0, 1] k1 (by decide) (by simp [renL, ren, ioN]) rfl (by simp [subOk, ioN, lk, Item.ren, Item.below, ren, renL, belowL, Fv.below, tkR, renR_ok, belowR_ok]) covA2 3 (by decide) rfl (by simp [rowsB, Item.below, Fv.below, belowL, tkR, belowR_ok]) ?_
            (repeat' first | with_reducible (first | refine Asm.intro fun _ => ?_ | refine Chk.g ?_ | refine AnyI.i64 fun _ _ => ?_ | refine LetW.g ?_ | refine LetW.h ?_ | refine Ite.t fun _ => ?_ | refine Ite.f fun _ => ?_ | refine Ite.decide (fun _ => ?_) fun _ => ?_ | refine Ite.bool (fun _ => ?_) fun _ => ?_ | refine And.intro ?_ ?_) | omega | simp (maxSteps := 1000000) only [go_sem, reduceCtorEq, Nat.reduceLT, Nat.reduceLeDiff, reduceIte, ↓reduceIte, Nat.reduceEqDiff, Nat.reduceAdd, Nat.reduceMul, Nat.reduceSub, Int.reduceLE, Int.reduceLT, Int.reduceNeg, Int.reduceToNat, S.ioS, ioRows, ioN, delL, Item.ren, ren, renL, tkR, List.length_cons, List.length_nil, List.getElem?_cons_zero, List.getElem?_cons_succ, List.getElem?_nil, List.cons_append, List.nil_append, Nat.reduceAdd, Nat.sub_self, Nat.add_zero, List.filter, eF, hb2])
            refine VcCall.io [0, 2] k2 (by decide) (by simp [renL, ren, ioN]) rfl (by simp [subOk, ioN, lk, Item.ren, Item.below, ren, renL, belowL, Fv.below, tkR, renR_ok, belowR_ok]) covA2 3 (by decide) rfl (by simp [rowsB, Item.below, Fv.below, belowL, tkR, belowR_ok]) ?_
            (repeat' first | with_reducible (first | refine Asm.intro fun _ => ?_ | refine Chk.g ?_ | refine AnyI.i64 fun _ _ => ?_ | refine LetW.g ?_ | refine LetW.h ?_ | refine Ite.t fun _ => ?_ | refine Ite.f fun _ => ?_ | refine Ite.decide (fun _ => ?_) fun _ => ?_ | refine Ite.bool (fun _ => ?_) fun _ => ?_ | refine And.intro ?_ ?_) | omega | simp (maxSteps := 1000000) only [go_sem, reduceCtorEq, Nat.reduceLT, Nat.reduceLeDiff, reduceIte, ↓reduceIte, Nat.reduceEqDiff, Nat.reduceAdd, Nat.reduceMul, Nat.reduceSub, Int.reduceLE, Int.reduceLT, Int.reduceNeg, Int.reduceToNat, S.ioS, ioRows, ioN, delL, Item.ren, ren, renL, tkR, List.length_cons, List.length_nil, List.getElem?_cons_zero, List.getElem?_cons_succ, List.getElem?_nil, List.cons_append, List.nil_append, Nat.reduceAdd, Nat.sub_self, Nat.add_zero, List.filter])
            refine ⟨⟨k, i + p + m.length, flush out b ++ [(m, true)]⟩, Ent.auto0 rfl ?_ ?_, ⟨by dsimp only; omega, hk2, ?_, lastW_snoc _ _, ?_⟩, by dsimp only; omega⟩
            · simp only [go_sem, reduceCtorEq, reduceIte, Nat.reduceEqDiff, Nat.reduceLT, Nat.reduceLeDiff, Int.natCast_succ, Int.natCast_add]
            · simp only [go_sem, reduceCtorEq, reduceIte, Nat.reduceEqDiff, Nat.reduceLT, Nat.reduceLeDiff, Int.natCast_succ, tkR]
            · rw [← hst]; exact ht
            · have := addT_len out b false
              show (addT out b false ++ [(m, true)]).length ≤ 2 * k
              rw [List.length_append, List.length_singleton]; omega
      · have hkl2 : ¬ (k : Int) < s.length := by omega
        have he : k < s.length → inW (s.getD k 0) = false := fun h => absurd h hkl
        have hik : i < k := by
          by_cases h : i = k
          · subst h; exact absurd hc (by omega)
          · omega
        obtain ⟨row, hR⟩ : ∃ row, (s.drop i).take (k - i) = row := ⟨_, rfl⟩
        have hR2 : sub s i k = row := hR
        have hrl : row.length = k - i := by rw [← hR2]; exact sub_len (by omega) (by omega)
        (repeat' first | with_reducible (first | refine Asm.intro fun _ => ?_ | refine Chk.g ?_ | refine AnyI.i64 fun _ _ => ?_ | refine LetW.g ?_ | refine LetW.h ?_ | refine Ite.t fun _ => ?_ | refine Ite.f fun _ => ?_ | refine Ite.decide (fun _ => ?_) fun _ => ?_ | refine Ite.bool (fun _ => ?_) fun _ => ?_ | refine And.intro ?_ ?_) | omega | simp (maxSteps := 1000000) only [go_sem, reduceCtorEq, Nat.reduceLT, Nat.reduceLeDiff, reduceIte, ↓reduceIte, Nat.reduceEqDiff, Nat.reduceAdd, Nat.reduceMul, Nat.reduceSub, Int.reduceLE, Int.reduceLT, Int.reduceNeg, Int.reduceToNat, hR, hkl2])
        refine VcCall.fr (FnFr.of_ok (trim_ok row (by omega)) rfl rfl) (by simp only [noIdR_ok, argOkL, argOk, allOk, argOkN, List.drop_zero, lk, reduceIte, reduceCtorEq, Nat.reduceEqDiff, Option.some.injEq, Item.row.injEq, Item.box.injEq, AV.ro.injEq, exists_eq_left, exists_and_left, exists_eq_left', exists_eq_right, and_assoc, and_true, true_and, List.cons.injEq, exists_eq', exists_eq]) 0 rfl (by simp [rowsB]) ?_
        (repeat' first | with_reducible (first | refine Asm.intro fun _ => ?_ | refine Chk.g ?_ | refine AnyI.i64 fun _ _ => ?_ | refine LetW.g ?_ | refine LetW.h ?_ | refine Ite.t fun _ => ?_ | refine Ite.f fun _ => ?_ | refine Ite.decide (fun _ => ?_) fun _ => ?_ | refine Ite.bool (fun _ => ?_) fun _ => ?_ | refine And.intro ?_ ?_) | omega | simp (maxSteps := 1000000) only [go_sem, reduceCtorEq, Nat.reduceLT, Nat.reduceLeDiff, reduceIte, ↓reduceIte, Nat.reduceEqDiff, Nat.reduceAdd, Nat.reduceMul, Nat.reduceSub, Int.reduceLE, Int.reduceLT, Int.reduceNeg, Int.reduceToNat])
        have hml := preN_le row
        refine VcCall.fr (FnFr.of_ok (isWord_ok (midQ row) (by omega)) rfl rfl) (by simp only [noIdR_ok, argOkL, argOk, allOk, argOkN, List.drop_zero, lk, reduceIte, reduceCtorEq, Nat.reduceEqDiff, Option.some.injEq, Item.row.injEq, Item.box.injEq, AV.ro.injEq, exists_eq_left, exists_and_left, exists_eq_left', exists_eq_right, and_assoc, and_true, true_and, List.cons.injEq, exists_eq', exists_eq]) 0 rfl (by simp [rowsB]) ?_
        cases hw : isWd (midQ row) with
        | false =>
          (repeat' first | with_reducible (first | refine Asm.intro fun _ => ?_ | refine Chk.g ?_ | refine AnyI.i64 fun _ _ => ?_ | refine LetW.g ?_ | refine LetW.h ?_ | refine Ite.t fun _ => ?_ | refine Ite.f fun _ => ?_ | refine Ite.decide (fun _ => ?_) fun _ => ?_ | refine Ite.bool (fun _ => ?_) fun _ => ?_ | refine And.intro ?_ ?_) | omega | simp (maxSteps := 1000000) only [go_sem, reduceCtorEq, Nat.reduceLT, Nat.reduceLeDiff, reduceIte, ↓reduceIte, Nat.reduceEqDiff, Nat.reduceAdd, Nat.reduceMul, Nat.reduceSub, Int.reduceLE, Int.reduceLT, Int.reduceNeg, Int.reduceToNat, hw])
          refine ⟨⟨k, o, out⟩, Ent.auto0 rfl ?_ ?_, ⟨by dsimp only; omega, hk2, ?_, hL, by dsimp only; omega⟩, by dsimp only; omega⟩
          · simp only [go_sem, reduceCtorEq, reduceIte, Nat.reduceEqDiff, Nat.reduceLT, Nat.reduceLeDiff, Int.natCast_succ]
          · simp only [go_sem, reduceCtorEq, reduceIte, Nat.reduceEqDiff, Nat.reduceLT, Nat.reduceLeDiff, Int.natCast_succ, tkR]
          · rw [← step_row hlt hoi hik hk2 hr he out (by rw [hR2]; exact hw)]; exact ht
        | true =>
          have hne : midQ row ≠ [] := by
            intro h; rw [h, isWd_nil] at hw; cases hw
          have kI := index_ok row (midQ row) (by omega)
          rw [index_mid hne] at kI
          have hst := step_word hlt hoi hik hk2 hr he out (by rw [hR2]; exact hw)
          rw [hR2] at hst
          have eF : ((i : Int) + (preN row : Int)).toNat = i + preN row := by omega
          obtain ⟨p, hp⟩ : ∃ p, preN row = p := ⟨_, rfl⟩
          rw [hp] at kI hst eF hml
          have hbl := sub_len (s := s) (a := o) (b := i + p) (by omega) (by omega)
          obtain ⟨b, hb⟩ : ∃ b, sub s o (i + p) = b := ⟨_, rfl⟩
          rw [hb] at hst hbl
          have hb2 : (s.drop o).take (i + p - o) = b := hb
          have k1 := add_ok out b false (by omega) (fun _ => hL)
          have k2 := add_ok (addT out b false) (midQ row) true (by have := addT_len out b false; omega) (fun h => by cases h)
          rw [show addT (addT out b false) (midQ row) true = flush out b ++ [(midQ row, true)] from if_neg hne] at k2
          generalize midQ row = m at *
          (repeat' first | with_reducible (first | refine Asm.intro fun _ => ?_ | refine Chk.g ?_ | refine AnyI.i64 fun _ _ => ?_ | refine LetW.g ?_ | refine LetW.h ?_ | refine Ite.t fun _ => ?_ | refine Ite.f fun _ => ?_ | refine Ite.decide (fun _ => ?_) fun _ => ?_ | refine Ite.bool (fun _ => ?_) fun _ => ?_ | refine And.intro ?_ ?_) | omega | simp (maxSteps := 1000000) only [go_sem, reduceCtorEq, Nat.reduceLT, Nat.reduceLeDiff, reduceIte, ↓reduceIte, Nat.reduceEqDiff, Nat.reduceAdd, Nat.reduceMul, Nat.reduceSub, Int.reduceLE, Int.reduceLT, Int.reduceNeg, Int.reduceToNat, hw])
          refine VcCall.fr (FnFr.of_ok kI rfl rfl) (by simp only [noIdR_ok, argOkL, argOk, allOk, argOkN, List.drop_zero, lk, reduceIte, reduceCtorEq, Nat.reduceEqDiff, Option.some.injEq, Item.row.injEq, Item.box.injEq, AV.ro.injEq, exists_eq_left, exists_and_left, exists_eq_left', exists_eq_right, and_assoc, and_true, true_and, List.cons.injEq, exists_eq', exists_eq]) 0 rfl (by simp [rowsB]) ?_
          (repeat' first | with_reducible (first | refine Asm.intro fun _ => ?_ | refine Chk.g ?_ | refine AnyI.i64 fun _ _ => ?_ | refine LetW.g ?_ | refine LetW.h ?_ | refine Ite.t fun _ => ?_ | refine Ite.f fun _ => ?_ | refine Ite.decide (fun _ => ?_) fun _ => ?_ | refine Ite.bool (fun _ => ?_) fun _ => ?_ | refine And.intro ?_ ?_) | omega | simp (maxSteps := 1000000) only [go_sem, reduceCtorEq, Nat.reduceLT, Nat.reduceLeDiff, reduceIte, ↓reduceIte, Nat.reduceEqDiff, Nat.reduceAdd, Nat.reduceMul, Nat.reduceSub, Int.reduceLE, Int.reduceLT, Int.reduceNeg, Int.reduceToNat, eF, hb2, Int.toNat_natCast])
          refine VcCall.io [0, 1] k1 (by decide) (by simp [renL, ren, ioN]) rfl (by simp [subOk, ioN, lk, Item.ren, Item.below, ren, renL, belowL, Fv.below, tkR, renR_ok, belowR_ok]) covA2 3 (by decide) rfl (by simp [rowsB, Item.below, Fv.below, belowL, tkR, belowR_ok]) ?_
          (repeat' first | with_reducible (first | refine Asm.intro fun _ => ?_ | refine Chk.g ?_ | refine AnyI.i64 fun _ _ => ?_ | refine LetW.g ?_ | refine LetW.h ?_ | refine Ite.t fun _ => ?_ | refine Ite.f fun _ => ?_ | refine Ite.decide (fun _ => ?_) fun _ => ?_ | refine Ite.bool (fun _ => ?_) fun _ => ?_ | refine And.intro ?_ ?_) | omega | simp (maxSteps := 1000000) only [go_sem, reduceCtorEq, Nat.reduceLT, Nat.reduceLeDiff, reduceIte, ↓reduceIte, Nat.reduceEqDiff, Nat.reduceAdd, Nat.reduceMul, Nat.reduceSub, Int.reduceLE, Int.reduceLT, Int.reduceNeg, Int.reduceToNat, S.ioS, ioRows, ioN, delL, Item.ren, ren, renL, tkR, List.length_cons, List.length_nil, List.getElem?_cons_zero, List.getElem?_cons_succ, List.getElem?_nil, List.cons_append, List.nil_append, Nat.reduceAdd, Nat.sub_self, Nat.add_zero, List.filter, eF, hb2])
          refine VcCall.io [0, 2] k2 (by decide) (by simp [renL, ren, ioN]) rfl (by simp [subOk, ioN, lk, Item.ren, Item.below, ren, renL, belowL, Fv.below, tkR, renR_ok, belowR_ok]) covA2 3 (by decide) rfl (by simp [rowsB, Item.below, Fv.below, belowL, tkR, belowR_ok]) ?_
          (repeat' first | with_reducible (first | refine Asm.intro fun _ => ?_ | refine Chk.g ?_ | refine AnyI.i64 fun _ _ => ?_ | refine LetW.g ?_ | refine LetW.h ?_ | refine Ite.t fun _ => ?_ | refine Ite.f fun _ => ?_ | refine Ite.decide (fun _ => ?_) fun _ => ?_ | refine Ite.bool (fun _ => ?_) fun _ => ?_ | refine And.intro ?_ ?_) | omega | simp (maxSteps := 1000000) only [go_sem, reduceCtorEq, Nat.reduceLT, Nat.reduceLeDiff, reduceIte, ↓reduceIte, Nat.reduceEqDiff, Nat.reduceAdd, Nat.reduceMul, Nat.reduceSub, Int.reduceLE, Int.reduceLT, Int.reduceNeg, Int.reduceToNat, S.ioS, ioRows, ioN, delL, Item.ren, ren, renL, tkR, List.length_cons, List.length_nil, List.getElem?_cons_zero, List.getElem?_cons_succ, List.getElem?_nil, List.cons_append, List.nil_append, Nat.reduceAdd, Nat.sub_self, Nat.add_zero, List.filter])
          refine ⟨⟨k, i + p + m.length, flush out b ++ [(m, true)]⟩, Ent.auto0 rfl ?_ ?_, ⟨by dsimp only; omega, hk2, ?_, lastW_snoc _ _, ?_⟩, by dsimp only; omega⟩
          · simp only [go_sem, reduceCtorEq, reduceIte, Nat.reduceEqDiff, Nat.reduceLT, Nat.reduceLeDiff, Int.natCast_succ, Int.natCast_add]
          · simp only [go_sem, reduceCtorEq, reduceIte, Nat.reduceEqDiff, Nat.reduceLT, Nat.reduceLeDiff, Int.natCast_succ, tkR]
          · rw [← hst]; exact ht
          · have := addT_len out b false
            show (addT out b false ++ [(m, true)]).length ≤ 2 * k
            rw [List.length_append, List.length_singleton]; omega
  · have e : i = s.length := by omega
    subst e
    rw [List.drop_of_length_le (Nat.le_refl _), toks_nil] at ht
    obtain ⟨b, hb⟩ : ∃ b, sub s o s.length = b := ⟨_, rfl⟩
    have hb2 : (s.drop o).take (s.length - o) = b := hb
    have hbl := sub_len (s := s) (a := o) (b := s.length) hoi (Nat.le_refl _)
    rw [hb] at hbl ht
    have k1 := add_ok out b false (by omega) (fun _ => hL)
    rw [show addT out b false = toks s [] [] from ht] at k1
    rw [hb2]
    refine VcCall.io [0, 1] k1 (by decide) (by simp [renL, ren, ioN]) rfl (by simp [subOk, ioN, lk, Item.ren, Item.below, ren, renL, belowL, Fv.below, tkR, renR_ok, belowR_ok]) covA2 3 (by decide) rfl (by simp [rowsB, Item.below, Fv.below, belowL, tkR, belowR_ok]) ?_
    (repeat' first | with_reducible (first | refine Asm.intro fun _ => ?_ | refine Chk.g ?_ | refine AnyI.i64 fun _ _ => ?_ | refine LetW.g ?_ | refine LetW.h ?_ | refine Ite.t fun _ => ?_ | refine Ite.f fun _ => ?_ | refine Ite.decide (fun _ => ?_) fun _ => ?_ | refine Ite.bool (fun _ => ?_) fun _ => ?_ | refine And.intro ?_ ?_) | omega | simp (maxSteps := 1000000) only [go_sem, reduceCtorEq, Nat.reduceLT, Nat.reduceLeDiff, reduceIte, ↓reduceIte, Nat.reduceEqDiff, Nat.reduceAdd, Nat.reduceMul, Nat.reduceSub, Int.reduceLE, Int.reduceLT, Int.reduceNeg, Int.reduceToNat, S.ioS, ioRows, ioN, delL, Item.ren, ren, renL, tkR, List.length_cons, List.length_nil, List.getElem?_cons_zero, List.getElem?_cons_succ, List.getElem?_nil, List.cons_append, List.nil_append, Nat.reduceAdd, Nat.sub_self, Nat.add_zero, List.filter, hb2])
    refine Ret.auto 1 ?_ rfl ?_ <;> simp only [go_sem, reduceCtorEq, reduceIte, Nat.reduceEqDiff, Nat.reduceLT, Nat.reduceLeDiff, Int.natCast_succ, Post, tkR]
end Go.Fv.T

/- Small letters: the bytes on the way. -/
namespace Go.Fv.T
open Go Go.Proofs
set_option linter.unusedSimpArgs false
set_option linter.unusedVariables false
set_option linter.unnecessarySimpa false
set_option maxRecDepth 8000

theorem byteInts_len (l : List UInt8) : (byteInts l).length = l.length := by simp [byteInts]
theorem bytesOf_byteInts (l : List UInt8) : bytesOf (byteInts l) = l := by
  unfold bytesOf byteInts
  rw [List.map_map]
  conv => rhs; rw [← List.map_id l]
  refine List.map_congr_left fun b _ => ?_
  simp
def smallAt (s : List UInt8) (i : Nat) : List Int := byteInts ((s.take i).map smallB ++ s.drop i)
theorem smallAt_zero (s : List UInt8) : smallAt s 0 = byteInts s := by simp [smallAt]
theorem smallAt_end (s : List UInt8) : bytesOf (smallAt s s.length) = smallL s := by
  unfold smallAt
  rw [bytesOf_byteInts]; simp [smallL]
theorem smallAt_len (s : List UInt8) (i : Nat) : (smallAt s i).length = s.length := by
  simp [smallAt, byteInts]; omega
theorem smallAt_get {s : List UInt8} {i : Nat} (h : i < s.length) : (smallAt s i).getD i 0 = ((s.getD i 0).toNat : Int) := by
  unfold smallAt byteInts
  simp only [List.getD_eq_getElem?_getD, List.getElem?_map]
  rw [List.getElem?_append_right (by simp; omega)]
  have e : i - ((s.take i).map smallB).length = 0 := by simp; omega
  rw [e, List.getElem?_drop]
  simp [h]
theorem smallB_int (c : UInt8) : ((smallB c).toNat : Int) = if 65 ≤ c.toNat ∧ c.toNat ≤ 90 then (c.toNat : Int) + 32 else c.toNat := by
  unfold smallB
  split
  · rw [UInt8.toNat_add]
    have : (32 : UInt8).toNat = 32 := rfl
    rw [this]; omega
  · rfl
theorem smallAt_step {s : List UInt8} {i : Nat} (h : i < s.length) : smallAt s (i + 1) = if 65 ≤ (s.getD i 0).toNat ∧ (s.getD i 0).toNat ≤ 90 then (smallAt s i).set i (((s.getD i 0).toNat : Int) + 32) else smallAt s i := by
  have hb := smallB_int (s.getD i 0)
  have e1 : smallAt s (i + 1) = (smallAt s i).set i ((smallB (s.getD i 0)).toNat : Int) := by
    unfold smallAt byteInts
    rw [List.take_succ_eq_append_getElem h, getD_lt h]
    have hd : s.drop i = s[i] :: s.drop (i + 1) := List.drop_eq_getElem_cons h
    rw [hd]
    simp only [List.map_append, List.map_cons, List.map_nil]
    have hl : (((s.take i).map smallB).map fun b => (b.toNat : Int)).length = i := by simp; omega
    rw [List.set_append_right (h := by omega), hl, Nat.sub_self, List.set_cons_zero]
    simp
  rw [e1, hb]
  split
  · rfl
  · have hg := smallAt_get h
    rw [← hg]
    apply List.ext_getElem?
    intro j
    rw [List.getElem?_set]
    split
    · rename_i e; subst e
      have hl := smallAt_len s i
      simp [List.getD_eq_getElem?_getD, hl, h]
    · rfl
end Go.Fv.T

/- Small letters. -/
namespace Go.Fv.T
open Go Go.Proofs
set_option linter.unusedSimpArgs false
set_option linter.unusedVariables false
set_option linter.unnecessarySimpa false
set_option maxRecDepth 8000
set_option maxHeartbeats 1000000 in
theorem small_ok (s : List UInt8) : FnOk Tryd.prog 57 [.str s] (.str (smallL s)) [] := by
  have h0 := smallAt_zero s
  have hz := smallAt_end s
  refine FnOk.of_vc Tryd.func57 rfl (by decide) (by simp [Tryd.f57]) [.tmp 2] rfl fun w0 T0 _ => ?_
  simp only [Tryd.f57, argEnv]
  (repeat' first | with_reducible (first | refine Asm.intro fun _ => ?_ | refine Chk.g ?_ | refine AnyI.i64 fun _ _ => ?_ | refine LetW.g ?_ | refine LetW.h ?_ | refine Ite.t fun _ => ?_ | refine Ite.f fun _ => ?_ | refine Ite.decide (fun _ => ?_) fun _ => ?_ | refine Ite.bool (fun _ => ?_) fun _ => ?_ | refine And.intro ?_ ?_) | omega | simp (maxSteps := 1000000) only [go_sem, reduceCtorEq, Nat.reduceLT, Nat.reduceLeDiff, reduceIte, ↓reduceIte, Nat.reduceEqDiff, Nat.reduceAdd, Nat.reduceMul, Nat.reduceSub, Int.reduceLE, Int.reduceLT, Int.reduceNeg, Int.reduceToNat, byteInts_len])
  refine VcLoop.intro (fun i : Nat => ⟨30, [(10, .int .i64 i), (9, .int .i64 s.length), (8, .own 0), (3, .own 0)], [(0, .row 5 (.ints .u8 (smallAt s i)))], 1⟩) (fun i => i ≤ s.length) (fun i => s.length - i) 0 ?_ (Nat.zero_le _) fun i hi => ?_
  · refine Ent.auto0 rfl ?_ ?_ <;> simp only [go_sem, reduceCtorEq, reduceIte, Nat.reduceEqDiff, Nat.reduceLT, Nat.reduceLeDiff, Int.natCast_succ, h0]
  by_cases hlt : i < s.length
  · have hg := smallAt_get hlt
    have hst := smallAt_step hlt
    have hl := smallAt_len s i
    have hc2 := (s.getD i 0).toNat_lt
    generalize s.getD i 0 = c at *
    by_cases hc : 65 ≤ c.toNat ∧ c.toNat ≤ 90
    · rw [if_pos hc] at hst
      have e1 : (c.toNat : Int) + 97 - 65 = (c.toNat : Int) + 32 := by omega
      (repeat' first | with_reducible (first | refine Asm.intro fun _ => ?_ | refine Chk.g ?_ | refine AnyI.i64 fun _ _ => ?_ | refine LetW.g ?_ | refine LetW.h ?_ | refine Ite.t fun _ => ?_ | refine Ite.f fun _ => ?_ | refine Ite.decide (fun _ => ?_) fun _ => ?_ | refine Ite.bool (fun _ => ?_) fun _ => ?_ | refine And.intro ?_ ?_) | omega | simp (maxSteps := 1000000) only [go_sem, reduceCtorEq, Nat.reduceLT, Nat.reduceLeDiff, reduceIte, ↓reduceIte, Nat.reduceEqDiff, Nat.reduceAdd, Nat.reduceMul, Nat.reduceSub, Int.reduceLE, Int.reduceLT, Int.reduceNeg, Int.reduceToNat, Int.toNat_natCast, hg, hl, e1])
      refine ⟨i + 1, Ent.auto0 rfl ?_ ?_, by omega, by omega⟩ <;> simp only [go_sem, reduceCtorEq, reduceIte, Nat.reduceEqDiff, Nat.reduceLT, Nat.reduceLeDiff, Int.natCast_succ, hst]
    · rw [if_neg hc] at hst
      (repeat' first | with_reducible (first | refine Asm.intro fun _ => ?_ | refine Chk.g ?_ | refine AnyI.i64 fun _ _ => ?_ | refine LetW.g ?_ | refine LetW.h ?_ | refine Ite.t fun _ => ?_ | refine Ite.f fun _ => ?_ | refine Ite.decide (fun _ => ?_) fun _ => ?_ | refine Ite.bool (fun _ => ?_) fun _ => ?_ | refine And.intro ?_ ?_) | omega | simp (maxSteps := 1000000) only [go_sem, reduceCtorEq, Nat.reduceLT, Nat.reduceLeDiff, reduceIte, ↓reduceIte, Nat.reduceEqDiff, Nat.reduceAdd, Nat.reduceMul, Nat.reduceSub, Int.reduceLE, Int.reduceLT, Int.reduceNeg, Int.reduceToNat, Int.toNat_natCast, hg, hl])
      refine ⟨i + 1, Ent.auto0 rfl ?_ ?_, by omega, by omega⟩ <;> simp only [go_sem, reduceCtorEq, reduceIte, Nat.reduceEqDiff, Nat.reduceLT, Nat.reduceLeDiff, Int.natCast_succ, hst]
  · have e : i = s.length := by omega
    subst e
    (repeat' first | with_reducible (first | refine Asm.intro fun _ => ?_ | refine Chk.g ?_ | refine AnyI.i64 fun _ _ => ?_ | refine LetW.g ?_ | refine LetW.h ?_ | refine Ite.t fun _ => ?_ | refine Ite.f fun _ => ?_ | refine Ite.decide (fun _ => ?_) fun _ => ?_ | refine Ite.bool (fun _ => ?_) fun _ => ?_ | refine And.intro ?_ ?_) | omega | simp (maxSteps := 1000000) only [go_sem, reduceCtorEq, Nat.reduceLT, Nat.reduceLeDiff, reduceIte, ↓reduceIte, Nat.reduceEqDiff, Nat.reduceAdd, Nat.reduceMul, Nat.reduceSub, Int.reduceLE, Int.reduceLT, Int.reduceNeg, Int.reduceToNat, hz])
    refine Ret.auto 0 ?_ rfl ?_ <;> simp only [go_sem, reduceCtorEq, reduceIte, Nat.reduceEqDiff, Nat.reduceLT, Nat.reduceLeDiff, Int.natCast_succ, Post]
    all_goals exact hz

end Go.Fv.T
