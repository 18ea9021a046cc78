/-
  A part of the proof of the claim: walks over the program's functions and the plain laws that these need. No condition of its own.
-/
import Derived.Test.YtpnlkjeedfmhfaaDoorSFactsCardPart1
import Derived.Test.YtpnlkjeedfmhfaaDoorFvPart9
namespace Go.Fv.S
open Go Go.Proofs
set_option linter.unusedSimpArgs false
set_option linter.unusedVariables false
set_option maxRecDepth 8000
theorem and_bd (a : Int) (m : Nat) (hm : m < 2 ^ 63) : 0 ≤ bitsI .and .i64 a m ∧ bitsI .and .i64 a m ≤ m := by
  unfold bitsI
  dsimp only
  have h1 : (BitVec.ofInt 64 a &&& BitVec.ofInt 64 (m : Int)).toNat ≤ m := by
    rw [BitVec.toNat_and]
    refine Nat.le_trans Nat.and_le_right ?_
    rw [BitVec.ofInt_natCast, BitVec.toNat_ofNat]
    exact Nat.mod_le _ _
  rw [show IntKind.i64.bits = 64 from rfl]
  rw [wrap_of_in (InK_i64.2 ⟨by omega, by omega⟩)]
  omega
/-- The size that a page is fitted to. -/
def fitN (a : Int) (m : Nat) : Nat := (1 + bitsI .and .i64 a m).toNat
theorem fitN_bd (a : Int) (m : Nat) (hm : m < 2 ^ 63) : 1 ≤ fitN a m ∧ fitN a m ≤ m + 1 ∧ 1 + bitsI .and .i64 a m = ((fitN a m : Nat) : Int) := by
  have := and_bd a m hm
  unfold fitN; omega
def fitB (p : List Bool) (w x y : Nat) : Bool := decide (0 < p.length) && p.getD ((y * w + x) % p.length) false
set_option maxHeartbeats 2000000 in
theorem fit1_ok (W H : Int) (p : List Bool) (w x y : Nat) (hw : w ≤ 32) (hx : x < w) (hy : y < 32) :
    FnOk Tryd.prog 77 [.int .i64 x, .int .i64 y, .cell [.int .i64 W, .int .i64 H, .ro (.bools p)], .cell [.int .i64 w]] (.bool (fitB p w x y)) [] := by
  have b1 : y * w ≤ 32 * 32 := Nat.mul_le_mul (by omega) hw
  have hm := Nat.mod_lt (y * w + x) (y := p.length)
  refine FnOk.of_vc Tryd.func77 rfl (by decide) (by simp [Tryd.f77]) [.tmp 6] rfl fun w0 T0 _ => ?_
  simp only [Tryd.f77, argEnv]
  (repeat' first | with_reducible (first | refine Asm.intro fun _ => ?_ | refine Chk.g ?_ | refine AnyI.i64 fun _ _ => ?_ | refine LetW.g ?_ | refine LetW.h ?_ | refine Ite.t fun _ => ?_ | refine Ite.f fun _ => ?_ | refine Ite.decide (fun _ => ?_) fun _ => ?_ | refine Ite.bool (fun _ => ?_) fun _ => ?_ | refine And.intro ?_ ?_) | omega | simp (maxSteps := 1000000) only [go_sem, reduceCtorEq, Nat.reduceLT, Nat.reduceLeDiff, reduceIte, ↓reduceIte, Nat.reduceEqDiff, Nat.reduceAdd, Nat.reduceMul, Nat.reduceSub, Int.reduceLE, Int.reduceLT, Int.reduceNeg, Int.reduceToNat])
  refine VcDraw.lex [] [] (by kernel_rfl) (by kernel_rfl) ?_
  (repeat' first | with_reducible (first | refine Asm.intro fun _ => ?_ | refine Chk.g ?_ | refine AnyI.i64 fun _ _ => ?_ | refine LetW.g ?_ | refine LetW.h ?_ | refine Ite.t fun _ => ?_ | refine Ite.f fun _ => ?_ | refine Ite.decide (fun _ => ?_) fun _ => ?_ | refine Ite.bool (fun _ => ?_) fun _ => ?_ | refine And.intro ?_ ?_) | omega | simp (maxSteps := 1000000) only [go_sem, reduceCtorEq, Nat.reduceLT, Nat.reduceLeDiff, reduceIte, ↓reduceIte, Nat.reduceEqDiff, Nat.reduceAdd, Nat.reduceMul, Nat.reduceSub, Int.reduceLE, Int.reduceLT, Int.reduceNeg, Int.reduceToNat, up_mul, up_add, up_tmod, Int.toNat_natCast])
  refine Ret.auto 0 ?_ rfl ?_ <;> simp only [go_sem, reduceCtorEq, reduceIte, Nat.reduceEqDiff, Nat.reduceLT, Nat.reduceLeDiff, Int.natCast_succ, Post, fitB]
  simp
set_option maxHeartbeats 2000000 in
theorem fit_ok (W H : Int) (p : List Bool) :
    FnOk Tryd.prog 20 [.agg [.int .i64 W, .int .i64 H, .ro (.bools p)]] (.agg [.int .i64 (fitN W 31), .int .i64 (fitN H 31), .own 0]) [(0, .row 4 (.bools (rowsOf (fitN W 31) (fitB p (fitN W 31)) (fitN H 31 * fitN W 31))))] := by
  obtain ⟨w1, w2, w3⟩ := fitN_bd W 31 (by decide)
  obtain ⟨h1, h2, h3⟩ := fitN_bd H 31 (by decide)
  replace w3 : 1 + bitsI .and .i64 W 31 = ((fitN W 31 : Nat) : Int) := w3
  replace h3 : 1 + bitsI .and .i64 H 31 = ((fitN H 31 : Nat) : Int) := h3
  generalize fitN W 31 = w at *
  generalize fitN H 31 = h at *
  haveI c1 : CapsOk [.cell [.int .i64 W, .int .i64 H, .ro (.bools p)], .cell [.int .i64 w]] := ⟨rfl⟩
  have k1 := made_ok w h (by omega) (by omega) 77 [.cell [.int .i64 W, .int .i64 H, .ro (.bools p)], .cell [.int .i64 w]] (fitB p w)
    (fun x y hx hy => FnFr.of_ok (fit1_ok W H p w x y (by omega) hx (by omega)) rfl rfl)
  generalize rowsOf w (fitB p w) (h * w) = out at *
  refine FnOk.of_vc Tryd.func20 rfl (by decide) (by simp [Tryd.f20]) [.cell 2 27] rfl fun w0 T0 _ => ?_
  simp only [Tryd.f20, argEnv]
  (repeat' first | with_reducible (first | refine Asm.intro fun _ => ?_ | refine Chk.g ?_ | refine AnyI.i64 fun _ _ => ?_ | refine LetW.g ?_ | refine LetW.h ?_ | refine Ite.t fun _ => ?_ | refine Ite.f fun _ => ?_ | refine Ite.decide (fun _ => ?_) fun _ => ?_ | refine Ite.bool (fun _ => ?_) fun _ => ?_ | refine And.intro ?_ ?_) | omega | simp (maxSteps := 1000000) only [go_sem, reduceCtorEq, Nat.reduceLT, Nat.reduceLeDiff, reduceIte, ↓reduceIte, Nat.reduceEqDiff, Nat.reduceAdd, Nat.reduceMul, Nat.reduceSub, Int.reduceLE, Int.reduceLT, Int.reduceNeg, Int.reduceToNat])
  refine VcDraw.lex [8, 9] [(0, [1]), (1, [1]), (2, [1]), (3, [1]), (4, [1, 2]), (5, [1, 2]), (6, [1, 2]), (7, [1, 2])] (by kernel_rfl) (by kernel_rfl) ?_
  (repeat' first | with_reducible (first | refine Asm.intro fun _ => ?_ | refine Chk.g ?_ | refine AnyI.i64 fun _ _ => ?_ | refine LetW.g ?_ | refine LetW.h ?_ | refine Ite.t fun _ => ?_ | refine Ite.f fun _ => ?_ | refine Ite.decide (fun _ => ?_) fun _ => ?_ | refine Ite.bool (fun _ => ?_) fun _ => ?_ | refine And.intro ?_ ?_) | omega | simp (maxSteps := 1000000) only [go_sem, reduceCtorEq, Nat.reduceLT, Nat.reduceLeDiff, reduceIte, ↓reduceIte, Nat.reduceEqDiff, Nat.reduceAdd, Nat.reduceMul, Nat.reduceSub, Int.reduceLE, Int.reduceLT, Int.reduceNeg, Int.reduceToNat, w3, h3])
  refine VcCall.fr (FnFr.of_ok k1 rfl rfl) (by simp only [noIdR_ok, argOkL, argOk, allOk, argOkN, List.drop_zero, lk, reduceIte, reduceCtorEq, Nat.reduceEqDiff, Option.some.injEq, Item.row.injEq, Item.box.injEq, AV.ro.injEq, exists_eq_left, exists_and_left, exists_eq_left', exists_eq_right, and_assoc, and_true, true_and, List.cons.injEq, exists_eq', exists_eq]) 1 rfl (by simp [rowsB, Item.below, Fv.below, belowL]) ?_
  (repeat' first | with_reducible (first | refine Asm.intro fun _ => ?_ | refine Chk.g ?_ | refine AnyI.i64 fun _ _ => ?_ | refine LetW.g ?_ | refine LetW.h ?_ | refine Ite.t fun _ => ?_ | refine Ite.f fun _ => ?_ | refine Ite.decide (fun _ => ?_) fun _ => ?_ | refine Ite.bool (fun _ => ?_) fun _ => ?_ | refine And.intro ?_ ?_) | omega | simp (maxSteps := 1000000) only [go_sem, reduceCtorEq, Nat.reduceLT, Nat.reduceLeDiff, reduceIte, ↓reduceIte, Nat.reduceEqDiff, Nat.reduceAdd, Nat.reduceMul, Nat.reduceSub, Int.reduceLE, Int.reduceLT, Int.reduceNeg, Int.reduceToNat])
  refine Ret.auto 1 ?_ rfl ?_ <;> simp only [go_sem, reduceCtorEq, reduceIte, Nat.reduceEqDiff, Nat.reduceLT, Nat.reduceLeDiff, Int.natCast_succ, Post, List.drop_zero]
  all_goals simp (maxSteps := 1000000) only [go_sem, reduceCtorEq, Nat.reduceLT, Nat.reduceLeDiff, reduceIte, ↓reduceIte, Nat.reduceEqDiff, Nat.reduceAdd, Nat.reduceMul, Nat.reduceSub, Int.reduceLE, Int.reduceLT, Int.reduceNeg, Int.reduceToNat]
end Go.Fv.S

namespace Go.Fv.S
open Go Go.Proofs
set_option linter.unusedSimpArgs false
set_option linter.unusedVariables false
set_option maxRecDepth 8000

/-- A sheet, as data. -/
structure Sh where
  W : Int
  H : Int
  p : List Bool
  codes : List (List UInt8)
  text : List UInt8
def Sh.av (s : Sh) : List AV := [.int .i64 s.W, .int .i64 s.H, .ro (.bools s.p), .ro (.strs s.codes), .str s.text]
def Sh.zero : Sh := ⟨0, 0, [], [], []⟩
abbrev shs (l : List Sh) : RowV := .objs 5 (l.map Sh.av)
instance : FNoId Sh.av := ⟨fun _ => rfl⟩
theorem sh_elem (l : List Sh) {i : Nat} (h : i < l.length) : (l.map Sh.av).getD i [] = [.int .i64 (l.getD i Sh.zero).W, .int .i64 (l.getD i Sh.zero).H, .ro (.bools (l.getD i Sh.zero).p), .ro (.strs (l.getD i Sh.zero).codes), .str (l.getD i Sh.zero).text] := by
  simp [List.getD_eq_getElem?_getD, h, Sh.av]

def codeOk (c : List UInt8) : Bool := decide (c.length ≤ 80) && c.all fun b => decide (32 ≤ b.toNat ∧ b.toNat ≤ 126)
def shErr (s : Sh) : Int := firstErr [grayErr s.W s.H s.p.length, if 20 < s.codes.length then 4 else 0, if s.codes.all codeOk = true then 0 else 2, if 1048576 < s.text.length then 4 else 0]
def shsErr (l : List Sh) : Int := if 1000 < l.length then 4 else firstErr (l.map shErr)
theorem firstErr_app (a b : List Int) : firstErr (a ++ b) = if firstErr a = 0 then firstErr b else firstErr a := by
  induction a with
  | nil => simp [firstErr]
  | cons x a ih =>
    simp only [List.cons_append, firstErr]
    split
    · exact ih
    · rfl
def fitSh (s : Sh) : Sh := { s with W := fitN s.W 31, H := fitN s.H 31, p := rowsOf (fitN s.W 31) (fitB s.p (fitN s.W 31)) (fitN s.H 31 * fitN s.W 31) }
/-- The right ones of the first sheets, their pages fitted. -/
def keep (l : List Sh) : List Sh := ((l.take 20).map fitSh).filter fun s => decide (shErr s = 0)
end Go.Fv.S

/- Tokens of a text: what Split and its reference compute, in plain words. -/
namespace Go.Fv.S
open Go
set_option linter.unusedSimpArgs false
set_option linter.unusedVariables false
set_option linter.unnecessarySimpa false

abbrev Bytes := List UInt8
/-- A letter. -/
def isL (c : UInt8) : Bool := decide (97 ≤ c.toNat) && decide (c.toNat ≤ 122) || decide (65 ≤ c.toNat) && decide (c.toNat ≤ 90) || decide (128 ≤ c.toNat)
/-- What can be in a word. -/
def inW (c : UInt8) : Bool := isL c || decide (c = 39)
def qu (c : UInt8) : Bool := decide (c = 39)
/-- The quotes before and behind are left out. -/
def preQ (t : Bytes) : Bytes := t.takeWhile qu
def dropQ (t : Bytes) : Bytes := t.dropWhile qu
def dropR (t : Bytes) : Bytes := (t.reverse.dropWhile qu).reverse
def postQ (t : Bytes) : Bytes := (t.reverse.takeWhile qu).reverse
def midQ (t : Bytes) : Bytes := dropR (dropQ t)
def isWd (s : Bytes) : Bool := decide (s ≠ []) && decide (s.length ≤ 40) && isL (s.headD 0) && isL (s.getLastD 0) && s.all inW

abbrev Tok := Bytes × Bool
/-- What is between goes out, if it is something. -/
def flush (out : List Tok) (btw : Bytes) : List Tok := if btw = [] then out else out ++ [(btw, false)]

theorem takeWhile_len_le {α : Type} (p : α → Bool) (l : List α) : (l.takeWhile p).length + (l.dropWhile p).length = l.length := by
  conv => rhs; rw [← List.takeWhile_append_dropWhile (p := p) (l := l)]
  rw [List.length_append]
theorem drop_lt {c : UInt8} {s : Bytes} (h : inW c = true) : ((c :: s).dropWhile inW).length < (c :: s).length := by
  have := takeWhile_len_le inW (c :: s)
  have h2 : 0 < ((c :: s).takeWhile inW).length := by simp [List.takeWhile_cons, h]
  omega
/-- The tokens of what is left, behind those that are there. -/
def toks (s btw : Bytes) (out : List Tok) : List Tok :=
  match s with
  | [] => flush out btw
  | c :: s' => if h : inW c = true then
      if isWd (midQ ((c :: s').takeWhile inW)) = true then
        toks ((c :: s').dropWhile inW) (postQ (dropQ ((c :: s').takeWhile inW))) (flush out (btw ++ preQ ((c :: s').takeWhile inW)) ++ [(midQ ((c :: s').takeWhile inW), true)])
      else toks ((c :: s').dropWhile inW) (btw ++ (c :: s').takeWhile inW) out
    else toks s' (btw ++ [c]) out
termination_by s.length
decreasing_by
  · exact drop_lt h
  · exact drop_lt h
  · simp

theorem toks_nil (btw : Bytes) (out : List Tok) : toks [] btw out = flush out btw := by unfold toks; rfl
theorem toks_other {c : UInt8} {s : Bytes} (h : inW c = false) (btw : Bytes) (out : List Tok) : toks (c :: s) btw out = toks s (btw ++ [c]) out := by
  rw [toks]; simp [h]
theorem toks_word {c : UInt8} {s : Bytes} (h : inW c = true) (btw : Bytes) (out : List Tok) (hw : isWd (midQ ((c :: s).takeWhile inW)) = true) :
    toks (c :: s) btw out = toks ((c :: s).dropWhile inW) (postQ (dropQ ((c :: s).takeWhile inW))) (flush out (btw ++ preQ ((c :: s).takeWhile inW)) ++ [(midQ ((c :: s).takeWhile inW), true)]) := by
  rw [toks, dif_pos h, if_pos hw]
theorem toks_row {c : UInt8} {s : Bytes} (h : inW c = true) (btw : Bytes) (out : List Tok) (hw : ¬ isWd (midQ ((c :: s).takeWhile inW)) = true) :
    toks (c :: s) btw out = toks ((c :: s).dropWhile inW) (btw ++ (c :: s).takeWhile inW) out := by
  rw [toks, dif_pos h, if_neg hw]

theorem pre_drop (t : Bytes) : preQ t ++ dropQ t = t := List.takeWhile_append_dropWhile
theorem mid_post (t : Bytes) : dropR t ++ postQ t = t := by
  have h := List.takeWhile_append_dropWhile (p := qu) (l := t.reverse)
  have := congrArg List.reverse h
  rw [List.reverse_append, List.reverse_reverse] at this
  exact this
theorem three (t : Bytes) : preQ t ++ (midQ t ++ postQ (dropQ t)) = t := by
  unfold midQ; rw [mid_post, pre_drop]
end Go.Fv.S

/- A text is one word just where its tokens are that word alone; small letters. -/
namespace Go.Fv.S
open Go
set_option linter.unusedSimpArgs false
set_option linter.unusedVariables false
set_option linter.unnecessarySimpa false

/-- Each word among the tokens is a word. -/
def WordsOk (l : List Tok) : Prop := ∀ t, t ∈ l → t.2 = true → isWd t.1 = true
theorem WordsOk.flush {l : List Tok} (h : WordsOk l) (b : Bytes) : WordsOk (flush l b) := by
  unfold Go.Fv.S.flush
  split
  · exact h
  · intro t ht hw
    rcases List.mem_append.1 ht with h1 | h1
    · exact h t h1 hw
    · simp at h1; subst h1; cases hw
/-- A to Z made small. -/
def smallB (c : UInt8) : UInt8 := if 65 ≤ c.toNat ∧ c.toNat ≤ 90 then c + 32 else c
def smallL (s : Bytes) : Bytes := s.map smallB
end Go.Fv.S

namespace Go.Fv.S
open Go Go.Proofs
set_option linter.unusedSimpArgs false
set_option linter.unusedVariables false
set_option maxRecDepth 8000
theorem drop_bools {tab : List Bool} {n : Nat} (h : n < tab.length) : (tab.map AV.bool).drop n = .bool (tab.getD n false) :: (tab.map AV.bool).drop (n + 1) := by
  rw [List.drop_eq_getElem_cons (by simpa using h)]
  simp [List.getD, h]

set_option maxHeartbeats 1000000 in
theorem contains_ok (tab : List Bool) (b : Int) (hl : tab.length = 256) (h0 : 0 ≤ b) (h1 : b < 256) : FnOk Tryd.prog 167 [.cell (tab.map .bool), .int .u8 b] (.bool (tab.getD b.toNat false)) [] := by
  refine FnOk.of_vc Tryd.func167 rfl (by decide) (by simp [Tryd.f167]) [.tmp 4] rfl fun w0 T0 _ => ?_
  simp only [Tryd.f167, argEnv]
  have hd := drop_bools (tab := tab) (n := b.toNat) (by omega)
  simp (maxSteps := 1000000) only [go_sem, reduceCtorEq, Nat.reduceLT, Nat.reduceLeDiff, reduceIte, ↓reduceIte, Nat.reduceEqDiff, Nat.reduceAdd, Nat.reduceMul, Nat.reduceSub, Int.reduceLE, Int.reduceLT, Int.reduceNeg, Int.reduceToNat, Nat.mul_one, hd]
  (repeat' first | (with_reducible refine Asm.intro fun _ => ?_) | ((with_reducible refine Chk.intro ?_ ?_); (· first | omega | (with_reducible refine Chk.intro ?_ ?_ <;> omega) | (simp; done) | (simp; omega))) | ((with_reducible refine LetW.i64 ?_ ?_ ?_); (· omega); (· omega)) | ((with_reducible refine Ite.decide (fun _ => ?_) (fun _ => ?_)) <;> first | (exfalso; omega) | simp (maxSteps := 1000000) only [go_sem, reduceCtorEq, Nat.reduceLT, Nat.reduceLeDiff, reduceIte, ↓reduceIte, Nat.reduceEqDiff, Nat.reduceAdd, Nat.reduceMul, Nat.reduceSub, Int.reduceLE, Int.reduceLT, Int.reduceNeg, Int.reduceToNat]) | ((with_reducible refine Ite.bool (fun _ => ?_) (fun _ => ?_)) <;> simp (maxSteps := 1000000) only [go_sem, reduceCtorEq, Nat.reduceLT, Nat.reduceLeDiff, reduceIte, ↓reduceIte, Nat.reduceEqDiff, Nat.reduceAdd, Nat.reduceMul, Nat.reduceSub, Int.reduceLE, Int.reduceLT, Int.reduceNeg, Int.reduceToNat]) | (with_reducible refine And.intro ?_ ?_))
  refine Ret.auto 0 ?_ rfl ?_ <;> simp only [go_sem, reduceCtorEq, reduceIte, Nat.reduceEqDiff, Nat.reduceLT, Nat.reduceLeDiff, Int.natCast_succ, Post]

set_option maxHeartbeats 1000000 in
theorem trimRight_a (tab : List Bool) (hl : tab.length = 256) (ha : tab.getD 97 false = true) : FnOk Tryd.prog 171 [.str [97], .cell (tab.map .bool)] (.str []) [] := by
  refine FnOk.of_vc Tryd.func171 rfl (by decide) (by simp [Tryd.f171]) [.tmp 4] rfl fun w0 T0 _ => ?_
  simp only [Tryd.f171, argEnv]
  simp (maxSteps := 1000000) only [go_sem, reduceCtorEq, Nat.reduceLT, Nat.reduceLeDiff, reduceIte, ↓reduceIte, Nat.reduceEqDiff, Nat.reduceAdd, Nat.reduceMul, Nat.reduceSub, Int.reduceLE, Int.reduceLT, Int.reduceNeg, Int.reduceToNat]
  refine VcLoop.intro (fun k : Bool => ⟨22, [(0, .str (cond k [97] [])), (1, .cell (tab.map .bool))], [], 0⟩) (fun _ => True) (fun k => cond k 1 0) true ?_ trivial fun k _ => ?_
  · refine Ent.auto0 rfl ?_ ?_ <;> simp only [go_sem, reduceCtorEq, reduceIte, Nat.reduceEqDiff, Nat.reduceLT, Nat.reduceLeDiff, Int.natCast_succ, cond_true]
  cases k with
  | true =>
    simp (maxSteps := 1000000) only [go_sem, reduceCtorEq, Nat.reduceLT, Nat.reduceLeDiff, reduceIte, ↓reduceIte, Nat.reduceEqDiff, Nat.reduceAdd, Nat.reduceMul, Nat.reduceSub, Int.reduceLE, Int.reduceLT, Int.reduceNeg, Int.reduceToNat]
    (repeat' first | (with_reducible refine Asm.intro fun _ => ?_) | ((with_reducible refine Chk.intro ?_ ?_); (· first | omega | (with_reducible refine Chk.intro ?_ ?_ <;> omega) | (simp; done) | (simp; omega))) | ((with_reducible refine LetW.i64 ?_ ?_ ?_); (· omega); (· omega)) | ((with_reducible refine Ite.decide (fun _ => ?_) (fun _ => ?_)) <;> first | (exfalso; omega) | simp (maxSteps := 1000000) only [go_sem, reduceCtorEq, Nat.reduceLT, Nat.reduceLeDiff, reduceIte, ↓reduceIte, Nat.reduceEqDiff, Nat.reduceAdd, Nat.reduceMul, Nat.reduceSub, Int.reduceLE, Int.reduceLT, Int.reduceNeg, Int.reduceToNat]) | ((with_reducible refine Ite.bool (fun _ => ?_) (fun _ => ?_)) <;> simp (maxSteps := 1000000) only [go_sem, reduceCtorEq, Nat.reduceLT, Nat.reduceLeDiff, reduceIte, ↓reduceIte, Nat.reduceEqDiff, Nat.reduceAdd, Nat.reduceMul, Nat.reduceSub, Int.reduceLE, Int.reduceLT, Int.reduceNeg, Int.reduceToNat]) | (with_reducible refine And.intro ?_ ?_))
    have e : ((([97] : List UInt8).getD (((1 : Nat) : Int) - 1).toNat 0).toNat : Int) = 97 := rfl
    rw [e]
    refine VcCall.fr (args' := [.cell (tab.map .bool), .int .u8 97]) (FnFr.of_ok (contains_ok tab 97 hl (by omega) (by omega)) rfl rfl) (by simp [argOkL, allOk, argOkN]) 0 rfl (by simp [rowsB]) ?_
    simp (maxSteps := 1000000) only [go_sem, reduceCtorEq, Nat.reduceLT, Nat.reduceLeDiff, reduceIte, ↓reduceIte, Nat.reduceEqDiff, Nat.reduceAdd, Nat.reduceMul, Nat.reduceSub, Int.reduceLE, Int.reduceLT, Int.reduceNeg, Int.reduceToNat, ha]
    (repeat' first | (with_reducible refine Asm.intro fun _ => ?_) | ((with_reducible refine Chk.intro ?_ ?_); (· first | omega | (with_reducible refine Chk.intro ?_ ?_ <;> omega) | (simp; done) | (simp; omega))) | ((with_reducible refine LetW.i64 ?_ ?_ ?_); (· omega); (· omega)) | ((with_reducible refine Ite.decide (fun _ => ?_) (fun _ => ?_)) <;> first | (exfalso; omega) | simp (maxSteps := 1000000) only [go_sem, reduceCtorEq, Nat.reduceLT, Nat.reduceLeDiff, reduceIte, ↓reduceIte, Nat.reduceEqDiff, Nat.reduceAdd, Nat.reduceMul, Nat.reduceSub, Int.reduceLE, Int.reduceLT, Int.reduceNeg, Int.reduceToNat]) | ((with_reducible refine Ite.bool (fun _ => ?_) (fun _ => ?_)) <;> simp (maxSteps := 1000000) only [go_sem, reduceCtorEq, Nat.reduceLT, Nat.reduceLeDiff, reduceIte, ↓reduceIte, Nat.reduceEqDiff, Nat.reduceAdd, Nat.reduceMul, Nat.reduceSub, Int.reduceLE, Int.reduceLT, Int.reduceNeg, Int.reduceToNat]) | (with_reducible refine And.intro ?_ ?_))
    refine ⟨false, Ent.auto0 rfl ?_ ?_, Nat.zero_lt_one⟩ <;> simp only [go_sem, reduceCtorEq, reduceIte, Nat.reduceEqDiff, Nat.reduceLT, Nat.reduceLeDiff, Int.natCast_succ, cond_false]
    simp
  | false =>
    simp (maxSteps := 1000000) only [go_sem, reduceCtorEq, Nat.reduceLT, Nat.reduceLeDiff, reduceIte, ↓reduceIte, Nat.reduceEqDiff, Nat.reduceAdd, Nat.reduceMul, Nat.reduceSub, Int.reduceLE, Int.reduceLT, Int.reduceNeg, Int.reduceToNat]
    (repeat' first | (with_reducible refine Asm.intro fun _ => ?_) | ((with_reducible refine Chk.intro ?_ ?_); (· first | omega | (with_reducible refine Chk.intro ?_ ?_ <;> omega) | (simp; done) | (simp; omega))) | ((with_reducible refine LetW.i64 ?_ ?_ ?_); (· omega); (· omega)) | ((with_reducible refine Ite.decide (fun _ => ?_) (fun _ => ?_)) <;> first | (exfalso; omega) | simp (maxSteps := 1000000) only [go_sem, reduceCtorEq, Nat.reduceLT, Nat.reduceLeDiff, reduceIte, ↓reduceIte, Nat.reduceEqDiff, Nat.reduceAdd, Nat.reduceMul, Nat.reduceSub, Int.reduceLE, Int.reduceLT, Int.reduceNeg, Int.reduceToNat]) | ((with_reducible refine Ite.bool (fun _ => ?_) (fun _ => ?_)) <;> simp (maxSteps := 1000000) only [go_sem, reduceCtorEq, Nat.reduceLT, Nat.reduceLeDiff, reduceIte, ↓reduceIte, Nat.reduceEqDiff, Nat.reduceAdd, Nat.reduceMul, Nat.reduceSub, Int.reduceLE, Int.reduceLT, Int.reduceNeg, Int.reduceToNat]) | (with_reducible refine And.intro ?_ ?_))
    refine Ret.auto 0 ?_ rfl ?_ <;> simp only [go_sem, reduceCtorEq, reduceIte, Nat.reduceEqDiff, Nat.reduceLT, Nat.reduceLeDiff, Int.natCast_succ, Post]

set_option maxHeartbeats 1000000 in
theorem trimLeft_nil (tab : List Bool) : FnOk Tryd.prog 174 [.str [], .cell (tab.map .bool)] (.str []) [] := by
  refine FnOk.of_vc Tryd.func174 rfl (by decide) (by simp [Tryd.f174]) [.tmp 4] rfl fun w0 T0 _ => ?_
  simp only [Tryd.f174, argEnv]
  simp (maxSteps := 1000000) only [go_sem, reduceCtorEq, Nat.reduceLT, Nat.reduceLeDiff, reduceIte, ↓reduceIte, Nat.reduceEqDiff, Nat.reduceAdd, Nat.reduceMul, Nat.reduceSub, Int.reduceLE, Int.reduceLT, Int.reduceNeg, Int.reduceToNat]
  refine VcLoop.intro (fun k : Unit => ⟨16, [(0, .str [])], [], 0⟩) (fun _ => True) (fun k => 0) () ?_ trivial fun k _ => ?_
  · refine Ent.auto0 rfl ?_ ?_ <;> simp only [go_sem, reduceCtorEq, reduceIte, Nat.reduceEqDiff, Nat.reduceLT, Nat.reduceLeDiff, Int.natCast_succ]
  simp (maxSteps := 1000000) only [go_sem, reduceCtorEq, Nat.reduceLT, Nat.reduceLeDiff, reduceIte, ↓reduceIte, Nat.reduceEqDiff, Nat.reduceAdd, Nat.reduceMul, Nat.reduceSub, Int.reduceLE, Int.reduceLT, Int.reduceNeg, Int.reduceToNat]
  (repeat' first | (with_reducible refine Asm.intro fun _ => ?_) | ((with_reducible refine Chk.intro ?_ ?_); (· first | omega | (with_reducible refine Chk.intro ?_ ?_ <;> omega) | (simp; done) | (simp; omega))) | ((with_reducible refine LetW.i64 ?_ ?_ ?_); (· omega); (· omega)) | ((with_reducible refine Ite.decide (fun _ => ?_) (fun _ => ?_)) <;> first | (exfalso; omega) | simp (maxSteps := 1000000) only [go_sem, reduceCtorEq, Nat.reduceLT, Nat.reduceLeDiff, reduceIte, ↓reduceIte, Nat.reduceEqDiff, Nat.reduceAdd, Nat.reduceMul, Nat.reduceSub, Int.reduceLE, Int.reduceLT, Int.reduceNeg, Int.reduceToNat]) | ((with_reducible refine Ite.bool (fun _ => ?_) (fun _ => ?_)) <;> simp (maxSteps := 1000000) only [go_sem, reduceCtorEq, Nat.reduceLT, Nat.reduceLeDiff, reduceIte, ↓reduceIte, Nat.reduceEqDiff, Nat.reduceAdd, Nat.reduceMul, Nat.reduceSub, Int.reduceLE, Int.reduceLT, Int.reduceNeg, Int.reduceToNat]) | (with_reducible refine And.intro ?_ ?_))
  refine Ret.auto 0 ?_ rfl ?_ <;> simp only [go_sem, reduceCtorEq, reduceIte, Nat.reduceEqDiff, Nat.reduceLT, Nat.reduceLeDiff, Int.natCast_succ, Post]

theorem z193 : zeroOf Tryd.prog 193 = some (.agg (Array.replicate 256 (.bool false))) := by kernel_rfl
theorem c193 : Tryd.prog.cellsOf 193 = 256 := by kernel_rfl

attribute [go_sem] z193 c193
def asciiAt (s : List UInt8) : Nat → List Bool
  | 0 => List.replicate 256 false
  | i + 1 => (asciiAt s i).set (s.getD i 0).toNat true
theorem asciiAt_len (s : List UInt8) : ∀ i, (asciiAt s i).length = 256
  | 0 => by simp [asciiAt]
  | i + 1 => by simp [asciiAt, asciiAt_len s i]

set_option maxHeartbeats 1000000 in
theorem makeAscii_ok (s : List UInt8) (hs : ∀ i, i < s.length → (s.getD i 0).toNat < 128) : FnOk Tryd.prog 166 [.str s] (.tup [.agg ((asciiAt s s.length).map .bool), .bool true]) [] := by
  refine FnOk.of_vc Tryd.func166 rfl (by decide) (by simp [Tryd.f166]) [.cell 2 193, .tmp 3] rfl fun w0 T0 _ => ?_
  simp only [Tryd.f166, argEnv]
  simp (maxSteps := 1000000) only [go_sem, reduceCtorEq, Nat.reduceLT, Nat.reduceLeDiff, reduceIte, ↓reduceIte, Nat.reduceEqDiff, Nat.reduceAdd, Nat.reduceMul, Nat.reduceSub, Int.reduceLE, Int.reduceLT, Int.reduceNeg, Int.reduceToNat]
  refine VcLoop.intro (fun i : Nat => ⟨21, [(0, .str s), (2, .ptr 0 0), (4, .int .i64 i)], [(0, .box 193 ((asciiAt s i).map .bool))], 1⟩) (fun i => i ≤ s.length) (fun i => s.length - i) 0 ?_ (Nat.zero_le _) fun i hi => ?_
  · refine Ent.auto0 rfl ?_ ?_ <;> simp only [go_sem, reduceCtorEq, reduceIte, Nat.reduceEqDiff, Nat.reduceLT, Nat.reduceLeDiff, Int.natCast_succ, asciiAt]
  have hlen := asciiAt_len s i
  simp (maxSteps := 1000000) only [go_sem, reduceCtorEq, Nat.reduceLT, Nat.reduceLeDiff, reduceIte, ↓reduceIte, Nat.reduceEqDiff, Nat.reduceAdd, Nat.reduceMul, Nat.reduceSub, Int.reduceLE, Int.reduceLT, Int.reduceNeg, Int.reduceToNat]
  (repeat' first | (with_reducible refine Asm.intro fun _ => ?_) | ((with_reducible refine Chk.intro ?_ ?_); (· first | omega | (with_reducible refine Chk.intro ?_ ?_ <;> omega) | (simp; done) | (simp; omega))) | ((with_reducible refine LetW.i64 ?_ ?_ ?_); (· omega); (· omega)) | ((with_reducible refine Ite.decide (fun _ => ?_) (fun _ => ?_)) <;> first | (exfalso; omega) | simp (maxSteps := 1000000) only [go_sem, reduceCtorEq, Nat.reduceLT, Nat.reduceLeDiff, reduceIte, ↓reduceIte, Nat.reduceEqDiff, Nat.reduceAdd, Nat.reduceMul, Nat.reduceSub, Int.reduceLE, Int.reduceLT, Int.reduceNeg, Int.reduceToNat]) | ((with_reducible refine Ite.bool (fun _ => ?_) (fun _ => ?_)) <;> simp (maxSteps := 1000000) only [go_sem, reduceCtorEq, Nat.reduceLT, Nat.reduceLeDiff, reduceIte, ↓reduceIte, Nat.reduceEqDiff, Nat.reduceAdd, Nat.reduceMul, Nat.reduceSub, Int.reduceLE, Int.reduceLT, Int.reduceNeg, Int.reduceToNat]) | (with_reducible refine And.intro ?_ ?_))
  · have := hs i (by omega)
    omega
  · refine ⟨i + 1, Ent.auto0 rfl ?_ ?_, by omega, by omega⟩
    · simp only [go_sem, reduceCtorEq, reduceIte, Nat.reduceEqDiff, Nat.reduceLT, Nat.reduceLeDiff, Int.natCast_succ]
    · simp only [go_sem, reduceCtorEq, reduceIte, Nat.reduceEqDiff, Nat.reduceLT, Nat.reduceLeDiff, Int.natCast_succ, asciiAt]
  · have e : i = s.length := by omega
    subst e
    have e2 : ((asciiAt s s.length).map AV.bool).take 256 = (asciiAt s s.length).map AV.bool := List.take_of_length_le (by simp [hlen])
    have e3 : spl ((asciiAt s s.length).map AV.bool) 0 ((asciiAt s s.length).map AV.bool) = (asciiAt s s.length).map AV.bool := spl_all rfl
    refine Ret.auto 0 ?_ ?_ ?_ <;> simp only [go_sem, reduceCtorEq, reduceIte, Nat.reduceEqDiff, Nat.reduceLT, Nat.reduceLeDiff, Int.natCast_succ, Post, e2, e3, List.drop_zero]
    simp (maxSteps := 1000000) only [go_sem, reduceCtorEq, Nat.reduceLT, Nat.reduceLeDiff, reduceIte, ↓reduceIte, Nat.reduceEqDiff, Nat.reduceAdd, Nat.reduceMul, Nat.reduceSub, Int.reduceLE, Int.reduceLT, Int.reduceNeg, Int.reduceToNat, e2, hlen, List.length_map]

def cutset : List UInt8 := [97, 98, 99, 100, 101, 102, 103, 104, 105, 106, 107, 108, 109, 110, 111, 112, 113, 114, 115, 116, 117, 118, 119, 120, 121, 122, 48, 49, 50, 51, 52, 53, 54, 55, 56, 57, 45]
theorem cut_small : ∀ i, i < cutset.length → (cutset.getD i 0).toNat < 128 := by decide
theorem cut_a : (asciiAt cutset cutset.length).getD 97 false = true := by decide

set_option maxHeartbeats 1000000 in
theorem trim_a : FnOk Tryd.prog 125 [.str [97], .str cutset] (.str []) [] := by
  refine FnOk.of_vc Tryd.func125 rfl (by decide) (by simp [Tryd.f125]) [.tmp 4] rfl fun w0 T0 _ => ?_
  simp only [Tryd.f125, argEnv]
  have hc : ¬ cutset = [] := by decide
  have hl : cutset.length = 37 := rfl
  simp (maxSteps := 1000000) only [go_sem, reduceCtorEq, Nat.reduceLT, Nat.reduceLeDiff, reduceIte, ↓reduceIte, Nat.reduceEqDiff, Nat.reduceAdd, Nat.reduceMul, Nat.reduceSub, Int.reduceLE, Int.reduceLT, Int.reduceNeg, Int.reduceToNat, hc, hl]
  (repeat' first | (with_reducible refine Asm.intro fun _ => ?_) | ((with_reducible refine Chk.intro ?_ ?_); (· first | omega | (with_reducible refine Chk.intro ?_ ?_ <;> omega) | (simp; done) | (simp; omega))) | ((with_reducible refine LetW.i64 ?_ ?_ ?_); (· omega); (· omega)) | ((with_reducible refine Ite.decide (fun _ => ?_) (fun _ => ?_)) <;> first | (exfalso; omega) | simp (maxSteps := 1000000) only [go_sem, reduceCtorEq, Nat.reduceLT, Nat.reduceLeDiff, reduceIte, ↓reduceIte, Nat.reduceEqDiff, Nat.reduceAdd, Nat.reduceMul, Nat.reduceSub, Int.reduceLE, Int.reduceLT, Int.reduceNeg, Int.reduceToNat]) | ((with_reducible refine Ite.bool (fun _ => ?_) (fun _ => ?_)) <;> simp (maxSteps := 1000000) only [go_sem, reduceCtorEq, Nat.reduceLT, Nat.reduceLeDiff, reduceIte, ↓reduceIte, Nat.reduceEqDiff, Nat.reduceAdd, Nat.reduceMul, Nat.reduceSub, Int.reduceLE, Int.reduceLT, Int.reduceNeg, Int.reduceToNat]) | (with_reducible refine And.intro ?_ ?_))
  have hlen := asciiAt_len cutset cutset.length
  refine VcCall.fr (args' := [.str cutset]) (FnFr.of_ok (makeAscii_ok cutset cut_small) (by simp [noRo, noRoL, noRoL_bools]) rfl) (by simp [argOkL, allOk, argOkN]) 0 (by simp [Fv.below, belowL, belowL_bools]) (by simp [rowsB]) ?_
  have ha := cut_a
  generalize asciiAt cutset cutset.length = tab at hlen ha ⊢
  simp (maxSteps := 1000000) only [go_sem, reduceCtorEq, Nat.reduceLT, Nat.reduceLeDiff, reduceIte, ↓reduceIte, Nat.reduceEqDiff, Nat.reduceAdd, Nat.reduceMul, Nat.reduceSub, Int.reduceLE, Int.reduceLT, Int.reduceNeg, Int.reduceToNat]
  have e1 : spl (List.replicate 256 (AV.bool false)) 0 (tab.map .bool) = tab.map .bool := spl_all (by simp [hlen])
  refine Chk.intro (by simp [hlen]) ?_
  rw [e1]
  refine Chk.intro (by omega) ?_
  refine VcCall.fr (args' := [.str [97], .cell (tab.map .bool)]) (FnFr.of_ok (trimRight_a tab hlen ha) rfl rfl) ?_ 0 rfl (by simp [rowsB]) ?_
  · exact ⟨_, _, rfl, ⟨_, _, ⟨_, _, _, rfl, allOk_bools _ 4 _, rfl⟩, rfl, rfl⟩, rfl⟩
  simp (maxSteps := 1000000) only [go_sem, reduceCtorEq, Nat.reduceLT, Nat.reduceLeDiff, reduceIte, ↓reduceIte, Nat.reduceEqDiff, Nat.reduceAdd, Nat.reduceMul, Nat.reduceSub, Int.reduceLE, Int.reduceLT, Int.reduceNeg, Int.reduceToNat]
  refine VcCall.fr (args' := [.str [], .cell (tab.map .bool)]) (FnFr.of_ok (trimLeft_nil tab) rfl rfl) ?_ 0 rfl (by simp [rowsB]) ?_
  · exact ⟨_, _, rfl, ⟨_, _, ⟨_, _, _, rfl, allOk_bools _ 4 _, rfl⟩, rfl, rfl⟩, rfl⟩
  simp (maxSteps := 1000000) only [go_sem, reduceCtorEq, Nat.reduceLT, Nat.reduceLeDiff, reduceIte, ↓reduceIte, Nat.reduceEqDiff, Nat.reduceAdd, Nat.reduceMul, Nat.reduceSub, Int.reduceLE, Int.reduceLT, Int.reduceNeg, Int.reduceToNat]
  refine Ret.auto 0 ?_ rfl ?_ <;> simp only [go_sem, reduceCtorEq, reduceIte, Nat.reduceEqDiff, Nat.reduceLT, Nat.reduceLeDiff, Int.natCast_succ, Post]

set_option maxHeartbeats 1000000 in
theorem isName_a : FnOk Tryd.prog 67 [.str [97]] (.bool true) [] := by
  refine FnOk.of_vc Tryd.func67 rfl (by decide) (by simp [Tryd.f67]) [.tmp 2] rfl fun w0 T0 _ => ?_
  simp only [Tryd.f67, argEnv]
  simp (maxSteps := 1000000) only [go_sem, reduceCtorEq, Nat.reduceLT, Nat.reduceLeDiff, reduceIte, ↓reduceIte, Nat.reduceEqDiff, Nat.reduceAdd, Nat.reduceMul, Nat.reduceSub, Int.reduceLE, Int.reduceLT, Int.reduceNeg, Int.reduceToNat]
  (repeat' first | (with_reducible refine Asm.intro fun _ => ?_) | ((with_reducible refine Chk.intro ?_ ?_); (· first | omega | (with_reducible refine Chk.intro ?_ ?_ <;> omega) | (simp; done) | (simp; omega))) | ((with_reducible refine LetW.i64 ?_ ?_ ?_); (· omega); (· omega)) | ((with_reducible refine Ite.decide (fun _ => ?_) (fun _ => ?_)) <;> first | (exfalso; omega) | simp (maxSteps := 1000000) only [go_sem, reduceCtorEq, Nat.reduceLT, Nat.reduceLeDiff, reduceIte, ↓reduceIte, Nat.reduceEqDiff, Nat.reduceAdd, Nat.reduceMul, Nat.reduceSub, Int.reduceLE, Int.reduceLT, Int.reduceNeg, Int.reduceToNat]) | ((with_reducible refine Ite.bool (fun _ => ?_) (fun _ => ?_)) <;> simp (maxSteps := 1000000) only [go_sem, reduceCtorEq, Nat.reduceLT, Nat.reduceLeDiff, reduceIte, ↓reduceIte, Nat.reduceEqDiff, Nat.reduceAdd, Nat.reduceMul, Nat.reduceSub, Int.reduceLE, Int.reduceLT, Int.reduceNeg, Int.reduceToNat]) | (with_reducible refine And.intro ?_ ?_))
  · refine VcCall.fr (args' := [.str [97], .str cutset]) (FnFr.of_ok trim_a rfl rfl) (by simp [argOkL, allOk, argOkN, cutset]) 0 rfl (by simp [rowsB]) ?_
    simp (maxSteps := 1000000) only [go_sem, reduceCtorEq, Nat.reduceLT, Nat.reduceLeDiff, reduceIte, ↓reduceIte, Nat.reduceEqDiff, Nat.reduceAdd, Nat.reduceMul, Nat.reduceSub, Int.reduceLE, Int.reduceLT, Int.reduceNeg, Int.reduceToNat]
    (repeat' first | (with_reducible refine Asm.intro fun _ => ?_) | ((with_reducible refine Chk.intro ?_ ?_); (· first | omega | (with_reducible refine Chk.intro ?_ ?_ <;> omega) | (simp; done) | (simp; omega))) | ((with_reducible refine LetW.i64 ?_ ?_ ?_); (· omega); (· omega)) | ((with_reducible refine Ite.decide (fun _ => ?_) (fun _ => ?_)) <;> first | (exfalso; omega) | simp (maxSteps := 1000000) only [go_sem, reduceCtorEq, Nat.reduceLT, Nat.reduceLeDiff, reduceIte, ↓reduceIte, Nat.reduceEqDiff, Nat.reduceAdd, Nat.reduceMul, Nat.reduceSub, Int.reduceLE, Int.reduceLT, Int.reduceNeg, Int.reduceToNat]) | ((with_reducible refine Ite.bool (fun _ => ?_) (fun _ => ?_)) <;> simp (maxSteps := 1000000) only [go_sem, reduceCtorEq, Nat.reduceLT, Nat.reduceLeDiff, reduceIte, ↓reduceIte, Nat.reduceEqDiff, Nat.reduceAdd, Nat.reduceMul, Nat.reduceSub, Int.reduceLE, Int.reduceLT, Int.reduceNeg, Int.reduceToNat]) | (with_reducible refine And.intro ?_ ?_))
    refine Ret.auto 0 ?_ rfl ?_ <;> simp only [go_sem, reduceCtorEq, reduceIte, Nat.reduceEqDiff, Nat.reduceLT, Nat.reduceLeDiff, Int.natCast_succ, Post]
  · rename_i h
    exact (h (by decide)).elim

theorem landed_ok : FnOk Tryd.prog 11 [] (.bool true) [] := by
  refine FnOk.of_vc Tryd.func11 rfl (by decide) (by simp [Tryd.f11]) [.tmp 0] rfl fun w0 T0 _ => ?_
  simp only [Tryd.f11, argEnv]
  simp (maxSteps := 1000000) only [go_sem, reduceCtorEq, Nat.reduceLT, Nat.reduceLeDiff, reduceIte, ↓reduceIte, Nat.reduceEqDiff, Nat.reduceAdd, Nat.reduceMul, Nat.reduceSub, Int.reduceLE, Int.reduceLT, Int.reduceNeg, Int.reduceToNat]
  refine VcCall.fr (args' := [.str [97]]) (FnFr.of_ok isName_a rfl rfl) (by simp [argOkL, allOk, argOkN]) 0 rfl (by simp [rowsB]) ?_
  simp (maxSteps := 1000000) only [go_sem, reduceCtorEq, Nat.reduceLT, Nat.reduceLeDiff, reduceIte, ↓reduceIte, Nat.reduceEqDiff, Nat.reduceAdd, Nat.reduceMul, Nat.reduceSub, Int.reduceLE, Int.reduceLT, Int.reduceNeg, Int.reduceToNat]
  refine Ret.auto 0 ?_ rfl ?_ <;> simp only [go_sem, reduceCtorEq, reduceIte, Nat.reduceEqDiff, Nat.reduceLT, Nat.reduceLeDiff, Int.natCast_succ, Post]

end Go.Fv.S

/- strings.Trim at any set of small letters; IsName. -/
namespace Go.Fv.S
open Go Go.Proofs
set_option linter.unusedSimpArgs false
set_option linter.unusedVariables false
set_option linter.unnecessarySimpa false
set_option maxRecDepth 8000

def endOff (p : UInt8 → Bool) (s : List UInt8) : List UInt8 := (s.reverse.dropWhile p).reverse
def inCut (cut : List UInt8) (c : UInt8) : Bool := decide (c ∈ cut)
theorem asciiAt_get (s : List UInt8) (c : UInt8) : ∀ i, i ≤ s.length → (asciiAt s i).getD c.toNat false = decide (c ∈ s.take i)
  | 0, _ => by
    have h : c.toNat < 256 := c.toNat_lt
    rw [List.take_zero]
    show (List.replicate 256 false).getD c.toNat false = _
    rw [List.getD_eq_getElem?_getD, List.getElem?_replicate, if_pos h]
    simp
  | i + 1, h => by
    have ih := asciiAt_get s c i (by omega)
    have hlen := asciiAt_len s i
    have hlt : i < s.length := by omega
    have hc := c.toNat_lt
    have htk := List.take_succ_eq_append_getElem hlt
    rw [htk]
    simp only [asciiAt, List.getD_eq_getElem?_getD] at ih ⊢
    rw [List.getElem?_set]
    have e : s[i]?.getD 0 = s[i] := by simp [hlt]
    rw [e]
    by_cases hq : s[i].toNat = c.toNat
    · have hq2 : s[i] = c := UInt8.toNat_inj.1 hq
      rw [if_pos hq, if_pos (by rw [hlen]; omega)]
      simp [hq2]
    · rw [if_neg hq, ih]
      have hq2 : ¬ c = s[i] := fun h => hq (by rw [h])
      rw [Bool.eq_iff_iff, decide_eq_true_eq, decide_eq_true_eq, List.mem_append, List.mem_singleton]
      exact ⟨.inl, fun h => h.elim id fun h => absurd h hq2⟩
theorem last_of2 {s : List UInt8} (h0 : 0 < s.length) : s = s.take (s.length - 1) ++ [s.getD (s.length - 1) 0] := by
  rw [getD_lt (by omega), List.take_append_getElem (by omega), List.take_of_length_le (by omega)]
theorem endOff_snoc (p : UInt8 → Bool) (t : List UInt8) (c : UInt8) : endOff p (t ++ [c]) = if p c = true then endOff p t else t ++ [c] := by
  unfold endOff
  rw [List.reverse_append, List.reverse_singleton, List.singleton_append, List.dropWhile_cons]
  split <;> simp_all
theorem endOff_y {p : UInt8 → Bool} {s : List UInt8} (h0 : 0 < s.length) (h : p (s.getD (s.length - 1) 0) = true) : endOff p (s.take (s.length - 1)) = endOff p s := by
  conv => rhs; rw [last_of2 h0, endOff_snoc, if_pos h]
theorem endOff_n {p : UInt8 → Bool} {s : List UInt8} (h : 0 < s.length → p (s.getD (s.length - 1) 0) = false) : endOff p s = s := by
  by_cases h0 : 0 < s.length
  · conv => lhs; rw [last_of2 h0, endOff_snoc, if_neg (by rw [h h0]; decide)]
    exact (last_of2 h0).symm
  · have : s = [] := List.eq_nil_of_length_eq_zero (by omega)
    subst this; rfl
theorem dropW_y {p : UInt8 → Bool} {s : List UInt8} (h0 : 0 < s.length) (h : p (s.getD 0 0) = true) : (s.drop 1).dropWhile p = s.dropWhile p := by
  cases s with
  | nil => simp at h0
  | cons c t =>
    have h' : p c = true := h
    rw [List.dropWhile_cons, if_pos h']; rfl
theorem dropW_n {p : UInt8 → Bool} {s : List UInt8} (h : 0 < s.length → p (s.getD 0 0) = false) : s.dropWhile p = s := by
  cases s with
  | nil => rfl
  | cons c t => rw [List.dropWhile_cons, if_neg (by have := h (by simp); rw [show (c :: t).getD 0 0 = c from rfl] at this; rw [this]; decide)]
theorem dropW_nil {p : UInt8 → Bool} : ∀ {s : List UInt8}, s.dropWhile p = [] ↔ s.all p = true
  | [] => by simp
  | c :: t => by
    rw [List.dropWhile_cons, List.all_cons]
    cases h : p c with
    | true => simpa using dropW_nil
    | false => simp
theorem trim_nil (p : UInt8 → Bool) (s : List UInt8) : (endOff p s).dropWhile p = [] ↔ s.all p = true := by
  rw [dropW_nil]
  unfold endOff
  rw [List.all_reverse, ← dropW_nil]
  have hd : (s.reverse.dropWhile p).dropWhile p = s.reverse.dropWhile p := by
    generalize s.reverse = t
    induction t with
    | nil => rfl
    | cons c t ih =>
      rw [List.dropWhile_cons]
      cases h : p c with
      | true => simpa using ih
      | false => simp [List.dropWhile_cons, h]
  rw [hd, dropW_nil, List.all_reverse]
theorem containsU_ok (tab : List Bool) (hl : tab.length = 256) (c : UInt8) : FnOk Tryd.prog 167 [.cell (tab.map .bool), .int .u8 c.toNat] (.bool (tab.getD c.toNat false)) [] := by
  have h := contains_ok tab c.toNat hl (by omega) (by have := c.toNat_lt; omega)
  rwa [Int.toNat_natCast] at h

set_option maxHeartbeats 1000000 in
theorem trimLeftA_ok (tab : List Bool) (hl : tab.length = 256) (p : UInt8 → Bool) (hp : ∀ c : UInt8, tab.getD c.toNat false = p c) (s : List UInt8) :
    FnOk Tryd.prog 174 [.str s, .cell (tab.map .bool)] (.str (s.dropWhile p)) [] := by
  refine FnOk.of_vc Tryd.func174 rfl (by decide) (by simp [Tryd.f174]) [.tmp 4] rfl fun w0 T0 _ => ?_
  simp only [Tryd.f174, argEnv]
  (repeat' first | with_reducible (first | refine Asm.intro fun _ => ?_ | refine Chk.g ?_ | refine AnyI.i64 fun _ _ => ?_ | refine LetW.g ?_ | refine LetW.h ?_ | refine Ite.t fun _ => ?_ | refine Ite.f fun _ => ?_ | refine Ite.decide (fun _ => ?_) fun _ => ?_ | refine Ite.bool (fun _ => ?_) fun _ => ?_ | refine And.intro ?_ ?_) | omega | simp (maxSteps := 1000000) only [go_sem, reduceCtorEq, Nat.reduceLT, Nat.reduceLeDiff, reduceIte, ↓reduceIte, Nat.reduceEqDiff, Nat.reduceAdd, Nat.reduceMul, Nat.reduceSub, Int.reduceLE, Int.reduceLT, Int.reduceNeg, Int.reduceToNat])
  refine VcLoop.intro (fun t : List UInt8 => ⟨16, [(0, .str t), (1, .cell (tab.map .bool))], [], 0⟩) (fun t => t.dropWhile p = s.dropWhile p) (fun t => t.length) s ?_ rfl fun t he => ?_
  · refine Ent.auto0 rfl ?_ ?_ <;> simp only [go_sem, reduceCtorEq, reduceIte, Nat.reduceEqDiff, Nat.reduceLT, Nat.reduceLeDiff, Int.natCast_succ]
  (repeat' first | with_reducible (first | refine Asm.intro fun _ => ?_ | refine Chk.g ?_ | refine AnyI.i64 fun _ _ => ?_ | refine LetW.g ?_ | refine LetW.h ?_ | refine Ite.t fun _ => ?_ | refine Ite.f fun _ => ?_ | refine Ite.decide (fun _ => ?_) fun _ => ?_ | refine Ite.bool (fun _ => ?_) fun _ => ?_ | refine And.intro ?_ ?_) | omega | simp (maxSteps := 1000000) only [go_sem, reduceCtorEq, Nat.reduceLT, Nat.reduceLeDiff, reduceIte, ↓reduceIte, Nat.reduceEqDiff, Nat.reduceAdd, Nat.reduceMul, Nat.reduceSub, Int.reduceLE, Int.reduceLT, Int.reduceNeg, Int.reduceToNat])
  · have k := containsU_ok tab hl (t.getD 0 0)
    rw [hp] at k
    refine VcCall.fr (args' := [.cell (tab.map .bool), .int .u8 (t.getD 0 0).toNat]) (FnFr.of_ok k rfl rfl) (by simp [argOkL, allOk, argOkN]) 0 rfl (by simp [rowsB]) ?_
    cases hq : p (t.getD 0 0) with
    | true =>
      (repeat' first | with_reducible (first | refine Asm.intro fun _ => ?_ | refine Chk.g ?_ | refine AnyI.i64 fun _ _ => ?_ | refine LetW.g ?_ | refine LetW.h ?_ | refine Ite.t fun _ => ?_ | refine Ite.f fun _ => ?_ | refine Ite.decide (fun _ => ?_) fun _ => ?_ | refine Ite.bool (fun _ => ?_) fun _ => ?_ | refine And.intro ?_ ?_) | omega | simp (maxSteps := 1000000) only [go_sem, reduceCtorEq, Nat.reduceLT, Nat.reduceLeDiff, reduceIte, ↓reduceIte, Nat.reduceEqDiff, Nat.reduceAdd, Nat.reduceMul, Nat.reduceSub, Int.reduceLE, Int.reduceLT, Int.reduceNeg, Int.reduceToNat])
      refine ⟨t.drop 1, Ent.auto0 rfl ?_ ?_, ?_, ?_⟩
      · simp only [go_sem, reduceCtorEq, reduceIte, Nat.reduceEqDiff, Nat.reduceLT, Nat.reduceLeDiff, Int.natCast_succ]
        all_goals first | rfl | exact List.take_of_length_le (by simp)
      · simp only [go_sem, reduceCtorEq, reduceIte, Nat.reduceEqDiff, Nat.reduceLT, Nat.reduceLeDiff, Int.natCast_succ]
      · rw [dropW_y (by omega) hq]; exact he
      · simp; omega
    | false =>
      have e : t = s.dropWhile p := by rw [← he, dropW_n (fun _ => hq)]
      (repeat' first | with_reducible (first | refine Asm.intro fun _ => ?_ | refine Chk.g ?_ | refine AnyI.i64 fun _ _ => ?_ | refine LetW.g ?_ | refine LetW.h ?_ | refine Ite.t fun _ => ?_ | refine Ite.f fun _ => ?_ | refine Ite.decide (fun _ => ?_) fun _ => ?_ | refine Ite.bool (fun _ => ?_) fun _ => ?_ | refine And.intro ?_ ?_) | omega | simp (maxSteps := 1000000) only [go_sem, reduceCtorEq, Nat.reduceLT, Nat.reduceLeDiff, reduceIte, ↓reduceIte, Nat.reduceEqDiff, Nat.reduceAdd, Nat.reduceMul, Nat.reduceSub, Int.reduceLE, Int.reduceLT, Int.reduceNeg, Int.reduceToNat])
      refine Ret.auto 0 ?_ rfl ?_ <;> simp only [go_sem, reduceCtorEq, reduceIte, Nat.reduceEqDiff, Nat.reduceLT, Nat.reduceLeDiff, Int.natCast_succ, Post, e]
  · have e : t = s.dropWhile p := by rw [← he, dropW_n (fun h => by omega)]
    refine Ret.auto 0 ?_ rfl ?_ <;> simp only [go_sem, reduceCtorEq, reduceIte, Nat.reduceEqDiff, Nat.reduceLT, Nat.reduceLeDiff, Int.natCast_succ, Post, e]
set_option maxHeartbeats 1000000 in
theorem trimRightA_ok (tab : List Bool) (hl : tab.length = 256) (p : UInt8 → Bool) (hp : ∀ c : UInt8, tab.getD c.toNat false = p c) (s : List UInt8) :
    FnOk Tryd.prog 171 [.str s, .cell (tab.map .bool)] (.str (endOff p s)) [] := by
  refine FnOk.of_vc Tryd.func171 rfl (by decide) (by simp [Tryd.f171]) [.tmp 4] rfl fun w0 T0 _ => ?_
  simp only [Tryd.f171, argEnv]
  (repeat' first | with_reducible (first | refine Asm.intro fun _ => ?_ | refine Chk.g ?_ | refine AnyI.i64 fun _ _ => ?_ | refine LetW.g ?_ | refine LetW.h ?_ | refine Ite.t fun _ => ?_ | refine Ite.f fun _ => ?_ | refine Ite.decide (fun _ => ?_) fun _ => ?_ | refine Ite.bool (fun _ => ?_) fun _ => ?_ | refine And.intro ?_ ?_) | omega | simp (maxSteps := 1000000) only [go_sem, reduceCtorEq, Nat.reduceLT, Nat.reduceLeDiff, reduceIte, ↓reduceIte, Nat.reduceEqDiff, Nat.reduceAdd, Nat.reduceMul, Nat.reduceSub, Int.reduceLE, Int.reduceLT, Int.reduceNeg, Int.reduceToNat])
  refine VcLoop.intro (fun t : List UInt8 => ⟨22, [(0, .str t), (1, .cell (tab.map .bool))], [], 0⟩) (fun t => endOff p t = endOff p s) (fun t => t.length) s ?_ rfl fun t he => ?_
  · refine Ent.auto0 rfl ?_ ?_ <;> simp only [go_sem, reduceCtorEq, reduceIte, Nat.reduceEqDiff, Nat.reduceLT, Nat.reduceLeDiff, Int.natCast_succ]
  have et : ((t.length : Int) - 1).toNat = t.length - 1 := by omega
  (repeat' first | with_reducible (first | refine Asm.intro fun _ => ?_ | refine Chk.g ?_ | refine AnyI.i64 fun _ _ => ?_ | refine LetW.g ?_ | refine LetW.h ?_ | refine Ite.t fun _ => ?_ | refine Ite.f fun _ => ?_ | refine Ite.decide (fun _ => ?_) fun _ => ?_ | refine Ite.bool (fun _ => ?_) fun _ => ?_ | refine And.intro ?_ ?_) | omega | simp (maxSteps := 1000000) only [go_sem, reduceCtorEq, Nat.reduceLT, Nat.reduceLeDiff, reduceIte, ↓reduceIte, Nat.reduceEqDiff, Nat.reduceAdd, Nat.reduceMul, Nat.reduceSub, Int.reduceLE, Int.reduceLT, Int.reduceNeg, Int.reduceToNat, et])
  · have k := containsU_ok tab hl (t.getD (t.length - 1) 0)
    rw [hp] at k
    refine VcCall.fr (args' := [.cell (tab.map .bool), .int .u8 (t.getD (t.length - 1) 0).toNat]) (FnFr.of_ok k rfl rfl) (by simp [argOkL, allOk, argOkN]) 0 rfl (by simp [rowsB]) ?_
    cases hq : p (t.getD (t.length - 1) 0) with
    | true =>
      (repeat' first | with_reducible (first | refine Asm.intro fun _ => ?_ | refine Chk.g ?_ | refine AnyI.i64 fun _ _ => ?_ | refine LetW.g ?_ | refine LetW.h ?_ | refine Ite.t fun _ => ?_ | refine Ite.f fun _ => ?_ | refine Ite.decide (fun _ => ?_) fun _ => ?_ | refine Ite.bool (fun _ => ?_) fun _ => ?_ | refine And.intro ?_ ?_) | omega | simp (maxSteps := 1000000) only [go_sem, reduceCtorEq, Nat.reduceLT, Nat.reduceLeDiff, reduceIte, ↓reduceIte, Nat.reduceEqDiff, Nat.reduceAdd, Nat.reduceMul, Nat.reduceSub, Int.reduceLE, Int.reduceLT, Int.reduceNeg, Int.reduceToNat, et])
      refine ⟨t.take (t.length - 1), Ent.auto0 rfl ?_ ?_, ?_, ?_⟩
      · simp only [go_sem, reduceCtorEq, reduceIte, Nat.reduceEqDiff, Nat.reduceLT, Nat.reduceLeDiff, Int.natCast_succ, et]
        all_goals rfl
      · simp only [go_sem, reduceCtorEq, reduceIte, Nat.reduceEqDiff, Nat.reduceLT, Nat.reduceLeDiff, Int.natCast_succ]
      · rw [endOff_y (by omega) hq]; exact he
      · simp; omega
    | false =>
      have e : t = endOff p s := by rw [← he, endOff_n (fun _ => hq)]
      (repeat' first | with_reducible (first | refine Asm.intro fun _ => ?_ | refine Chk.g ?_ | refine AnyI.i64 fun _ _ => ?_ | refine LetW.g ?_ | refine LetW.h ?_ | refine Ite.t fun _ => ?_ | refine Ite.f fun _ => ?_ | refine Ite.decide (fun _ => ?_) fun _ => ?_ | refine Ite.bool (fun _ => ?_) fun _ => ?_ | refine And.intro ?_ ?_) | omega | simp (maxSteps := 1000000) only [go_sem, reduceCtorEq, Nat.reduceLT, Nat.reduceLeDiff, reduceIte, ↓reduceIte, Nat.reduceEqDiff, Nat.reduceAdd, Nat.reduceMul, Nat.reduceSub, Int.reduceLE, Int.reduceLT, Int.reduceNeg, Int.reduceToNat])
      refine Ret.auto 0 ?_ rfl ?_ <;> simp only [go_sem, reduceCtorEq, reduceIte, Nat.reduceEqDiff, Nat.reduceLT, Nat.reduceLeDiff, Int.natCast_succ, Post, e]
  · have e : t = endOff p s := by rw [← he, endOff_n (fun h => by omega)]
    refine Ret.auto 0 ?_ rfl ?_ <;> simp only [go_sem, reduceCtorEq, reduceIte, Nat.reduceEqDiff, Nat.reduceLT, Nat.reduceLeDiff, Int.natCast_succ, Post, e]

set_option maxHeartbeats 1000000 in
theorem trimA_ok (s cut : List UInt8) (hc : ∀ i, i < cut.length → (cut.getD i 0).toNat < 128) (h2 : 2 ≤ cut.length) :
    FnOk Tryd.prog 125 [.str s, .str cut] (.str ((endOff (inCut cut) s).dropWhile (inCut cut))) [] := by
  have hlen := asciiAt_len cut cut.length
  have km := makeAscii_ok cut hc
  have hg : ∀ c : UInt8, (asciiAt cut cut.length).getD c.toNat false = inCut cut c := fun c => by
    rw [asciiAt_get cut c _ (Nat.le_refl _), List.take_length]; rfl
  have hne : ¬ cut = [] := fun e => by subst e; simp at h2
  refine FnOk.of_vc Tryd.func125 rfl (by decide) (by simp [Tryd.f125]) [.tmp 4] rfl fun w0 T0 _ => ?_
  simp only [Tryd.f125, argEnv]
  by_cases h0 : s = []
  · have e : (endOff (inCut cut) []).dropWhile (inCut cut) = [] := rfl
    (repeat' first | with_reducible (first | refine Asm.intro fun _ => ?_ | refine Chk.g ?_ | refine AnyI.i64 fun _ _ => ?_ | refine LetW.g ?_ | refine LetW.h ?_ | refine Ite.t fun _ => ?_ | refine Ite.f fun _ => ?_ | refine Ite.decide (fun _ => ?_) fun _ => ?_ | refine Ite.bool (fun _ => ?_) fun _ => ?_ | refine And.intro ?_ ?_) | omega | simp (maxSteps := 1000000) only [go_sem, reduceCtorEq, Nat.reduceLT, Nat.reduceLeDiff, reduceIte, ↓reduceIte, Nat.reduceEqDiff, Nat.reduceAdd, Nat.reduceMul, Nat.reduceSub, Int.reduceLE, Int.reduceLT, Int.reduceNeg, Int.reduceToNat, h0])
    refine Ret.auto 0 ?_ rfl ?_ <;> simp only [go_sem, reduceCtorEq, reduceIte, Nat.reduceEqDiff, Nat.reduceLT, Nat.reduceLeDiff, Int.natCast_succ, Post, e]
  generalize inCut cut = p at *
  (repeat' first | with_reducible (first | refine Asm.intro fun _ => ?_ | refine Chk.g ?_ | refine AnyI.i64 fun _ _ => ?_ | refine LetW.g ?_ | refine LetW.h ?_ | refine Ite.t fun _ => ?_ | refine Ite.f fun _ => ?_ | refine Ite.decide (fun _ => ?_) fun _ => ?_ | refine Ite.bool (fun _ => ?_) fun _ => ?_ | refine And.intro ?_ ?_) | omega | simp (maxSteps := 1000000) only [go_sem, reduceCtorEq, Nat.reduceLT, Nat.reduceLeDiff, reduceIte, ↓reduceIte, Nat.reduceEqDiff, Nat.reduceAdd, Nat.reduceMul, Nat.reduceSub, Int.reduceLE, Int.reduceLT, Int.reduceNeg, Int.reduceToNat, h0, hne])
  refine VcCall.fr (args' := [.str cut]) (FnFr.of_ok km (by simp [noRo, noRoL, noRoL_bools]) rfl) (by simp [argOkL, allOk, argOkN]) 0 (by simp [Fv.below, belowL, belowL_bools]) (by simp [rowsB]) ?_
  generalize asciiAt cut cut.length = tab at hlen hg ⊢
  simp (maxSteps := 1000000) only [go_sem, reduceCtorEq, Nat.reduceLT, Nat.reduceLeDiff, reduceIte, ↓reduceIte, Nat.reduceEqDiff, Nat.reduceAdd, Nat.reduceMul, Nat.reduceSub, Int.reduceLE, Int.reduceLT, Int.reduceNeg, Int.reduceToNat]
  have e1 : spl (List.replicate 256 (AV.bool false)) 0 (tab.map .bool) = tab.map .bool := spl_all (by simp [hlen])
  refine Chk.intro (by simp [hlen]) ?_
  rw [e1]
  refine Chk.intro (by omega) ?_
  refine VcCall.fr (args' := [.str s, .cell (tab.map .bool)]) (FnFr.of_ok (trimRightA_ok tab hlen p hg s) rfl rfl) ?_ 0 rfl (by simp [rowsB]) ?_
  · exact ⟨_, _, rfl, ⟨_, _, ⟨_, _, _, rfl, allOk_bools _ 4 _, rfl⟩, rfl, rfl⟩, rfl⟩
  simp (maxSteps := 1000000) only [go_sem, reduceCtorEq, Nat.reduceLT, Nat.reduceLeDiff, reduceIte, ↓reduceIte, Nat.reduceEqDiff, Nat.reduceAdd, Nat.reduceMul, Nat.reduceSub, Int.reduceLE, Int.reduceLT, Int.reduceNeg, Int.reduceToNat]
  refine VcCall.fr (args' := [.str (endOff p s), .cell (tab.map .bool)]) (FnFr.of_ok (trimLeftA_ok tab hlen p hg (endOff p s)) rfl rfl) ?_ 0 rfl (by simp [rowsB]) ?_
  · exact ⟨_, _, rfl, ⟨_, _, ⟨_, _, _, rfl, allOk_bools _ 4 _, rfl⟩, rfl, rfl⟩, rfl⟩
  simp (maxSteps := 1000000) only [go_sem, reduceCtorEq, Nat.reduceLT, Nat.reduceLeDiff, reduceIte, ↓reduceIte, Nat.reduceEqDiff, Nat.reduceAdd, Nat.reduceMul, Nat.reduceSub, Int.reduceLE, Int.reduceLT, Int.reduceNeg, Int.reduceToNat]
  refine Ret.auto 0 ?_ rfl ?_ <;> simp only [go_sem, reduceCtorEq, reduceIte, Nat.reduceEqDiff, Nat.reduceLT, Nat.reduceLeDiff, Int.natCast_succ, Post]

/-- A name. -/
def nameB (c : UInt8) : Bool := decide (97 ≤ c.toNat) && decide (c.toNat ≤ 122) || decide (48 ≤ c.toNat) && decide (c.toNat ≤ 57) || decide (c.toNat = 45)
def nameOk (s : List UInt8) : Bool := decide (s ≠ []) && decide (s.length ≤ 40) && (decide (97 ≤ (s.getD 0 0).toNat) && decide ((s.getD 0 0).toNat ≤ 122)) && s.all nameB
set_option maxRecDepth 20000 in
theorem cut_name : ∀ n : Nat, n < 256 → inCut cutset (UInt8.ofNat n) = nameB (UInt8.ofNat n) := by decide
theorem inCut_name : inCut cutset = nameB := funext fun c => by
  have h := cut_name c.toNat c.toNat_lt
  simpa using h
set_option maxHeartbeats 1000000 in
theorem isName_ok (s : List UInt8) : FnOk Tryd.prog 67 [.str s] (.bool (nameOk s)) [] := by
  have k := trimA_ok s cutset cut_small (by decide)
  rw [inCut_name] at k
  have ht := trim_nil nameB s
  have hcut : cutset = [97, 98, 99, 100, 101, 102, 103, 104, 105, 106, 107, 108, 109, 110, 111, 112, 113, 114, 115, 116, 117, 118, 119, 120, 121, 122, 48, 49, 50, 51, 52, 53, 54, 55, 56, 57, 45] := rfl
  unfold nameOk
  generalize endOff nameB s = t at *
  generalize t.dropWhile nameB = t at *
  generalize s.all nameB = a at *
  refine FnOk.of_vc Tryd.func67 rfl (by decide) (by simp [Tryd.f67]) [.tmp 2] rfl fun w0 T0 _ => ?_
  simp only [Tryd.f67, argEnv]
  by_cases h0 : s = []
  · (repeat' first | with_reducible (first | refine Asm.intro fun _ => ?_ | refine Chk.g ?_ | refine AnyI.i64 fun _ _ => ?_ | refine LetW.g ?_ | refine LetW.h ?_ | refine Ite.t fun _ => ?_ | refine Ite.f fun _ => ?_ | refine Ite.decide (fun _ => ?_) fun _ => ?_ | refine Ite.bool (fun _ => ?_) fun _ => ?_ | refine And.intro ?_ ?_) | omega | simp (maxSteps := 1000000) only [go_sem, reduceCtorEq, Nat.reduceLT, Nat.reduceLeDiff, reduceIte, ↓reduceIte, Nat.reduceEqDiff, Nat.reduceAdd, Nat.reduceMul, Nat.reduceSub, Int.reduceLE, Int.reduceLT, Int.reduceNeg, Int.reduceToNat, h0])
    refine Ret.auto 0 ?_ rfl ?_ <;> simp only [go_sem, reduceCtorEq, reduceIte, Nat.reduceEqDiff, Nat.reduceLT, Nat.reduceLeDiff, Int.natCast_succ, Post]
    all_goals simp
  · have hlp : 0 < s.length := List.length_pos_iff.2 h0
    (repeat' first | with_reducible (first | refine Asm.intro fun _ => ?_ | refine Chk.g ?_ | refine AnyI.i64 fun _ _ => ?_ | refine LetW.g ?_ | refine LetW.h ?_ | refine Ite.t fun _ => ?_ | refine Ite.f fun _ => ?_ | refine Ite.decide (fun _ => ?_) fun _ => ?_ | refine Ite.bool (fun _ => ?_) fun _ => ?_ | refine And.intro ?_ ?_) | omega | simp (maxSteps := 1000000) only [go_sem, reduceCtorEq, Nat.reduceLT, Nat.reduceLeDiff, reduceIte, ↓reduceIte, Nat.reduceEqDiff, Nat.reduceAdd, Nat.reduceMul, Nat.reduceSub, Int.reduceLE, Int.reduceLT, Int.reduceNeg, Int.reduceToNat, h0])
    all_goals first
      | (refine VcCall.fr (args' := [.str s, .str cutset]) (FnFr.of_ok k rfl rfl) (by simp [argOkL, allOk, argOkN, cutset]) 0 rfl (by simp [rowsB]) ?_
         (repeat' first | with_reducible (first | refine Asm.intro fun _ => ?_ | refine Chk.g ?_ | refine AnyI.i64 fun _ _ => ?_ | refine LetW.g ?_ | refine LetW.h ?_ | refine Ite.t fun _ => ?_ | refine Ite.f fun _ => ?_ | refine Ite.decide (fun _ => ?_) fun _ => ?_ | refine Ite.bool (fun _ => ?_) fun _ => ?_ | refine And.intro ?_ ?_) | omega | simp (maxSteps := 1000000) only [go_sem, reduceCtorEq, Nat.reduceLT, Nat.reduceLeDiff, reduceIte, ↓reduceIte, Nat.reduceEqDiff, Nat.reduceAdd, Nat.reduceMul, Nat.reduceSub, Int.reduceLE, Int.reduceLT, Int.reduceNeg, Int.reduceToNat])
         refine Ret.auto 0 ?_ rfl ?_ <;> simp only [go_sem, reduceCtorEq, reduceIte, Nat.reduceEqDiff, Nat.reduceLT, Nat.reduceLeDiff, Int.natCast_succ, Post])
      | (refine Ret.auto 0 ?_ rfl ?_ <;> simp only [go_sem, reduceCtorEq, reduceIte, Nat.reduceEqDiff, Nat.reduceLT, Nat.reduceLeDiff, Int.natCast_succ, Post])
    all_goals
      rw [Bool.eq_iff_iff]
      simp only [Bool.and_eq_true, decide_eq_true_eq, ht, Bool.false_eq_true, false_iff]
      first
        | exact ⟨fun ha => ⟨⟨⟨h0, by omega⟩, by omega, by omega⟩, ha⟩, fun h => h.2⟩
        | (intro h; omega)
end Go.Fv.S

/- Rules of sorting: what CheckRules and Kind compute, in plain words. -/
namespace Go.Fv.S
open Go Go.Proofs
set_option linter.unusedSimpArgs false
set_option linter.unusedVariables false
set_option maxRecDepth 8000

structure Ru where
  kind : List UInt8
  words : List (List UInt8)
  code : List UInt8
def Ru.av (r : Ru) : List AV := [.str r.kind, .ro (.strs r.words), .str r.code]
def Ru.zero : Ru := ⟨[], [], []⟩
instance : FNoId Ru.av := ⟨fun _ => rfl⟩
/-- The words of a text, small. -/
def hasL (l : List Tok) : List (List UInt8) := (l.filter (·.2)).map fun t => smallL t.1
def textHas (s : List UInt8) : List (List UInt8) := hasL (toks s [] [])
theorem hasL_take (l : List Tok) {i : Nat} (h : i < l.length) : hasL (l.take (i + 1)) = hasL (l.take i) ++ (if (l.getD i ([], false)).2 = true then [smallL (l.getD i ([], false)).1] else []) := by
  rw [List.take_succ_eq_append_getElem h, getD_lt h]
  unfold hasL
  rw [List.filter_append, List.map_append]
  congr 1
  by_cases hw : (l[i]).2 = true
  · rw [if_pos hw]; simp [hw]
  · rw [if_neg hw]; simp [hw]
theorem hasL_len (l : List Tok) : (hasL l).length ≤ l.length := by
  unfold hasL; rw [List.length_map]; exact List.length_filter_le _ _
end Go.Fv.S

namespace Go.Fv.S
open Go Go.Proofs
set_option linter.unusedSimpArgs false
set_option linter.unusedVariables false
set_option maxRecDepth 8000

theorem codeOk_iff (c : List UInt8) : codeOk c = true ↔ c.length ≤ 80 ∧ ∀ j, j < c.length → 32 ≤ (c.getD j 0).toNat ∧ (c.getD j 0).toNat ≤ 126 := by
  unfold codeOk
  rw [Bool.and_eq_true, decide_eq_true_eq, List.all_eq_true]
  refine and_congr_right fun _ => ⟨fun h j hj => ?_, fun h b hb => ?_⟩
  · have := h (c.getD j 0) (by rw [getD_lt hj]; exact List.getElem_mem hj)
    simpa using this
  · obtain ⟨j, hj, rfl⟩ := List.getElem_of_mem hb
    have := h j hj
    rw [getD_lt hj] at this
    simpa using this

set_option maxHeartbeats 1000000 in
theorem isCode_ok (c : List UInt8) : FnOk Tryd.prog 70 [.str c] (.bool (codeOk c)) [] := by
  have hi := codeOk_iff c
  refine FnOk.of_vc Tryd.func70 rfl (by decide) (by simp [Tryd.f70]) [.tmp 2] rfl fun w0 T0 _ => ?_
  simp only [Tryd.f70, argEnv]
  (repeat' first | with_reducible (first | refine Asm.intro fun _ => ?_ | refine Chk.g ?_ | refine AnyI.i64 fun _ _ => ?_ | refine LetW.g ?_ | refine LetW.h ?_ | refine Ite.t fun _ => ?_ | refine Ite.f fun _ => ?_ | refine Ite.decide (fun _ => ?_) fun _ => ?_ | refine Ite.bool (fun _ => ?_) fun _ => ?_ | refine And.intro ?_ ?_) | omega | simp (maxSteps := 1000000) only [go_sem, reduceCtorEq, Nat.reduceLT, Nat.reduceLeDiff, reduceIte, ↓reduceIte, Nat.reduceEqDiff, Nat.reduceAdd, Nat.reduceMul, Nat.reduceSub, Int.reduceLE, Int.reduceLT, Int.reduceNeg, Int.reduceToNat])
  · rename_i h1
    have : codeOk c = false := by rw [← Bool.not_eq_true, hi]; omega
    refine Ret.auto 0 ?_ rfl ?_ <;> simp only [go_sem, reduceCtorEq, reduceIte, Nat.reduceEqDiff, Nat.reduceLT, Nat.reduceLeDiff, Int.natCast_succ, Post, this]
  · refine VcLoop.intro (fun i : Nat => ⟨23, [(0, .str c), (8, .int .i64 c.length), (9, .int .i64 i)], [], 0⟩) (fun i => i ≤ c.length ∧ ∀ j, j < i → 32 ≤ (c.getD j 0).toNat ∧ (c.getD j 0).toNat ≤ 126) (fun i => c.length - i) 0 ?_ ⟨Nat.zero_le _, fun j hj => by omega⟩ fun i hI => ?_
    · refine Ent.auto0 rfl ?_ ?_ <;> simp only [go_sem, reduceCtorEq, reduceIte, Nat.reduceEqDiff, Nat.reduceLT, Nat.reduceLeDiff, Int.natCast_succ]
    obtain ⟨hl, hI⟩ := hI
    (repeat' first | with_reducible (first | refine Asm.intro fun _ => ?_ | refine Chk.g ?_ | refine AnyI.i64 fun _ _ => ?_ | refine LetW.g ?_ | refine LetW.h ?_ | refine Ite.t fun _ => ?_ | refine Ite.f fun _ => ?_ | refine Ite.decide (fun _ => ?_) fun _ => ?_ | refine Ite.bool (fun _ => ?_) fun _ => ?_ | refine And.intro ?_ ?_) | omega | simp (maxSteps := 1000000) only [go_sem, reduceCtorEq, Nat.reduceLT, Nat.reduceLeDiff, reduceIte, ↓reduceIte, Nat.reduceEqDiff, Nat.reduceAdd, Nat.reduceMul, Nat.reduceSub, Int.reduceLE, Int.reduceLT, Int.reduceNeg, Int.reduceToNat])
    · rename_i h2
      have : codeOk c = false := by
        rw [← Bool.not_eq_true, hi]
        rintro ⟨_, h⟩
        have := h i (by omega)
        omega
      refine Ret.auto 0 ?_ rfl ?_ <;> simp only [go_sem, reduceCtorEq, reduceIte, Nat.reduceEqDiff, Nat.reduceLT, Nat.reduceLeDiff, Int.natCast_succ, Post, this]
    · refine ⟨i + 1, Ent.auto0 rfl ?_ ?_, ⟨by omega, fun j hj => ?_⟩, by omega⟩ <;> first | simp only [go_sem, reduceCtorEq, reduceIte, Nat.reduceEqDiff, Nat.reduceLT, Nat.reduceLeDiff, Int.natCast_succ] | skip
      all_goals first
        | rfl
        | (by_cases e : j = i
           · subst e; omega
           · exact hI j (by omega))
    · have : codeOk c = true := hi.2 ⟨by omega, fun j hj => hI j (by omega)⟩
      refine Ret.auto 0 ?_ rfl ?_ <;> simp only [go_sem, reduceCtorEq, reduceIte, Nat.reduceEqDiff, Nat.reduceLT, Nat.reduceLeDiff, Int.natCast_succ, Post, this]
set_option maxHeartbeats 1000000 in
theorem refCode_ok (c : List UInt8) : FnOk Tryd.prog 72 [.str c] (.bool (codeOk c)) [] := by
  have hi := codeOk_iff c
  refine FnOk.of_vc Tryd.func72 rfl (by decide) (by simp [Tryd.f72]) [.tmp 2] rfl fun w0 T0 _ => ?_
  simp only [Tryd.f72, argEnv]
  (repeat' first | with_reducible (first | refine Asm.intro fun _ => ?_ | refine Chk.g ?_ | refine AnyI.i64 fun _ _ => ?_ | refine LetW.g ?_ | refine LetW.h ?_ | refine Ite.t fun _ => ?_ | refine Ite.f fun _ => ?_ | refine Ite.decide (fun _ => ?_) fun _ => ?_ | refine Ite.bool (fun _ => ?_) fun _ => ?_ | refine And.intro ?_ ?_) | omega | simp (maxSteps := 1000000) only [go_sem, reduceCtorEq, Nat.reduceLT, Nat.reduceLeDiff, reduceIte, ↓reduceIte, Nat.reduceEqDiff, Nat.reduceAdd, Nat.reduceMul, Nat.reduceSub, Int.reduceLE, Int.reduceLT, Int.reduceNeg, Int.reduceToNat])
  refine VcLoop.intro (fun i : Nat => ⟨23, [(0, .str c), (5, .int .i64 c.length), (6, .int .i64 i)], [], 0⟩) (fun i => i ≤ c.length ∧ ∀ j, j < i → 32 ≤ (c.getD j 0).toNat ∧ (c.getD j 0).toNat ≤ 126) (fun i => c.length - i) 0 ?_ ⟨Nat.zero_le _, fun j hj => by omega⟩ fun i hI => ?_
  · refine Ent.auto0 rfl ?_ ?_ <;> simp only [go_sem, reduceCtorEq, reduceIte, Nat.reduceEqDiff, Nat.reduceLT, Nat.reduceLeDiff, Int.natCast_succ]
  obtain ⟨hl, hI⟩ := hI
  (repeat' first | with_reducible (first | refine Asm.intro fun _ => ?_ | refine Chk.g ?_ | refine AnyI.i64 fun _ _ => ?_ | refine LetW.g ?_ | refine LetW.h ?_ | refine Ite.t fun _ => ?_ | refine Ite.f fun _ => ?_ | refine Ite.decide (fun _ => ?_) fun _ => ?_ | refine Ite.bool (fun _ => ?_) fun _ => ?_ | refine And.intro ?_ ?_) | omega | simp (maxSteps := 1000000) only [go_sem, reduceCtorEq, Nat.reduceLT, Nat.reduceLeDiff, reduceIte, ↓reduceIte, Nat.reduceEqDiff, Nat.reduceAdd, Nat.reduceMul, Nat.reduceSub, Int.reduceLE, Int.reduceLT, Int.reduceNeg, Int.reduceToNat])
  · rename_i h2
    have : codeOk c = false := by
      rw [← Bool.not_eq_true, hi]
      rintro ⟨_, h⟩
      have := h i (by omega)
      omega
    refine Ret.auto 0 ?_ rfl ?_ <;> simp only [go_sem, reduceCtorEq, reduceIte, Nat.reduceEqDiff, Nat.reduceLT, Nat.reduceLeDiff, Int.natCast_succ, Post, this]
  · refine ⟨i + 1, Ent.auto0 rfl ?_ ?_, ⟨by omega, fun j hj => ?_⟩, by omega⟩ <;> first | simp only [go_sem, reduceCtorEq, reduceIte, Nat.reduceEqDiff, Nat.reduceLT, Nat.reduceLeDiff, Int.natCast_succ] | skip
    all_goals first
      | rfl
      | (by_cases e : j = i
         · subst e; omega
         · exact hI j (by omega))
  · have e1 : decide (c.length ≤ 80) = codeOk c := by
      rw [Bool.eq_iff_iff, decide_eq_true_eq, hi]
      exact ⟨fun h => ⟨h, fun j hj => hI j (by omega)⟩, fun h => h.1⟩
    refine Ret.auto 0 ?_ rfl ?_ <;> simp only [go_sem, reduceCtorEq, reduceIte, Nat.reduceEqDiff, Nat.reduceLT, Nat.reduceLeDiff, Int.natCast_succ, Post]
    rw [← e1]; congr 1; apply propext; omega
end Go.Fv.S
