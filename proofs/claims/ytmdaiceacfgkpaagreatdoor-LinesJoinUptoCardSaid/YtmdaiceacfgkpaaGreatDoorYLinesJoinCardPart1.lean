/-
  A part of the proof of the claim: walks over the program's functions and the plain laws that these need. No condition of its own.
-/
import Derived.Test.YtmdaiceacfgkpaaGreatDoorFvPart9
import Derived.Test.YtmdaiceacfgkpaaGreatDoorProg
import Derived.Shelf.Strings.Shaped
/- Tokens of a text: what Split and its reference compute, in plain words. -/
namespace Go.Fv.Y
open Go
set_option linter.unusedSimpArgs false
set_option linter.unusedVariables false
set_option linter.unnecessarySimpa false

abbrev Bytes := List UInt8
/-- A letter. -/
def isL (c : UInt8) : Bool := decide (97 ≤ c.toNat) && decide (c.toNat ≤ 122) || decide (65 ≤ c.toNat) && decide (c.toNat ≤ 90) || decide (128 ≤ c.toNat)
/-- What can be in a word. -/
def inW (c : UInt8) : Bool := isL c || decide (c = 39)
def qu (c : UInt8) : Bool := decide (c = 39)
/-- The quotes before and behind are left out. -/
def preQ (t : Bytes) : Bytes := t.takeWhile qu
def dropQ (t : Bytes) : Bytes := t.dropWhile qu
def dropR (t : Bytes) : Bytes := (t.reverse.dropWhile qu).reverse
def postQ (t : Bytes) : Bytes := (t.reverse.takeWhile qu).reverse
def midQ (t : Bytes) : Bytes := dropR (dropQ t)
def isWd (s : Bytes) : Bool := decide (s ≠ []) && decide (s.length ≤ 40) && isL (s.headD 0) && isL (s.getLastD 0) && s.all inW

abbrev Tok := Bytes × Bool
/-- What is between goes out, if it is something. -/
def flush (out : List Tok) (btw : Bytes) : List Tok := if btw = [] then out else out ++ [(btw, false)]

theorem takeWhile_len_le {α : Type} (p : α → Bool) (l : List α) : (l.takeWhile p).length + (l.dropWhile p).length = l.length := by
  conv => rhs; rw [← List.takeWhile_append_dropWhile (p := p) (l := l)]
  rw [List.length_append]
theorem drop_lt {c : UInt8} {s : Bytes} (h : inW c = true) : ((c :: s).dropWhile inW).length < (c :: s).length := by
  have := takeWhile_len_le inW (c :: s)
  have h2 : 0 < ((c :: s).takeWhile inW).length := by simp [List.takeWhile_cons, h]
  omega
/-- The tokens of what is left, behind those that are there. -/
def toks (s btw : Bytes) (out : List Tok) : List Tok :=
  match s with
  | [] => flush out btw
  | c :: s' => if h : inW c = true then
      if isWd (midQ ((c :: s').takeWhile inW)) = true then
        toks ((c :: s').dropWhile inW) (postQ (dropQ ((c :: s').takeWhile inW))) (flush out (btw ++ preQ ((c :: s').takeWhile inW)) ++ [(midQ ((c :: s').takeWhile inW), true)])
      else toks ((c :: s').dropWhile inW) (btw ++ (c :: s').takeWhile inW) out
    else toks s' (btw ++ [c]) out
termination_by s.length
decreasing_by
  · exact drop_lt h
  · exact drop_lt h
  · simp

theorem toks_nil (btw : Bytes) (out : List Tok) : toks [] btw out = flush out btw := by unfold toks; rfl
theorem toks_other {c : UInt8} {s : Bytes} (h : inW c = false) (btw : Bytes) (out : List Tok) : toks (c :: s) btw out = toks s (btw ++ [c]) out := by
  rw [toks]; simp [h]
theorem toks_word {c : UInt8} {s : Bytes} (h : inW c = true) (btw : Bytes) (out : List Tok) (hw : isWd (midQ ((c :: s).takeWhile inW)) = true) :
    toks (c :: s) btw out = toks ((c :: s).dropWhile inW) (postQ (dropQ ((c :: s).takeWhile inW))) (flush out (btw ++ preQ ((c :: s).takeWhile inW)) ++ [(midQ ((c :: s).takeWhile inW), true)]) := by
  rw [toks, dif_pos h, if_pos hw]
theorem toks_row {c : UInt8} {s : Bytes} (h : inW c = true) (btw : Bytes) (out : List Tok) (hw : ¬ isWd (midQ ((c :: s).takeWhile inW)) = true) :
    toks (c :: s) btw out = toks ((c :: s).dropWhile inW) (btw ++ (c :: s).takeWhile inW) out := by
  rw [toks, dif_pos h, if_neg hw]

theorem pre_drop (t : Bytes) : preQ t ++ dropQ t = t := List.takeWhile_append_dropWhile
theorem mid_post (t : Bytes) : dropR t ++ postQ t = t := by
  have h := List.takeWhile_append_dropWhile (p := qu) (l := t.reverse)
  have := congrArg List.reverse h
  rw [List.reverse_append, List.reverse_reverse] at this
  exact this
theorem three (t : Bytes) : preQ t ++ (midQ t ++ postQ (dropQ t)) = t := by
  unfold midQ; rw [mid_post, pre_drop]
end Go.Fv.Y

/- A text is one word just where its tokens are that word alone; small letters. -/
namespace Go.Fv.Y
open Go
set_option linter.unusedSimpArgs false
set_option linter.unusedVariables false
set_option linter.unnecessarySimpa false

theorem isL_nq {c : UInt8} (h : isL c = true) : qu c = false := by
  cases hq : qu c with
  | false => rfl
  | true =>
    have : c = 39 := of_decide_eq_true hq
    subst this; revert h; decide
theorem isWd_parts {s : Bytes} (h : isWd s = true) : s ≠ [] ∧ isL (s.headD 0) = true ∧ isL (s.getLastD 0) = true ∧ s.all inW = true := by
  unfold isWd at h
  simp only [Bool.and_eq_true, decide_eq_true_eq] at h
  exact ⟨h.1.1.1.1, h.1.1.2, h.1.2, h.2⟩
theorem rev_head {s : Bytes} (h0 : s ≠ []) : ∃ t, s.reverse = s.getLastD 0 :: t := by
  rcases List.eq_nil_or_concat s with rfl | ⟨t, c, rfl⟩
  · exact absurd rfl h0
  · exact ⟨t.reverse, by simp⟩
theorem all_take_drop {p : UInt8 → Bool} : ∀ {s : Bytes}, s.all p = true → s.takeWhile p = s ∧ s.dropWhile p = []
  | [], _ => ⟨rfl, rfl⟩
  | c :: t, h => by
    rw [List.all_cons, Bool.and_eq_true] at h
    have ih := all_take_drop h.2
    rw [List.takeWhile_cons, List.dropWhile_cons, if_pos h.1, if_pos h.1, ih.1, ih.2]; exact ⟨rfl, rfl⟩
/-- Each word among the tokens is a word. -/
def WordsOk (l : List Tok) : Prop := ∀ t, t ∈ l → t.2 = true → isWd t.1 = true
theorem WordsOk.flush {l : List Tok} (h : WordsOk l) (b : Bytes) : WordsOk (flush l b) := by
  unfold Go.Fv.Y.flush
  split
  · exact h
  · intro t ht hw
    rcases List.mem_append.1 ht with h1 | h1
    · exact h t h1 hw
    · simp at h1; subst h1; cases hw
/-- A to Z made small. -/
def smallB (c : UInt8) : UInt8 := if 65 ≤ c.toNat ∧ c.toNat ≤ 90 then c + 32 else c
def smallL (s : Bytes) : Bytes := s.map smallB
end Go.Fv.Y

/- Facts about the program's types: each shown by reckoning it out. -/
namespace Go.Fv.Y
open Go Go.Proofs
theorem e1 : ElemZ Tryz.prog 1 (.nilFunc) := .of (by kernel_rfl) (by kernel_rfl)
theorem z1 : zeroOf Tryz.prog 1 = some (.nilFunc) := e1.zero
theorem c1 : Tryz.prog.cellsOf 1 = 1 := e1.cellsOf
theorem e2 : ElemZ Tryz.prog 2 (.int .i64 0) := .of (by kernel_rfl) (by kernel_rfl)
theorem z2 : zeroOf Tryz.prog 2 = some (.int .i64 0) := e2.zero
theorem c2 : Tryz.prog.cellsOf 2 = 1 := e2.cellsOf
theorem e3 : ElemZ Tryz.prog 3 (.int .i64 0) := .of (by kernel_rfl) (by kernel_rfl)
theorem z3 : zeroOf Tryz.prog 3 = some (.int .i64 0) := e3.zero
theorem c3 : Tryz.prog.cellsOf 3 = 1 := e3.cellsOf
theorem e4 : ElemZ Tryz.prog 4 (.bool false) := .of (by kernel_rfl) (by kernel_rfl)
theorem z4 : zeroOf Tryz.prog 4 = some (.bool false) := e4.zero
theorem c4 : Tryz.prog.cellsOf 4 = 1 := e4.cellsOf
theorem e5 : ElemZ Tryz.prog 5 (.int .u8 0) := .of (by kernel_rfl) (by kernel_rfl)
theorem z5 : zeroOf Tryz.prog 5 = some (.int .u8 0) := e5.zero
theorem c5 : Tryz.prog.cellsOf 5 = 1 := e5.cellsOf
theorem e6 : ElemZ Tryz.prog 6 (.int .u8 0) := .of (by kernel_rfl) (by kernel_rfl)
theorem e9 : ElemZ Tryz.prog 9 (.string ⟨#[]⟩) := .of (by kernel_rfl) (by kernel_rfl)
theorem z9 : zeroOf Tryz.prog 9 = some (.string ⟨#[]⟩) := e9.zero
theorem c9 : Tryz.prog.cellsOf 9 = 1 := e9.cellsOf
theorem e12 : ElemZ Tryz.prog 12 (.int .u64 0) := .of (by kernel_rfl) (by kernel_rfl)
theorem e17 : ElemZ Tryz.prog 17 (.pointer none) := .of (by kernel_rfl) (by kernel_rfl)
theorem e22 : ElemZ Tryz.prog 22 (.slice none 0 0) := .of (by kernel_rfl) (by kernel_rfl)
theorem z22 : zeroOf Tryz.prog 22 = some (.slice none 0 0) := e22.zero
theorem c22 : Tryz.prog.cellsOf 22 = 1 := e22.cellsOf
theorem e23 : ElemZ Tryz.prog 23 (.slice none 0 0) := .of (by kernel_rfl) (by kernel_rfl)
theorem c23 : Tryz.prog.cellsOf 23 = 1 := e23.cellsOf
theorem e25 : ElemZ Tryz.prog 25 (.int .i64 0) := .of (by kernel_rfl) (by kernel_rfl)
theorem z25 : zeroOf Tryz.prog 25 = some (.int .i64 0) := e25.zero
theorem e27 : ElemZ Tryz.prog 27 (.nilFunc) := .of (by kernel_rfl) (by kernel_rfl)
theorem z27 : zeroOf Tryz.prog 27 = some (.nilFunc) := e27.zero
theorem e29 : ElemZ Tryz.prog 29 (.pointer none) := .of (by kernel_rfl) (by kernel_rfl)
theorem z29 : zeroOf Tryz.prog 29 = some (.pointer none) := e29.zero
theorem c29 : Tryz.prog.cellsOf 29 = 1 := e29.cellsOf
theorem e32 : ElemZ Tryz.prog 32 (.nilFunc) := .of (by kernel_rfl) (by kernel_rfl)
theorem z32 : zeroOf Tryz.prog 32 = some (.nilFunc) := e32.zero
theorem e35 : ElemZ Tryz.prog 35 (.nilFunc) := .of (by kernel_rfl) (by kernel_rfl)
theorem z35 : zeroOf Tryz.prog 35 = some (.nilFunc) := e35.zero
theorem e36 : ElemZ Tryz.prog 36 (.slice none 0 0) := .of (by kernel_rfl) (by kernel_rfl)
theorem z36 : zeroOf Tryz.prog 36 = some (.slice none 0 0) := e36.zero
theorem e39 : ElemZ Tryz.prog 39 (.nilFunc) := .of (by kernel_rfl) (by kernel_rfl)
theorem z39 : zeroOf Tryz.prog 39 = some (.nilFunc) := e39.zero
theorem e41 : ElemZ Tryz.prog 41 (.agg #[.string ⟨#[]⟩, .int .i64 0, .int .i64 0]) := .of (by kernel_rfl) (by kernel_rfl)
theorem z41 : zeroOf Tryz.prog 41 = some (.agg #[.string ⟨#[]⟩, .int .i64 0, .int .i64 0]) := e41.zero
theorem e44 : ElemZ Tryz.prog 44 (.nilFunc) := .of (by kernel_rfl) (by kernel_rfl)
theorem z44 : zeroOf Tryz.prog 44 = some (.nilFunc) := e44.zero
theorem e45 : ElemZ Tryz.prog 45 (.slice none 0 0) := .of (by kernel_rfl) (by kernel_rfl)
theorem z45 : zeroOf Tryz.prog 45 = some (.slice none 0 0) := e45.zero
theorem e50 : ElemZ Tryz.prog 50 (.agg #[.int .i64 0, .string ⟨#[]⟩, .string ⟨#[]⟩]) := .of (by kernel_rfl) (by kernel_rfl)
theorem z50 : zeroOf Tryz.prog 50 = some (.agg #[.int .i64 0, .string ⟨#[]⟩, .string ⟨#[]⟩]) := e50.zero
theorem e51 : ElemZ Tryz.prog 51 (.agg #[.int .i64 0, .string ⟨#[]⟩, .string ⟨#[]⟩]) := .of (by kernel_rfl) (by kernel_rfl)
theorem z51 : zeroOf Tryz.prog 51 = some (.agg #[.int .i64 0, .string ⟨#[]⟩, .string ⟨#[]⟩]) := e51.zero
theorem e53 : ElemZ Tryz.prog 53 (.agg #[.string ⟨#[]⟩, .string ⟨#[]⟩, .int .i64 0]) := .of (by kernel_rfl) (by kernel_rfl)
theorem z53 : zeroOf Tryz.prog 53 = some (.agg #[.string ⟨#[]⟩, .string ⟨#[]⟩, .int .i64 0]) := e53.zero
theorem e55 : ElemZ Tryz.prog 55 (.agg #[.string ⟨#[]⟩, .int .i64 0]) := .of (by kernel_rfl) (by kernel_rfl)
theorem z55 : zeroOf Tryz.prog 55 = some (.agg #[.string ⟨#[]⟩, .int .i64 0]) := e55.zero
theorem e56 : ElemZ Tryz.prog 56 (.agg #[.string ⟨#[]⟩, .int .i64 0]) := .of (by kernel_rfl) (by kernel_rfl)
theorem z56 : zeroOf Tryz.prog 56 = some (.agg #[.string ⟨#[]⟩, .int .i64 0]) := e56.zero
theorem c56 : Tryz.prog.cellsOf 56 = 2 := e56.cellsOf
theorem e63 : ElemZ Tryz.prog 63 (.nilFunc) := .of (by kernel_rfl) (by kernel_rfl)
theorem z63 : zeroOf Tryz.prog 63 = some (.nilFunc) := e63.zero
theorem e64 : ElemZ Tryz.prog 64 (.slice none 0 0) := .of (by kernel_rfl) (by kernel_rfl)
theorem z64 : zeroOf Tryz.prog 64 = some (.slice none 0 0) := e64.zero
theorem c64 : Tryz.prog.cellsOf 64 = 1 := e64.cellsOf
theorem e66 : ElemZ Tryz.prog 66 (.agg #[.string ⟨#[]⟩, .bool false]) := .of (by kernel_rfl) (by kernel_rfl)
theorem z66 : zeroOf Tryz.prog 66 = some (.agg #[.string ⟨#[]⟩, .bool false]) := e66.zero
theorem e67 : ElemZ Tryz.prog 67 (.agg #[.string ⟨#[]⟩, .bool false]) := .of (by kernel_rfl) (by kernel_rfl)
theorem z67 : zeroOf Tryz.prog 67 = some (.agg #[.string ⟨#[]⟩, .bool false]) := e67.zero
theorem c67 : Tryz.prog.cellsOf 67 = 2 := e67.cellsOf
theorem e70 : ElemZ Tryz.prog 70 (.nilFunc) := .of (by kernel_rfl) (by kernel_rfl)
theorem z70 : zeroOf Tryz.prog 70 = some (.nilFunc) := e70.zero
theorem e76 : ElemZ Tryz.prog 76 (.nilFunc) := .of (by kernel_rfl) (by kernel_rfl)
theorem z76 : zeroOf Tryz.prog 76 = some (.nilFunc) := e76.zero
theorem e77 : ElemZ Tryz.prog 77 (.nilFunc) := .of (by kernel_rfl) (by kernel_rfl)
theorem z77 : zeroOf Tryz.prog 77 = some (.nilFunc) := e77.zero
theorem e87 : ElemZ Tryz.prog 87 (.agg #[.slice none 0 0]) := .of (by kernel_rfl) (by kernel_rfl)
theorem z87 : zeroOf Tryz.prog 87 = some (.agg #[.slice none 0 0]) := e87.zero
theorem e108 : ElemZ Tryz.prog 108 (.map none) := .of (by kernel_rfl) (by kernel_rfl)
theorem c108 : Tryz.prog.cellsOf 108 = 1 := e108.cellsOf
theorem e110 : ElemZ Tryz.prog 110 (.agg #[.map none, .slice none 0 0]) := .of (by kernel_rfl) (by kernel_rfl)
theorem z110 : zeroOf Tryz.prog 110 = some (.agg #[.map none, .slice none 0 0]) := e110.zero
theorem e146 : ElemZ Tryz.prog 146 (.nilFunc) := .of (by kernel_rfl) (by kernel_rfl)
theorem z146 : zeroOf Tryz.prog 146 = some (.nilFunc) := e146.zero
theorem f7 : fieldsOkT Tryz.prog 7 := by
  intro d hd; rw [Tryz.underlying7] at hd; cases hd
  intro f hf; simp only [List.mem_cons, List.not_mem_nil, or_false] at hf
  rcases hf with rfl | rfl | rfl | rfl
  · obtain ⟨i, h, _⟩ := e2.ex; exact ⟨i, h⟩
  · obtain ⟨i, h, _⟩ := e3.ex; exact ⟨i, h⟩
  · obtain ⟨i, h, _⟩ := e4.ex; exact ⟨i, h⟩
  · obtain ⟨i, h, _⟩ := e6.ex; exact ⟨i, h⟩
theorem f8 : fieldsOkT Tryz.prog 8 := by
  intro d hd; rw [Tryz.underlying8] at hd; cases hd
  intro f hf; simp only [List.mem_cons, List.not_mem_nil, or_false] at hf
  rcases hf with rfl | rfl | rfl | rfl
  · obtain ⟨i, h, _⟩ := e2.ex; exact ⟨i, h⟩
  · obtain ⟨i, h, _⟩ := e3.ex; exact ⟨i, h⟩
  · obtain ⟨i, h, _⟩ := e4.ex; exact ⟨i, h⟩
  · obtain ⟨i, h, _⟩ := e6.ex; exact ⟨i, h⟩
theorem f14 : fieldsOkT Tryz.prog 14 := by
  intro d hd; rw [Tryz.underlying14] at hd; cases hd
  intro f hf; simp only [List.mem_cons, List.not_mem_nil, or_false] at hf
  rcases hf with rfl | rfl
  · obtain ⟨i, h, _⟩ := e9.ex; exact ⟨i, h⟩
  · obtain ⟨i, h, _⟩ := e12.ex; exact ⟨i, h⟩
theorem f19 : fieldsOkT Tryz.prog 19 := by
  intro d hd; rw [Tryz.underlying19] at hd; cases hd
  intro f hf; simp only [List.mem_cons, List.not_mem_nil, or_false] at hf
  rcases hf with rfl
  · obtain ⟨i, h, _⟩ := e17.ex; exact ⟨i, h⟩
theorem f40 : fieldsOkT Tryz.prog 40 := by
  intro d hd; rw [Tryz.underlying40] at hd; cases hd
  intro f hf; simp only [List.mem_cons, List.not_mem_nil, or_false] at hf
  rcases hf with rfl | rfl | rfl
  · obtain ⟨i, h, _⟩ := e9.ex; exact ⟨i, h⟩
  · obtain ⟨i, h, _⟩ := e3.ex; exact ⟨i, h⟩
  · obtain ⟨i, h, _⟩ := e3.ex; exact ⟨i, h⟩
theorem f41 : fieldsOkT Tryz.prog 41 := by
  intro d hd; rw [Tryz.underlying41] at hd; cases hd
  intro f hf; simp only [List.mem_cons, List.not_mem_nil, or_false] at hf
  rcases hf with rfl | rfl | rfl
  · obtain ⟨i, h, _⟩ := e9.ex; exact ⟨i, h⟩
  · obtain ⟨i, h, _⟩ := e3.ex; exact ⟨i, h⟩
  · obtain ⟨i, h, _⟩ := e3.ex; exact ⟨i, h⟩
theorem f50 : fieldsOkT Tryz.prog 50 := by
  intro d hd; rw [Tryz.underlying50] at hd; cases hd
  intro f hf; simp only [List.mem_cons, List.not_mem_nil, or_false] at hf
  rcases hf with rfl | rfl | rfl
  · obtain ⟨i, h, _⟩ := e3.ex; exact ⟨i, h⟩
  · obtain ⟨i, h, _⟩ := e9.ex; exact ⟨i, h⟩
  · obtain ⟨i, h, _⟩ := e9.ex; exact ⟨i, h⟩
theorem f67 : fieldsOkT Tryz.prog 67 := by
  intro d hd; rw [Tryz.underlying67] at hd; cases hd
  intro f hf; simp only [List.mem_cons, List.not_mem_nil, or_false] at hf
  rcases hf with rfl | rfl
  · obtain ⟨i, h, _⟩ := e9.ex; exact ⟨i, h⟩
  · obtain ⟨i, h, _⟩ := e4.ex; exact ⟨i, h⟩
theorem f86 : fieldsOkT Tryz.prog 86 := by
  intro d hd; rw [Tryz.underlying86] at hd; cases hd
  intro f hf; simp only [List.mem_cons, List.not_mem_nil, or_false] at hf
  rcases hf with rfl
  · obtain ⟨i, h, _⟩ := e23.ex; exact ⟨i, h⟩
theorem f87 : fieldsOkT Tryz.prog 87 := by
  intro d hd; rw [Tryz.underlying87] at hd; cases hd
  intro f hf; simp only [List.mem_cons, List.not_mem_nil, or_false] at hf
  rcases hf with rfl
  · obtain ⟨i, h, _⟩ := e23.ex; exact ⟨i, h⟩
theorem f110 : fieldsOkT Tryz.prog 110 := by
  intro d hd; rw [Tryz.underlying110] at hd; cases hd
  intro f hf; simp only [List.mem_cons, List.not_mem_nil, or_false] at hf
  rcases hf with rfl | rfl
  · obtain ⟨i, h, _⟩ := e108.ex; exact ⟨i, h⟩
  · obtain ⟨i, h, _⟩ := e22.ex; exact ⟨i, h⟩
theorem f133 : fieldsOkT Tryz.prog 133 := by
  intro d hd; rw [Tryz.underlying133] at hd; cases hd
  intro f hf; simp only [List.mem_cons, List.not_mem_nil, or_false] at hf
  rcases hf with rfl | rfl | rfl
  · obtain ⟨i, h, _⟩ := e9.ex; exact ⟨i, h⟩
  · obtain ⟨i, h, _⟩ := e9.ex; exact ⟨i, h⟩
  · obtain ⟨i, h, _⟩ := e3.ex; exact ⟨i, h⟩
theorem f134 : fieldsOkT Tryz.prog 134 := by
  intro d hd; rw [Tryz.underlying134] at hd; cases hd
  intro f hf; simp only [List.mem_cons, List.not_mem_nil, or_false] at hf
  rcases hf with rfl | rfl | rfl
  · obtain ⟨i, h, _⟩ := e9.ex; exact ⟨i, h⟩
  · obtain ⟨i, h, _⟩ := e9.ex; exact ⟨i, h⟩
  · obtain ⟨i, h, _⟩ := e3.ex; exact ⟨i, h⟩
theorem f139 : fieldsOkT Tryz.prog 139 := by
  intro d hd; rw [Tryz.underlying139] at hd; cases hd
  intro f hf; simp only [List.mem_cons, List.not_mem_nil, or_false] at hf
  rcases hf with rfl | rfl | rfl
  · obtain ⟨i, h, _⟩ := e3.ex; exact ⟨i, h⟩
  · obtain ⟨i, h, _⟩ := e3.ex; exact ⟨i, h⟩
  · obtain ⟨i, h, _⟩ := e3.ex; exact ⟨i, h⟩
theorem k1 {K : Prop} : Chk (ElemZ Tryz.prog 1 (.nilFunc)) K = K := Chk_of e1
theorem k2 {K : Prop} : Chk (ElemZ Tryz.prog 2 (.int .i64 0)) K = K := Chk_of e2
theorem k3 {K : Prop} : Chk (ElemZ Tryz.prog 3 (.int .i64 0)) K = K := Chk_of e3
theorem ke3 : (ElemZ Tryz.prog 3 (.int .i64 0)) = True := eq_true e3
theorem k4 {K : Prop} : Chk (ElemZ Tryz.prog 4 (.bool false)) K = K := Chk_of e4
theorem ke4 : (ElemZ Tryz.prog 4 (.bool false)) = True := eq_true e4
theorem ke5 : (ElemZ Tryz.prog 5 (.int .u8 0)) = True := eq_true e5
theorem ke9 : (ElemZ Tryz.prog 9 (.string ⟨#[]⟩)) = True := eq_true e9
theorem ke56 : (ElemZ Tryz.prog 56 (.agg #[.string ⟨#[]⟩, .int .i64 0])) = True := eq_true e56
theorem ke67 : (ElemZ Tryz.prog 67 (.agg #[.string ⟨#[]⟩, .bool false])) = True := eq_true e67
theorem kt67 : (fieldsOkT Tryz.prog 67) = True := eq_true f67
theorem kt87 : (fieldsOkT Tryz.prog 87) = True := eq_true f87
theorem kt110 : (fieldsOkT Tryz.prog 110) = True := eq_true f110
theorem ky9 : Maps.Keyed Tryz.prog 9 = True := eq_true (Maps.string_keyed Tryz.underlying9)
theorem kt_9 (s : List UInt8) : KeyT Tryz.prog 9 (.str s) = True := eq_true (.str Tryz.underlying9 s)
attribute [go_sem] Tryz.underlying0 Tryz.underlying1 Tryz.underlying2 Tryz.underlying3 Tryz.underlying4 Tryz.underlying5 Tryz.underlying6 Tryz.underlying7
attribute [go_sem] Tryz.underlying8 Tryz.underlying9 Tryz.underlying10 Tryz.underlying11 Tryz.underlying12 Tryz.underlying13 Tryz.underlying14 Tryz.underlying15 Tryz.underlying16 Tryz.underlying17 Tryz.underlying18 Tryz.underlying19
attribute [go_sem] Tryz.underlying20 Tryz.underlying21 Tryz.underlying22 Tryz.underlying23 Tryz.underlying24 Tryz.underlying25 Tryz.underlying26 Tryz.underlying27 Tryz.underlying28 Tryz.underlying29 Tryz.underlying30 Tryz.underlying31
attribute [go_sem] Tryz.underlying32 Tryz.underlying33 Tryz.underlying34 Tryz.underlying35 Tryz.underlying36 Tryz.underlying37 Tryz.underlying38 Tryz.underlying39 Tryz.underlying40 Tryz.underlying41 Tryz.underlying42 Tryz.underlying43
attribute [go_sem] Tryz.underlying44 Tryz.underlying45 Tryz.underlying46 Tryz.underlying47 Tryz.underlying48 Tryz.underlying49 Tryz.underlying50 Tryz.underlying51 Tryz.underlying52 Tryz.underlying53 Tryz.underlying54 Tryz.underlying55
attribute [go_sem] Tryz.underlying56 Tryz.underlying57 Tryz.underlying58 Tryz.underlying59 Tryz.underlying60 Tryz.underlying61 Tryz.underlying62 Tryz.underlying63 Tryz.underlying64 Tryz.underlying65 Tryz.underlying66 Tryz.underlying67
attribute [go_sem] Tryz.underlying68 Tryz.underlying69 Tryz.underlying70 Tryz.underlying71 Tryz.underlying72 Tryz.underlying73 Tryz.underlying74 Tryz.underlying75 Tryz.underlying76 Tryz.underlying77 Tryz.underlying78 Tryz.underlying79
attribute [go_sem] Tryz.underlying80 Tryz.underlying81 Tryz.underlying82 Tryz.underlying83 Tryz.underlying84 Tryz.underlying85 Tryz.underlying86 Tryz.underlying87 Tryz.underlying88 Tryz.underlying89 Tryz.underlying90 Tryz.underlying91
attribute [go_sem] Tryz.underlying92 Tryz.underlying93 Tryz.underlying94 Tryz.underlying95 Tryz.underlying96 Tryz.underlying97 Tryz.underlying98 Tryz.underlying99 Tryz.underlying100 Tryz.underlying101 Tryz.underlying102 Tryz.underlying103
attribute [go_sem] Tryz.underlying104 Tryz.underlying105 Tryz.underlying106 Tryz.underlying107 Tryz.underlying108 Tryz.underlying109 Tryz.underlying110 Tryz.underlying111 Tryz.underlying112 Tryz.underlying113 Tryz.underlying114 Tryz.underlying115
attribute [go_sem] Tryz.underlying116 Tryz.underlying117 Tryz.underlying118 Tryz.underlying119 Tryz.underlying120 Tryz.underlying121 Tryz.underlying122 Tryz.underlying123 Tryz.underlying124 Tryz.underlying125 Tryz.underlying126 Tryz.underlying127
attribute [go_sem] Tryz.underlying128 Tryz.underlying129 Tryz.underlying130 Tryz.underlying131 Tryz.underlying132 Tryz.underlying133 Tryz.underlying134 Tryz.underlying135 Tryz.underlying136 Tryz.underlying137 Tryz.underlying138 Tryz.underlying139
attribute [go_sem] Tryz.underlying140 Tryz.underlying141 Tryz.underlying142 Tryz.underlying143 Tryz.underlying144 Tryz.underlying145 Tryz.underlying146 Tryz.underlying147 Tryz.underlying148 Tryz.underlying149 Tryz.underlying150 Tryz.underlying151
attribute [go_sem] Tryz.underlying152 Tryz.underlying153 Tryz.underlying154 Tryz.underlying155 Tryz.underlying156 Tryz.underlying157 Tryz.underlying158 Tryz.underlying159 Tryz.underlying160 Tryz.underlying161 Tryz.underlying162 Tryz.underlying163
attribute [go_sem] Tryz.underlying164 Tryz.underlying165 Tryz.underlying166 Tryz.underlying167 Tryz.underlying168 Tryz.underlying169 Tryz.underlying170 Tryz.underlying171 Tryz.underlying172 Tryz.underlying173 Tryz.underlying174 Tryz.underlying175
attribute [go_sem] Tryz.underlying176 Tryz.underlying177 Tryz.underlying178 Tryz.underlying179 Tryz.underlying180 Tryz.underlying181 Tryz.underlying182 Tryz.underlying183 Tryz.underlying184 Tryz.underlying185 Tryz.underlying186 Tryz.underlying187
attribute [go_sem] Tryz.underlying188 Tryz.underlying189 Tryz.underlying190 Tryz.underlying191 Tryz.underlying192 Tryz.underlying193 Tryz.underlying194 Tryz.underlying195 Tryz.underlying196 Tryz.underlying197 Tryz.underlying198 Tryz.underlying199
attribute [go_sem] Tryz.underlying200 Tryz.underlying201 Tryz.underlying202 Tryz.underlying203 Tryz.underlying204 Tryz.underlying205 Tryz.underlying206 Tryz.underlying207 Tryz.underlying208 Tryz.underlying209 Tryz.underlying210 Tryz.underlying211
attribute [go_sem] Tryz.underlying212 Tryz.underlying213 Tryz.underlying214 Tryz.underlying215 Tryz.underlying216 k1 z1 c1 k2 z2
attribute [go_sem] c2 k3 ke3 z3 c3 k4 ke4 z4 c4 ke5 z5
attribute [go_sem] c5
attribute [go_sem] ke9 z9 c9
attribute [go_sem] z22 c22
attribute [go_sem] c23 z25 z27
attribute [go_sem] z29 c29
attribute [go_sem] z32
attribute [go_sem] z35 z36
attribute [go_sem] z39 z41
attribute [go_sem] z44 z45
attribute [go_sem] z50 z51
attribute [go_sem] z53 z55
attribute [go_sem] ke56 z56 c56
attribute [go_sem] z63 z64 c64
attribute [go_sem] z66 ke67 z67 c67
attribute [go_sem] z70
attribute [go_sem] z76 z77
attribute [go_sem] z87
attribute [go_sem] c108 z110
attribute [go_sem] z146
attribute [go_sem] kt67
attribute [go_sem] kt87 kt110
attribute [go_sem] ky9 kt_9
end Go.Fv.Y

/- Letters, words, and the trims at one byte. -/
namespace Go.Fv.Y
open Go Go.Proofs
set_option linter.unusedSimpArgs false
set_option linter.unusedVariables false
set_option linter.unnecessarySimpa false
set_option maxRecDepth 8000

theorem isL_eq (c : UInt8) : isL c = decide ((97 ≤ (c.toNat : Int) ∧ (c.toNat : Int) ≤ 122 ∨ 65 ≤ (c.toNat : Int) ∧ (c.toNat : Int) ≤ 90) ∨ 128 ≤ (c.toNat : Int)) := by
  rw [Bool.eq_iff_iff]; simp only [isL, Bool.or_eq_true, Bool.and_eq_true, decide_eq_true_eq]; omega
theorem u8_39 (c : UInt8) : c = 39 ↔ (c.toNat : Int) = 39 := by
  constructor
  · rintro rfl; rfl
  · intro h; exact UInt8.toNat_inj.1 (by show c.toNat = 39; omega)
theorem inW_eq (c : UInt8) : inW c = (isL c || decide ((c.toNat : Int) = 39)) := by
  simp only [inW, u8_39]
theorem letter_ok (c : UInt8) : FnOk Tryz.prog 32 [.int .u8 c.toNat] (.bool (isL c)) [] := by
  refine FnOk.of_vc Tryz.func32 rfl (by decide) (by simp [Tryz.f32]) [.tmp 2] rfl fun w0 T0 _ => ?_
  simp only [Tryz.f32, argEnv]
  (repeat' first | with_reducible (first | intro _ | refine rc ?_ | refine rl ?_ | refine rh ?_ | refine rt ?_ | refine rf ?_ | refine rs ?_ | refine And.intro ?_ ?_) | omega | simp (maxSteps := 1000000) only [go_sem, simprocAttr, ↓reduceIte])
  refine Ret.auto 0 ?_ rfl ?_ <;> simp only [go_sem, reduceCtorEq, reduceIte, Nat.reduceEqDiff, Nat.reduceLT, Nat.reduceLeDiff, Int.natCast_succ, Post, isL_eq]
theorem isLetter_ok (c : UInt8) : FnOk Tryz.prog 43 [.int .u8 c.toNat] (.bool (isL c)) [] := by
  refine FnOk.of_vc Tryz.func43 rfl (by decide) (by simp [Tryz.f43]) [.tmp 2] rfl fun w0 T0 _ => ?_
  simp only [Tryz.f43, argEnv]
  (repeat' first | with_reducible (first | intro _ | refine rc ?_ | refine rl ?_ | refine rh ?_ | refine rt ?_ | refine rf ?_ | refine rs ?_ | refine And.intro ?_ ?_) | omega | simp (maxSteps := 1000000) only [go_sem, simprocAttr, ↓reduceIte])
  refine Ret.auto 0 ?_ rfl ?_ <;> simp only [go_sem, reduceCtorEq, reduceIte, Nat.reduceEqDiff, Nat.reduceLT, Nat.reduceLeDiff, Int.natCast_succ, Post, isL_eq]
theorem inWord_ok (c : UInt8) : FnOk Tryz.prog 76 [.int .u8 c.toNat] (.bool (inW c)) [] := by
  have k := letter_ok c
  refine FnOk.of_vc Tryz.func76 rfl (by decide) (by simp [Tryz.f76]) [.tmp 2] rfl fun w0 T0 _ => ?_
  simp only [Tryz.f76, argEnv]
  (repeat' first | with_reducible (first | intro _ | refine rc ?_ | refine rl ?_ | refine rh ?_ | refine rt ?_ | refine rf ?_ | refine rs ?_ | refine And.intro ?_ ?_) | omega | simp (maxSteps := 1000000) only [go_sem, simprocAttr, ↓reduceIte])
  refine VcCall.k k ?_
  (repeat' first | with_reducible (first | intro _ | refine rc ?_ | refine rl ?_ | refine rh ?_ | refine rt ?_ | refine rf ?_ | refine rs ?_ | refine And.intro ?_ ?_) | omega | simp (maxSteps := 1000000) only [go_sem, simprocAttr, ↓reduceIte])
  refine Ret.auto 0 ?_ rfl ?_ <;> simp only [go_sem, reduceCtorEq, reduceIte, Nat.reduceEqDiff, Nat.reduceLT, Nat.reduceLeDiff, Int.natCast_succ, Post, inW_eq]
theorem isWd_nil : isWd [] = false := by simp [isWd]
theorem isWd_long {s : List UInt8} (h : 40 < (s.length : Int)) : isWd s = false := by
  have : ¬ s.length ≤ 40 := by omega
  simp [isWd, this]
theorem isWd_mid {s : List UInt8} (h0 : ¬ s = []) (h1 : ¬ 40 < (s.length : Int)) : isWd s = (isL (s.getD 0 0) && isL (s.getD (s.length - 1) 0) && s.all inW) := by
  have h : s.length ≤ 40 := by omega
  have e1 : s.headD 0 = s.getD 0 0 := by cases s <;> rfl
  have e2 : s.getLastD 0 = s.getD (s.length - 1) 0 := by
    rw [List.getLastD_eq_getLast?, List.getLast?_eq_getElem?]; simp [List.getD]
  simp only [isWd, e1, e2, h0, h, ne_eq, not_false_eq_true, decide_true, Bool.true_and]
theorem all_of {s : List UInt8} (h : ∀ j, j < s.length → inW (s.getD j 0) = true) : s.all inW = true := by
  rw [List.all_eq_true]; intro x hx
  obtain ⟨j, hj, rfl⟩ := List.getElem_of_mem hx
  have := h j hj; rwa [getD_lt hj] at this
theorem all_not {s : List UInt8} {j : Nat} (hj : j < s.length) (h : inW (s.getD j 0) = false) : s.all inW = false := by
  rw [Bool.eq_false_iff]; intro ha
  rw [List.all_eq_true] at ha
  have := ha _ (List.getElem_mem hj)
  rw [getD_lt hj] at h; rw [h] at this; cases this
set_option maxHeartbeats 2000000 in
theorem isWordA_ok (s : List UInt8) : FnOk Tryz.prog 67 [.str s] (.bool (isWd s)) [] := by
  refine FnOk.of_vc Tryz.func67 rfl (by decide) (by simp [Tryz.f67]) [.tmp 2] rfl fun w0 T0 _ => ?_
  simp only [Tryz.f67, argEnv]
  by_cases h0 : s = []
  · (repeat' first | with_reducible (first | intro _ | refine rc ?_ | refine rl ?_ | refine rh ?_ | refine rt ?_ | refine rf ?_ | refine rs ?_ | refine And.intro ?_ ?_) | omega | simp (maxSteps := 1000000) only [go_sem, simprocAttr, ↓reduceIte, h0])
    refine Ret.auto 0 ?_ rfl ?_ <;> simp only [go_sem, reduceCtorEq, reduceIte, Nat.reduceEqDiff, Nat.reduceLT, Nat.reduceLeDiff, Int.natCast_succ, Post, isWd_nil]
  · by_cases h1 : 40 < (s.length : Int)
    · (repeat' first | with_reducible (first | intro _ | refine rc ?_ | refine rl ?_ | refine rh ?_ | refine rt ?_ | refine rf ?_ | refine rs ?_ | refine And.intro ?_ ?_) | omega | simp (maxSteps := 1000000) only [go_sem, simprocAttr, ↓reduceIte, h0, h1])
      refine Ret.auto 0 ?_ rfl ?_ <;> simp only [go_sem, reduceCtorEq, reduceIte, Nat.reduceEqDiff, Nat.reduceLT, Nat.reduceLeDiff, Int.natCast_succ, Post, isWd_long h1]
    · have hp : 0 < s.length := List.length_pos_iff.2 h0
      have hp2 : (0 : Int) < s.length := by omega
      have k := letter_ok (s.getD 0 0)
      have k2 := letter_ok (s.getD (s.length - 1) 0)
      have e := isWd_mid h0 h1
      have et : ((s.length : Int) - 1).toNat = s.length - 1 := by omega
      (repeat' first | with_reducible (first | intro _ | refine rc ?_ | refine rl ?_ | refine rh ?_ | refine rt ?_ | refine rf ?_ | refine rs ?_ | refine And.intro ?_ ?_) | omega | simp (maxSteps := 1000000) only [go_sem, simprocAttr, ↓reduceIte, h0, h1, hp2])
      refine VcCall.k k ?_
      cases hL : isL (s.getD 0 0) with
      | false =>
        (repeat' first | with_reducible (first | intro _ | refine rc ?_ | refine rl ?_ | refine rh ?_ | refine rt ?_ | refine rf ?_ | refine rs ?_ | refine And.intro ?_ ?_) | omega | simp (maxSteps := 1000000) only [go_sem, simprocAttr, ↓reduceIte, hL])
        refine Ret.auto 0 ?_ rfl ?_ <;> simp only [go_sem, reduceCtorEq, reduceIte, Nat.reduceEqDiff, Nat.reduceLT, Nat.reduceLeDiff, Int.natCast_succ, Post, e, hL, Bool.false_and]
      | true =>
        (repeat' first | with_reducible (first | intro _ | refine rc ?_ | refine rl ?_ | refine rh ?_ | refine rt ?_ | refine rf ?_ | refine rs ?_ | refine And.intro ?_ ?_) | omega | simp (maxSteps := 1000000) only [go_sem, simprocAttr, ↓reduceIte, hL, et])
        refine VcCall.k k2 ?_
        cases hL2 : isL (s.getD (s.length - 1) 0) with
        | false =>
          (repeat' first | with_reducible (first | intro _ | refine rc ?_ | refine rl ?_ | refine rh ?_ | refine rt ?_ | refine rf ?_ | refine rs ?_ | refine And.intro ?_ ?_) | omega | simp (maxSteps := 1000000) only [go_sem, simprocAttr, ↓reduceIte, hL2])
          refine Ret.auto 0 ?_ rfl ?_ <;> simp only [go_sem, reduceCtorEq, reduceIte, Nat.reduceEqDiff, Nat.reduceLT, Nat.reduceLeDiff, Int.natCast_succ, Post, e, hL, hL2, Bool.false_and, Bool.and_false]
        | true =>
          (repeat' first | with_reducible (first | intro _ | refine rc ?_ | refine rl ?_ | refine rh ?_ | refine rt ?_ | refine rf ?_ | refine rs ?_ | refine And.intro ?_ ?_) | omega | simp (maxSteps := 1000000) only [go_sem, simprocAttr, ↓reduceIte, hL2])
          refine VcLoop.intro (fun i : Nat => ⟨37, [(28, .int .i64 i), (27, .int .i64 s.length), (0, .str s)], [], 0⟩) (fun i => i ≤ s.length ∧ ∀ j, j < i → inW (s.getD j 0) = true) (fun i => s.length - i) 0 ?_ ⟨Nat.zero_le _, fun j hj => absurd hj (Nat.not_lt_zero j)⟩ fun i hi => ?_
          · refine Ent.auto0 rfl ?_ ?_ <;> simp only [go_sem, reduceCtorEq, reduceIte, Nat.reduceEqDiff, Nat.reduceLT, Nat.reduceLeDiff, Int.natCast_succ]
          obtain ⟨hi, ha⟩ := hi
          have k3 := inWord_ok (s.getD i 0)
          (repeat' first | with_reducible (first | intro _ | refine rc ?_ | refine rl ?_ | refine rh ?_ | refine rt ?_ | refine rf ?_ | refine rs ?_ | refine And.intro ?_ ?_) | omega | simp (maxSteps := 1000000) only [go_sem, simprocAttr, ↓reduceIte, Int.toNat_natCast])
          · refine VcCall.k k3 ?_
            cases hW : inW (s.getD i 0) with
            | false =>
              have hf := all_not (by omega) hW
              (repeat' first | with_reducible (first | intro _ | refine rc ?_ | refine rl ?_ | refine rh ?_ | refine rt ?_ | refine rf ?_ | refine rs ?_ | refine And.intro ?_ ?_) | omega | simp (maxSteps := 1000000) only [go_sem, simprocAttr, ↓reduceIte, hW])
              refine Ret.auto 0 ?_ rfl ?_ <;> simp only [go_sem, reduceCtorEq, reduceIte, Nat.reduceEqDiff, Nat.reduceLT, Nat.reduceLeDiff, Int.natCast_succ, Post, e, hf, Bool.and_false]
            | true =>
              (repeat' first | with_reducible (first | intro _ | refine rc ?_ | refine rl ?_ | refine rh ?_ | refine rt ?_ | refine rf ?_ | refine rs ?_ | refine And.intro ?_ ?_) | omega | simp (maxSteps := 1000000) only [go_sem, simprocAttr, ↓reduceIte, hW])
              refine ⟨i + 1, Ent.auto0 rfl ?_ ?_, ⟨by omega, fun j hj => ?_⟩, by omega⟩
              · simp only [go_sem, reduceCtorEq, reduceIte, Nat.reduceEqDiff, Nat.reduceLT, Nat.reduceLeDiff, Int.natCast_succ]
              · simp only [go_sem, reduceCtorEq, reduceIte, Nat.reduceEqDiff, Nat.reduceLT, Nat.reduceLeDiff, Int.natCast_succ]
              · by_cases hji : j = i
                · rw [hji]; exact hW
                · exact ha j (by omega)
          · have hf := all_of fun j hj => ha j (by omega)
            refine Ret.auto 0 ?_ rfl ?_ <;> simp only [go_sem, reduceCtorEq, reduceIte, Nat.reduceEqDiff, Nat.reduceLT, Nat.reduceLeDiff, Int.natCast_succ, Post, e, hL, hL2, hf, Bool.and_true]
end Go.Fv.Y

/- The trims at the quote. -/
namespace Go.Fv.Y
open Go Go.Proofs
set_option linter.unusedSimpArgs false
set_option linter.unusedVariables false
set_option linter.unnecessarySimpa false
set_option maxRecDepth 8000

theorem dropQ_q {s : List UInt8} (h0 : 0 < s.length) (h : (s.getD 0 0).toNat = 39) : dropQ (s.drop 1) = dropQ s := by
  cases s with
  | nil => simp at h0
  | cons c t =>
    have hc : c = 39 := UInt8.toNat_inj.1 h
    subst hc; rfl
theorem dropQ_n {s : List UInt8} (h : 0 < s.length → ¬ ((s.getD 0 0).toNat = 39)) : dropQ s = s := by
  cases s with
  | nil => rfl
  | cons c t =>
    have hc : ¬ c = 39 := fun e => h (by simp) (by subst e; rfl)
    simp [dropQ, qu, hc]
theorem dropR_snoc (t : List UInt8) (c : UInt8) : dropR (t ++ [c]) = if c = 39 then dropR t else t ++ [c] := by
  unfold dropR
  rw [List.reverse_append, List.reverse_singleton, List.singleton_append, List.dropWhile_cons]
  by_cases h : c = 39
  · simp [qu, h]
  · simp [qu, h]
theorem last_of {s : List UInt8} (h0 : 0 < s.length) : s = s.take (s.length - 1) ++ [s.getD (s.length - 1) 0] := by
  rw [getD_lt (by omega)]
  rw [List.take_append_getElem (by omega)]
  rw [List.take_of_length_le (by omega)]
theorem dropR_q {s : List UInt8} (h0 : 0 < s.length) (h : (s.getD (s.length - 1) 0).toNat = 39) : dropR (s.take (s.length - 1)) = dropR s := by
  have hc : s.getD (s.length - 1) 0 = 39 := UInt8.toNat_inj.1 h
  conv => rhs; rw [last_of h0, dropR_snoc, if_pos hc]
theorem dropR_n {s : List UInt8} (h : 0 < s.length → ¬ ((s.getD (s.length - 1) 0).toNat = 39)) : dropR s = s := by
  by_cases h0 : 0 < s.length
  · have hc : ¬ s.getD (s.length - 1) 0 = 39 := fun e => h h0 (by rw [e]; rfl)
    conv => lhs; rw [last_of h0, dropR_snoc, if_neg hc]
    exact (last_of h0).symm
  · have : s = [] := List.eq_nil_of_length_eq_zero (by omega)
    subst this; rfl
theorem dropQ_snoc (t : List UInt8) (c : UInt8) (h : ¬ c = 39) : dropQ (t ++ [c]) = dropQ t ++ [c] := by
  induction t with
  | nil => simp [dropQ, qu, h]
  | cons d t ih =>
    by_cases hd : d = 39
    · subst hd; exact ih
    · simp [dropQ, qu, hd]
theorem dropQ_app (t : List UInt8) : dropQ (t ++ [39]) = if dropQ t = [] then [] else dropQ t ++ [39] := by
  induction t with
  | nil => simp [dropQ, qu]
  | cons d t ih =>
    by_cases hd : d = 39
    · subst hd; exact ih
    · simp [dropQ, qu, hd]
/-- Either order of the two trims. -/
theorem drop_swap : ∀ (n : Nat) (s : List UInt8), s.length ≤ n → dropQ (dropR s) = dropR (dropQ s)
  | 0, s, h => by
    have : s = [] := List.eq_nil_of_length_eq_zero (by omega)
    subst this; rfl
  | n + 1, s, h => by
    by_cases h0 : 0 < s.length
    · rw [last_of h0]
      generalize hc : s.getD (s.length - 1) 0 = c
      have hl : (s.take (s.length - 1)).length ≤ n := by simp; omega
      generalize s.take (s.length - 1) = t at hl
      rw [dropR_snoc]
      by_cases h39 : c = 39
      · subst h39
        rw [if_pos rfl, dropQ_app, drop_swap n t hl]
        by_cases hq : dropQ t = []
        · rw [if_pos hq, hq]
        · rw [if_neg hq, dropR_snoc, if_pos rfl]
      · rw [if_neg h39, dropQ_snoc t c h39, dropR_snoc, if_neg h39]
    · have : s = [] := List.eq_nil_of_length_eq_zero (by omega)
      subst this; rfl
theorem midQ_eq (s : List UInt8) : dropQ (dropR s) = midQ s := drop_swap s.length s (Nat.le_refl _)

theorem trimLeftByte_ok (s : List UInt8) (hs : s.length ≤ 1000000000000) : FnOk Tryz.prog 77 [.str s, .int .u8 39] (.str (dropQ s)) [] := by
  refine FnOk.of_vc Tryz.func77 rfl (by decide) (by simp [Tryz.f77]) [.tmp 4] rfl fun w0 T0 _ => ?_
  simp only [Tryz.f77, argEnv]
  (repeat' first | with_reducible (first | intro _ | refine rc ?_ | refine rl ?_ | refine rh ?_ | refine rt ?_ | refine rf ?_ | refine rs ?_ | refine And.intro ?_ ?_) | omega | simp (maxSteps := 1000000) only [go_sem, simprocAttr, ↓reduceIte])
  refine VcLoop.intro (fun t : List UInt8 => ⟨17, [(0, .str t), (1, .int .u8 39)], [], 0⟩) (fun t => t.length ≤ 1000000000000 ∧ dropQ t = dropQ s) (fun t => t.length) s ?_ ⟨hs, rfl⟩ fun t ht => ?_
  · refine Ent.auto0 rfl ?_ ?_ <;> simp only [go_sem, reduceCtorEq, reduceIte, Nat.reduceEqDiff, Nat.reduceLT, Nat.reduceLeDiff, Int.natCast_succ]
  obtain ⟨hl, he⟩ := ht
  (repeat' first | with_reducible (first | intro _ | refine rc ?_ | refine rl ?_ | refine rh ?_ | refine rt ?_ | refine rf ?_ | refine rs ?_ | refine And.intro ?_ ?_) | omega | simp (maxSteps := 1000000) only [go_sem, simprocAttr, ↓reduceIte])
  · refine ⟨t.drop 1, Ent.auto0 rfl ?_ ?_, ⟨?_, ?_⟩, ?_⟩
    · simp only [go_sem, reduceCtorEq, reduceIte, Nat.reduceEqDiff, Nat.reduceLT, Nat.reduceLeDiff, Int.natCast_succ]
      exact List.take_of_length_le (by simp)
    · simp only [go_sem, reduceCtorEq, reduceIte, Nat.reduceEqDiff, Nat.reduceLT, Nat.reduceLeDiff, Int.natCast_succ]
    · simp; omega
    · rw [dropQ_q (by omega) (by omega)]; exact he
    · simp; omega
  · have e : t = dropQ s := by rw [← he, dropQ_n (fun h => by omega)]
    refine Ret.auto 0 ?_ rfl ?_ <;> simp only [go_sem, reduceCtorEq, reduceIte, Nat.reduceEqDiff, Nat.reduceLT, Nat.reduceLeDiff, Int.natCast_succ, Post, e]
theorem trimRightByte_ok (s : List UInt8) (hs : s.length ≤ 1000000000000) : FnOk Tryz.prog 78 [.str s, .int .u8 39] (.str (dropR s)) [] := by
  refine FnOk.of_vc Tryz.func78 rfl (by decide) (by simp [Tryz.f78]) [.tmp 4] rfl fun w0 T0 _ => ?_
  simp only [Tryz.f78, argEnv]
  (repeat' first | with_reducible (first | intro _ | refine rc ?_ | refine rl ?_ | refine rh ?_ | refine rt ?_ | refine rf ?_ | refine rs ?_ | refine And.intro ?_ ?_) | omega | simp (maxSteps := 1000000) only [go_sem, simprocAttr, ↓reduceIte])
  refine VcLoop.intro (fun t : List UInt8 => ⟨23, [(0, .str t), (1, .int .u8 39)], [], 0⟩) (fun t => t.length ≤ 1000000000000 ∧ dropR t = dropR s) (fun t => t.length) s ?_ ⟨hs, rfl⟩ fun t ht => ?_
  · refine Ent.auto0 rfl ?_ ?_ <;> simp only [go_sem, reduceCtorEq, reduceIte, Nat.reduceEqDiff, Nat.reduceLT, Nat.reduceLeDiff, Int.natCast_succ]
  obtain ⟨hl, he⟩ := ht
  have et : ((t.length : Int) - 1).toNat = t.length - 1 := by omega
  (repeat' first | with_reducible (first | intro _ | refine rc ?_ | refine rl ?_ | refine rh ?_ | refine rt ?_ | refine rf ?_ | refine rs ?_ | refine And.intro ?_ ?_) | omega | simp (maxSteps := 1000000) only [go_sem, simprocAttr, ↓reduceIte, et])
  · refine ⟨t.take (t.length - 1), Ent.auto0 rfl ?_ ?_, ⟨?_, ?_⟩, ?_⟩
    · simp only [go_sem, reduceCtorEq, reduceIte, Nat.reduceEqDiff, Nat.reduceLT, Nat.reduceLeDiff, Int.natCast_succ, et]
      rfl
    · simp only [go_sem, reduceCtorEq, reduceIte, Nat.reduceEqDiff, Nat.reduceLT, Nat.reduceLeDiff, Int.natCast_succ]
    · simp; omega
    · rw [dropR_q (by omega) (by omega)]; exact he
    · simp; omega
  · have e : t = dropR s := by rw [← he, dropR_n (fun h => by omega)]
    refine Ret.auto 0 ?_ rfl ?_ <;> simp only [go_sem, reduceCtorEq, reduceIte, Nat.reduceEqDiff, Nat.reduceLT, Nat.reduceLeDiff, Int.natCast_succ, Post, e]
theorem trimLeft_ok (s : List UInt8) (hs : s.length ≤ 1000000000000) : FnOk Tryz.prog 102 [.str s, .str [39]] (.str (dropQ s)) [] := by
  have k := trimLeftByte_ok s hs
  have one : ((1 : Nat) : Int) = 1 := rfl
  have q39 : ((([39] : List UInt8).getD 0 0).toNat : Int) = 39 := rfl
  have l39 : (39 : Int) < 128 := by decide
  refine FnOk.of_vc Tryz.func102 rfl (by decide) (by simp [Tryz.f102]) [.tmp 4] rfl fun w0 T0 _ => ?_
  simp only [Tryz.f102, argEnv]
  by_cases h0 : s = []
  · have e : dropQ [] = [] := rfl
    (repeat' first | with_reducible (first | intro _ | refine rc ?_ | refine rl ?_ | refine rh ?_ | refine rt ?_ | refine rf ?_ | refine rs ?_ | refine And.intro ?_ ?_) | omega | simp (maxSteps := 1000000) only [go_sem, simprocAttr, ↓reduceIte, h0])
    refine Ret.auto 0 ?_ rfl ?_ <;> simp only [go_sem, reduceCtorEq, reduceIte, Nat.reduceEqDiff, Nat.reduceLT, Nat.reduceLeDiff, Int.natCast_succ, Post, e]
  · (repeat' first | with_reducible (first | intro _ | refine rc ?_ | refine rl ?_ | refine rh ?_ | refine rt ?_ | refine rf ?_ | refine rs ?_ | refine And.intro ?_ ?_) | omega | simp (maxSteps := 1000000) only [go_sem, simprocAttr, ↓reduceIte, h0, one, q39, l39])
    refine VcCall.k k ?_
    (repeat' first | with_reducible (first | intro _ | refine rc ?_ | refine rl ?_ | refine rh ?_ | refine rt ?_ | refine rf ?_ | refine rs ?_ | refine And.intro ?_ ?_) | omega | simp (maxSteps := 1000000) only [go_sem, simprocAttr, ↓reduceIte, one, q39])
    refine Ret.auto 0 ?_ rfl ?_ <;> simp only [go_sem, reduceCtorEq, reduceIte, Nat.reduceEqDiff, Nat.reduceLT, Nat.reduceLeDiff, Int.natCast_succ, Post]
theorem trimRight_ok (s : List UInt8) (hs : s.length ≤ 1000000000000) : FnOk Tryz.prog 84 [.str s, .str [39]] (.str (dropR s)) [] := by
  have k := trimRightByte_ok s hs
  have one : ((1 : Nat) : Int) = 1 := rfl
  have q39 : ((([39] : List UInt8).getD 0 0).toNat : Int) = 39 := rfl
  have l39 : (39 : Int) < 128 := by decide
  refine FnOk.of_vc Tryz.func84 rfl (by decide) (by simp [Tryz.f84]) [.tmp 4] rfl fun w0 T0 _ => ?_
  simp only [Tryz.f84, argEnv]
  by_cases h0 : s = []
  · have e : dropR [] = [] := rfl
    (repeat' first | with_reducible (first | intro _ | refine rc ?_ | refine rl ?_ | refine rh ?_ | refine rt ?_ | refine rf ?_ | refine rs ?_ | refine And.intro ?_ ?_) | omega | simp (maxSteps := 1000000) only [go_sem, simprocAttr, ↓reduceIte, h0])
    refine Ret.auto 0 ?_ rfl ?_ <;> simp only [go_sem, reduceCtorEq, reduceIte, Nat.reduceEqDiff, Nat.reduceLT, Nat.reduceLeDiff, Int.natCast_succ, Post, e]
  · (repeat' first | with_reducible (first | intro _ | refine rc ?_ | refine rl ?_ | refine rh ?_ | refine rt ?_ | refine rf ?_ | refine rs ?_ | refine And.intro ?_ ?_) | omega | simp (maxSteps := 1000000) only [go_sem, simprocAttr, ↓reduceIte, h0, one, q39, l39])
    refine VcCall.k k ?_
    (repeat' first | with_reducible (first | intro _ | refine rc ?_ | refine rl ?_ | refine rh ?_ | refine rt ?_ | refine rf ?_ | refine rs ?_ | refine And.intro ?_ ?_) | omega | simp (maxSteps := 1000000) only [go_sem, simprocAttr, ↓reduceIte, one, q39])
    refine Ret.auto 0 ?_ rfl ?_ <;> simp only [go_sem, reduceCtorEq, reduceIte, Nat.reduceEqDiff, Nat.reduceLT, Nat.reduceLeDiff, Int.natCast_succ, Post]
theorem dropR_len (s : List UInt8) : (dropR s).length ≤ s.length := by
  unfold dropR
  have := takeWhile_len_le qu s.reverse
  simp at this ⊢; omega
end Go.Fv.Y

/- strings.Index, strings.Count, by the contracts of the shelf. -/
namespace Go.Proofs
open Go.Shelf
def Tryz.lays143_ren : Go.Shelf.Ren := ⟨fun | 143 => 72 | 219 => 108 | 217 => 141 | 225 => 142 | 224 => 143 | 267 => 144 | 266 => 166 | 314 => 167 | n => n, fun | 9 => 9 | 3 => 3 | 4 => 4 | 5 => 5 | 46 => 145 | 146 => 195 | 51 => 165 | n => n, fun | 1 => 0 | n => n⟩
theorem Tryz.lays143 : Go.Proofs.LaysM.n143 Tryz.prog Tryz.lays143_ren := {
  mixed := by kernel_rfl
  f143 := Tryz.func72.trans (congrArg some (by kernel_rfl))
  f217 := Tryz.func141.trans (congrArg some (by kernel_rfl))
  f219 := Tryz.func108.trans (congrArg some (by kernel_rfl))
  f224 := Tryz.func143.trans (congrArg some (by kernel_rfl))
  f225 := Tryz.func142.trans (congrArg some (by kernel_rfl))
  f266 := Tryz.func166.trans (congrArg some (by kernel_rfl))
  f267 := Tryz.func144.trans (congrArg some (by kernel_rfl))
  f314 := Tryz.func167.trans (congrArg some (by kernel_rfl))
  t3 := Tryz.underlying3
  a3 := Tryz.isAgg3
  z3 := Tryz.sizeOf3
  v3 := Tryz.zeroValue3
  t4 := Tryz.underlying4
  a4 := Tryz.isAgg4
  z4 := Tryz.sizeOf4
  v4 := Tryz.zeroValue4
  t5 := Tryz.underlying5
  a5 := Tryz.isAgg5
  z5 := Tryz.sizeOf5
  v5 := Tryz.zeroValue5
  t9 := Tryz.underlying9
  a9 := Tryz.isAgg9
  z9 := Tryz.sizeOf9
  v9 := Tryz.zeroValue9
  t46 := Tryz.underlying145
  a46 := Tryz.isAgg145
  z46 := Tryz.sizeOf145
  v46 := Tryz.zeroValue145
  t51 := Tryz.underlying165
  a51 := Tryz.isAgg165
  z51 := Tryz.sizeOf165
  v51 := Tryz.zeroValue165
  t146 := Tryz.underlying195
  a146 := Tryz.isAgg195
  z146 := Tryz.sizeOf195
  v146 := Tryz.zeroValue195
  g1 := by kernel_rfl
  i3 := by kernel_rfl
  i4 := by kernel_rfl
  i5 := by kernel_rfl
  i9 := by kernel_rfl
  i46 := by kernel_rfl
  i51 := by kernel_rfl
  i146 := by kernel_rfl
  m1 := by kernel_rfl
  s1_3 := fun w h => Go.Proofs.cell_of_shapedOpen_int (zero := #[.int .i64 0]) (t := 3) h (of_decide_eq_true (by kernel_rfl)) (by kernel_rfl) rfl (by kernel_rfl) (by kernel_rfl) Tryz.underlying3 }
end Go.Proofs
namespace Go.Proofs
open Go.Shelf
end Go.Proofs
namespace Go.Fv.Y
open Go Go.Proofs
set_option linter.unusedSimpArgs false
set_option linter.unusedVariables false
set_option linter.unnecessarySimpa false
set_option maxRecDepth 8000

theorem index_ok (s t : List UInt8) (hs : s.length ≤ 1048576) : FnOk Tryz.prog 72 [.str s, .str t] (.int .i64 (Lib.index s t)) [] := by
  refine ⟨⟨_, Tryz.func72, by kernel_rfl, by kernel_rfl⟩, fun w T vals hg hv => ?_⟩
  obtain ⟨m, t0, _, hm⟩ := hg 0 .i64 (by kernel_rfl)
  cases hv with
  | cons _ _ _ _ h1 hv => cases hv with
    | cons _ _ _ _ h2 hv =>
      cases hv
      cases h1 with
      | str _ e1 => cases h2 with
        | str _ e2 =>
          have L := Tryz.lays143
          refine (Any.strings_Index { L with } ⟨s.toArray⟩ ⟨t.toArray⟩ m w ?_ ?_).mono ?_
          · show s.toArray.size < 4294967281
            simp; omega
          · simp [World.cell?, Tryz.lays143_ren, hm]
          · rintro e w' ⟨rfl, rfl⟩
            refine ⟨_, rfl, BelowD.refl _ _, fun _ => undef, 0, ?_, ?_, ?_⟩
            · have h1 := Lib.index_ge s t
              have h2 := Lib.index_le s t
              have e1 : IntKind.i64.min = -9223372036854775808 := by decide
              have e2 : IntKind.i64.max = 9223372036854775807 := by decide
              exact .int .i64 _ ⟨by rw [e1]; omega, by rw [e2]; omega⟩
            · intro i it h; cases h
            · intro i j it jt b h; cases h
end Go.Fv.Y

/- The steps of the tokens, by places of the text. -/
namespace Go.Fv.Y
open Go
set_option linter.unusedSimpArgs false
set_option linter.unusedVariables false
set_option linter.unnecessarySimpa false

/-- What is from a up to b. -/
def sub (s : Bytes) (a b : Nat) : Bytes := (s.drop a).take (b - a)
theorem sub_self (s : Bytes) (a : Nat) : sub s a a = [] := by simp [sub]
theorem sub_app {s : Bytes} {a b c : Nat} (h : a ≤ b) (h2 : b ≤ c) : sub s a b ++ sub s b c = sub s a c := by
  unfold sub
  have e : c - a = (b - a) + (c - b) := by omega
  rw [e, List.take_add, List.drop_drop]
  congr 3; omega
theorem sub_one {s : Bytes} {i : Nat} (h : i < s.length) : sub s i (i + 1) = [s.getD i 0] := by
  unfold sub
  rw [List.drop_eq_getElem_cons h, getD_lt h, show i + 1 - i = 1 by omega]; rfl
/-- Where the row of letters ends. -/
theorem run_at {s : Bytes} : ∀ (n i k : Nat), k - i ≤ n → i ≤ k → k ≤ s.length → (∀ j, i ≤ j → j < k → inW (s.getD j 0) = true) → (k < s.length → inW (s.getD k 0) = false) →
    (s.drop i).takeWhile inW = sub s i k ∧ (s.drop i).dropWhile inW = s.drop k
  | 0, i, k, hn, h1, h2, h3, h4 => by
    have : i = k := by omega
    subst this
    rw [sub_self]
    by_cases h : i < s.length
    · have := h4 h
      rw [getD_lt h] at this
      rw [List.drop_eq_getElem_cons h, List.takeWhile_cons, List.dropWhile_cons, this]
      exact ⟨rfl, rfl⟩
    · rw [List.drop_of_length_le (by omega)]; exact ⟨rfl, rfl⟩
  | n + 1, i, k, hn, h1, h2, h3, h4 => by
    by_cases h : i = k
    · exact run_at 0 i k (by omega) h1 h2 h3 h4
    · have hi : i < s.length := by omega
      obtain ⟨e1, e2⟩ := run_at n (i + 1) k (by omega) (by omega) h2 (fun j hj hk => h3 j (by omega) hk) h4
      have hw := h3 i (Nat.le_refl _) (by omega)
      rw [← sub_app (s := s) (a := i) (b := i + 1) (c := k) (by omega) (by omega), sub_one hi, List.drop_eq_getElem_cons hi]
      rw [getD_lt hi] at hw ⊢
      rw [List.takeWhile_cons, List.dropWhile_cons, hw, if_pos rfl, if_pos rfl, e1, e2]
      exact ⟨rfl, rfl⟩
/-- The quotes ahead. -/
def preN (t : Bytes) : Nat := (preQ t).length
theorem preN_le (t : Bytes) : preN t + (midQ t).length ≤ t.length := by
  have := congrArg List.length (three t)
  simp only [List.length_append] at this
  unfold preN; omega
end Go.Fv.Y

/- The reference's way to cut the quotes. -/
namespace Go.Fv.Y
open Go
set_option linter.unusedSimpArgs false
set_option linter.unusedVariables false
set_option linter.unnecessarySimpa false

theorem preN_eq (t : Bytes) : t.length - (dropQ t).length = preN t := by
  have := congrArg List.length (pre_drop t)
  simp only [List.length_append] at this
  unfold preN; omega
theorem pre_of {r q t : Bytes} (h : r ++ q = t) (h2 : dropQ r ≠ []) : preQ t = preQ r := by
  subst h
  have := congrArg List.length (pre_drop r)
  have h3 : 0 < (dropQ r).length := List.length_pos_iff.2 h2
  simp only [List.length_append] at this
  unfold preQ at this ⊢
  rw [List.takeWhile_append, if_neg (by omega)]
theorem pre_all {r q t : Bytes} (h : r ++ q = t) (h2 : dropQ r = []) : r.length ≤ preN t := by
  subst h
  have := congrArg List.length (pre_drop r)
  rw [h2] at this
  simp only [List.length_append, List.length_nil] at this
  unfold preN preQ at *
  rw [List.takeWhile_append, if_pos (by omega)]
  simp
theorem cut_none {t : Bytes} (h : midQ t = []) : (dropR t).length ≤ preN t := by
  rw [← midQ_eq] at h
  exact pre_all (mid_post t) h
theorem cut_some {t : Bytes} (h : midQ t ≠ []) : (dropR t).length = preN t + (midQ t).length := by
  have h' := h
  rw [← midQ_eq] at h'
  have := pre_of (mid_post t) h'
  have h3 := congrArg List.length (pre_drop (dropR t))
  rw [midQ_eq, ← this] at h3
  simp only [List.length_append] at h3
  unfold preN; omega
theorem cut_parts {t : Bytes} {a b : Nat} (ha : preN t = a) (hb : a + (midQ t).length = b) : t.take a = preQ t ∧ (t.drop a).take (b - a) = midQ t ∧ t.drop b = postQ (dropQ t) := by
  have h3 := three t
  have e1 : preN t = (preQ t).length := rfl
  generalize preQ t = x at *
  generalize midQ t = y at *
  generalize postQ (dropQ t) = z at *
  rw [← h3]
  have e2 : a = x.length := by omega
  subst e2
  refine ⟨?_, ?_, ?_⟩
  · rw [List.take_append_of_le_length (Nat.le_refl _), List.take_of_length_le (Nat.le_refl _)]
  · rw [List.drop_append_of_le_length (Nat.le_refl _), List.drop_of_length_le (Nat.le_refl _), List.nil_append, List.take_append_of_le_length (by omega), List.take_of_length_le (by omega)]
  · rw [← List.append_assoc, List.drop_append_of_le_length (by simp; omega), List.drop_of_length_le (by simp; omega), List.nil_append]
theorem inW_ne {c : UInt8} (h : inW c = true) (h2 : qu c = false) : isL c = true := by
  unfold inW at h
  have : ¬ c = 39 := by simpa [qu] using h2
  simpa [this] using h
theorem midQ_head {t : Bytes} (h : midQ t ≠ []) : qu ((midQ t).getD 0 0) = false := by
  have e := midQ_eq t
  have h2 := List.head?_dropWhile_not qu (dropR t)
  rw [show (dropR t).dropWhile qu = dropQ (dropR t) from rfl, e] at h2
  cases hm : midQ t with
  | nil => exact absurd hm h
  | cons c l => rw [hm] at h2; simpa using h2
theorem midQ_last {t : Bytes} (h : midQ t ≠ []) : qu ((midQ t).getD ((midQ t).length - 1) 0) = false := by
  have h2 := List.head?_dropWhile_not qu (dropQ t).reverse
  have e : ((dropQ t).reverse.dropWhile qu) = (midQ t).reverse := by unfold midQ dropR; rw [List.reverse_reverse]
  rw [e, List.head?_reverse] at h2
  rw [List.getLast?_eq_getElem?] at h2
  have hl : 0 < (midQ t).length := List.length_pos_iff.2 h
  rw [List.getElem?_eq_getElem (by omega)] at h2
  rw [getD_lt (by omega)]
  simpa using h2
theorem midQ_mem {t : Bytes} {x : UInt8} (h : x ∈ midQ t) : x ∈ t := by
  rw [← three t]; simp [h]
/-- Of a row of letters and quotes, a word is what is not too long. -/
theorem isWd_row {t : Bytes} (ha : t.all inW = true) : isWd (midQ t) = true ↔ midQ t ≠ [] ∧ (midQ t).length ≤ 40 := by
  constructor
  · intro h
    refine ⟨fun e => ?_, ?_⟩
    · rw [e, isWd_nil] at h; cases h
    · by_cases h2 : 40 < ((midQ t).length : Int)
      · rw [isWd_long h2] at h; cases h
      · omega
  · rintro ⟨h1, h2⟩
    rw [isWd_mid h1 (by omega)]
    have hl : 0 < (midQ t).length := List.length_pos_iff.2 h1
    rw [List.all_eq_true] at ha
    have hin : ∀ j, j < (midQ t).length → inW ((midQ t).getD j 0) = true := fun j hj => by
      rw [getD_lt hj]; exact ha _ (midQ_mem (List.getElem_mem hj))
    rw [inW_ne (hin 0 hl) (midQ_head h1), inW_ne (hin _ (by omega)) (midQ_last h1), all_of hin]; rfl
theorem cut_dec {t : Bytes} (ha : t.all inW = true) : (preN t ≥ (dropR t).length ∨ (dropR t).length - preN t > 40) ↔ isWd (midQ t) = false := by
  rw [← Bool.not_eq_true, isWd_row ha]
  by_cases h : midQ t = []
  · have := cut_none h
    simp [h]; omega
  · have := cut_some h
    have hl : 0 < (midQ t).length := List.length_pos_iff.2 h
    simp only [h, ne_eq, not_false_eq_true, true_and]; omega
theorem takeW_all (u : Bytes) : (u.takeWhile inW).all inW = true := List.all_takeWhile
end Go.Fv.Y
