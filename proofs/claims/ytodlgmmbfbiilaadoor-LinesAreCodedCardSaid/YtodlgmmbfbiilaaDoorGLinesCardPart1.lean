/-
  A part of the proof of the claim: walks over the program's functions and the plain laws that these need. No condition of its own.
-/
import Derived.Test.YtodlgmmbfbiilaaDoorFvPart10
import Derived.Test.YtodlgmmbfbiilaaDoorProg
import Derived.Shelf.Spec.TrailingZeros
/- Tokens of a text: what Split and its reference compute, in plain words. -/
namespace Go.Fv.G
open Go
set_option linter.unusedSimpArgs false
set_option linter.unusedVariables false
set_option linter.unnecessarySimpa false

abbrev Bytes := List UInt8
end Go.Fv.G

/- Numbers in bits, in plain words. -/
namespace Go.Fv.G
open Go
set_option linter.unusedSimpArgs false
set_option linter.unusedVariables false
set_option linter.unnecessarySimpa false

def digB (n : Nat) : UInt8 := if n % 2 = 1 then 49 else 48
/-- A number in base 2. -/
def binB (n : Nat) : Bytes := if h : n < 2 then [digB n] else binB (n / 2) ++ [digB n]
termination_by n
decreasing_by omega
def gamB (n : Nat) : Bytes := List.replicate ((binB n).length - 1) 48 ++ binB n
/-- The value of binary digits. -/
def valB (l : Bytes) : Nat := l.foldl (fun a c => 2 * a + (c.toNat - 48)) 0
def is01 (c : UInt8) : Bool := decide (c = 48 ∨ c = 49)
def zer (c : UInt8) : Bool := decide (c = 48)
def leadB (s : Bytes) : Nat := (s.takeWhile zer).length
/-- What is read: the number, and how long it is. -/
def rdG (s : Bytes) : Option (Nat × Nat) :=
  if leadB s ≤ 20 ∧ 2 * leadB s + 1 ≤ s.length ∧ ((s.drop (leadB s)).take (leadB s + 1)).all is01 = true ∧ valB ((s.drop (leadB s)).take (leadB s + 1)) ≤ 1048576 then
    some (valB ((s.drop (leadB s)).take (leadB s + 1)), 2 * leadB s + 1) else none

theorem binB_lt {n : Nat} (h : n < 2) : binB n = [digB n] := by rw [binB, dif_pos h]
theorem binB_ge {n : Nat} (h : ¬ n < 2) : binB n = binB (n / 2) ++ [digB n] := by rw [binB, dif_neg h]
theorem digB_val (n : Nat) : (digB n).toNat - 48 = n % 2 := by
  unfold digB
  split
  · rename_i h; rw [h]; rfl
  · have : n % 2 = 0 := by omega
    rw [this]; rfl
theorem digB_01 (n : Nat) : is01 (digB n) = true := by unfold digB; split <;> decide
theorem valB_snoc (l : Bytes) (c : UInt8) : valB (l ++ [c]) = 2 * valB l + (c.toNat - 48) := by unfold valB; rw [List.foldl_append]; rfl
theorem valB_bin : ∀ n : Nat, valB (binB n) = n
  | n => by
    by_cases h : n < 2
    · rw [binB_lt h]
      show 2 * 0 + ((digB n).toNat - 48) = n
      rw [digB_val]; omega
    · rw [binB_ge h, valB_snoc, digB_val, valB_bin (n / 2)]; omega
termination_by n => n
theorem bin_01 : ∀ n : Nat, (binB n).all is01 = true
  | n => by
    by_cases h : n < 2
    · rw [binB_lt h]; simp [digB_01]
    · rw [binB_ge h, List.all_append, bin_01 (n / 2)]; simp [digB_01]
termination_by n => n
theorem bin_head : ∀ n : Nat, 1 ≤ n → ∃ l, binB n = 49 :: l
  | n, h1 => by
    by_cases h : n < 2
    · have : n = 1 := by omega
      subst this
      exact ⟨[], by rw [binB_lt h]; rfl⟩
    · obtain ⟨l, hl⟩ := bin_head (n / 2) (by omega)
      exact ⟨l ++ [digB n], by rw [binB_ge h, hl]; rfl⟩
termination_by n => n
theorem bin_len : ∀ (k n : Nat), n < 2 ^ (k + 1) → (binB n).length ≤ k + 1
  | 0, n, h => by rw [binB_lt (by simpa using h)]; exact Nat.le_refl _
  | k + 1, n, h => by
    by_cases h2 : n < 2
    · rw [binB_lt h2]; simp
    · rw [binB_ge h2, List.length_append]
      have := bin_len k (n / 2) (by rw [Nat.pow_succ] at h; omega)
      simp only [List.length_singleton]; omega
theorem bin_pos (n : Nat) : 1 ≤ (binB n).length := by
  by_cases h : n < 2
  · rw [binB_lt h]; exact Nat.le_refl _
  · rw [binB_ge h, List.length_append]; simp
theorem lead_rep (m : Nat) (l : Bytes) : leadB (List.replicate m 48 ++ 49 :: l) = m := by
  unfold leadB
  induction m with
  | zero => simp [List.takeWhile_cons, zer]
  | succ m ih => rw [List.replicate_succ, List.cons_append, List.takeWhile_cons, if_pos (by decide), List.length_cons, ih]
theorem gam_len (n : Nat) : (gamB n).length = 2 * (binB n).length - 1 := by
  have := bin_pos n
  unfold gamB
  rw [List.length_append, List.length_replicate]; omega
/-- What is written is read. -/
theorem rdG_gam {n : Nat} (h1 : 1 ≤ n) (h2 : n ≤ 1048576) (r : Bytes) : rdG (gamB n ++ r) = some (n, (gamB n).length) := by
  obtain ⟨l, hl⟩ := bin_head n h1
  have hlen := bin_len 20 n (by rw [show (2 : Nat) ^ (20 + 1) = 2097152 from rfl]; omega)
  have hp := bin_pos n
  have e : gamB n ++ r = List.replicate ((binB n).length - 1) 48 ++ 49 :: (l ++ r) := by
    unfold gamB; rw [List.append_assoc, hl]; rfl
  have hlead : leadB (gamB n ++ r) = (binB n).length - 1 := by rw [e]; exact lead_rep _ _
  have hb : ((gamB n ++ r).drop ((binB n).length - 1)).take ((binB n).length - 1 + 1) = binB n := by
    unfold gamB
    rw [List.append_assoc, List.drop_left' (by simp), Nat.sub_add_cancel hp, List.take_left]
  have hgl := gam_len n
  unfold rdG
  rw [hlead, hb, bin_01, valB_bin, if_pos ⟨by omega, by rw [List.length_append, hgl]; omega, rfl, h2⟩, hgl]
  congr 2
  omega
end Go.Fv.G

/- Rows coded by the row above, in plain words. -/
namespace Go.Fv.G
open Go
set_option linter.unusedSimpArgs false
set_option linter.unusedVariables false
set_option linter.unnecessarySimpa false

/-- The pixel ahead of place i; ahead of the first there is no ink. -/
def pxP (r : List Bool) (i : Nat) : Bool := if i = 0 then false else r.getD (i - 1) false
/-- The first change of a row from place i on, or its end. -/
def chg (r : List Bool) (i : Nat) : Nat := if h : i < r.length then (if r.getD i false = pxP r i then chg r (i + 1) else i) else r.length
termination_by r.length - i
def chTo (r : List Bool) (i : Nat) (c : Bool) : Nat := if chg r i < r.length ∧ r.getD (chg r i) false ≠ c then chg r (chg r i + 1) else chg r i
theorem chg_lt {r : List Bool} {i : Nat} (h : i < r.length) : chg r i = if r.getD i false = pxP r i then chg r (i + 1) else i := by rw [chg, dif_pos h]
theorem chg_end {r : List Bool} {i : Nat} (h : ¬ i < r.length) : chg r i = r.length := by rw [chg, dif_neg h]
theorem pxP_succ (r : List Bool) (i : Nat) : pxP r (i + 1) = r.getD i false := by unfold pxP; rw [if_neg (by omega)]; rfl
theorem chg_le (r : List Bool) (i : Nat) : chg r i ≤ r.length := by
  by_cases h : i < r.length
  · rw [chg_lt h]
    split
    · exact chg_le r (i + 1)
    · omega
  · rw [chg_end h]; exact Nat.le_refl _
termination_by r.length - i
theorem chg_ge {r : List Bool} {i : Nat} (hi : i ≤ r.length) : i ≤ chg r i := by
  by_cases h : i < r.length
  · rw [chg_lt h]
    split
    · have := chg_ge (r := r) (i := i + 1) (by omega); omega
    · omega
  · rw [chg_end h]; omega
termination_by r.length - i
theorem chg_same {r : List Bool} {i j : Nat} (h1 : i ≤ j) (h2 : j < chg r i) : r.getD j false = pxP r i := by
  by_cases h : i < r.length
  · rw [chg_lt h] at h2
    split at h2
    · rename_i he
      by_cases e : j = i
      · subst e; exact he
      · have := chg_same (r := r) (i := i + 1) (j := j) (by omega) h2
        rw [this, pxP_succ, he]
    · omega
  · rw [chg_end h] at h2; omega
termination_by r.length - i
theorem chg_diff {r : List Bool} {i : Nat} (h2 : chg r i < r.length) : r.getD (chg r i) false = !pxP r i := by
  by_cases h : i < r.length
  · rw [chg_lt h] at h2 ⊢
    split
    · rename_i he
      rw [if_pos he] at h2
      rw [chg_diff h2, pxP_succ, he]
    · rename_i he
      generalize r.getD i false = a at he ⊢
      generalize pxP r i = b at he ⊢
      cases a <;> cases b <;> simp_all
  · rw [chg_end h] at h2; omega
termination_by r.length - i
theorem chTo_ge {r : List Bool} {i : Nat} (hi : i ≤ r.length) (c : Bool) : i ≤ chTo r i c ∧ chTo r i c ≤ r.length := by
  unfold chTo
  have h1 := chg_ge hi
  have h2 := chg_le r i
  split
  · rename_i h
    have h3 := chg_ge (r := r) (i := chg r i + 1) (by omega)
    exact ⟨by omega, chg_le _ _⟩
  · exact ⟨h1, h2⟩
def passC : Bytes := [48, 48, 48, 49]
def farC : Bytes := [48, 48, 49]
def nearCs : List Bytes := [[48, 48, 48, 48, 48, 49, 48], [48, 48, 48, 48, 49, 48], [48, 49, 48], [49], [48, 49, 49], [48, 48, 48, 48, 49, 49], [48, 48, 48, 48, 48, 49, 49]]
/-- A step of the coding: the code, where the next one begins (one behind a), and the colour there. -/
structure LSt where
  c : Bytes
  p : Nat
  k : Bool
def lnStep (row above : List Bool) (p : Nat) (ink : Bool) : LSt :=
  if chg above (chTo above p (!ink) + 1) < chg row p then ⟨passC, chg above (chTo above p (!ink) + 1) + 1, ink⟩
  else if chg row p ≤ chTo above p (!ink) + 3 ∧ chTo above p (!ink) ≤ chg row p + 3 then ⟨nearCs.getD (chg row p + 3 - chTo above p (!ink)) [], chg row p + 1, !ink⟩
  else ⟨farC ++ (gamB (chg row p - (p - 1) + 1) ++ gamB (chg row (chg row p + 1) - chg row p + 1)), chg row (chg row p + 1) + 1, ink⟩
theorem lnStep_lt {row above : List Bool} (hw : above.length = row.length) {p : Nat} (hp : p ≤ row.length) (ink : Bool) : p < (lnStep row above p ink).p ∧ (lnStep row above p ink).p ≤ row.length + 1 := by
  have h1 := chg_ge hp
  have h2 := chg_le row p
  obtain ⟨b1, b2⟩ := chTo_ge (r := above) (i := p) (by omega) (!ink)
  have b3 := chg_le above (chTo above p (!ink) + 1)
  unfold lnStep
  split
  · dsimp only
    by_cases h : chTo above p (!ink) < above.length
    · have := chg_ge (r := above) (i := chTo above p (!ink) + 1) (by omega); omega
    · rw [chg_end (r := above) (i := chTo above p (!ink) + 1) (by omega)]; omega
  · split
    · dsimp only; omega
    · dsimp only
      have h3 := chg_le row (chg row p + 1)
      by_cases h : chg row p < row.length
      · have := chg_ge (r := row) (i := chg row p + 1) (by omega); omega
      · rw [chg_end (r := row) (i := chg row p + 1) (by omega)]; omega
def lnGo (row above : List Bool) (p : Nat) (ink : Bool) : Bytes :=
  if h : p ≤ row.length then
    if h2 : p < (lnStep row above p ink).p then (lnStep row above p ink).c ++ lnGo row above (lnStep row above p ink).p (lnStep row above p ink).k else []
  else []
termination_by row.length + 1 - p
theorem lnGo_step {row above : List Bool} (hw : above.length = row.length) {p : Nat} (hp : p ≤ row.length) (ink : Bool) : lnGo row above p ink = (lnStep row above p ink).c ++ lnGo row above (lnStep row above p ink).p (lnStep row above p ink).k := by
  conv => lhs; rw [lnGo]
  rw [dif_pos hp, dif_pos (lnStep_lt hw hp ink).1]
theorem lnGo_end {row above : List Bool} {p : Nat} (hp : ¬ p ≤ row.length) (ink : Bool) : lnGo row above p ink = [] := by rw [lnGo, dif_neg hp]
def lineB (row above : List Bool) : Bytes := if row.length = 0 then [] else lnGo row above 0 false

/-- What code stands ahead: 0 pass; 1 to 7 near; 8 far; 9 none. -/
def codeOf (s : Bytes) : Nat :=
  if passC.isPrefixOf s = true then 0
  else if (nearCs.getD 0 []).isPrefixOf s = true then 1
  else if (nearCs.getD 1 []).isPrefixOf s = true then 2
  else if (nearCs.getD 2 []).isPrefixOf s = true then 3
  else if (nearCs.getD 3 []).isPrefixOf s = true then 4
  else if (nearCs.getD 4 []).isPrefixOf s = true then 5
  else if (nearCs.getD 5 []).isPrefixOf s = true then 6
  else if (nearCs.getD 6 []).isPrefixOf s = true then 7
  else if farC.isPrefixOf s = true then 8 else 9
theorem codeOf_pass (r : Bytes) : codeOf (passC ++ r) = 0 := by rfl
theorem codeOf_far (r : Bytes) : codeOf (farC ++ r) = 8 := by rfl
theorem codeOf_near (k : Nat) (h : k ≤ 6) (r : Bytes) : codeOf (nearCs.getD k [] ++ r) = k + 1 := by
  have : k = 0 ∨ k = 1 ∨ k = 2 ∨ k = 3 ∨ k = 4 ∨ k = 5 ∨ k = 6 := by omega
  rcases this with rfl | rfl | rfl | rfl | rfl | rfl | rfl <;> rfl
/-- A step of the reading: where the next begins, its colour, the pixels, and how many bits it took. -/
structure RSt where
  p : Nat
  k : Bool
  px : List Bool
  n : Nat
def farOf (strict : Bool) (w : Nat) (s : Bytes) (p : Nat) (ink : Bool) : Option RSt :=
  match rdG (s.drop 3) with
  | none => none
  | some (m1, l1) => match rdG (s.drop (3 + l1)) with
    | none => none
    | some (m2, l2) =>
      if (strict = true → p ≤ p - 1 + (m1 - 1)) ∧ p - 1 + (m1 - 1) + (m2 - 1) ≤ w ∧ p ≤ p - 1 + (m1 - 1) + (m2 - 1) then
        some ⟨p - 1 + (m1 - 1) + (m2 - 1) + 1, ink, List.replicate (m1 - 1) ink ++ List.replicate (m2 - 1) (!ink), 3 + l1 + l2⟩
      else none
def rdStep (strict : Bool) (above : List Bool) (s : Bytes) (p : Nat) (ink : Bool) : Option RSt :=
  if codeOf s = 0 then some ⟨chg above (chTo above p (!ink) + 1) + 1, ink, List.replicate (chg above (chTo above p (!ink) + 1) - (p - 1)) ink, 4⟩
  else if codeOf s ≤ 7 then
    (if p + 4 ≤ chTo above p (!ink) + codeOf s ∧ chTo above p (!ink) + codeOf s ≤ above.length + 4 then
      some ⟨chTo above p (!ink) + codeOf s - 4 + 1, !ink, List.replicate (chTo above p (!ink) + codeOf s - 4 - (p - 1)) ink, (nearCs.getD (codeOf s - 1) []).length⟩ else none)
  else if codeOf s = 8 then farOf strict above.length s p ink
  else none
end Go.Fv.G

/- Facts about the program's types: each shown by reckoning it out. -/
namespace Go.Fv.G
open Go Go.Proofs
theorem e1 : ElemZ Tryd.prog 1 (.nilFunc) := .of (by kernel_rfl) (by kernel_rfl)
theorem z1 : zeroOf Tryd.prog 1 = some (.nilFunc) := e1.zero
theorem c1 : Tryd.prog.cellsOf 1 = 1 := e1.cellsOf
theorem e2 : ElemZ Tryd.prog 2 (.int .i64 0) := .of (by kernel_rfl) (by kernel_rfl)
theorem z2 : zeroOf Tryd.prog 2 = some (.int .i64 0) := e2.zero
theorem c2 : Tryd.prog.cellsOf 2 = 1 := e2.cellsOf
theorem e3 : ElemZ Tryd.prog 3 (.int .i64 0) := .of (by kernel_rfl) (by kernel_rfl)
theorem z3 : zeroOf Tryd.prog 3 = some (.int .i64 0) := e3.zero
theorem c3 : Tryd.prog.cellsOf 3 = 1 := e3.cellsOf
theorem e4 : ElemZ Tryd.prog 4 (.bool false) := .of (by kernel_rfl) (by kernel_rfl)
theorem z4 : zeroOf Tryd.prog 4 = some (.bool false) := e4.zero
theorem c4 : Tryd.prog.cellsOf 4 = 1 := e4.cellsOf
theorem e5 : ElemZ Tryd.prog 5 (.int .u8 0) := .of (by kernel_rfl) (by kernel_rfl)
theorem z5 : zeroOf Tryd.prog 5 = some (.int .u8 0) := e5.zero
theorem c5 : Tryd.prog.cellsOf 5 = 1 := e5.cellsOf
theorem e6 : ElemZ Tryd.prog 6 (.int .u8 0) := .of (by kernel_rfl) (by kernel_rfl)
theorem e9 : ElemZ Tryd.prog 9 (.string ⟨#[]⟩) := .of (by kernel_rfl) (by kernel_rfl)
theorem z9 : zeroOf Tryd.prog 9 = some (.string ⟨#[]⟩) := e9.zero
theorem c9 : Tryd.prog.cellsOf 9 = 1 := e9.cellsOf
theorem e12 : ElemZ Tryd.prog 12 (.int .u64 0) := .of (by kernel_rfl) (by kernel_rfl)
theorem e17 : ElemZ Tryd.prog 17 (.pointer none) := .of (by kernel_rfl) (by kernel_rfl)
theorem e22 : ElemZ Tryd.prog 22 (.nilFunc) := .of (by kernel_rfl) (by kernel_rfl)
theorem z22 : zeroOf Tryd.prog 22 = some (.nilFunc) := e22.zero
theorem e25 : ElemZ Tryd.prog 25 (.nilFunc) := .of (by kernel_rfl) (by kernel_rfl)
theorem z25 : zeroOf Tryd.prog 25 = some (.nilFunc) := e25.zero
theorem e27 : ElemZ Tryd.prog 27 (.nilFunc) := .of (by kernel_rfl) (by kernel_rfl)
theorem z27 : zeroOf Tryd.prog 27 = some (.nilFunc) := e27.zero
theorem e30 : ElemZ Tryd.prog 30 (.slice none 0 0) := .of (by kernel_rfl) (by kernel_rfl)
theorem z30 : zeroOf Tryd.prog 30 = some (.slice none 0 0) := e30.zero
theorem c30 : Tryd.prog.cellsOf 30 = 1 := e30.cellsOf
theorem e46 : ElemZ Tryd.prog 46 (.nilFunc) := .of (by kernel_rfl) (by kernel_rfl)
theorem z46 : zeroOf Tryd.prog 46 = some (.nilFunc) := e46.zero
theorem e51 : ElemZ Tryd.prog 51 (.nilFunc) := .of (by kernel_rfl) (by kernel_rfl)
theorem z51 : zeroOf Tryd.prog 51 = some (.nilFunc) := e51.zero
theorem e53 : ElemZ Tryd.prog 53 (.nilFunc) := .of (by kernel_rfl) (by kernel_rfl)
theorem z53 : zeroOf Tryd.prog 53 = some (.nilFunc) := e53.zero
theorem e54 : ElemZ Tryd.prog 54 (.nilFunc) := .of (by kernel_rfl) (by kernel_rfl)
theorem z54 : zeroOf Tryd.prog 54 = some (.nilFunc) := e54.zero
theorem e67 : ElemZ Tryd.prog 67 (.pointer none) := .of (by kernel_rfl) (by kernel_rfl)
theorem e68 : ElemZ Tryd.prog 68 (.slice none 0 0) := .of (by kernel_rfl) (by kernel_rfl)
theorem c68 : Tryd.prog.cellsOf 68 = 1 := e68.cellsOf
theorem e70 : ElemZ Tryd.prog 70 (.agg #[.pointer none, .slice none 0 0]) := .of (by kernel_rfl) (by kernel_rfl)
theorem z70 : zeroOf Tryd.prog 70 = some (.agg #[.pointer none, .slice none 0 0]) := e70.zero
theorem f7 : fieldsOkT Tryd.prog 7 := by
  intro d hd; rw [Tryd.underlying7] at hd; cases hd
  intro f hf; simp only [List.mem_cons, List.not_mem_nil, or_false] at hf
  rcases hf with rfl | rfl | rfl | rfl
  · obtain ⟨i, h, _⟩ := e2.ex; exact ⟨i, h⟩
  · obtain ⟨i, h, _⟩ := e3.ex; exact ⟨i, h⟩
  · obtain ⟨i, h, _⟩ := e4.ex; exact ⟨i, h⟩
  · obtain ⟨i, h, _⟩ := e6.ex; exact ⟨i, h⟩
theorem f8 : fieldsOkT Tryd.prog 8 := by
  intro d hd; rw [Tryd.underlying8] at hd; cases hd
  intro f hf; simp only [List.mem_cons, List.not_mem_nil, or_false] at hf
  rcases hf with rfl | rfl | rfl | rfl
  · obtain ⟨i, h, _⟩ := e2.ex; exact ⟨i, h⟩
  · obtain ⟨i, h, _⟩ := e3.ex; exact ⟨i, h⟩
  · obtain ⟨i, h, _⟩ := e4.ex; exact ⟨i, h⟩
  · obtain ⟨i, h, _⟩ := e6.ex; exact ⟨i, h⟩
theorem f13 : fieldsOkT Tryd.prog 13 := by
  intro d hd; rw [Tryd.underlying13] at hd; cases hd
  intro f hf; simp only [List.mem_cons, List.not_mem_nil, or_false] at hf
  rcases hf with rfl | rfl
  · obtain ⟨i, h, _⟩ := e9.ex; exact ⟨i, h⟩
  · obtain ⟨i, h, _⟩ := e12.ex; exact ⟨i, h⟩
theorem f14 : fieldsOkT Tryd.prog 14 := by
  intro d hd; rw [Tryd.underlying14] at hd; cases hd
  intro f hf; simp only [List.mem_cons, List.not_mem_nil, or_false] at hf
  rcases hf with rfl | rfl
  · obtain ⟨i, h, _⟩ := e9.ex; exact ⟨i, h⟩
  · obtain ⟨i, h, _⟩ := e12.ex; exact ⟨i, h⟩
theorem f18 : fieldsOkT Tryd.prog 18 := by
  intro d hd; rw [Tryd.underlying18] at hd; cases hd
  intro f hf; simp only [List.mem_cons, List.not_mem_nil, or_false] at hf
  rcases hf with rfl
  · obtain ⟨i, h, _⟩ := e17.ex; exact ⟨i, h⟩
theorem f19 : fieldsOkT Tryd.prog 19 := by
  intro d hd; rw [Tryd.underlying19] at hd; cases hd
  intro f hf; simp only [List.mem_cons, List.not_mem_nil, or_false] at hf
  rcases hf with rfl
  · obtain ⟨i, h, _⟩ := e17.ex; exact ⟨i, h⟩
theorem f69 : fieldsOkT Tryd.prog 69 := by
  intro d hd; rw [Tryd.underlying69] at hd; cases hd
  intro f hf; simp only [List.mem_cons, List.not_mem_nil, or_false] at hf
  rcases hf with rfl | rfl
  · obtain ⟨i, h, _⟩ := e67.ex; exact ⟨i, h⟩
  · obtain ⟨i, h, _⟩ := e68.ex; exact ⟨i, h⟩
theorem k1 {K : Prop} : Chk (ElemZ Tryd.prog 1 (.nilFunc)) K = K := Chk_of e1
theorem k2 {K : Prop} : Chk (ElemZ Tryd.prog 2 (.int .i64 0)) K = K := Chk_of e2
theorem k3 {K : Prop} : Chk (ElemZ Tryd.prog 3 (.int .i64 0)) K = K := Chk_of e3
theorem k4 {K : Prop} : Chk (ElemZ Tryd.prog 4 (.bool false)) K = K := Chk_of e4
theorem ke4 : (ElemZ Tryd.prog 4 (.bool false)) = True := eq_true e4
theorem k5 {K : Prop} : Chk (ElemZ Tryd.prog 5 (.int .u8 0)) K = K := Chk_of e5
theorem ke5 : (ElemZ Tryd.prog 5 (.int .u8 0)) = True := eq_true e5
theorem ke9 : (ElemZ Tryd.prog 9 (.string ⟨#[]⟩)) = True := eq_true e9
attribute [go_sem] Tryd.underlying0 Tryd.underlying1 Tryd.underlying2 Tryd.underlying3 Tryd.underlying4 Tryd.underlying5 Tryd.underlying6 Tryd.underlying7 Tryd.underlying8 Tryd.underlying9 Tryd.underlying10 Tryd.underlying11
attribute [go_sem] Tryd.underlying12 Tryd.underlying13 Tryd.underlying14 Tryd.underlying15 Tryd.underlying16 Tryd.underlying17 Tryd.underlying18 Tryd.underlying19 Tryd.underlying20 Tryd.underlying21 Tryd.underlying22 Tryd.underlying23
attribute [go_sem] Tryd.underlying24 Tryd.underlying25 Tryd.underlying26 Tryd.underlying27 Tryd.underlying28 Tryd.underlying29 Tryd.underlying30 Tryd.underlying31 Tryd.underlying32 Tryd.underlying33 Tryd.underlying34 Tryd.underlying35
attribute [go_sem] Tryd.underlying36 Tryd.underlying37 Tryd.underlying38 Tryd.underlying39 Tryd.underlying40 Tryd.underlying41 Tryd.underlying42 Tryd.underlying43 Tryd.underlying44 Tryd.underlying45 Tryd.underlying46 Tryd.underlying47
attribute [go_sem] Tryd.underlying48 Tryd.underlying49 Tryd.underlying50 Tryd.underlying51 Tryd.underlying52 Tryd.underlying53 Tryd.underlying54 Tryd.underlying55 Tryd.underlying56 Tryd.underlying57 Tryd.underlying58 Tryd.underlying59
attribute [go_sem] Tryd.underlying60 Tryd.underlying61 Tryd.underlying62 Tryd.underlying63 Tryd.underlying64 Tryd.underlying65 Tryd.underlying66 Tryd.underlying67 Tryd.underlying68 Tryd.underlying69 Tryd.underlying70 Tryd.underlying71
attribute [go_sem] Tryd.underlying72 Tryd.underlying73 Tryd.underlying74 Tryd.underlying75 Tryd.underlying76 Tryd.underlying77 Tryd.underlying78 Tryd.underlying79 Tryd.underlying80 Tryd.underlying81 Tryd.underlying82 Tryd.underlying83
attribute [go_sem] Tryd.underlying84 Tryd.underlying85 Tryd.underlying86 Tryd.underlying87 Tryd.underlying88 Tryd.underlying89 Tryd.underlying90 Tryd.underlying91 Tryd.underlying92 Tryd.underlying93 Tryd.underlying94 Tryd.underlying95
attribute [go_sem] Tryd.underlying96 Tryd.underlying97 Tryd.underlying98 Tryd.underlying99 Tryd.underlying100 Tryd.underlying101 Tryd.underlying102 Tryd.underlying103 Tryd.underlying104 Tryd.underlying105 Tryd.underlying106 Tryd.underlying107
attribute [go_sem] Tryd.underlying108 Tryd.underlying109 Tryd.underlying110 Tryd.underlying111 Tryd.underlying112 Tryd.underlying113 Tryd.underlying114 Tryd.underlying115 Tryd.underlying116 Tryd.underlying117 Tryd.underlying118 Tryd.underlying119
attribute [go_sem] Tryd.underlying120 Tryd.underlying121 Tryd.underlying122 Tryd.underlying123 Tryd.underlying124 Tryd.underlying125 Tryd.underlying126 Tryd.underlying127 Tryd.underlying128 Tryd.underlying129 Tryd.underlying130 Tryd.underlying131
attribute [go_sem] Tryd.underlying132 Tryd.underlying133 Tryd.underlying134 Tryd.underlying135 Tryd.underlying136 Tryd.underlying137 Tryd.underlying138 Tryd.underlying139 Tryd.underlying140 Tryd.underlying141 Tryd.underlying142 k1
attribute [go_sem] z1 c1 k2 z2 c2 k3 z3 c3 k4
attribute [go_sem] ke4 z4 c4 k5 ke5 z5 c5
attribute [go_sem] ke9 z9 c9
attribute [go_sem] z22 z25
attribute [go_sem] z27
attribute [go_sem] z30 c30
attribute [go_sem] z46
attribute [go_sem] z51
attribute [go_sem] z53 z54
attribute [go_sem] c68 z70
end Go.Fv.G

/- Changes of a row: the walk. -/
namespace Go.Fv.G
open Go Go.Proofs
set_option linter.unusedSimpArgs false
set_option linter.unusedVariables false
set_option linter.unnecessarySimpa false
set_option maxRecDepth 8000

theorem pxP_pos {r : List Bool} {j : Nat} (h : j ≠ 0) : pxP r j = r.getD (j - 1) false := by unfold pxP; rw [if_neg h]
theorem pxP_zero (r : List Bool) : pxP r 0 = false := rfl
theorem pixel_ok (r : List Bool) (j : Nat) (a : Int) (ha : a = (j : Int) - 1) (hj : j ≤ r.length) (hl : r.length ≤ 4000) :
    FnOk Tryd.prog 71 [.ro (.bools r), .int .i64 a] (.bool (pxP r j)) [] := by
  refine FnOk.of_vc Tryd.func71 rfl (by decide) (by simp [Tryd.f71]) [.tmp 4] rfl fun w0 T0 _ => ?_
  simp only [Tryd.f71, argEnv]
  by_cases h : j = 0
  · have f1 : (0 ≤ a) = False := eq_false (by omega)
    have e : pxP r j = false := by rw [h]; rfl
    (repeat' first | with_reducible (first | intro _ | refine rc ?_ | refine rl ?_ | refine rh ?_ | refine ru ?_ | refine rt ?_ | refine rf ?_ | refine rs ?_ | refine And.intro ?_ ?_) | omega | simp (maxSteps := 1000000) only [go_sem, simprocAttr, ↓reduceIte, f1])
    refine Ret.auto 0 ?_ rfl ?_ <;> simp only [go_sem, reduceCtorEq, reduceIte, Nat.reduceEqDiff, Nat.reduceLT, Nat.reduceLeDiff, Int.natCast_succ, Post, e]
  · have f1 : (0 ≤ a) = True := eq_true (by omega)
    have e := pxP_pos (r := r) h
    have e2 : a.toNat = j - 1 := by omega
    (repeat' first | with_reducible (first | intro _ | refine rc ?_ | refine rl ?_ | refine rh ?_ | refine ru ?_ | refine rt ?_ | refine rf ?_ | refine rs ?_ | refine And.intro ?_ ?_) | omega | simp (maxSteps := 1000000) only [go_sem, simprocAttr, ↓reduceIte, f1, e2])
    refine Ret.auto 0 ?_ rfl ?_ <;> simp only [go_sem, reduceCtorEq, reduceIte, Nat.reduceEqDiff, Nat.reduceLT, Nat.reduceLeDiff, Int.natCast_succ, Post, e]
theorem colour_ok (r : List Bool) (j : Nat) (a : Int) (ha : a = (j : Int) - 1) (hj : j ≤ r.length) (hl : r.length ≤ 4000) :
    FnOk Tryd.prog 52 [.ro (.bools r), .int .i64 a] (.bool (pxP r j)) [] := by
  refine FnOk.of_vc Tryd.func52 rfl (by decide) (by simp [Tryd.f52]) [.tmp 4] rfl fun w0 T0 _ => ?_
  simp only [Tryd.f52, argEnv]
  by_cases h : j = 0
  · have f1 : (0 ≤ a) = False := eq_false (by omega)
    have e : pxP r j = false := by rw [h]; rfl
    (repeat' first | with_reducible (first | intro _ | refine rc ?_ | refine rl ?_ | refine rh ?_ | refine ru ?_ | refine rt ?_ | refine rf ?_ | refine rs ?_ | refine And.intro ?_ ?_) | omega | simp (maxSteps := 1000000) only [go_sem, simprocAttr, ↓reduceIte, f1])
    refine Ret.auto 0 ?_ rfl ?_ <;> simp only [go_sem, reduceCtorEq, reduceIte, Nat.reduceEqDiff, Nat.reduceLT, Nat.reduceLeDiff, Int.natCast_succ, Post, e]
  · have f1 : (0 ≤ a) = True := eq_true (by omega)
    have e := pxP_pos (r := r) h
    have e2 : a.toNat = j - 1 := by omega
    (repeat' first | with_reducible (first | intro _ | refine rc ?_ | refine rl ?_ | refine rh ?_ | refine ru ?_ | refine rt ?_ | refine rf ?_ | refine rs ?_ | refine And.intro ?_ ?_) | omega | simp (maxSteps := 1000000) only [go_sem, simprocAttr, ↓reduceIte, f1, e2])
    refine Ret.auto 0 ?_ rfl ?_ <;> simp only [go_sem, reduceCtorEq, reduceIte, Nat.reduceEqDiff, Nat.reduceLT, Nat.reduceLeDiff, Int.natCast_succ, Post, e]
theorem change_ok (r : List Bool) (p : Nat) (a : Int) (ha : a = (p : Int) - 1) (hp : p ≤ r.length + 1) (hl : r.length ≤ 4000) :
    FnOk Tryd.prog 46 [.ro (.bools r), .int .i64 a] (.int .i64 (chg r p)) [] := by
  have e0 : a + 1 = (p : Int) := by omega
  refine FnOk.of_vc Tryd.func46 rfl (by decide) (by simp [Tryd.f46]) [.tmp 4] rfl fun w0 T0 _ => ?_
  simp only [Tryd.f46, argEnv]
  (repeat' first | with_reducible (first | intro _ | refine rc ?_ | refine rl ?_ | refine rh ?_ | refine ru ?_ | refine rt ?_ | refine rf ?_ | refine rs ?_ | refine And.intro ?_ ?_) | omega | simp (maxSteps := 1000000) only [go_sem, simprocAttr, ↓reduceIte, e0])
  refine VcLoop.intro (fun i : Nat => ⟨28, [(5, .int .i64 i), (0, .ro (.bools r))], [], 0⟩) (fun i => i ≤ r.length + 1 ∧ chg r i = chg r p) (fun i => r.length + 1 - i) p ?_ ⟨hp, rfl⟩ fun i hI => ?_
  · refine Ent.auto0 rfl ?_ ?_ <;> simp only [go_sem, reduceCtorEq, reduceIte, Nat.reduceEqDiff, Nat.reduceLT, Nat.reduceLeDiff, Int.natCast_succ]
  obtain ⟨hi, hI⟩ := hI
  by_cases hlt : i < r.length
  · have f1 : ((i : Int) < (r.length : Int)) = True := eq_true (by omega)
    have k1 := pixel_ok r (i + 1) i (by omega) (by omega) hl
    have k2 := pixel_ok r i ((i : Int) - 1) rfl (by omega) hl
    rw [pxP_succ] at k1
    have hc := chg_lt hlt
    (repeat' first | with_reducible (first | intro _ | refine rc ?_ | refine rl ?_ | refine rh ?_ | refine ru ?_ | refine rt ?_ | refine rf ?_ | refine rs ?_ | refine And.intro ?_ ?_) | omega | simp (maxSteps := 1000000) only [go_sem, simprocAttr, ↓reduceIte, f1])
    refine VcCall.k (k1) ?_
    (repeat' first | with_reducible (first | intro _ | refine rc ?_ | refine rl ?_ | refine rh ?_ | refine ru ?_ | refine rt ?_ | refine rf ?_ | refine rs ?_ | refine And.intro ?_ ?_) | omega | simp (maxSteps := 1000000) only [go_sem, simprocAttr, ↓reduceIte])
    refine VcCall.k (k2) ?_
    by_cases he : r.getD i false = pxP r i
    · rw [if_pos he] at hc
      (repeat' first | with_reducible (first | intro _ | refine rc ?_ | refine rl ?_ | refine rh ?_ | refine ru ?_ | refine rt ?_ | refine rf ?_ | refine rs ?_ | refine And.intro ?_ ?_) | omega | simp (maxSteps := 1000000) only [go_sem, simprocAttr, ↓reduceIte, he])
      refine ⟨i + 1, Ent.auto0 rfl ?_ ?_, ⟨by omega, by rw [← hc]; exact hI⟩, by omega⟩ <;> simp only [go_sem, reduceCtorEq, reduceIte, Nat.reduceEqDiff, Nat.reduceLT, Nat.reduceLeDiff, Int.natCast_succ]
    · rw [if_neg he] at hc
      have hci : chg r p = i := by rw [← hI, hc]
      have hm : min (i : Int) (r.length : Int) = (i : Int) := by omega
      (repeat' first | with_reducible (first | intro _ | refine rc ?_ | refine rl ?_ | refine rh ?_ | refine ru ?_ | refine rt ?_ | refine rf ?_ | refine rs ?_ | refine And.intro ?_ ?_) | omega | simp (maxSteps := 1000000) only [go_sem, simprocAttr, ↓reduceIte, he])
      refine Ret.auto 0 ?_ rfl ?_ <;> simp only [go_sem, reduceCtorEq, reduceIte, Nat.reduceEqDiff, Nat.reduceLT, Nat.reduceLeDiff, Int.natCast_succ, Post, hci, hm]
  · have f1 : ((i : Int) < (r.length : Int)) = False := eq_false (by omega)
    have hci : chg r p = r.length := by rw [← hI, chg_end hlt]
    have hm : min (i : Int) (r.length : Int) = (r.length : Int) := by omega
    (repeat' first | with_reducible (first | intro _ | refine rc ?_ | refine rl ?_ | refine rh ?_ | refine ru ?_ | refine rt ?_ | refine rf ?_ | refine rs ?_ | refine And.intro ?_ ?_) | omega | simp (maxSteps := 1000000) only [go_sem, simprocAttr, ↓reduceIte, f1])
    refine Ret.auto 0 ?_ rfl ?_ <;> simp only [go_sem, reduceCtorEq, reduceIte, Nat.reduceEqDiff, Nat.reduceLT, Nat.reduceLeDiff, Int.natCast_succ, Post, hci, hm]
theorem next_ok (r : List Bool) (p : Nat) (a : Int) (ha : a = (p : Int) - 1) (hp : p ≤ r.length + 1) (hl : r.length ≤ 4000) :
    FnOk Tryd.prog 23 [.ro (.bools r), .int .i64 a] (.int .i64 (chg r p)) [] := by
  have e0 : a + 1 = (p : Int) := by omega
  refine FnOk.of_vc Tryd.func23 rfl (by decide) (by simp [Tryd.f23]) [.tmp 4] rfl fun w0 T0 _ => ?_
  simp only [Tryd.f23, argEnv]
  (repeat' first | with_reducible (first | intro _ | refine rc ?_ | refine rl ?_ | refine rh ?_ | refine ru ?_ | refine rt ?_ | refine rf ?_ | refine rs ?_ | refine And.intro ?_ ?_) | omega | simp (maxSteps := 1000000) only [go_sem, simprocAttr, ↓reduceIte, e0])
  refine VcLoop.intro (fun i : Nat => ⟨25, [(5, .int .i64 i), (0, .ro (.bools r))], [], 0⟩) (fun i => i ≤ r.length + 1 ∧ chg r i = chg r p) (fun i => r.length + 1 - i) p ?_ ⟨hp, rfl⟩ fun i hI => ?_
  · refine Ent.auto0 rfl ?_ ?_ <;> simp only [go_sem, reduceCtorEq, reduceIte, Nat.reduceEqDiff, Nat.reduceLT, Nat.reduceLeDiff, Int.natCast_succ]
  obtain ⟨hi, hI⟩ := hI
  by_cases hlt : i < r.length
  · have f1 : ((i : Int) < (r.length : Int)) = True := eq_true (by omega)
    have k1 := colour_ok r (i + 1) i (by omega) (by omega) hl
    have k2 := colour_ok r i ((i : Int) - 1) rfl (by omega) hl
    rw [pxP_succ] at k1
    have hc := chg_lt hlt
    (repeat' first | with_reducible (first | intro _ | refine rc ?_ | refine rl ?_ | refine rh ?_ | refine ru ?_ | refine rt ?_ | refine rf ?_ | refine rs ?_ | refine And.intro ?_ ?_) | omega | simp (maxSteps := 1000000) only [go_sem, simprocAttr, ↓reduceIte, f1])
    refine VcCall.k (k1) ?_
    (repeat' first | with_reducible (first | intro _ | refine rc ?_ | refine rl ?_ | refine rh ?_ | refine ru ?_ | refine rt ?_ | refine rf ?_ | refine rs ?_ | refine And.intro ?_ ?_) | omega | simp (maxSteps := 1000000) only [go_sem, simprocAttr, ↓reduceIte])
    refine VcCall.k (k2) ?_
    by_cases he : r.getD i false = pxP r i
    · rw [if_pos he] at hc
      (repeat' first | with_reducible (first | intro _ | refine rc ?_ | refine rl ?_ | refine rh ?_ | refine ru ?_ | refine rt ?_ | refine rf ?_ | refine rs ?_ | refine And.intro ?_ ?_) | omega | simp (maxSteps := 1000000) only [go_sem, simprocAttr, ↓reduceIte, he])
      refine ⟨i + 1, Ent.auto0 rfl ?_ ?_, ⟨by omega, by rw [← hc]; exact hI⟩, by omega⟩ <;> simp only [go_sem, reduceCtorEq, reduceIte, Nat.reduceEqDiff, Nat.reduceLT, Nat.reduceLeDiff, Int.natCast_succ]
    · rw [if_neg he] at hc
      have hci : chg r p = i := by rw [← hI, hc]
      (repeat' first | with_reducible (first | intro _ | refine rc ?_ | refine rl ?_ | refine rh ?_ | refine ru ?_ | refine rt ?_ | refine rf ?_ | refine rs ?_ | refine And.intro ?_ ?_) | omega | simp (maxSteps := 1000000) only [go_sem, simprocAttr, ↓reduceIte, he])
      refine Ret.auto 0 ?_ rfl ?_ <;> simp only [go_sem, reduceCtorEq, reduceIte, Nat.reduceEqDiff, Nat.reduceLT, Nat.reduceLeDiff, Int.natCast_succ, Post, hci]
  · have f1 : ((i : Int) < (r.length : Int)) = False := eq_false (by omega)
    have hci : chg r p = r.length := by rw [← hI, chg_end hlt]
    (repeat' first | with_reducible (first | intro _ | refine rc ?_ | refine rl ?_ | refine rh ?_ | refine ru ?_ | refine rt ?_ | refine rf ?_ | refine rs ?_ | refine And.intro ?_ ?_) | omega | simp (maxSteps := 1000000) only [go_sem, simprocAttr, ↓reduceIte, f1])
    refine Ret.auto 0 ?_ rfl ?_ <;> simp only [go_sem, reduceCtorEq, reduceIte, Nat.reduceEqDiff, Nat.reduceLT, Nat.reduceLeDiff, Int.natCast_succ, Post, hci]
theorem changeTo_ok (r : List Bool) (p : Nat) (a : Int) (c : Bool) (ha : a = (p : Int) - 1) (hp : p ≤ r.length) (hl : r.length ≤ 4000) :
    FnOk Tryd.prog 47 [.ro (.bools r), .int .i64 a, .bool c] (.int .i64 (chTo r p c)) [] := by
  have k1 := change_ok r p a ha (by omega) hl
  have hle := chg_le r p
  have k2 := change_ok r (chg r p + 1) (chg r p : Int) (by omega) (by omega) hl
  refine FnOk.of_vc Tryd.func47 rfl (by decide) (by simp [Tryd.f47]) [.tmp 6] rfl fun w0 T0 _ => ?_
  simp only [Tryd.f47, argEnv]
  (repeat' first | with_reducible (first | intro _ | refine rc ?_ | refine rl ?_ | refine rh ?_ | refine ru ?_ | refine rt ?_ | refine rf ?_ | refine rs ?_ | refine And.intro ?_ ?_) | omega | simp (maxSteps := 1000000) only [go_sem, simprocAttr, ↓reduceIte])
  refine VcCall.k (k1) ?_
  by_cases h1 : chg r p < r.length
  · have f1 : ((chg r p : Int) < (r.length : Int)) = True := eq_true (by omega)
    by_cases h2 : r.getD (chg r p) false = c
    · have e : chTo r p c = chg r p := by unfold chTo; rw [if_neg (fun h => h.2 h2)]
      (repeat' first | with_reducible (first | intro _ | refine rc ?_ | refine rl ?_ | refine rh ?_ | refine ru ?_ | refine rt ?_ | refine rf ?_ | refine rs ?_ | refine And.intro ?_ ?_) | omega | simp (maxSteps := 1000000) only [go_sem, simprocAttr, ↓reduceIte, f1, h2])
      refine Ret.auto 0 ?_ rfl ?_ <;> simp only [go_sem, reduceCtorEq, reduceIte, Nat.reduceEqDiff, Nat.reduceLT, Nat.reduceLeDiff, Int.natCast_succ, Post, e]
    · have e : chTo r p c = chg r (chg r p + 1) := by unfold chTo; rw [if_pos ⟨h1, h2⟩]
      (repeat' first | with_reducible (first | intro _ | refine rc ?_ | refine rl ?_ | refine rh ?_ | refine ru ?_ | refine rt ?_ | refine rf ?_ | refine rs ?_ | refine And.intro ?_ ?_) | omega | simp (maxSteps := 1000000) only [go_sem, simprocAttr, ↓reduceIte, f1, h2])
      refine VcCall.k (k2) ?_
      (repeat' first | with_reducible (first | intro _ | refine rc ?_ | refine rl ?_ | refine rh ?_ | refine ru ?_ | refine rt ?_ | refine rf ?_ | refine rs ?_ | refine And.intro ?_ ?_) | omega | simp (maxSteps := 1000000) only [go_sem, simprocAttr, ↓reduceIte])
      refine Ret.auto 0 ?_ rfl ?_ <;> simp only [go_sem, reduceCtorEq, reduceIte, Nat.reduceEqDiff, Nat.reduceLT, Nat.reduceLeDiff, Int.natCast_succ, Post, e]
  · have f1 : ((chg r p : Int) < (r.length : Int)) = False := eq_false (by omega)
    have e : chTo r p c = chg r p := by unfold chTo; rw [if_neg (fun h => h1 h.1)]
    (repeat' first | with_reducible (first | intro _ | refine rc ?_ | refine rl ?_ | refine rh ?_ | refine ru ?_ | refine rt ?_ | refine rf ?_ | refine rs ?_ | refine And.intro ?_ ?_) | omega | simp (maxSteps := 1000000) only [go_sem, simprocAttr, ↓reduceIte, f1])
    refine Ret.auto 0 ?_ rfl ?_ <;> simp only [go_sem, reduceCtorEq, reduceIte, Nat.reduceEqDiff, Nat.reduceLT, Nat.reduceLeDiff, Int.natCast_succ, Post, e]
theorem ups_ok (r : List Bool) (p : Nat) (a : Int) (c : Bool) (ha : a = (p : Int) - 1) (hp : p ≤ r.length) (hl : r.length ≤ 4000) :
    FnOk Tryd.prog 24 [.ro (.bools r), .int .i64 a, .bool c] (.tup [.int .i64 (chTo r p (!c)), .int .i64 (chg r (chTo r p (!c) + 1))]) [] := by
  have k1 := next_ok r p a ha (by omega) hl
  have hle := chg_le r p
  refine FnOk.of_vc Tryd.func24 rfl (by decide) (by simp [Tryd.f24]) [.tmp 6, .tmp 7] rfl fun w0 T0 _ => ?_
  simp only [Tryd.f24, argEnv]
  (repeat' first | with_reducible (first | intro _ | refine rc ?_ | refine rl ?_ | refine rh ?_ | refine ru ?_ | refine rt ?_ | refine rf ?_ | refine rs ?_ | refine And.intro ?_ ?_) | omega | simp (maxSteps := 1000000) only [go_sem, simprocAttr, ↓reduceIte])
  refine VcCall.k (k1) ?_
  (repeat' first | with_reducible (first | intro _ | refine rc ?_ | refine rl ?_ | refine rh ?_ | refine ru ?_ | refine rt ?_ | refine rf ?_ | refine rs ?_ | refine And.intro ?_ ?_) | omega | simp (maxSteps := 1000000) only [go_sem, simprocAttr, ↓reduceIte])
  refine VcLoop.intro (fun i : Nat => ⟨30, [(6, .int .i64 i), (2, .bool c), (1, .int .i64 a), (0, .ro (.bools r))], [], 0⟩) (fun i => i ≤ r.length ∧ (i = chg r p ∨ i = chTo r p (!c)) ∧ (chg r p < r.length → r.getD (chg r p) false = c → (i = chg r p ∨ (i = chg r (chg r p + 1) ∧ (i < r.length → r.getD i false = !c)))) ∧ (¬ (chg r p < r.length ∧ r.getD (chg r p) false = c) → i = chg r p)) (fun i => if i = chg r p then 1 else 0) (chg r p) ?_ ⟨hle, .inl rfl, fun _ _ => .inl rfl, fun _ => rfl⟩ fun i hI => ?_
  · refine Ent.auto0 rfl ?_ ?_ <;> simp only [go_sem, reduceCtorEq, reduceIte, Nat.reduceEqDiff, Nat.reduceLT, Nat.reduceLeDiff, Int.natCast_succ]
  obtain ⟨hi, _, hI1, hI2⟩ := hI
  have k2 := next_ok r (i + 1) (i : Int) (by omega) (by omega) hl
  have hdone : ¬ (i < r.length ∧ r.getD i false = c) → i = chTo r p (!c) := fun h => by
    unfold chTo
    by_cases h3 : chg r p < r.length ∧ r.getD (chg r p) false = c
    · rw [if_pos ⟨h3.1, by rw [h3.2]; cases c <;> decide⟩]
      rcases hI1 h3.1 h3.2 with e | ⟨e, _⟩
      · rw [e] at h; exact absurd h3 h
      · exact e
    · rw [hI2 h3, if_neg]
      rintro ⟨h4, h5⟩
      refine h3 ⟨h4, ?_⟩
      generalize r.getD (chg r p) false = b at h5 ⊢
      cases b <;> cases c <;> simp_all
  by_cases h1 : i < r.length
  · have f1 : ((i : Int) < (r.length : Int)) = True := eq_true (by omega)
    by_cases h2 : r.getD i false = c
    · have h4 : i = chg r p := by
        by_cases h3 : chg r p < r.length ∧ r.getD (chg r p) false = c
        · rcases hI1 h3.1 h3.2 with e | ⟨e, e2⟩
          · exact e
          · have := e2 h1
            rw [h2] at this
            cases c <;> simp at this
        · exact hI2 h3
      have h5 := chg_le r (i + 1)
      have h6 : i + 1 ≤ chg r (i + 1) := chg_ge (by omega)
      (repeat' first | with_reducible (first | intro _ | refine rc ?_ | refine rl ?_ | refine rh ?_ | refine ru ?_ | refine rt ?_ | refine rf ?_ | refine rs ?_ | refine And.intro ?_ ?_) | omega | simp (maxSteps := 1000000) only [go_sem, simprocAttr, ↓reduceIte, f1, h2])
      refine VcCall.k (k2) ?_
      (repeat' first | with_reducible (first | intro _ | refine rc ?_ | refine rl ?_ | refine rh ?_ | refine ru ?_ | refine rt ?_ | refine rf ?_ | refine rs ?_ | refine And.intro ?_ ?_) | omega | simp (maxSteps := 1000000) only [go_sem, simprocAttr, ↓reduceIte])
      refine ⟨chg r (i + 1), Ent.auto0 rfl ?_ ?_, ⟨h5, .inr ?_, fun _ _ => .inr ⟨by rw [h4], fun h7 => ?_⟩, fun h => absurd ⟨h4 ▸ h1, h4 ▸ h2⟩ h⟩, by rw [if_pos h4, if_neg (by omega)]; omega⟩
      · simp only [go_sem, reduceCtorEq, reduceIte, Nat.reduceEqDiff, Nat.reduceLT, Nat.reduceLeDiff, Int.natCast_succ]
      · simp only [go_sem, reduceCtorEq, reduceIte, Nat.reduceEqDiff, Nat.reduceLT, Nat.reduceLeDiff, Int.natCast_succ]
      · subst h4
        unfold chTo; rw [if_pos ⟨h1, by rw [h2]; cases c <;> decide⟩]
      · rw [chg_diff h7, pxP_succ, h2]
    · have e := hdone fun h => h2 h.2
      have k3 := k2
      rw [e] at k3
      (repeat' first | with_reducible (first | intro _ | refine rc ?_ | refine rl ?_ | refine rh ?_ | refine ru ?_ | refine rt ?_ | refine rf ?_ | refine rs ?_ | refine And.intro ?_ ?_) | omega | simp (maxSteps := 1000000) only [go_sem, simprocAttr, ↓reduceIte, f1, h2])
      refine VcCall.k (k2) ?_
      (repeat' first | with_reducible (first | intro _ | refine rc ?_ | refine rl ?_ | refine rh ?_ | refine ru ?_ | refine rt ?_ | refine rf ?_ | refine rs ?_ | refine And.intro ?_ ?_) | omega | simp (maxSteps := 1000000) only [go_sem, simprocAttr, ↓reduceIte])
      refine Ret.auto 0 ?_ rfl ?_ <;> simp only [go_sem, reduceCtorEq, reduceIte, Nat.reduceEqDiff, Nat.reduceLT, Nat.reduceLeDiff, Int.natCast_succ, Post, ← e]
  · have f1 : ((i : Int) < (r.length : Int)) = False := eq_false (by omega)
    have e := hdone fun h => h1 h.1
    (repeat' first | with_reducible (first | intro _ | refine rc ?_ | refine rl ?_ | refine rh ?_ | refine ru ?_ | refine rt ?_ | refine rf ?_ | refine rs ?_ | refine And.intro ?_ ?_) | omega | simp (maxSteps := 1000000) only [go_sem, simprocAttr, ↓reduceIte, f1])
    refine VcCall.k (k2) ?_
    (repeat' first | with_reducible (first | intro _ | refine rc ?_ | refine rl ?_ | refine rh ?_ | refine ru ?_ | refine rt ?_ | refine rf ?_ | refine rs ?_ | refine And.intro ?_ ?_) | omega | simp (maxSteps := 1000000) only [go_sem, simprocAttr, ↓reduceIte])
    refine Ret.auto 0 ?_ rfl ?_ <;> simp only [go_sem, reduceCtorEq, reduceIte, Nat.reduceEqDiff, Nat.reduceLT, Nat.reduceLeDiff, Int.natCast_succ, Post, ← e]
theorem nearCodes_ok : FnOk Tryd.prog 48 [] (.own 0) [(0, .row 9 (.strs nearCs))] := by
  refine FnOk.of_vc Tryd.func48 rfl (by decide) (by simp [Tryd.f48]) [.tmp 0] rfl fun w0 T0 _ => ?_
  simp only [Tryd.f48, argEnv]
  (repeat' first | with_reducible (first | intro _ | refine rc ?_ | refine rl ?_ | refine rh ?_ | refine ru ?_ | refine rt ?_ | refine rf ?_ | refine rs ?_ | refine And.intro ?_ ?_) | omega | simp (maxSteps := 1000000) only [go_sem, simprocAttr, ↓reduceIte])
  refine Ret.auto 1 ?_ rfl ?_ <;> simp only [go_sem, reduceCtorEq, reduceIte, Nat.reduceEqDiff, Nat.reduceLT, Nat.reduceLeDiff, Int.natCast_succ, Post, nearCs]
theorem vertical_ok : FnOk Tryd.prog 25 [] (.own 0) [(0, .row 9 (.strs nearCs))] := by
  refine FnOk.of_vc Tryd.func25 rfl (by decide) (by simp [Tryd.f25]) [.tmp 0] rfl fun w0 T0 _ => ?_
  simp only [Tryd.f25, argEnv]
  (repeat' first | with_reducible (first | intro _ | refine rc ?_ | refine rl ?_ | refine rh ?_ | refine ru ?_ | refine rt ?_ | refine rf ?_ | refine rs ?_ | refine And.intro ?_ ?_) | omega | simp (maxSteps := 1000000) only [go_sem, simprocAttr, ↓reduceIte])
  refine Ret.auto 1 ?_ rfl ?_ <;> simp only [go_sem, reduceCtorEq, reduceIte, Nat.reduceEqDiff, Nat.reduceLT, Nat.reduceLeDiff, Int.natCast_succ, Post, nearCs]
end Go.Fv.G

/- Rows coded by the row above: what is coded is read. -/
namespace Go.Fv.G
open Go
set_option linter.unusedSimpArgs false
set_option linter.unusedVariables false
set_option linter.unnecessarySimpa false

theorem rdG_len {s : Bytes} {n l : Nat} (h : rdG s = some (n, l)) : l ≤ s.length ∧ 1 ≤ n ∧ l ≤ 41 := by
  unfold rdG at h
  split at h
  · rename_i hc
    obtain ⟨h1, h2, h3, h4⟩ := hc
    have e := Option.some.inj h
    have e1 : valB ((s.drop (leadB s)).take (leadB s + 1)) = n := congrArg Prod.fst e
    have e2 : 2 * leadB s + 1 = l := congrArg Prod.snd e
    refine ⟨by omega, ?_, by omega⟩
    have hd : (s.drop (leadB s)).length = s.length - leadB s := List.length_drop
    have hz : s.drop (leadB s) = s.dropWhile zer := by
      unfold leadB
      conv => lhs; rw [← List.takeWhile_append_dropWhile (p := zer) (l := s)]
      rw [List.drop_left' (by rw [List.takeWhile_append_dropWhile])]
    cases hq : s.dropWhile zer with
    | nil =>
      rw [hz, hq] at hd
      simp only [List.length_nil] at hd
      omega
    | cons c r =>
      have hc : zer c = false := by
        have := List.head?_dropWhile_not zer s
        rw [hq] at this
        simpa using this
      rw [hz, hq, List.take_succ_cons] at h3 e1
      rw [List.all_cons, Bool.and_eq_true] at h3
      have h49 : c = 49 := by
        have := h3.1
        unfold is01 at this
        unfold zer at hc
        rw [decide_eq_true_eq] at this
        rw [decide_eq_false_iff_not] at hc
        rcases this with h | h
        · exact absurd h hc
        · exact h
      subst h49
      have key : ∀ (l : Bytes) (a : Nat), 1 ≤ a → 1 ≤ l.foldl (fun a c => 2 * a + (c.toNat - 48)) a := by
        intro l
        induction l with
        | nil => intro a h; exact h
        | cons x l ih => intro a h; exact ih (2 * a + (x.toNat - 48)) (by omega)
      rw [← e1]
      unfold valB
      rw [List.foldl_cons]
      exact key _ _ (by decide)
  · cases h
theorem rdG_take (s : Bytes) (k : Nat) (hk : 64 ≤ k) : rdG (s.take k) = rdG s := by
  have hl : leadB (s.take k) = min (leadB s) k := by
    unfold leadB
    clear hk
    induction s generalizing k with
    | nil => simp
    | cons c s ih =>
      cases k with
      | zero => simp
      | succ k =>
        rw [List.take_succ_cons, List.takeWhile_cons, List.takeWhile_cons]
        cases zer c with
        | true => simp only [if_true, List.length_cons]; rw [ih]; omega
        | false => simp
  unfold rdG
  rw [hl]
  by_cases h : leadB s ≤ 20
  · have e : min (leadB s) k = leadB s := by omega
    have e2 : ((s.take k).drop (leadB s)).take (leadB s + 1) = (s.drop (leadB s)).take (leadB s + 1) := by
      rw [List.drop_take, List.take_take]
      congr 1
      omega
    have e3 : (2 * leadB s + 1 ≤ (s.take k).length) ↔ (2 * leadB s + 1 ≤ s.length) := by rw [List.length_take]; omega
    rw [e, e2]
    simp only [e3]
  · rw [if_neg (by omega), if_neg (by omega)]
theorem codeOf_len {s : Bytes} (h : codeOf s ≤ 8) : (codeOf s = 0 → 4 ≤ s.length) ∧ (codeOf s = 8 → 3 ≤ s.length) ∧ (1 ≤ codeOf s → codeOf s ≤ 7 → (nearCs.getD (codeOf s - 1) []).length ≤ s.length) := by
  have key : ∀ c : Bytes, c.isPrefixOf s = true → c.length ≤ s.length := fun c hc => (List.isPrefixOf_iff_prefix.1 hc).length_le
  unfold codeOf
  repeat' split
  all_goals rename_i hx
  all_goals first
    | exact ⟨fun _ => key _ hx, fun h => by omega, fun h => by omega⟩
    | exact ⟨fun h => by omega, fun h => by omega, fun _ _ => key _ hx⟩
    | exact ⟨fun h => by omega, fun _ => key _ hx, fun _ h => by omega⟩
    | exact ⟨fun h => by omega, fun h => by omega, fun _ h => by omega⟩
theorem farOf_some {strict : Bool} {w : Nat} {s : Bytes} {p : Nat} {ink : Bool} {x : RSt} (h : farOf strict w s p ink = some x) : p < x.p ∧ x.p ≤ w + 1 ∧ x.px.length = x.p - 1 - (p - 1) ∧ (3 ≤ s.length → x.n ≤ s.length) := by
  unfold farOf at h
  cases h1 : rdG (s.drop 3) with
  | none => rw [h1] at h; cases h
  | some y =>
    obtain ⟨m1, l1⟩ := y
    rw [h1] at h
    dsimp only at h
    cases h2 : rdG (s.drop (3 + l1)) with
    | none => rw [h2] at h; cases h
    | some z =>
      obtain ⟨m2, l2⟩ := z
      rw [h2] at h
      dsimp only at h
      split at h
      · rename_i hc
        cases h
        have g1 := (rdG_len h1).1
        have g2 := (rdG_len h2).1
        rw [List.length_drop] at g1 g2
        refine ⟨by dsimp only; omega, by dsimp only; omega, by simp; omega, by dsimp only; omega⟩
      · cases h
theorem rdStep_some {strict : Bool} {above : List Bool} {s : Bytes} {p : Nat} {ink : Bool} {x : RSt} (hp : p ≤ above.length) (h : rdStep strict above s p ink = some x) : p < x.p ∧ x.p ≤ above.length + 1 ∧ x.px.length = x.p - 1 - (p - 1) ∧ x.n ≤ s.length := by
  have hcl := @codeOf_len s
  obtain ⟨b1, b2⟩ := chTo_ge (r := above) (i := p) hp (!ink)
  have b3 := chg_le above (chTo above p (!ink) + 1)
  have b4 : p ≤ chg above (chTo above p (!ink) + 1) := by
    by_cases h : chTo above p (!ink) < above.length
    · have := chg_ge (r := above) (i := chTo above p (!ink) + 1) (by omega); omega
    · rw [chg_end (r := above) (i := chTo above p (!ink) + 1) (by omega)]; omega
  unfold rdStep at h
  split at h
  · rename_i h0
    cases h
    have := (hcl (by omega)).1 h0
    refine ⟨by dsimp only; omega, by dsimp only; omega, by simp, this⟩
  · split at h
    · rename_i h0 h7
      split at h
      · cases h
        have := (hcl (by omega)).2.2 (by omega) h7
        refine ⟨by dsimp only; omega, by dsimp only; omega, by simp, this⟩
      · cases h
    · split at h
      · rename_i h8
        have := farOf_some h
        exact ⟨this.1, this.2.1, this.2.2.1, this.2.2.2 ((hcl (by omega)).2.1 h8)⟩
      · cases h
def rdGo (strict : Bool) (above : List Bool) (s : Bytes) (p : Nat) (ink : Bool) : Option (List Bool × Nat) :=
  if hp : p ≤ above.length then
    match h : rdStep strict above s p ink with
    | none => none
    | some x => match rdGo strict above (s.drop x.n) x.p x.k with
      | none => none
      | some (l, n) => some (x.px ++ l, x.n + n)
  else some ([], 0)
termination_by above.length + 1 - p
decreasing_by have := (rdStep_some hp h).1; omega
theorem rdGo_end {strict : Bool} {above : List Bool} {s : Bytes} {p : Nat} (hp : ¬ p ≤ above.length) (ink : Bool) : rdGo strict above s p ink = some ([], 0) := by rw [rdGo, dif_neg hp]
theorem rdGo_none {strict : Bool} {above : List Bool} {s : Bytes} {p : Nat} {ink : Bool} (hp : p ≤ above.length) (h : rdStep strict above s p ink = none) : rdGo strict above s p ink = none := by
  rw [rdGo, dif_pos hp]
  split
  · rfl
  · rename_i x hx; rw [h] at hx; cases hx
theorem rdGo_some {strict : Bool} {above : List Bool} {s : Bytes} {p : Nat} {ink : Bool} {x : RSt} (hp : p ≤ above.length) (h : rdStep strict above s p ink = some x) :
    rdGo strict above s p ink = match rdGo strict above (s.drop x.n) x.p x.k with | none => none | some (l, n) => some (x.px ++ l, x.n + n) := by
  conv => lhs; rw [rdGo]
  rw [dif_pos hp]
  split
  · rename_i hx; rw [h] at hx; cases hx
  · rename_i y hx; rw [h] at hx; cases hx; rfl
theorem rdGo_len {strict : Bool} {above : List Bool} : ∀ (f : Nat) (s : Bytes) (p : Nat) (ink : Bool) (l : List Bool) (n : Nat), above.length + 1 - p ≤ f → p ≤ above.length + 1 → rdGo strict above s p ink = some (l, n) → l.length = above.length - (p - 1) ∧ n ≤ s.length
  | 0, s, p, ink, l, n, hf, hp, h => by
    rw [rdGo_end (by omega)] at h
    cases h
    exact ⟨by simp; omega, Nat.zero_le _⟩
  | f + 1, s, p, ink, l, n, hf, hp, h => by
    by_cases hq : p ≤ above.length
    · cases hx : rdStep strict above s p ink with
      | none => rw [rdGo_none hq hx] at h; cases h
      | some x =>
        obtain ⟨x1, x2, x3, x4⟩ := rdStep_some hq hx
        rw [rdGo_some hq hx] at h
        cases hy : rdGo strict above (s.drop x.n) x.p x.k with
        | none => rw [hy] at h; cases h
        | some y =>
          obtain ⟨l2, n2⟩ := y
          rw [hy] at h
          cases h
          obtain ⟨i1, i2⟩ := rdGo_len f _ _ _ _ _ (by omega) x2 hy
          rw [List.length_drop] at i2
          exact ⟨by rw [List.length_append]; omega, by omega⟩
    · rw [rdGo_end hq] at h
      cases h
      exact ⟨by simp; omega, Nat.zero_le _⟩
theorem rep_of {r : List Bool} {a b : Nat} {c : Bool} (hb : b ≤ r.length) (h : ∀ j, a ≤ j → j < b → r.getD j false = c) : List.replicate (b - a) c = (r.drop a).take (b - a) := by
  apply List.ext_getElem
  · simp; omega
  · intro j h1 h2
    rw [List.getElem_replicate, List.getElem_take, List.getElem_drop]
    have := h (a + j) (by omega) (by simp at h1; omega)
    rw [← this, List.getD_eq_getElem?_getD, List.getElem?_eq_getElem (by simp at h1; omega)]
    rfl
theorem take_split {r : List Bool} {a b c : Nat} (h1 : a ≤ b) : r.drop a = (r.drop a).take (b - a) ++ r.drop b := by
  conv => lhs; rw [← List.take_append_drop (b - a) (r.drop a)]
  rw [List.drop_drop, Nat.add_sub_cancel' h1]
/-- What was coded is read, whatever stands behind it. -/
theorem rdGo_code (strict : Bool) {row above : List Bool} (hw : above.length = row.length) (hm : row.length ≤ 4000) (r : Bytes) : ∀ (f p : Nat) (ink : Bool), row.length + 1 - p ≤ f → p ≤ row.length + 1 → (p ≤ row.length → pxP row p = ink) →
    rdGo strict above (lnGo row above p ink ++ r) p ink = some (row.drop (p - 1), (lnGo row above p ink).length)
  | 0, p, ink, hf, hp, hi => by
    rw [lnGo_end (by omega), rdGo_end (by omega), List.drop_of_length_le (by omega)]; rfl
  | f + 1, p, ink, hf, hp, hi => by
    by_cases hq : p ≤ row.length
    · have hi := hi hq
      have hst := lnStep_lt hw hq ink
      have hga : ∀ j, p - 1 ≤ j → j < chg row p → j < row.length → row.getD j false = ink := fun j h1 h2 h3 => by
        by_cases e : p ≤ j
        · rw [chg_same e h2, hi]
        · have : p = j + 1 := by omega
          subst this
          rw [pxP_succ] at hi; exact hi
      have g1 := chg_ge hq
      have g2 := chg_le row p
      obtain ⟨b1, b2⟩ := chTo_ge (r := above) (i := p) (by omega) (!ink)
      have b3 := chg_le above (chTo above p (!ink) + 1)
      rw [lnGo_step hw hq]
      unfold lnStep at hst ⊢
      split
      · rename_i hc
        rw [if_pos hc] at hst
        dsimp only at hst ⊢
        generalize hB : chg above (chTo above p (!ink) + 1) = b at *
        have hs : rdStep strict above ((passC ++ lnGo row above (b + 1) ink) ++ r) p ink = some ⟨b + 1, ink, List.replicate (b - (p - 1)) ink, 4⟩ := by
          unfold rdStep
          rw [List.append_assoc, codeOf_pass, if_pos rfl, hB]
        rw [rdGo_some (by omega) hs]
        dsimp only
        have e : (passC ++ lnGo row above (b + 1) ink ++ r).drop 4 = lnGo row above (b + 1) ink ++ r := by rw [List.append_assoc]; rfl
        rw [e, rdGo_code strict hw hm r f (b + 1) ink (by omega) (by omega) (fun _ => by rw [pxP_succ]; exact hga b (by omega) hc (by omega))]
        dsimp only
        rw [rep_of (r := row) (a := p - 1) (b := b) (by omega) (fun j h1 h2 => hga j h1 (by omega) (by omega)), Nat.add_sub_cancel, ← take_split (c := 0) (by omega), List.length_append]
        rfl
      · rename_i hc
        split
        · rename_i hn
          rw [if_neg hc, if_pos hn] at hst
          dsimp only at hst ⊢
          generalize hA : chg row p = a at *
          generalize hB : chTo above p (!ink) = b at *
          have hk : a + 3 - b ≤ 6 := by omega
          have hs : rdStep strict above ((nearCs.getD (a + 3 - b) [] ++ lnGo row above (a + 1) (!ink)) ++ r) p ink = some ⟨a + 1, !ink, List.replicate (a - (p - 1)) ink, (nearCs.getD (a + 3 - b) []).length⟩ := by
            unfold rdStep
            rw [List.append_assoc, codeOf_near _ hk, if_neg (by omega), if_pos (by omega), hB, if_pos (by omega)]
            have e1 : b + (a + 3 - b + 1) - 4 = a := by omega
            rw [e1]
            rfl
          rw [rdGo_some (by omega) hs]
          dsimp only
          have e : (nearCs.getD (a + 3 - b) [] ++ lnGo row above (a + 1) (!ink) ++ r).drop (nearCs.getD (a + 3 - b) []).length = lnGo row above (a + 1) (!ink) ++ r := by rw [List.append_assoc, List.drop_left]
          rw [e, rdGo_code strict hw hm r f (a + 1) (!ink) (by omega) (by omega) (fun h => by
            rw [pxP_succ, ← hA, chg_diff (by omega), hi])]
          dsimp only
          rw [rep_of (r := row) (a := p - 1) (b := a) (by omega) (fun j h1 h2 => hga j h1 (by omega) (by omega)), Nat.add_sub_cancel, ← take_split (c := 0) (by omega), List.length_append]
        · rename_i hn
          rw [if_neg hc, if_neg hn] at hst
          dsimp only at hst ⊢
          have g3 := chg_le row (chg row p + 1)
          have hga2 : ∀ j, chg row p ≤ j → j < chg row (chg row p + 1) → row.getD j false = !ink := fun j h1 h2 => by
            by_cases e : j = chg row p
            · subst e; rw [chg_diff (by omega), hi]
            · rw [chg_same (i := chg row p + 1) (by omega) h2, pxP_succ, chg_diff (by omega), hi]
          have g4 : chg row p ≤ chg row (chg row p + 1) := by
            by_cases h : chg row p < row.length
            · have := chg_ge (r := row) (i := chg row p + 1) (by omega); omega
            · rw [chg_end (r := row) (i := chg row p + 1) (by omega)]; omega
          have hnk : chg row (chg row p + 1) + 1 ≤ row.length → pxP row (chg row (chg row p + 1) + 1) = ink := fun h => by
            rw [pxP_succ, chg_diff (by omega), pxP_succ, chg_diff (by omega), hi, Bool.not_not]
          generalize hA2 : chg row (chg row p + 1) = a2 at *
          generalize hA : chg row p = a at *
          clear hn hc
          have m1 := rdG_gam (n := a - (p - 1) + 1) (by omega) (by omega) (gamB (a2 - a + 1) ++ (lnGo row above (a2 + 1) ink ++ r))
          have m2 := rdG_gam (n := a2 - a + 1) (by omega) (by omega) (lnGo row above (a2 + 1) ink ++ r)
          generalize gamB (a - (p - 1) + 1) = G1 at *
          generalize gamB (a2 - a + 1) = G2 at *
          generalize hT : lnGo row above (a2 + 1) ink = T at *
          have e1 : (farC ++ (G1 ++ G2) ++ T ++ r).drop 3 = G1 ++ (G2 ++ (T ++ r)) := by
            rw [show farC ++ (G1 ++ G2) ++ T ++ r = farC ++ (G1 ++ (G2 ++ (T ++ r))) by simp only [List.append_assoc]]; rfl
          have e2 : (farC ++ (G1 ++ G2) ++ T ++ r).drop (3 + G1.length) = G2 ++ (T ++ r) := by
            rw [← List.drop_drop, e1, List.drop_left]
          have e3 : (farC ++ (G1 ++ G2) ++ T ++ r).drop (3 + G1.length + G2.length) = T ++ r := by
            rw [← List.drop_drop, e2, List.drop_left]
          have hs : rdStep strict above (farC ++ (G1 ++ G2) ++ T ++ r) p ink = some ⟨a2 + 1, ink, List.replicate (a - (p - 1)) ink ++ List.replicate (a2 - a) (!ink), 3 + G1.length + G2.length⟩ := by
            unfold rdStep
            have e0 : codeOf (farC ++ (G1 ++ G2) ++ T ++ r) = 8 := by
              rw [show farC ++ (G1 ++ G2) ++ T ++ r = farC ++ (G1 ++ (G2 ++ (T ++ r))) by simp only [List.append_assoc]]; exact codeOf_far _
            rw [e0, if_neg (by omega), if_neg (by omega), if_pos rfl]
            unfold farOf
            rw [e1, m1]
            dsimp only
            rw [e2, m2]
            dsimp only
            rw [if_pos ⟨fun _ => by omega, by omega, by omega⟩]
            have q1 : p - 1 + (a - (p - 1) + 1 - 1) + (a2 - a + 1 - 1) + 1 = a2 + 1 := by omega
            rw [q1, Nat.add_sub_cancel, Nat.add_sub_cancel]
          rw [rdGo_some (by omega) hs]
          dsimp only
          rw [e3, ← hT, rdGo_code strict hw hm r f (a2 + 1) ink (by omega) (by omega) hnk]
          dsimp only
          rw [rep_of (r := row) (a := p - 1) (b := a) (by omega) (fun j h1 h2 => hga j h1 (by omega) (by omega)), rep_of (r := row) (a := a) (b := a2) (by omega) hga2, Nat.add_sub_cancel, List.append_assoc, ← take_split (c := 0) (by omega), ← take_split (c := 0) (by omega)]
          rw [show farC ++ (G1 ++ G2) ++ lnGo row above (a2 + 1) ink = farC ++ (G1 ++ (G2 ++ lnGo row above (a2 + 1) ink)) by simp only [List.append_assoc], List.length_append, List.length_append, List.length_append]
          congr 2
          have : farC.length = 3 := rfl
          omega
    · rw [lnGo_end hq, rdGo_end (by omega), List.drop_of_length_le (by omega)]; rfl
/-- A row, and how many bits it took. -/
def rdAll (strict : Bool) (above : List Bool) (s : Bytes) : Option (List Bool × Nat) := if above.length = 0 then some ([], 0) else rdGo strict above s 0 false
def rdLine (strict : Bool) (above : List Bool) (s : Bytes) : Option (List Bool × Nat) :=
  match rdAll strict above s with
  | none => none
  | some (l, n) => if lineB l above = s.take n then some (l, n) else none
theorem rdAll_code (strict : Bool) {row above : List Bool} (hw : above.length = row.length) (hm : row.length ≤ 4000) (r : Bytes) : rdAll strict above (lineB row above ++ r) = some (row, (lineB row above).length) := by
  unfold rdAll lineB
  by_cases h : row.length = 0
  · rw [if_pos (by omega), if_pos h, List.eq_nil_of_length_eq_zero h]; rfl
  · rw [if_neg (by omega), if_neg h]
    have := rdGo_code strict hw hm r (row.length + 1) 0 false (by omega) (by omega) (fun _ => rfl)
    rw [this]; rfl
theorem rdLine_code (strict : Bool) {row above : List Bool} (hw : above.length = row.length) (hm : row.length ≤ 4000) (r : Bytes) : rdLine strict above (lineB row above ++ r) = some (row, (lineB row above).length) := by
  unfold rdLine
  rw [rdAll_code strict hw hm r]
  dsimp only
  rw [List.take_left, if_pos rfl]
theorem rdAll_len {strict : Bool} {above : List Bool} {s : Bytes} {l : List Bool} {n : Nat} (h : rdAll strict above s = some (l, n)) : l.length = above.length ∧ n ≤ s.length := by
  unfold rdAll at h
  split at h
  · cases h; exact ⟨by simp; omega, Nat.zero_le _⟩
  · have := rdGo_len (above.length + 1) s 0 false l n (by omega) (by omega) h
    exact ⟨by omega, this.2⟩
theorem rdLine_some {strict : Bool} {above : List Bool} {s : Bytes} {l : List Bool} {n : Nat} (h : rdLine strict above s = some (l, n)) : l.length = above.length ∧ n ≤ s.length ∧ lineB l above = s.take n := by
  unfold rdLine at h
  cases ha : rdAll strict above s with
  | none => rw [ha] at h; cases h
  | some x =>
    obtain ⟨l2, n2⟩ := x
    rw [ha] at h
    dsimp only at h
    split at h
    · rename_i hc
      cases h
      have := rdAll_len ha
      exact ⟨this.1, this.2, hc⟩
    · cases h
theorem rdLine_imp (s1 s2 : Bool) {above : List Bool} (hm : above.length ≤ 4000) {s : Bytes} {x : List Bool × Nat} (h : rdLine s1 above s = some x) : rdLine s2 above s = some x := by
  obtain ⟨l, n⟩ := x
  obtain ⟨h1, h2, h3⟩ := rdLine_some h
  have hn : (lineB l above).length = n := by rw [h3, List.length_take]; omega
  have e : s = lineB l above ++ s.drop n := by rw [h3, List.take_append_drop]
  have := rdLine_code s2 (row := l) (above := above) h1.symm (by omega) (s.drop n)
  rw [← e, hn] at this
  exact this
theorem rdLine_eq (s1 s2 : Bool) {above : List Bool} (hm : above.length ≤ 4000) (s : Bytes) : rdLine s1 above s = rdLine s2 above s := by
  cases h1 : rdLine s1 above s with
  | some x => exact (rdLine_imp s1 s2 hm h1).symm
  | none =>
    cases h2 : rdLine s2 above s with
    | none => rfl
    | some x => rw [rdLine_imp s2 s1 hm h2] at h1; cases h1
end Go.Fv.G

/- math/bits.TrailingZeros of 2, by the contract of the shelf. -/
namespace Go.Proofs
open Go.Shelf
def Tryd.lays27_ren : Go.Shelf.Ren := ⟨fun | 27 => 84 | 28 => 92 | 29 => 93 | n => n, fun | 25 => 64 | 3 => 3 | 27 => 97 | 22 => 86 | 4 => 4 | 53 => 129 | 0 => 0 | 5 => 5 | 54 => 130 | n => n, fun | 0 => 6 | 1 => 7 | n => n⟩
theorem Tryd.lays27 : Go.Proofs.Lays7.n27 Tryd.prog Tryd.lays27_ren := {
  mixed := by kernel_rfl
  f27 := Tryd.func84.trans (congrArg some (by kernel_rfl))
  f28 := Tryd.func92.trans (congrArg some (by kernel_rfl))
  f29 := Tryd.func93.trans (congrArg some (by kernel_rfl))
  t0 := Tryd.underlying0
  a0 := Tryd.isAgg0
  z0 := Tryd.sizeOf0
  v0 := Tryd.zeroValue0
  i0 := by kernel_rfl
  t3 := Tryd.underlying3
  a3 := Tryd.isAgg3
  z3 := Tryd.sizeOf3
  v3 := Tryd.zeroValue3
  i3 := by kernel_rfl
  t4 := Tryd.underlying4
  a4 := Tryd.isAgg4
  z4 := Tryd.sizeOf4
  v4 := Tryd.zeroValue4
  i4 := by kernel_rfl
  t5 := Tryd.underlying5
  a5 := Tryd.isAgg5
  z5 := Tryd.sizeOf5
  v5 := Tryd.zeroValue5
  i5 := by kernel_rfl
  t22 := Tryd.underlying86
  a22 := Tryd.isAgg86
  z22 := Tryd.sizeOf86
  v22 := Tryd.zeroValue86
  i22 := by kernel_rfl
  t25 := Tryd.underlying64
  a25 := Tryd.isAgg64
  z25 := Tryd.sizeOf64
  v25 := Tryd.zeroValue64
  i25 := by kernel_rfl
  t27 := Tryd.underlying97
  a27 := Tryd.isAgg97
  z27 := Tryd.sizeOf97
  v27 := Tryd.zeroValue97
  i27 := by kernel_rfl
  t53 := Tryd.underlying129
  a53 := Tryd.isAgg129
  z53 := Tryd.sizeOf129
  v53 := Tryd.zeroValue129
  i53 := by kernel_rfl
  t54 := Tryd.underlying130
  a54 := Tryd.isAgg130
  z54 := Tryd.sizeOf130
  g0 := by kernel_rfl
  g1 := by kernel_rfl }
end Go.Proofs
namespace Go.Fv.G
open Go Go.Proofs
set_option linter.unusedSimpArgs false
set_option linter.unusedVariables false
set_option maxRecDepth 8000

theorem tabAt_of {P : Program} {w : World} {g : Nat} (hw : GlOk P w) (hg : glK P g = some .tab) : TabAt g Lib.deBruijn64tab w := by
  obtain ⟨ob, hh, t, rfl⟩ := hw g _ hg
  intro j hj
  unfold World.cell?
  simp only [hh, Option.isSome_none, Bool.false_eq_true, if_false]
  simp [List.getElem?_map, List.getD, hj]
theorem tz2_ok : FnOk Tryd.prog 84 [.int .u64 2] (.int .i64 1) [] := by
  refine ⟨⟨_, Tryd.func84, by kernel_rfl, by kernel_rfl⟩, fun w T vals hg hv => ?_⟩
  cases hv with
  | cons _ _ _ _ h1 hv =>
    cases hv
    cases h1 with
    | int _ _ e1 =>
      have L := Tryd.lays27
      refine (Any7.bits_TrailingZeros L 2 (by decide) w fun _ => tabAt_of hg (by kernel_rfl)).mono ?_
      rintro e w' ⟨rfl, rfl⟩
      refine ⟨_, rfl, BelowD.refl _ _, fun _ => undef, 0, ?_, ?_, ?_⟩
      · rw [show (Lib.ctz 64 2) = 1 by decide]
        exact .int _ _ (InK_i64.2 (by omega))
      · intro i it h; cases h
      · intro i j it jt b h; cases h
end Go.Fv.G
