/-
  A part of the proof of the claim: walks over the program's functions and the plain laws that these need. No condition of its own.
-/
import Derived.Test.YtkfadacmcknejaaDoorFvPart9
import Derived.Test.YtkfadacmcknejaaDoorProg
import Derived.Test.YtkfadacmcknejaaDoorFvPart10
import Derived.Lib.Bytealg
import Derived.Shelf.Strings.Shaped
/-! A list without what comes twice, in order of the first places; and how often each is there, as a map has it. -/
namespace Go.Fv.V
open Go
set_option linter.unusedSimpArgs false
set_option linter.unusedVariables false
set_option linter.unusedSectionVars false
section
variable {α β : Type} [DecidableEq α] [DecidableEq β]
def uqG (l : List α) : List α := l.foldl insE []
theorem uqG_snoc (l : List α) (r : α) : uqG (l ++ [r]) = insE (uqG l) r := by simp [uqG, List.foldl_append]
theorem mem_foldl_insG : ∀ (l s : List α) (x : α), x ∈ l.foldl insE s ↔ x ∈ s ∨ x ∈ l
  | [], s, x => by simp
  | y :: l, s, x => by simp only [List.foldl_cons]; rw [mem_foldl_insG l, mem_insE, List.mem_cons, or_assoc]
theorem mem_uqG {l : List α} {x : α} : x ∈ uqG l ↔ x ∈ l := by unfold uqG; rw [mem_foldl_insG]; simp
theorem insG_nodup {s : List α} {x : α} (h : s.Nodup) : (insE s x).Nodup := by
  unfold insE; split
  · exact h
  · rename_i hx
    rw [List.nodup_append]
    refine ⟨h, by simp, ?_⟩
    intro a ha b hb e
    simp only [List.mem_singleton] at hb
    subst hb; subst e; exact hx ha
theorem foldl_insG_nodup : ∀ (l s : List α), s.Nodup → (l.foldl insE s).Nodup
  | [], s, h => h
  | y :: l, s, h => foldl_insG_nodup l _ (insG_nodup h)
theorem uqG_nodup (l : List α) : (uqG l).Nodup := foldl_insG_nodup l [] List.nodup_nil

theorem insE_len (s : List α) (x : α) : (insE s x).length ≤ s.length + 1 := by unfold insE; split <;> simp
theorem uqG_len (l : List α) : (uqG l).length ≤ l.length := by
  have key : ∀ (l s : List α), (l.foldl insE s).length ≤ s.length + l.length := by
    intro l
    induction l with
    | nil => intro s; exact Nat.le_refl _
    | cons x l ih =>
      intro s
      have h1 := ih (insE s x)
      have h2 := insE_len s x
      rw [List.foldl_cons, List.length_cons]; omega
  have := key l []
  rw [List.length_nil, Nat.zero_add] at this
  exact this
def cntG (l : List α) (k : α) : Int := ((l.count k : Nat) : Int)
theorem cntG_snoc (l : List α) (r k : α) : cntG (l ++ [r]) k = if k = r then cntG l k + 1 else cntG l k := by
  unfold cntG
  rw [List.count_append]
  by_cases e : k = r
  · subst e; simp
  · rw [if_neg e, List.count_eq_zero (l := [r]).2 (by simp [e])]; simp
theorem cntG_none {l : List α} {k : α} (h : k ∉ l) : cntG l k = 0 := by unfold cntG; rw [List.count_eq_zero.2 h]; rfl
theorem cntG_bd (l : List α) (k : α) : 0 ≤ cntG l k ∧ cntG l k ≤ (l.length : Int) := by unfold cntG; have := List.count_le_length (a := k) (l := l); omega
def gKs (f : α → AV) (l : List α) : List AV := (uqG l).map f
def gVs (l : List α) : List AV := (uqG l).map fun k => .int .i64 (cntG l k)
variable {f : α → AV}
theorem getI_g (hf : ∀ a b, eqKey (f a) (f b) = decide (a = b)) (l : List α) (r : α) : getI (gKs f l) (gVs l) (f r) = cntG l r := by
  unfold getI getV gKs gVs
  rw [keyIdx_map hf]
  cases h : ixOf (uqG l) r with
  | none => simp [cntG_none (fun hm => ixOf_none.1 h (mem_uqG.2 hm))]
  | some j => simp [ixOf_some h]
theorem updKs_g (hf : ∀ a b, eqKey (f a) (f b) = decide (a = b)) (l : List α) (r : α) : updKs (gKs f l) (f r) = gKs f (l ++ [r]) := by
  unfold gKs; rw [updKs_set hf, uqG_snoc]
theorem updVs_g (hf : ∀ a b, eqKey (f a) (f b) = decide (a = b)) (l : List α) (r : α) : updVs (gKs f l) (gVs l) (f r) (.int .i64 (cntG l r + 1)) = gVs (l ++ [r]) := by
  unfold updVs gKs gVs
  rw [keyIdx_map hf, uqG_snoc]
  cases h : ixOf (uqG l) r with
  | none =>
    have hn := ixOf_none.1 h
    unfold insE
    rw [if_neg hn]
    simp only [List.map_append, List.map_cons, List.map_nil]
    congr 1
    · refine List.map_congr_left fun k hk => ?_
      rw [cntG_snoc, if_neg (fun e => hn (by rw [← e]; exact hk))]
    · rw [cntG_snoc, if_pos rfl]
  | some j =>
    have hj := ixOf_some h
    have hm := List.mem_of_getElem? hj
    unfold insE
    rw [if_pos hm]
    refine List.ext_getElem? fun i => ?_
    show (((uqG l).map fun k => AV.int .i64 (cntG l k)).set j _)[i]? = _
    rw [List.getElem?_set]
    by_cases e : j = i
    · subst e
      have hlt := (List.getElem?_eq_some_iff.1 hj).1
      simp only [List.length_map, hlt, reduceIte, List.getElem?_map, hj, Option.map_some]
      rw [cntG_snoc, if_pos rfl]
    · rw [if_neg e, List.getElem?_map, List.getElem?_map]
      cases hi : (uqG l)[i]? with
      | none => rfl
      | some k =>
        simp only [Option.map_some]
        rw [cntG_snoc, if_neg]
        intro ek
        subst ek
        obtain ⟨a1, a2⟩ := List.getElem?_eq_some_iff.1 hj
        obtain ⟨b1, b2⟩ := List.getElem?_eq_some_iff.1 hi
        exact e ((List.getElem_inj (uqG_nodup l)).1 (a2.trans b2.symm))
theorem isI_g (l : List α) : (gVs l).all (isI .i64) = true := by simp [gVs, isI]
end
/-- How many places are left. -/
def left (n : Nat) (seen : List Nat) : Nat := ((List.range n).filter fun j => decide (j ∉ seen)).length
theorem filter_len_le {α : Type} {p q : α → Bool} : ∀ (l : List α), (∀ x, x ∈ l → q x = true → p x = true) → (l.filter q).length ≤ (l.filter p).length
  | [], _ => by simp
  | y :: l, h => by
    have ih := filter_len_le l (fun x hx => h x (.tail _ hx))
    have hy := h y (.head _)
    simp only [List.filter_cons]
    split
    · rw [if_pos (hy (by assumption))]; simp; exact ih
    · split
      · simp; omega
      · exact ih
theorem filter_len_lt {α : Type} {p q : α → Bool} : ∀ (l : List α) (a : α), a ∈ l → p a = true → q a = false → (∀ x, x ∈ l → q x = true → p x = true) → (l.filter q).length < (l.filter p).length
  | y :: l, a, ha, hp, hq, h => by
    simp only [List.filter_cons]
    rcases List.mem_cons.1 ha with rfl | ha
    · rw [if_pos hp, if_neg (by simp [hq])]
      have := filter_len_le l (fun x hx => h x (.tail _ hx))
      simp; omega
    · have ih := filter_len_lt l a ha hp hq (fun x hx => h x (.tail _ hx))
      have hy := h y (.head _)
      split
      · rw [if_pos (hy (by assumption))]; simp; exact ih
      · split
        · simp; omega
        · exact ih
theorem left_lt {n : Nat} {seen : List Nat} {j : Nat} (hj : j ∉ seen) (hn : j < n) : left n (seen ++ [j]) < left n seen := by
  unfold left
  refine filter_len_lt _ j (List.mem_range.2 hn) (by simpa using hj) (by simp) fun x _ hx => ?_
  simp only [List.mem_append, List.mem_singleton, not_or, decide_eq_true_eq] at hx ⊢
  exact hx.1
end Go.Fv.V

/- Facts about the program's types: each shown by reckoning it out. -/
namespace Go.Fv.V
open Go Go.Proofs
theorem e1 : ElemZ Tryd.prog 1 (.nilFunc) := .of (by kernel_rfl) (by kernel_rfl)
theorem z1 : zeroOf Tryd.prog 1 = some (.nilFunc) := e1.zero
theorem c1 : Tryd.prog.cellsOf 1 = 1 := e1.cellsOf
theorem e2 : ElemZ Tryd.prog 2 (.int .i64 0) := .of (by kernel_rfl) (by kernel_rfl)
theorem z2 : zeroOf Tryd.prog 2 = some (.int .i64 0) := e2.zero
theorem c2 : Tryd.prog.cellsOf 2 = 1 := e2.cellsOf
theorem e3 : ElemZ Tryd.prog 3 (.int .i64 0) := .of (by kernel_rfl) (by kernel_rfl)
theorem z3 : zeroOf Tryd.prog 3 = some (.int .i64 0) := e3.zero
theorem c3 : Tryd.prog.cellsOf 3 = 1 := e3.cellsOf
theorem e4 : ElemZ Tryd.prog 4 (.bool false) := .of (by kernel_rfl) (by kernel_rfl)
theorem z4 : zeroOf Tryd.prog 4 = some (.bool false) := e4.zero
theorem c4 : Tryd.prog.cellsOf 4 = 1 := e4.cellsOf
theorem e5 : ElemZ Tryd.prog 5 (.int .u8 0) := .of (by kernel_rfl) (by kernel_rfl)
theorem z5 : zeroOf Tryd.prog 5 = some (.int .u8 0) := e5.zero
theorem c5 : Tryd.prog.cellsOf 5 = 1 := e5.cellsOf
theorem e6 : ElemZ Tryd.prog 6 (.int .u8 0) := .of (by kernel_rfl) (by kernel_rfl)
theorem e9 : ElemZ Tryd.prog 9 (.string ⟨#[]⟩) := .of (by kernel_rfl) (by kernel_rfl)
theorem z9 : zeroOf Tryd.prog 9 = some (.string ⟨#[]⟩) := e9.zero
theorem c9 : Tryd.prog.cellsOf 9 = 1 := e9.cellsOf
theorem e12 : ElemZ Tryd.prog 12 (.int .u64 0) := .of (by kernel_rfl) (by kernel_rfl)
theorem e22 : ElemZ Tryd.prog 22 (.slice none 0 0) := .of (by kernel_rfl) (by kernel_rfl)
theorem z22 : zeroOf Tryd.prog 22 = some (.slice none 0 0) := e22.zero
theorem e24 : ElemZ Tryd.prog 24 (.slice none 0 0) := .of (by kernel_rfl) (by kernel_rfl)
theorem e25 : ElemZ Tryd.prog 25 (.int .i64 0) := .of (by kernel_rfl) (by kernel_rfl)
theorem z25 : zeroOf Tryd.prog 25 = some (.int .i64 0) := e25.zero
theorem e30 : ElemZ Tryd.prog 30 (.agg #[.string ⟨#[]⟩, .int .i64 0]) := .of (by kernel_rfl) (by kernel_rfl)
theorem z30 : zeroOf Tryd.prog 30 = some (.agg #[.string ⟨#[]⟩, .int .i64 0]) := e30.zero
theorem c30 : Tryd.prog.cellsOf 30 = 2 := e30.cellsOf
theorem e39 : ElemZ Tryd.prog 39 (.nilFunc) := .of (by kernel_rfl) (by kernel_rfl)
theorem z39 : zeroOf Tryd.prog 39 = some (.nilFunc) := e39.zero
theorem e45 : ElemZ Tryd.prog 45 (.nilFunc) := .of (by kernel_rfl) (by kernel_rfl)
theorem z45 : zeroOf Tryd.prog 45 = some (.nilFunc) := e45.zero
theorem e46 : ElemZ Tryd.prog 46 (.nilFunc) := .of (by kernel_rfl) (by kernel_rfl)
theorem z46 : zeroOf Tryd.prog 46 = some (.nilFunc) := e46.zero
theorem e47 : ElemZ Tryd.prog 47 (.map none) := .of (by kernel_rfl) (by kernel_rfl)
theorem e48 : ElemZ Tryd.prog 48 (.slice none 0 0) := .of (by kernel_rfl) (by kernel_rfl)
theorem z48 : zeroOf Tryd.prog 48 = some (.slice none 0 0) := e48.zero
theorem c48 : Tryd.prog.cellsOf 48 = 1 := e48.cellsOf
theorem e50 : ElemZ Tryd.prog 50 (.agg #[.string ⟨#[]⟩, .bool false]) := .of (by kernel_rfl) (by kernel_rfl)
theorem z50 : zeroOf Tryd.prog 50 = some (.agg #[.string ⟨#[]⟩, .bool false]) := e50.zero
theorem e51 : ElemZ Tryd.prog 51 (.agg #[.string ⟨#[]⟩, .bool false]) := .of (by kernel_rfl) (by kernel_rfl)
theorem z51 : zeroOf Tryd.prog 51 = some (.agg #[.string ⟨#[]⟩, .bool false]) := e51.zero
theorem c51 : Tryd.prog.cellsOf 51 = 2 := e51.cellsOf
theorem e53 : ElemZ Tryd.prog 53 (.nilFunc) := .of (by kernel_rfl) (by kernel_rfl)
theorem z53 : zeroOf Tryd.prog 53 = some (.nilFunc) := e53.zero
theorem e55 : ElemZ Tryd.prog 55 (.nilFunc) := .of (by kernel_rfl) (by kernel_rfl)
theorem z55 : zeroOf Tryd.prog 55 = some (.nilFunc) := e55.zero
theorem e57 : ElemZ Tryd.prog 57 (.slice none 0 0) := .of (by kernel_rfl) (by kernel_rfl)
theorem z57 : zeroOf Tryd.prog 57 = some (.slice none 0 0) := e57.zero
theorem c57 : Tryd.prog.cellsOf 57 = 1 := e57.cellsOf
theorem e66 : ElemZ Tryd.prog 66 (.nilFunc) := .of (by kernel_rfl) (by kernel_rfl)
theorem z66 : zeroOf Tryd.prog 66 = some (.nilFunc) := e66.zero
theorem e76 : ElemZ Tryd.prog 76 (.nilFunc) := .of (by kernel_rfl) (by kernel_rfl)
theorem z76 : zeroOf Tryd.prog 76 = some (.nilFunc) := e76.zero
theorem e77 : ElemZ Tryd.prog 77 (.nilFunc) := .of (by kernel_rfl) (by kernel_rfl)
theorem z77 : zeroOf Tryd.prog 77 = some (.nilFunc) := e77.zero
theorem e82 : ElemZ Tryd.prog 82 (.slice none 0 0) := .of (by kernel_rfl) (by kernel_rfl)
theorem z82 : zeroOf Tryd.prog 82 = some (.slice none 0 0) := e82.zero
theorem e90 : ElemZ Tryd.prog 90 (.agg #[.int .i64 0, .int .i64 0, .int .i64 0]) := .of (by kernel_rfl) (by kernel_rfl)
theorem z90 : zeroOf Tryd.prog 90 = some (.agg #[.int .i64 0, .int .i64 0, .int .i64 0]) := e90.zero
theorem c90 : Tryd.prog.cellsOf 90 = 3 := e90.cellsOf
theorem e92 : ElemZ Tryd.prog 92 (.agg #[.int .i64 0, .string ⟨#[]⟩, .string ⟨#[]⟩, .int .i64 0]) := .of (by kernel_rfl) (by kernel_rfl)
theorem z92 : zeroOf Tryd.prog 92 = some (.agg #[.int .i64 0, .string ⟨#[]⟩, .string ⟨#[]⟩, .int .i64 0]) := e92.zero
theorem e113 : ElemZ Tryd.prog 113 (.agg #[.string ⟨#[]⟩, .string ⟨#[]⟩, .int .i64 0]) := .of (by kernel_rfl) (by kernel_rfl)
theorem z113 : zeroOf Tryd.prog 113 = some (.agg #[.string ⟨#[]⟩, .string ⟨#[]⟩, .int .i64 0]) := e113.zero
theorem c113 : Tryd.prog.cellsOf 113 = 3 := e113.cellsOf
theorem e114 : ElemZ Tryd.prog 114 (.agg #[.string ⟨#[]⟩, .string ⟨#[]⟩]) := .of (by kernel_rfl) (by kernel_rfl)
theorem z114 : zeroOf Tryd.prog 114 = some (.agg #[.string ⟨#[]⟩, .string ⟨#[]⟩]) := e114.zero
theorem c114 : Tryd.prog.cellsOf 114 = 2 := e114.cellsOf
theorem e115 : ElemZ Tryd.prog 115 (.agg #[.string ⟨#[]⟩, .string ⟨#[]⟩, .string ⟨#[]⟩, .string ⟨#[]⟩]) := .of (by kernel_rfl) (by kernel_rfl)
theorem z115 : zeroOf Tryd.prog 115 = some (.agg #[.string ⟨#[]⟩, .string ⟨#[]⟩, .string ⟨#[]⟩, .string ⟨#[]⟩]) := e115.zero
theorem e142 : ElemZ Tryd.prog 142 (.agg #[.int .u8 0, .int .u8 0]) := .of (by kernel_rfl) (by kernel_rfl)
theorem e146 : ElemZ Tryd.prog 146 (.agg #[.pointer none, .pointer none, .pointer none, .string ⟨#[]⟩]) := .of (by kernel_rfl) (by kernel_rfl)
theorem z146 : zeroOf Tryd.prog 146 = some (.agg #[.pointer none, .pointer none, .pointer none, .string ⟨#[]⟩]) := e146.zero
theorem f7 : fieldsOkT Tryd.prog 7 := by
  intro d hd; rw [Tryd.underlying7] at hd; cases hd
  intro f hf; simp only [List.mem_cons, List.not_mem_nil, or_false] at hf
  rcases hf with rfl | rfl | rfl | rfl
  · obtain ⟨i, h, _⟩ := e2.ex; exact ⟨i, h⟩
  · obtain ⟨i, h, _⟩ := e3.ex; exact ⟨i, h⟩
  · obtain ⟨i, h, _⟩ := e4.ex; exact ⟨i, h⟩
  · obtain ⟨i, h, _⟩ := e6.ex; exact ⟨i, h⟩
theorem f8 : fieldsOkT Tryd.prog 8 := by
  intro d hd; rw [Tryd.underlying8] at hd; cases hd
  intro f hf; simp only [List.mem_cons, List.not_mem_nil, or_false] at hf
  rcases hf with rfl | rfl | rfl | rfl
  · obtain ⟨i, h, _⟩ := e2.ex; exact ⟨i, h⟩
  · obtain ⟨i, h, _⟩ := e3.ex; exact ⟨i, h⟩
  · obtain ⟨i, h, _⟩ := e4.ex; exact ⟨i, h⟩
  · obtain ⟨i, h, _⟩ := e6.ex; exact ⟨i, h⟩
theorem f14 : fieldsOkT Tryd.prog 14 := by
  intro d hd; rw [Tryd.underlying14] at hd; cases hd
  intro f hf; simp only [List.mem_cons, List.not_mem_nil, or_false] at hf
  rcases hf with rfl | rfl
  · obtain ⟨i, h, _⟩ := e9.ex; exact ⟨i, h⟩
  · obtain ⟨i, h, _⟩ := e12.ex; exact ⟨i, h⟩
theorem f29 : fieldsOkT Tryd.prog 29 := by
  intro d hd; rw [Tryd.underlying29] at hd; cases hd
  intro f hf; simp only [List.mem_cons, List.not_mem_nil, or_false] at hf
  rcases hf with rfl | rfl
  · obtain ⟨i, h, _⟩ := e9.ex; exact ⟨i, h⟩
  · obtain ⟨i, h, _⟩ := e3.ex; exact ⟨i, h⟩
theorem f30 : fieldsOkT Tryd.prog 30 := by
  intro d hd; rw [Tryd.underlying30] at hd; cases hd
  intro f hf; simp only [List.mem_cons, List.not_mem_nil, or_false] at hf
  rcases hf with rfl | rfl
  · obtain ⟨i, h, _⟩ := e9.ex; exact ⟨i, h⟩
  · obtain ⟨i, h, _⟩ := e3.ex; exact ⟨i, h⟩
theorem f50 : fieldsOkT Tryd.prog 50 := by
  intro d hd; rw [Tryd.underlying50] at hd; cases hd
  intro f hf; simp only [List.mem_cons, List.not_mem_nil, or_false] at hf
  rcases hf with rfl | rfl
  · obtain ⟨i, h, _⟩ := e9.ex; exact ⟨i, h⟩
  · obtain ⟨i, h, _⟩ := e4.ex; exact ⟨i, h⟩
theorem f51 : fieldsOkT Tryd.prog 51 := by
  intro d hd; rw [Tryd.underlying51] at hd; cases hd
  intro f hf; simp only [List.mem_cons, List.not_mem_nil, or_false] at hf
  rcases hf with rfl | rfl
  · obtain ⟨i, h, _⟩ := e9.ex; exact ⟨i, h⟩
  · obtain ⟨i, h, _⟩ := e4.ex; exact ⟨i, h⟩
theorem f62 : fieldsOkT Tryd.prog 62 := by
  intro d hd; rw [Tryd.underlying62] at hd; cases hd
  intro f hf; simp only [List.mem_cons, List.not_mem_nil, or_false] at hf
  rcases hf with rfl | rfl
  · obtain ⟨i, h, _⟩ := e47.ex; exact ⟨i, h⟩
  · obtain ⟨i, h, _⟩ := e22.ex; exact ⟨i, h⟩
theorem f63 : fieldsOkT Tryd.prog 63 := by
  intro d hd; rw [Tryd.underlying63] at hd; cases hd
  intro f hf; simp only [List.mem_cons, List.not_mem_nil, or_false] at hf
  rcases hf with rfl | rfl
  · obtain ⟨i, h, _⟩ := e47.ex; exact ⟨i, h⟩
  · obtain ⟨i, h, _⟩ := e22.ex; exact ⟨i, h⟩
theorem f67 : fieldsOkT Tryd.prog 67 := by
  intro d hd; rw [Tryd.underlying67] at hd; cases hd
  intro f hf; simp only [List.mem_cons, List.not_mem_nil, or_false] at hf
  rcases hf with rfl
  · obtain ⟨i, h, _⟩ := e24.ex; exact ⟨i, h⟩
theorem f68 : fieldsOkT Tryd.prog 68 := by
  intro d hd; rw [Tryd.underlying68] at hd; cases hd
  intro f hf; simp only [List.mem_cons, List.not_mem_nil, or_false] at hf
  rcases hf with rfl
  · obtain ⟨i, h, _⟩ := e24.ex; exact ⟨i, h⟩
theorem f90 : fieldsOkT Tryd.prog 90 := by
  intro d hd; rw [Tryd.underlying90] at hd; cases hd
  intro f hf; simp only [List.mem_cons, List.not_mem_nil, or_false] at hf
  rcases hf with rfl | rfl | rfl
  · obtain ⟨i, h, _⟩ := e3.ex; exact ⟨i, h⟩
  · obtain ⟨i, h, _⟩ := e3.ex; exact ⟨i, h⟩
  · obtain ⟨i, h, _⟩ := e3.ex; exact ⟨i, h⟩
theorem f92 : fieldsOkT Tryd.prog 92 := by
  intro d hd; rw [Tryd.underlying92] at hd; cases hd
  intro f hf; simp only [List.mem_cons, List.not_mem_nil, or_false] at hf
  rcases hf with rfl | rfl | rfl | rfl
  · obtain ⟨i, h, _⟩ := e3.ex; exact ⟨i, h⟩
  · obtain ⟨i, h, _⟩ := e9.ex; exact ⟨i, h⟩
  · obtain ⟨i, h, _⟩ := e9.ex; exact ⟨i, h⟩
  · obtain ⟨i, h, _⟩ := e3.ex; exact ⟨i, h⟩
theorem f114 : fieldsOkT Tryd.prog 114 := by
  intro d hd; rw [Tryd.underlying114] at hd; cases hd
  obtain ⟨i, h, _⟩ := e9.ex; exact ⟨i, h⟩
theorem f115 : fieldsOkT Tryd.prog 115 := by
  intro d hd; rw [Tryd.underlying115] at hd; cases hd
  obtain ⟨i, h, _⟩ := e114.ex; exact ⟨i, h⟩
theorem f143 : fieldsOkT Tryd.prog 143 := by
  intro d hd; rw [Tryd.underlying143] at hd; cases hd
  obtain ⟨i, h, _⟩ := e142.ex; exact ⟨i, h⟩
theorem q30 : EqT Tryd.prog 30 [.s, .i .i64] := ⟨by kernel_rfl, by kernel_rfl⟩
theorem kqt30 : (EqT Tryd.prog 30 [.s, .i .i64]) = True := eq_true q30
theorem k1 {K : Prop} : Chk (ElemZ Tryd.prog 1 (.nilFunc)) K = K := Chk_of e1
theorem k2 {K : Prop} : Chk (ElemZ Tryd.prog 2 (.int .i64 0)) K = K := Chk_of e2
theorem k3 {K : Prop} : Chk (ElemZ Tryd.prog 3 (.int .i64 0)) K = K := Chk_of e3
theorem ke3 : (ElemZ Tryd.prog 3 (.int .i64 0)) = True := eq_true e3
theorem k4 {K : Prop} : Chk (ElemZ Tryd.prog 4 (.bool false)) K = K := Chk_of e4
theorem k5 {K : Prop} : Chk (ElemZ Tryd.prog 5 (.int .u8 0)) K = K := Chk_of e5
theorem ke9 : (ElemZ Tryd.prog 9 (.string ⟨#[]⟩)) = True := eq_true e9
theorem ke30 : (ElemZ Tryd.prog 30 (.agg #[.string ⟨#[]⟩, .int .i64 0])) = True := eq_true e30
theorem ke51 : (ElemZ Tryd.prog 51 (.agg #[.string ⟨#[]⟩, .bool false])) = True := eq_true e51
theorem ke57 : (ElemZ Tryd.prog 57 (.slice none 0 0)) = True := eq_true e57
theorem ke82 : (ElemZ Tryd.prog 82 (.slice none 0 0)) = True := eq_true e82
theorem ke90 : (ElemZ Tryd.prog 90 (.agg #[.int .i64 0, .int .i64 0, .int .i64 0])) = True := eq_true e90
theorem ke92 : (ElemZ Tryd.prog 92 (.agg #[.int .i64 0, .string ⟨#[]⟩, .string ⟨#[]⟩, .int .i64 0])) = True := eq_true e92
theorem kt30 : (fieldsOkT Tryd.prog 30) = True := eq_true f30
theorem kt51 : (fieldsOkT Tryd.prog 51) = True := eq_true f51
theorem kt90 : (fieldsOkT Tryd.prog 90) = True := eq_true f90
theorem kt92 : (fieldsOkT Tryd.prog 92) = True := eq_true f92
theorem kt114 : (fieldsOkT Tryd.prog 114) = True := eq_true f114
theorem kt115 : (fieldsOkT Tryd.prog 115) = True := eq_true f115
theorem ky5 : Maps.Keyed Tryd.prog 5 = True := eq_true (Maps.int_keyed Tryd.underlying5)
theorem kt_5 (n : Int) : KeyT Tryd.prog 5 (.int .u8 n) = True := eq_true (.int Tryd.underlying5 n)
theorem ky9 : Maps.Keyed Tryd.prog 9 = True := eq_true (Maps.string_keyed Tryd.underlying9)
theorem kt_9 (s : List UInt8) : KeyT Tryd.prog 9 (.str s) = True := eq_true (.str Tryd.underlying9 s)
attribute [go_sem] kqt30
attribute [go_sem] Tryd.underlying0 Tryd.underlying1 Tryd.underlying2 Tryd.underlying3 Tryd.underlying4 Tryd.underlying5 Tryd.underlying6 Tryd.underlying7 Tryd.underlying8 Tryd.underlying9 Tryd.underlying10 Tryd.underlying11
attribute [go_sem] Tryd.underlying12 Tryd.underlying13 Tryd.underlying14 Tryd.underlying15 Tryd.underlying16 Tryd.underlying17 Tryd.underlying18 Tryd.underlying19 Tryd.underlying20 Tryd.underlying21 Tryd.underlying22 Tryd.underlying23
attribute [go_sem] Tryd.underlying24 Tryd.underlying25 Tryd.underlying26 Tryd.underlying27 Tryd.underlying28 Tryd.underlying29 Tryd.underlying30 Tryd.underlying31 Tryd.underlying32 Tryd.underlying33 Tryd.underlying34 Tryd.underlying35
attribute [go_sem] Tryd.underlying36 Tryd.underlying37 Tryd.underlying38 Tryd.underlying39 Tryd.underlying40 Tryd.underlying41 Tryd.underlying42 Tryd.underlying43 Tryd.underlying44 Tryd.underlying45 Tryd.underlying46 Tryd.underlying47
attribute [go_sem] Tryd.underlying48 Tryd.underlying49 Tryd.underlying50 Tryd.underlying51 Tryd.underlying52 Tryd.underlying53 Tryd.underlying54 Tryd.underlying55 Tryd.underlying56 Tryd.underlying57 Tryd.underlying58 Tryd.underlying59
attribute [go_sem] Tryd.underlying60 Tryd.underlying61 Tryd.underlying62 Tryd.underlying63 Tryd.underlying64 Tryd.underlying65 Tryd.underlying66 Tryd.underlying67 Tryd.underlying68 Tryd.underlying69 Tryd.underlying70 Tryd.underlying71
attribute [go_sem] Tryd.underlying72 Tryd.underlying73 Tryd.underlying74 Tryd.underlying75 Tryd.underlying76 Tryd.underlying77 Tryd.underlying78 Tryd.underlying79 Tryd.underlying80 Tryd.underlying81 Tryd.underlying82 Tryd.underlying83
attribute [go_sem] Tryd.underlying84 Tryd.underlying85 Tryd.underlying86 Tryd.underlying87 Tryd.underlying88 Tryd.underlying89 Tryd.underlying90 Tryd.underlying91 Tryd.underlying92 Tryd.underlying93 Tryd.underlying94 Tryd.underlying95
attribute [go_sem] Tryd.underlying96 Tryd.underlying97 Tryd.underlying98 Tryd.underlying99 Tryd.underlying100 Tryd.underlying101 Tryd.underlying102 Tryd.underlying103 Tryd.underlying104 Tryd.underlying105 Tryd.underlying106 Tryd.underlying107
attribute [go_sem] Tryd.underlying108 Tryd.underlying109 Tryd.underlying110 Tryd.underlying111 Tryd.underlying112 Tryd.underlying113 Tryd.underlying114 Tryd.underlying115 Tryd.underlying116 Tryd.underlying117 Tryd.underlying118 Tryd.underlying119
attribute [go_sem] Tryd.underlying120 Tryd.underlying121 Tryd.underlying122 Tryd.underlying123 Tryd.underlying124 Tryd.underlying125 Tryd.underlying126 Tryd.underlying127 Tryd.underlying128 Tryd.underlying129 Tryd.underlying130 Tryd.underlying131
attribute [go_sem] Tryd.underlying132 Tryd.underlying133 Tryd.underlying134 Tryd.underlying135 Tryd.underlying136 Tryd.underlying137 Tryd.underlying138 Tryd.underlying139 Tryd.underlying140 Tryd.underlying141 Tryd.underlying142 Tryd.underlying143
attribute [go_sem] Tryd.underlying144 Tryd.underlying145 Tryd.underlying146 Tryd.underlying147 Tryd.underlying148 Tryd.underlying149 Tryd.underlying150 Tryd.underlying151 Tryd.underlying152 Tryd.underlying153 Tryd.underlying154 Tryd.underlying155
attribute [go_sem] Tryd.underlying156 Tryd.underlying157 Tryd.underlying158 Tryd.underlying159 Tryd.underlying160 k1 z1 c1 k2 z2
attribute [go_sem] c2 k3 ke3 z3 c3 k4 z4 c4 k5 z5
attribute [go_sem] c5
attribute [go_sem] ke9 z9 c9
attribute [go_sem] z22
attribute [go_sem] z25
attribute [go_sem] ke30 z30
attribute [go_sem] c30
attribute [go_sem] z39
attribute [go_sem] z45
attribute [go_sem] z46 z48
attribute [go_sem] c48 z50 ke51 z51
attribute [go_sem] c51 z53
attribute [go_sem] z55 ke57 z57
attribute [go_sem] c57
attribute [go_sem] z66
attribute [go_sem] z76 z77
attribute [go_sem] ke82 z82
attribute [go_sem] ke90 z90 c90 ke92 z92
attribute [go_sem] z113 c113 z114
attribute [go_sem] c114 z115
attribute [go_sem] z146
attribute [go_sem] kt30
attribute [go_sem] kt51
attribute [go_sem] kt90 kt92
attribute [go_sem] kt114 kt115
attribute [go_sem] ky5 kt_5 ky9 kt_9
end Go.Fv.V

/- Words with counts, as data; their order. -/
namespace Go.Fv.V
open Go Go.Proofs
set_option linter.unusedSimpArgs false
set_option linter.unusedVariables false
set_option maxRecDepth 8000

structure Wd where
  t : List UInt8
  c : Int
deriving DecidableEq
def Wd.av (x : Wd) : List AV := [.str x.t, .int .i64 x.c]
def Wd.zero : Wd := ⟨[], 0⟩
abbrev wdR (l : List Wd) : RowV := .objs 2 (l.map Wd.av)
instance : FNoId Wd.av := ⟨fun _ => rfl⟩
theorem wd_elem (l : List Wd) {i : Nat} (h : i < l.length) : (l.map Wd.av).getD i [] = [.str (l.getD i Wd.zero).t, .int .i64 (l.getD i Wd.zero).c] := by
  rw [getD_lt (by simpa using h), getD_lt h, List.getElem_map]; rfl
theorem wd_snoc (l : List Wd) (s : List UInt8) (n : Int) : l.map Wd.av ++ [[.str s, .int .i64 n]] = (l ++ [(⟨s, n⟩ : Wd)]).map Wd.av := by simp [Wd.av]
theorem cmp_lt : ∀ a b : List UInt8, Lib.compareBytes a b < 0 ↔ a < b
  | [], [] => by simp [Lib.compareBytes]
  | [], b :: bs => by simp [Lib.compareBytes]
  | a :: r, [] => by simp [Lib.compareBytes]
  | a :: r, b :: bs => by
    rw [Lib.compareBytes, List.cons_lt_cons_iff]
    have ih := cmp_lt r bs
    by_cases h1 : a < b
    · rw [if_pos h1]; simp [h1]
    · rw [if_neg h1]
      by_cases h2 : b < a
      · rw [if_pos h2]
        constructor
        · intro h; omega
        · rintro (h | ⟨h, _⟩)
          · exact absurd h h1
          · subst h; exact absurd h2 h1
      · rw [if_neg h2, ih]
        have e : a = b := UInt8.le_antisymm (UInt8.not_lt.1 h2) (UInt8.not_lt.1 h1)
        subst e
        simp [h1]
theorem cmp_bd : ∀ a b : List UInt8, -1 ≤ Lib.compareBytes a b ∧ Lib.compareBytes a b ≤ 1
  | [], [] => by simp [Lib.compareBytes]
  | [], b :: bs => by simp [Lib.compareBytes]
  | a :: r, [] => by simp [Lib.compareBytes]
  | a :: r, b :: bs => by
    rw [Lib.compareBytes]
    have ih := cmp_bd r bs
    split
    · omega
    · split
      · omega
      · exact ih
def cfW (x y : Wd) : Int := Lib.compareBytes x.t y.t
def WdOk (x : Wd) : Prop := x.t.length ≤ 1048576 ∧ 0 ≤ x.c ∧ x.c ≤ 1000000000000
theorem cfW_ord : CmpOrd WdOk cfW where
  irrefl := fun x _ h => List.lt_irrefl _ ((cmp_lt _ _).1 h)
  trans := fun x y z _ _ _ h1 h2 => (cmp_lt _ _).2 (List.lt_trans ((cmp_lt _ _).1 h1) ((cmp_lt _ _).1 h2))
  ntrans := fun x y z _ _ _ h1 h2 h3 => by
    have k1 : y.t ≤ x.t := fun hlt => h1 ((cmp_lt _ _).2 hlt)
    have k2 : z.t ≤ y.t := fun hlt => h2 ((cmp_lt _ _).2 hlt)
    exact List.le_trans k2 k1 ((cmp_lt _ _).1 h3)
theorem sorted_le {l : List Wd} (h : SortedBy cfW l) : l.Pairwise fun x y => x.t ≤ y.t :=
  h.imp fun {x y} hxy hlt => hxy ((cmp_lt _ _).2 hlt)
theorem sorted_eq : ∀ {l l' : List Wd}, l.Perm l' → (l.map Wd.t).Nodup → (l.Pairwise fun x y => x.t ≤ y.t) → (l'.Pairwise fun x y => x.t ≤ y.t) → l = l'
  | [], l', hp, _, _, _ => (List.nil_perm.1 hp).symm
  | x :: l, [], hp, _, _, _ => by simp at hp
  | x :: l, y :: l', hp, hn, h1, h2 => by
    have e : x = y := by
      obtain ⟨a1, a2⟩ := List.pairwise_cons.1 h1
      obtain ⟨b1, b2⟩ := List.pairwise_cons.1 h2
      have hx : x ∈ y :: l' := hp.mem_iff.1 List.mem_cons_self
      have hy : y ∈ x :: l := hp.mem_iff.2 List.mem_cons_self
      rcases List.mem_cons.1 hx with h | hx
      · exact h
      rcases List.mem_cons.1 hy with h | hy
      · exact h.symm
      have et : x.t = y.t := List.le_antisymm (a1 y hy) (b1 x hx)
      have hn2 := (List.nodup_cons.1 hn).1
      exact absurd (List.mem_map.2 ⟨y, hy, et.symm⟩) hn2
    subst e
    rw [sorted_eq (List.perm_cons x |>.1 hp) (List.nodup_cons.1 hn).2 (List.pairwise_cons.1 h1).2 (List.pairwise_cons.1 h2).2]
def sortW (l : List Wd) : List Wd := l.mergeSort fun x y => decide (x.t ≤ y.t)
theorem sortW_perm (l : List Wd) : (sortW l).Perm l := List.mergeSort_perm _ _
theorem sortW_le (l : List Wd) : (sortW l).Pairwise fun x y => x.t ≤ y.t := by
  have h := List.pairwise_mergeSort (le := fun x y : Wd => decide (x.t ≤ y.t)) (fun a b c h1 h2 => decide_eq_true (List.le_trans (of_decide_eq_true h1) (of_decide_eq_true h2))) (fun a b => by
    rcases List.le_total a.t b.t with h | h <;> simp [h]) l
  exact h.imp fun h => of_decide_eq_true h
/-- What the library makes of words with different texts. -/
theorem sortW_eq {l l' : List Wd} (hp : l'.Perm l) (hs : SortedBy cfW l') (hn : (l.map Wd.t).Nodup) : l' = sortW l :=
  sorted_eq (hp.trans (sortW_perm l).symm) ((hp.map Wd.t).nodup_iff.2 hn) (sorted_le hs) (sortW_le l)
end Go.Fv.V

/- Tokens of a text: what Split and its reference compute, in plain words. -/
namespace Go.Fv.V
open Go
set_option linter.unusedSimpArgs false
set_option linter.unusedVariables false
set_option linter.unnecessarySimpa false

abbrev Bytes := List UInt8
/-- A letter. -/
def isL (c : UInt8) : Bool := decide (97 ≤ c.toNat) && decide (c.toNat ≤ 122) || decide (65 ≤ c.toNat) && decide (c.toNat ≤ 90) || decide (128 ≤ c.toNat)
/-- What can be in a word. -/
def inW (c : UInt8) : Bool := isL c || decide (c = 39)
def qu (c : UInt8) : Bool := decide (c = 39)
/-- The quotes before and behind are left out. -/
def preQ (t : Bytes) : Bytes := t.takeWhile qu
def dropQ (t : Bytes) : Bytes := t.dropWhile qu
def dropR (t : Bytes) : Bytes := (t.reverse.dropWhile qu).reverse
def postQ (t : Bytes) : Bytes := (t.reverse.takeWhile qu).reverse
def midQ (t : Bytes) : Bytes := dropR (dropQ t)
def isWd (s : Bytes) : Bool := decide (s ≠ []) && decide (s.length ≤ 40) && isL (s.headD 0) && isL (s.getLastD 0) && s.all inW

abbrev Tok := Bytes × Bool
/-- What is between goes out, if it is something. -/
def flush (out : List Tok) (btw : Bytes) : List Tok := if btw = [] then out else out ++ [(btw, false)]

theorem takeWhile_len_le {α : Type} (p : α → Bool) (l : List α) : (l.takeWhile p).length + (l.dropWhile p).length = l.length := by
  conv => rhs; rw [← List.takeWhile_append_dropWhile (p := p) (l := l)]
  rw [List.length_append]
theorem drop_lt {c : UInt8} {s : Bytes} (h : inW c = true) : ((c :: s).dropWhile inW).length < (c :: s).length := by
  have := takeWhile_len_le inW (c :: s)
  have h2 : 0 < ((c :: s).takeWhile inW).length := by simp [List.takeWhile_cons, h]
  omega
/-- The tokens of what is left, behind those that are there. -/
def toks (s btw : Bytes) (out : List Tok) : List Tok :=
  match s with
  | [] => flush out btw
  | c :: s' => if h : inW c = true then
      if isWd (midQ ((c :: s').takeWhile inW)) = true then
        toks ((c :: s').dropWhile inW) (postQ (dropQ ((c :: s').takeWhile inW))) (flush out (btw ++ preQ ((c :: s').takeWhile inW)) ++ [(midQ ((c :: s').takeWhile inW), true)])
      else toks ((c :: s').dropWhile inW) (btw ++ (c :: s').takeWhile inW) out
    else toks s' (btw ++ [c]) out
termination_by s.length
decreasing_by
  · exact drop_lt h
  · exact drop_lt h
  · simp

theorem toks_nil (btw : Bytes) (out : List Tok) : toks [] btw out = flush out btw := by unfold toks; rfl
theorem toks_other {c : UInt8} {s : Bytes} (h : inW c = false) (btw : Bytes) (out : List Tok) : toks (c :: s) btw out = toks s (btw ++ [c]) out := by
  rw [toks]; simp [h]
theorem toks_word {c : UInt8} {s : Bytes} (h : inW c = true) (btw : Bytes) (out : List Tok) (hw : isWd (midQ ((c :: s).takeWhile inW)) = true) :
    toks (c :: s) btw out = toks ((c :: s).dropWhile inW) (postQ (dropQ ((c :: s).takeWhile inW))) (flush out (btw ++ preQ ((c :: s).takeWhile inW)) ++ [(midQ ((c :: s).takeWhile inW), true)]) := by
  rw [toks, dif_pos h, if_pos hw]
theorem toks_row {c : UInt8} {s : Bytes} (h : inW c = true) (btw : Bytes) (out : List Tok) (hw : ¬ isWd (midQ ((c :: s).takeWhile inW)) = true) :
    toks (c :: s) btw out = toks ((c :: s).dropWhile inW) (btw ++ (c :: s).takeWhile inW) out := by
  rw [toks, dif_pos h, if_neg hw]

theorem pre_drop (t : Bytes) : preQ t ++ dropQ t = t := List.takeWhile_append_dropWhile
theorem mid_post (t : Bytes) : dropR t ++ postQ t = t := by
  have h := List.takeWhile_append_dropWhile (p := qu) (l := t.reverse)
  have := congrArg List.reverse h
  rw [List.reverse_append, List.reverse_reverse] at this
  exact this
theorem three (t : Bytes) : preQ t ++ (midQ t ++ postQ (dropQ t)) = t := by
  unfold midQ; rw [mid_post, pre_drop]
end Go.Fv.V

/- Letters, words, and the trims at one byte. -/
namespace Go.Fv.V
open Go Go.Proofs
set_option linter.unusedSimpArgs false
set_option linter.unusedVariables false
set_option linter.unnecessarySimpa false
set_option maxRecDepth 8000

theorem isL_eq (c : UInt8) : isL c = decide ((97 ≤ (c.toNat : Int) ∧ (c.toNat : Int) ≤ 122 ∨ 65 ≤ (c.toNat : Int) ∧ (c.toNat : Int) ≤ 90) ∨ 128 ≤ (c.toNat : Int)) := by
  rw [Bool.eq_iff_iff]; simp only [isL, Bool.or_eq_true, Bool.and_eq_true, decide_eq_true_eq]; omega
theorem u8_39 (c : UInt8) : c = 39 ↔ (c.toNat : Int) = 39 := by
  constructor
  · rintro rfl; rfl
  · intro h; exact UInt8.toNat_inj.1 (by show c.toNat = 39; omega)
theorem inW_eq (c : UInt8) : inW c = (isL c || decide ((c.toNat : Int) = 39)) := by
  simp only [inW, u8_39]
theorem letter_ok (c : UInt8) : FnOk Tryd.prog 54 [.int .u8 c.toNat] (.bool (isL c)) [] := by
  refine FnOk.of_vc Tryd.func54 rfl (by decide) (by simp [Tryd.f54]) [.tmp 2] rfl fun w0 T0 _ => ?_
  simp only [Tryd.f54, argEnv]
  (repeat' first | with_reducible (first | intro _ | refine rc ?_ | refine rl ?_ | refine rh ?_ | refine rt ?_ | refine rf ?_ | refine rs ?_ | refine And.intro ?_ ?_) | omega | simp (maxSteps := 1000000) only [go_sem, simprocAttr, ↓reduceIte])
  refine Ret.auto 0 ?_ rfl ?_ <;> simp only [go_sem, reduceCtorEq, reduceIte, Nat.reduceEqDiff, Nat.reduceLT, Nat.reduceLeDiff, Int.natCast_succ, Post, isL_eq]
theorem isLetter_ok (c : UInt8) : FnOk Tryd.prog 50 [.int .u8 c.toNat] (.bool (isL c)) [] := by
  refine FnOk.of_vc Tryd.func50 rfl (by decide) (by simp [Tryd.f50]) [.tmp 2] rfl fun w0 T0 _ => ?_
  simp only [Tryd.f50, argEnv]
  (repeat' first | with_reducible (first | intro _ | refine rc ?_ | refine rl ?_ | refine rh ?_ | refine rt ?_ | refine rf ?_ | refine rs ?_ | refine And.intro ?_ ?_) | omega | simp (maxSteps := 1000000) only [go_sem, simprocAttr, ↓reduceIte])
  refine Ret.auto 0 ?_ rfl ?_ <;> simp only [go_sem, reduceCtorEq, reduceIte, Nat.reduceEqDiff, Nat.reduceLT, Nat.reduceLeDiff, Int.natCast_succ, Post, isL_eq]
theorem inWord_ok (c : UInt8) : FnOk Tryd.prog 42 [.int .u8 c.toNat] (.bool (inW c)) [] := by
  have k := letter_ok c
  refine FnOk.of_vc Tryd.func42 rfl (by decide) (by simp [Tryd.f42]) [.tmp 2] rfl fun w0 T0 _ => ?_
  simp only [Tryd.f42, argEnv]
  (repeat' first | with_reducible (first | intro _ | refine rc ?_ | refine rl ?_ | refine rh ?_ | refine rt ?_ | refine rf ?_ | refine rs ?_ | refine And.intro ?_ ?_) | omega | simp (maxSteps := 1000000) only [go_sem, simprocAttr, ↓reduceIte])
  refine VcCall.k k ?_
  (repeat' first | with_reducible (first | intro _ | refine rc ?_ | refine rl ?_ | refine rh ?_ | refine rt ?_ | refine rf ?_ | refine rs ?_ | refine And.intro ?_ ?_) | omega | simp (maxSteps := 1000000) only [go_sem, simprocAttr, ↓reduceIte])
  refine Ret.auto 0 ?_ rfl ?_ <;> simp only [go_sem, reduceCtorEq, reduceIte, Nat.reduceEqDiff, Nat.reduceLT, Nat.reduceLeDiff, Int.natCast_succ, Post, inW_eq]
theorem isWd_nil : isWd [] = false := by simp [isWd]
theorem isWd_long {s : List UInt8} (h : 40 < (s.length : Int)) : isWd s = false := by
  have : ¬ s.length ≤ 40 := by omega
  simp [isWd, this]
theorem isWd_mid {s : List UInt8} (h0 : ¬ s = []) (h1 : ¬ 40 < (s.length : Int)) : isWd s = (isL (s.getD 0 0) && isL (s.getD (s.length - 1) 0) && s.all inW) := by
  have h : s.length ≤ 40 := by omega
  have e1 : s.headD 0 = s.getD 0 0 := by cases s <;> rfl
  have e2 : s.getLastD 0 = s.getD (s.length - 1) 0 := by
    rw [List.getLastD_eq_getLast?, List.getLast?_eq_getElem?]; simp [List.getD]
  simp only [isWd, e1, e2, h0, h, ne_eq, not_false_eq_true, decide_true, Bool.true_and]
theorem all_of {s : List UInt8} (h : ∀ j, j < s.length → inW (s.getD j 0) = true) : s.all inW = true := by
  rw [List.all_eq_true]; intro x hx
  obtain ⟨j, hj, rfl⟩ := List.getElem_of_mem hx
  have := h j hj; rwa [getD_lt hj] at this
theorem all_not {s : List UInt8} {j : Nat} (hj : j < s.length) (h : inW (s.getD j 0) = false) : s.all inW = false := by
  rw [Bool.eq_false_iff]; intro ha
  rw [List.all_eq_true] at ha
  have := ha _ (List.getElem_mem hj)
  rw [getD_lt hj] at h; rw [h] at this; cases this
set_option maxHeartbeats 2000000 in
theorem isWord_ok (s : List UInt8) (hs : s.length ≤ 1000000000000) : FnOk Tryd.prog 33 [.str s] (.bool (isWd s)) [] := by
  refine FnOk.of_vc Tryd.func33 rfl (by decide) (by simp [Tryd.f33]) [.tmp 2] rfl fun w0 T0 _ => ?_
  simp only [Tryd.f33, argEnv]
  by_cases h0 : s = []
  · (repeat' first | with_reducible (first | intro _ | refine rc ?_ | refine rl ?_ | refine rh ?_ | refine rt ?_ | refine rf ?_ | refine rs ?_ | refine And.intro ?_ ?_) | omega | simp (maxSteps := 1000000) only [go_sem, simprocAttr, ↓reduceIte, h0])
    refine Ret.auto 0 ?_ rfl ?_ <;> simp only [go_sem, reduceCtorEq, reduceIte, Nat.reduceEqDiff, Nat.reduceLT, Nat.reduceLeDiff, Int.natCast_succ, Post, isWd_nil]
  · by_cases h1 : 40 < (s.length : Int)
    · (repeat' first | with_reducible (first | intro _ | refine rc ?_ | refine rl ?_ | refine rh ?_ | refine rt ?_ | refine rf ?_ | refine rs ?_ | refine And.intro ?_ ?_) | omega | simp (maxSteps := 1000000) only [go_sem, simprocAttr, ↓reduceIte, h0, h1])
      refine Ret.auto 0 ?_ rfl ?_ <;> simp only [go_sem, reduceCtorEq, reduceIte, Nat.reduceEqDiff, Nat.reduceLT, Nat.reduceLeDiff, Int.natCast_succ, Post, isWd_long h1]
    · have hp : 0 < s.length := List.length_pos_iff.2 h0
      have hp2 : (0 : Int) < s.length := by omega
      have k := letter_ok (s.getD 0 0)
      have k2 := letter_ok (s.getD (s.length - 1) 0)
      have e := isWd_mid h0 h1
      have et : ((s.length : Int) - 1).toNat = s.length - 1 := by omega
      (repeat' first | with_reducible (first | intro _ | refine rc ?_ | refine rl ?_ | refine rh ?_ | refine rt ?_ | refine rf ?_ | refine rs ?_ | refine And.intro ?_ ?_) | omega | simp (maxSteps := 1000000) only [go_sem, simprocAttr, ↓reduceIte, h0, h1, hp2])
      refine VcCall.k k ?_
      cases hL : isL (s.getD 0 0) with
      | false =>
        (repeat' first | with_reducible (first | intro _ | refine rc ?_ | refine rl ?_ | refine rh ?_ | refine rt ?_ | refine rf ?_ | refine rs ?_ | refine And.intro ?_ ?_) | omega | simp (maxSteps := 1000000) only [go_sem, simprocAttr, ↓reduceIte, hL])
        refine Ret.auto 0 ?_ rfl ?_ <;> simp only [go_sem, reduceCtorEq, reduceIte, Nat.reduceEqDiff, Nat.reduceLT, Nat.reduceLeDiff, Int.natCast_succ, Post, e, hL, Bool.false_and]
      | true =>
        (repeat' first | with_reducible (first | intro _ | refine rc ?_ | refine rl ?_ | refine rh ?_ | refine rt ?_ | refine rf ?_ | refine rs ?_ | refine And.intro ?_ ?_) | omega | simp (maxSteps := 1000000) only [go_sem, simprocAttr, ↓reduceIte, hL, et])
        refine VcCall.k k2 ?_
        cases hL2 : isL (s.getD (s.length - 1) 0) with
        | false =>
          (repeat' first | with_reducible (first | intro _ | refine rc ?_ | refine rl ?_ | refine rh ?_ | refine rt ?_ | refine rf ?_ | refine rs ?_ | refine And.intro ?_ ?_) | omega | simp (maxSteps := 1000000) only [go_sem, simprocAttr, ↓reduceIte, hL2])
          refine Ret.auto 0 ?_ rfl ?_ <;> simp only [go_sem, reduceCtorEq, reduceIte, Nat.reduceEqDiff, Nat.reduceLT, Nat.reduceLeDiff, Int.natCast_succ, Post, e, hL, hL2, Bool.false_and, Bool.and_false]
        | true =>
          (repeat' first | with_reducible (first | intro _ | refine rc ?_ | refine rl ?_ | refine rh ?_ | refine rt ?_ | refine rf ?_ | refine rs ?_ | refine And.intro ?_ ?_) | omega | simp (maxSteps := 1000000) only [go_sem, simprocAttr, ↓reduceIte, hL2])
          refine VcLoop.intro (fun i : Nat => ⟨37, [(28, .int .i64 i), (27, .int .i64 s.length), (0, .str s)], [], 0⟩) (fun i => i ≤ s.length ∧ ∀ j, j < i → inW (s.getD j 0) = true) (fun i => s.length - i) 0 ?_ ⟨Nat.zero_le _, fun j hj => absurd hj (Nat.not_lt_zero j)⟩ fun i hi => ?_
          · refine Ent.auto0 rfl ?_ ?_ <;> simp only [go_sem, reduceCtorEq, reduceIte, Nat.reduceEqDiff, Nat.reduceLT, Nat.reduceLeDiff, Int.natCast_succ]
          obtain ⟨hi, ha⟩ := hi
          have k3 := inWord_ok (s.getD i 0)
          (repeat' first | with_reducible (first | intro _ | refine rc ?_ | refine rl ?_ | refine rh ?_ | refine rt ?_ | refine rf ?_ | refine rs ?_ | refine And.intro ?_ ?_) | omega | simp (maxSteps := 1000000) only [go_sem, simprocAttr, ↓reduceIte, Int.toNat_natCast])
          · refine VcCall.k k3 ?_
            cases hW : inW (s.getD i 0) with
            | false =>
              have hf := all_not (by omega) hW
              (repeat' first | with_reducible (first | intro _ | refine rc ?_ | refine rl ?_ | refine rh ?_ | refine rt ?_ | refine rf ?_ | refine rs ?_ | refine And.intro ?_ ?_) | omega | simp (maxSteps := 1000000) only [go_sem, simprocAttr, ↓reduceIte, hW])
              refine Ret.auto 0 ?_ rfl ?_ <;> simp only [go_sem, reduceCtorEq, reduceIte, Nat.reduceEqDiff, Nat.reduceLT, Nat.reduceLeDiff, Int.natCast_succ, Post, e, hf, Bool.and_false]
            | true =>
              (repeat' first | with_reducible (first | intro _ | refine rc ?_ | refine rl ?_ | refine rh ?_ | refine rt ?_ | refine rf ?_ | refine rs ?_ | refine And.intro ?_ ?_) | omega | simp (maxSteps := 1000000) only [go_sem, simprocAttr, ↓reduceIte, hW])
              refine ⟨i + 1, Ent.auto0 rfl ?_ ?_, ⟨by omega, fun j hj => ?_⟩, by omega⟩
              · simp only [go_sem, reduceCtorEq, reduceIte, Nat.reduceEqDiff, Nat.reduceLT, Nat.reduceLeDiff, Int.natCast_succ]
              · simp only [go_sem, reduceCtorEq, reduceIte, Nat.reduceEqDiff, Nat.reduceLT, Nat.reduceLeDiff, Int.natCast_succ]
              · by_cases hji : j = i
                · rw [hji]; exact hW
                · exact ha j (by omega)
          · have hf := all_of fun j hj => ha j (by omega)
            refine Ret.auto 0 ?_ rfl ?_ <;> simp only [go_sem, reduceCtorEq, reduceIte, Nat.reduceEqDiff, Nat.reduceLT, Nat.reduceLeDiff, Int.natCast_succ, Post, e, hL, hL2, hf, Bool.and_true]
end Go.Fv.V

/- The trims at the quote. -/
namespace Go.Fv.V
open Go Go.Proofs
set_option linter.unusedSimpArgs false
set_option linter.unusedVariables false
set_option linter.unnecessarySimpa false
set_option maxRecDepth 8000

theorem dropQ_q {s : List UInt8} (h0 : 0 < s.length) (h : (s.getD 0 0).toNat = 39) : dropQ (s.drop 1) = dropQ s := by
  cases s with
  | nil => simp at h0
  | cons c t =>
    have hc : c = 39 := UInt8.toNat_inj.1 h
    subst hc; rfl
theorem dropQ_n {s : List UInt8} (h : 0 < s.length → ¬ ((s.getD 0 0).toNat = 39)) : dropQ s = s := by
  cases s with
  | nil => rfl
  | cons c t =>
    have hc : ¬ c = 39 := fun e => h (by simp) (by subst e; rfl)
    simp [dropQ, qu, hc]
theorem dropR_snoc (t : List UInt8) (c : UInt8) : dropR (t ++ [c]) = if c = 39 then dropR t else t ++ [c] := by
  unfold dropR
  rw [List.reverse_append, List.reverse_singleton, List.singleton_append, List.dropWhile_cons]
  by_cases h : c = 39
  · simp [qu, h]
  · simp [qu, h]
theorem last_of {s : List UInt8} (h0 : 0 < s.length) : s = s.take (s.length - 1) ++ [s.getD (s.length - 1) 0] := by
  rw [getD_lt (by omega)]
  rw [List.take_append_getElem (by omega)]
  rw [List.take_of_length_le (by omega)]
theorem dropR_q {s : List UInt8} (h0 : 0 < s.length) (h : (s.getD (s.length - 1) 0).toNat = 39) : dropR (s.take (s.length - 1)) = dropR s := by
  have hc : s.getD (s.length - 1) 0 = 39 := UInt8.toNat_inj.1 h
  conv => rhs; rw [last_of h0, dropR_snoc, if_pos hc]
theorem dropR_n {s : List UInt8} (h : 0 < s.length → ¬ ((s.getD (s.length - 1) 0).toNat = 39)) : dropR s = s := by
  by_cases h0 : 0 < s.length
  · have hc : ¬ s.getD (s.length - 1) 0 = 39 := fun e => h h0 (by rw [e]; rfl)
    conv => lhs; rw [last_of h0, dropR_snoc, if_neg hc]
    exact (last_of h0).symm
  · have : s = [] := List.eq_nil_of_length_eq_zero (by omega)
    subst this; rfl
theorem dropQ_snoc (t : List UInt8) (c : UInt8) (h : ¬ c = 39) : dropQ (t ++ [c]) = dropQ t ++ [c] := by
  induction t with
  | nil => simp [dropQ, qu, h]
  | cons d t ih =>
    by_cases hd : d = 39
    · subst hd; exact ih
    · simp [dropQ, qu, hd]
theorem dropQ_app (t : List UInt8) : dropQ (t ++ [39]) = if dropQ t = [] then [] else dropQ t ++ [39] := by
  induction t with
  | nil => simp [dropQ, qu]
  | cons d t ih =>
    by_cases hd : d = 39
    · subst hd; exact ih
    · simp [dropQ, qu, hd]
/-- Either order of the two trims. -/
theorem drop_swap : ∀ (n : Nat) (s : List UInt8), s.length ≤ n → dropQ (dropR s) = dropR (dropQ s)
  | 0, s, h => by
    have : s = [] := List.eq_nil_of_length_eq_zero (by omega)
    subst this; rfl
  | n + 1, s, h => by
    by_cases h0 : 0 < s.length
    · rw [last_of h0]
      generalize hc : s.getD (s.length - 1) 0 = c
      have hl : (s.take (s.length - 1)).length ≤ n := by simp; omega
      generalize s.take (s.length - 1) = t at hl
      rw [dropR_snoc]
      by_cases h39 : c = 39
      · subst h39
        rw [if_pos rfl, dropQ_app, drop_swap n t hl]
        by_cases hq : dropQ t = []
        · rw [if_pos hq, hq]
        · rw [if_neg hq, dropR_snoc, if_pos rfl]
      · rw [if_neg h39, dropQ_snoc t c h39, dropR_snoc, if_neg h39]
    · have : s = [] := List.eq_nil_of_length_eq_zero (by omega)
      subst this; rfl
theorem midQ_eq (s : List UInt8) : dropQ (dropR s) = midQ s := drop_swap s.length s (Nat.le_refl _)

theorem trimLeftByte_ok (s : List UInt8) (hs : s.length ≤ 1000000000000) : FnOk Tryd.prog 59 [.str s, .int .u8 39] (.str (dropQ s)) [] := by
  refine FnOk.of_vc Tryd.func59 rfl (by decide) (by simp [Tryd.f59]) [.tmp 4] rfl fun w0 T0 _ => ?_
  simp only [Tryd.f59, argEnv]
  (repeat' first | with_reducible (first | intro _ | refine rc ?_ | refine rl ?_ | refine rh ?_ | refine rt ?_ | refine rf ?_ | refine rs ?_ | refine And.intro ?_ ?_) | omega | simp (maxSteps := 1000000) only [go_sem, simprocAttr, ↓reduceIte])
  refine VcLoop.intro (fun t : List UInt8 => ⟨17, [(0, .str t), (1, .int .u8 39)], [], 0⟩) (fun t => t.length ≤ 1000000000000 ∧ dropQ t = dropQ s) (fun t => t.length) s ?_ ⟨hs, rfl⟩ fun t ht => ?_
  · refine Ent.auto0 rfl ?_ ?_ <;> simp only [go_sem, reduceCtorEq, reduceIte, Nat.reduceEqDiff, Nat.reduceLT, Nat.reduceLeDiff, Int.natCast_succ]
  obtain ⟨hl, he⟩ := ht
  (repeat' first | with_reducible (first | intro _ | refine rc ?_ | refine rl ?_ | refine rh ?_ | refine rt ?_ | refine rf ?_ | refine rs ?_ | refine And.intro ?_ ?_) | omega | simp (maxSteps := 1000000) only [go_sem, simprocAttr, ↓reduceIte])
  · refine ⟨t.drop 1, Ent.auto0 rfl ?_ ?_, ⟨?_, ?_⟩, ?_⟩
    · simp only [go_sem, reduceCtorEq, reduceIte, Nat.reduceEqDiff, Nat.reduceLT, Nat.reduceLeDiff, Int.natCast_succ]
      exact List.take_of_length_le (by simp)
    · simp only [go_sem, reduceCtorEq, reduceIte, Nat.reduceEqDiff, Nat.reduceLT, Nat.reduceLeDiff, Int.natCast_succ]
    · simp; omega
    · rw [dropQ_q (by omega) (by omega)]; exact he
    · simp; omega
  · have e : t = dropQ s := by rw [← he, dropQ_n (fun h => by omega)]
    refine Ret.auto 0 ?_ rfl ?_ <;> simp only [go_sem, reduceCtorEq, reduceIte, Nat.reduceEqDiff, Nat.reduceLT, Nat.reduceLeDiff, Int.natCast_succ, Post, e]
theorem trimRightByte_ok (s : List UInt8) (hs : s.length ≤ 1000000000000) : FnOk Tryd.prog 60 [.str s, .int .u8 39] (.str (dropR s)) [] := by
  refine FnOk.of_vc Tryd.func60 rfl (by decide) (by simp [Tryd.f60]) [.tmp 4] rfl fun w0 T0 _ => ?_
  simp only [Tryd.f60, argEnv]
  (repeat' first | with_reducible (first | intro _ | refine rc ?_ | refine rl ?_ | refine rh ?_ | refine rt ?_ | refine rf ?_ | refine rs ?_ | refine And.intro ?_ ?_) | omega | simp (maxSteps := 1000000) only [go_sem, simprocAttr, ↓reduceIte])
  refine VcLoop.intro (fun t : List UInt8 => ⟨23, [(0, .str t), (1, .int .u8 39)], [], 0⟩) (fun t => t.length ≤ 1000000000000 ∧ dropR t = dropR s) (fun t => t.length) s ?_ ⟨hs, rfl⟩ fun t ht => ?_
  · refine Ent.auto0 rfl ?_ ?_ <;> simp only [go_sem, reduceCtorEq, reduceIte, Nat.reduceEqDiff, Nat.reduceLT, Nat.reduceLeDiff, Int.natCast_succ]
  obtain ⟨hl, he⟩ := ht
  have et : ((t.length : Int) - 1).toNat = t.length - 1 := by omega
  (repeat' first | with_reducible (first | intro _ | refine rc ?_ | refine rl ?_ | refine rh ?_ | refine rt ?_ | refine rf ?_ | refine rs ?_ | refine And.intro ?_ ?_) | omega | simp (maxSteps := 1000000) only [go_sem, simprocAttr, ↓reduceIte, et])
  · refine ⟨t.take (t.length - 1), Ent.auto0 rfl ?_ ?_, ⟨?_, ?_⟩, ?_⟩
    · simp only [go_sem, reduceCtorEq, reduceIte, Nat.reduceEqDiff, Nat.reduceLT, Nat.reduceLeDiff, Int.natCast_succ, et]
      rfl
    · simp only [go_sem, reduceCtorEq, reduceIte, Nat.reduceEqDiff, Nat.reduceLT, Nat.reduceLeDiff, Int.natCast_succ]
    · simp; omega
    · rw [dropR_q (by omega) (by omega)]; exact he
    · simp; omega
  · have e : t = dropR s := by rw [← he, dropR_n (fun h => by omega)]
    refine Ret.auto 0 ?_ rfl ?_ <;> simp only [go_sem, reduceCtorEq, reduceIte, Nat.reduceEqDiff, Nat.reduceLT, Nat.reduceLeDiff, Int.natCast_succ, Post, e]
theorem trimLeft_ok (s : List UInt8) (hs : s.length ≤ 1000000000000) : FnOk Tryd.prog 51 [.str s, .str [39]] (.str (dropQ s)) [] := by
  have k := trimLeftByte_ok s hs
  have one : ((1 : Nat) : Int) = 1 := rfl
  have q39 : ((([39] : List UInt8).getD 0 0).toNat : Int) = 39 := rfl
  have l39 : (39 : Int) < 128 := by decide
  refine FnOk.of_vc Tryd.func51 rfl (by decide) (by simp [Tryd.f51]) [.tmp 4] rfl fun w0 T0 _ => ?_
  simp only [Tryd.f51, argEnv]
  by_cases h0 : s = []
  · have e : dropQ [] = [] := rfl
    (repeat' first | with_reducible (first | intro _ | refine rc ?_ | refine rl ?_ | refine rh ?_ | refine rt ?_ | refine rf ?_ | refine rs ?_ | refine And.intro ?_ ?_) | omega | simp (maxSteps := 1000000) only [go_sem, simprocAttr, ↓reduceIte, h0])
    refine Ret.auto 0 ?_ rfl ?_ <;> simp only [go_sem, reduceCtorEq, reduceIte, Nat.reduceEqDiff, Nat.reduceLT, Nat.reduceLeDiff, Int.natCast_succ, Post, e]
  · (repeat' first | with_reducible (first | intro _ | refine rc ?_ | refine rl ?_ | refine rh ?_ | refine rt ?_ | refine rf ?_ | refine rs ?_ | refine And.intro ?_ ?_) | omega | simp (maxSteps := 1000000) only [go_sem, simprocAttr, ↓reduceIte, h0, one, q39, l39])
    refine VcCall.k k ?_
    (repeat' first | with_reducible (first | intro _ | refine rc ?_ | refine rl ?_ | refine rh ?_ | refine rt ?_ | refine rf ?_ | refine rs ?_ | refine And.intro ?_ ?_) | omega | simp (maxSteps := 1000000) only [go_sem, simprocAttr, ↓reduceIte, one, q39])
    refine Ret.auto 0 ?_ rfl ?_ <;> simp only [go_sem, reduceCtorEq, reduceIte, Nat.reduceEqDiff, Nat.reduceLT, Nat.reduceLeDiff, Int.natCast_succ, Post]
theorem trimRight_ok (s : List UInt8) (hs : s.length ≤ 1000000000000) : FnOk Tryd.prog 52 [.str s, .str [39]] (.str (dropR s)) [] := by
  have k := trimRightByte_ok s hs
  have one : ((1 : Nat) : Int) = 1 := rfl
  have q39 : ((([39] : List UInt8).getD 0 0).toNat : Int) = 39 := rfl
  have l39 : (39 : Int) < 128 := by decide
  refine FnOk.of_vc Tryd.func52 rfl (by decide) (by simp [Tryd.f52]) [.tmp 4] rfl fun w0 T0 _ => ?_
  simp only [Tryd.f52, argEnv]
  by_cases h0 : s = []
  · have e : dropR [] = [] := rfl
    (repeat' first | with_reducible (first | intro _ | refine rc ?_ | refine rl ?_ | refine rh ?_ | refine rt ?_ | refine rf ?_ | refine rs ?_ | refine And.intro ?_ ?_) | omega | simp (maxSteps := 1000000) only [go_sem, simprocAttr, ↓reduceIte, h0])
    refine Ret.auto 0 ?_ rfl ?_ <;> simp only [go_sem, reduceCtorEq, reduceIte, Nat.reduceEqDiff, Nat.reduceLT, Nat.reduceLeDiff, Int.natCast_succ, Post, e]
  · (repeat' first | with_reducible (first | intro _ | refine rc ?_ | refine rl ?_ | refine rh ?_ | refine rt ?_ | refine rf ?_ | refine rs ?_ | refine And.intro ?_ ?_) | omega | simp (maxSteps := 1000000) only [go_sem, simprocAttr, ↓reduceIte, h0, one, q39, l39])
    refine VcCall.k k ?_
    (repeat' first | with_reducible (first | intro _ | refine rc ?_ | refine rl ?_ | refine rh ?_ | refine rt ?_ | refine rf ?_ | refine rs ?_ | refine And.intro ?_ ?_) | omega | simp (maxSteps := 1000000) only [go_sem, simprocAttr, ↓reduceIte, one, q39])
    refine Ret.auto 0 ?_ rfl ?_ <;> simp only [go_sem, reduceCtorEq, reduceIte, Nat.reduceEqDiff, Nat.reduceLT, Nat.reduceLeDiff, Int.natCast_succ, Post]
theorem dropR_len (s : List UInt8) : (dropR s).length ≤ s.length := by
  unfold dropR
  have := takeWhile_len_le qu s.reverse
  simp at this ⊢; omega
theorem trim_ok (s : List UInt8) (hs : s.length ≤ 1000000000000) : FnOk Tryd.prog 40 [.str s, .str [39]] (.str (midQ s)) [] := by
  have k := trimRightByte_ok s hs
  have k2 := trimLeftByte_ok (dropR s) (Nat.le_trans (dropR_len s) hs)
  rw [midQ_eq] at k2
  have one : ((1 : Nat) : Int) = 1 := rfl
  have q39 : ((([39] : List UInt8).getD 0 0).toNat : Int) = 39 := rfl
  have l39 : (39 : Int) < 128 := by decide
  refine FnOk.of_vc Tryd.func40 rfl (by decide) (by simp [Tryd.f40]) [.tmp 4] rfl fun w0 T0 _ => ?_
  simp only [Tryd.f40, argEnv]
  by_cases h0 : s = []
  · have e : midQ [] = [] := rfl
    (repeat' first | with_reducible (first | intro _ | refine rc ?_ | refine rl ?_ | refine rh ?_ | refine rt ?_ | refine rf ?_ | refine rs ?_ | refine And.intro ?_ ?_) | omega | simp (maxSteps := 1000000) only [go_sem, simprocAttr, ↓reduceIte, h0])
    refine Ret.auto 0 ?_ rfl ?_ <;> simp only [go_sem, reduceCtorEq, reduceIte, Nat.reduceEqDiff, Nat.reduceLT, Nat.reduceLeDiff, Int.natCast_succ, Post, e]
  · (repeat' first | with_reducible (first | intro _ | refine rc ?_ | refine rl ?_ | refine rh ?_ | refine rt ?_ | refine rf ?_ | refine rs ?_ | refine And.intro ?_ ?_) | omega | simp (maxSteps := 1000000) only [go_sem, simprocAttr, ↓reduceIte, h0, one, q39, l39])
    refine VcDraw.lex [] [] (by kernel_rfl) (by kernel_rfl) ?_
    (repeat' first | with_reducible (first | intro _ | refine rc ?_ | refine rl ?_ | refine rh ?_ | refine rt ?_ | refine rf ?_ | refine rs ?_ | refine And.intro ?_ ?_) | omega | simp (maxSteps := 1000000) only [go_sem, simprocAttr, ↓reduceIte, one, q39])
    refine QV.intro (.str (dropR s)) ?_ ?_
    · (repeat' first | with_reducible (first | intro _ | refine rc ?_ | refine rl ?_ | refine rh ?_ | refine rt ?_ | refine rf ?_ | refine rs ?_ | refine And.intro ?_ ?_) | omega | simp (maxSteps := 1000000) only [go_sem, simprocAttr, ↓reduceIte])
      refine VcCall.k k ?_
      (repeat' first | with_reducible (first | intro _ | refine rc ?_ | refine rl ?_ | refine rh ?_ | refine rt ?_ | refine rf ?_ | refine rs ?_ | refine And.intro ?_ ?_) | omega | simp (maxSteps := 1000000) only [go_sem, simprocAttr, ↓reduceIte])
    (repeat' first | with_reducible (first | intro _ | refine rc ?_ | refine rl ?_ | refine rh ?_ | refine rt ?_ | refine rf ?_ | refine rs ?_ | refine And.intro ?_ ?_) | omega | simp (maxSteps := 1000000) only [go_sem, simprocAttr, ↓reduceIte, one, q39])
    refine QV.intro (.str (midQ s)) ?_ ?_
    · (repeat' first | with_reducible (first | intro _ | refine rc ?_ | refine rl ?_ | refine rh ?_ | refine rt ?_ | refine rf ?_ | refine rs ?_ | refine And.intro ?_ ?_) | omega | simp (maxSteps := 1000000) only [go_sem, simprocAttr, ↓reduceIte])
      refine VcCall.k k2 ?_
      (repeat' first | with_reducible (first | intro _ | refine rc ?_ | refine rl ?_ | refine rh ?_ | refine rt ?_ | refine rf ?_ | refine rs ?_ | refine And.intro ?_ ?_) | omega | simp (maxSteps := 1000000) only [go_sem, simprocAttr, ↓reduceIte])
    (repeat' first | with_reducible (first | intro _ | refine rc ?_ | refine rl ?_ | refine rh ?_ | refine rt ?_ | refine rf ?_ | refine rs ?_ | refine And.intro ?_ ?_) | omega | simp (maxSteps := 1000000) only [go_sem, simprocAttr, ↓reduceIte])
    refine Ret.auto 0 ?_ rfl ?_ <;> simp only [go_sem, reduceCtorEq, reduceIte, Nat.reduceEqDiff, Nat.reduceLT, Nat.reduceLeDiff, Int.natCast_succ, Post]
end Go.Fv.V

/- The closures that put tokens. -/
namespace Go.Fv.V
open Go Go.Proofs
set_option linter.unusedSimpArgs false
set_option linter.unusedVariables false
set_option linter.unnecessarySimpa false
set_option maxRecDepth 8000

def tkAv (t : Tok) : List AV := [.str t.1, .bool t.2]
instance : FNoId tkAv := ⟨fun _ => rfl⟩
def tkR (l : List Tok) : RowV := .objs 2 (l.map tkAv)
theorem tk_elem (l : List Tok) {i : Nat} (h : i < l.length) : (l.map tkAv).getD i [] = [.str (l.getD i ([], false)).1, .bool (l.getD i ([], false)).2] := by
  rw [getD_lt (by simpa using h), getD_lt h, List.getElem_map]; rfl
theorem covA2 {a b : Item} : ∀ j, j < 2 → ∃ it, lk [(0, a), (1, b)] j = some it
  | 0, _ => ⟨_, rfl⟩
  | 1, _ => ⟨_, rfl⟩
  | _ + 2, h => absurd h (by omega)
theorem covA3 {a b c : Item} : ∀ j, j < 3 → ∃ it, lk [(0, a), (1, b), (2, c)] j = some it
  | 0, _ => ⟨_, rfl⟩
  | 1, _ => ⟨_, rfl⟩
  | 2, _ => ⟨_, rfl⟩
  | _ + 3, h => absurd h (by omega)
/-- What is put. -/
def addT (out : List Tok) (s : Bytes) (w : Bool) : List Tok := if s = [] then out else out ++ [(s, w)]
theorem addT_len (out : List Tok) (s : Bytes) (w : Bool) : (addT out s w).length ≤ out.length + 1 := by
  unfold addT; split
  · omega
  · simp
def LastW (out : List Tok) : Prop := 0 < out.length → (out.getD (out.length - 1) ([], false)).2 = true

set_option maxHeartbeats 2000000 in
theorem add_ok (out : List Tok) (s : Bytes) (w : Bool) (hl : out.length ≤ 1000000000) (hw : w = false → LastW out) :
    FnIO Tryd.prog 41 [.str s, .bool w, .ptr 0 0] [(0, .box 48 [.own 1]), (1, .row 51 (tkR out))] 2 (.tup []) [(0, .box 48 [.own 2]), (2, .row 51 (tkR (addT out s w)))] := by
  refine FnIO.of_vc Tryd.func41 rfl (by decide) (by simp [Tryd.f41]) covA2 [] rfl fun w0 T0 _ => ?_
  simp only [Tryd.f41, argEnv]
  by_cases h0 : s = []
  · have e : addT out [] w = out := if_pos rfl
    (repeat' first | with_reducible (first | intro _ | refine rc ?_ | refine rl ?_ | refine rh ?_ | refine rt ?_ | refine rf ?_ | refine rs ?_ | refine And.intro ?_ ?_) | omega | simp (maxSteps := 1000000) only [go_sem, simprocAttr, ↓reduceIte, h0, tkR, List.length_map])
    rw [e]
    refine RetK.of [(2, 1)] 3 (by decide) (by decide) ?_ rfl ?_ <;> simp only [go_sem, reduceCtorEq, reduceIte, Nat.reduceEqDiff, Nat.reduceLT, Nat.reduceLeDiff, Int.natCast_succ]
  · have e : addT out s w = out ++ [(s, w)] := if_neg h0
    have e2 : (out ++ [(s, w)]).map tkAv = out.map tkAv ++ [[.str s, .bool w]] := by simp [tkAv]
    rw [e]
    by_cases h1 : 0 < out.length
    · have h2 : (0 : Int) ≤ (out.length : Int) - 1 := by omega
      have h3 := tk_elem out (i := out.length - 1) (by omega)
      have h4 : ((out.length : Int) - 1).toNat = out.length - 1 := by omega
      cases w with
      | true =>
        (repeat' first | with_reducible (first | intro _ | refine rc ?_ | refine rl ?_ | refine rh ?_ | refine rt ?_ | refine rf ?_ | refine rs ?_ | refine And.intro ?_ ?_) | omega | simp (maxSteps := 1000000) only [go_sem, simprocAttr, ↓reduceIte, h0, h2, h3, h4, tkR, List.length_map])
        refine RetK.of [(2, 3)] 3 (by decide) (by decide) ?_ rfl ?_ <;> simp only [go_sem, reduceCtorEq, reduceIte, Nat.reduceEqDiff, Nat.reduceLT, Nat.reduceLeDiff, Int.natCast_succ, e2, tkAv]
      | false =>
        rw [hw rfl h1] at h3
        (repeat' first | with_reducible (first | intro _ | refine rc ?_ | refine rl ?_ | refine rh ?_ | refine rt ?_ | refine rf ?_ | refine rs ?_ | refine And.intro ?_ ?_) | omega | simp (maxSteps := 1000000) only [go_sem, simprocAttr, ↓reduceIte, h0, h2, h3, h4, tkR, List.length_map])
        refine RetK.of [(2, 3)] 3 (by decide) (by decide) ?_ rfl ?_ <;> simp only [go_sem, reduceCtorEq, reduceIte, Nat.reduceEqDiff, Nat.reduceLT, Nat.reduceLeDiff, Int.natCast_succ, e2, tkAv]
    · have h2 : out = [] := List.eq_nil_of_length_eq_zero (by omega)
      subst h2
      have h6 : ∀ n, ([] : List (List AV)).getD n [] = [] := fun n => by simp
      have h5 : ¬ (0 : Int) ≤ (([] : List Tok).length : Int) - 1 := by simp
      cases w with
      | true =>
        (repeat' first | with_reducible (first | intro _ | refine rc ?_ | refine rl ?_ | refine rh ?_ | refine rt ?_ | refine rf ?_ | refine rs ?_ | refine And.intro ?_ ?_) | omega | simp (maxSteps := 1000000) only [go_sem, simprocAttr, ↓reduceIte, h0, h5, h6, List.drop_nil, tkR, List.length_map])
        refine RetK.of [(2, 3)] 3 (by decide) (by decide) ?_ rfl ?_ <;> simp only [go_sem, reduceCtorEq, reduceIte, Nat.reduceEqDiff, Nat.reduceLT, Nat.reduceLeDiff, Int.natCast_succ, e2, tkAv]
      | false =>
        (repeat' first | with_reducible (first | intro _ | refine rc ?_ | refine rl ?_ | refine rh ?_ | refine rt ?_ | refine rf ?_ | refine rs ?_ | refine And.intro ?_ ?_) | omega | simp (maxSteps := 1000000) only [go_sem, simprocAttr, ↓reduceIte, h0, h5, h6, List.drop_nil, tkR, List.length_map])
        refine RetK.of [(2, 3)] 3 (by decide) (by decide) ?_ rfl ?_ <;> simp only [go_sem, reduceCtorEq, reduceIte, Nat.reduceEqDiff, Nat.reduceLT, Nat.reduceLeDiff, Int.natCast_succ, e2, tkAv]
end Go.Fv.V

/- strings.Index, strings.Count, by the contracts of the shelf. -/
namespace Go.Proofs
open Go.Shelf
def Tryd.lays143_ren : Go.Shelf.Ren := ⟨fun | 143 => 43 | 219 => 66 | 217 => 91 | 225 => 92 | 224 => 93 | 267 => 94 | 266 => 106 | 314 => 107 | n => n, fun | 9 => 9 | 3 => 3 | 4 => 4 | 5 => 5 | 46 => 79 | 146 => 135 | 51 => 109 | n => n, fun | 1 => 0 | n => n⟩
theorem Tryd.lays143 : Go.Proofs.LaysM.n143 Tryd.prog Tryd.lays143_ren := {
  mixed := by kernel_rfl
  f143 := Tryd.func43.trans (congrArg some (by kernel_rfl))
  f217 := Tryd.func91.trans (congrArg some (by kernel_rfl))
  f219 := Tryd.func66.trans (congrArg some (by kernel_rfl))
  f224 := Tryd.func93.trans (congrArg some (by kernel_rfl))
  f225 := Tryd.func92.trans (congrArg some (by kernel_rfl))
  f266 := Tryd.func106.trans (congrArg some (by kernel_rfl))
  f267 := Tryd.func94.trans (congrArg some (by kernel_rfl))
  f314 := Tryd.func107.trans (congrArg some (by kernel_rfl))
  t3 := Tryd.underlying3
  a3 := Tryd.isAgg3
  z3 := Tryd.sizeOf3
  v3 := Tryd.zeroValue3
  t4 := Tryd.underlying4
  a4 := Tryd.isAgg4
  z4 := Tryd.sizeOf4
  v4 := Tryd.zeroValue4
  t5 := Tryd.underlying5
  a5 := Tryd.isAgg5
  z5 := Tryd.sizeOf5
  v5 := Tryd.zeroValue5
  t9 := Tryd.underlying9
  a9 := Tryd.isAgg9
  z9 := Tryd.sizeOf9
  v9 := Tryd.zeroValue9
  t46 := Tryd.underlying79
  a46 := Tryd.isAgg79
  z46 := Tryd.sizeOf79
  v46 := Tryd.zeroValue79
  t51 := Tryd.underlying109
  a51 := Tryd.isAgg109
  z51 := Tryd.sizeOf109
  v51 := Tryd.zeroValue109
  t146 := Tryd.underlying135
  a146 := Tryd.isAgg135
  z146 := Tryd.sizeOf135
  v146 := Tryd.zeroValue135
  g1 := by kernel_rfl
  i3 := by kernel_rfl
  i4 := by kernel_rfl
  i5 := by kernel_rfl
  i9 := by kernel_rfl
  i46 := by kernel_rfl
  i51 := by kernel_rfl
  i146 := by kernel_rfl
  m1 := by kernel_rfl
  s1_3 := fun w h => Go.Proofs.cell_of_shapedOpen_int (zero := #[.int .i64 0]) (t := 3) h (of_decide_eq_true (by kernel_rfl)) (by kernel_rfl) rfl (by kernel_rfl) (by kernel_rfl) Tryd.underlying3 }
end Go.Proofs

namespace Go.Fv.V
open Go Go.Proofs
set_option linter.unusedSimpArgs false
set_option linter.unusedVariables false
set_option linter.unnecessarySimpa false
set_option maxRecDepth 8000

theorem index_ok (s t : List UInt8) (hs : s.length ≤ 1048576) : FnOk Tryd.prog 43 [.str s, .str t] (.int .i64 (Lib.index s t)) [] := by
  refine ⟨⟨_, Tryd.func43, by kernel_rfl, by kernel_rfl⟩, fun w T vals hg hv => ?_⟩
  obtain ⟨m, t0, _, hm⟩ := hg 0 .i64 (by kernel_rfl)
  cases hv with
  | cons _ _ _ _ h1 hv => cases hv with
    | cons _ _ _ _ h2 hv =>
      cases hv
      cases h1 with
      | str _ e1 => cases h2 with
        | str _ e2 =>
          have L := Tryd.lays143
          refine (Any.strings_Index { L with } ⟨s.toArray⟩ ⟨t.toArray⟩ m w ?_ ?_).mono ?_
          · show s.toArray.size < 4294967281
            simp; omega
          · simp [World.cell?, Tryd.lays143_ren, hm]
          · rintro e w' ⟨rfl, rfl⟩
            refine ⟨_, rfl, BelowD.refl _ _, fun _ => undef, 0, ?_, ?_, ?_⟩
            · have h1 := Lib.index_ge s t
              have h2 := Lib.index_le s t
              have e1 : IntKind.i64.min = -9223372036854775808 := by decide
              have e2 : IntKind.i64.max = 9223372036854775807 := by decide
              exact .int .i64 _ ⟨by rw [e1]; omega, by rw [e2]; omega⟩
            · intro i it h; cases h
            · intro i j it jt b h; cases h
end Go.Fv.V
