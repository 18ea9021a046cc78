/-
  A part of the proof of the claim: walks over the program's functions and the plain laws that these need. No condition of its own.
-/
import Derived.Test.YtkfadacmcknejaaDoorFvPart9
import Derived.Test.YtkfadacmcknejaaDoorProg
import Derived.Test.YtkfadacmcknejaaDoorFvPart10
import Derived.Lib.Bytealg
import Derived.Test.YtkfadacmcknejaaDoorFvPart6
import Derived.Sort.Walk0
/- Facts about the program's types: each shown by reckoning it out. -/
namespace Go.Fv.V
open Go Go.Proofs
theorem e1 : ElemZ Tryd.prog 1 (.nilFunc) := .of (by kernel_rfl) (by kernel_rfl)
theorem e2 : ElemZ Tryd.prog 2 (.int .i64 0) := .of (by kernel_rfl) (by kernel_rfl)
theorem e3 : ElemZ Tryd.prog 3 (.int .i64 0) := .of (by kernel_rfl) (by kernel_rfl)
theorem z3 : zeroOf Tryd.prog 3 = some (.int .i64 0) := e3.zero
theorem c3 : Tryd.prog.cellsOf 3 = 1 := e3.cellsOf
theorem e4 : ElemZ Tryd.prog 4 (.bool false) := .of (by kernel_rfl) (by kernel_rfl)
theorem z4 : zeroOf Tryd.prog 4 = some (.bool false) := e4.zero
theorem c4 : Tryd.prog.cellsOf 4 = 1 := e4.cellsOf
theorem e5 : ElemZ Tryd.prog 5 (.int .u8 0) := .of (by kernel_rfl) (by kernel_rfl)
theorem z5 : zeroOf Tryd.prog 5 = some (.int .u8 0) := e5.zero
theorem e6 : ElemZ Tryd.prog 6 (.int .u8 0) := .of (by kernel_rfl) (by kernel_rfl)
theorem e9 : ElemZ Tryd.prog 9 (.string ⟨#[]⟩) := .of (by kernel_rfl) (by kernel_rfl)
theorem z9 : zeroOf Tryd.prog 9 = some (.string ⟨#[]⟩) := e9.zero
theorem c9 : Tryd.prog.cellsOf 9 = 1 := e9.cellsOf
theorem e12 : ElemZ Tryd.prog 12 (.int .u64 0) := .of (by kernel_rfl) (by kernel_rfl)
theorem e17 : ElemZ Tryd.prog 17 (.pointer none) := .of (by kernel_rfl) (by kernel_rfl)
theorem e22 : ElemZ Tryd.prog 22 (.slice none 0 0) := .of (by kernel_rfl) (by kernel_rfl)
theorem z22 : zeroOf Tryd.prog 22 = some (.slice none 0 0) := e22.zero
theorem c22 : Tryd.prog.cellsOf 22 = 1 := e22.cellsOf
theorem e24 : ElemZ Tryd.prog 24 (.slice none 0 0) := .of (by kernel_rfl) (by kernel_rfl)
theorem c24 : Tryd.prog.cellsOf 24 = 1 := e24.cellsOf
theorem e25 : ElemZ Tryd.prog 25 (.int .i64 0) := .of (by kernel_rfl) (by kernel_rfl)
theorem z25 : zeroOf Tryd.prog 25 = some (.int .i64 0) := e25.zero
theorem e27 : ElemZ Tryd.prog 27 (.nilFunc) := .of (by kernel_rfl) (by kernel_rfl)
theorem z27 : zeroOf Tryd.prog 27 = some (.nilFunc) := e27.zero
theorem e29 : ElemZ Tryd.prog 29 (.agg #[.string ⟨#[]⟩, .int .i64 0]) := .of (by kernel_rfl) (by kernel_rfl)
theorem z29 : zeroOf Tryd.prog 29 = some (.agg #[.string ⟨#[]⟩, .int .i64 0]) := e29.zero
theorem e30 : ElemZ Tryd.prog 30 (.agg #[.string ⟨#[]⟩, .int .i64 0]) := .of (by kernel_rfl) (by kernel_rfl)
theorem z30 : zeroOf Tryd.prog 30 = some (.agg #[.string ⟨#[]⟩, .int .i64 0]) := e30.zero
theorem c30 : Tryd.prog.cellsOf 30 = 2 := e30.cellsOf
theorem e32 : ElemZ Tryd.prog 32 (.nilFunc) := .of (by kernel_rfl) (by kernel_rfl)
theorem z32 : zeroOf Tryd.prog 32 = some (.nilFunc) := e32.zero
theorem e35 : ElemZ Tryd.prog 35 (.nilFunc) := .of (by kernel_rfl) (by kernel_rfl)
theorem z35 : zeroOf Tryd.prog 35 = some (.nilFunc) := e35.zero
theorem e36 : ElemZ Tryd.prog 36 (.pointer none) := .of (by kernel_rfl) (by kernel_rfl)
theorem z36 : zeroOf Tryd.prog 36 = some (.pointer none) := e36.zero
theorem e39 : ElemZ Tryd.prog 39 (.nilFunc) := .of (by kernel_rfl) (by kernel_rfl)
theorem z39 : zeroOf Tryd.prog 39 = some (.nilFunc) := e39.zero
theorem e41 : ElemZ Tryd.prog 41 (.nilFunc) := .of (by kernel_rfl) (by kernel_rfl)
theorem z41 : zeroOf Tryd.prog 41 = some (.nilFunc) := e41.zero
theorem e44 : ElemZ Tryd.prog 44 (.nilFunc) := .of (by kernel_rfl) (by kernel_rfl)
theorem z44 : zeroOf Tryd.prog 44 = some (.nilFunc) := e44.zero
theorem e45 : ElemZ Tryd.prog 45 (.nilFunc) := .of (by kernel_rfl) (by kernel_rfl)
theorem z45 : zeroOf Tryd.prog 45 = some (.nilFunc) := e45.zero
theorem e46 : ElemZ Tryd.prog 46 (.nilFunc) := .of (by kernel_rfl) (by kernel_rfl)
theorem z46 : zeroOf Tryd.prog 46 = some (.nilFunc) := e46.zero
theorem e47 : ElemZ Tryd.prog 47 (.map none) := .of (by kernel_rfl) (by kernel_rfl)
theorem c47 : Tryd.prog.cellsOf 47 = 1 := e47.cellsOf
theorem e50 : ElemZ Tryd.prog 50 (.agg #[.string ⟨#[]⟩, .bool false]) := .of (by kernel_rfl) (by kernel_rfl)
theorem z50 : zeroOf Tryd.prog 50 = some (.agg #[.string ⟨#[]⟩, .bool false]) := e50.zero
theorem e53 : ElemZ Tryd.prog 53 (.nilFunc) := .of (by kernel_rfl) (by kernel_rfl)
theorem z53 : zeroOf Tryd.prog 53 = some (.nilFunc) := e53.zero
theorem e55 : ElemZ Tryd.prog 55 (.nilFunc) := .of (by kernel_rfl) (by kernel_rfl)
theorem z55 : zeroOf Tryd.prog 55 = some (.nilFunc) := e55.zero
theorem e57 : ElemZ Tryd.prog 57 (.slice none 0 0) := .of (by kernel_rfl) (by kernel_rfl)
theorem z57 : zeroOf Tryd.prog 57 = some (.slice none 0 0) := e57.zero
theorem e63 : ElemZ Tryd.prog 63 (.agg #[.map none, .slice none 0 0]) := .of (by kernel_rfl) (by kernel_rfl)
theorem z63 : zeroOf Tryd.prog 63 = some (.agg #[.map none, .slice none 0 0]) := e63.zero
theorem e64 : ElemZ Tryd.prog 64 (.nilFunc) := .of (by kernel_rfl) (by kernel_rfl)
theorem z64 : zeroOf Tryd.prog 64 = some (.nilFunc) := e64.zero
theorem e66 : ElemZ Tryd.prog 66 (.nilFunc) := .of (by kernel_rfl) (by kernel_rfl)
theorem z66 : zeroOf Tryd.prog 66 = some (.nilFunc) := e66.zero
theorem e68 : ElemZ Tryd.prog 68 (.agg #[.slice none 0 0]) := .of (by kernel_rfl) (by kernel_rfl)
theorem z68 : zeroOf Tryd.prog 68 = some (.agg #[.slice none 0 0]) := e68.zero
theorem e76 : ElemZ Tryd.prog 76 (.nilFunc) := .of (by kernel_rfl) (by kernel_rfl)
theorem z76 : zeroOf Tryd.prog 76 = some (.nilFunc) := e76.zero
theorem e77 : ElemZ Tryd.prog 77 (.nilFunc) := .of (by kernel_rfl) (by kernel_rfl)
theorem z77 : zeroOf Tryd.prog 77 = some (.nilFunc) := e77.zero
theorem f7 : fieldsOkT Tryd.prog 7 := by
  intro d hd; rw [Tryd.underlying7] at hd; cases hd
  intro f hf; simp only [List.mem_cons, List.not_mem_nil, or_false] at hf
  rcases hf with rfl | rfl | rfl | rfl
  · obtain ⟨i, h, _⟩ := e2.ex; exact ⟨i, h⟩
  · obtain ⟨i, h, _⟩ := e3.ex; exact ⟨i, h⟩
  · obtain ⟨i, h, _⟩ := e4.ex; exact ⟨i, h⟩
  · obtain ⟨i, h, _⟩ := e6.ex; exact ⟨i, h⟩
theorem f8 : fieldsOkT Tryd.prog 8 := by
  intro d hd; rw [Tryd.underlying8] at hd; cases hd
  intro f hf; simp only [List.mem_cons, List.not_mem_nil, or_false] at hf
  rcases hf with rfl | rfl | rfl | rfl
  · obtain ⟨i, h, _⟩ := e2.ex; exact ⟨i, h⟩
  · obtain ⟨i, h, _⟩ := e3.ex; exact ⟨i, h⟩
  · obtain ⟨i, h, _⟩ := e4.ex; exact ⟨i, h⟩
  · obtain ⟨i, h, _⟩ := e6.ex; exact ⟨i, h⟩
theorem f13 : fieldsOkT Tryd.prog 13 := by
  intro d hd; rw [Tryd.underlying13] at hd; cases hd
  intro f hf; simp only [List.mem_cons, List.not_mem_nil, or_false] at hf
  rcases hf with rfl | rfl
  · obtain ⟨i, h, _⟩ := e9.ex; exact ⟨i, h⟩
  · obtain ⟨i, h, _⟩ := e12.ex; exact ⟨i, h⟩
theorem f14 : fieldsOkT Tryd.prog 14 := by
  intro d hd; rw [Tryd.underlying14] at hd; cases hd
  intro f hf; simp only [List.mem_cons, List.not_mem_nil, or_false] at hf
  rcases hf with rfl | rfl
  · obtain ⟨i, h, _⟩ := e9.ex; exact ⟨i, h⟩
  · obtain ⟨i, h, _⟩ := e12.ex; exact ⟨i, h⟩
theorem f18 : fieldsOkT Tryd.prog 18 := by
  intro d hd; rw [Tryd.underlying18] at hd; cases hd
  intro f hf; simp only [List.mem_cons, List.not_mem_nil, or_false] at hf
  rcases hf with rfl
  · obtain ⟨i, h, _⟩ := e17.ex; exact ⟨i, h⟩
theorem f19 : fieldsOkT Tryd.prog 19 := by
  intro d hd; rw [Tryd.underlying19] at hd; cases hd
  intro f hf; simp only [List.mem_cons, List.not_mem_nil, or_false] at hf
  rcases hf with rfl
  · obtain ⟨i, h, _⟩ := e17.ex; exact ⟨i, h⟩
theorem f29 : fieldsOkT Tryd.prog 29 := by
  intro d hd; rw [Tryd.underlying29] at hd; cases hd
  intro f hf; simp only [List.mem_cons, List.not_mem_nil, or_false] at hf
  rcases hf with rfl | rfl
  · obtain ⟨i, h, _⟩ := e9.ex; exact ⟨i, h⟩
  · obtain ⟨i, h, _⟩ := e3.ex; exact ⟨i, h⟩
theorem f50 : fieldsOkT Tryd.prog 50 := by
  intro d hd; rw [Tryd.underlying50] at hd; cases hd
  intro f hf; simp only [List.mem_cons, List.not_mem_nil, or_false] at hf
  rcases hf with rfl | rfl
  · obtain ⟨i, h, _⟩ := e9.ex; exact ⟨i, h⟩
  · obtain ⟨i, h, _⟩ := e4.ex; exact ⟨i, h⟩
theorem f62 : fieldsOkT Tryd.prog 62 := by
  intro d hd; rw [Tryd.underlying62] at hd; cases hd
  intro f hf; simp only [List.mem_cons, List.not_mem_nil, or_false] at hf
  rcases hf with rfl | rfl
  · obtain ⟨i, h, _⟩ := e47.ex; exact ⟨i, h⟩
  · obtain ⟨i, h, _⟩ := e22.ex; exact ⟨i, h⟩
theorem f63 : fieldsOkT Tryd.prog 63 := by
  intro d hd; rw [Tryd.underlying63] at hd; cases hd
  intro f hf; simp only [List.mem_cons, List.not_mem_nil, or_false] at hf
  rcases hf with rfl | rfl
  · obtain ⟨i, h, _⟩ := e47.ex; exact ⟨i, h⟩
  · obtain ⟨i, h, _⟩ := e22.ex; exact ⟨i, h⟩
theorem f67 : fieldsOkT Tryd.prog 67 := by
  intro d hd; rw [Tryd.underlying67] at hd; cases hd
  intro f hf; simp only [List.mem_cons, List.not_mem_nil, or_false] at hf
  rcases hf with rfl
  · obtain ⟨i, h, _⟩ := e24.ex; exact ⟨i, h⟩
theorem f68 : fieldsOkT Tryd.prog 68 := by
  intro d hd; rw [Tryd.underlying68] at hd; cases hd
  intro f hf; simp only [List.mem_cons, List.not_mem_nil, or_false] at hf
  rcases hf with rfl
  · obtain ⟨i, h, _⟩ := e24.ex; exact ⟨i, h⟩
theorem f83 : fieldsOkT Tryd.prog 83 := by
  intro d hd; rw [Tryd.underlying83] at hd; cases hd
  intro f hf; simp only [List.mem_cons, List.not_mem_nil, or_false] at hf
  rcases hf with rfl | rfl | rfl
  · obtain ⟨i, h, _⟩ := e9.ex; exact ⟨i, h⟩
  · obtain ⟨i, h, _⟩ := e9.ex; exact ⟨i, h⟩
  · obtain ⟨i, h, _⟩ := e3.ex; exact ⟨i, h⟩
theorem f84 : fieldsOkT Tryd.prog 84 := by
  intro d hd; rw [Tryd.underlying84] at hd; cases hd
  intro f hf; simp only [List.mem_cons, List.not_mem_nil, or_false] at hf
  rcases hf with rfl | rfl | rfl
  · obtain ⟨i, h, _⟩ := e9.ex; exact ⟨i, h⟩
  · obtain ⟨i, h, _⟩ := e9.ex; exact ⟨i, h⟩
  · obtain ⟨i, h, _⟩ := e3.ex; exact ⟨i, h⟩
theorem k1 {K : Prop} : Chk (ElemZ Tryd.prog 1 (.nilFunc)) K = K := Chk_of e1
theorem k2 {K : Prop} : Chk (ElemZ Tryd.prog 2 (.int .i64 0)) K = K := Chk_of e2
theorem k3 {K : Prop} : Chk (ElemZ Tryd.prog 3 (.int .i64 0)) K = K := Chk_of e3
theorem ke3 : (ElemZ Tryd.prog 3 (.int .i64 0)) = True := eq_true e3
theorem k4 {K : Prop} : Chk (ElemZ Tryd.prog 4 (.bool false)) K = K := Chk_of e4
theorem ke4 : (ElemZ Tryd.prog 4 (.bool false)) = True := eq_true e4
theorem ke9 : (ElemZ Tryd.prog 9 (.string ⟨#[]⟩)) = True := eq_true e9
theorem ke30 : (ElemZ Tryd.prog 30 (.agg #[.string ⟨#[]⟩, .int .i64 0])) = True := eq_true e30
theorem kt63 : (fieldsOkT Tryd.prog 63) = True := eq_true f63
theorem kt68 : (fieldsOkT Tryd.prog 68) = True := eq_true f68
theorem ky9 : Maps.Keyed Tryd.prog 9 = True := eq_true (Maps.string_keyed Tryd.underlying9)
theorem kt_9 (s : List UInt8) : KeyT Tryd.prog 9 (.str s) = True := eq_true (.str Tryd.underlying9 s)
attribute [go_sem] Tryd.underlying0 Tryd.underlying1 Tryd.underlying2 Tryd.underlying3 Tryd.underlying4 Tryd.underlying5 Tryd.underlying6 Tryd.underlying7 Tryd.underlying8 Tryd.underlying9 Tryd.underlying10 Tryd.underlying11
attribute [go_sem] Tryd.underlying12 Tryd.underlying13 Tryd.underlying14 Tryd.underlying15 Tryd.underlying16 Tryd.underlying17 Tryd.underlying18 Tryd.underlying19 Tryd.underlying20 Tryd.underlying21 Tryd.underlying22 Tryd.underlying23
attribute [go_sem] Tryd.underlying24 Tryd.underlying25 Tryd.underlying26 Tryd.underlying27 Tryd.underlying28 Tryd.underlying29 Tryd.underlying30 Tryd.underlying31 Tryd.underlying32 Tryd.underlying33 Tryd.underlying34 Tryd.underlying35
attribute [go_sem] Tryd.underlying36 Tryd.underlying37 Tryd.underlying38 Tryd.underlying39 Tryd.underlying40 Tryd.underlying41 Tryd.underlying42 Tryd.underlying43 Tryd.underlying44 Tryd.underlying45 Tryd.underlying46 Tryd.underlying47
attribute [go_sem] Tryd.underlying48 Tryd.underlying49 Tryd.underlying50 Tryd.underlying51 Tryd.underlying52 Tryd.underlying53 Tryd.underlying54 Tryd.underlying55 Tryd.underlying56 Tryd.underlying57 Tryd.underlying58 Tryd.underlying59
attribute [go_sem] Tryd.underlying60 Tryd.underlying61 Tryd.underlying62 Tryd.underlying63 Tryd.underlying64 Tryd.underlying65 Tryd.underlying66 Tryd.underlying67 Tryd.underlying68 Tryd.underlying69 Tryd.underlying70 Tryd.underlying71
attribute [go_sem] Tryd.underlying72 Tryd.underlying73 Tryd.underlying74 Tryd.underlying75 Tryd.underlying76 Tryd.underlying77 Tryd.underlying78 Tryd.underlying79 Tryd.underlying80 Tryd.underlying81 Tryd.underlying82 Tryd.underlying83
attribute [go_sem] Tryd.underlying84 Tryd.underlying85 Tryd.underlying86 Tryd.underlying87 Tryd.underlying88 Tryd.underlying89 Tryd.underlying90 Tryd.underlying91 Tryd.underlying92 Tryd.underlying93 Tryd.underlying94 Tryd.underlying95
attribute [go_sem] Tryd.underlying96 Tryd.underlying97 Tryd.underlying98 Tryd.underlying99 Tryd.underlying100 Tryd.underlying101 Tryd.underlying102 Tryd.underlying103 Tryd.underlying104 Tryd.underlying105 Tryd.underlying106 Tryd.underlying107
attribute [go_sem] Tryd.underlying108 Tryd.underlying109 Tryd.underlying110 Tryd.underlying111 Tryd.underlying112 Tryd.underlying113 Tryd.underlying114 Tryd.underlying115 Tryd.underlying116 Tryd.underlying117 Tryd.underlying118 Tryd.underlying119
attribute [go_sem] Tryd.underlying120 Tryd.underlying121 Tryd.underlying122 Tryd.underlying123 Tryd.underlying124 Tryd.underlying125 Tryd.underlying126 Tryd.underlying127 Tryd.underlying128 Tryd.underlying129 Tryd.underlying130 Tryd.underlying131
attribute [go_sem] Tryd.underlying132 Tryd.underlying133 Tryd.underlying134 Tryd.underlying135 Tryd.underlying136 Tryd.underlying137 Tryd.underlying138 Tryd.underlying139 Tryd.underlying140 Tryd.underlying141 Tryd.underlying142 Tryd.underlying143
attribute [go_sem] Tryd.underlying144 Tryd.underlying145 Tryd.underlying146 Tryd.underlying147 Tryd.underlying148 Tryd.underlying149 Tryd.underlying150 Tryd.underlying151 Tryd.underlying152 Tryd.underlying153 Tryd.underlying154 Tryd.underlying155
attribute [go_sem] Tryd.underlying156 Tryd.underlying157 Tryd.underlying158 Tryd.underlying159 Tryd.underlying160 k1 k2
attribute [go_sem] k3 ke3 z3 c3 k4 ke4 z4 c4 z5
attribute [go_sem] ke9 z9 c9
attribute [go_sem] z22 c22
attribute [go_sem] c24 z25 z27
attribute [go_sem] z29 ke30 z30
attribute [go_sem] c30 z32 z35
attribute [go_sem] z36 z39
attribute [go_sem] z41
attribute [go_sem] z44 z45
attribute [go_sem] z46 c47
attribute [go_sem] z50
attribute [go_sem] z53
attribute [go_sem] z55 z57
attribute [go_sem] z63 z64
attribute [go_sem] z66
attribute [go_sem] z68
attribute [go_sem] z76 z77
attribute [go_sem] kt63 kt68
attribute [go_sem] ky9 kt_9
end Go.Fv.V

/- Words with counts, as data; their order. -/
namespace Go.Fv.V
open Go Go.Proofs
set_option linter.unusedSimpArgs false
set_option linter.unusedVariables false
set_option maxRecDepth 8000

structure Wd where
  t : List UInt8
  c : Int
deriving DecidableEq
def Wd.av (x : Wd) : List AV := [.str x.t, .int .i64 x.c]
def Wd.zero : Wd := ⟨[], 0⟩
abbrev wdR (l : List Wd) : RowV := .objs 2 (l.map Wd.av)
instance : FNoId Wd.av := ⟨fun _ => rfl⟩
theorem wd_elem (l : List Wd) {i : Nat} (h : i < l.length) : (l.map Wd.av).getD i [] = [.str (l.getD i Wd.zero).t, .int .i64 (l.getD i Wd.zero).c] := by
  rw [getD_lt (by simpa using h), getD_lt h, List.getElem_map]; rfl
theorem cmp_lt : ∀ a b : List UInt8, Lib.compareBytes a b < 0 ↔ a < b
  | [], [] => by simp [Lib.compareBytes]
  | [], b :: bs => by simp [Lib.compareBytes]
  | a :: r, [] => by simp [Lib.compareBytes]
  | a :: r, b :: bs => by
    rw [Lib.compareBytes, List.cons_lt_cons_iff]
    have ih := cmp_lt r bs
    by_cases h1 : a < b
    · rw [if_pos h1]; simp [h1]
    · rw [if_neg h1]
      by_cases h2 : b < a
      · rw [if_pos h2]
        constructor
        · intro h; omega
        · rintro (h | ⟨h, _⟩)
          · exact absurd h h1
          · subst h; exact absurd h2 h1
      · rw [if_neg h2, ih]
        have e : a = b := UInt8.le_antisymm (UInt8.not_lt.1 h2) (UInt8.not_lt.1 h1)
        subst e
        simp [h1]
theorem cmp_bd : ∀ a b : List UInt8, -1 ≤ Lib.compareBytes a b ∧ Lib.compareBytes a b ≤ 1
  | [], [] => by simp [Lib.compareBytes]
  | [], b :: bs => by simp [Lib.compareBytes]
  | a :: r, [] => by simp [Lib.compareBytes]
  | a :: r, b :: bs => by
    rw [Lib.compareBytes]
    have ih := cmp_bd r bs
    split
    · omega
    · split
      · omega
      · exact ih
def cfW (x y : Wd) : Int := Lib.compareBytes x.t y.t
def WdOk (x : Wd) : Prop := x.t.length ≤ 1048576 ∧ 0 ≤ x.c ∧ x.c ≤ 1000000000000
theorem cfW_ord : CmpOrd WdOk cfW where
  irrefl := fun x _ h => List.lt_irrefl _ ((cmp_lt _ _).1 h)
  trans := fun x y z _ _ _ h1 h2 => (cmp_lt _ _).2 (List.lt_trans ((cmp_lt _ _).1 h1) ((cmp_lt _ _).1 h2))
  ntrans := fun x y z _ _ _ h1 h2 h3 => by
    have k1 : y.t ≤ x.t := fun hlt => h1 ((cmp_lt _ _).2 hlt)
    have k2 : z.t ≤ y.t := fun hlt => h2 ((cmp_lt _ _).2 hlt)
    exact List.le_trans k2 k1 ((cmp_lt _ _).1 h3)
theorem sorted_le {l : List Wd} (h : SortedBy cfW l) : l.Pairwise fun x y => x.t ≤ y.t :=
  h.imp fun {x y} hxy hlt => hxy ((cmp_lt _ _).2 hlt)
theorem sorted_eq : ∀ {l l' : List Wd}, l.Perm l' → (l.map Wd.t).Nodup → (l.Pairwise fun x y => x.t ≤ y.t) → (l'.Pairwise fun x y => x.t ≤ y.t) → l = l'
  | [], l', hp, _, _, _ => (List.nil_perm.1 hp).symm
  | x :: l, [], hp, _, _, _ => by simp at hp
  | x :: l, y :: l', hp, hn, h1, h2 => by
    have e : x = y := by
      obtain ⟨a1, a2⟩ := List.pairwise_cons.1 h1
      obtain ⟨b1, b2⟩ := List.pairwise_cons.1 h2
      have hx : x ∈ y :: l' := hp.mem_iff.1 List.mem_cons_self
      have hy : y ∈ x :: l := hp.mem_iff.2 List.mem_cons_self
      rcases List.mem_cons.1 hx with h | hx
      · exact h
      rcases List.mem_cons.1 hy with h | hy
      · exact h.symm
      have et : x.t = y.t := List.le_antisymm (a1 y hy) (b1 x hx)
      have hn2 := (List.nodup_cons.1 hn).1
      exact absurd (List.mem_map.2 ⟨y, hy, et.symm⟩) hn2
    subst e
    rw [sorted_eq (List.perm_cons x |>.1 hp) (List.nodup_cons.1 hn).2 (List.pairwise_cons.1 h1).2 (List.pairwise_cons.1 h2).2]
def sortW (l : List Wd) : List Wd := l.mergeSort fun x y => decide (x.t ≤ y.t)
theorem sortW_perm (l : List Wd) : (sortW l).Perm l := List.mergeSort_perm _ _
theorem sortW_le (l : List Wd) : (sortW l).Pairwise fun x y => x.t ≤ y.t := by
  have h := List.pairwise_mergeSort (le := fun x y : Wd => decide (x.t ≤ y.t)) (fun a b c h1 h2 => decide_eq_true (List.le_trans (of_decide_eq_true h1) (of_decide_eq_true h2))) (fun a b => by
    rcases List.le_total a.t b.t with h | h <;> simp [h]) l
  exact h.imp fun h => of_decide_eq_true h
/-- What the library makes of words with different texts. -/
theorem sortW_eq {l l' : List Wd} (hp : l'.Perm l) (hs : SortedBy cfW l') (hn : (l.map Wd.t).Nodup) : l' = sortW l :=
  sorted_eq (hp.trans (sortW_perm l).symm) ((hp.map Wd.t).nodup_iff.2 hn) (sorted_le hs) (sortW_le l)
end Go.Fv.V

/-! A list without what comes twice, in order of the first places; and how often each is there, as a map has it. -/
namespace Go.Fv.V
open Go
set_option linter.unusedSimpArgs false
set_option linter.unusedVariables false
set_option linter.unusedSectionVars false
section
variable {α β : Type} [DecidableEq α] [DecidableEq β]
variable {f : α → AV}
end
end Go.Fv.V

/- Tokens of a text: what Split and its reference compute, in plain words. -/
namespace Go.Fv.V
open Go
set_option linter.unusedSimpArgs false
set_option linter.unusedVariables false
set_option linter.unnecessarySimpa false

abbrev Bytes := List UInt8
/-- A letter. -/
def isL (c : UInt8) : Bool := decide (97 ≤ c.toNat) && decide (c.toNat ≤ 122) || decide (65 ≤ c.toNat) && decide (c.toNat ≤ 90) || decide (128 ≤ c.toNat)
/-- What can be in a word. -/
def inW (c : UInt8) : Bool := isL c || decide (c = 39)
def isWd (s : Bytes) : Bool := decide (s ≠ []) && decide (s.length ≤ 40) && isL (s.headD 0) && isL (s.getLastD 0) && s.all inW

end Go.Fv.V

/- Dictionaries. Plain law. -/
namespace Go.Fv.V
open Go
set_option linter.unusedSimpArgs false
set_option linter.unusedVariables false
set_option linter.unnecessarySimpa false

/-! ### What is wrong with a list -/
def wdE (seen : List Bytes) (w : Wd) : Int := if isWd w.t = false then 2 else if w.c < 1 ∨ 1000000000 < w.c then 3 else if w.t ∈ seen then 6 else 0
def wdEs : List Bytes → List Wd → Int
  | _, [] => 0
  | seen, w :: l => if wdE seen w = 0 then wdEs (seen ++ [w.t]) l else wdE seen w
def dictErr (l : List Wd) : Int := if 5000 < l.length then 4 else wdEs [] l
theorem wdE_zero {seen : List Bytes} {w : Wd} (h : wdE seen w = 0) : isWd w.t = true ∧ (1 ≤ w.c ∧ w.c ≤ 1000000000) ∧ w.t ∉ seen := by
  unfold wdE at h
  split at h
  · cases h
  · rename_i h1
    split at h
    · cases h
    · rename_i h2
      split at h
      · cases h
      · rename_i h3
        exact ⟨by simpa using h1, by omega, h3⟩
structure GoodD (l : List Wd) : Prop where
  len : l.length ≤ 5000
  wd : ∀ w, w ∈ l → isWd w.t = true ∧ (1 ≤ w.c ∧ w.c ≤ 1000000000)
  nd : (l.map Wd.t).Nodup
theorem wdEs_zero : ∀ {l : List Wd} {seen : List Bytes}, seen.Nodup → wdEs seen l = 0 → (∀ w, w ∈ l → isWd w.t = true ∧ (1 ≤ w.c ∧ w.c ≤ 1000000000)) ∧ (seen ++ l.map Wd.t).Nodup
  | [], seen, hn, _ => ⟨fun w h => (by cases h), by simpa using hn⟩
  | w :: l, seen, hn, h => by
    unfold wdEs at h
    split at h
    · rename_i h0
      obtain ⟨h1, h2, h3⟩ := wdE_zero h0
      have hn' : (seen ++ [w.t]).Nodup := List.nodup_append.2 ⟨hn, by simp, fun a ha b hb e => h3 (by rw [List.mem_singleton.1 hb] at e; rw [← e]; exact ha)⟩
      obtain ⟨i1, i2⟩ := wdEs_zero hn' h
      refine ⟨fun x hx => ?_, by rw [List.append_assoc] at i2; exact i2⟩
      rcases List.mem_cons.1 hx with rfl | hx
      · exact ⟨h1, h2⟩
      · exact i1 x hx
    · rename_i h0
      exact absurd h h0
theorem dictErr_zero {l : List Wd} (h : dictErr l = 0) : GoodD l := by
  unfold dictErr at h
  split at h
  · cases h
  · rename_i h0
    obtain ⟨h1, h2⟩ := wdEs_zero List.nodup_nil h
    exact ⟨by omega, h1, by simpa using h2⟩
theorem wdEs_drop (l : List Wd) {i : Nat} (h : i < l.length) (s : List Bytes) : wdEs s (l.drop i) = if wdE s (l.getD i Wd.zero) = 0 then wdEs (s ++ [(l.getD i Wd.zero).t]) (l.drop (i + 1)) else wdE s (l.getD i Wd.zero) := by
  rw [List.drop_eq_getElem_cons h, wdEs, getD_lt h]
/-! ### Counts -/
def cntD (l : List Wd) (x : Bytes) : Int := match l.find? fun w => decide (w.t = x) with | some w => w.c | none => 0
theorem cntD_nil (x : Bytes) : cntD [] x = 0 := rfl
theorem cntD_cons (w : Wd) (l : List Wd) (x : Bytes) : cntD (w :: l) x = if w.t = x then w.c else cntD l x := by
  unfold cntD
  rw [List.find?_cons]
  by_cases h : w.t = x
  · rw [if_pos h]; simp [h]
  · rw [if_neg h]; simp [h]
theorem cntD_mem {l : List Wd} (hn : (l.map Wd.t).Nodup) {w : Wd} (hw : w ∈ l) : cntD l w.t = w.c := by
  induction l with
  | nil => cases hw
  | cons v l ih =>
    rw [cntD_cons]
    obtain ⟨h1, h2⟩ := List.nodup_cons.1 hn
    rcases List.mem_cons.1 hw with rfl | hw
    · rw [if_pos rfl]
    · rw [if_neg (fun e => h1 (List.mem_map.2 ⟨w, hw, e.symm⟩))]
      exact ih h2 hw
theorem cntD_none {l : List Wd} {x : Bytes} (h : x ∉ l.map Wd.t) : cntD l x = 0 := by
  induction l with
  | nil => rfl
  | cons v l ih =>
    simp only [List.map_cons, List.mem_cons, not_or] at h
    rw [cntD_cons, if_neg (fun e => h.1 e.symm)]
    exact ih h.2
theorem cntD_perm {l l' : List Wd} (hp : l'.Perm l) (hn : (l.map Wd.t).Nodup) (x : Bytes) : cntD l' x = cntD l x := by
  by_cases h : x ∈ l.map Wd.t
  · obtain ⟨w, hw, rfl⟩ := List.mem_map.1 h
    rw [cntD_mem hn hw, cntD_mem ((hp.map Wd.t).nodup_iff.2 hn) (hp.mem_iff.2 hw)]
  · rw [cntD_none h, cntD_none fun h2 => h ((hp.map Wd.t).mem_iff.1 h2)]
/-- The map of a list. -/
def dKs (l : List Wd) : List AV := (l.map Wd.t).map .str
def dVs (l : List Wd) : List AV := (l.map Wd.c).map (.int .i64)
theorem getI_d (l : List Wd) (x : Bytes) : getI (dKs l) (dVs l) (.str x) = cntD l x := by
  unfold getI getV dKs dVs
  rw [keyIdx_strs]
  induction l with
  | nil => rfl
  | cons w l ih =>
    rw [cntD_cons, List.map_cons, ixOf]
    by_cases h : w.t = x
    · rw [if_pos h, if_pos h]; rfl
    · rw [if_neg h, if_neg h, ← ih]
      cases ixOf (l.map Wd.t) x with
      | none => rfl
      | some j => simp
theorem updKs_d {l : List Wd} {w : Wd} (h : w.t ∉ l.map Wd.t) : updKs (dKs l) (.str w.t) = dKs (l ++ [w]) := by
  unfold dKs; rw [updKs_strs]; unfold insE; rw [if_neg h]; simp
theorem updVs_d {l : List Wd} {w : Wd} (h : w.t ∉ l.map Wd.t) : updVs (dKs l) (dVs l) (.str w.t) (.int .i64 w.c) = dVs (l ++ [w]) := by
  unfold updVs dKs
  rw [keyIdx_strs, ixOf_none.2 h]
  simp [dVs]
theorem isI_d (l : List Wd) : (dVs l).all (isI .i64) = true := by simp [dVs, isI]
/-! ### Words in order -/
def wsD (l : List Wd) : List Bytes := sortS (l.map Wd.t)
theorem pairwise_eqB : ∀ {l l' : List Bytes}, l.Perm l' → (l.Pairwise fun x y => x ≤ y) → (l'.Pairwise fun x y => x ≤ y) → l = l'
  | [], l', hp, _, _ => (List.nil_perm.1 hp).symm
  | x :: l, [], hp, _, _ => by simp at hp
  | x :: l, y :: l', hp, h1, h2 => by
    obtain ⟨a1, a2⟩ := List.pairwise_cons.1 h1
    obtain ⟨b1, b2⟩ := List.pairwise_cons.1 h2
    have e : x = y := by
      have hx : x ∈ y :: l' := hp.mem_iff.1 List.mem_cons_self
      have hy : y ∈ x :: l := hp.mem_iff.2 List.mem_cons_self
      rcases List.mem_cons.1 hx with h | hx
      · exact h
      rcases List.mem_cons.1 hy with h | hy
      · exact h.symm
      exact List.le_antisymm (a1 y hy) (b1 x hx)
    subst e
    rw [pairwise_eqB (List.perm_cons x |>.1 hp) a2 b2]
theorem sortS_le (l : List Bytes) : (sortS l).Pairwise fun x y => x ≤ y := by
  have h := List.pairwise_mergeSort (le := fun x y : Bytes => decide (x ≤ y)) (fun a b c h1 h2 => decide_eq_true (List.le_trans (of_decide_eq_true h1) (of_decide_eq_true h2))) (fun a b => by
    rcases List.le_total a b with h | h <;> simp [h]) l
  exact h.imp fun h => of_decide_eq_true h
theorem wsD_eq (l : List Wd) : wsD l = (sortW l).map Wd.t :=
  pairwise_eqB ((List.mergeSort_perm _ _).trans ((sortW_perm l).symm.map Wd.t)) (sortS_le _) (List.pairwise_map.2 (sortW_le l))
/-! ### Words with a beginning -/
def begB (s : Bytes) (most : Int) (ws : List Bytes) : List Bytes := (ws.filter fun x => s.isPrefixOf x).take most.toNat
theorem prefix_le : ∀ {s x : Bytes}, s.isPrefixOf x = true → s ≤ x
  | [], x, _ => by intro h; cases x <;> cases h
  | a :: s, [], h => by simp at h
  | a :: s, b :: x, h => by
    simp only [List.isPrefixOf_cons_cons, Bool.and_eq_true, beq_iff_eq] at h
    obtain ⟨rfl, h⟩ := h
    intro hlt
    rcases List.cons_lt_cons_iff.1 hlt with h2 | ⟨_, h2⟩
    · exact absurd h2 (UInt8.lt_irrefl _)
    · exact prefix_le h h2
/-- What lies between a beginning and a word with it has it too. -/
theorem prefix_mid : ∀ {s x y : Bytes}, s ≤ x → x ≤ y → s.isPrefixOf y = true → s.isPrefixOf x = true
  | [], x, y, _, _, _ => by simp
  | a :: s, x, [], _, _, h => by simp at h
  | a :: s, [], b :: y, h1, _, _ => absurd (List.nil_lt_cons a s) h1
  | a :: s, c :: x, b :: y, h1, h2, h => by
    simp only [List.isPrefixOf_cons_cons, Bool.and_eq_true, beq_iff_eq] at h ⊢
    obtain ⟨rfl, h⟩ := h
    have e : a = c := by
      refine UInt8.le_antisymm (UInt8.not_lt.1 fun hlt => h1 (List.cons_lt_cons_iff.2 (.inl hlt))) (UInt8.not_lt.1 fun hlt => h2 (List.cons_lt_cons_iff.2 (.inl hlt)))
    subst e
    refine ⟨rfl, prefix_mid (fun hlt => h1 (List.cons_lt_cons_iff.2 (.inr ⟨rfl, hlt⟩))) (fun hlt => h2 (List.cons_lt_cons_iff.2 (.inr ⟨rfl, hlt⟩))) h⟩
end Go.Fv.V

/- Letters, words, and the trims at one byte. -/
namespace Go.Fv.V
open Go Go.Proofs
set_option linter.unusedSimpArgs false
set_option linter.unusedVariables false
set_option linter.unnecessarySimpa false
set_option maxRecDepth 8000

theorem isL_eq (c : UInt8) : isL c = decide ((97 ≤ (c.toNat : Int) ∧ (c.toNat : Int) ≤ 122 ∨ 65 ≤ (c.toNat : Int) ∧ (c.toNat : Int) ≤ 90) ∨ 128 ≤ (c.toNat : Int)) := by
  rw [Bool.eq_iff_iff]; simp only [isL, Bool.or_eq_true, Bool.and_eq_true, decide_eq_true_eq]; omega
theorem u8_39 (c : UInt8) : c = 39 ↔ (c.toNat : Int) = 39 := by
  constructor
  · rintro rfl; rfl
  · intro h; exact UInt8.toNat_inj.1 (by show c.toNat = 39; omega)
theorem inW_eq (c : UInt8) : inW c = (isL c || decide ((c.toNat : Int) = 39)) := by
  simp only [inW, u8_39]
theorem letter_ok (c : UInt8) : FnOk Tryd.prog 54 [.int .u8 c.toNat] (.bool (isL c)) [] := by
  refine FnOk.of_vc Tryd.func54 rfl (by decide) (by simp [Tryd.f54]) [.tmp 2] rfl fun w0 T0 _ => ?_
  simp only [Tryd.f54, argEnv]
  (repeat' first | with_reducible (first | intro _ | refine rc ?_ | refine rl ?_ | refine rh ?_ | refine rt ?_ | refine rf ?_ | refine rs ?_ | refine And.intro ?_ ?_) | omega | simp (maxSteps := 1000000) only [go_sem, simprocAttr, ↓reduceIte])
  refine Ret.auto 0 ?_ rfl ?_ <;> simp only [go_sem, reduceCtorEq, reduceIte, Nat.reduceEqDiff, Nat.reduceLT, Nat.reduceLeDiff, Int.natCast_succ, Post, isL_eq]
theorem isLetter_ok (c : UInt8) : FnOk Tryd.prog 50 [.int .u8 c.toNat] (.bool (isL c)) [] := by
  refine FnOk.of_vc Tryd.func50 rfl (by decide) (by simp [Tryd.f50]) [.tmp 2] rfl fun w0 T0 _ => ?_
  simp only [Tryd.f50, argEnv]
  (repeat' first | with_reducible (first | intro _ | refine rc ?_ | refine rl ?_ | refine rh ?_ | refine rt ?_ | refine rf ?_ | refine rs ?_ | refine And.intro ?_ ?_) | omega | simp (maxSteps := 1000000) only [go_sem, simprocAttr, ↓reduceIte])
  refine Ret.auto 0 ?_ rfl ?_ <;> simp only [go_sem, reduceCtorEq, reduceIte, Nat.reduceEqDiff, Nat.reduceLT, Nat.reduceLeDiff, Int.natCast_succ, Post, isL_eq]
theorem inWord_ok (c : UInt8) : FnOk Tryd.prog 42 [.int .u8 c.toNat] (.bool (inW c)) [] := by
  have k := letter_ok c
  refine FnOk.of_vc Tryd.func42 rfl (by decide) (by simp [Tryd.f42]) [.tmp 2] rfl fun w0 T0 _ => ?_
  simp only [Tryd.f42, argEnv]
  (repeat' first | with_reducible (first | intro _ | refine rc ?_ | refine rl ?_ | refine rh ?_ | refine rt ?_ | refine rf ?_ | refine rs ?_ | refine And.intro ?_ ?_) | omega | simp (maxSteps := 1000000) only [go_sem, simprocAttr, ↓reduceIte])
  refine VcCall.k k ?_
  (repeat' first | with_reducible (first | intro _ | refine rc ?_ | refine rl ?_ | refine rh ?_ | refine rt ?_ | refine rf ?_ | refine rs ?_ | refine And.intro ?_ ?_) | omega | simp (maxSteps := 1000000) only [go_sem, simprocAttr, ↓reduceIte])
  refine Ret.auto 0 ?_ rfl ?_ <;> simp only [go_sem, reduceCtorEq, reduceIte, Nat.reduceEqDiff, Nat.reduceLT, Nat.reduceLeDiff, Int.natCast_succ, Post, inW_eq]
theorem isWd_nil : isWd [] = false := by simp [isWd]
theorem isWd_long {s : List UInt8} (h : 40 < (s.length : Int)) : isWd s = false := by
  have : ¬ s.length ≤ 40 := by omega
  simp [isWd, this]
theorem isWd_mid {s : List UInt8} (h0 : ¬ s = []) (h1 : ¬ 40 < (s.length : Int)) : isWd s = (isL (s.getD 0 0) && isL (s.getD (s.length - 1) 0) && s.all inW) := by
  have h : s.length ≤ 40 := by omega
  have e1 : s.headD 0 = s.getD 0 0 := by cases s <;> rfl
  have e2 : s.getLastD 0 = s.getD (s.length - 1) 0 := by
    rw [List.getLastD_eq_getLast?, List.getLast?_eq_getElem?]; simp [List.getD]
  simp only [isWd, e1, e2, h0, h, ne_eq, not_false_eq_true, decide_true, Bool.true_and]
theorem all_of {s : List UInt8} (h : ∀ j, j < s.length → inW (s.getD j 0) = true) : s.all inW = true := by
  rw [List.all_eq_true]; intro x hx
  obtain ⟨j, hj, rfl⟩ := List.getElem_of_mem hx
  have := h j hj; rwa [getD_lt hj] at this
theorem all_not {s : List UInt8} {j : Nat} (hj : j < s.length) (h : inW (s.getD j 0) = false) : s.all inW = false := by
  rw [Bool.eq_false_iff]; intro ha
  rw [List.all_eq_true] at ha
  have := ha _ (List.getElem_mem hj)
  rw [getD_lt hj] at h; rw [h] at this; cases this
set_option maxHeartbeats 2000000 in
theorem isWordA_ok (s : List UInt8) : FnOk Tryd.prog 33 [.str s] (.bool (isWd s)) [] := by
  refine FnOk.of_vc Tryd.func33 rfl (by decide) (by simp [Tryd.f33]) [.tmp 2] rfl fun w0 T0 _ => ?_
  simp only [Tryd.f33, argEnv]
  by_cases h0 : s = []
  · (repeat' first | with_reducible (first | intro _ | refine rc ?_ | refine rl ?_ | refine rh ?_ | refine rt ?_ | refine rf ?_ | refine rs ?_ | refine And.intro ?_ ?_) | omega | simp (maxSteps := 1000000) only [go_sem, simprocAttr, ↓reduceIte, h0])
    refine Ret.auto 0 ?_ rfl ?_ <;> simp only [go_sem, reduceCtorEq, reduceIte, Nat.reduceEqDiff, Nat.reduceLT, Nat.reduceLeDiff, Int.natCast_succ, Post, isWd_nil]
  · by_cases h1 : 40 < (s.length : Int)
    · (repeat' first | with_reducible (first | intro _ | refine rc ?_ | refine rl ?_ | refine rh ?_ | refine rt ?_ | refine rf ?_ | refine rs ?_ | refine And.intro ?_ ?_) | omega | simp (maxSteps := 1000000) only [go_sem, simprocAttr, ↓reduceIte, h0, h1])
      refine Ret.auto 0 ?_ rfl ?_ <;> simp only [go_sem, reduceCtorEq, reduceIte, Nat.reduceEqDiff, Nat.reduceLT, Nat.reduceLeDiff, Int.natCast_succ, Post, isWd_long h1]
    · have hp : 0 < s.length := List.length_pos_iff.2 h0
      have hp2 : (0 : Int) < s.length := by omega
      have k := letter_ok (s.getD 0 0)
      have k2 := letter_ok (s.getD (s.length - 1) 0)
      have e := isWd_mid h0 h1
      have et : ((s.length : Int) - 1).toNat = s.length - 1 := by omega
      (repeat' first | with_reducible (first | intro _ | refine rc ?_ | refine rl ?_ | refine rh ?_ | refine rt ?_ | refine rf ?_ | refine rs ?_ | refine And.intro ?_ ?_) | omega | simp (maxSteps := 1000000) only [go_sem, simprocAttr, ↓reduceIte, h0, h1, hp2])
      refine VcCall.k k ?_
      cases hL : isL (s.getD 0 0) with
      | false =>
        (repeat' first | with_reducible (first | intro _ | refine rc ?_ | refine rl ?_ | refine rh ?_ | refine rt ?_ | refine rf ?_ | refine rs ?_ | refine And.intro ?_ ?_) | omega | simp (maxSteps := 1000000) only [go_sem, simprocAttr, ↓reduceIte, hL])
        refine Ret.auto 0 ?_ rfl ?_ <;> simp only [go_sem, reduceCtorEq, reduceIte, Nat.reduceEqDiff, Nat.reduceLT, Nat.reduceLeDiff, Int.natCast_succ, Post, e, hL, Bool.false_and]
      | true =>
        (repeat' first | with_reducible (first | intro _ | refine rc ?_ | refine rl ?_ | refine rh ?_ | refine rt ?_ | refine rf ?_ | refine rs ?_ | refine And.intro ?_ ?_) | omega | simp (maxSteps := 1000000) only [go_sem, simprocAttr, ↓reduceIte, hL, et])
        refine VcCall.k k2 ?_
        cases hL2 : isL (s.getD (s.length - 1) 0) with
        | false =>
          (repeat' first | with_reducible (first | intro _ | refine rc ?_ | refine rl ?_ | refine rh ?_ | refine rt ?_ | refine rf ?_ | refine rs ?_ | refine And.intro ?_ ?_) | omega | simp (maxSteps := 1000000) only [go_sem, simprocAttr, ↓reduceIte, hL2])
          refine Ret.auto 0 ?_ rfl ?_ <;> simp only [go_sem, reduceCtorEq, reduceIte, Nat.reduceEqDiff, Nat.reduceLT, Nat.reduceLeDiff, Int.natCast_succ, Post, e, hL, hL2, Bool.false_and, Bool.and_false]
        | true =>
          (repeat' first | with_reducible (first | intro _ | refine rc ?_ | refine rl ?_ | refine rh ?_ | refine rt ?_ | refine rf ?_ | refine rs ?_ | refine And.intro ?_ ?_) | omega | simp (maxSteps := 1000000) only [go_sem, simprocAttr, ↓reduceIte, hL2])
          refine VcLoop.intro (fun i : Nat => ⟨37, [(28, .int .i64 i), (27, .int .i64 s.length), (0, .str s)], [], 0⟩) (fun i => i ≤ s.length ∧ ∀ j, j < i → inW (s.getD j 0) = true) (fun i => s.length - i) 0 ?_ ⟨Nat.zero_le _, fun j hj => absurd hj (Nat.not_lt_zero j)⟩ fun i hi => ?_
          · refine Ent.auto0 rfl ?_ ?_ <;> simp only [go_sem, reduceCtorEq, reduceIte, Nat.reduceEqDiff, Nat.reduceLT, Nat.reduceLeDiff, Int.natCast_succ]
          obtain ⟨hi, ha⟩ := hi
          have k3 := inWord_ok (s.getD i 0)
          (repeat' first | with_reducible (first | intro _ | refine rc ?_ | refine rl ?_ | refine rh ?_ | refine rt ?_ | refine rf ?_ | refine rs ?_ | refine And.intro ?_ ?_) | omega | simp (maxSteps := 1000000) only [go_sem, simprocAttr, ↓reduceIte, Int.toNat_natCast])
          · refine VcCall.k k3 ?_
            cases hW : inW (s.getD i 0) with
            | false =>
              have hf := all_not (by omega) hW
              (repeat' first | with_reducible (first | intro _ | refine rc ?_ | refine rl ?_ | refine rh ?_ | refine rt ?_ | refine rf ?_ | refine rs ?_ | refine And.intro ?_ ?_) | omega | simp (maxSteps := 1000000) only [go_sem, simprocAttr, ↓reduceIte, hW])
              refine Ret.auto 0 ?_ rfl ?_ <;> simp only [go_sem, reduceCtorEq, reduceIte, Nat.reduceEqDiff, Nat.reduceLT, Nat.reduceLeDiff, Int.natCast_succ, Post, e, hf, Bool.and_false]
            | true =>
              (repeat' first | with_reducible (first | intro _ | refine rc ?_ | refine rl ?_ | refine rh ?_ | refine rt ?_ | refine rf ?_ | refine rs ?_ | refine And.intro ?_ ?_) | omega | simp (maxSteps := 1000000) only [go_sem, simprocAttr, ↓reduceIte, hW])
              refine ⟨i + 1, Ent.auto0 rfl ?_ ?_, ⟨by omega, fun j hj => ?_⟩, by omega⟩
              · simp only [go_sem, reduceCtorEq, reduceIte, Nat.reduceEqDiff, Nat.reduceLT, Nat.reduceLeDiff, Int.natCast_succ]
              · simp only [go_sem, reduceCtorEq, reduceIte, Nat.reduceEqDiff, Nat.reduceLT, Nat.reduceLeDiff, Int.natCast_succ]
              · by_cases hji : j = i
                · rw [hji]; exact hW
                · exact ha j (by omega)
          · have hf := all_of fun j hj => ha j (by omega)
            refine Ret.auto 0 ?_ rfl ?_ <;> simp only [go_sem, reduceCtorEq, reduceIte, Nat.reduceEqDiff, Nat.reduceLT, Nat.reduceLeDiff, Int.natCast_succ, Post, e, hL, hL2, hf, Bool.and_true]
end Go.Fv.V

/- The reference's IsWord. -/
namespace Go.Fv.V
open Go Go.Proofs
set_option linter.unusedSimpArgs false
set_option linter.unusedVariables false
set_option linter.unnecessarySimpa false
set_option maxRecDepth 8000

set_option maxHeartbeats 2000000 in
theorem refIsWordA_ok (s : List UInt8) : FnOk Tryd.prog 35 [.str s] (.bool (isWd s)) [] := by
  refine FnOk.of_vc Tryd.func35 rfl (by decide) (by simp [Tryd.f35]) [.tmp 2] rfl fun w0 T0 _ => ?_
  simp only [Tryd.f35, argEnv]
  by_cases h0 : s = []
  · (repeat' first | with_reducible (first | intro _ | refine rc ?_ | refine rl ?_ | refine rh ?_ | refine rt ?_ | refine rf ?_ | refine rs ?_ | refine And.intro ?_ ?_) | omega | simp (maxSteps := 1000000) only [go_sem, simprocAttr, ↓reduceIte, h0])
    refine Ret.auto 0 ?_ rfl ?_ <;> simp only [go_sem, reduceCtorEq, reduceIte, Nat.reduceEqDiff, Nat.reduceLT, Nat.reduceLeDiff, Int.natCast_succ, Post, isWd_nil]
  · by_cases h1 : 40 < (s.length : Int)
    · (repeat' first | with_reducible (first | intro _ | refine rc ?_ | refine rl ?_ | refine rh ?_ | refine rt ?_ | refine rf ?_ | refine rs ?_ | refine And.intro ?_ ?_) | omega | simp (maxSteps := 1000000) only [go_sem, simprocAttr, ↓reduceIte, h0, h1])
      refine Ret.auto 0 ?_ rfl ?_ <;> simp only [go_sem, reduceCtorEq, reduceIte, Nat.reduceEqDiff, Nat.reduceLT, Nat.reduceLeDiff, Int.natCast_succ, Post, isWd_long h1]
    · have hp : 0 < s.length := List.length_pos_iff.2 h0
      have hp2 : (0 : Int) < s.length := by omega
      have k := isLetter_ok (s.getD 0 0)
      have k2 := isLetter_ok (s.getD (s.length - 1) 0)
      have e := isWd_mid h0 h1
      have et : ((s.length : Int) - 1).toNat = s.length - 1 := by omega
      (repeat' first | with_reducible (first | intro _ | refine rc ?_ | refine rl ?_ | refine rh ?_ | refine rt ?_ | refine rf ?_ | refine rs ?_ | refine And.intro ?_ ?_) | omega | simp (maxSteps := 1000000) only [go_sem, simprocAttr, ↓reduceIte, h0, h1, hp2])
      refine VcCall.k k ?_
      cases hL : isL (s.getD 0 0) with
      | false =>
        (repeat' first | with_reducible (first | intro _ | refine rc ?_ | refine rl ?_ | refine rh ?_ | refine rt ?_ | refine rf ?_ | refine rs ?_ | refine And.intro ?_ ?_) | omega | simp (maxSteps := 1000000) only [go_sem, simprocAttr, ↓reduceIte, hL])
        refine Ret.auto 0 ?_ rfl ?_ <;> simp only [go_sem, reduceCtorEq, reduceIte, Nat.reduceEqDiff, Nat.reduceLT, Nat.reduceLeDiff, Int.natCast_succ, Post, e, hL, Bool.false_and]
      | true =>
        (repeat' first | with_reducible (first | intro _ | refine rc ?_ | refine rl ?_ | refine rh ?_ | refine rt ?_ | refine rf ?_ | refine rs ?_ | refine And.intro ?_ ?_) | omega | simp (maxSteps := 1000000) only [go_sem, simprocAttr, ↓reduceIte, hL, et])
        refine VcCall.k k2 ?_
        cases hL2 : isL (s.getD (s.length - 1) 0) with
        | false =>
          (repeat' first | with_reducible (first | intro _ | refine rc ?_ | refine rl ?_ | refine rh ?_ | refine rt ?_ | refine rf ?_ | refine rs ?_ | refine And.intro ?_ ?_) | omega | simp (maxSteps := 1000000) only [go_sem, simprocAttr, ↓reduceIte, hL2])
          refine Ret.auto 0 ?_ rfl ?_ <;> simp only [go_sem, reduceCtorEq, reduceIte, Nat.reduceEqDiff, Nat.reduceLT, Nat.reduceLeDiff, Int.natCast_succ, Post, e, hL, hL2, Bool.false_and, Bool.and_false]
        | true =>
          (repeat' first | with_reducible (first | intro _ | refine rc ?_ | refine rl ?_ | refine rh ?_ | refine rt ?_ | refine rf ?_ | refine rs ?_ | refine And.intro ?_ ?_) | omega | simp (maxSteps := 1000000) only [go_sem, simprocAttr, ↓reduceIte, hL2])
          refine VcLoop.intro (fun i : Nat => ⟨43, [(28, .int .i64 i), (27, .int .i64 s.length), (0, .str s)], [], 0⟩) (fun i => i ≤ s.length ∧ ∀ j, j < i → inW (s.getD j 0) = true) (fun i => s.length - i) 0 ?_ ⟨Nat.zero_le _, fun j hj => by omega⟩ fun i hi => ?_
          · refine Ent.auto0 rfl ?_ ?_ <;> simp only [go_sem, reduceCtorEq, reduceIte, Nat.reduceEqDiff, Nat.reduceLT, Nat.reduceLeDiff, Int.natCast_succ]
          obtain ⟨hi, ha⟩ := hi
          have k3 := isLetter_ok (s.getD i 0)
          have hiw := inW_eq (s.getD i 0)
          (repeat' first | with_reducible (first | intro _ | refine rc ?_ | refine rl ?_ | refine rh ?_ | refine rt ?_ | refine rf ?_ | refine rs ?_ | refine And.intro ?_ ?_) | omega | simp (maxSteps := 1000000) only [go_sem, simprocAttr, ↓reduceIte, Int.toNat_natCast])
          · refine VcCall.k k3 ?_
            cases hW : isL (s.getD i 0) with
            | true =>
              rw [hW, Bool.true_or] at hiw
              (repeat' first | with_reducible (first | intro _ | refine rc ?_ | refine rl ?_ | refine rh ?_ | refine rt ?_ | refine rf ?_ | refine rs ?_ | refine And.intro ?_ ?_) | omega | simp (maxSteps := 1000000) only [go_sem, simprocAttr, ↓reduceIte, hW])
              refine ⟨i + 1, Ent.auto0 rfl ?_ ?_, ⟨by omega, fun j hj => ?_⟩, by omega⟩
              · simp only [go_sem, reduceCtorEq, reduceIte, Nat.reduceEqDiff, Nat.reduceLT, Nat.reduceLeDiff, Int.natCast_succ]
              · simp only [go_sem, reduceCtorEq, reduceIte, Nat.reduceEqDiff, Nat.reduceLT, Nat.reduceLeDiff, Int.natCast_succ]
              · by_cases hji : j = i
                · rw [hji]; exact hiw
                · exact ha j (by omega)
            | false =>
              rw [hW, Bool.false_or] at hiw
              (repeat' first | with_reducible (first | intro _ | refine rc ?_ | refine rl ?_ | refine rh ?_ | refine rt ?_ | refine rf ?_ | refine rs ?_ | refine And.intro ?_ ?_) | omega | simp (maxSteps := 1000000) only [go_sem, simprocAttr, ↓reduceIte, hW])
              · rename_i h39
                rw [decide_eq_false h39] at hiw
                have hf := all_not (by omega) hiw
                refine Ret.auto 0 ?_ rfl ?_ <;> simp only [go_sem, reduceCtorEq, reduceIte, Nat.reduceEqDiff, Nat.reduceLT, Nat.reduceLeDiff, Int.natCast_succ, Post, e, hf, Bool.and_false]
              · rename_i h39
                rw [decide_eq_true (Decidable.of_not_not h39)] at hiw
                refine ⟨i + 1, Ent.auto0 rfl ?_ ?_, ⟨by omega, fun j hj => ?_⟩, by omega⟩
                · simp only [go_sem, reduceCtorEq, reduceIte, Nat.reduceEqDiff, Nat.reduceLT, Nat.reduceLeDiff, Int.natCast_succ]
                · simp only [go_sem, reduceCtorEq, reduceIte, Nat.reduceEqDiff, Nat.reduceLT, Nat.reduceLeDiff, Int.natCast_succ]
                · by_cases hji : j = i
                  · rw [hji]; exact hiw
                  · exact ha j (by omega)
          · have hf := all_of fun j hj => ha j (by omega)
            refine Ret.auto 0 ?_ rfl ?_ <;> simp only [go_sem, reduceCtorEq, reduceIte, Nat.reduceEqDiff, Nat.reduceLT, Nat.reduceLeDiff, Int.natCast_succ, Post, e, hL, hL2, hf, Bool.and_true]
end Go.Fv.V

/- strings.HasPrefix. -/
namespace Go.Fv.V
open Go Go.Proofs
set_option linter.unusedSimpArgs false
set_option linter.unusedVariables false
set_option linter.unnecessarySimpa false
set_option maxRecDepth 8000

theorem take_prefix (s p : List UInt8) : decide ((p.length : Int) ≤ (s.length : Int) ∧ s.take p.length = p) = p.isPrefixOf s := by
  rw [Bool.eq_iff_iff, decide_eq_true_eq, List.isPrefixOf_iff_prefix]
  constructor
  · rintro ⟨_, h⟩; exact List.prefix_iff_eq_take.2 h.symm
  · intro h; exact ⟨by have := h.length_le; omega, (List.prefix_iff_eq_take.1 h).symm⟩
theorem hasPrefix0_ok (s p : List UInt8) : FnOk Tryd.prog 56 [.str s, .str p] (.bool (p.isPrefixOf s)) [] := by
  rw [← take_prefix]
  refine FnOk.of_vc Tryd.func56 rfl (by decide) (by simp [Tryd.f56]) [.tmp 4] rfl fun w0 T0 _ => ?_
  simp only [Tryd.f56, argEnv]
  (repeat' first | with_reducible (first | intro _ | refine rc ?_ | refine rl ?_ | refine rh ?_ | refine rt ?_ | refine rf ?_ | refine rs ?_ | refine And.intro ?_ ?_) | omega | simp (maxSteps := 1000000) only [go_sem, simprocAttr, ↓reduceIte, Nat.sub_zero, List.drop_zero, Int.toNat_natCast, Int.toNat_zero])
  refine Ret.auto 0 ?_ rfl ?_ <;> simp only [go_sem, reduceCtorEq, reduceIte, Nat.reduceEqDiff, Nat.reduceLT, Nat.reduceLeDiff, Int.natCast_succ, Post]
theorem hasPrefix_ok (s p : List UInt8) : FnOk Tryd.prog 38 [.str s, .str p] (.bool (p.isPrefixOf s)) [] := by
  have k := hasPrefix0_ok s p
  refine FnOk.of_vc Tryd.func38 rfl (by decide) (by simp [Tryd.f38]) [.tmp 4] rfl fun w0 T0 _ => ?_
  simp only [Tryd.f38, argEnv]
  (repeat' first | with_reducible (first | intro _ | refine rc ?_ | refine rl ?_ | refine rh ?_ | refine rt ?_ | refine rf ?_ | refine rs ?_ | refine And.intro ?_ ?_) | omega | simp (maxSteps := 1000000) only [go_sem, simprocAttr, ↓reduceIte])
  refine VcCall.k k ?_
  (repeat' first | with_reducible (first | intro _ | refine rc ?_ | refine rl ?_ | refine rh ?_ | refine rt ?_ | refine rf ?_ | refine rs ?_ | refine And.intro ?_ ?_) | omega | simp (maxSteps := 1000000) only [go_sem, simprocAttr, ↓reduceIte])
  refine Ret.auto 0 ?_ rfl ?_ <;> simp only [go_sem, reduceCtorEq, reduceIte, Nat.reduceEqDiff, Nat.reduceLT, Nat.reduceLeDiff, Int.natCast_succ, Post]
end Go.Fv.V

/- Dictionaries: the walks of Has, Count, Begin and their references. -/
namespace Go.Fv.V
open Go Go.Proofs
set_option linter.unusedSimpArgs false
set_option linter.unusedVariables false
set_option linter.unnecessarySimpa false
set_option maxRecDepth 8000

theorem keysT_d {P : Program} {kt : TypeId} (h : P.underlying kt = some .string) (l : List Wd) : KeysT P kt (dKs l) := KeysT_map (fun n => KeyT.str h n) _
theorem countD_ok (l : List Wd) (ws : List Bytes) (x : Bytes) : FnOk Tryd.prog 15 [.cell [.mp (dKs l) (dVs l), .ro (.strs ws)], .str x] (.int .i64 (cntD l x)) [] := by
  have e1 := getI_d l x
  have e4 := isI_d l
  have e5 : KeysT Tryd.prog 9 (dKs l) := keysT_d (by kernel_rfl) _
  refine FnOk.of_vc Tryd.func15 rfl (by decide) (by simp [Tryd.f15]) [.tmp 4] rfl fun w0 T0 _ => ?_
  simp only [Tryd.f15, argEnv]
  (repeat' first | with_reducible (first | intro _ | refine rc ?_ | refine rl ?_ | refine rh ?_ | refine rt ?_ | refine rf ?_ | refine rs ?_ | refine And.intro ?_ ?_) | omega | simp (maxSteps := 1000000) only [go_sem, simprocAttr, ↓reduceIte, e1, e4, e5])
  refine Ret.auto 0 ?_ rfl ?_ <;> simp only [go_sem, reduceCtorEq, reduceIte, Nat.reduceEqDiff, Nat.reduceLT, Nat.reduceLeDiff, Int.natCast_succ, Post]
theorem hasD_ok (l : List Wd) (ws : List Bytes) (x : Bytes) : FnOk Tryd.prog 17 [.cell [.mp (dKs l) (dVs l), .ro (.strs ws)], .str x] (.bool (decide (0 < cntD l x))) [] := by
  have e1 := getI_d l x
  have e4 := isI_d l
  have e5 : KeysT Tryd.prog 9 (dKs l) := keysT_d (by kernel_rfl) _
  refine FnOk.of_vc Tryd.func17 rfl (by decide) (by simp [Tryd.f17]) [.tmp 4] rfl fun w0 T0 _ => ?_
  simp only [Tryd.f17, argEnv]
  (repeat' first | with_reducible (first | intro _ | refine rc ?_ | refine rl ?_ | refine rh ?_ | refine rt ?_ | refine rf ?_ | refine rs ?_ | refine And.intro ?_ ?_) | omega | simp (maxSteps := 1000000) only [go_sem, simprocAttr, ↓reduceIte, e1, e4, e5])
  refine Ret.auto 0 ?_ rfl ?_ <;> simp only [go_sem, reduceCtorEq, reduceIte, Nat.reduceEqDiff, Nat.reduceLT, Nat.reduceLeDiff, Int.natCast_succ, Post]
theorem cntD_drop (l : List Wd) {i : Nat} (h : i < l.length) (x : Bytes) : cntD (l.drop i) x = if (l.getD i Wd.zero).t = x then (l.getD i Wd.zero).c else cntD (l.drop (i + 1)) x := by
  rw [List.drop_eq_getElem_cons h, cntD_cons, getD_lt h]
set_option maxHeartbeats 1000000 in
theorem refCountD_ok (l : List Wd) (x : Bytes) : FnOk Tryd.prog 16 [.cell [.ro (wdR l)], .str x] (.int .i64 (cntD l x)) [] := by
  refine FnOk.of_vc Tryd.func16 rfl (by decide) (by simp [Tryd.f16]) [.tmp 4] rfl fun w0 T0 _ => ?_
  simp only [Tryd.f16, argEnv]
  (repeat' first | with_reducible (first | intro _ | refine rc ?_ | refine rl ?_ | refine rh ?_ | refine rt ?_ | refine rf ?_ | refine rs ?_ | refine And.intro ?_ ?_) | omega | simp (maxSteps := 1000000) only [go_sem, simprocAttr, ↓reduceIte, List.length_map])
  refine VcLoop.intro (fun i : Nat => ⟨23, [(12, .int .i64 i), (11, .int .i64 l.length), (10, .ro (wdR l)), (1, .str x)], [], 0⟩) (fun i => i ≤ l.length ∧ cntD (l.drop i) x = cntD l x) (fun i => l.length - i) 0 ?_ ⟨Nat.zero_le _, by rw [List.drop_zero]⟩ fun i hi => ?_
  · refine Ent.auto0 rfl ?_ ?_ <;> simp only [go_sem, reduceCtorEq, reduceIte, Nat.reduceEqDiff, Nat.reduceLT, Nat.reduceLeDiff, Int.natCast_succ]
  obtain ⟨hi, hc⟩ := hi
  by_cases hlt : i < l.length
  · have he := wd_elem l hlt
    rw [cntD_drop l hlt] at hc
    generalize l.getD i Wd.zero = y at *
    obtain ⟨yt, yc⟩ := y
    dsimp only at he hc
    by_cases hx : yt = x
    · rw [if_pos hx] at hc
      subst hx
      (repeat' first | with_reducible (first | intro _ | refine rc ?_ | refine rl ?_ | refine rh ?_ | refine rt ?_ | refine rf ?_ | refine rs ?_ | refine And.intro ?_ ?_) | omega | simp (maxSteps := 1000000) only [go_sem, simprocAttr, ↓reduceIte, elemA, he, List.length_map])
      refine Ret.auto 0 ?_ rfl ?_ <;> simp only [go_sem, reduceCtorEq, reduceIte, Nat.reduceEqDiff, Nat.reduceLT, Nat.reduceLeDiff, Int.natCast_succ, Post, hc]
    · rw [if_neg hx] at hc
      (repeat' first | with_reducible (first | intro _ | refine rc ?_ | refine rl ?_ | refine rh ?_ | refine rt ?_ | refine rf ?_ | refine rs ?_ | refine And.intro ?_ ?_) | omega | simp (maxSteps := 1000000) only [go_sem, simprocAttr, ↓reduceIte, elemA, he, hx, List.length_map])
      refine ⟨i + 1, Ent.auto0 rfl ?_ ?_, ⟨by omega, hc⟩, by omega⟩ <;> simp only [go_sem, reduceCtorEq, reduceIte, Nat.reduceEqDiff, Nat.reduceLT, Nat.reduceLeDiff, Int.natCast_succ]
  · have e : i = l.length := by omega
    subst e
    rw [List.drop_length, cntD_nil] at hc
    (repeat' first | with_reducible (first | intro _ | refine rc ?_ | refine rl ?_ | refine rh ?_ | refine rt ?_ | refine rf ?_ | refine rs ?_ | refine And.intro ?_ ?_) | omega | simp (maxSteps := 1000000) only [go_sem, simprocAttr, ↓reduceIte, List.length_map])
    refine Ret.auto 0 ?_ rfl ?_ <;> simp only [go_sem, reduceCtorEq, reduceIte, Nat.reduceEqDiff, Nat.reduceLT, Nat.reduceLeDiff, Int.natCast_succ, Post, ← hc]
end Go.Fv.V

/- slices.BinarySearch of words. -/
namespace Go.Fv.V
open Go Go.Proofs
set_option linter.unusedSimpArgs false
set_option linter.unusedVariables false
set_option linter.unnecessarySimpa false
set_option maxRecDepth 8000

theorem cNaN_ok (a : Bytes) : FnOk Tryd.prog 86 [.str a] (.bool false) [] := by
  refine FnOk.of_vc Tryd.func86 rfl (by decide) (by simp [Tryd.f86]) [.tmp 2] rfl fun w0 T0 _ => ?_
  simp only [Tryd.f86, argEnv]
  (repeat' first | with_reducible (first | intro _ | refine rc ?_ | refine rl ?_ | refine rh ?_ | refine rt ?_ | refine rf ?_ | refine rs ?_ | refine And.intro ?_ ?_) | omega | simp (maxSteps := 1000000) only [go_sem, simprocAttr, ↓reduceIte])
  refine Ret.auto 0 ?_ rfl ?_ <;> simp only [go_sem, reduceCtorEq, reduceIte, Nat.reduceEqDiff, Nat.reduceLT, Nat.reduceLeDiff, Int.natCast_succ, Post]
theorem sNaN_ok (a : Bytes) : FnOk Tryd.prog 58 [.str a] (.bool false) [] := by
  refine FnOk.of_vc Tryd.func58 rfl (by decide) (by simp [Tryd.f58]) [.tmp 2] rfl fun w0 T0 _ => ?_
  simp only [Tryd.f58, argEnv]
  (repeat' first | with_reducible (first | intro _ | refine rc ?_ | refine rl ?_ | refine rh ?_ | refine rt ?_ | refine rf ?_ | refine rs ?_ | refine And.intro ?_ ?_) | omega | simp (maxSteps := 1000000) only [go_sem, simprocAttr, ↓reduceIte])
  refine Ret.auto 0 ?_ rfl ?_ <;> simp only [go_sem, reduceCtorEq, reduceIte, Nat.reduceEqDiff, Nat.reduceLT, Nat.reduceLeDiff, Int.natCast_succ, Post]
theorem cLess_ok (a b : Bytes) : FnOk Tryd.prog 57 [.str a, .str b] (.bool (decide (a < b))) [] := by
  have k := cNaN_ok a
  rw [← bytesLess_eq]
  refine FnOk.of_vc Tryd.func57 rfl (by decide) (by simp [Tryd.f57]) [.tmp 4] rfl fun w0 T0 _ => ?_
  simp only [Tryd.f57, argEnv]
  (repeat' first | with_reducible (first | intro _ | refine rc ?_ | refine rl ?_ | refine rh ?_ | refine rt ?_ | refine rf ?_ | refine rs ?_ | refine And.intro ?_ ?_) | omega | simp (maxSteps := 1000000) only [go_sem, simprocAttr, ↓reduceIte])
  refine VcCall.k (k) ?_
  (repeat' first | with_reducible (first | intro _ | refine rc ?_ | refine rl ?_ | refine rh ?_ | refine rt ?_ | refine rf ?_ | refine rs ?_ | refine And.intro ?_ ?_) | omega | simp (maxSteps := 1000000) only [go_sem, simprocAttr, ↓reduceIte])
  refine Ret.auto 0 ?_ rfl ?_ <;> simp only [go_sem, reduceCtorEq, reduceIte, Nat.reduceEqDiff, Nat.reduceLT, Nat.reduceLeDiff, Int.natCast_succ, Post]
/-- How many are less. -/
def lessN (ws : List Bytes) (x : Bytes) : Nat := ws.countP fun y => decide (y < x)
theorem lessN_le (ws : List Bytes) (x : Bytes) : lessN ws x ≤ ws.length := List.countP_le_length
/-- In a row in order those that are less come first. -/
theorem lessN_at : ∀ {ws : List Bytes} {x : Bytes}, (ws.Pairwise fun a b => a ≤ b) → ∀ i, i < ws.length → (ws.getD i [] < x ↔ i < lessN ws x)
  | [], x, _, i, hi => by simp at hi
  | y :: ws, x, h, i, hi => by
    obtain ⟨h1, h2⟩ := List.pairwise_cons.1 h
    have ih := lessN_at (x := x) h2
    by_cases hy : y < x
    · have e : lessN (y :: ws) x = lessN ws x + 1 := by unfold lessN; rw [List.countP_cons]; simp [hy]
      rw [e]
      cases i with
      | zero => simpa using hy
      | succ i =>
        have := ih i (by simpa using hi)
        rw [List.getD_cons_succ]
        rw [this]; omega
    · have hz : ∀ z, z ∈ ws → ¬ z < x := fun z hz hlt => by
        have := h1 z hz
        exact hy (by
          rcases Classical.em (y < x) with h | h
          · exact h
          · exact absurd hlt (List.le_trans h this))
      have e : lessN (y :: ws) x = 0 := by
        unfold lessN
        rw [List.countP_eq_zero]
        intro z hz'
        rcases List.mem_cons.1 hz' with rfl | hz'
        · simpa using hy
        · simpa using hz z hz'
      rw [e]
      constructor
      · intro hlt
        have hm : (y :: ws).getD i [] ∈ y :: ws := by rw [getD_lt hi]; exact List.getElem_mem hi
        rcases List.mem_cons.1 hm with h' | h'
        · rw [h'] at hlt; exact absurd hlt hy
        · exact absurd hlt (hz _ h')
      · intro h'; omega
set_option maxHeartbeats 2000000 in
theorem binS_ok (ws : List Bytes) (hs : ws.Pairwise fun a b => a ≤ b) (hl : ws.length ≤ 1000000) (x : Bytes) : FnOk Tryd.prog 39 [.ro (.strs ws), .str x] (.tup [.int .i64 (lessN ws x : Nat), .bool (decide (lessN ws x < ws.length) && decide (ws.getD (lessN ws x) [] = x))]) [] := by
  have hat := fun i => lessN_at (x := x) hs i
  have hle := lessN_le ws x
  generalize lessN ws x = k at *
  refine FnOk.of_vc Tryd.func39 rfl (by decide) (by simp [Tryd.f39]) [.tmp 4, .tmp 5] rfl fun w0 T0 _ => ?_
  simp only [Tryd.f39, argEnv]
  (repeat' first | with_reducible (first | intro _ | refine rc ?_ | refine rl ?_ | refine rh ?_ | refine rt ?_ | refine rf ?_ | refine rs ?_ | refine And.intro ?_ ?_) | omega | simp (maxSteps := 1000000) only [go_sem, simprocAttr, ↓reduceIte])
  refine VcLoop.intro (fun y : Nat × Nat => ⟨54, [(7, .int .i64 y.1), (8, .int .i64 y.2), (6, .int .i64 ws.length), (0, .ro (.strs ws)), (1, .str x)], [], 0⟩) (fun y => y.1 ≤ k ∧ k ≤ y.2 ∧ y.2 ≤ ws.length) (fun y => y.2 - y.1) (0, ws.length) ?_ ⟨Nat.zero_le _, hle, Nat.le_refl _⟩ fun y hy => ?_
  · refine Ent.auto0 rfl ?_ ?_ <;> simp only [go_sem, reduceCtorEq, reduceIte, Nat.reduceEqDiff, Nat.reduceLT, Nat.reduceLeDiff, Int.natCast_succ]
  obtain ⟨i, j⟩ := y
  obtain ⟨h1, h2, h3⟩ := hy
  dsimp only at h1 h2 h3 ⊢
  by_cases hij : i < j
  · have hsh : shrI .u64 ((i : Int) + j) 1 = (((i + j) / 2 : Nat) : Int) := by
      show Int.fdiv _ 2 = _
      rw [Int.fdiv_eq_ediv_of_nonneg _ (by decide)]; omega
    have hm1 : i ≤ (i + j) / 2 := by omega
    have hm2 : (i + j) / 2 < j := by omega
    have hlt := hat ((i + j) / 2) (by omega)
    have kc := cLess_ok (ws.getD ((i + j) / 2) []) x
    generalize (i + j) / 2 = m at *
    (repeat' first | with_reducible (first | intro _ | refine rc ?_ | refine rl ?_ | refine rh ?_ | refine rt ?_ | refine rf ?_ | refine rs ?_ | refine And.intro ?_ ?_) | omega | simp (maxSteps := 1000000) only [go_sem, simprocAttr, ↓reduceIte])
    refine LetW.inR (InK_u64.2 (by omega)) ?_
    rw [hsh]
    (repeat' first | with_reducible (first | intro _ | refine rc ?_ | refine rl ?_ | refine rh ?_ | refine rt ?_ | refine rf ?_ | refine rs ?_ | refine And.intro ?_ ?_) | omega | simp (maxSteps := 1000000) only [go_sem, simprocAttr, ↓reduceIte, Int.toNat_natCast])
    by_cases hmk : m < k
    · rw [decide_eq_true (hlt.2 hmk)] at kc
      refine VcCall.k (kc) ?_
      (repeat' first | with_reducible (first | intro _ | refine rc ?_ | refine rl ?_ | refine rh ?_ | refine rt ?_ | refine rf ?_ | refine rs ?_ | refine And.intro ?_ ?_) | omega | simp (maxSteps := 1000000) only [go_sem, simprocAttr, ↓reduceIte])
      refine ⟨(m + 1, j), Ent.auto0 rfl ?_ ?_, ⟨by dsimp only; omega, h2, h3⟩, by dsimp only; omega⟩ <;> simp only [go_sem, reduceCtorEq, reduceIte, Nat.reduceEqDiff, Nat.reduceLT, Nat.reduceLeDiff, Int.natCast_succ]
      all_goals simp
    · rw [decide_eq_false (mt hlt.1 hmk)] at kc
      refine VcCall.k (kc) ?_
      (repeat' first | with_reducible (first | intro _ | refine rc ?_ | refine rl ?_ | refine rh ?_ | refine rt ?_ | refine rf ?_ | refine rs ?_ | refine And.intro ?_ ?_) | omega | simp (maxSteps := 1000000) only [go_sem, simprocAttr, ↓reduceIte])
      refine ⟨(i, m), Ent.auto0 rfl ?_ ?_, ⟨h1, by dsimp only; omega, by dsimp only; omega⟩, by dsimp only; omega⟩ <;> simp only [go_sem, reduceCtorEq, reduceIte, Nat.reduceEqDiff, Nat.reduceLT, Nat.reduceLeDiff, Int.natCast_succ]
  · have e : i = k := by omega
    subst e
    have kn := sNaN_ok (ws.getD i [])
    by_cases hil : i < ws.length
    · have hil' : (i : Int) < ws.length := by omega
      by_cases hx : ws.getD i [] = x
      · (repeat' first | with_reducible (first | intro _ | refine rc ?_ | refine rl ?_ | refine rh ?_ | refine rt ?_ | refine rf ?_ | refine rs ?_ | refine And.intro ?_ ?_) | omega | simp (maxSteps := 1000000) only [go_sem, simprocAttr, ↓reduceIte, hil', hx, Int.toNat_natCast])
        refine Ret.auto 0 ?_ rfl ?_ <;> simp only [go_sem, reduceCtorEq, reduceIte, Nat.reduceEqDiff, Nat.reduceLT, Nat.reduceLeDiff, Int.natCast_succ, Post]
        all_goals simp [hil, hx]
      · (repeat' first | with_reducible (first | intro _ | refine rc ?_ | refine rl ?_ | refine rh ?_ | refine rt ?_ | refine rf ?_ | refine rs ?_ | refine And.intro ?_ ?_) | omega | simp (maxSteps := 1000000) only [go_sem, simprocAttr, ↓reduceIte, hil', hx, Int.toNat_natCast])
        refine VcCall.k (kn) ?_
        (repeat' first | with_reducible (first | intro _ | refine rc ?_ | refine rl ?_ | refine rh ?_ | refine rt ?_ | refine rf ?_ | refine rs ?_ | refine And.intro ?_ ?_) | omega | simp (maxSteps := 1000000) only [go_sem, simprocAttr, ↓reduceIte, hil', hx])
        refine Ret.auto 0 ?_ rfl ?_ <;> simp only [go_sem, reduceCtorEq, reduceIte, Nat.reduceEqDiff, Nat.reduceLT, Nat.reduceLeDiff, Int.natCast_succ, Post]
        all_goals simp [hil, hx]
    · have hil' : ¬ (i : Int) < ws.length := by omega
      (repeat' first | with_reducible (first | intro _ | refine rc ?_ | refine rl ?_ | refine rh ?_ | refine rt ?_ | refine rf ?_ | refine rs ?_ | refine And.intro ?_ ?_) | omega | simp (maxSteps := 1000000) only [go_sem, simprocAttr, ↓reduceIte, hil'])
      refine Ret.auto 0 ?_ rfl ?_ <;> simp only [go_sem, reduceCtorEq, reduceIte, Nat.reduceEqDiff, Nat.reduceLT, Nat.reduceLeDiff, Int.natCast_succ, Post]
      all_goals simp [hil]
end Go.Fv.V
