/-
  A part of the proof of the claim: walks over the program's functions and the plain laws that these need. No condition of its own.
-/
import Derived.Test.YtodlgmmbfbiilaaDoorFvPart9
import Derived.Test.YtodlgmmbfbiilaaDoorProg
import Derived.Shelf.Spec.TrailingZeros
import Derived.Shelf.Bits.Mul64
/- Facts about the program's types: each shown by reckoning it out. -/
namespace Go.Fv.G
open Go Go.Proofs
theorem e1 : ElemZ Tryd.prog 1 (.nilFunc) := .of (by kernel_rfl) (by kernel_rfl)
theorem c1 : Tryd.prog.cellsOf 1 = 1 := e1.cellsOf
theorem e2 : ElemZ Tryd.prog 2 (.int .i64 0) := .of (by kernel_rfl) (by kernel_rfl)
theorem c2 : Tryd.prog.cellsOf 2 = 1 := e2.cellsOf
theorem e3 : ElemZ Tryd.prog 3 (.int .i64 0) := .of (by kernel_rfl) (by kernel_rfl)
theorem z3 : zeroOf Tryd.prog 3 = some (.int .i64 0) := e3.zero
theorem c3 : Tryd.prog.cellsOf 3 = 1 := e3.cellsOf
theorem e4 : ElemZ Tryd.prog 4 (.bool false) := .of (by kernel_rfl) (by kernel_rfl)
theorem z4 : zeroOf Tryd.prog 4 = some (.bool false) := e4.zero
theorem c4 : Tryd.prog.cellsOf 4 = 1 := e4.cellsOf
theorem e5 : ElemZ Tryd.prog 5 (.int .u8 0) := .of (by kernel_rfl) (by kernel_rfl)
theorem z5 : zeroOf Tryd.prog 5 = some (.int .u8 0) := e5.zero
theorem c5 : Tryd.prog.cellsOf 5 = 1 := e5.cellsOf
theorem e6 : ElemZ Tryd.prog 6 (.int .u8 0) := .of (by kernel_rfl) (by kernel_rfl)
theorem e17 : ElemZ Tryd.prog 17 (.pointer none) := .of (by kernel_rfl) (by kernel_rfl)
theorem e22 : ElemZ Tryd.prog 22 (.nilFunc) := .of (by kernel_rfl) (by kernel_rfl)
theorem z22 : zeroOf Tryd.prog 22 = some (.nilFunc) := e22.zero
theorem e25 : ElemZ Tryd.prog 25 (.nilFunc) := .of (by kernel_rfl) (by kernel_rfl)
theorem z25 : zeroOf Tryd.prog 25 = some (.nilFunc) := e25.zero
theorem e27 : ElemZ Tryd.prog 27 (.nilFunc) := .of (by kernel_rfl) (by kernel_rfl)
theorem z27 : zeroOf Tryd.prog 27 = some (.nilFunc) := e27.zero
theorem e46 : ElemZ Tryd.prog 46 (.nilFunc) := .of (by kernel_rfl) (by kernel_rfl)
theorem z46 : zeroOf Tryd.prog 46 = some (.nilFunc) := e46.zero
theorem e51 : ElemZ Tryd.prog 51 (.nilFunc) := .of (by kernel_rfl) (by kernel_rfl)
theorem z51 : zeroOf Tryd.prog 51 = some (.nilFunc) := e51.zero
theorem e53 : ElemZ Tryd.prog 53 (.nilFunc) := .of (by kernel_rfl) (by kernel_rfl)
theorem z53 : zeroOf Tryd.prog 53 = some (.nilFunc) := e53.zero
theorem e54 : ElemZ Tryd.prog 54 (.nilFunc) := .of (by kernel_rfl) (by kernel_rfl)
theorem z54 : zeroOf Tryd.prog 54 = some (.nilFunc) := e54.zero
theorem f7 : fieldsOkT Tryd.prog 7 := by
  intro d hd; rw [Tryd.underlying7] at hd; cases hd
  intro f hf; simp only [List.mem_cons, List.not_mem_nil, or_false] at hf
  rcases hf with rfl | rfl | rfl | rfl
  · obtain ⟨i, h, _⟩ := e2.ex; exact ⟨i, h⟩
  · obtain ⟨i, h, _⟩ := e3.ex; exact ⟨i, h⟩
  · obtain ⟨i, h, _⟩ := e4.ex; exact ⟨i, h⟩
  · obtain ⟨i, h, _⟩ := e6.ex; exact ⟨i, h⟩
theorem f8 : fieldsOkT Tryd.prog 8 := by
  intro d hd; rw [Tryd.underlying8] at hd; cases hd
  intro f hf; simp only [List.mem_cons, List.not_mem_nil, or_false] at hf
  rcases hf with rfl | rfl | rfl | rfl
  · obtain ⟨i, h, _⟩ := e2.ex; exact ⟨i, h⟩
  · obtain ⟨i, h, _⟩ := e3.ex; exact ⟨i, h⟩
  · obtain ⟨i, h, _⟩ := e4.ex; exact ⟨i, h⟩
  · obtain ⟨i, h, _⟩ := e6.ex; exact ⟨i, h⟩
theorem f18 : fieldsOkT Tryd.prog 18 := by
  intro d hd; rw [Tryd.underlying18] at hd; cases hd
  intro f hf; simp only [List.mem_cons, List.not_mem_nil, or_false] at hf
  rcases hf with rfl
  · obtain ⟨i, h, _⟩ := e17.ex; exact ⟨i, h⟩
theorem f19 : fieldsOkT Tryd.prog 19 := by
  intro d hd; rw [Tryd.underlying19] at hd; cases hd
  intro f hf; simp only [List.mem_cons, List.not_mem_nil, or_false] at hf
  rcases hf with rfl
  · obtain ⟨i, h, _⟩ := e17.ex; exact ⟨i, h⟩
theorem k1 {K : Prop} : Chk (ElemZ Tryd.prog 1 (.nilFunc)) K = K := Chk_of e1
theorem k2 {K : Prop} : Chk (ElemZ Tryd.prog 2 (.int .i64 0)) K = K := Chk_of e2
theorem k3 {K : Prop} : Chk (ElemZ Tryd.prog 3 (.int .i64 0)) K = K := Chk_of e3
theorem k4 {K : Prop} : Chk (ElemZ Tryd.prog 4 (.bool false)) K = K := Chk_of e4
theorem ke5 : (ElemZ Tryd.prog 5 (.int .u8 0)) = True := eq_true e5
attribute [go_sem] Tryd.underlying0 Tryd.underlying1 Tryd.underlying2 Tryd.underlying3 Tryd.underlying4 Tryd.underlying5 Tryd.underlying6 Tryd.underlying7 Tryd.underlying8 Tryd.underlying9 Tryd.underlying10 Tryd.underlying11
attribute [go_sem] Tryd.underlying12 Tryd.underlying13 Tryd.underlying14 Tryd.underlying15 Tryd.underlying16 Tryd.underlying17 Tryd.underlying18 Tryd.underlying19 Tryd.underlying20 Tryd.underlying21 Tryd.underlying22 Tryd.underlying23
attribute [go_sem] Tryd.underlying24 Tryd.underlying25 Tryd.underlying26 Tryd.underlying27 Tryd.underlying28 Tryd.underlying29 Tryd.underlying30 Tryd.underlying31 Tryd.underlying32 Tryd.underlying33 Tryd.underlying34 Tryd.underlying35
attribute [go_sem] Tryd.underlying36 Tryd.underlying37 Tryd.underlying38 Tryd.underlying39 Tryd.underlying40 Tryd.underlying41 Tryd.underlying42 Tryd.underlying43 Tryd.underlying44 Tryd.underlying45 Tryd.underlying46 Tryd.underlying47
attribute [go_sem] Tryd.underlying48 Tryd.underlying49 Tryd.underlying50 Tryd.underlying51 Tryd.underlying52 Tryd.underlying53 Tryd.underlying54 Tryd.underlying55 Tryd.underlying56 Tryd.underlying57 Tryd.underlying58 Tryd.underlying59
attribute [go_sem] Tryd.underlying60 Tryd.underlying61 Tryd.underlying62 Tryd.underlying63 Tryd.underlying64 Tryd.underlying65 Tryd.underlying66 Tryd.underlying67 Tryd.underlying68 Tryd.underlying69 Tryd.underlying70 Tryd.underlying71
attribute [go_sem] Tryd.underlying72 Tryd.underlying73 Tryd.underlying74 Tryd.underlying75 Tryd.underlying76 Tryd.underlying77 Tryd.underlying78 Tryd.underlying79 Tryd.underlying80 Tryd.underlying81 Tryd.underlying82 Tryd.underlying83
attribute [go_sem] Tryd.underlying84 Tryd.underlying85 Tryd.underlying86 Tryd.underlying87 Tryd.underlying88 Tryd.underlying89 Tryd.underlying90 Tryd.underlying91 Tryd.underlying92 Tryd.underlying93 Tryd.underlying94 Tryd.underlying95
attribute [go_sem] Tryd.underlying96 Tryd.underlying97 Tryd.underlying98 Tryd.underlying99 Tryd.underlying100 Tryd.underlying101 Tryd.underlying102 Tryd.underlying103 Tryd.underlying104 Tryd.underlying105 Tryd.underlying106 Tryd.underlying107
attribute [go_sem] Tryd.underlying108 Tryd.underlying109 Tryd.underlying110 Tryd.underlying111 Tryd.underlying112 Tryd.underlying113 Tryd.underlying114 Tryd.underlying115 Tryd.underlying116 Tryd.underlying117 Tryd.underlying118 Tryd.underlying119
attribute [go_sem] Tryd.underlying120 Tryd.underlying121 Tryd.underlying122 Tryd.underlying123 Tryd.underlying124 Tryd.underlying125 Tryd.underlying126 Tryd.underlying127 Tryd.underlying128 Tryd.underlying129 Tryd.underlying130 Tryd.underlying131
attribute [go_sem] Tryd.underlying132 Tryd.underlying133 Tryd.underlying134 Tryd.underlying135 Tryd.underlying136 Tryd.underlying137 Tryd.underlying138 Tryd.underlying139 Tryd.underlying140 Tryd.underlying141 Tryd.underlying142 k1
attribute [go_sem] c1 k2 c2 k3 z3 c3 k4
attribute [go_sem] z4 c4 ke5 z5 c5
attribute [go_sem] z22 z25
attribute [go_sem] z27
attribute [go_sem] z46
attribute [go_sem] z51
attribute [go_sem] z53 z54
end Go.Fv.G

/- math/bits.TrailingZeros of 2, by the contract of the shelf. -/
namespace Go.Proofs
open Go.Shelf
def Tryd.lays27_ren : Go.Shelf.Ren := ⟨fun | 27 => 84 | 28 => 92 | 29 => 93 | n => n, fun | 25 => 64 | 3 => 3 | 27 => 97 | 22 => 86 | 4 => 4 | 53 => 129 | 0 => 0 | 5 => 5 | 54 => 130 | n => n, fun | 0 => 6 | 1 => 7 | n => n⟩
theorem Tryd.lays27 : Go.Proofs.Lays7.n27 Tryd.prog Tryd.lays27_ren := {
  mixed := by kernel_rfl
  f27 := Tryd.func84.trans (congrArg some (by kernel_rfl))
  f28 := Tryd.func92.trans (congrArg some (by kernel_rfl))
  f29 := Tryd.func93.trans (congrArg some (by kernel_rfl))
  t0 := Tryd.underlying0
  a0 := Tryd.isAgg0
  z0 := Tryd.sizeOf0
  v0 := Tryd.zeroValue0
  i0 := by kernel_rfl
  t3 := Tryd.underlying3
  a3 := Tryd.isAgg3
  z3 := Tryd.sizeOf3
  v3 := Tryd.zeroValue3
  i3 := by kernel_rfl
  t4 := Tryd.underlying4
  a4 := Tryd.isAgg4
  z4 := Tryd.sizeOf4
  v4 := Tryd.zeroValue4
  i4 := by kernel_rfl
  t5 := Tryd.underlying5
  a5 := Tryd.isAgg5
  z5 := Tryd.sizeOf5
  v5 := Tryd.zeroValue5
  i5 := by kernel_rfl
  t22 := Tryd.underlying86
  a22 := Tryd.isAgg86
  z22 := Tryd.sizeOf86
  v22 := Tryd.zeroValue86
  i22 := by kernel_rfl
  t25 := Tryd.underlying64
  a25 := Tryd.isAgg64
  z25 := Tryd.sizeOf64
  v25 := Tryd.zeroValue64
  i25 := by kernel_rfl
  t27 := Tryd.underlying97
  a27 := Tryd.isAgg97
  z27 := Tryd.sizeOf97
  v27 := Tryd.zeroValue97
  i27 := by kernel_rfl
  t53 := Tryd.underlying129
  a53 := Tryd.isAgg129
  z53 := Tryd.sizeOf129
  v53 := Tryd.zeroValue129
  i53 := by kernel_rfl
  t54 := Tryd.underlying130
  a54 := Tryd.isAgg130
  z54 := Tryd.sizeOf130
  g0 := by kernel_rfl
  g1 := by kernel_rfl }
end Go.Proofs
namespace Go.Fv.G
open Go Go.Proofs
set_option linter.unusedSimpArgs false
set_option linter.unusedVariables false
set_option maxRecDepth 8000

theorem tabAt_of {P : Program} {w : World} {g : Nat} (hw : GlOk P w) (hg : glK P g = some .tab) : TabAt g Lib.deBruijn64tab w := by
  obtain ⟨ob, hh, t, rfl⟩ := hw g _ hg
  intro j hj
  unfold World.cell?
  simp only [hh, Option.isSome_none, Bool.false_eq_true, if_false]
  simp [List.getElem?_map, List.getD, hj]
theorem tz2_ok : FnOk Tryd.prog 84 [.int .u64 2] (.int .i64 1) [] := by
  refine ⟨⟨_, Tryd.func84, by kernel_rfl, by kernel_rfl⟩, fun w T vals hg hv => ?_⟩
  cases hv with
  | cons _ _ _ _ h1 hv =>
    cases hv
    cases h1 with
    | int _ _ e1 =>
      have L := Tryd.lays27
      refine (Any7.bits_TrailingZeros L 2 (by decide) w fun _ => tabAt_of hg (by kernel_rfl)).mono ?_
      rintro e w' ⟨rfl, rfl⟩
      refine ⟨_, rfl, BelowD.refl _ _, fun _ => undef, 0, ?_, ?_, ?_⟩
      · rw [show (Lib.ctz 64 2) = 1 by decide]
        exact .int _ _ (InK_i64.2 (by omega))
      · intro i it h; cases h
      · intro i j it jt b h; cases h
end Go.Fv.G

/- Tokens of a text: what Split and its reference compute, in plain words. -/
namespace Go.Fv.G
open Go
set_option linter.unusedSimpArgs false
set_option linter.unusedVariables false
set_option linter.unnecessarySimpa false

abbrev Bytes := List UInt8
end Go.Fv.G

/- Numbers in bits, in plain words. -/
namespace Go.Fv.G
open Go
set_option linter.unusedSimpArgs false
set_option linter.unusedVariables false
set_option linter.unnecessarySimpa false

def digB (n : Nat) : UInt8 := if n % 2 = 1 then 49 else 48
/-- A number in base 2. -/
def binB (n : Nat) : Bytes := if h : n < 2 then [digB n] else binB (n / 2) ++ [digB n]
termination_by n
decreasing_by omega
def gamB (n : Nat) : Bytes := List.replicate ((binB n).length - 1) 48 ++ binB n
/-- The value of binary digits. -/
def valB (l : Bytes) : Nat := l.foldl (fun a c => 2 * a + (c.toNat - 48)) 0
def is01 (c : UInt8) : Bool := decide (c = 48 ∨ c = 49)
def zer (c : UInt8) : Bool := decide (c = 48)
def leadB (s : Bytes) : Nat := (s.takeWhile zer).length
/-- What is read: the number, and how long it is. -/
def rdG (s : Bytes) : Option (Nat × Nat) :=
  if leadB s ≤ 20 ∧ 2 * leadB s + 1 ≤ s.length ∧ ((s.drop (leadB s)).take (leadB s + 1)).all is01 = true ∧ valB ((s.drop (leadB s)).take (leadB s + 1)) ≤ 1048576 then
    some (valB ((s.drop (leadB s)).take (leadB s + 1)), 2 * leadB s + 1) else none

theorem binB_lt {n : Nat} (h : n < 2) : binB n = [digB n] := by rw [binB, dif_pos h]
theorem binB_ge {n : Nat} (h : ¬ n < 2) : binB n = binB (n / 2) ++ [digB n] := by rw [binB, dif_neg h]
theorem digB_val (n : Nat) : (digB n).toNat - 48 = n % 2 := by
  unfold digB
  split
  · rename_i h; rw [h]; rfl
  · have : n % 2 = 0 := by omega
    rw [this]; rfl
theorem digB_01 (n : Nat) : is01 (digB n) = true := by unfold digB; split <;> decide
theorem valB_snoc (l : Bytes) (c : UInt8) : valB (l ++ [c]) = 2 * valB l + (c.toNat - 48) := by unfold valB; rw [List.foldl_append]; rfl
theorem valB_bin : ∀ n : Nat, valB (binB n) = n
  | n => by
    by_cases h : n < 2
    · rw [binB_lt h]
      show 2 * 0 + ((digB n).toNat - 48) = n
      rw [digB_val]; omega
    · rw [binB_ge h, valB_snoc, digB_val, valB_bin (n / 2)]; omega
termination_by n => n
theorem bin_01 : ∀ n : Nat, (binB n).all is01 = true
  | n => by
    by_cases h : n < 2
    · rw [binB_lt h]; simp [digB_01]
    · rw [binB_ge h, List.all_append, bin_01 (n / 2)]; simp [digB_01]
termination_by n => n
theorem bin_head : ∀ n : Nat, 1 ≤ n → ∃ l, binB n = 49 :: l
  | n, h1 => by
    by_cases h : n < 2
    · have : n = 1 := by omega
      subst this
      exact ⟨[], by rw [binB_lt h]; rfl⟩
    · obtain ⟨l, hl⟩ := bin_head (n / 2) (by omega)
      exact ⟨l ++ [digB n], by rw [binB_ge h, hl]; rfl⟩
termination_by n => n
theorem bin_len : ∀ (k n : Nat), n < 2 ^ (k + 1) → (binB n).length ≤ k + 1
  | 0, n, h => by rw [binB_lt (by simpa using h)]; exact Nat.le_refl _
  | k + 1, n, h => by
    by_cases h2 : n < 2
    · rw [binB_lt h2]; simp
    · rw [binB_ge h2, List.length_append]
      have := bin_len k (n / 2) (by rw [Nat.pow_succ] at h; omega)
      simp only [List.length_singleton]; omega
theorem bin_pos (n : Nat) : 1 ≤ (binB n).length := by
  by_cases h : n < 2
  · rw [binB_lt h]; exact Nat.le_refl _
  · rw [binB_ge h, List.length_append]; simp
theorem lead_rep (m : Nat) (l : Bytes) : leadB (List.replicate m 48 ++ 49 :: l) = m := by
  unfold leadB
  induction m with
  | zero => simp [List.takeWhile_cons, zer]
  | succ m ih => rw [List.replicate_succ, List.cons_append, List.takeWhile_cons, if_pos (by decide), List.length_cons, ih]
theorem gam_len (n : Nat) : (gamB n).length = 2 * (binB n).length - 1 := by
  have := bin_pos n
  unfold gamB
  rw [List.length_append, List.length_replicate]; omega
/-- What is written is read. -/
theorem rdG_gam {n : Nat} (h1 : 1 ≤ n) (h2 : n ≤ 1048576) (r : Bytes) : rdG (gamB n ++ r) = some (n, (gamB n).length) := by
  obtain ⟨l, hl⟩ := bin_head n h1
  have hlen := bin_len 20 n (by rw [show (2 : Nat) ^ (20 + 1) = 2097152 from rfl]; omega)
  have hp := bin_pos n
  have e : gamB n ++ r = List.replicate ((binB n).length - 1) 48 ++ 49 :: (l ++ r) := by
    unfold gamB; rw [List.append_assoc, hl]; rfl
  have hlead : leadB (gamB n ++ r) = (binB n).length - 1 := by rw [e]; exact lead_rep _ _
  have hb : ((gamB n ++ r).drop ((binB n).length - 1)).take ((binB n).length - 1 + 1) = binB n := by
    unfold gamB
    rw [List.append_assoc, List.drop_left' (by simp), Nat.sub_add_cancel hp, List.take_left]
  have hgl := gam_len n
  unfold rdG
  rw [hlead, hb, bin_01, valB_bin, if_pos ⟨by omega, by rw [List.length_append, hgl]; omega, rfl, h2⟩, hgl]
  congr 2
  omega
end Go.Fv.G

/- strconv.FormatInt in base 2. -/
namespace Go.Fv.G
open Go Go.Proofs
set_option linter.unusedSimpArgs false
set_option linter.unusedVariables false
set_option linter.unnecessarySimpa false
set_option maxRecDepth 8000

def bI (l : Bytes) : List Int := l.map fun c => (c.toNat : Int)
theorem bI_len (l : Bytes) : (bI l).length = l.length := List.length_map ..
theorem drop_at {L : List Int} {i : Nat} (h : i < L.length) : L.drop i = L.getD i 0 :: L.drop (i + 1) := by
  rw [List.drop_eq_getElem_cons h]; simp [List.getD, h]
theorem set_drop {L : List Int} {i : Nat} (h : i < L.length) (v : Int) : (L.set i v).drop i = v :: L.drop (i + 1) := by
  rw [drop_at (by simpa using h)]
  congr 1
  · simp [List.getD, h]
  · apply List.ext_getElem?
    intro j
    simp only [List.getElem?_drop, List.getElem?_set]
    rw [if_neg (by omega)]
theorem and1 (u : Nat) (hu : u < 18446744073709551616) : bitsI .and .u64 (u : Int) 1 = ((u % 2 : Nat) : Int) := by
  have h := bits_and_u64_nat u 1 hu (by decide)
  rw [Nat.and_one_is_mod] at h
  exact h
theorem bin_step {u : Nat} (h : 2 ≤ u) : binB u = binB (u / 2) ++ [digB u] := binB_ge (by omega)
theorem pow2_ok : FnOk Tryd.prog 83 [.int .i64 2] (.bool true) [] := by
  refine FnOk.of_vc Tryd.func83 rfl (by decide) (by simp [Tryd.f83]) [.tmp 2] rfl fun w0 T0 _ => ?_
  simp only [Tryd.f83, argEnv]
  have h0 : bitsI BinOp.and IntKind.i64 2 1 = 0 := by decide
  (repeat' first | with_reducible (first | intro _ | refine rc ?_ | refine rl ?_ | refine rh ?_ | refine ru ?_ | refine rt ?_ | refine rf ?_ | refine rs ?_ | refine And.intro ?_ ?_) | omega | simp (maxSteps := 1000000) only [go_sem, simprocAttr, ↓reduceIte, h0])
  refine Ret.auto 0 ?_ rfl ?_ <;> simp only [go_sem, reduceCtorEq, reduceIte, Nat.reduceEqDiff, Nat.reduceLT, Nat.reduceLeDiff, Int.natCast_succ, Post, h0]
theorem a65z : zeroOf Tryd.prog 112 = some (.agg (Array.replicate 65 (.int .u8 0))) := by kernel_rfl
theorem a65c : Tryd.prog.cellsOf 112 = 65 := by kernel_rfl
theorem dig_mod (u : Nat) : ([48, 49, 50, 51, 52, 53, 54, 55, 56, 57, 97, 98, 99, 100, 101, 102, 103, 104, 105, 106, 107, 108, 109, 110, 111, 112, 113, 114, 115, 116, 117, 118, 119, 120, 121, 122] : List UInt8).getD (u % 2) 0 = digB u := by
  have : u % 2 = 0 ∨ u % 2 = 1 := by omega
  unfold digB
  rcases this with e | e <;> rw [e] <;> rfl
theorem dig_lt {u : Nat} (h : u < 2) : ([48, 49, 50, 51, 52, 53, 54, 55, 56, 57, 97, 98, 99, 100, 101, 102, 103, 104, 105, 106, 107, 108, 109, 110, 111, 112, 113, 114, 115, 116, 117, 118, 119, 120, 121, 122] : List UInt8).getD u 0 = digB u := by
  have := dig_mod u
  rwa [Nat.mod_eq_of_lt h] at this
theorem shr1 (u : Nat) (hu : u < 18446744073709551616) : shrI .u64 (u : Int) 1 = ((u / 2 : Nat) : Int) := by
  unfold shrI
  rw [show (2 : Int) ^ (min (1 : Int).toNat IntKind.u64.bits) = 2 by rfl, Int.fdiv_eq_ediv_of_nonneg _ (by decide)]
  rfl
theorem bI_back (l : Bytes) : (bI l).map (fun n => UInt8.ofNat n.toNat) = l := by
  unfold bI
  rw [List.map_map]
  conv => rhs; rw [← List.map_id l]
  apply List.map_congr_left
  intro c _
  simp
structure FB where
  i : Nat
  u : Nat
  L : List Int
structure FBI (n : Nat) (x : FB) : Prop where
  l : x.L.length = 65
  i : x.i ≤ 65
  u : x.u ≤ 1048576
  s : ∃ sfx : Bytes, x.L.drop x.i = bI sfx ∧ binB x.u ++ sfx = binB n
set_option maxHeartbeats 2000000 in
theorem fmtBits_ok (n : Nat) (hn : n ≤ 1048576) :
    FnOk Tryd.prog 66 [.nilS, .int .u64 n, .int .i64 2, .bool false, .bool false] (.tup [.own 0, .str (binB n)]) [(0, .row 5 (.ints .u8 []))] := by
  have k1 := pow2_ok
  have k2 := tz2_ok
  refine FnOk.of_vc Tryd.func66 rfl (by decide) (by simp [Tryd.f66]) [.tmp 10, .tmp 11] rfl fun w0 T0 _ => ?_
  simp only [Tryd.f66, argEnv]
  (repeat' first | with_reducible (first | intro _ | refine rc ?_ | refine rl ?_ | refine rh ?_ | refine ru ?_ | refine rt ?_ | refine rf ?_ | refine rs ?_ | refine And.intro ?_ ?_) | omega | simp (maxSteps := 1000000) only [go_sem, simprocAttr, ↓reduceIte, a65z, a65c, Array.toList_replicate, forall_const, List.forall_mem_replicate])
  refine VcCall.k (k1) ?_
  (repeat' first | with_reducible (first | intro _ | refine rc ?_ | refine rl ?_ | refine rh ?_ | refine ru ?_ | refine rt ?_ | refine rf ?_ | refine rs ?_ | refine And.intro ?_ ?_) | omega | simp (maxSteps := 1000000) only [go_sem, simprocAttr, ↓reduceIte])
  refine VcCall.k (k2) ?_
  (repeat' first | with_reducible (first | intro _ | refine rc ?_ | refine rl ?_ | refine rh ?_ | refine ru ?_ | refine rt ?_ | refine rf ?_ | refine rs ?_ | refine And.intro ?_ ?_) | omega | simp (maxSteps := 1000000) only [go_sem, simprocAttr, ↓reduceIte])
  refine VcLoop.intro (fun x : FB => ⟨102, [(1, .int .u64 x.u), (2, .int .i64 2), (3, .bool false), (4, .bool false), (10, .own 0), (11, .str []), (12, .ptr 1 0), (13, .int .i64 x.i), (14, .int .u64 1), (15, .int .u64 2), (16, .int .u64 1)], [(0, .row 5 (.ints .u8 [])), (1, .box 112 (x.L.map (.int .u8)))], 2⟩) (FBI n) (fun x => x.u) ⟨65, n, List.replicate 65 0⟩ ?_ ⟨by simp, by dsimp only; omega, hn, [], by simp [bI], by simp⟩ fun x hI => ?_
  · refine Ent.auto0 rfl ?_ ?_ <;> simp only [go_sem, reduceCtorEq, reduceIte, Nat.reduceEqDiff, Nat.reduceLT, Nat.reduceLeDiff, Int.natCast_succ]
    all_goals rfl
  obtain ⟨i, u, L⟩ := x
  obtain ⟨hL, hi, hu, sfx, hs, hb⟩ := hI
  dsimp only at *
  have hsl : sfx.length = 65 - i := by
    have := congrArg List.length hs
    rw [List.length_drop, bI_len] at this; omega
  have hbl := congrArg List.length hb
  rw [List.length_append] at hbl
  have hnl := bin_len 20 n (by rw [show (2 : Nat) ^ (20 + 1) = 2097152 from rfl]; omega)
  have hup := bin_pos u
  have ha := and1 u (by omega)
  have hsh := shr1 u (by omega)
  have hdm := dig_mod u
  have hi1 : 1 ≤ i := by omega
  have hin : ((i : Int) - 1).toNat = i - 1 := by omega
  have hst : ∀ v : Int, (L.set (i - 1) v).drop (i - 1) = v :: L.drop i := fun v => by
    have := set_drop (L := L) (i := i - 1) (by omega) v
    rwa [show i - 1 + 1 = i by omega] at this
  (repeat' first | with_reducible (first | intro _ | refine rc ?_ | refine rl ?_ | refine rh ?_ | refine ru ?_ | refine rt ?_ | refine rf ?_ | refine rs ?_ | refine And.intro ?_ ?_) | omega | simp (maxSteps := 1000000) only [go_sem, simprocAttr, ↓reduceIte, ha])
  · rename_i h2
    have h2 : 2 ≤ u := by omega
    refine ⟨⟨i - 1, u / 2, L.set (i - 1) ((digB u).toNat : Int)⟩, Ent.auto0 rfl ?_ ?_, ⟨by simpa using hL, by dsimp only; omega, by dsimp only; omega, digB u :: sfx, by dsimp only; rw [hst, hs]; rfl, ?_⟩, by dsimp only; omega⟩
    · simp only [go_sem, reduceCtorEq, reduceIte, Nat.reduceEqDiff, Nat.reduceLT, Nat.reduceLeDiff, Int.natCast_succ, hsh, hdm, hin]
      omega
    · simp only [go_sem, reduceCtorEq, reduceIte, Nat.reduceEqDiff, Nat.reduceLT, Nat.reduceLeDiff, Int.natCast_succ, hsh, hdm, hin]
    · dsimp only
      rw [bin_step h2, List.append_assoc] at hb
      exact hb
  · rename_i h2
    have h2 : u < 2 := by omega
    have hbu : binB u = [digB u] := binB_lt h2
    have hdl := dig_lt h2
    have hr : List.map (fun n => UInt8.ofNat n.toNat) (((digB u).toNat : Int) :: L.drop i) = binB n := by
      rw [hs, ← hb, hbu]
      exact bI_back (digB u :: sfx)
    refine Ret.auto 1 ?_ rfl ?_ <;> simp only [go_sem, reduceCtorEq, reduceIte, Nat.reduceEqDiff, Nat.reduceLT, Nat.reduceLeDiff, Int.natCast_succ, Post, hdl, hin, hst, hr]
theorem fmtInt1_ok (n : Nat) (hn : n ≤ 1048576) : FnOk Tryd.prog 40 [.int .i64 n, .int .i64 2] (.str (binB n)) [] := by
  have k := fmtBits_ok n hn
  refine FnOk.of_vc Tryd.func40 rfl (by decide) (by simp [Tryd.f40]) [.tmp 4] rfl fun w0 T0 _ => ?_
  simp only [Tryd.f40, argEnv]
  have hz : decide ((n : Int) < 0) = false := by simp
  (repeat' first | with_reducible (first | intro _ | refine rc ?_ | refine rl ?_ | refine rh ?_ | refine ru ?_ | refine rt ?_ | refine rf ?_ | refine rs ?_ | refine And.intro ?_ ?_) | omega | simp (maxSteps := 1000000) only [go_sem, simprocAttr, ↓reduceIte, hz])
  refine VcCall.fr (FnFr.of_ok k rfl rfl) (by simp only [noIdR_ok, argOkL, argOk, allOk, argOkN, List.drop_zero, lk, reduceIte, reduceCtorEq, Nat.reduceEqDiff, Option.some.injEq, Item.row.injEq, Item.box.injEq, AV.ro.injEq, exists_eq_left, exists_and_left, exists_eq_left', exists_eq_right, and_assoc, and_true, true_and, List.cons.injEq, exists_eq', exists_eq, hz]; exact ⟨_, .inl rfl, rfl⟩) 1 rfl (by simp [rowsB, Item.below, belowR_ok]) ?_
  (repeat' first | with_reducible (first | intro _ | refine rc ?_ | refine rl ?_ | refine rh ?_ | refine ru ?_ | refine rt ?_ | refine rf ?_ | refine rs ?_ | refine And.intro ?_ ?_) | omega | simp (maxSteps := 1000000) only [go_sem, simprocAttr, ↓reduceIte, renR_ok])
  refine Ret.auto 0 ?_ rfl ?_ <;> simp only [go_sem, reduceCtorEq, reduceIte, Nat.reduceEqDiff, Nat.reduceLT, Nat.reduceLeDiff, Int.natCast_succ, Post]
theorem fmtInt_ok (n : Nat) (hn : n ≤ 1048576) : FnOk Tryd.prog 19 [.int .i64 n, .int .i64 2] (.str (binB n)) [] := by
  have k := fmtInt1_ok n hn
  refine FnOk.of_vc Tryd.func19 rfl (by decide) (by simp [Tryd.f19]) [.tmp 4] rfl fun w0 T0 _ => ?_
  simp only [Tryd.f19, argEnv]
  (repeat' first | with_reducible (first | intro _ | refine rc ?_ | refine rl ?_ | refine rh ?_ | refine ru ?_ | refine rt ?_ | refine rf ?_ | refine rs ?_ | refine And.intro ?_ ?_) | omega | simp (maxSteps := 1000000) only [go_sem, simprocAttr, ↓reduceIte])
  refine VcCall.k (k) ?_
  (repeat' first | with_reducible (first | intro _ | refine rc ?_ | refine rl ?_ | refine rh ?_ | refine ru ?_ | refine rt ?_ | refine rf ?_ | refine rs ?_ | refine And.intro ?_ ?_) | omega | simp (maxSteps := 1000000) only [go_sem, simprocAttr, ↓reduceIte])
  refine Ret.auto 0 ?_ rfl ?_ <;> simp only [go_sem, reduceCtorEq, reduceIte, Nat.reduceEqDiff, Nat.reduceLT, Nat.reduceLeDiff, Int.natCast_succ, Post]
end Go.Fv.G

/- strings.HasPrefix. -/
namespace Go.Fv.G
open Go Go.Proofs
set_option linter.unusedSimpArgs false
set_option linter.unusedVariables false
set_option linter.unnecessarySimpa false
set_option maxRecDepth 8000

theorem take_prefix (s p : List UInt8) : decide ((p.length : Int) ≤ (s.length : Int) ∧ s.take p.length = p) = p.isPrefixOf s := by
  rw [Bool.eq_iff_iff, decide_eq_true_eq, List.isPrefixOf_iff_prefix]
  constructor
  · rintro ⟨_, h⟩; exact List.prefix_iff_eq_take.2 h.symm
  · intro h; exact ⟨by have := h.length_le; omega, (List.prefix_iff_eq_take.1 h).symm⟩
theorem hasPrefix0_ok (s p : List UInt8) : FnOk Tryd.prog 53 [.str s, .str p] (.bool (p.isPrefixOf s)) [] := by
  rw [← take_prefix]
  refine FnOk.of_vc Tryd.func53 rfl (by decide) (by simp [Tryd.f53]) [.tmp 4] rfl fun w0 T0 _ => ?_
  simp only [Tryd.f53, argEnv]
  (repeat' first | with_reducible (first | intro _ | refine rc ?_ | refine rl ?_ | refine rh ?_ | refine ru ?_ | refine rt ?_ | refine rf ?_ | refine rs ?_ | refine And.intro ?_ ?_) | omega | simp (maxSteps := 1000000) only [go_sem, simprocAttr, ↓reduceIte, Nat.sub_zero, List.drop_zero, Int.toNat_natCast, Int.toNat_zero])
  refine Ret.auto 0 ?_ rfl ?_ <;> simp only [go_sem, reduceCtorEq, reduceIte, Nat.reduceEqDiff, Nat.reduceLT, Nat.reduceLeDiff, Int.natCast_succ, Post]
theorem hasPrefix_ok (s p : List UInt8) : FnOk Tryd.prog 28 [.str s, .str p] (.bool (p.isPrefixOf s)) [] := by
  have k := hasPrefix0_ok s p
  refine FnOk.of_vc Tryd.func28 rfl (by decide) (by simp [Tryd.f28]) [.tmp 4] rfl fun w0 T0 _ => ?_
  simp only [Tryd.f28, argEnv]
  (repeat' first | with_reducible (first | intro _ | refine rc ?_ | refine rl ?_ | refine rh ?_ | refine ru ?_ | refine rt ?_ | refine rf ?_ | refine rs ?_ | refine And.intro ?_ ?_) | omega | simp (maxSteps := 1000000) only [go_sem, simprocAttr, ↓reduceIte])
  refine VcCall.k k ?_
  (repeat' first | with_reducible (first | intro _ | refine rc ?_ | refine rl ?_ | refine rh ?_ | refine ru ?_ | refine rt ?_ | refine rf ?_ | refine rs ?_ | refine And.intro ?_ ?_) | omega | simp (maxSteps := 1000000) only [go_sem, simprocAttr, ↓reduceIte])
  refine Ret.auto 0 ?_ rfl ?_ <;> simp only [go_sem, reduceCtorEq, reduceIte, Nat.reduceEqDiff, Nat.reduceLT, Nat.reduceLeDiff, Int.natCast_succ, Post]
end Go.Fv.G

/- strings.Repeat of a zero, up to twenty times. -/
namespace Go.Proofs
open Go.Shelf
def Tryd.lays212_ren : Go.Shelf.Ren := ⟨fun | 212 => 41 | 263 => 67 | 264 => 68 | n => n, fun | 46 => 64 | 51 => 97 | 146 => 98 | 53 => 86 | 148 => 100 | n => n, fun | n => n⟩
theorem Tryd.lays212 : Go.Proofs.Lays.n212 Tryd.prog Tryd.lays212_ren := {
  mixed := by kernel_rfl
  f212 := Tryd.func41.trans (congrArg some (by kernel_rfl))
  f263 := Tryd.func67.trans (congrArg some (by kernel_rfl))
  f264 := Tryd.func68.trans (congrArg some (by kernel_rfl))
  t46 := Tryd.underlying64
  a46 := Tryd.isAgg64
  z46 := Tryd.sizeOf64
  v46 := Tryd.zeroValue64
  t51 := Tryd.underlying97
  a51 := Tryd.isAgg97
  z51 := Tryd.sizeOf97
  v51 := Tryd.zeroValue97
  t53 := Tryd.underlying86
  a53 := Tryd.isAgg86
  z53 := Tryd.sizeOf86
  v53 := Tryd.zeroValue86
  t146 := Tryd.underlying98
  a146 := Tryd.isAgg98
  z146 := Tryd.sizeOf98
  v146 := Tryd.zeroValue98
  t148 := Tryd.underlying100
  a148 := Tryd.isAgg100
  z148 := Tryd.sizeOf100
  v148 := Tryd.zeroValue100 }
end Go.Proofs
namespace Go.Fv.G
open Go Go.Proofs
set_option linter.unusedSimpArgs false
set_option linter.unusedVariables false
set_option linter.unnecessarySimpa false
set_option maxRecDepth 8000

theorem mul1_ok (k : Nat) (hk : k ≤ 1000) : FnOk Tryd.prog 41 [.int .u64 1, .int .u64 k] (.tup [.int .u64 0, .int .u64 k]) [] := by
  refine ⟨⟨_, Tryd.func41, by kernel_rfl, by kernel_rfl⟩, fun w T vals hg hv => ?_⟩
  cases hv with
  | cons _ _ _ _ h1 hv => cases hv with
    | cons _ _ _ _ h2 hv =>
      cases hv
      cases h1 with
      | int _ _ e1 => cases h2 with
        | int _ _ e2 =>
          refine (Any.bits_Mul Tryd.lays212 1 k (by omega) (by omega) w).mono ?_
          rintro e w' ⟨rfl, rfl⟩
          refine ⟨_, rfl, BelowD.refl _ _, fun _ => undef, 0, ?_, ?_, ?_⟩
          · rw [Nat.one_mul, show k / 18446744073709551616 = 0 by omega, Nat.mod_eq_of_lt (by omega : k < 18446744073709551616)]
            exact .tup _ [_, _] (.cons _ _ _ _ (.int _ _ (InK_u64.2 (by omega))) (.cons _ _ _ _ (.int _ _ (InK_u64.2 (by omega))) .nil))
          · intro i it h; cases h
          · intro i j it jt b h; cases h
theorem zeros_take (k : Nat) (h : k ≤ 64) : (List.replicate 64 (48 : UInt8)).take k = List.replicate k 48 := by rw [List.take_replicate, Nat.min_eq_left h]
theorem pre32 (l r : List UInt8) : ([48] : List UInt8).isPrefixOf ((32 :: l).append r) = false := rfl
theorem pre45 (l r : List UInt8) : ([48] : List UInt8).isPrefixOf ((45 :: l).append r) = false := rfl
theorem pre48 (l : List UInt8) : ([48] : List UInt8).isPrefixOf (48 :: l) = true := rfl
set_option maxHeartbeats 4000000 in
theorem repZ_ok (k : Nat) (hk : k ≤ 20) : FnOk Tryd.prog 20 [.str [48], .int .i64 k] (.str (List.replicate k 48)) [] := by
  have km := mul1_ok k (by omega)
  refine FnOk.of_vc Tryd.func20 rfl (by decide) (by simp [Tryd.f20]) [.tmp 4] rfl fun w0 T0 _ => ?_
  simp only [Tryd.f20, argEnv]
  by_cases h0 : k = 0
  · subst h0
    (repeat' first | with_reducible (first | intro _ | refine rc ?_ | refine rl ?_ | refine rh ?_ | refine ru ?_ | refine rt ?_ | refine rf ?_ | refine rs ?_ | refine And.intro ?_ ?_) | omega | simp (maxSteps := 1000000) only [go_sem, simprocAttr, ↓reduceIte])
    refine Ret.auto 0 ?_ rfl ?_ <;> simp only [go_sem, reduceCtorEq, reduceIte, Nat.reduceEqDiff, Nat.reduceLT, Nat.reduceLeDiff, Int.natCast_succ, Post]
  by_cases h1 : k = 1
  · subst h1
    (repeat' first | with_reducible (first | intro _ | refine rc ?_ | refine rl ?_ | refine rh ?_ | refine ru ?_ | refine rt ?_ | refine rf ?_ | refine rs ?_ | refine And.intro ?_ ?_) | omega | simp (maxSteps := 1000000) only [go_sem, simprocAttr, ↓reduceIte])
    refine Ret.auto 0 ?_ rfl ?_ <;> simp only [go_sem, reduceCtorEq, reduceIte, Nat.reduceEqDiff, Nat.reduceLT, Nat.reduceLeDiff, Int.natCast_succ, Post]
  have hg : ((([48] : List UInt8).getD 0 0).toNat : Int) = 48 := rfl
  have b1 : ((k : Int) ≤ 128) = True := eq_true (by omega)
  have b2 : ((k : Int) ≤ 64) = True := eq_true (by omega)
  have b3 : (9223372036854775807 < (k : Int)) = False := eq_false (by omega)
  have b4 : ((k : Int) < 0) = False := eq_false (by omega)
  have b5 : ((k : Int) = 0) = False := eq_false (by omega)
  have b6 : ((k : Int) = 1) = False := eq_false (by omega)
  (repeat' first | with_reducible (first | intro _ | refine rc ?_ | refine rl ?_ | refine rh ?_ | refine ru ?_ | refine rt ?_ | refine rf ?_ | refine rs ?_ | refine And.intro ?_ ?_) | omega | simp (maxSteps := 1000000) only [go_sem, simprocAttr, ↓reduceIte, b3, b4, b5, b6])
  refine VcCall.k (km) ?_
  (repeat' first | with_reducible (first | intro _ | refine rc ?_ | refine rl ?_ | refine rh ?_ | refine ru ?_ | refine rt ?_ | refine rf ?_ | refine rs ?_ | refine And.intro ?_ ?_) | omega | simp (maxSteps := 1000000) only [go_sem, simprocAttr, ↓reduceIte, hg, b1, b2, b3])
  refine VcCall.k (hasPrefix_ok _ [48]) ?_ rfl rfl ⟨_, _, rfl, ⟨_, _, rfl, rfl, rfl⟩, rfl⟩
  (repeat' first | with_reducible (first | intro _ | refine rc ?_ | refine rl ?_ | refine rh ?_ | refine ru ?_ | refine rt ?_ | refine rf ?_ | refine rs ?_ | refine And.intro ?_ ?_) | omega | simp (maxSteps := 1000000) only [go_sem, simprocAttr, ↓reduceIte, hg, b1, b2, b3, pre32])
  refine VcCall.k (hasPrefix_ok _ [48]) ?_ rfl rfl ⟨_, _, rfl, ⟨_, _, rfl, rfl, rfl⟩, rfl⟩
  (repeat' first | with_reducible (first | intro _ | refine rc ?_ | refine rl ?_ | refine rh ?_ | refine ru ?_ | refine rt ?_ | refine rf ?_ | refine rs ?_ | refine And.intro ?_ ?_) | omega | simp (maxSteps := 1000000) only [go_sem, simprocAttr, ↓reduceIte, hg, b1, b2, b3, pre45])
  refine VcCall.k (hasPrefix_ok _ [48]) ?_ rfl rfl ⟨_, _, rfl, ⟨_, _, rfl, rfl, rfl⟩, rfl⟩
  (repeat' first | with_reducible (first | intro _ | refine rc ?_ | refine rl ?_ | refine rh ?_ | refine ru ?_ | refine rt ?_ | refine rf ?_ | refine rs ?_ | refine And.intro ?_ ?_) | omega | simp (maxSteps := 1000000) only [go_sem, simprocAttr, ↓reduceIte, hg, b1, b2, b3, pre48])
  refine Ret.auto 0 ?_ rfl ?_ <;> simp only [go_sem, reduceCtorEq, reduceIte, Nat.reduceEqDiff, Nat.reduceLT, Nat.reduceLeDiff, Int.natCast_succ, Post]
  exact zeros_take k (by omega)
end Go.Fv.G

/- Writing numbers: the walk. -/
namespace Go.Fv.G
open Go Go.Proofs
set_option linter.unusedSimpArgs false
set_option linter.unusedVariables false
set_option linter.unnecessarySimpa false
set_option maxRecDepth 8000

theorem gamma_ok (n : Nat) (hn : n ≤ 1048576) : FnOk Tryd.prog 16 [.int .i64 n] (.str (gamB n)) [] := by
  have k1 := fmtInt_ok n hn
  have hl := bin_len 20 n (by rw [show (2 : Nat) ^ (20 + 1) = 2097152 from rfl]; omega)
  have hp := bin_pos n
  have k2 := repZ_ok ((binB n).length - 1) (by omega)
  have e : (((binB n).length - 1 : Nat) : Int) = ((binB n).length : Int) - 1 := by omega
  rw [e] at k2
  refine FnOk.of_vc Tryd.func16 rfl (by decide) (by simp [Tryd.f16]) [.tmp 2] rfl fun w0 T0 _ => ?_
  simp only [Tryd.f16, argEnv]
  (repeat' first | with_reducible (first | intro _ | refine rc ?_ | refine rl ?_ | refine rh ?_ | refine ru ?_ | refine rt ?_ | refine rf ?_ | refine rs ?_ | refine And.intro ?_ ?_) | omega | simp (maxSteps := 1000000) only [go_sem, simprocAttr, ↓reduceIte])
  refine VcCall.k (k1) ?_
  (repeat' first | with_reducible (first | intro _ | refine rc ?_ | refine rl ?_ | refine rh ?_ | refine ru ?_ | refine rt ?_ | refine rf ?_ | refine rs ?_ | refine And.intro ?_ ?_) | omega | simp (maxSteps := 1000000) only [go_sem, simprocAttr, ↓reduceIte])
  refine VcCall.k (k2) ?_
  (repeat' first | with_reducible (first | intro _ | refine rc ?_ | refine rl ?_ | refine rh ?_ | refine ru ?_ | refine rt ?_ | refine rf ?_ | refine rs ?_ | refine And.intro ?_ ?_) | omega | simp (maxSteps := 1000000) only [go_sem, simprocAttr, ↓reduceIte, List.length_append, List.length_replicate])
  refine Ret.auto 0 ?_ rfl ?_ <;> simp only [go_sem, reduceCtorEq, reduceIte, Nat.reduceEqDiff, Nat.reduceLT, Nat.reduceLeDiff, Int.natCast_succ, Post, gamB]
theorem refGamma_ok (n : Nat) (hn : n ≤ 1048576) : FnOk Tryd.prog 8 [.int .i64 n] (.str (gamB n)) [] := by
  have k1 := fmtInt_ok n hn
  have hl := bin_len 20 n (by rw [show (2 : Nat) ^ (20 + 1) = 2097152 from rfl]; omega)
  have hp := bin_pos n
  have k2 := repZ_ok ((binB n).length - 1) (by omega)
  have e : (((binB n).length - 1 : Nat) : Int) = ((binB n).length : Int) - 1 := by omega
  rw [e] at k2
  refine FnOk.of_vc Tryd.func8 rfl (by decide) (by simp [Tryd.f8]) [.tmp 2] rfl fun w0 T0 _ => ?_
  simp only [Tryd.f8, argEnv]
  (repeat' first | with_reducible (first | intro _ | refine rc ?_ | refine rl ?_ | refine rh ?_ | refine ru ?_ | refine rt ?_ | refine rf ?_ | refine rs ?_ | refine And.intro ?_ ?_) | omega | simp (maxSteps := 1000000) only [go_sem, simprocAttr, ↓reduceIte])
  refine VcCall.k (k1) ?_
  (repeat' first | with_reducible (first | intro _ | refine rc ?_ | refine rl ?_ | refine rh ?_ | refine ru ?_ | refine rt ?_ | refine rf ?_ | refine rs ?_ | refine And.intro ?_ ?_) | omega | simp (maxSteps := 1000000) only [go_sem, simprocAttr, ↓reduceIte])
  refine VcCall.k (k2) ?_
  (repeat' first | with_reducible (first | intro _ | refine rc ?_ | refine rl ?_ | refine rh ?_ | refine ru ?_ | refine rt ?_ | refine rf ?_ | refine rs ?_ | refine And.intro ?_ ?_) | omega | simp (maxSteps := 1000000) only [go_sem, simprocAttr, ↓reduceIte, List.length_append, List.length_replicate])
  refine Ret.auto 0 ?_ rfl ?_ <;> simp only [go_sem, reduceCtorEq, reduceIte, Nat.reduceEqDiff, Nat.reduceLT, Nat.reduceLeDiff, Int.natCast_succ, Post, gamB]
theorem gammaE_ok (n : Int) : FnOk Tryd.prog 6 [.int .i64 n] (.tup [.str (if 1 ≤ n ∧ n ≤ 1048576 then gamB n.toNat else []), .int .i64 (if 1 ≤ n ∧ n ≤ 1048576 then 0 else 3)]) [] := by
  by_cases h : 1 ≤ n ∧ n ≤ 1048576
  · obtain ⟨m, rfl⟩ : ∃ m : Nat, n = m := ⟨n.toNat, by omega⟩
    have k := gamma_ok m (by omega)
    rw [if_pos h, if_pos h, Int.toNat_natCast]
    refine FnOk.of_vc Tryd.func6 rfl (by decide) (by simp [Tryd.f6]) [.tmp 2, .tmp 3] rfl fun w0 T0 _ => ?_
    simp only [Tryd.f6, argEnv]
    have b1 : ((m : Int) < 1) = False := eq_false (by omega)
    have b2 : (1048576 < (m : Int)) = False := eq_false (by omega)
    (repeat' first | with_reducible (first | intro _ | refine rc ?_ | refine rl ?_ | refine rh ?_ | refine ru ?_ | refine rt ?_ | refine rf ?_ | refine rs ?_ | refine And.intro ?_ ?_) | omega | simp (maxSteps := 1000000) only [go_sem, simprocAttr, ↓reduceIte, b1, b2])
    refine VcCall.k (k) ?_
    (repeat' first | with_reducible (first | intro _ | refine rc ?_ | refine rl ?_ | refine rh ?_ | refine ru ?_ | refine rt ?_ | refine rf ?_ | refine rs ?_ | refine And.intro ?_ ?_) | omega | simp (maxSteps := 1000000) only [go_sem, simprocAttr, ↓reduceIte])
    refine Ret.auto 0 ?_ rfl ?_ <;> simp only [go_sem, reduceCtorEq, reduceIte, Nat.reduceEqDiff, Nat.reduceLT, Nat.reduceLeDiff, Int.natCast_succ, Post]
  · rw [if_neg h, if_neg h]
    refine FnOk.of_vc Tryd.func6 rfl (by decide) (by simp [Tryd.f6]) [.tmp 2, .tmp 3] rfl fun w0 T0 _ => ?_
    simp only [Tryd.f6, argEnv]
    (repeat' first | with_reducible (first | intro _ | refine rc ?_ | refine rl ?_ | refine rh ?_ | refine ru ?_ | refine rt ?_ | refine rf ?_ | refine rs ?_ | refine And.intro ?_ ?_) | omega | simp (maxSteps := 1000000) only [go_sem, simprocAttr, ↓reduceIte])
    all_goals first | omega | (refine Ret.auto 0 ?_ rfl ?_ <;> simp only [go_sem, reduceCtorEq, reduceIte, Nat.reduceEqDiff, Nat.reduceLT, Nat.reduceLeDiff, Int.natCast_succ, Post])
end Go.Fv.G

/- Reading a number, step by step. -/
namespace Go.Fv.G
open Go
set_option linter.unusedSimpArgs false
set_option linter.unusedVariables false
set_option linter.unnecessarySimpa false

theorem lead_cons (c : UInt8) (s : Bytes) : leadB (c :: s) = if c = 48 then leadB s + 1 else 0 := by
  unfold leadB
  rw [List.takeWhile_cons]
  by_cases h : c = 48
  · rw [if_pos h, if_pos (by simp [zer, h]), List.length_cons]
  · rw [if_neg h, if_neg (by simp [zer, h])]; rfl
theorem lead_le : ∀ s : Bytes, leadB s ≤ s.length
  | [] => Nat.le_refl _
  | c :: s => by
    have := lead_le s
    rw [lead_cons, List.length_cons]; split <;> omega
theorem lead_at : ∀ (s : Bytes) (i : Nat), i < leadB s → s.getD i 0 = 48
  | [], i, h => by cases h
  | c :: s, i, h => by
    rw [lead_cons] at h
    split at h
    · rename_i hc
      cases i with
      | zero => simpa using hc
      | succ i => simpa using lead_at s i (by omega)
    · omega
theorem lead_stop : ∀ s : Bytes, leadB s < s.length → s.getD (leadB s) 0 ≠ 48
  | [], h => by cases h
  | c :: s, h => by
    rw [lead_cons] at h ⊢
    split
    · rename_i hc
      rw [if_pos hc, List.length_cons] at h
      simpa using lead_stop s (by omega)
    · rename_i hc
      simpa using hc
theorem lead_mem {s : Bytes} (h : 2 * leadB s + 1 ≤ s.length) : ((s.drop (leadB s)).take (leadB s + 1)).length = leadB s + 1 ∧ ((s.drop (leadB s)).take (leadB s + 1)).getD 0 0 = s.getD (leadB s) 0 := by
  refine ⟨by rw [List.length_take, List.length_drop]; omega, ?_⟩
  rw [List.getD_eq_getElem?_getD, List.getElem?_take, if_pos (by omega), List.getElem?_drop, List.getD_eq_getElem?_getD, Nat.add_zero]
theorem d01 {c : UInt8} (h : is01 c = true) : c.toNat - 48 ≤ 1 := by
  have h3 : c = 48 ∨ c = 49 := by simpa [is01] using h
  rcases h3 with rfl | rfl <;> decide
theorem valF_lt : ∀ (l : Bytes) (a : Nat), l.all is01 = true → l.foldl (fun a c => 2 * a + (c.toNat - 48)) a + 1 ≤ (a + 1) * 2 ^ l.length
  | [], a, _ => by simp
  | c :: l, a, h => by
    rw [List.all_cons, Bool.and_eq_true] at h
    have h1 := d01 h.1
    have h2 := valF_lt l (2 * a + (c.toNat - 48)) h.2
    rw [List.foldl_cons, List.length_cons, Nat.pow_succ]
    have h3 : (2 * a + (c.toNat - 48) + 1) * 2 ^ l.length ≤ (2 * (a + 1)) * 2 ^ l.length := Nat.mul_le_mul_right _ (by omega)
    have h4 : 2 * (a + 1) * 2 ^ l.length = (a + 1) * (2 ^ l.length * 2) := by rw [Nat.mul_comm 2, Nat.mul_assoc, Nat.mul_comm 2]
    omega
theorem valB_lt (l : Bytes) (h : l.all is01 = true) : valB l < 2 ^ l.length := by
  have := valF_lt l 0 h
  unfold valB
  omega
theorem valB_take {l : Bytes} {p : Nat} (h : p < l.length) : valB (l.take (p + 1)) = 2 * valB (l.take p) + ((l.getD p 0).toNat - 48) := by
  rw [List.take_succ_eq_append_getElem h, valB_snoc]
  simp [List.getD, h]
theorem all_take {l : Bytes} {p : Nat} (h : p < l.length) : (l.take (p + 1)).all is01 = ((l.take p).all is01 && is01 (l.getD p 0)) := by
  rw [List.take_succ_eq_append_getElem h, List.all_append]
  simp [List.getD, h]
theorem all_at {l : Bytes} {p : Nat} (h : p < l.length) (ha : l.all is01 = true) : l.getD p 0 = 48 ∨ l.getD p 0 = 49 := by
  have := List.all_eq_true.1 ha (l.getD p 0) (by simp [List.getD, h])
  simpa [is01] using this
theorem is01_n (c : UInt8) : is01 c = decide (c.toNat = 48 ∨ c.toNat = 49) := by
  unfold is01
  have e1 : c = 48 ↔ c.toNat = 48 := UInt8.toNat_inj.symm
  have e2 : c = 49 ↔ c.toNat = 49 := UInt8.toNat_inj.symm
  simp only [e1, e2]
theorem valB_one {c : UInt8} {l : Bytes} (h : (c :: l).getD 0 0 = 49) : 1 ≤ valB (c :: l) := by
  have hc : c = 49 := by simpa using h
  subst hc
  have hm : ∀ (l : Bytes) (a : Nat), 1 ≤ a → 1 ≤ l.foldl (fun a c => 2 * a + (c.toNat - 48)) a := by
    intro l
    induction l with
    | nil => intro a h; exact h
    | cons d l ih => intro a h; rw [List.foldl_cons]; exact ih _ (by omega)
  exact hm l _ (by decide)
/-- What cannot be read. -/
theorem rdG_none {s : Bytes} (h : ¬ (leadB s ≤ 20 ∧ 2 * leadB s + 1 ≤ s.length ∧ ((s.drop (leadB s)).take (leadB s + 1)).all is01 = true ∧ valB ((s.drop (leadB s)).take (leadB s + 1)) ≤ 1048576)) : rdG s = none := by
  unfold rdG; rw [if_neg h]
theorem rdG_some {s : Bytes} (h : leadB s ≤ 20 ∧ 2 * leadB s + 1 ≤ s.length ∧ ((s.drop (leadB s)).take (leadB s + 1)).all is01 = true ∧ valB ((s.drop (leadB s)).take (leadB s + 1)) ≤ 1048576) :
    rdG s = some (valB ((s.drop (leadB s)).take (leadB s + 1)), 2 * leadB s + 1) := by
  unfold rdG; rw [if_pos h]
/-- The three that come back. -/
def rdN (s : Bytes) : Int := match rdG s with | some (n, _) => n | none => 0
def rdL (s : Bytes) : Int := match rdG s with | some (_, m) => m | none => 0
def rdE (e : Int) (s : Bytes) : Int := match rdG s with | some _ => 0 | none => e
end Go.Fv.G

/- strconv.ParseInt in base 2. -/
namespace Go.Fv.G
open Go Go.Proofs
set_option linter.unusedSimpArgs false
set_option linter.unusedVariables false
set_option linter.unnecessarySimpa false
set_option maxRecDepth 8000

theorem bIs_len (l : Bytes) : (byteInts l).length = l.length := by unfold byteInts; rw [List.length_map]
theorem bIs_get {b : Bytes} {i : Nat} (h : i < b.length) : (byteInts b).getD i 0 = ((b.getD i 0).toNat : Int) := by
  unfold byteInts
  simp [List.getD, h]
set_option maxHeartbeats 4000000 in
theorem parseU_ok (l : Bytes) (h1 : l.all is01 = true) (h0 : l ≠ []) (hl : l.length ≤ 21) :
    FnOk Tryd.prog 58 [.str l, .int .i64 2, .int .i64 64] (.tup [.int .u64 (valB l), .raw .nilIface]) [] := by
  have hv := valB_lt l h1
  refine FnOk.of_vc Tryd.func58 rfl (by decide) (by simp [Tryd.f58]) [.tmp 6, .tmp 7] rfl fun w0 T0 _ => ?_
  simp only [Tryd.f58, argEnv]
  (repeat' first | with_reducible (first | intro _ | refine rc ?_ | refine rl ?_ | refine rh ?_ | refine ru ?_ | refine rt ?_ | refine rf ?_ | refine rs ?_ | refine And.intro ?_ ?_) | omega | simp (maxSteps := 1000000) only [go_sem, simprocAttr, ↓reduceIte, h0])
  refine LetW.at 0 (by decide) ?_
  refine LetW.at 18446744073709551615 (by decide) ?_
  (repeat' first | with_reducible (first | intro _ | refine rc ?_ | refine rl ?_ | refine rh ?_ | refine ru ?_ | refine rt ?_ | refine rf ?_ | refine rs ?_ | refine And.intro ?_ ?_) | omega | simp (maxSteps := 1000000) only [go_sem, simprocAttr, ↓reduceIte])
  have hbl := bIs_len l
  refine VcLoop.intro (fun i : Nat => ⟨172, [(101, .int .i64 i), (100, .int .i64 l.length), (99, .own 0), (13, .int .u64 (valB (l.take i))), (12, .bool false), (11, .int .u64 18446744073709551615), (10, .int .u64 9223372036854775808), (9, .str l), (8, .bool false), (0, .str l), (1, .int .i64 2), (2, .int .i64 64)], [(0, .row 5 (.ints .u8 (byteInts l)))], 1⟩) (fun i => i ≤ l.length) (fun i => l.length - i) 0 ?_ (Nat.zero_le _) fun i hi => ?_
  · refine Ent.auto0 rfl ?_ ?_ <;> simp only [go_sem, reduceCtorEq, reduceIte, Nat.reduceEqDiff, Nat.reduceLT, Nat.reduceLeDiff, Int.natCast_succ, hbl]
    rfl
  have hcut : l.take l.length = l := List.take_length
  by_cases hlt : i < l.length
  · have hb : (byteInts l).getD i 0 = ((l.getD i 0).toNat : Int) := bIs_get hlt
    have hs := valB_take hlt
    have ha := all_at hlt h1
    have hv2 := valB_lt (l.take (i + 1)) (by rw [List.all_eq_true] at h1 ⊢; intro x hx; exact h1 x (List.mem_of_mem_take hx))
    have hp : (2 : Nat) ^ (l.take (i + 1)).length ≤ 2 ^ 21 := Nat.pow_le_pow_right (by decide) (by rw [List.length_take]; omega)
    rw [show (2 : Nat) ^ 21 = 2097152 from rfl] at hp
    have hc : (l.getD i 0).toNat = 48 ∨ (l.getD i 0).toNat = 49 := by rcases ha with e | e <;> rw [e] <;> decide
    generalize l.getD i 0 = c at *
    generalize valB (l.take i) = v at *
    have hcc : ((c.toNat : Nat) : Int) - 48 = ((c.toNat - 48 : Nat) : Int) := by omega
    generalize c.toNat = cn at *
    have f1 : ((cn : Int) = 95) = False := eq_false (by omega)
    have f2 : (48 ≤ (cn : Int)) = True := eq_true (by omega)
    have f3 : ((cn : Int) ≤ 57) = True := eq_true (by omega)
    (repeat' first | with_reducible (first | intro _ | refine rc ?_ | refine rl ?_ | refine rh ?_ | refine ru ?_ | refine rt ?_ | refine rf ?_ | refine rs ?_ | refine And.intro ?_ ?_) | omega | simp (maxSteps := 1000000) only [go_sem, simprocAttr, ↓reduceIte, hb, hbl, f1, f2, f3])
    refine ⟨i + 1, Ent.auto0 rfl ?_ ?_, by omega, by omega⟩ <;> simp only [go_sem, reduceCtorEq, reduceIte, Nat.reduceEqDiff, Nat.reduceLT, Nat.reduceLeDiff, Int.natCast_succ, hs]
    all_goals omega
  · have e : i = l.length := by omega
    subst e
    rw [hcut]
    (repeat' first | with_reducible (first | intro _ | refine rc ?_ | refine rl ?_ | refine rh ?_ | refine ru ?_ | refine rt ?_ | refine rf ?_ | refine rs ?_ | refine And.intro ?_ ?_) | omega | simp (maxSteps := 1000000) only [go_sem, simprocAttr, ↓reduceIte, hbl])
    refine Ret.auto 0 ?_ rfl ?_ <;> simp only [go_sem, reduceCtorEq, reduceIte, Nat.reduceEqDiff, Nat.reduceLT, Nat.reduceLeDiff, Int.natCast_succ, Post]
theorem parse0_ok (l : Bytes) (h1 : l.all is01 = true) (h0 : l ≠ []) (hl : l.length ≤ 21) :
    FnOk Tryd.prog 38 [.str l, .int .i64 2, .int .i64 64] (.tup [.int .i64 (valB l), .raw .nilIface]) [] := by
  have k := parseU_ok l h1 h0 hl
  have hv := valB_lt l h1
  have hp : (2 : Nat) ^ l.length ≤ 2 ^ 21 := Nat.pow_le_pow_right (by decide) hl
  rw [show (2 : Nat) ^ 21 = 2097152 from rfl] at hp
  have hlen : 0 < l.length := List.length_pos_iff.2 h0
  have ha := all_at hlen h1
  have hc : (l.getD 0 0).toNat = 48 ∨ (l.getD 0 0).toNat = 49 := by rcases ha with e | e <;> rw [e] <;> decide
  generalize valB l = v at *
  have f1 : (((l.getD 0 0).toNat : Int) = 43) = False := eq_false (by omega)
  have f2 : (((l.getD 0 0).toNat : Int) = 45) = False := eq_false (by omega)
  refine FnOk.of_vc Tryd.func38 rfl (by decide) (by simp [Tryd.f38]) [.tmp 6, .tmp 7] rfl fun w0 T0 _ => ?_
  simp only [Tryd.f38, argEnv]
  (repeat' first | with_reducible (first | intro _ | refine rc ?_ | refine rl ?_ | refine rh ?_ | refine ru ?_ | refine rt ?_ | refine rf ?_ | refine rs ?_ | refine And.intro ?_ ?_) | omega | simp (maxSteps := 1000000) only [go_sem, simprocAttr, ↓reduceIte, h0, f1, f2])
  refine VcCall.k (k) ?_
  (repeat' first | with_reducible (first | intro _ | refine rc ?_ | refine rl ?_ | refine rh ?_ | refine ru ?_ | refine rt ?_ | refine rf ?_ | refine rs ?_ | refine And.intro ?_ ?_) | omega | simp (maxSteps := 1000000) only [go_sem, simprocAttr, ↓reduceIte])
  refine LetW.at 9223372036854775808 (by decide) ?_
  (repeat' first | with_reducible (first | intro _ | refine rc ?_ | refine rl ?_ | refine rh ?_ | refine ru ?_ | refine rt ?_ | refine rf ?_ | refine rs ?_ | refine And.intro ?_ ?_) | omega | simp (maxSteps := 1000000) only [go_sem, simprocAttr, ↓reduceIte])
  refine Ret.auto 0 ?_ rfl ?_ <;> simp only [go_sem, reduceCtorEq, reduceIte, Nat.reduceEqDiff, Nat.reduceLT, Nat.reduceLeDiff, Int.natCast_succ, Post]
theorem parseI_ok (l : Bytes) (h1 : l.all is01 = true) (h0 : l ≠ []) (hl : l.length ≤ 21) :
    FnOk Tryd.prog 18 [.str l, .int .i64 2, .int .i64 64] (.tup [.int .i64 (valB l), .raw .nilIface]) [] := by
  have k := parse0_ok l h1 h0 hl
  refine FnOk.of_vc Tryd.func18 rfl (by decide) (by simp [Tryd.f18]) [.tmp 6, .tmp 7] rfl fun w0 T0 _ => ?_
  simp only [Tryd.f18, argEnv]
  (repeat' first | with_reducible (first | intro _ | refine rc ?_ | refine rl ?_ | refine rh ?_ | refine ru ?_ | refine rt ?_ | refine rf ?_ | refine rs ?_ | refine And.intro ?_ ?_) | omega | simp (maxSteps := 1000000) only [go_sem, simprocAttr, ↓reduceIte])
  refine VcCall.k (k) ?_
  (repeat' first | with_reducible (first | intro _ | refine rc ?_ | refine rl ?_ | refine rh ?_ | refine ru ?_ | refine rt ?_ | refine rf ?_ | refine rs ?_ | refine And.intro ?_ ?_) | omega | simp (maxSteps := 1000000) only [go_sem, simprocAttr, ↓reduceIte])
  refine Ret.auto 0 ?_ rfl ?_ <;> simp only [go_sem, reduceCtorEq, reduceIte, Nat.reduceEqDiff, Nat.reduceLT, Nat.reduceLeDiff, Int.natCast_succ, Post]
end Go.Fv.G

namespace Go.Fv.G
open Go Go.Proofs
set_option linter.unusedSimpArgs false
set_option linter.unusedVariables false
set_option maxRecDepth 8000
theorem drop_bools {tab : List Bool} {n : Nat} (h : n < tab.length) : (tab.map AV.bool).drop n = .bool (tab.getD n false) :: (tab.map AV.bool).drop (n + 1) := by
  rw [List.drop_eq_getElem_cons (by simpa using h)]
  simp [List.getD, h]

set_option maxHeartbeats 1000000 in
theorem contains_ok (tab : List Bool) (b : Int) (hl : tab.length = 256) (h0 : 0 ≤ b) (h1 : b < 256) : FnOk Tryd.prog 54 [.cell (tab.map .bool), .int .u8 b] (.bool (tab.getD b.toNat false)) [] := by
  refine FnOk.of_vc Tryd.func54 rfl (by decide) (by simp [Tryd.f54]) [.tmp 4] rfl fun w0 T0 _ => ?_
  simp only [Tryd.f54, argEnv]
  have hd := drop_bools (tab := tab) (n := b.toNat) (by omega)
  simp (maxSteps := 1000000) only [go_sem, reduceCtorEq, Nat.reduceLT, Nat.reduceLeDiff, reduceIte, ↓reduceIte, Nat.reduceEqDiff, Nat.reduceAdd, Nat.reduceMul, Nat.reduceSub, Int.reduceLE, Int.reduceLT, Int.reduceNeg, Int.reduceToNat, Nat.mul_one, hd]
  (repeat' first | (with_reducible refine Asm.intro fun _ => ?_) | ((with_reducible refine Chk.intro ?_ ?_); (· first | omega | (with_reducible refine Chk.intro ?_ ?_ <;> omega) | (simp; done) | (simp; omega))) | ((with_reducible refine LetW.i64 ?_ ?_ ?_); (· omega); (· omega)) | ((with_reducible refine Ite.decide (fun _ => ?_) (fun _ => ?_)) <;> first | (exfalso; omega) | simp (maxSteps := 1000000) only [go_sem, reduceCtorEq, Nat.reduceLT, Nat.reduceLeDiff, reduceIte, ↓reduceIte, Nat.reduceEqDiff, Nat.reduceAdd, Nat.reduceMul, Nat.reduceSub, Int.reduceLE, Int.reduceLT, Int.reduceNeg, Int.reduceToNat]) | ((with_reducible refine Ite.bool (fun _ => ?_) (fun _ => ?_)) <;> simp (maxSteps := 1000000) only [go_sem, reduceCtorEq, Nat.reduceLT, Nat.reduceLeDiff, reduceIte, ↓reduceIte, Nat.reduceEqDiff, Nat.reduceAdd, Nat.reduceMul, Nat.reduceSub, Int.reduceLE, Int.reduceLT, Int.reduceNeg, Int.reduceToNat]) | (with_reducible refine And.intro ?_ ?_))
  refine Ret.auto 0 ?_ rfl ?_ <;> simp only [go_sem, reduceCtorEq, reduceIte, Nat.reduceEqDiff, Nat.reduceLT, Nat.reduceLeDiff, Int.natCast_succ, Post]

theorem z58 : zeroOf Tryd.prog 58 = some (.agg (Array.replicate 256 (.bool false))) := by kernel_rfl
theorem c58 : Tryd.prog.cellsOf 58 = 256 := by kernel_rfl

attribute [go_sem] z58 c58
def asciiAt (s : List UInt8) : Nat → List Bool
  | 0 => List.replicate 256 false
  | i + 1 => (asciiAt s i).set (s.getD i 0).toNat true
theorem asciiAt_len (s : List UInt8) : ∀ i, (asciiAt s i).length = 256
  | 0 => by simp [asciiAt]
  | i + 1 => by simp [asciiAt, asciiAt_len s i]

set_option maxHeartbeats 1000000 in
theorem makeAscii_ok (s : List UInt8) (hs : ∀ i, i < s.length → (s.getD i 0).toNat < 128) : FnOk Tryd.prog 33 [.str s] (.tup [.agg ((asciiAt s s.length).map .bool), .bool true]) [] := by
  refine FnOk.of_vc Tryd.func33 rfl (by decide) (by simp [Tryd.f33]) [.cell 2 58, .tmp 3] rfl fun w0 T0 _ => ?_
  simp only [Tryd.f33, argEnv]
  simp (maxSteps := 1000000) only [go_sem, reduceCtorEq, Nat.reduceLT, Nat.reduceLeDiff, reduceIte, ↓reduceIte, Nat.reduceEqDiff, Nat.reduceAdd, Nat.reduceMul, Nat.reduceSub, Int.reduceLE, Int.reduceLT, Int.reduceNeg, Int.reduceToNat]
  refine VcLoop.intro (fun i : Nat => ⟨21, [(0, .str s), (2, .ptr 0 0), (4, .int .i64 i)], [(0, .box 58 ((asciiAt s i).map .bool))], 1⟩) (fun i => i ≤ s.length) (fun i => s.length - i) 0 ?_ (Nat.zero_le _) fun i hi => ?_
  · refine Ent.auto0 rfl ?_ ?_ <;> simp only [go_sem, reduceCtorEq, reduceIte, Nat.reduceEqDiff, Nat.reduceLT, Nat.reduceLeDiff, Int.natCast_succ, asciiAt]
  have hlen := asciiAt_len s i
  simp (maxSteps := 1000000) only [go_sem, reduceCtorEq, Nat.reduceLT, Nat.reduceLeDiff, reduceIte, ↓reduceIte, Nat.reduceEqDiff, Nat.reduceAdd, Nat.reduceMul, Nat.reduceSub, Int.reduceLE, Int.reduceLT, Int.reduceNeg, Int.reduceToNat]
  (repeat' first | (with_reducible refine Asm.intro fun _ => ?_) | ((with_reducible refine Chk.intro ?_ ?_); (· first | omega | (with_reducible refine Chk.intro ?_ ?_ <;> omega) | (simp; done) | (simp; omega))) | ((with_reducible refine LetW.i64 ?_ ?_ ?_); (· omega); (· omega)) | ((with_reducible refine Ite.decide (fun _ => ?_) (fun _ => ?_)) <;> first | (exfalso; omega) | simp (maxSteps := 1000000) only [go_sem, reduceCtorEq, Nat.reduceLT, Nat.reduceLeDiff, reduceIte, ↓reduceIte, Nat.reduceEqDiff, Nat.reduceAdd, Nat.reduceMul, Nat.reduceSub, Int.reduceLE, Int.reduceLT, Int.reduceNeg, Int.reduceToNat]) | ((with_reducible refine Ite.bool (fun _ => ?_) (fun _ => ?_)) <;> simp (maxSteps := 1000000) only [go_sem, reduceCtorEq, Nat.reduceLT, Nat.reduceLeDiff, reduceIte, ↓reduceIte, Nat.reduceEqDiff, Nat.reduceAdd, Nat.reduceMul, Nat.reduceSub, Int.reduceLE, Int.reduceLT, Int.reduceNeg, Int.reduceToNat]) | (with_reducible refine And.intro ?_ ?_))
  · have := hs i (by omega)
    omega
  · refine ⟨i + 1, Ent.auto0 rfl ?_ ?_, by omega, by omega⟩
    · simp only [go_sem, reduceCtorEq, reduceIte, Nat.reduceEqDiff, Nat.reduceLT, Nat.reduceLeDiff, Int.natCast_succ]
    · simp only [go_sem, reduceCtorEq, reduceIte, Nat.reduceEqDiff, Nat.reduceLT, Nat.reduceLeDiff, Int.natCast_succ, asciiAt]
  · have e : i = s.length := by omega
    subst e
    have e2 : ((asciiAt s s.length).map AV.bool).take 256 = (asciiAt s s.length).map AV.bool := List.take_of_length_le (by simp [hlen])
    have e3 : spl ((asciiAt s s.length).map AV.bool) 0 ((asciiAt s s.length).map AV.bool) = (asciiAt s s.length).map AV.bool := spl_all rfl
    refine Ret.auto 0 ?_ ?_ ?_ <;> simp only [go_sem, reduceCtorEq, reduceIte, Nat.reduceEqDiff, Nat.reduceLT, Nat.reduceLeDiff, Int.natCast_succ, Post, e2, e3, List.drop_zero]
    simp (maxSteps := 1000000) only [go_sem, reduceCtorEq, Nat.reduceLT, Nat.reduceLeDiff, reduceIte, ↓reduceIte, Nat.reduceEqDiff, Nat.reduceAdd, Nat.reduceMul, Nat.reduceSub, Int.reduceLE, Int.reduceLT, Int.reduceNeg, Int.reduceToNat, e2, hlen, List.length_map]

def cutset : List UInt8 := [97, 98, 99, 100, 101, 102, 103, 104, 105, 106, 107, 108, 109, 110, 111, 112, 113, 114, 115, 116, 117, 118, 119, 120, 121, 122, 48, 49, 50, 51, 52, 53, 54, 55, 56, 57, 45]
theorem cut_small : ∀ i, i < cutset.length → (cutset.getD i 0).toNat < 128 := by decide
end Go.Fv.G
