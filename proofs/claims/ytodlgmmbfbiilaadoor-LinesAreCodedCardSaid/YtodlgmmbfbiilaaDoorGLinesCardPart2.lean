/-
  A part of the proof of the claim: walks over the program's functions and the plain laws that these need. No condition of its own.
-/
import Derived.Test.YtodlgmmbfbiilaaDoorGLinesCardPart1
import Derived.Test.YtodlgmmbfbiilaaDoorFvPart10
import Derived.Shelf.Bits.Mul64
import Derived.Test.YtodlgmmbfbiilaaDoorFvPart5
import Derived.Shelf.Strings.BuilderX
import Derived.Shelf.RegionOpenPlain
import Derived.Lib.Builder
import Derived.Lib.Walk
import Derived.WalkKit
import Derived.Laws.Externs
/- strconv.FormatInt in base 2. -/
namespace Go.Fv.G
open Go Go.Proofs
set_option linter.unusedSimpArgs false
set_option linter.unusedVariables false
set_option linter.unnecessarySimpa false
set_option maxRecDepth 8000

def bI (l : Bytes) : List Int := l.map fun c => (c.toNat : Int)
theorem bI_len (l : Bytes) : (bI l).length = l.length := List.length_map ..
theorem drop_at {L : List Int} {i : Nat} (h : i < L.length) : L.drop i = L.getD i 0 :: L.drop (i + 1) := by
  rw [List.drop_eq_getElem_cons h]; simp [List.getD, h]
theorem set_drop {L : List Int} {i : Nat} (h : i < L.length) (v : Int) : (L.set i v).drop i = v :: L.drop (i + 1) := by
  rw [drop_at (by simpa using h)]
  congr 1
  · simp [List.getD, h]
  · apply List.ext_getElem?
    intro j
    simp only [List.getElem?_drop, List.getElem?_set]
    rw [if_neg (by omega)]
theorem and1 (u : Nat) (hu : u < 18446744073709551616) : bitsI .and .u64 (u : Int) 1 = ((u % 2 : Nat) : Int) := by
  have h := bits_and_u64_nat u 1 hu (by decide)
  rw [Nat.and_one_is_mod] at h
  exact h
theorem bin_step {u : Nat} (h : 2 ≤ u) : binB u = binB (u / 2) ++ [digB u] := binB_ge (by omega)
theorem pow2_ok : FnOk Tryd.prog 83 [.int .i64 2] (.bool true) [] := by
  refine FnOk.of_vc Tryd.func83 rfl (by decide) (by simp [Tryd.f83]) [.tmp 2] rfl fun w0 T0 _ => ?_
  simp only [Tryd.f83, argEnv]
  have h0 : bitsI BinOp.and IntKind.i64 2 1 = 0 := by decide
  (repeat' first | with_reducible (first | intro _ | refine rc ?_ | refine rl ?_ | refine rh ?_ | refine ru ?_ | refine rt ?_ | refine rf ?_ | refine rs ?_ | refine And.intro ?_ ?_) | omega | simp (maxSteps := 1000000) only [go_sem, simprocAttr, ↓reduceIte, h0])
  refine Ret.auto 0 ?_ rfl ?_ <;> simp only [go_sem, reduceCtorEq, reduceIte, Nat.reduceEqDiff, Nat.reduceLT, Nat.reduceLeDiff, Int.natCast_succ, Post, h0]
theorem a65z : zeroOf Tryd.prog 112 = some (.agg (Array.replicate 65 (.int .u8 0))) := by kernel_rfl
theorem a65c : Tryd.prog.cellsOf 112 = 65 := by kernel_rfl
theorem dig_mod (u : Nat) : ([48, 49, 50, 51, 52, 53, 54, 55, 56, 57, 97, 98, 99, 100, 101, 102, 103, 104, 105, 106, 107, 108, 109, 110, 111, 112, 113, 114, 115, 116, 117, 118, 119, 120, 121, 122] : List UInt8).getD (u % 2) 0 = digB u := by
  have : u % 2 = 0 ∨ u % 2 = 1 := by omega
  unfold digB
  rcases this with e | e <;> rw [e] <;> rfl
theorem dig_lt {u : Nat} (h : u < 2) : ([48, 49, 50, 51, 52, 53, 54, 55, 56, 57, 97, 98, 99, 100, 101, 102, 103, 104, 105, 106, 107, 108, 109, 110, 111, 112, 113, 114, 115, 116, 117, 118, 119, 120, 121, 122] : List UInt8).getD u 0 = digB u := by
  have := dig_mod u
  rwa [Nat.mod_eq_of_lt h] at this
theorem shr1 (u : Nat) (hu : u < 18446744073709551616) : shrI .u64 (u : Int) 1 = ((u / 2 : Nat) : Int) := by
  unfold shrI
  rw [show (2 : Int) ^ (min (1 : Int).toNat IntKind.u64.bits) = 2 by rfl, Int.fdiv_eq_ediv_of_nonneg _ (by decide)]
  rfl
theorem bI_back (l : Bytes) : (bI l).map (fun n => UInt8.ofNat n.toNat) = l := by
  unfold bI
  rw [List.map_map]
  conv => rhs; rw [← List.map_id l]
  apply List.map_congr_left
  intro c _
  simp
structure FB where
  i : Nat
  u : Nat
  L : List Int
structure FBI (n : Nat) (x : FB) : Prop where
  l : x.L.length = 65
  i : x.i ≤ 65
  u : x.u ≤ 1048576
  s : ∃ sfx : Bytes, x.L.drop x.i = bI sfx ∧ binB x.u ++ sfx = binB n
set_option maxHeartbeats 2000000 in
theorem fmtBits_ok (n : Nat) (hn : n ≤ 1048576) :
    FnOk Tryd.prog 66 [.nilS, .int .u64 n, .int .i64 2, .bool false, .bool false] (.tup [.own 0, .str (binB n)]) [(0, .row 5 (.ints .u8 []))] := by
  have k1 := pow2_ok
  have k2 := tz2_ok
  refine FnOk.of_vc Tryd.func66 rfl (by decide) (by simp [Tryd.f66]) [.tmp 10, .tmp 11] rfl fun w0 T0 _ => ?_
  simp only [Tryd.f66, argEnv]
  (repeat' first | with_reducible (first | intro _ | refine rc ?_ | refine rl ?_ | refine rh ?_ | refine ru ?_ | refine rt ?_ | refine rf ?_ | refine rs ?_ | refine And.intro ?_ ?_) | omega | simp (maxSteps := 1000000) only [go_sem, simprocAttr, ↓reduceIte, a65z, a65c, Array.toList_replicate, forall_const, List.forall_mem_replicate])
  refine VcCall.k (k1) ?_
  (repeat' first | with_reducible (first | intro _ | refine rc ?_ | refine rl ?_ | refine rh ?_ | refine ru ?_ | refine rt ?_ | refine rf ?_ | refine rs ?_ | refine And.intro ?_ ?_) | omega | simp (maxSteps := 1000000) only [go_sem, simprocAttr, ↓reduceIte])
  refine VcCall.k (k2) ?_
  (repeat' first | with_reducible (first | intro _ | refine rc ?_ | refine rl ?_ | refine rh ?_ | refine ru ?_ | refine rt ?_ | refine rf ?_ | refine rs ?_ | refine And.intro ?_ ?_) | omega | simp (maxSteps := 1000000) only [go_sem, simprocAttr, ↓reduceIte])
  refine VcLoop.intro (fun x : FB => ⟨102, [(1, .int .u64 x.u), (2, .int .i64 2), (3, .bool false), (4, .bool false), (10, .own 0), (11, .str []), (12, .ptr 1 0), (13, .int .i64 x.i), (14, .int .u64 1), (15, .int .u64 2), (16, .int .u64 1)], [(0, .row 5 (.ints .u8 [])), (1, .box 112 (x.L.map (.int .u8)))], 2⟩) (FBI n) (fun x => x.u) ⟨65, n, List.replicate 65 0⟩ ?_ ⟨by simp, by dsimp only; omega, hn, [], by simp [bI], by simp⟩ fun x hI => ?_
  · refine Ent.auto0 rfl ?_ ?_ <;> simp only [go_sem, reduceCtorEq, reduceIte, Nat.reduceEqDiff, Nat.reduceLT, Nat.reduceLeDiff, Int.natCast_succ]
    all_goals rfl
  obtain ⟨i, u, L⟩ := x
  obtain ⟨hL, hi, hu, sfx, hs, hb⟩ := hI
  dsimp only at *
  have hsl : sfx.length = 65 - i := by
    have := congrArg List.length hs
    rw [List.length_drop, bI_len] at this; omega
  have hbl := congrArg List.length hb
  rw [List.length_append] at hbl
  have hnl := bin_len 20 n (by rw [show (2 : Nat) ^ (20 + 1) = 2097152 from rfl]; omega)
  have hup := bin_pos u
  have ha := and1 u (by omega)
  have hsh := shr1 u (by omega)
  have hdm := dig_mod u
  have hi1 : 1 ≤ i := by omega
  have hin : ((i : Int) - 1).toNat = i - 1 := by omega
  have hst : ∀ v : Int, (L.set (i - 1) v).drop (i - 1) = v :: L.drop i := fun v => by
    have := set_drop (L := L) (i := i - 1) (by omega) v
    rwa [show i - 1 + 1 = i by omega] at this
  (repeat' first | with_reducible (first | intro _ | refine rc ?_ | refine rl ?_ | refine rh ?_ | refine ru ?_ | refine rt ?_ | refine rf ?_ | refine rs ?_ | refine And.intro ?_ ?_) | omega | simp (maxSteps := 1000000) only [go_sem, simprocAttr, ↓reduceIte, ha])
  · rename_i h2
    have h2 : 2 ≤ u := by omega
    refine ⟨⟨i - 1, u / 2, L.set (i - 1) ((digB u).toNat : Int)⟩, Ent.auto0 rfl ?_ ?_, ⟨by simpa using hL, by dsimp only; omega, by dsimp only; omega, digB u :: sfx, by dsimp only; rw [hst, hs]; rfl, ?_⟩, by dsimp only; omega⟩
    · simp only [go_sem, reduceCtorEq, reduceIte, Nat.reduceEqDiff, Nat.reduceLT, Nat.reduceLeDiff, Int.natCast_succ, hsh, hdm, hin]
      omega
    · simp only [go_sem, reduceCtorEq, reduceIte, Nat.reduceEqDiff, Nat.reduceLT, Nat.reduceLeDiff, Int.natCast_succ, hsh, hdm, hin]
    · dsimp only
      rw [bin_step h2, List.append_assoc] at hb
      exact hb
  · rename_i h2
    have h2 : u < 2 := by omega
    have hbu : binB u = [digB u] := binB_lt h2
    have hdl := dig_lt h2
    have hr : List.map (fun n => UInt8.ofNat n.toNat) (((digB u).toNat : Int) :: L.drop i) = binB n := by
      rw [hs, ← hb, hbu]
      exact bI_back (digB u :: sfx)
    refine Ret.auto 1 ?_ rfl ?_ <;> simp only [go_sem, reduceCtorEq, reduceIte, Nat.reduceEqDiff, Nat.reduceLT, Nat.reduceLeDiff, Int.natCast_succ, Post, hdl, hin, hst, hr]
theorem fmtInt1_ok (n : Nat) (hn : n ≤ 1048576) : FnOk Tryd.prog 40 [.int .i64 n, .int .i64 2] (.str (binB n)) [] := by
  have k := fmtBits_ok n hn
  refine FnOk.of_vc Tryd.func40 rfl (by decide) (by simp [Tryd.f40]) [.tmp 4] rfl fun w0 T0 _ => ?_
  simp only [Tryd.f40, argEnv]
  have hz : decide ((n : Int) < 0) = false := by simp
  (repeat' first | with_reducible (first | intro _ | refine rc ?_ | refine rl ?_ | refine rh ?_ | refine ru ?_ | refine rt ?_ | refine rf ?_ | refine rs ?_ | refine And.intro ?_ ?_) | omega | simp (maxSteps := 1000000) only [go_sem, simprocAttr, ↓reduceIte, hz])
  refine VcCall.fr (FnFr.of_ok k rfl rfl) (by simp only [noIdR_ok, argOkL, argOk, allOk, argOkN, List.drop_zero, lk, reduceIte, reduceCtorEq, Nat.reduceEqDiff, Option.some.injEq, Item.row.injEq, Item.box.injEq, AV.ro.injEq, exists_eq_left, exists_and_left, exists_eq_left', exists_eq_right, and_assoc, and_true, true_and, List.cons.injEq, exists_eq', exists_eq, hz]; exact ⟨_, .inl rfl, rfl⟩) 1 rfl (by simp [rowsB, Item.below, belowR_ok]) ?_
  (repeat' first | with_reducible (first | intro _ | refine rc ?_ | refine rl ?_ | refine rh ?_ | refine ru ?_ | refine rt ?_ | refine rf ?_ | refine rs ?_ | refine And.intro ?_ ?_) | omega | simp (maxSteps := 1000000) only [go_sem, simprocAttr, ↓reduceIte, renR_ok])
  refine Ret.auto 0 ?_ rfl ?_ <;> simp only [go_sem, reduceCtorEq, reduceIte, Nat.reduceEqDiff, Nat.reduceLT, Nat.reduceLeDiff, Int.natCast_succ, Post]
theorem fmtInt_ok (n : Nat) (hn : n ≤ 1048576) : FnOk Tryd.prog 19 [.int .i64 n, .int .i64 2] (.str (binB n)) [] := by
  have k := fmtInt1_ok n hn
  refine FnOk.of_vc Tryd.func19 rfl (by decide) (by simp [Tryd.f19]) [.tmp 4] rfl fun w0 T0 _ => ?_
  simp only [Tryd.f19, argEnv]
  (repeat' first | with_reducible (first | intro _ | refine rc ?_ | refine rl ?_ | refine rh ?_ | refine ru ?_ | refine rt ?_ | refine rf ?_ | refine rs ?_ | refine And.intro ?_ ?_) | omega | simp (maxSteps := 1000000) only [go_sem, simprocAttr, ↓reduceIte])
  refine VcCall.k (k) ?_
  (repeat' first | with_reducible (first | intro _ | refine rc ?_ | refine rl ?_ | refine rh ?_ | refine ru ?_ | refine rt ?_ | refine rf ?_ | refine rs ?_ | refine And.intro ?_ ?_) | omega | simp (maxSteps := 1000000) only [go_sem, simprocAttr, ↓reduceIte])
  refine Ret.auto 0 ?_ rfl ?_ <;> simp only [go_sem, reduceCtorEq, reduceIte, Nat.reduceEqDiff, Nat.reduceLT, Nat.reduceLeDiff, Int.natCast_succ, Post]
end Go.Fv.G

/- strings.HasPrefix. -/
namespace Go.Fv.G
open Go Go.Proofs
set_option linter.unusedSimpArgs false
set_option linter.unusedVariables false
set_option linter.unnecessarySimpa false
set_option maxRecDepth 8000

theorem take_prefix (s p : List UInt8) : decide ((p.length : Int) ≤ (s.length : Int) ∧ s.take p.length = p) = p.isPrefixOf s := by
  rw [Bool.eq_iff_iff, decide_eq_true_eq, List.isPrefixOf_iff_prefix]
  constructor
  · rintro ⟨_, h⟩; exact List.prefix_iff_eq_take.2 h.symm
  · intro h; exact ⟨by have := h.length_le; omega, (List.prefix_iff_eq_take.1 h).symm⟩
theorem hasPrefix0_ok (s p : List UInt8) : FnOk Tryd.prog 53 [.str s, .str p] (.bool (p.isPrefixOf s)) [] := by
  rw [← take_prefix]
  refine FnOk.of_vc Tryd.func53 rfl (by decide) (by simp [Tryd.f53]) [.tmp 4] rfl fun w0 T0 _ => ?_
  simp only [Tryd.f53, argEnv]
  (repeat' first | with_reducible (first | intro _ | refine rc ?_ | refine rl ?_ | refine rh ?_ | refine ru ?_ | refine rt ?_ | refine rf ?_ | refine rs ?_ | refine And.intro ?_ ?_) | omega | simp (maxSteps := 1000000) only [go_sem, simprocAttr, ↓reduceIte, Nat.sub_zero, List.drop_zero, Int.toNat_natCast, Int.toNat_zero])
  refine Ret.auto 0 ?_ rfl ?_ <;> simp only [go_sem, reduceCtorEq, reduceIte, Nat.reduceEqDiff, Nat.reduceLT, Nat.reduceLeDiff, Int.natCast_succ, Post]
theorem hasPrefix_ok (s p : List UInt8) : FnOk Tryd.prog 28 [.str s, .str p] (.bool (p.isPrefixOf s)) [] := by
  have k := hasPrefix0_ok s p
  refine FnOk.of_vc Tryd.func28 rfl (by decide) (by simp [Tryd.f28]) [.tmp 4] rfl fun w0 T0 _ => ?_
  simp only [Tryd.f28, argEnv]
  (repeat' first | with_reducible (first | intro _ | refine rc ?_ | refine rl ?_ | refine rh ?_ | refine ru ?_ | refine rt ?_ | refine rf ?_ | refine rs ?_ | refine And.intro ?_ ?_) | omega | simp (maxSteps := 1000000) only [go_sem, simprocAttr, ↓reduceIte])
  refine VcCall.k k ?_
  (repeat' first | with_reducible (first | intro _ | refine rc ?_ | refine rl ?_ | refine rh ?_ | refine ru ?_ | refine rt ?_ | refine rf ?_ | refine rs ?_ | refine And.intro ?_ ?_) | omega | simp (maxSteps := 1000000) only [go_sem, simprocAttr, ↓reduceIte])
  refine Ret.auto 0 ?_ rfl ?_ <;> simp only [go_sem, reduceCtorEq, reduceIte, Nat.reduceEqDiff, Nat.reduceLT, Nat.reduceLeDiff, Int.natCast_succ, Post]
end Go.Fv.G

/- strings.Repeat of a zero, up to twenty times. -/
namespace Go.Proofs
open Go.Shelf
def Tryd.lays212_ren : Go.Shelf.Ren := ⟨fun | 212 => 41 | 263 => 67 | 264 => 68 | n => n, fun | 46 => 64 | 51 => 97 | 146 => 98 | 53 => 86 | 148 => 100 | n => n, fun | n => n⟩
theorem Tryd.lays212 : Go.Proofs.Lays.n212 Tryd.prog Tryd.lays212_ren := {
  mixed := by kernel_rfl
  f212 := Tryd.func41.trans (congrArg some (by kernel_rfl))
  f263 := Tryd.func67.trans (congrArg some (by kernel_rfl))
  f264 := Tryd.func68.trans (congrArg some (by kernel_rfl))
  t46 := Tryd.underlying64
  a46 := Tryd.isAgg64
  z46 := Tryd.sizeOf64
  v46 := Tryd.zeroValue64
  t51 := Tryd.underlying97
  a51 := Tryd.isAgg97
  z51 := Tryd.sizeOf97
  v51 := Tryd.zeroValue97
  t53 := Tryd.underlying86
  a53 := Tryd.isAgg86
  z53 := Tryd.sizeOf86
  v53 := Tryd.zeroValue86
  t146 := Tryd.underlying98
  a146 := Tryd.isAgg98
  z146 := Tryd.sizeOf98
  v146 := Tryd.zeroValue98
  t148 := Tryd.underlying100
  a148 := Tryd.isAgg100
  z148 := Tryd.sizeOf100
  v148 := Tryd.zeroValue100 }
end Go.Proofs
namespace Go.Fv.G
open Go Go.Proofs
set_option linter.unusedSimpArgs false
set_option linter.unusedVariables false
set_option linter.unnecessarySimpa false
set_option maxRecDepth 8000

theorem mul1_ok (k : Nat) (hk : k ≤ 1000) : FnOk Tryd.prog 41 [.int .u64 1, .int .u64 k] (.tup [.int .u64 0, .int .u64 k]) [] := by
  refine ⟨⟨_, Tryd.func41, by kernel_rfl, by kernel_rfl⟩, fun w T vals hg hv => ?_⟩
  cases hv with
  | cons _ _ _ _ h1 hv => cases hv with
    | cons _ _ _ _ h2 hv =>
      cases hv
      cases h1 with
      | int _ _ e1 => cases h2 with
        | int _ _ e2 =>
          refine (Any.bits_Mul Tryd.lays212 1 k (by omega) (by omega) w).mono ?_
          rintro e w' ⟨rfl, rfl⟩
          refine ⟨_, rfl, BelowD.refl _ _, fun _ => undef, 0, ?_, ?_, ?_⟩
          · rw [Nat.one_mul, show k / 18446744073709551616 = 0 by omega, Nat.mod_eq_of_lt (by omega : k < 18446744073709551616)]
            exact .tup _ [_, _] (.cons _ _ _ _ (.int _ _ (InK_u64.2 (by omega))) (.cons _ _ _ _ (.int _ _ (InK_u64.2 (by omega))) .nil))
          · intro i it h; cases h
          · intro i j it jt b h; cases h
theorem zeros_take (k : Nat) (h : k ≤ 64) : (List.replicate 64 (48 : UInt8)).take k = List.replicate k 48 := by rw [List.take_replicate, Nat.min_eq_left h]
theorem pre32 (l r : List UInt8) : ([48] : List UInt8).isPrefixOf ((32 :: l).append r) = false := rfl
theorem pre45 (l r : List UInt8) : ([48] : List UInt8).isPrefixOf ((45 :: l).append r) = false := rfl
theorem pre48 (l : List UInt8) : ([48] : List UInt8).isPrefixOf (48 :: l) = true := rfl
set_option maxHeartbeats 4000000 in
theorem repZ_ok (k : Nat) (hk : k ≤ 20) : FnOk Tryd.prog 20 [.str [48], .int .i64 k] (.str (List.replicate k 48)) [] := by
  have km := mul1_ok k (by omega)
  refine FnOk.of_vc Tryd.func20 rfl (by decide) (by simp [Tryd.f20]) [.tmp 4] rfl fun w0 T0 _ => ?_
  simp only [Tryd.f20, argEnv]
  by_cases h0 : k = 0
  · subst h0
    (repeat' first | with_reducible (first | intro _ | refine rc ?_ | refine rl ?_ | refine rh ?_ | refine ru ?_ | refine rt ?_ | refine rf ?_ | refine rs ?_ | refine And.intro ?_ ?_) | omega | simp (maxSteps := 1000000) only [go_sem, simprocAttr, ↓reduceIte])
    refine Ret.auto 0 ?_ rfl ?_ <;> simp only [go_sem, reduceCtorEq, reduceIte, Nat.reduceEqDiff, Nat.reduceLT, Nat.reduceLeDiff, Int.natCast_succ, Post]
  by_cases h1 : k = 1
  · subst h1
    (repeat' first | with_reducible (first | intro _ | refine rc ?_ | refine rl ?_ | refine rh ?_ | refine ru ?_ | refine rt ?_ | refine rf ?_ | refine rs ?_ | refine And.intro ?_ ?_) | omega | simp (maxSteps := 1000000) only [go_sem, simprocAttr, ↓reduceIte])
    refine Ret.auto 0 ?_ rfl ?_ <;> simp only [go_sem, reduceCtorEq, reduceIte, Nat.reduceEqDiff, Nat.reduceLT, Nat.reduceLeDiff, Int.natCast_succ, Post]
  have hg : ((([48] : List UInt8).getD 0 0).toNat : Int) = 48 := rfl
  have b1 : ((k : Int) ≤ 128) = True := eq_true (by omega)
  have b2 : ((k : Int) ≤ 64) = True := eq_true (by omega)
  have b3 : (9223372036854775807 < (k : Int)) = False := eq_false (by omega)
  have b4 : ((k : Int) < 0) = False := eq_false (by omega)
  have b5 : ((k : Int) = 0) = False := eq_false (by omega)
  have b6 : ((k : Int) = 1) = False := eq_false (by omega)
  (repeat' first | with_reducible (first | intro _ | refine rc ?_ | refine rl ?_ | refine rh ?_ | refine ru ?_ | refine rt ?_ | refine rf ?_ | refine rs ?_ | refine And.intro ?_ ?_) | omega | simp (maxSteps := 1000000) only [go_sem, simprocAttr, ↓reduceIte, b3, b4, b5, b6])
  refine VcCall.k (km) ?_
  (repeat' first | with_reducible (first | intro _ | refine rc ?_ | refine rl ?_ | refine rh ?_ | refine ru ?_ | refine rt ?_ | refine rf ?_ | refine rs ?_ | refine And.intro ?_ ?_) | omega | simp (maxSteps := 1000000) only [go_sem, simprocAttr, ↓reduceIte, hg, b1, b2, b3])
  refine VcCall.k (hasPrefix_ok _ [48]) ?_ rfl rfl ⟨_, _, rfl, ⟨_, _, rfl, rfl, rfl⟩, rfl⟩
  (repeat' first | with_reducible (first | intro _ | refine rc ?_ | refine rl ?_ | refine rh ?_ | refine ru ?_ | refine rt ?_ | refine rf ?_ | refine rs ?_ | refine And.intro ?_ ?_) | omega | simp (maxSteps := 1000000) only [go_sem, simprocAttr, ↓reduceIte, hg, b1, b2, b3, pre32])
  refine VcCall.k (hasPrefix_ok _ [48]) ?_ rfl rfl ⟨_, _, rfl, ⟨_, _, rfl, rfl, rfl⟩, rfl⟩
  (repeat' first | with_reducible (first | intro _ | refine rc ?_ | refine rl ?_ | refine rh ?_ | refine ru ?_ | refine rt ?_ | refine rf ?_ | refine rs ?_ | refine And.intro ?_ ?_) | omega | simp (maxSteps := 1000000) only [go_sem, simprocAttr, ↓reduceIte, hg, b1, b2, b3, pre45])
  refine VcCall.k (hasPrefix_ok _ [48]) ?_ rfl rfl ⟨_, _, rfl, ⟨_, _, rfl, rfl, rfl⟩, rfl⟩
  (repeat' first | with_reducible (first | intro _ | refine rc ?_ | refine rl ?_ | refine rh ?_ | refine ru ?_ | refine rt ?_ | refine rf ?_ | refine rs ?_ | refine And.intro ?_ ?_) | omega | simp (maxSteps := 1000000) only [go_sem, simprocAttr, ↓reduceIte, hg, b1, b2, b3, pre48])
  refine Ret.auto 0 ?_ rfl ?_ <;> simp only [go_sem, reduceCtorEq, reduceIte, Nat.reduceEqDiff, Nat.reduceLT, Nat.reduceLeDiff, Int.natCast_succ, Post]
  exact zeros_take k (by omega)
end Go.Fv.G

/- Writing numbers: the walk. -/
namespace Go.Fv.G
open Go Go.Proofs
set_option linter.unusedSimpArgs false
set_option linter.unusedVariables false
set_option linter.unnecessarySimpa false
set_option maxRecDepth 8000

theorem gamma_ok (n : Nat) (hn : n ≤ 1048576) : FnOk Tryd.prog 16 [.int .i64 n] (.str (gamB n)) [] := by
  have k1 := fmtInt_ok n hn
  have hl := bin_len 20 n (by rw [show (2 : Nat) ^ (20 + 1) = 2097152 from rfl]; omega)
  have hp := bin_pos n
  have k2 := repZ_ok ((binB n).length - 1) (by omega)
  have e : (((binB n).length - 1 : Nat) : Int) = ((binB n).length : Int) - 1 := by omega
  rw [e] at k2
  refine FnOk.of_vc Tryd.func16 rfl (by decide) (by simp [Tryd.f16]) [.tmp 2] rfl fun w0 T0 _ => ?_
  simp only [Tryd.f16, argEnv]
  (repeat' first | with_reducible (first | intro _ | refine rc ?_ | refine rl ?_ | refine rh ?_ | refine ru ?_ | refine rt ?_ | refine rf ?_ | refine rs ?_ | refine And.intro ?_ ?_) | omega | simp (maxSteps := 1000000) only [go_sem, simprocAttr, ↓reduceIte])
  refine VcCall.k (k1) ?_
  (repeat' first | with_reducible (first | intro _ | refine rc ?_ | refine rl ?_ | refine rh ?_ | refine ru ?_ | refine rt ?_ | refine rf ?_ | refine rs ?_ | refine And.intro ?_ ?_) | omega | simp (maxSteps := 1000000) only [go_sem, simprocAttr, ↓reduceIte])
  refine VcCall.k (k2) ?_
  (repeat' first | with_reducible (first | intro _ | refine rc ?_ | refine rl ?_ | refine rh ?_ | refine ru ?_ | refine rt ?_ | refine rf ?_ | refine rs ?_ | refine And.intro ?_ ?_) | omega | simp (maxSteps := 1000000) only [go_sem, simprocAttr, ↓reduceIte, List.length_append, List.length_replicate])
  refine Ret.auto 0 ?_ rfl ?_ <;> simp only [go_sem, reduceCtorEq, reduceIte, Nat.reduceEqDiff, Nat.reduceLT, Nat.reduceLeDiff, Int.natCast_succ, Post, gamB]
theorem refGamma_ok (n : Nat) (hn : n ≤ 1048576) : FnOk Tryd.prog 8 [.int .i64 n] (.str (gamB n)) [] := by
  have k1 := fmtInt_ok n hn
  have hl := bin_len 20 n (by rw [show (2 : Nat) ^ (20 + 1) = 2097152 from rfl]; omega)
  have hp := bin_pos n
  have k2 := repZ_ok ((binB n).length - 1) (by omega)
  have e : (((binB n).length - 1 : Nat) : Int) = ((binB n).length : Int) - 1 := by omega
  rw [e] at k2
  refine FnOk.of_vc Tryd.func8 rfl (by decide) (by simp [Tryd.f8]) [.tmp 2] rfl fun w0 T0 _ => ?_
  simp only [Tryd.f8, argEnv]
  (repeat' first | with_reducible (first | intro _ | refine rc ?_ | refine rl ?_ | refine rh ?_ | refine ru ?_ | refine rt ?_ | refine rf ?_ | refine rs ?_ | refine And.intro ?_ ?_) | omega | simp (maxSteps := 1000000) only [go_sem, simprocAttr, ↓reduceIte])
  refine VcCall.k (k1) ?_
  (repeat' first | with_reducible (first | intro _ | refine rc ?_ | refine rl ?_ | refine rh ?_ | refine ru ?_ | refine rt ?_ | refine rf ?_ | refine rs ?_ | refine And.intro ?_ ?_) | omega | simp (maxSteps := 1000000) only [go_sem, simprocAttr, ↓reduceIte])
  refine VcCall.k (k2) ?_
  (repeat' first | with_reducible (first | intro _ | refine rc ?_ | refine rl ?_ | refine rh ?_ | refine ru ?_ | refine rt ?_ | refine rf ?_ | refine rs ?_ | refine And.intro ?_ ?_) | omega | simp (maxSteps := 1000000) only [go_sem, simprocAttr, ↓reduceIte, List.length_append, List.length_replicate])
  refine Ret.auto 0 ?_ rfl ?_ <;> simp only [go_sem, reduceCtorEq, reduceIte, Nat.reduceEqDiff, Nat.reduceLT, Nat.reduceLeDiff, Int.natCast_succ, Post, gamB]
end Go.Fv.G

/- The reference's Line: the walk. -/
namespace Go.Fv.G
open Go Go.Proofs
set_option linter.unusedSimpArgs false
set_option linter.unusedVariables false
set_option linter.unnecessarySimpa false
set_option maxRecDepth 8000

theorem gam_short {n : Nat} (h : n ≤ 1048576) : (gamB n).length ≤ 41 := by
  have h1 := bin_len 20 n (by rw [show (2 : Nat) ^ (20 + 1) = 2097152 from rfl]; omega)
  rw [gam_len]; omega
theorem near_short (k : Nat) : (nearCs.getD k []).length ≤ 7 := by
  by_cases h : k ≤ 6
  · have : k = 0 ∨ k = 1 ∨ k = 2 ∨ k = 3 ∨ k = 4 ∨ k = 5 ∨ k = 6 := by omega
    rcases this with rfl | rfl | rfl | rfl | rfl | rfl | rfl <;> decide
  · rw [List.getD_eq_getElem?_getD, List.getElem?_eq_none (by show 7 ≤ k; omega)]; decide
theorem lnStep_short {row above : List Bool} (hr : row.length ≤ 4000) (p : Nat) (ink : Bool) : (lnStep row above p ink).c.length ≤ 85 := by
  have h1 := chg_le row p
  have h2 := chg_le row (chg row p + 1)
  unfold lnStep
  split
  · exact (by decide : passC.length ≤ 85)
  · split
    · dsimp only; have := near_short (chg row p + 3 - chTo above p (!ink)); omega
    · dsimp only
      rw [List.length_append, List.length_append]
      have g1 := gam_short (n := chg row p - (p - 1) + 1) (by omega)
      have g2 := gam_short (n := chg row (chg row p + 1) - chg row p + 1) (by omega)
      have : farC.length = 3 := rfl
      omega
structure LSx where
  p : Nat
  k : Bool
  o : Bytes
structure LSI (row above : List Bool) (x : LSx) : Prop where
  hp : x.p ≤ row.length + 1
  ho : x.o ++ lnGo row above x.p x.k = lnGo row above 0 false
  hl : x.o.length ≤ 100 * x.p
  hz : row.length = 0 → x.o = []
theorem LSI.step {row above : List Bool} (hw : above.length = row.length) (hr : row.length ≤ 4000) {p : Nat} {k : Bool} {o : Bytes} (h : LSI row above ⟨p, k, o⟩) (hp : p ≤ row.length) (h0 : 0 < row.length) {c : Bytes} {q : Nat} {k2 : Bool} (e : lnStep row above p k = ⟨c, q, k2⟩) : p < q ∧ q ≤ row.length + 1 ∧ LSI row above ⟨q, k2, o ++ c⟩ ∧ c.length ≤ 85 := by
  obtain ⟨h1, h2, h3, h4⟩ := h
  have hs := lnStep_lt hw hp k
  have hsh := lnStep_short (above := above) hr p k
  have hg := lnGo_step hw hp k
  rw [e] at hs hsh hg
  dsimp only at *
  refine ⟨hs.1, hs.2, ⟨hs.2, ?_, ?_, fun h => by omega⟩, hsh⟩
  · dsimp only; rw [List.append_assoc, ← hg]; exact h2
  · dsimp only; rw [List.length_append]; omega
theorem LSI.done {row above : List Bool} {p : Nat} {k : Bool} {o : Bytes} (h : LSI row above ⟨p, k, o⟩) (hp : ¬ (p ≤ row.length ∧ 0 < row.length)) : o = lineB row above := by
  obtain ⟨h1, h2, h3, h4⟩ := h
  unfold lineB
  by_cases h0 : row.length = 0
  · rw [if_pos h0]; exact h4 h0
  · dsimp only at h2
    rw [if_neg h0, ← h2, lnGo_end (by omega), List.append_nil]
set_option maxHeartbeats 8000000 in
theorem refLine_ok (row above : List Bool) (hr : row.length ≤ 4000) (hw : above.length = row.length) :
    FnOk Tryd.prog 12 [.ro (.bools row), .ro (.bools above)] (.str (lineB row above)) [] := by
  refine FnOk.of_vc Tryd.func12 rfl (by decide) (by simp [Tryd.f12]) [.tmp 4] rfl fun w0 T0 _ => ?_
  simp only [Tryd.f12, argEnv]
  (repeat' first | with_reducible (first | intro _ | refine rc ?_ | refine rl ?_ | refine rh ?_ | refine ru ?_ | refine rt ?_ | refine rf ?_ | refine rs ?_ | refine And.intro ?_ ?_) | omega | simp (maxSteps := 1000000) only [go_sem, simprocAttr, ↓reduceIte])
  refine VcLoop.intro (fun x : LSx => ⟨95, [(5, .str x.o), (8, .int .i64 ((x.p : Int) - 1)), (7, .bool x.k), (6, .int .i64 row.length), (1, .ro (.bools above)), (0, .ro (.bools row))], [], 0⟩) (LSI row above) (fun x => row.length + 1 - x.p) ⟨0, false, []⟩ ?_ ⟨by dsimp only; omega, rfl, by simp, fun _ => rfl⟩ fun x hI => ?_
  · refine Ent.auto0 rfl ?_ ?_ <;> simp only [go_sem, reduceCtorEq, reduceIte, Nat.reduceEqDiff, Nat.reduceLT, Nat.reduceLeDiff, Int.natCast_succ]
    all_goals rfl
  obtain ⟨p, k, o⟩ := x
  have hI0 := hI
  obtain ⟨hp, ho, hl, _⟩ := hI
  dsimp only at *
  by_cases hlt : p ≤ row.length ∧ 0 < row.length
  rotate_left
  · have hres := hI0.done hlt
    by_cases h0 : 0 < row.length
    · have f1 : ((p : Int) - 1 < (row.length : Int)) = False := eq_false (by omega)
      (repeat' first | with_reducible (first | intro _ | refine rc ?_ | refine rl ?_ | refine rh ?_ | refine ru ?_ | refine rt ?_ | refine rf ?_ | refine rs ?_ | refine And.intro ?_ ?_) | omega | simp (maxSteps := 1000000) only [go_sem, simprocAttr, ↓reduceIte, f1])
      refine Ret.auto 0 ?_ rfl ?_ <;> simp only [go_sem, reduceCtorEq, reduceIte, Nat.reduceEqDiff, Nat.reduceLT, Nat.reduceLeDiff, Int.natCast_succ, Post, hres]
    · have f2 : (0 < (row.length : Int)) = False := eq_false (by omega)
      by_cases h1 : (p : Int) - 1 < (row.length : Int)
      · have f1 : ((p : Int) - 1 < (row.length : Int)) = True := eq_true h1
        (repeat' first | with_reducible (first | intro _ | refine rc ?_ | refine rl ?_ | refine rh ?_ | refine ru ?_ | refine rt ?_ | refine rf ?_ | refine rs ?_ | refine And.intro ?_ ?_) | omega | simp (maxSteps := 1000000) only [go_sem, simprocAttr, ↓reduceIte, f1, f2])
        refine Ret.auto 0 ?_ rfl ?_ <;> simp only [go_sem, reduceCtorEq, reduceIte, Nat.reduceEqDiff, Nat.reduceLT, Nat.reduceLeDiff, Int.natCast_succ, Post, hres]
      · have f1 : ((p : Int) - 1 < (row.length : Int)) = False := eq_false h1
        (repeat' first | with_reducible (first | intro _ | refine rc ?_ | refine rl ?_ | refine rh ?_ | refine ru ?_ | refine rt ?_ | refine rf ?_ | refine rs ?_ | refine And.intro ?_ ?_) | omega | simp (maxSteps := 1000000) only [go_sem, simprocAttr, ↓reduceIte, f1])
        refine Ret.auto 0 ?_ rfl ?_ <;> simp only [go_sem, reduceCtorEq, reduceIte, Nat.reduceEqDiff, Nat.reduceLT, Nat.reduceLeDiff, Int.natCast_succ, Post, hres]
  obtain ⟨hle, hw0⟩ := hlt
  have f1 : ((p : Int) - 1 < (row.length : Int)) = True := eq_true (by omega)
  have f2 : (0 < (row.length : Int)) = True := eq_true (by omega)
  have k1 := next_ok row p ((p : Int) - 1) rfl (by omega) hr
  have c1 := chg_le row p
  have c2 := chg_ge hle
  have k3 := ups_ok above p ((p : Int) - 1) k rfl (by omega) (by omega)
  obtain ⟨a1, hA⟩ : ∃ a1, chg row p = a1 := ⟨_, rfl⟩
  rw [hA] at k1 c1 c2
  obtain ⟨a2, hA2⟩ : ∃ a2, chg row (a1 + 1) = a2 := ⟨_, rfl⟩
  have c3 := chg_le row (a1 + 1)
  have k2 := next_ok row (a1 + 1) (a1 : Int) (by omega) (by omega) hr
  rw [hA2] at c3 k2
  have c4 : a1 ≤ a2 := by
    by_cases h : a1 < row.length
    · have := chg_ge (r := row) (i := a1 + 1) (by omega); omega
    · rw [chg_end (by omega)] at hA2; omega
  (repeat' first | with_reducible (first | intro _ | refine rc ?_ | refine rl ?_ | refine rh ?_ | refine ru ?_ | refine rt ?_ | refine rf ?_ | refine rs ?_ | refine And.intro ?_ ?_) | omega | simp (maxSteps := 1000000) only [go_sem, simprocAttr, ↓reduceIte, f1, f2])
  refine VcCall.k (k1) ?_
  by_cases hz : p = 0 ∧ row.getD 0 false = true
  · obtain ⟨h0, h1⟩ := hz
    have ha0 : a1 = 0 := by
      rw [← hA, h0, chg_lt hw0, if_neg]
      rw [h1, pxP_zero]; decide
    have f3 : ((p : Int) - 1 < 0) = True := eq_true (by omega)
    subst ha0
    rw [Int.natCast_zero] at k2
    (repeat' first | with_reducible (first | intro _ | refine rc ?_ | refine rl ?_ | refine rh ?_ | refine ru ?_ | refine rt ?_ | refine rf ?_ | refine rs ?_ | refine And.intro ?_ ?_) | omega | simp (maxSteps := 1000000) only [go_sem, simprocAttr, ↓reduceIte, f2, f3, h1])
    refine VcCall.k (k2) ?_
    (repeat' first | with_reducible (first | intro _ | refine rc ?_ | refine rl ?_ | refine rh ?_ | refine ru ?_ | refine rt ?_ | refine rf ?_ | refine rs ?_ | refine And.intro ?_ ?_) | omega | simp (maxSteps := 1000000) only [go_sem, simprocAttr, ↓reduceIte])
    obtain ⟨b1, hB1⟩ : ∃ b1, chTo above p (!k) = b1 := ⟨_, rfl⟩
    rw [hB1] at k3
    obtain ⟨b2, hB2⟩ : ∃ b2, chg above (b1 + 1) = b2 := ⟨_, rfl⟩
    rw [hB2] at k3
    have hb1 := chTo_ge (r := above) (i := p) (by omega) (!k)
    rw [hB1] at hb1
    refine VcCall.k (k3) ?_
    by_cases s1 : b2 < 0
    · exact absurd s1 (by omega)
    have f5 : ((b2 : Int) < (0 : Int)) = False := eq_false (by omega)
    by_cases s2 : 0 ≤ b1 + 3 ∧ b1 ≤ 0 + 3
    · have f6 : (-3 ≤ (0 : Int) - (b1 : Int)) = True := eq_true (by omega)
      have f7 : ((0 : Int) - (b1 : Int) ≤ 3) = True := eq_true (by omega)
      have e : lnStep row above p k = ⟨nearCs.getD (3 - b1) [], 0 + 1, !k⟩ := by unfold lnStep; rw [hB1, hB2, hA, if_neg s1, if_pos s2] <;> rfl
      obtain ⟨q1, q2, q3, q4⟩ := hI0.step hw hr hle hw0 e
      have hix : ((0 : Int) - (b1 : Int) + 3).toNat = 3 - b1 := by omega
      have hnl : nearCs.length = 7 := rfl
      (repeat' first | with_reducible (first | intro _ | refine rc ?_ | refine rl ?_ | refine rh ?_ | refine ru ?_ | refine rt ?_ | refine rf ?_ | refine rs ?_ | refine And.intro ?_ ?_) | omega | simp (maxSteps := 1000000) only [go_sem, simprocAttr, ↓reduceIte, f5, f6, f7])
      refine VcCall.fr (FnFr.of_ok vertical_ok rfl rfl) (by simp only [noIdR_ok, argOkL, argOk, allOk, argOkN, List.drop_zero, lk, reduceIte, reduceCtorEq, Nat.reduceEqDiff, Option.some.injEq, Item.row.injEq, Item.box.injEq, AV.ro.injEq, exists_eq_left, exists_and_left, exists_eq_left', exists_eq_right, and_assoc, and_true, true_and, List.cons.injEq, exists_eq', exists_eq]) 1 rfl (by simp [rowsB, Item.below, belowR_ok]) ?_
      (repeat' first | with_reducible (first | intro _ | refine rc ?_ | refine rl ?_ | refine rh ?_ | refine ru ?_ | refine rt ?_ | refine rf ?_ | refine rs ?_ | refine And.intro ?_ ?_) | omega | simp (maxSteps := 1000000) only [go_sem, simprocAttr, ↓reduceIte, renR_ok, hix, hnl, List.length_append])
      refine ⟨⟨0 + 1, !k, o ++ nearCs.getD (3 - b1) []⟩, Ent.auto0 rfl ?_ ?_, q3, by dsimp only; omega⟩ <;> simp only [go_sem, reduceCtorEq, reduceIte, Nat.reduceEqDiff, Nat.reduceLT, Nat.reduceLeDiff, Int.natCast_succ]
      all_goals omega
    have e : lnStep row above p k = ⟨farC ++ (gamB (0 - (p - 1) + 1) ++ gamB (a2 - 0 + 1)), a2 + 1, k⟩ := by unfold lnStep; rw [hB1, hB2, hA, if_neg s1, if_neg s2, hA2]
    obtain ⟨q1, q2, q3, q4⟩ := hI0.step hw hr hle hw0 e
    have hmx : max ((p : Int) - 1) 0 = ((p - 1 : Nat) : Int) := by omega
    have g1 := refGamma_ok (0 - (p - 1) + 1) (by omega)
    rw [show ((0 - (p - 1) + 1 : Nat) : Int) = (0 : Int) - ((p - 1 : Nat) : Int) + 1 by omega] at g1
    have g2 := refGamma_ok (a2 - 0 + 1) (by omega)
    rw [show ((a2 - 0 + 1 : Nat) : Int) = (a2 : Nat) - (0 : Int) + 1 by omega] at g2
    have hs1 := gam_short (n := 0 - (p - 1) + 1) (by omega)
    have hs2 := gam_short (n := a2 - 0 + 1) (by omega)
    generalize gamB (0 - (p - 1) + 1) = x1 at *
    generalize gamB (a2 - 0 + 1) = x2 at *
    have fin : ∀ (F : Prop), F → F := fun _ h => h
    by_cases s3 : 0 + 3 < b1
    · have f6 : (-3 ≤ (0 : Int) - (b1 : Int)) = False := eq_false (by omega)
      (repeat' first | with_reducible (first | intro _ | refine rc ?_ | refine rl ?_ | refine rh ?_ | refine ru ?_ | refine rt ?_ | refine rf ?_ | refine rs ?_ | refine And.intro ?_ ?_) | omega | simp (maxSteps := 1000000) only [go_sem, simprocAttr, ↓reduceIte, f5, f6, hmx])
      refine VcCall.k (g1) ?_
      (repeat' first | with_reducible (first | intro _ | refine rc ?_ | refine rl ?_ | refine rh ?_ | refine ru ?_ | refine rt ?_ | refine rf ?_ | refine rs ?_ | refine And.intro ?_ ?_) | omega | simp (maxSteps := 1000000) only [go_sem, simprocAttr, ↓reduceIte, List.length_append])
      refine VcCall.k (g2) ?_
      (repeat' first | with_reducible (first | intro _ | refine rc ?_ | refine rl ?_ | refine rh ?_ | refine ru ?_ | refine rt ?_ | refine rf ?_ | refine rs ?_ | refine And.intro ?_ ?_) | omega | simp (maxSteps := 1000000) only [go_sem, simprocAttr, ↓reduceIte, List.length_append])
      refine ⟨⟨a2 + 1, k, o ++ (farC ++ (x1 ++ x2))⟩, Ent.auto0 rfl ?_ ?_, q3, by dsimp only; omega⟩ <;> simp only [go_sem, reduceCtorEq, reduceIte, Nat.reduceEqDiff, Nat.reduceLT, Nat.reduceLeDiff, Int.natCast_succ, farC, List.append_assoc, List.cons_append, List.nil_append]
      all_goals omega
    · exact absurd ⟨by omega, by omega⟩ s2
  have hcase : (((p : Int) - 1 < 0) = False) ∨ (((p : Int) - 1 < 0) = True ∧ row.getD 0 false = false) := by
    by_cases h : p = 0
    · right
      refine ⟨eq_true (by omega), ?_⟩
      cases hb : row.getD 0 false with
      | false => rfl
      | true => exact absurd ⟨h, hb⟩ hz
    · exact .inl (eq_false (by omega))
  by_cases ha : a1 < row.length
  · have f4 : ((a1 : Int) < (row.length : Int)) = True := eq_true (by omega)
    rcases hcase with f3 | ⟨f3, f8⟩
    · (repeat' first | with_reducible (first | intro _ | refine rc ?_ | refine rl ?_ | refine rh ?_ | refine ru ?_ | refine rt ?_ | refine rf ?_ | refine rs ?_ | refine And.intro ?_ ?_) | omega | simp (maxSteps := 1000000) only [go_sem, simprocAttr, ↓reduceIte, f2, f3, f4])
      refine VcCall.k (k2) ?_
      (repeat' first | with_reducible (first | intro _ | refine rc ?_ | refine rl ?_ | refine rh ?_ | refine ru ?_ | refine rt ?_ | refine rf ?_ | refine rs ?_ | refine And.intro ?_ ?_) | omega | simp (maxSteps := 1000000) only [go_sem, simprocAttr, ↓reduceIte])
      obtain ⟨b1, hB1⟩ : ∃ b1, chTo above p (!k) = b1 := ⟨_, rfl⟩
      rw [hB1] at k3
      obtain ⟨b2, hB2⟩ : ∃ b2, chg above (b1 + 1) = b2 := ⟨_, rfl⟩
      rw [hB2] at k3
      have hb1 := chTo_ge (r := above) (i := p) (by omega) (!k)
      rw [hB1] at hb1
      refine VcCall.k (k3) ?_
      by_cases s1 : b2 < a1
      · have f5 : ((b2 : Int) < (a1 : Int)) = True := eq_true (by omega)
        have e : lnStep row above p k = ⟨passC, b2 + 1, k⟩ := by unfold lnStep; rw [hB1, hB2, hA, if_pos s1]
        obtain ⟨q1, q2, q3, q4⟩ := hI0.step hw hr hle hw0 e
        (repeat' first | with_reducible (first | intro _ | refine rc ?_ | refine rl ?_ | refine rh ?_ | refine ru ?_ | refine rt ?_ | refine rf ?_ | refine rs ?_ | refine And.intro ?_ ?_) | omega | simp (maxSteps := 1000000) only [go_sem, simprocAttr, ↓reduceIte, f5, List.length_append])
        refine ⟨⟨b2 + 1, k, o ++ passC⟩, Ent.auto0 rfl ?_ ?_, q3, by dsimp only; omega⟩ <;> simp only [go_sem, reduceCtorEq, reduceIte, Nat.reduceEqDiff, Nat.reduceLT, Nat.reduceLeDiff, Int.natCast_succ, passC]
        all_goals omega
      have f5 : ((b2 : Int) < (a1 : Int)) = False := eq_false (by omega)
      by_cases s2 : a1 ≤ b1 + 3 ∧ b1 ≤ a1 + 3
      · have f6 : (-3 ≤ (a1 : Int) - (b1 : Int)) = True := eq_true (by omega)
        have f7 : ((a1 : Int) - (b1 : Int) ≤ 3) = True := eq_true (by omega)
        have e : lnStep row above p k = ⟨nearCs.getD (a1 + 3 - b1) [], a1 + 1, !k⟩ := by unfold lnStep; rw [hB1, hB2, hA, if_neg s1, if_pos s2] <;> rfl
        obtain ⟨q1, q2, q3, q4⟩ := hI0.step hw hr hle hw0 e
        have hix : ((a1 : Int) - (b1 : Int) + 3).toNat = a1 + 3 - b1 := by omega
        have hnl : nearCs.length = 7 := rfl
        (repeat' first | with_reducible (first | intro _ | refine rc ?_ | refine rl ?_ | refine rh ?_ | refine ru ?_ | refine rt ?_ | refine rf ?_ | refine rs ?_ | refine And.intro ?_ ?_) | omega | simp (maxSteps := 1000000) only [go_sem, simprocAttr, ↓reduceIte, f5, f6, f7])
        refine VcCall.fr (FnFr.of_ok vertical_ok rfl rfl) (by simp only [noIdR_ok, argOkL, argOk, allOk, argOkN, List.drop_zero, lk, reduceIte, reduceCtorEq, Nat.reduceEqDiff, Option.some.injEq, Item.row.injEq, Item.box.injEq, AV.ro.injEq, exists_eq_left, exists_and_left, exists_eq_left', exists_eq_right, and_assoc, and_true, true_and, List.cons.injEq, exists_eq', exists_eq]) 1 rfl (by simp [rowsB, Item.below, belowR_ok]) ?_
        (repeat' first | with_reducible (first | intro _ | refine rc ?_ | refine rl ?_ | refine rh ?_ | refine ru ?_ | refine rt ?_ | refine rf ?_ | refine rs ?_ | refine And.intro ?_ ?_) | omega | simp (maxSteps := 1000000) only [go_sem, simprocAttr, ↓reduceIte, renR_ok, hix, hnl, List.length_append])
        refine ⟨⟨a1 + 1, !k, o ++ nearCs.getD (a1 + 3 - b1) []⟩, Ent.auto0 rfl ?_ ?_, q3, by dsimp only; omega⟩ <;> simp only [go_sem, reduceCtorEq, reduceIte, Nat.reduceEqDiff, Nat.reduceLT, Nat.reduceLeDiff, Int.natCast_succ]
        all_goals omega
      have e : lnStep row above p k = ⟨farC ++ (gamB (a1 - (p - 1) + 1) ++ gamB (a2 - a1 + 1)), a2 + 1, k⟩ := by unfold lnStep; rw [hB1, hB2, hA, if_neg s1, if_neg s2, hA2]
      obtain ⟨q1, q2, q3, q4⟩ := hI0.step hw hr hle hw0 e
      have hmx : max ((p : Int) - 1) 0 = ((p - 1 : Nat) : Int) := by omega
      have g1 := refGamma_ok (a1 - (p - 1) + 1) (by omega)
      rw [show ((a1 - (p - 1) + 1 : Nat) : Int) = (a1 : Int) - ((p - 1 : Nat) : Int) + 1 by omega] at g1
      have g2 := refGamma_ok (a2 - a1 + 1) (by omega)
      rw [show ((a2 - a1 + 1 : Nat) : Int) = (a2 : Nat) - (a1 : Int) + 1 by omega] at g2
      have hs1 := gam_short (n := a1 - (p - 1) + 1) (by omega)
      have hs2 := gam_short (n := a2 - a1 + 1) (by omega)
      generalize gamB (a1 - (p - 1) + 1) = x1 at *
      generalize gamB (a2 - a1 + 1) = x2 at *
      have fin : ∀ (F : Prop), F → F := fun _ h => h
      by_cases s3 : a1 + 3 < b1
      · have f6 : (-3 ≤ (a1 : Int) - (b1 : Int)) = False := eq_false (by omega)
        (repeat' first | with_reducible (first | intro _ | refine rc ?_ | refine rl ?_ | refine rh ?_ | refine ru ?_ | refine rt ?_ | refine rf ?_ | refine rs ?_ | refine And.intro ?_ ?_) | omega | simp (maxSteps := 1000000) only [go_sem, simprocAttr, ↓reduceIte, f5, f6, hmx])
        refine VcCall.k (g1) ?_
        (repeat' first | with_reducible (first | intro _ | refine rc ?_ | refine rl ?_ | refine rh ?_ | refine ru ?_ | refine rt ?_ | refine rf ?_ | refine rs ?_ | refine And.intro ?_ ?_) | omega | simp (maxSteps := 1000000) only [go_sem, simprocAttr, ↓reduceIte, List.length_append])
        refine VcCall.k (g2) ?_
        (repeat' first | with_reducible (first | intro _ | refine rc ?_ | refine rl ?_ | refine rh ?_ | refine ru ?_ | refine rt ?_ | refine rf ?_ | refine rs ?_ | refine And.intro ?_ ?_) | omega | simp (maxSteps := 1000000) only [go_sem, simprocAttr, ↓reduceIte, List.length_append])
        refine ⟨⟨a2 + 1, k, o ++ (farC ++ (x1 ++ x2))⟩, Ent.auto0 rfl ?_ ?_, q3, by dsimp only; omega⟩ <;> simp only [go_sem, reduceCtorEq, reduceIte, Nat.reduceEqDiff, Nat.reduceLT, Nat.reduceLeDiff, Int.natCast_succ, farC, List.append_assoc, List.cons_append, List.nil_append]
        all_goals omega
      · have f6 : (-3 ≤ (a1 : Int) - (b1 : Int)) = True := eq_true (by omega)
        have f7 : ((a1 : Int) - (b1 : Int) ≤ 3) = False := eq_false (by omega)
        (repeat' first | with_reducible (first | intro _ | refine rc ?_ | refine rl ?_ | refine rh ?_ | refine ru ?_ | refine rt ?_ | refine rf ?_ | refine rs ?_ | refine And.intro ?_ ?_) | omega | simp (maxSteps := 1000000) only [go_sem, simprocAttr, ↓reduceIte, f5, f6, f7, hmx])
        refine VcCall.k (g1) ?_
        (repeat' first | with_reducible (first | intro _ | refine rc ?_ | refine rl ?_ | refine rh ?_ | refine ru ?_ | refine rt ?_ | refine rf ?_ | refine rs ?_ | refine And.intro ?_ ?_) | omega | simp (maxSteps := 1000000) only [go_sem, simprocAttr, ↓reduceIte, List.length_append])
        refine VcCall.k (g2) ?_
        (repeat' first | with_reducible (first | intro _ | refine rc ?_ | refine rl ?_ | refine rh ?_ | refine ru ?_ | refine rt ?_ | refine rf ?_ | refine rs ?_ | refine And.intro ?_ ?_) | omega | simp (maxSteps := 1000000) only [go_sem, simprocAttr, ↓reduceIte, List.length_append])
        refine ⟨⟨a2 + 1, k, o ++ (farC ++ (x1 ++ x2))⟩, Ent.auto0 rfl ?_ ?_, q3, by dsimp only; omega⟩ <;> simp only [go_sem, reduceCtorEq, reduceIte, Nat.reduceEqDiff, Nat.reduceLT, Nat.reduceLeDiff, Int.natCast_succ, farC, List.append_assoc, List.cons_append, List.nil_append]
        all_goals omega
    · (repeat' first | with_reducible (first | intro _ | refine rc ?_ | refine rl ?_ | refine rh ?_ | refine ru ?_ | refine rt ?_ | refine rf ?_ | refine rs ?_ | refine And.intro ?_ ?_) | omega | simp (maxSteps := 1000000) only [go_sem, simprocAttr, ↓reduceIte, f2, f3, f4, f8])
      refine VcCall.k (k2) ?_
      (repeat' first | with_reducible (first | intro _ | refine rc ?_ | refine rl ?_ | refine rh ?_ | refine ru ?_ | refine rt ?_ | refine rf ?_ | refine rs ?_ | refine And.intro ?_ ?_) | omega | simp (maxSteps := 1000000) only [go_sem, simprocAttr, ↓reduceIte])
      obtain ⟨b1, hB1⟩ : ∃ b1, chTo above p (!k) = b1 := ⟨_, rfl⟩
      rw [hB1] at k3
      obtain ⟨b2, hB2⟩ : ∃ b2, chg above (b1 + 1) = b2 := ⟨_, rfl⟩
      rw [hB2] at k3
      have hb1 := chTo_ge (r := above) (i := p) (by omega) (!k)
      rw [hB1] at hb1
      refine VcCall.k (k3) ?_
      by_cases s1 : b2 < a1
      · have f5 : ((b2 : Int) < (a1 : Int)) = True := eq_true (by omega)
        have e : lnStep row above p k = ⟨passC, b2 + 1, k⟩ := by unfold lnStep; rw [hB1, hB2, hA, if_pos s1]
        obtain ⟨q1, q2, q3, q4⟩ := hI0.step hw hr hle hw0 e
        (repeat' first | with_reducible (first | intro _ | refine rc ?_ | refine rl ?_ | refine rh ?_ | refine ru ?_ | refine rt ?_ | refine rf ?_ | refine rs ?_ | refine And.intro ?_ ?_) | omega | simp (maxSteps := 1000000) only [go_sem, simprocAttr, ↓reduceIte, f5, List.length_append])
        refine ⟨⟨b2 + 1, k, o ++ passC⟩, Ent.auto0 rfl ?_ ?_, q3, by dsimp only; omega⟩ <;> simp only [go_sem, reduceCtorEq, reduceIte, Nat.reduceEqDiff, Nat.reduceLT, Nat.reduceLeDiff, Int.natCast_succ, passC]
        all_goals omega
      have f5 : ((b2 : Int) < (a1 : Int)) = False := eq_false (by omega)
      by_cases s2 : a1 ≤ b1 + 3 ∧ b1 ≤ a1 + 3
      · have f6 : (-3 ≤ (a1 : Int) - (b1 : Int)) = True := eq_true (by omega)
        have f7 : ((a1 : Int) - (b1 : Int) ≤ 3) = True := eq_true (by omega)
        have e : lnStep row above p k = ⟨nearCs.getD (a1 + 3 - b1) [], a1 + 1, !k⟩ := by unfold lnStep; rw [hB1, hB2, hA, if_neg s1, if_pos s2] <;> rfl
        obtain ⟨q1, q2, q3, q4⟩ := hI0.step hw hr hle hw0 e
        have hix : ((a1 : Int) - (b1 : Int) + 3).toNat = a1 + 3 - b1 := by omega
        have hnl : nearCs.length = 7 := rfl
        (repeat' first | with_reducible (first | intro _ | refine rc ?_ | refine rl ?_ | refine rh ?_ | refine ru ?_ | refine rt ?_ | refine rf ?_ | refine rs ?_ | refine And.intro ?_ ?_) | omega | simp (maxSteps := 1000000) only [go_sem, simprocAttr, ↓reduceIte, f5, f6, f7])
        refine VcCall.fr (FnFr.of_ok vertical_ok rfl rfl) (by simp only [noIdR_ok, argOkL, argOk, allOk, argOkN, List.drop_zero, lk, reduceIte, reduceCtorEq, Nat.reduceEqDiff, Option.some.injEq, Item.row.injEq, Item.box.injEq, AV.ro.injEq, exists_eq_left, exists_and_left, exists_eq_left', exists_eq_right, and_assoc, and_true, true_and, List.cons.injEq, exists_eq', exists_eq]) 1 rfl (by simp [rowsB, Item.below, belowR_ok]) ?_
        (repeat' first | with_reducible (first | intro _ | refine rc ?_ | refine rl ?_ | refine rh ?_ | refine ru ?_ | refine rt ?_ | refine rf ?_ | refine rs ?_ | refine And.intro ?_ ?_) | omega | simp (maxSteps := 1000000) only [go_sem, simprocAttr, ↓reduceIte, renR_ok, hix, hnl, List.length_append])
        refine ⟨⟨a1 + 1, !k, o ++ nearCs.getD (a1 + 3 - b1) []⟩, Ent.auto0 rfl ?_ ?_, q3, by dsimp only; omega⟩ <;> simp only [go_sem, reduceCtorEq, reduceIte, Nat.reduceEqDiff, Nat.reduceLT, Nat.reduceLeDiff, Int.natCast_succ]
        all_goals omega
      have e : lnStep row above p k = ⟨farC ++ (gamB (a1 - (p - 1) + 1) ++ gamB (a2 - a1 + 1)), a2 + 1, k⟩ := by unfold lnStep; rw [hB1, hB2, hA, if_neg s1, if_neg s2, hA2]
      obtain ⟨q1, q2, q3, q4⟩ := hI0.step hw hr hle hw0 e
      have hmx : max ((p : Int) - 1) 0 = ((p - 1 : Nat) : Int) := by omega
      have g1 := refGamma_ok (a1 - (p - 1) + 1) (by omega)
      rw [show ((a1 - (p - 1) + 1 : Nat) : Int) = (a1 : Int) - ((p - 1 : Nat) : Int) + 1 by omega] at g1
      have g2 := refGamma_ok (a2 - a1 + 1) (by omega)
      rw [show ((a2 - a1 + 1 : Nat) : Int) = (a2 : Nat) - (a1 : Int) + 1 by omega] at g2
      have hs1 := gam_short (n := a1 - (p - 1) + 1) (by omega)
      have hs2 := gam_short (n := a2 - a1 + 1) (by omega)
      generalize gamB (a1 - (p - 1) + 1) = x1 at *
      generalize gamB (a2 - a1 + 1) = x2 at *
      have fin : ∀ (F : Prop), F → F := fun _ h => h
      by_cases s3 : a1 + 3 < b1
      · have f6 : (-3 ≤ (a1 : Int) - (b1 : Int)) = False := eq_false (by omega)
        (repeat' first | with_reducible (first | intro _ | refine rc ?_ | refine rl ?_ | refine rh ?_ | refine ru ?_ | refine rt ?_ | refine rf ?_ | refine rs ?_ | refine And.intro ?_ ?_) | omega | simp (maxSteps := 1000000) only [go_sem, simprocAttr, ↓reduceIte, f5, f6, hmx])
        refine VcCall.k (g1) ?_
        (repeat' first | with_reducible (first | intro _ | refine rc ?_ | refine rl ?_ | refine rh ?_ | refine ru ?_ | refine rt ?_ | refine rf ?_ | refine rs ?_ | refine And.intro ?_ ?_) | omega | simp (maxSteps := 1000000) only [go_sem, simprocAttr, ↓reduceIte, List.length_append])
        refine VcCall.k (g2) ?_
        (repeat' first | with_reducible (first | intro _ | refine rc ?_ | refine rl ?_ | refine rh ?_ | refine ru ?_ | refine rt ?_ | refine rf ?_ | refine rs ?_ | refine And.intro ?_ ?_) | omega | simp (maxSteps := 1000000) only [go_sem, simprocAttr, ↓reduceIte, List.length_append])
        refine ⟨⟨a2 + 1, k, o ++ (farC ++ (x1 ++ x2))⟩, Ent.auto0 rfl ?_ ?_, q3, by dsimp only; omega⟩ <;> simp only [go_sem, reduceCtorEq, reduceIte, Nat.reduceEqDiff, Nat.reduceLT, Nat.reduceLeDiff, Int.natCast_succ, farC, List.append_assoc, List.cons_append, List.nil_append]
        all_goals omega
      · have f6 : (-3 ≤ (a1 : Int) - (b1 : Int)) = True := eq_true (by omega)
        have f7 : ((a1 : Int) - (b1 : Int) ≤ 3) = False := eq_false (by omega)
        (repeat' first | with_reducible (first | intro _ | refine rc ?_ | refine rl ?_ | refine rh ?_ | refine ru ?_ | refine rt ?_ | refine rf ?_ | refine rs ?_ | refine And.intro ?_ ?_) | omega | simp (maxSteps := 1000000) only [go_sem, simprocAttr, ↓reduceIte, f5, f6, f7, hmx])
        refine VcCall.k (g1) ?_
        (repeat' first | with_reducible (first | intro _ | refine rc ?_ | refine rl ?_ | refine rh ?_ | refine ru ?_ | refine rt ?_ | refine rf ?_ | refine rs ?_ | refine And.intro ?_ ?_) | omega | simp (maxSteps := 1000000) only [go_sem, simprocAttr, ↓reduceIte, List.length_append])
        refine VcCall.k (g2) ?_
        (repeat' first | with_reducible (first | intro _ | refine rc ?_ | refine rl ?_ | refine rh ?_ | refine ru ?_ | refine rt ?_ | refine rf ?_ | refine rs ?_ | refine And.intro ?_ ?_) | omega | simp (maxSteps := 1000000) only [go_sem, simprocAttr, ↓reduceIte, List.length_append])
        refine ⟨⟨a2 + 1, k, o ++ (farC ++ (x1 ++ x2))⟩, Ent.auto0 rfl ?_ ?_, q3, by dsimp only; omega⟩ <;> simp only [go_sem, reduceCtorEq, reduceIte, Nat.reduceEqDiff, Nat.reduceLT, Nat.reduceLeDiff, Int.natCast_succ, farC, List.append_assoc, List.cons_append, List.nil_append]
        all_goals omega
  · have f4 : ((a1 : Int) < (row.length : Int)) = False := eq_false (by omega)
    have ha2 : a2 = row.length := by rw [← hA2, chg_end (by omega)]
    subst ha2
    rcases hcase with f3 | ⟨f3, f8⟩
    · (repeat' first | with_reducible (first | intro _ | refine rc ?_ | refine rl ?_ | refine rh ?_ | refine ru ?_ | refine rt ?_ | refine rf ?_ | refine rs ?_ | refine And.intro ?_ ?_) | omega | simp (maxSteps := 1000000) only [go_sem, simprocAttr, ↓reduceIte, f2, f3, f4])
      obtain ⟨b1, hB1⟩ : ∃ b1, chTo above p (!k) = b1 := ⟨_, rfl⟩
      rw [hB1] at k3
      obtain ⟨b2, hB2⟩ : ∃ b2, chg above (b1 + 1) = b2 := ⟨_, rfl⟩
      rw [hB2] at k3
      have hb1 := chTo_ge (r := above) (i := p) (by omega) (!k)
      rw [hB1] at hb1
      refine VcCall.k (k3) ?_
      by_cases s1 : b2 < a1
      · have f5 : ((b2 : Int) < (a1 : Int)) = True := eq_true (by omega)
        have e : lnStep row above p k = ⟨passC, b2 + 1, k⟩ := by unfold lnStep; rw [hB1, hB2, hA, if_pos s1]
        obtain ⟨q1, q2, q3, q4⟩ := hI0.step hw hr hle hw0 e
        (repeat' first | with_reducible (first | intro _ | refine rc ?_ | refine rl ?_ | refine rh ?_ | refine ru ?_ | refine rt ?_ | refine rf ?_ | refine rs ?_ | refine And.intro ?_ ?_) | omega | simp (maxSteps := 1000000) only [go_sem, simprocAttr, ↓reduceIte, f5, List.length_append])
        refine ⟨⟨b2 + 1, k, o ++ passC⟩, Ent.auto0 rfl ?_ ?_, q3, by dsimp only; omega⟩ <;> simp only [go_sem, reduceCtorEq, reduceIte, Nat.reduceEqDiff, Nat.reduceLT, Nat.reduceLeDiff, Int.natCast_succ, passC]
        all_goals omega
      have f5 : ((b2 : Int) < (a1 : Int)) = False := eq_false (by omega)
      by_cases s2 : a1 ≤ b1 + 3 ∧ b1 ≤ a1 + 3
      · have f6 : (-3 ≤ (a1 : Int) - (b1 : Int)) = True := eq_true (by omega)
        have f7 : ((a1 : Int) - (b1 : Int) ≤ 3) = True := eq_true (by omega)
        have e : lnStep row above p k = ⟨nearCs.getD (a1 + 3 - b1) [], a1 + 1, !k⟩ := by unfold lnStep; rw [hB1, hB2, hA, if_neg s1, if_pos s2] <;> rfl
        obtain ⟨q1, q2, q3, q4⟩ := hI0.step hw hr hle hw0 e
        have hix : ((a1 : Int) - (b1 : Int) + 3).toNat = a1 + 3 - b1 := by omega
        have hnl : nearCs.length = 7 := rfl
        (repeat' first | with_reducible (first | intro _ | refine rc ?_ | refine rl ?_ | refine rh ?_ | refine ru ?_ | refine rt ?_ | refine rf ?_ | refine rs ?_ | refine And.intro ?_ ?_) | omega | simp (maxSteps := 1000000) only [go_sem, simprocAttr, ↓reduceIte, f5, f6, f7])
        refine VcCall.fr (FnFr.of_ok vertical_ok rfl rfl) (by simp only [noIdR_ok, argOkL, argOk, allOk, argOkN, List.drop_zero, lk, reduceIte, reduceCtorEq, Nat.reduceEqDiff, Option.some.injEq, Item.row.injEq, Item.box.injEq, AV.ro.injEq, exists_eq_left, exists_and_left, exists_eq_left', exists_eq_right, and_assoc, and_true, true_and, List.cons.injEq, exists_eq', exists_eq]) 1 rfl (by simp [rowsB, Item.below, belowR_ok]) ?_
        (repeat' first | with_reducible (first | intro _ | refine rc ?_ | refine rl ?_ | refine rh ?_ | refine ru ?_ | refine rt ?_ | refine rf ?_ | refine rs ?_ | refine And.intro ?_ ?_) | omega | simp (maxSteps := 1000000) only [go_sem, simprocAttr, ↓reduceIte, renR_ok, hix, hnl, List.length_append])
        refine ⟨⟨a1 + 1, !k, o ++ nearCs.getD (a1 + 3 - b1) []⟩, Ent.auto0 rfl ?_ ?_, q3, by dsimp only; omega⟩ <;> simp only [go_sem, reduceCtorEq, reduceIte, Nat.reduceEqDiff, Nat.reduceLT, Nat.reduceLeDiff, Int.natCast_succ]
        all_goals omega
      have e : lnStep row above p k = ⟨farC ++ (gamB (a1 - (p - 1) + 1) ++ gamB (row.length - a1 + 1)), row.length + 1, k⟩ := by unfold lnStep; rw [hB1, hB2, hA, if_neg s1, if_neg s2, hA2]
      obtain ⟨q1, q2, q3, q4⟩ := hI0.step hw hr hle hw0 e
      have hmx : max ((p : Int) - 1) 0 = ((p - 1 : Nat) : Int) := by omega
      have g1 := refGamma_ok (a1 - (p - 1) + 1) (by omega)
      rw [show ((a1 - (p - 1) + 1 : Nat) : Int) = (a1 : Int) - ((p - 1 : Nat) : Int) + 1 by omega] at g1
      have g2 := refGamma_ok (row.length - a1 + 1) (by omega)
      rw [show ((row.length - a1 + 1 : Nat) : Int) = (row.length : Nat) - (a1 : Int) + 1 by omega] at g2
      have hs1 := gam_short (n := a1 - (p - 1) + 1) (by omega)
      have hs2 := gam_short (n := row.length - a1 + 1) (by omega)
      generalize gamB (a1 - (p - 1) + 1) = x1 at *
      generalize gamB (row.length - a1 + 1) = x2 at *
      have fin : ∀ (F : Prop), F → F := fun _ h => h
      by_cases s3 : a1 + 3 < b1
      · exact absurd s3 (by omega)
      · have f6 : (-3 ≤ (a1 : Int) - (b1 : Int)) = True := eq_true (by omega)
        have f7 : ((a1 : Int) - (b1 : Int) ≤ 3) = False := eq_false (by omega)
        (repeat' first | with_reducible (first | intro _ | refine rc ?_ | refine rl ?_ | refine rh ?_ | refine ru ?_ | refine rt ?_ | refine rf ?_ | refine rs ?_ | refine And.intro ?_ ?_) | omega | simp (maxSteps := 1000000) only [go_sem, simprocAttr, ↓reduceIte, f5, f6, f7, hmx])
        refine VcCall.k (g1) ?_
        (repeat' first | with_reducible (first | intro _ | refine rc ?_ | refine rl ?_ | refine rh ?_ | refine ru ?_ | refine rt ?_ | refine rf ?_ | refine rs ?_ | refine And.intro ?_ ?_) | omega | simp (maxSteps := 1000000) only [go_sem, simprocAttr, ↓reduceIte, List.length_append])
        refine VcCall.k (g2) ?_
        (repeat' first | with_reducible (first | intro _ | refine rc ?_ | refine rl ?_ | refine rh ?_ | refine ru ?_ | refine rt ?_ | refine rf ?_ | refine rs ?_ | refine And.intro ?_ ?_) | omega | simp (maxSteps := 1000000) only [go_sem, simprocAttr, ↓reduceIte, List.length_append])
        refine ⟨⟨row.length + 1, k, o ++ (farC ++ (x1 ++ x2))⟩, Ent.auto0 rfl ?_ ?_, q3, by dsimp only; omega⟩ <;> simp only [go_sem, reduceCtorEq, reduceIte, Nat.reduceEqDiff, Nat.reduceLT, Nat.reduceLeDiff, Int.natCast_succ, farC, List.append_assoc, List.cons_append, List.nil_append]
        all_goals omega
    · (repeat' first | with_reducible (first | intro _ | refine rc ?_ | refine rl ?_ | refine rh ?_ | refine ru ?_ | refine rt ?_ | refine rf ?_ | refine rs ?_ | refine And.intro ?_ ?_) | omega | simp (maxSteps := 1000000) only [go_sem, simprocAttr, ↓reduceIte, f2, f3, f4, f8])
      obtain ⟨b1, hB1⟩ : ∃ b1, chTo above p (!k) = b1 := ⟨_, rfl⟩
      rw [hB1] at k3
      obtain ⟨b2, hB2⟩ : ∃ b2, chg above (b1 + 1) = b2 := ⟨_, rfl⟩
      rw [hB2] at k3
      have hb1 := chTo_ge (r := above) (i := p) (by omega) (!k)
      rw [hB1] at hb1
      refine VcCall.k (k3) ?_
      by_cases s1 : b2 < a1
      · have f5 : ((b2 : Int) < (a1 : Int)) = True := eq_true (by omega)
        have e : lnStep row above p k = ⟨passC, b2 + 1, k⟩ := by unfold lnStep; rw [hB1, hB2, hA, if_pos s1]
        obtain ⟨q1, q2, q3, q4⟩ := hI0.step hw hr hle hw0 e
        (repeat' first | with_reducible (first | intro _ | refine rc ?_ | refine rl ?_ | refine rh ?_ | refine ru ?_ | refine rt ?_ | refine rf ?_ | refine rs ?_ | refine And.intro ?_ ?_) | omega | simp (maxSteps := 1000000) only [go_sem, simprocAttr, ↓reduceIte, f5, List.length_append])
        refine ⟨⟨b2 + 1, k, o ++ passC⟩, Ent.auto0 rfl ?_ ?_, q3, by dsimp only; omega⟩ <;> simp only [go_sem, reduceCtorEq, reduceIte, Nat.reduceEqDiff, Nat.reduceLT, Nat.reduceLeDiff, Int.natCast_succ, passC]
        all_goals omega
      have f5 : ((b2 : Int) < (a1 : Int)) = False := eq_false (by omega)
      by_cases s2 : a1 ≤ b1 + 3 ∧ b1 ≤ a1 + 3
      · have f6 : (-3 ≤ (a1 : Int) - (b1 : Int)) = True := eq_true (by omega)
        have f7 : ((a1 : Int) - (b1 : Int) ≤ 3) = True := eq_true (by omega)
        have e : lnStep row above p k = ⟨nearCs.getD (a1 + 3 - b1) [], a1 + 1, !k⟩ := by unfold lnStep; rw [hB1, hB2, hA, if_neg s1, if_pos s2] <;> rfl
        obtain ⟨q1, q2, q3, q4⟩ := hI0.step hw hr hle hw0 e
        have hix : ((a1 : Int) - (b1 : Int) + 3).toNat = a1 + 3 - b1 := by omega
        have hnl : nearCs.length = 7 := rfl
        (repeat' first | with_reducible (first | intro _ | refine rc ?_ | refine rl ?_ | refine rh ?_ | refine ru ?_ | refine rt ?_ | refine rf ?_ | refine rs ?_ | refine And.intro ?_ ?_) | omega | simp (maxSteps := 1000000) only [go_sem, simprocAttr, ↓reduceIte, f5, f6, f7])
        refine VcCall.fr (FnFr.of_ok vertical_ok rfl rfl) (by simp only [noIdR_ok, argOkL, argOk, allOk, argOkN, List.drop_zero, lk, reduceIte, reduceCtorEq, Nat.reduceEqDiff, Option.some.injEq, Item.row.injEq, Item.box.injEq, AV.ro.injEq, exists_eq_left, exists_and_left, exists_eq_left', exists_eq_right, and_assoc, and_true, true_and, List.cons.injEq, exists_eq', exists_eq]) 1 rfl (by simp [rowsB, Item.below, belowR_ok]) ?_
        (repeat' first | with_reducible (first | intro _ | refine rc ?_ | refine rl ?_ | refine rh ?_ | refine ru ?_ | refine rt ?_ | refine rf ?_ | refine rs ?_ | refine And.intro ?_ ?_) | omega | simp (maxSteps := 1000000) only [go_sem, simprocAttr, ↓reduceIte, renR_ok, hix, hnl, List.length_append])
        refine ⟨⟨a1 + 1, !k, o ++ nearCs.getD (a1 + 3 - b1) []⟩, Ent.auto0 rfl ?_ ?_, q3, by dsimp only; omega⟩ <;> simp only [go_sem, reduceCtorEq, reduceIte, Nat.reduceEqDiff, Nat.reduceLT, Nat.reduceLeDiff, Int.natCast_succ]
        all_goals omega
      have e : lnStep row above p k = ⟨farC ++ (gamB (a1 - (p - 1) + 1) ++ gamB (row.length - a1 + 1)), row.length + 1, k⟩ := by unfold lnStep; rw [hB1, hB2, hA, if_neg s1, if_neg s2, hA2]
      obtain ⟨q1, q2, q3, q4⟩ := hI0.step hw hr hle hw0 e
      have hmx : max ((p : Int) - 1) 0 = ((p - 1 : Nat) : Int) := by omega
      have g1 := refGamma_ok (a1 - (p - 1) + 1) (by omega)
      rw [show ((a1 - (p - 1) + 1 : Nat) : Int) = (a1 : Int) - ((p - 1 : Nat) : Int) + 1 by omega] at g1
      have g2 := refGamma_ok (row.length - a1 + 1) (by omega)
      rw [show ((row.length - a1 + 1 : Nat) : Int) = (row.length : Nat) - (a1 : Int) + 1 by omega] at g2
      have hs1 := gam_short (n := a1 - (p - 1) + 1) (by omega)
      have hs2 := gam_short (n := row.length - a1 + 1) (by omega)
      generalize gamB (a1 - (p - 1) + 1) = x1 at *
      generalize gamB (row.length - a1 + 1) = x2 at *
      have fin : ∀ (F : Prop), F → F := fun _ h => h
      by_cases s3 : a1 + 3 < b1
      · exact absurd s3 (by omega)
      · have f6 : (-3 ≤ (a1 : Int) - (b1 : Int)) = True := eq_true (by omega)
        have f7 : ((a1 : Int) - (b1 : Int) ≤ 3) = False := eq_false (by omega)
        (repeat' first | with_reducible (first | intro _ | refine rc ?_ | refine rl ?_ | refine rh ?_ | refine ru ?_ | refine rt ?_ | refine rf ?_ | refine rs ?_ | refine And.intro ?_ ?_) | omega | simp (maxSteps := 1000000) only [go_sem, simprocAttr, ↓reduceIte, f5, f6, f7, hmx])
        refine VcCall.k (g1) ?_
        (repeat' first | with_reducible (first | intro _ | refine rc ?_ | refine rl ?_ | refine rh ?_ | refine ru ?_ | refine rt ?_ | refine rf ?_ | refine rs ?_ | refine And.intro ?_ ?_) | omega | simp (maxSteps := 1000000) only [go_sem, simprocAttr, ↓reduceIte, List.length_append])
        refine VcCall.k (g2) ?_
        (repeat' first | with_reducible (first | intro _ | refine rc ?_ | refine rl ?_ | refine rh ?_ | refine ru ?_ | refine rt ?_ | refine rf ?_ | refine rs ?_ | refine And.intro ?_ ?_) | omega | simp (maxSteps := 1000000) only [go_sem, simprocAttr, ↓reduceIte, List.length_append])
        refine ⟨⟨row.length + 1, k, o ++ (farC ++ (x1 ++ x2))⟩, Ent.auto0 rfl ?_ ?_, q3, by dsimp only; omega⟩ <;> simp only [go_sem, reduceCtorEq, reduceIte, Nat.reduceEqDiff, Nat.reduceLT, Nat.reduceLeDiff, Int.natCast_succ, farC, List.append_assoc, List.cons_append, List.nil_append]
        all_goals omega
end Go.Fv.G

/- A text is one word just where its tokens are that word alone; small letters. -/
namespace Go.Fv.G
open Go
set_option linter.unusedSimpArgs false
set_option linter.unusedVariables false
set_option linter.unnecessarySimpa false

end Go.Fv.G

/- Small letters: the bytes on the way. -/
namespace Go.Fv.G
open Go Go.Proofs
set_option linter.unusedSimpArgs false
set_option linter.unusedVariables false
set_option linter.unnecessarySimpa false
set_option maxRecDepth 8000

theorem byteInts_len (l : List UInt8) : (byteInts l).length = l.length := by simp [byteInts]
theorem bytesOf_byteInts (l : List UInt8) : bytesOf (byteInts l) = l := by
  unfold bytesOf byteInts
  rw [List.map_map]
  conv => rhs; rw [← List.map_id l]
  refine List.map_congr_left fun b _ => ?_
  simp
end Go.Fv.G

/- strings.Builder: copyCheck at this program. -/
namespace Go.Fv.G
open Go Go.Proofs Go.RowKit
set_option linter.unusedSimpArgs false
set_option linter.unusedVariables false
set_option linter.unnecessarySimpa false
set_option maxRecDepth 8000

theorem setCell_same (w : World) (g : Nat) (a b v : Value) (t : TypeId) (h : w.heap[g]? = some (.cells #[a, b] t (0, 0))) : (w.setCell ⟨g, 0, none⟩ v).heap[g]? = some (.cells #[v, b] t (0, 0)) := by
  unfold World.setCell
  simp [h, Array.getElem?_modify]
theorem setCell_other' (w : World) (g k : Nat) (v : Value) (h : k ≠ g) : (w.setCell ⟨g, 0, none⟩ v).heap[k]? = w.heap[k]? := by
  unfold World.setCell
  simp only [Array.getElem?_modify]
  rw [if_neg (fun e => h e.symm)]
theorem sizeB : (Tryd.prog.info? 70).map (·.size) = some 2 := by kernel_rfl
theorem liesB : liesAt Tryd.prog Tryd.prog.depth 70 (2 / Tryd.prog.cellsOf 70) 0 70 1 = true := by kernel_rfl
theorem ntB : Tryd.f69.ntmps = 20 := rfl
set_option maxHeartbeats 1000000 in
set_option maxRecDepth 100000 in
theorem copyUsed (b : Nat) (w : World) (h0 : w.cell? ⟨b, 0, none⟩ = some (.pointer (some ⟨b, 0, none⟩))) :
    Calls Tryd.prog 69 #[.pointer (some ⟨b, 0, none⟩)] w fun e w' => e = .returned (.tuple #[]) ∧ w' = w := by
  have t70 := Tryd.underlying67
  have t72 := Tryd.underlying70
  have a72 := Tryd.isAgg70
  have z72 := Tryd.sizeOf70
  have a70 := Tryd.isAgg67
  have z70 := Tryd.sizeOf67
  have hf := Tryd.func69
  have mixed : Tryd.prog.follows .mixedOrders = true := by kernel_rfl
  obtain ⟨j, hj, hjs⟩ := Option.map_eq_some_iff.1 sizeB
  have u70 := run_underlying t70
  have u72 := run_underlying t72
  have hn := ntB
  generalize Tryd.prog = P at *
  go_enter hf, hn
  go_wp2
  rw [Lib.run_neq_ptr_same w _ t70 hj]
  go_wp2
  go_end0
  exact ⟨rfl, rfl⟩
set_option maxHeartbeats 1000000 in
set_option maxRecDepth 100000 in
theorem copyFresh (b : Nat) (w : World) (h0 : w.cell? ⟨b, 0, none⟩ = some (.pointer none)) (hsh : w.shape? b = some (70, 2)) (hfz : w.frozen? ⟨b, 0, none⟩ = false) :
    Calls Tryd.prog 69 #[.pointer (some ⟨b, 0, none⟩)] w fun e w' => e = .returned (.tuple #[]) ∧ w' = w.setCell ⟨b, 0, none⟩ (.pointer (some ⟨b, 0, none⟩)) := by
  have t70 := Tryd.underlying67
  have t72 := Tryd.underlying70
  have t164 := Tryd.underlying115
  have a72 := Tryd.isAgg70
  have z72 := Tryd.sizeOf70
  have a70 := Tryd.isAgg67
  have z70 := Tryd.sizeOf67
  have hf := Tryd.func69
  have hx := Tryd.func85
  have mixed : Tryd.prog.follows .mixedOrders = true := by kernel_rfl
  obtain ⟨j, hj, hjs⟩ := Option.map_eq_some_iff.1 sizeB
  have hlies := liesB
  have u70 := run_underlying t70
  have u72 := run_underlying t72
  have hn := ntB
  generalize Tryd.prog = P at *
  go_enter hf, hn
  go_wp2
  rw [Lib.run_to_unsafe w ⟨b, 0, none⟩ t70 t164 hj (by rw [hjs]; decide) hsh (Nat.zero_lt_succ 1)]
  simp only [Result.andThen]
  rw [Oper.upon_value]
  go_wp2
  rw [run_callFunc_extern hx (by kernel_rfl) (by kernel_rfl) (by kernel_rfl) (e := Extern.AbiNoEscape.same) (by kernel_rfl)]
  rw [Lib.run_noEscape]
  simp only [Result.andThen]
  rw [Oper.upon_value]
  go_wp2
  rw [Lib.run_from_unsafe w ⟨b, 0, none⟩ t164 t70 hj hsh hlies]
  simp only [Result.andThen]
  rw [Oper.upon_value]
  go_wp2
  go_end0
  exact ⟨rfl, rfl⟩
end Go.Fv.G
