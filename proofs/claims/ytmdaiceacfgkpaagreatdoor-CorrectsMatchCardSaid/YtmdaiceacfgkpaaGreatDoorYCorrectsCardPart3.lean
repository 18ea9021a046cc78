/-
  A part of the proof of the claim: walks over the program's functions and the plain laws that these need. No condition of its own.
-/
import Derived.Test.YtmdaiceacfgkpaaGreatDoorYCorrectsCardPart2
import Derived.Test.YtmdaiceacfgkpaaGreatDoorYCorrectsCardPart1
import Derived.Shelf.Strings.Shaped
import Derived.Test.YtmdaiceacfgkpaaGreatDoorFvPart9
import Derived.Test.YtmdaiceacfgkpaaGreatDoorFvPart6
/- The trims at the quote. -/
namespace Go.Fv.Y
open Go Go.Proofs
set_option linter.unusedSimpArgs false
set_option linter.unusedVariables false
set_option linter.unnecessarySimpa false
set_option maxRecDepth 8000

theorem dropQ_q {s : List UInt8} (h0 : 0 < s.length) (h : (s.getD 0 0).toNat = 39) : dropQ (s.drop 1) = dropQ s := by
  cases s with
  | nil => simp at h0
  | cons c t =>
    have hc : c = 39 := UInt8.toNat_inj.1 h
    subst hc; rfl
theorem dropQ_n {s : List UInt8} (h : 0 < s.length → ¬ ((s.getD 0 0).toNat = 39)) : dropQ s = s := by
  cases s with
  | nil => rfl
  | cons c t =>
    have hc : ¬ c = 39 := fun e => h (by simp) (by subst e; rfl)
    simp [dropQ, qu, hc]
theorem dropR_snoc (t : List UInt8) (c : UInt8) : dropR (t ++ [c]) = if c = 39 then dropR t else t ++ [c] := by
  unfold dropR
  rw [List.reverse_append, List.reverse_singleton, List.singleton_append, List.dropWhile_cons]
  by_cases h : c = 39
  · simp [qu, h]
  · simp [qu, h]
theorem last_of {s : List UInt8} (h0 : 0 < s.length) : s = s.take (s.length - 1) ++ [s.getD (s.length - 1) 0] := by
  rw [getD_lt (by omega)]
  rw [List.take_append_getElem (by omega)]
  rw [List.take_of_length_le (by omega)]
theorem dropR_q {s : List UInt8} (h0 : 0 < s.length) (h : (s.getD (s.length - 1) 0).toNat = 39) : dropR (s.take (s.length - 1)) = dropR s := by
  have hc : s.getD (s.length - 1) 0 = 39 := UInt8.toNat_inj.1 h
  conv => rhs; rw [last_of h0, dropR_snoc, if_pos hc]
theorem dropR_n {s : List UInt8} (h : 0 < s.length → ¬ ((s.getD (s.length - 1) 0).toNat = 39)) : dropR s = s := by
  by_cases h0 : 0 < s.length
  · have hc : ¬ s.getD (s.length - 1) 0 = 39 := fun e => h h0 (by rw [e]; rfl)
    conv => lhs; rw [last_of h0, dropR_snoc, if_neg hc]
    exact (last_of h0).symm
  · have : s = [] := List.eq_nil_of_length_eq_zero (by omega)
    subst this; rfl
theorem dropQ_snoc (t : List UInt8) (c : UInt8) (h : ¬ c = 39) : dropQ (t ++ [c]) = dropQ t ++ [c] := by
  induction t with
  | nil => simp [dropQ, qu, h]
  | cons d t ih =>
    by_cases hd : d = 39
    · subst hd; exact ih
    · simp [dropQ, qu, hd]
theorem dropQ_app (t : List UInt8) : dropQ (t ++ [39]) = if dropQ t = [] then [] else dropQ t ++ [39] := by
  induction t with
  | nil => simp [dropQ, qu]
  | cons d t ih =>
    by_cases hd : d = 39
    · subst hd; exact ih
    · simp [dropQ, qu, hd]
/-- Either order of the two trims. -/
theorem drop_swap : ∀ (n : Nat) (s : List UInt8), s.length ≤ n → dropQ (dropR s) = dropR (dropQ s)
  | 0, s, h => by
    have : s = [] := List.eq_nil_of_length_eq_zero (by omega)
    subst this; rfl
  | n + 1, s, h => by
    by_cases h0 : 0 < s.length
    · rw [last_of h0]
      generalize hc : s.getD (s.length - 1) 0 = c
      have hl : (s.take (s.length - 1)).length ≤ n := by simp; omega
      generalize s.take (s.length - 1) = t at hl
      rw [dropR_snoc]
      by_cases h39 : c = 39
      · subst h39
        rw [if_pos rfl, dropQ_app, drop_swap n t hl]
        by_cases hq : dropQ t = []
        · rw [if_pos hq, hq]
        · rw [if_neg hq, dropR_snoc, if_pos rfl]
      · rw [if_neg h39, dropQ_snoc t c h39, dropR_snoc, if_neg h39]
    · have : s = [] := List.eq_nil_of_length_eq_zero (by omega)
      subst this; rfl
theorem midQ_eq (s : List UInt8) : dropQ (dropR s) = midQ s := drop_swap s.length s (Nat.le_refl _)

theorem trimLeftByte_ok (s : List UInt8) (hs : s.length ≤ 1000000000000) : FnOk Tryz.prog 77 [.str s, .int .u8 39] (.str (dropQ s)) [] := by
  refine FnOk.of_vc Tryz.func77 rfl (by decide) (by simp [Tryz.f77]) [.tmp 4] rfl fun w0 T0 _ => ?_
  simp only [Tryz.f77, argEnv]
  (repeat' first | with_reducible (first | intro _ | refine rc ?_ | refine rl ?_ | refine rh ?_ | refine rt ?_ | refine rf ?_ | refine rs ?_ | refine And.intro ?_ ?_) | omega | simp (maxSteps := 1000000) only [go_sem, simprocAttr, ↓reduceIte])
  refine VcLoop.intro (fun t : List UInt8 => ⟨17, [(0, .str t), (1, .int .u8 39)], [], 0⟩) (fun t => t.length ≤ 1000000000000 ∧ dropQ t = dropQ s) (fun t => t.length) s ?_ ⟨hs, rfl⟩ fun t ht => ?_
  · refine Ent.auto0 rfl ?_ ?_ <;> simp only [go_sem, reduceCtorEq, reduceIte, Nat.reduceEqDiff, Nat.reduceLT, Nat.reduceLeDiff, Int.natCast_succ]
  obtain ⟨hl, he⟩ := ht
  (repeat' first | with_reducible (first | intro _ | refine rc ?_ | refine rl ?_ | refine rh ?_ | refine rt ?_ | refine rf ?_ | refine rs ?_ | refine And.intro ?_ ?_) | omega | simp (maxSteps := 1000000) only [go_sem, simprocAttr, ↓reduceIte])
  · refine ⟨t.drop 1, Ent.auto0 rfl ?_ ?_, ⟨?_, ?_⟩, ?_⟩
    · simp only [go_sem, reduceCtorEq, reduceIte, Nat.reduceEqDiff, Nat.reduceLT, Nat.reduceLeDiff, Int.natCast_succ]
      exact List.take_of_length_le (by simp)
    · simp only [go_sem, reduceCtorEq, reduceIte, Nat.reduceEqDiff, Nat.reduceLT, Nat.reduceLeDiff, Int.natCast_succ]
    · simp; omega
    · rw [dropQ_q (by omega) (by omega)]; exact he
    · simp; omega
  · have e : t = dropQ s := by rw [← he, dropQ_n (fun h => by omega)]
    refine Ret.auto 0 ?_ rfl ?_ <;> simp only [go_sem, reduceCtorEq, reduceIte, Nat.reduceEqDiff, Nat.reduceLT, Nat.reduceLeDiff, Int.natCast_succ, Post, e]
theorem trimRightByte_ok (s : List UInt8) (hs : s.length ≤ 1000000000000) : FnOk Tryz.prog 78 [.str s, .int .u8 39] (.str (dropR s)) [] := by
  refine FnOk.of_vc Tryz.func78 rfl (by decide) (by simp [Tryz.f78]) [.tmp 4] rfl fun w0 T0 _ => ?_
  simp only [Tryz.f78, argEnv]
  (repeat' first | with_reducible (first | intro _ | refine rc ?_ | refine rl ?_ | refine rh ?_ | refine rt ?_ | refine rf ?_ | refine rs ?_ | refine And.intro ?_ ?_) | omega | simp (maxSteps := 1000000) only [go_sem, simprocAttr, ↓reduceIte])
  refine VcLoop.intro (fun t : List UInt8 => ⟨23, [(0, .str t), (1, .int .u8 39)], [], 0⟩) (fun t => t.length ≤ 1000000000000 ∧ dropR t = dropR s) (fun t => t.length) s ?_ ⟨hs, rfl⟩ fun t ht => ?_
  · refine Ent.auto0 rfl ?_ ?_ <;> simp only [go_sem, reduceCtorEq, reduceIte, Nat.reduceEqDiff, Nat.reduceLT, Nat.reduceLeDiff, Int.natCast_succ]
  obtain ⟨hl, he⟩ := ht
  have et : ((t.length : Int) - 1).toNat = t.length - 1 := by omega
  (repeat' first | with_reducible (first | intro _ | refine rc ?_ | refine rl ?_ | refine rh ?_ | refine rt ?_ | refine rf ?_ | refine rs ?_ | refine And.intro ?_ ?_) | omega | simp (maxSteps := 1000000) only [go_sem, simprocAttr, ↓reduceIte, et])
  · refine ⟨t.take (t.length - 1), Ent.auto0 rfl ?_ ?_, ⟨?_, ?_⟩, ?_⟩
    · simp only [go_sem, reduceCtorEq, reduceIte, Nat.reduceEqDiff, Nat.reduceLT, Nat.reduceLeDiff, Int.natCast_succ, et]
      rfl
    · simp only [go_sem, reduceCtorEq, reduceIte, Nat.reduceEqDiff, Nat.reduceLT, Nat.reduceLeDiff, Int.natCast_succ]
    · simp; omega
    · rw [dropR_q (by omega) (by omega)]; exact he
    · simp; omega
  · have e : t = dropR s := by rw [← he, dropR_n (fun h => by omega)]
    refine Ret.auto 0 ?_ rfl ?_ <;> simp only [go_sem, reduceCtorEq, reduceIte, Nat.reduceEqDiff, Nat.reduceLT, Nat.reduceLeDiff, Int.natCast_succ, Post, e]
theorem trimLeft_ok (s : List UInt8) (hs : s.length ≤ 1000000000000) : FnOk Tryz.prog 102 [.str s, .str [39]] (.str (dropQ s)) [] := by
  have k := trimLeftByte_ok s hs
  have one : ((1 : Nat) : Int) = 1 := rfl
  have q39 : ((([39] : List UInt8).getD 0 0).toNat : Int) = 39 := rfl
  have l39 : (39 : Int) < 128 := by decide
  refine FnOk.of_vc Tryz.func102 rfl (by decide) (by simp [Tryz.f102]) [.tmp 4] rfl fun w0 T0 _ => ?_
  simp only [Tryz.f102, argEnv]
  by_cases h0 : s = []
  · have e : dropQ [] = [] := rfl
    (repeat' first | with_reducible (first | intro _ | refine rc ?_ | refine rl ?_ | refine rh ?_ | refine rt ?_ | refine rf ?_ | refine rs ?_ | refine And.intro ?_ ?_) | omega | simp (maxSteps := 1000000) only [go_sem, simprocAttr, ↓reduceIte, h0])
    refine Ret.auto 0 ?_ rfl ?_ <;> simp only [go_sem, reduceCtorEq, reduceIte, Nat.reduceEqDiff, Nat.reduceLT, Nat.reduceLeDiff, Int.natCast_succ, Post, e]
  · (repeat' first | with_reducible (first | intro _ | refine rc ?_ | refine rl ?_ | refine rh ?_ | refine rt ?_ | refine rf ?_ | refine rs ?_ | refine And.intro ?_ ?_) | omega | simp (maxSteps := 1000000) only [go_sem, simprocAttr, ↓reduceIte, h0, one, q39, l39])
    refine VcCall.k k ?_
    (repeat' first | with_reducible (first | intro _ | refine rc ?_ | refine rl ?_ | refine rh ?_ | refine rt ?_ | refine rf ?_ | refine rs ?_ | refine And.intro ?_ ?_) | omega | simp (maxSteps := 1000000) only [go_sem, simprocAttr, ↓reduceIte, one, q39])
    refine Ret.auto 0 ?_ rfl ?_ <;> simp only [go_sem, reduceCtorEq, reduceIte, Nat.reduceEqDiff, Nat.reduceLT, Nat.reduceLeDiff, Int.natCast_succ, Post]
theorem trimRight_ok (s : List UInt8) (hs : s.length ≤ 1000000000000) : FnOk Tryz.prog 84 [.str s, .str [39]] (.str (dropR s)) [] := by
  have k := trimRightByte_ok s hs
  have one : ((1 : Nat) : Int) = 1 := rfl
  have q39 : ((([39] : List UInt8).getD 0 0).toNat : Int) = 39 := rfl
  have l39 : (39 : Int) < 128 := by decide
  refine FnOk.of_vc Tryz.func84 rfl (by decide) (by simp [Tryz.f84]) [.tmp 4] rfl fun w0 T0 _ => ?_
  simp only [Tryz.f84, argEnv]
  by_cases h0 : s = []
  · have e : dropR [] = [] := rfl
    (repeat' first | with_reducible (first | intro _ | refine rc ?_ | refine rl ?_ | refine rh ?_ | refine rt ?_ | refine rf ?_ | refine rs ?_ | refine And.intro ?_ ?_) | omega | simp (maxSteps := 1000000) only [go_sem, simprocAttr, ↓reduceIte, h0])
    refine Ret.auto 0 ?_ rfl ?_ <;> simp only [go_sem, reduceCtorEq, reduceIte, Nat.reduceEqDiff, Nat.reduceLT, Nat.reduceLeDiff, Int.natCast_succ, Post, e]
  · (repeat' first | with_reducible (first | intro _ | refine rc ?_ | refine rl ?_ | refine rh ?_ | refine rt ?_ | refine rf ?_ | refine rs ?_ | refine And.intro ?_ ?_) | omega | simp (maxSteps := 1000000) only [go_sem, simprocAttr, ↓reduceIte, h0, one, q39, l39])
    refine VcCall.k k ?_
    (repeat' first | with_reducible (first | intro _ | refine rc ?_ | refine rl ?_ | refine rh ?_ | refine rt ?_ | refine rf ?_ | refine rs ?_ | refine And.intro ?_ ?_) | omega | simp (maxSteps := 1000000) only [go_sem, simprocAttr, ↓reduceIte, one, q39])
    refine Ret.auto 0 ?_ rfl ?_ <;> simp only [go_sem, reduceCtorEq, reduceIte, Nat.reduceEqDiff, Nat.reduceLT, Nat.reduceLeDiff, Int.natCast_succ, Post]
theorem dropR_len (s : List UInt8) : (dropR s).length ≤ s.length := by
  unfold dropR
  have := takeWhile_len_le qu s.reverse
  simp at this ⊢; omega
theorem trim_ok (s : List UInt8) (hs : s.length ≤ 1000000000000) : FnOk Tryz.prog 31 [.str s, .str [39]] (.str (midQ s)) [] := by
  have k := trimRightByte_ok s hs
  have k2 := trimLeftByte_ok (dropR s) (Nat.le_trans (dropR_len s) hs)
  rw [midQ_eq] at k2
  have one : ((1 : Nat) : Int) = 1 := rfl
  have q39 : ((([39] : List UInt8).getD 0 0).toNat : Int) = 39 := rfl
  have l39 : (39 : Int) < 128 := by decide
  refine FnOk.of_vc Tryz.func31 rfl (by decide) (by simp [Tryz.f31]) [.tmp 4] rfl fun w0 T0 _ => ?_
  simp only [Tryz.f31, argEnv]
  by_cases h0 : s = []
  · have e : midQ [] = [] := rfl
    (repeat' first | with_reducible (first | intro _ | refine rc ?_ | refine rl ?_ | refine rh ?_ | refine rt ?_ | refine rf ?_ | refine rs ?_ | refine And.intro ?_ ?_) | omega | simp (maxSteps := 1000000) only [go_sem, simprocAttr, ↓reduceIte, h0])
    refine Ret.auto 0 ?_ rfl ?_ <;> simp only [go_sem, reduceCtorEq, reduceIte, Nat.reduceEqDiff, Nat.reduceLT, Nat.reduceLeDiff, Int.natCast_succ, Post, e]
  · (repeat' first | with_reducible (first | intro _ | refine rc ?_ | refine rl ?_ | refine rh ?_ | refine rt ?_ | refine rf ?_ | refine rs ?_ | refine And.intro ?_ ?_) | omega | simp (maxSteps := 1000000) only [go_sem, simprocAttr, ↓reduceIte, h0, one, q39, l39])
    refine VcDraw.lex [] [] (by kernel_rfl) (by kernel_rfl) ?_
    (repeat' first | with_reducible (first | intro _ | refine rc ?_ | refine rl ?_ | refine rh ?_ | refine rt ?_ | refine rf ?_ | refine rs ?_ | refine And.intro ?_ ?_) | omega | simp (maxSteps := 1000000) only [go_sem, simprocAttr, ↓reduceIte, one, q39])
    refine QV.intro (.str (dropR s)) ?_ ?_
    · (repeat' first | with_reducible (first | intro _ | refine rc ?_ | refine rl ?_ | refine rh ?_ | refine rt ?_ | refine rf ?_ | refine rs ?_ | refine And.intro ?_ ?_) | omega | simp (maxSteps := 1000000) only [go_sem, simprocAttr, ↓reduceIte])
      refine VcCall.k k ?_
      (repeat' first | with_reducible (first | intro _ | refine rc ?_ | refine rl ?_ | refine rh ?_ | refine rt ?_ | refine rf ?_ | refine rs ?_ | refine And.intro ?_ ?_) | omega | simp (maxSteps := 1000000) only [go_sem, simprocAttr, ↓reduceIte])
    (repeat' first | with_reducible (first | intro _ | refine rc ?_ | refine rl ?_ | refine rh ?_ | refine rt ?_ | refine rf ?_ | refine rs ?_ | refine And.intro ?_ ?_) | omega | simp (maxSteps := 1000000) only [go_sem, simprocAttr, ↓reduceIte, one, q39])
    refine QV.intro (.str (midQ s)) ?_ ?_
    · (repeat' first | with_reducible (first | intro _ | refine rc ?_ | refine rl ?_ | refine rh ?_ | refine rt ?_ | refine rf ?_ | refine rs ?_ | refine And.intro ?_ ?_) | omega | simp (maxSteps := 1000000) only [go_sem, simprocAttr, ↓reduceIte])
      refine VcCall.k k2 ?_
      (repeat' first | with_reducible (first | intro _ | refine rc ?_ | refine rl ?_ | refine rh ?_ | refine rt ?_ | refine rf ?_ | refine rs ?_ | refine And.intro ?_ ?_) | omega | simp (maxSteps := 1000000) only [go_sem, simprocAttr, ↓reduceIte])
    (repeat' first | with_reducible (first | intro _ | refine rc ?_ | refine rl ?_ | refine rh ?_ | refine rt ?_ | refine rf ?_ | refine rs ?_ | refine And.intro ?_ ?_) | omega | simp (maxSteps := 1000000) only [go_sem, simprocAttr, ↓reduceIte])
    refine Ret.auto 0 ?_ rfl ?_ <;> simp only [go_sem, reduceCtorEq, reduceIte, Nat.reduceEqDiff, Nat.reduceLT, Nat.reduceLeDiff, Int.natCast_succ, Post]
end Go.Fv.Y

/- strings.Index, strings.Count, by the contracts of the shelf. -/
namespace Go.Proofs
open Go.Shelf
def Tryz.lays143_ren : Go.Shelf.Ren := ⟨fun | 143 => 72 | 219 => 108 | 217 => 141 | 225 => 142 | 224 => 143 | 267 => 144 | 266 => 166 | 314 => 167 | n => n, fun | 9 => 9 | 3 => 3 | 4 => 4 | 5 => 5 | 46 => 145 | 146 => 195 | 51 => 165 | n => n, fun | 1 => 0 | n => n⟩
theorem Tryz.lays143 : Go.Proofs.LaysM.n143 Tryz.prog Tryz.lays143_ren := {
  mixed := by kernel_rfl
  f143 := Tryz.func72.trans (congrArg some (by kernel_rfl))
  f217 := Tryz.func141.trans (congrArg some (by kernel_rfl))
  f219 := Tryz.func108.trans (congrArg some (by kernel_rfl))
  f224 := Tryz.func143.trans (congrArg some (by kernel_rfl))
  f225 := Tryz.func142.trans (congrArg some (by kernel_rfl))
  f266 := Tryz.func166.trans (congrArg some (by kernel_rfl))
  f267 := Tryz.func144.trans (congrArg some (by kernel_rfl))
  f314 := Tryz.func167.trans (congrArg some (by kernel_rfl))
  t3 := Tryz.underlying3
  a3 := Tryz.isAgg3
  z3 := Tryz.sizeOf3
  v3 := Tryz.zeroValue3
  t4 := Tryz.underlying4
  a4 := Tryz.isAgg4
  z4 := Tryz.sizeOf4
  v4 := Tryz.zeroValue4
  t5 := Tryz.underlying5
  a5 := Tryz.isAgg5
  z5 := Tryz.sizeOf5
  v5 := Tryz.zeroValue5
  t9 := Tryz.underlying9
  a9 := Tryz.isAgg9
  z9 := Tryz.sizeOf9
  v9 := Tryz.zeroValue9
  t46 := Tryz.underlying145
  a46 := Tryz.isAgg145
  z46 := Tryz.sizeOf145
  v46 := Tryz.zeroValue145
  t51 := Tryz.underlying165
  a51 := Tryz.isAgg165
  z51 := Tryz.sizeOf165
  v51 := Tryz.zeroValue165
  t146 := Tryz.underlying195
  a146 := Tryz.isAgg195
  z146 := Tryz.sizeOf195
  v146 := Tryz.zeroValue195
  g1 := by kernel_rfl
  i3 := by kernel_rfl
  i4 := by kernel_rfl
  i5 := by kernel_rfl
  i9 := by kernel_rfl
  i46 := by kernel_rfl
  i51 := by kernel_rfl
  i146 := by kernel_rfl
  m1 := by kernel_rfl
  s1_3 := fun w h => Go.Proofs.cell_of_shapedOpen_int (zero := #[.int .i64 0]) (t := 3) h (of_decide_eq_true (by kernel_rfl)) (by kernel_rfl) rfl (by kernel_rfl) (by kernel_rfl) Tryz.underlying3 }
end Go.Proofs
namespace Go.Proofs
open Go.Shelf
end Go.Proofs
namespace Go.Fv.Y
open Go Go.Proofs
set_option linter.unusedSimpArgs false
set_option linter.unusedVariables false
set_option linter.unnecessarySimpa false
set_option maxRecDepth 8000

theorem index_ok (s t : List UInt8) (hs : s.length ≤ 1048576) : FnOk Tryz.prog 72 [.str s, .str t] (.int .i64 (Lib.index s t)) [] := by
  refine ⟨⟨_, Tryz.func72, by kernel_rfl, by kernel_rfl⟩, fun w T vals hg hv => ?_⟩
  obtain ⟨m, t0, _, hm⟩ := hg 0 .i64 (by kernel_rfl)
  cases hv with
  | cons _ _ _ _ h1 hv => cases hv with
    | cons _ _ _ _ h2 hv =>
      cases hv
      cases h1 with
      | str _ e1 => cases h2 with
        | str _ e2 =>
          have L := Tryz.lays143
          refine (Any.strings_Index { L with } ⟨s.toArray⟩ ⟨t.toArray⟩ m w ?_ ?_).mono ?_
          · show s.toArray.size < 4294967281
            simp; omega
          · simp [World.cell?, Tryz.lays143_ren, hm]
          · rintro e w' ⟨rfl, rfl⟩
            refine ⟨_, rfl, BelowD.refl _ _, fun _ => undef, 0, ?_, ?_, ?_⟩
            · have h1 := Lib.index_ge s t
              have h2 := Lib.index_le s t
              have e1 : IntKind.i64.min = -9223372036854775808 := by decide
              have e2 : IntKind.i64.max = 9223372036854775807 := by decide
              exact .int .i64 _ ⟨by rw [e1]; omega, by rw [e2]; omega⟩
            · intro i it h; cases h
            · intro i j it jt b h; cases h
end Go.Fv.Y

/- The steps of the tokens, by places of the text. -/
namespace Go.Fv.Y
open Go
set_option linter.unusedSimpArgs false
set_option linter.unusedVariables false
set_option linter.unnecessarySimpa false

/-- What is from a up to b. -/
def sub (s : Bytes) (a b : Nat) : Bytes := (s.drop a).take (b - a)
theorem sub_len {s : Bytes} {a b : Nat} (h : a ≤ b) (hb : b ≤ s.length) : (sub s a b).length = b - a := by
  simp [sub]; omega
theorem sub_self (s : Bytes) (a : Nat) : sub s a a = [] := by simp [sub]
theorem sub_app {s : Bytes} {a b c : Nat} (h : a ≤ b) (h2 : b ≤ c) : sub s a b ++ sub s b c = sub s a c := by
  unfold sub
  have e : c - a = (b - a) + (c - b) := by omega
  rw [e, List.take_add, List.drop_drop]
  congr 3; omega
theorem sub_one {s : Bytes} {i : Nat} (h : i < s.length) : sub s i (i + 1) = [s.getD i 0] := by
  unfold sub
  rw [List.drop_eq_getElem_cons h, getD_lt h, show i + 1 - i = 1 by omega]; rfl
theorem sub_snoc {s : Bytes} {a i : Nat} (h0 : a ≤ i) (h : i < s.length) : sub s a i ++ [s.getD i 0] = sub s a (i + 1) := by
  rw [← sub_one h, sub_app h0 (by omega)]
/-- Where the row of letters ends. -/
theorem run_at {s : Bytes} : ∀ (n i k : Nat), k - i ≤ n → i ≤ k → k ≤ s.length → (∀ j, i ≤ j → j < k → inW (s.getD j 0) = true) → (k < s.length → inW (s.getD k 0) = false) →
    (s.drop i).takeWhile inW = sub s i k ∧ (s.drop i).dropWhile inW = s.drop k
  | 0, i, k, hn, h1, h2, h3, h4 => by
    have : i = k := by omega
    subst this
    rw [sub_self]
    by_cases h : i < s.length
    · have := h4 h
      rw [getD_lt h] at this
      rw [List.drop_eq_getElem_cons h, List.takeWhile_cons, List.dropWhile_cons, this]
      exact ⟨rfl, rfl⟩
    · rw [List.drop_of_length_le (by omega)]; exact ⟨rfl, rfl⟩
  | n + 1, i, k, hn, h1, h2, h3, h4 => by
    by_cases h : i = k
    · exact run_at 0 i k (by omega) h1 h2 h3 h4
    · have hi : i < s.length := by omega
      obtain ⟨e1, e2⟩ := run_at n (i + 1) k (by omega) (by omega) h2 (fun j hj hk => h3 j (by omega) hk) h4
      have hw := h3 i (Nat.le_refl _) (by omega)
      rw [← sub_app (s := s) (a := i) (b := i + 1) (c := k) (by omega) (by omega), sub_one hi, List.drop_eq_getElem_cons hi]
      rw [getD_lt hi] at hw ⊢
      rw [List.takeWhile_cons, List.dropWhile_cons, hw, if_pos rfl, if_pos rfl, e1, e2]
      exact ⟨rfl, rfl⟩
theorem step_other {s : Bytes} {i a : Nat} (h : i < s.length) (ha : a ≤ i) (hc : inW (s.getD i 0) = false) (out : List Tok) : toks (s.drop i) (sub s a i) out = toks (s.drop (i + 1)) (sub s a (i + 1)) out := by
  rw [← sub_snoc ha h, List.drop_eq_getElem_cons h]
  rw [getD_lt h] at hc ⊢
  rw [toks_other hc]
theorem step_row {s : Bytes} {i k a : Nat} (h : i < s.length) (ha : a ≤ i) (hk : i < k) (hkl : k ≤ s.length) (hr : ∀ j, i ≤ j → j < k → inW (s.getD j 0) = true) (he : k < s.length → inW (s.getD k 0) = false) (out : List Tok)
    (hw : isWd (midQ (sub s i k)) = false) : toks (s.drop i) (sub s a i) out = toks (s.drop k) (sub s a k) out := by
  obtain ⟨e1, e2⟩ := run_at (k - i) i k (Nat.le_refl _) (by omega) hkl hr he
  have hc := hr i (Nat.le_refl _) hk
  rw [List.drop_eq_getElem_cons h] at e1 e2 ⊢
  rw [getD_lt h] at hc
  rw [toks_row hc _ _ (by rw [e1, hw]; decide), e1, e2, sub_app ha (by omega)]
/-- The quotes ahead. -/
def preN (t : Bytes) : Nat := (preQ t).length
theorem preN_le (t : Bytes) : preN t + (midQ t).length ≤ t.length := by
  have := congrArg List.length (three t)
  simp only [List.length_append] at this
  unfold preN; omega
theorem step_word {s : Bytes} {i k a : Nat} (h : i < s.length) (ha : a ≤ i) (hk : i < k) (hkl : k ≤ s.length) (hr : ∀ j, i ≤ j → j < k → inW (s.getD j 0) = true) (he : k < s.length → inW (s.getD k 0) = false) (out : List Tok)
    (hw : isWd (midQ (sub s i k)) = true) : toks (s.drop i) (sub s a i) out = toks (s.drop k) (sub s (i + preN (sub s i k) + (midQ (sub s i k)).length) k) (flush out (sub s a (i + preN (sub s i k))) ++ [(midQ (sub s i k), true)]) := by
  obtain ⟨e1, e2⟩ := run_at (k - i) i k (Nat.le_refl _) (by omega) hkl hr he
  have hc := hr i (Nat.le_refl _) hk
  rw [List.drop_eq_getElem_cons h] at e1 e2 ⊢
  rw [getD_lt h] at hc
  rw [toks_word hc _ _ (by rw [e1, hw]), e1, e2]
  have h3 := three (sub s i k)
  have hle := preN_le (sub s i k)
  have hlen := sub_len (s := s) (a := i) (b := k) (by omega) hkl
  generalize hrow : sub s i k = row at *
  have p1 : preQ row = sub s i (i + preN row) := by
    have := congrArg (List.take (preN row)) h3
    rw [List.take_append_of_le_length (by simp [preN]), List.take_of_length_le (by simp [preN])] at this
    rw [this]; generalize preN row = q at *
    rw [← hrow]; unfold sub
    rw [List.take_take]; congr 1; omega
  have p2 : postQ (dropQ row) = sub s (i + preN row + (midQ row).length) k := by
    have := congrArg (List.drop (preN row + (midQ row).length)) h3
    rw [← List.append_assoc, List.drop_append_of_le_length (by simp [preN]), List.drop_of_length_le (by simp [preN]), List.nil_append] at this
    rw [this]; generalize preN row = q at *; generalize (midQ row).length = q2 at *
    rw [← hrow]; unfold sub
    rw [List.drop_take, List.drop_drop]; congr 1
    · omega
    · congr 1; omega
  rw [p2]
  conv => lhs; rw [p1]
  rw [sub_app ha (by omega)]

/-- Where the word is found. -/
theorem index_mid {t : Bytes} (h : midQ t ≠ []) : Lib.index t (midQ t) = preN t := by
  have h3 := three t
  have hd : t.drop (preN t) = midQ t ++ postQ (dropQ t) := by
    have := congrArg (List.drop (preN t)) h3
    rw [List.drop_append_of_le_length (by simp [preN]), List.drop_of_length_le (by simp [preN]), List.nil_append] at this
    exact this.symm
  have hle := preN_le t
  refine Lib.index_first (by omega) ?_ ?_
  · unfold Lib.occAt; rw [hd]
    rw [List.isPrefixOf_iff_prefix]; exact List.prefix_append _ _
  · intro j hj
    obtain ⟨c, m, hm⟩ : ∃ c m, midQ t = c :: m := by
      cases hq : midQ t with
      | nil => exact absurd hq h
      | cons c m => exact ⟨c, m, rfl⟩
    have hc : qu c = false := by
      have hdq : dropQ t = c :: (m ++ postQ (dropQ t)) := by
        have := mid_post (dropQ t)
        rw [← this]; show midQ t ++ _ = _; rw [hm]; simp [this]
      have := List.head?_dropWhile_not qu t
      rw [show t.dropWhile qu = dropQ t from rfl, hdq] at this
      simpa using this
    have hq : ∃ l, t.drop j = 39 :: l := by
      have hj2 : j < t.length := by omega
      refine ⟨t.drop (j + 1), ?_⟩
      rw [List.drop_eq_getElem_cons hj2]
      have hjp : j < (preQ t).length := hj
      have e : t[j] = (preQ t)[j] := by
        have hpre : preQ t <+: t := List.takeWhile_prefix _
        exact (List.IsPrefix.getElem hpre hjp).symm
      have hall : ∀ x, x ∈ preQ t → qu x = true := fun x hx => (List.all_eq_true.1 List.all_takeWhile) x hx
      have := hall _ (List.getElem_mem hjp)
      rw [e]; simp only [qu, decide_eq_true_eq] at this; rw [this]
    obtain ⟨l, hl⟩ := hq
    unfold Lib.occAt; rw [hl, hm]
    have : ¬ c = 39 := by simpa [qu] using hc
    simp [List.isPrefixOf, this]
end Go.Fv.Y

/- The reference's way to cut the quotes. -/
namespace Go.Fv.Y
open Go
set_option linter.unusedSimpArgs false
set_option linter.unusedVariables false
set_option linter.unnecessarySimpa false

theorem preN_eq (t : Bytes) : t.length - (dropQ t).length = preN t := by
  have := congrArg List.length (pre_drop t)
  simp only [List.length_append] at this
  unfold preN; omega
theorem pre_of {r q t : Bytes} (h : r ++ q = t) (h2 : dropQ r ≠ []) : preQ t = preQ r := by
  subst h
  have := congrArg List.length (pre_drop r)
  have h3 : 0 < (dropQ r).length := List.length_pos_iff.2 h2
  simp only [List.length_append] at this
  unfold preQ at this ⊢
  rw [List.takeWhile_append, if_neg (by omega)]
theorem pre_all {r q t : Bytes} (h : r ++ q = t) (h2 : dropQ r = []) : r.length ≤ preN t := by
  subst h
  have := congrArg List.length (pre_drop r)
  rw [h2] at this
  simp only [List.length_append, List.length_nil] at this
  unfold preN preQ at *
  rw [List.takeWhile_append, if_pos (by omega)]
  simp
theorem cut_none {t : Bytes} (h : midQ t = []) : (dropR t).length ≤ preN t := by
  rw [← midQ_eq] at h
  exact pre_all (mid_post t) h
theorem cut_some {t : Bytes} (h : midQ t ≠ []) : (dropR t).length = preN t + (midQ t).length := by
  have h' := h
  rw [← midQ_eq] at h'
  have := pre_of (mid_post t) h'
  have h3 := congrArg List.length (pre_drop (dropR t))
  rw [midQ_eq, ← this] at h3
  simp only [List.length_append] at h3
  unfold preN; omega
theorem cut_parts {t : Bytes} {a b : Nat} (ha : preN t = a) (hb : a + (midQ t).length = b) : t.take a = preQ t ∧ (t.drop a).take (b - a) = midQ t ∧ t.drop b = postQ (dropQ t) := by
  have h3 := three t
  have e1 : preN t = (preQ t).length := rfl
  generalize preQ t = x at *
  generalize midQ t = y at *
  generalize postQ (dropQ t) = z at *
  rw [← h3]
  have e2 : a = x.length := by omega
  subst e2
  refine ⟨?_, ?_, ?_⟩
  · rw [List.take_append_of_le_length (Nat.le_refl _), List.take_of_length_le (Nat.le_refl _)]
  · rw [List.drop_append_of_le_length (Nat.le_refl _), List.drop_of_length_le (Nat.le_refl _), List.nil_append, List.take_append_of_le_length (by omega), List.take_of_length_le (by omega)]
  · rw [← List.append_assoc, List.drop_append_of_le_length (by simp; omega), List.drop_of_length_le (by simp; omega), List.nil_append]
theorem inW_ne {c : UInt8} (h : inW c = true) (h2 : qu c = false) : isL c = true := by
  unfold inW at h
  have : ¬ c = 39 := by simpa [qu] using h2
  simpa [this] using h
theorem midQ_head {t : Bytes} (h : midQ t ≠ []) : qu ((midQ t).getD 0 0) = false := by
  have e := midQ_eq t
  have h2 := List.head?_dropWhile_not qu (dropR t)
  rw [show (dropR t).dropWhile qu = dropQ (dropR t) from rfl, e] at h2
  cases hm : midQ t with
  | nil => exact absurd hm h
  | cons c l => rw [hm] at h2; simpa using h2
theorem midQ_last {t : Bytes} (h : midQ t ≠ []) : qu ((midQ t).getD ((midQ t).length - 1) 0) = false := by
  have h2 := List.head?_dropWhile_not qu (dropQ t).reverse
  have e : ((dropQ t).reverse.dropWhile qu) = (midQ t).reverse := by unfold midQ dropR; rw [List.reverse_reverse]
  rw [e, List.head?_reverse] at h2
  rw [List.getLast?_eq_getElem?] at h2
  have hl : 0 < (midQ t).length := List.length_pos_iff.2 h
  rw [List.getElem?_eq_getElem (by omega)] at h2
  rw [getD_lt (by omega)]
  simpa using h2
theorem midQ_mem {t : Bytes} {x : UInt8} (h : x ∈ midQ t) : x ∈ t := by
  rw [← three t]; simp [h]
/-- Of a row of letters and quotes, a word is what is not too long. -/
theorem isWd_row {t : Bytes} (ha : t.all inW = true) : isWd (midQ t) = true ↔ midQ t ≠ [] ∧ (midQ t).length ≤ 40 := by
  constructor
  · intro h
    refine ⟨fun e => ?_, ?_⟩
    · rw [e, isWd_nil] at h; cases h
    · by_cases h2 : 40 < ((midQ t).length : Int)
      · rw [isWd_long h2] at h; cases h
      · omega
  · rintro ⟨h1, h2⟩
    rw [isWd_mid h1 (by omega)]
    have hl : 0 < (midQ t).length := List.length_pos_iff.2 h1
    rw [List.all_eq_true] at ha
    have hin : ∀ j, j < (midQ t).length → inW ((midQ t).getD j 0) = true := fun j hj => by
      rw [getD_lt hj]; exact ha _ (midQ_mem (List.getElem_mem hj))
    rw [inW_ne (hin 0 hl) (midQ_head h1), inW_ne (hin _ (by omega)) (midQ_last h1), all_of hin]; rfl
theorem cut_dec {t : Bytes} (ha : t.all inW = true) : (preN t ≥ (dropR t).length ∨ (dropR t).length - preN t > 40) ↔ isWd (midQ t) = false := by
  rw [← Bool.not_eq_true, isWd_row ha]
  by_cases h : midQ t = []
  · have := cut_none h
    simp [h]; omega
  · have := cut_some h
    have hl : 0 < (midQ t).length := List.length_pos_iff.2 h
    simp only [h, ne_eq, not_false_eq_true, true_and]; omega
theorem takeW_all (u : Bytes) : (u.takeWhile inW).all inW = true := List.all_takeWhile
end Go.Fv.Y

/- Lines put together, in plain words: the last and the first word of a text by rows of letters and by tokens. -/
namespace Go.Fv.Y
open Go
set_option linter.unusedSimpArgs false
set_option linter.unusedVariables false
set_option linter.unnecessarySimpa false

end Go.Fv.Y

/- Lines put together: the small functions of JoinLines. -/
namespace Go.Fv.Y
open Go Go.Proofs
set_option linter.unusedSimpArgs false
set_option linter.unusedVariables false
set_option linter.unnecessarySimpa false
set_option maxRecDepth 8000

end Go.Fv.Y

/- The reference's IsWord. -/
namespace Go.Fv.Y
open Go Go.Proofs
set_option linter.unusedSimpArgs false
set_option linter.unusedVariables false
set_option linter.unnecessarySimpa false
set_option maxRecDepth 8000

set_option maxHeartbeats 2000000 in
theorem refIsWordA_ok (s : List UInt8) : FnOk Tryz.prog 85 [.str s] (.bool (isWd s)) [] := by
  refine FnOk.of_vc Tryz.func85 rfl (by decide) (by simp [Tryz.f85]) [.tmp 2] rfl fun w0 T0 _ => ?_
  simp only [Tryz.f85, argEnv]
  by_cases h0 : s = []
  · (repeat' first | with_reducible (first | intro _ | refine rc ?_ | refine rl ?_ | refine rh ?_ | refine rt ?_ | refine rf ?_ | refine rs ?_ | refine And.intro ?_ ?_) | omega | simp (maxSteps := 1000000) only [go_sem, simprocAttr, ↓reduceIte, h0])
    refine Ret.auto 0 ?_ rfl ?_ <;> simp only [go_sem, reduceCtorEq, reduceIte, Nat.reduceEqDiff, Nat.reduceLT, Nat.reduceLeDiff, Int.natCast_succ, Post, isWd_nil]
  · by_cases h1 : 40 < (s.length : Int)
    · (repeat' first | with_reducible (first | intro _ | refine rc ?_ | refine rl ?_ | refine rh ?_ | refine rt ?_ | refine rf ?_ | refine rs ?_ | refine And.intro ?_ ?_) | omega | simp (maxSteps := 1000000) only [go_sem, simprocAttr, ↓reduceIte, h0, h1])
      refine Ret.auto 0 ?_ rfl ?_ <;> simp only [go_sem, reduceCtorEq, reduceIte, Nat.reduceEqDiff, Nat.reduceLT, Nat.reduceLeDiff, Int.natCast_succ, Post, isWd_long h1]
    · have hp : 0 < s.length := List.length_pos_iff.2 h0
      have hp2 : (0 : Int) < s.length := by omega
      have k := isLetter_ok (s.getD 0 0)
      have k2 := isLetter_ok (s.getD (s.length - 1) 0)
      have e := isWd_mid h0 h1
      have et : ((s.length : Int) - 1).toNat = s.length - 1 := by omega
      (repeat' first | with_reducible (first | intro _ | refine rc ?_ | refine rl ?_ | refine rh ?_ | refine rt ?_ | refine rf ?_ | refine rs ?_ | refine And.intro ?_ ?_) | omega | simp (maxSteps := 1000000) only [go_sem, simprocAttr, ↓reduceIte, h0, h1, hp2])
      refine VcCall.k k ?_
      cases hL : isL (s.getD 0 0) with
      | false =>
        (repeat' first | with_reducible (first | intro _ | refine rc ?_ | refine rl ?_ | refine rh ?_ | refine rt ?_ | refine rf ?_ | refine rs ?_ | refine And.intro ?_ ?_) | omega | simp (maxSteps := 1000000) only [go_sem, simprocAttr, ↓reduceIte, hL])
        refine Ret.auto 0 ?_ rfl ?_ <;> simp only [go_sem, reduceCtorEq, reduceIte, Nat.reduceEqDiff, Nat.reduceLT, Nat.reduceLeDiff, Int.natCast_succ, Post, e, hL, Bool.false_and]
      | true =>
        (repeat' first | with_reducible (first | intro _ | refine rc ?_ | refine rl ?_ | refine rh ?_ | refine rt ?_ | refine rf ?_ | refine rs ?_ | refine And.intro ?_ ?_) | omega | simp (maxSteps := 1000000) only [go_sem, simprocAttr, ↓reduceIte, hL, et])
        refine VcCall.k k2 ?_
        cases hL2 : isL (s.getD (s.length - 1) 0) with
        | false =>
          (repeat' first | with_reducible (first | intro _ | refine rc ?_ | refine rl ?_ | refine rh ?_ | refine rt ?_ | refine rf ?_ | refine rs ?_ | refine And.intro ?_ ?_) | omega | simp (maxSteps := 1000000) only [go_sem, simprocAttr, ↓reduceIte, hL2])
          refine Ret.auto 0 ?_ rfl ?_ <;> simp only [go_sem, reduceCtorEq, reduceIte, Nat.reduceEqDiff, Nat.reduceLT, Nat.reduceLeDiff, Int.natCast_succ, Post, e, hL, hL2, Bool.false_and, Bool.and_false]
        | true =>
          (repeat' first | with_reducible (first | intro _ | refine rc ?_ | refine rl ?_ | refine rh ?_ | refine rt ?_ | refine rf ?_ | refine rs ?_ | refine And.intro ?_ ?_) | omega | simp (maxSteps := 1000000) only [go_sem, simprocAttr, ↓reduceIte, hL2])
          refine VcLoop.intro (fun i : Nat => ⟨43, [(28, .int .i64 i), (27, .int .i64 s.length), (0, .str s)], [], 0⟩) (fun i => i ≤ s.length ∧ ∀ j, j < i → inW (s.getD j 0) = true) (fun i => s.length - i) 0 ?_ ⟨Nat.zero_le _, fun j hj => by omega⟩ fun i hi => ?_
          · refine Ent.auto0 rfl ?_ ?_ <;> simp only [go_sem, reduceCtorEq, reduceIte, Nat.reduceEqDiff, Nat.reduceLT, Nat.reduceLeDiff, Int.natCast_succ]
          obtain ⟨hi, ha⟩ := hi
          have k3 := isLetter_ok (s.getD i 0)
          have hiw := inW_eq (s.getD i 0)
          (repeat' first | with_reducible (first | intro _ | refine rc ?_ | refine rl ?_ | refine rh ?_ | refine rt ?_ | refine rf ?_ | refine rs ?_ | refine And.intro ?_ ?_) | omega | simp (maxSteps := 1000000) only [go_sem, simprocAttr, ↓reduceIte, Int.toNat_natCast])
          · refine VcCall.k k3 ?_
            cases hW : isL (s.getD i 0) with
            | true =>
              rw [hW, Bool.true_or] at hiw
              (repeat' first | with_reducible (first | intro _ | refine rc ?_ | refine rl ?_ | refine rh ?_ | refine rt ?_ | refine rf ?_ | refine rs ?_ | refine And.intro ?_ ?_) | omega | simp (maxSteps := 1000000) only [go_sem, simprocAttr, ↓reduceIte, hW])
              refine ⟨i + 1, Ent.auto0 rfl ?_ ?_, ⟨by omega, fun j hj => ?_⟩, by omega⟩
              · simp only [go_sem, reduceCtorEq, reduceIte, Nat.reduceEqDiff, Nat.reduceLT, Nat.reduceLeDiff, Int.natCast_succ]
              · simp only [go_sem, reduceCtorEq, reduceIte, Nat.reduceEqDiff, Nat.reduceLT, Nat.reduceLeDiff, Int.natCast_succ]
              · by_cases hji : j = i
                · rw [hji]; exact hiw
                · exact ha j (by omega)
            | false =>
              rw [hW, Bool.false_or] at hiw
              (repeat' first | with_reducible (first | intro _ | refine rc ?_ | refine rl ?_ | refine rh ?_ | refine rt ?_ | refine rf ?_ | refine rs ?_ | refine And.intro ?_ ?_) | omega | simp (maxSteps := 1000000) only [go_sem, simprocAttr, ↓reduceIte, hW])
              · rename_i h39
                rw [decide_eq_false h39] at hiw
                have hf := all_not (by omega) hiw
                refine Ret.auto 0 ?_ rfl ?_ <;> simp only [go_sem, reduceCtorEq, reduceIte, Nat.reduceEqDiff, Nat.reduceLT, Nat.reduceLeDiff, Int.natCast_succ, Post, e, hf, Bool.and_false]
              · rename_i h39
                rw [decide_eq_true (Decidable.of_not_not h39)] at hiw
                refine ⟨i + 1, Ent.auto0 rfl ?_ ?_, ⟨by omega, fun j hj => ?_⟩, by omega⟩
                · simp only [go_sem, reduceCtorEq, reduceIte, Nat.reduceEqDiff, Nat.reduceLT, Nat.reduceLeDiff, Int.natCast_succ]
                · simp only [go_sem, reduceCtorEq, reduceIte, Nat.reduceEqDiff, Nat.reduceLT, Nat.reduceLeDiff, Int.natCast_succ]
                · by_cases hji : j = i
                  · rw [hji]; exact hiw
                  · exact ha j (by omega)
          · have hf := all_of fun j hj => ha j (by omega)
            refine Ret.auto 0 ?_ rfl ?_ <;> simp only [go_sem, reduceCtorEq, reduceIte, Nat.reduceEqDiff, Nat.reduceLT, Nat.reduceLeDiff, Int.natCast_succ, Post, e, hL, hL2, hf, Bool.and_true]
end Go.Fv.Y

/- strings.HasPrefix. -/
namespace Go.Fv.Y
open Go Go.Proofs
set_option linter.unusedSimpArgs false
set_option linter.unusedVariables false
set_option linter.unnecessarySimpa false
set_option maxRecDepth 8000

theorem take_prefix (s p : List UInt8) : decide ((p.length : Int) ≤ (s.length : Int) ∧ s.take p.length = p) = p.isPrefixOf s := by
  rw [Bool.eq_iff_iff, decide_eq_true_eq, List.isPrefixOf_iff_prefix]
  constructor
  · rintro ⟨_, h⟩; exact List.prefix_iff_eq_take.2 h.symm
  · intro h; exact ⟨by have := h.length_le; omega, (List.prefix_iff_eq_take.1 h).symm⟩
theorem hasPrefix0_ok (s p : List UInt8) : FnOk Tryz.prog 155 [.str s, .str p] (.bool (p.isPrefixOf s)) [] := by
  rw [← take_prefix]
  refine FnOk.of_vc Tryz.func155 rfl (by decide) (by simp [Tryz.f155]) [.tmp 4] rfl fun w0 T0 _ => ?_
  simp only [Tryz.f155, argEnv]
  (repeat' first | with_reducible (first | intro _ | refine rc ?_ | refine rl ?_ | refine rh ?_ | refine rt ?_ | refine rf ?_ | refine rs ?_ | refine And.intro ?_ ?_) | omega | simp (maxSteps := 1000000) only [go_sem, simprocAttr, ↓reduceIte, Nat.sub_zero, List.drop_zero, Int.toNat_natCast, Int.toNat_zero])
  refine Ret.auto 0 ?_ rfl ?_ <;> simp only [go_sem, reduceCtorEq, reduceIte, Nat.reduceEqDiff, Nat.reduceLT, Nat.reduceLeDiff, Int.natCast_succ, Post]
theorem hasPrefix_ok (s p : List UInt8) : FnOk Tryz.prog 115 [.str s, .str p] (.bool (p.isPrefixOf s)) [] := by
  have k := hasPrefix0_ok s p
  refine FnOk.of_vc Tryz.func115 rfl (by decide) (by simp [Tryz.f115]) [.tmp 4] rfl fun w0 T0 _ => ?_
  simp only [Tryz.f115, argEnv]
  (repeat' first | with_reducible (first | intro _ | refine rc ?_ | refine rl ?_ | refine rh ?_ | refine rt ?_ | refine rf ?_ | refine rs ?_ | refine And.intro ?_ ?_) | omega | simp (maxSteps := 1000000) only [go_sem, simprocAttr, ↓reduceIte])
  refine VcCall.k k ?_
  (repeat' first | with_reducible (first | intro _ | refine rc ?_ | refine rl ?_ | refine rh ?_ | refine rt ?_ | refine rf ?_ | refine rs ?_ | refine And.intro ?_ ?_) | omega | simp (maxSteps := 1000000) only [go_sem, simprocAttr, ↓reduceIte])
  refine Ret.auto 0 ?_ rfl ?_ <;> simp only [go_sem, reduceCtorEq, reduceIte, Nat.reduceEqDiff, Nat.reduceLT, Nat.reduceLeDiff, Int.natCast_succ, Post]
end Go.Fv.Y

/- Dictionaries: the walks of Has, Count, Begin and their references. -/
namespace Go.Fv.Y
open Go Go.Proofs
set_option linter.unusedSimpArgs false
set_option linter.unusedVariables false
set_option linter.unnecessarySimpa false
set_option maxRecDepth 8000

theorem keysT_d {P : Program} {kt : TypeId} (h : P.underlying kt = some .string) (l : List Wd) : KeysT P kt (dKs l) := KeysT_map (fun n => KeyT.str h n) _
theorem hasD_ok (l : List Wd) (ws : List Bytes) (x : Bytes) : FnOk Tryz.prog 28 [.cell [.mp (dKs l) (dVs l), .ro (.strs ws)], .str x] (.bool (decide (0 < cntD l x))) [] := by
  have e1 := getI_d l x
  have e4 := isI_d l
  have e5 : KeysT Tryz.prog 9 (dKs l) := keysT_d (by kernel_rfl) _
  refine FnOk.of_vc Tryz.func28 rfl (by decide) (by simp [Tryz.f28]) [.tmp 4] rfl fun w0 T0 _ => ?_
  simp only [Tryz.f28, argEnv]
  (repeat' first | with_reducible (first | intro _ | refine rc ?_ | refine rl ?_ | refine rh ?_ | refine rt ?_ | refine rf ?_ | refine rs ?_ | refine And.intro ?_ ?_) | omega | simp (maxSteps := 1000000) only [go_sem, simprocAttr, ↓reduceIte, e1, e4, e5])
  refine Ret.auto 0 ?_ rfl ?_ <;> simp only [go_sem, reduceCtorEq, reduceIte, Nat.reduceEqDiff, Nat.reduceLT, Nat.reduceLeDiff, Int.natCast_succ, Post]
theorem cntD_drop (l : List Wd) {i : Nat} (h : i < l.length) (x : Bytes) : cntD (l.drop i) x = if (l.getD i Wd.zero).t = x then (l.getD i Wd.zero).c else cntD (l.drop (i + 1)) x := by
  rw [List.drop_eq_getElem_cons h, cntD_cons, getD_lt h]
set_option maxHeartbeats 1000000 in
theorem refCountD_ok (l : List Wd) (x : Bytes) : FnOk Tryz.prog 41 [.cell [.ro (wdR l)], .str x] (.int .i64 (cntD l x)) [] := by
  refine FnOk.of_vc Tryz.func41 rfl (by decide) (by simp [Tryz.f41]) [.tmp 4] rfl fun w0 T0 _ => ?_
  simp only [Tryz.f41, argEnv]
  (repeat' first | with_reducible (first | intro _ | refine rc ?_ | refine rl ?_ | refine rh ?_ | refine rt ?_ | refine rf ?_ | refine rs ?_ | refine And.intro ?_ ?_) | omega | simp (maxSteps := 1000000) only [go_sem, simprocAttr, ↓reduceIte, List.length_map])
  refine VcLoop.intro (fun i : Nat => ⟨23, [(12, .int .i64 i), (11, .int .i64 l.length), (10, .ro (wdR l)), (1, .str x)], [], 0⟩) (fun i => i ≤ l.length ∧ cntD (l.drop i) x = cntD l x) (fun i => l.length - i) 0 ?_ ⟨Nat.zero_le _, by rw [List.drop_zero]⟩ fun i hi => ?_
  · refine Ent.auto0 rfl ?_ ?_ <;> simp only [go_sem, reduceCtorEq, reduceIte, Nat.reduceEqDiff, Nat.reduceLT, Nat.reduceLeDiff, Int.natCast_succ]
  obtain ⟨hi, hc⟩ := hi
  by_cases hlt : i < l.length
  · have he := wd_elem l hlt
    rw [cntD_drop l hlt] at hc
    generalize l.getD i Wd.zero = y at *
    obtain ⟨yt, yc⟩ := y
    dsimp only at he hc
    by_cases hx : yt = x
    · rw [if_pos hx] at hc
      subst hx
      (repeat' first | with_reducible (first | intro _ | refine rc ?_ | refine rl ?_ | refine rh ?_ | refine rt ?_ | refine rf ?_ | refine rs ?_ | refine And.intro ?_ ?_) | omega | simp (maxSteps := 1000000) only [go_sem, simprocAttr, ↓reduceIte, elemA, he, List.length_map])
      refine Ret.auto 0 ?_ rfl ?_ <;> simp only [go_sem, reduceCtorEq, reduceIte, Nat.reduceEqDiff, Nat.reduceLT, Nat.reduceLeDiff, Int.natCast_succ, Post, hc]
    · rw [if_neg hx] at hc
      (repeat' first | with_reducible (first | intro _ | refine rc ?_ | refine rl ?_ | refine rh ?_ | refine rt ?_ | refine rf ?_ | refine rs ?_ | refine And.intro ?_ ?_) | omega | simp (maxSteps := 1000000) only [go_sem, simprocAttr, ↓reduceIte, elemA, he, hx, List.length_map])
      refine ⟨i + 1, Ent.auto0 rfl ?_ ?_, ⟨by omega, hc⟩, by omega⟩ <;> simp only [go_sem, reduceCtorEq, reduceIte, Nat.reduceEqDiff, Nat.reduceLT, Nat.reduceLeDiff, Int.natCast_succ]
  · have e : i = l.length := by omega
    subst e
    rw [List.drop_length, cntD_nil] at hc
    (repeat' first | with_reducible (first | intro _ | refine rc ?_ | refine rl ?_ | refine rh ?_ | refine rt ?_ | refine rf ?_ | refine rs ?_ | refine And.intro ?_ ?_) | omega | simp (maxSteps := 1000000) only [go_sem, simprocAttr, ↓reduceIte, List.length_map])
    refine Ret.auto 0 ?_ rfl ?_ <;> simp only [go_sem, reduceCtorEq, reduceIte, Nat.reduceEqDiff, Nat.reduceLT, Nat.reduceLeDiff, Int.natCast_succ, Post, ← hc]
end Go.Fv.Y

/- Lines put together: the small functions of JoinLines. -/
namespace Go.Fv.Y
open Go Go.Proofs
set_option linter.unusedSimpArgs false
set_option linter.unusedVariables false
set_option linter.unnecessarySimpa false
set_option maxRecDepth 8000

def hasW (l : List Wd) (w : Bytes) : Bool := decide (0 < cntD l w) || decide (0 < cntD l (smallL w))
theorem knows_ok (l : List Wd) (ws : List Bytes) (x : Bytes) : FnOk Tryz.prog 60 [.cell [.mp (dKs l) (dVs l), .ro (.strs ws)], .str x] (.bool (hasW l x)) [] := by
  have k1 := hasD_ok l ws x
  have k2 := smallW_ok x
  have k3 := hasD_ok l ws (smallL x)
  unfold hasW
  refine FnOk.of_vc Tryz.func60 rfl (by decide) (by simp [Tryz.f60]) [.tmp 4] rfl fun w0 T0 _ => ?_
  simp only [Tryz.f60, argEnv]
  by_cases h : 0 < cntD l x
  · rw [decide_eq_true h] at k1 ⊢
    (repeat' first | with_reducible (first | intro _ | refine rc ?_ | refine rl ?_ | refine rh ?_ | refine rt ?_ | refine rf ?_ | refine rs ?_ | refine And.intro ?_ ?_) | omega | simp (maxSteps := 1000000) only [go_sem, simprocAttr, ↓reduceIte])
    refine VcCall.k (k1) ?_
    (repeat' first | with_reducible (first | intro _ | refine rc ?_ | refine rl ?_ | refine rh ?_ | refine rt ?_ | refine rf ?_ | refine rs ?_ | refine And.intro ?_ ?_) | omega | simp (maxSteps := 1000000) only [go_sem, simprocAttr, ↓reduceIte])
    refine Ret.auto 0 ?_ rfl ?_ <;> simp only [go_sem, reduceCtorEq, reduceIte, Nat.reduceEqDiff, Nat.reduceLT, Nat.reduceLeDiff, Int.natCast_succ, Post, Bool.false_or, Bool.true_or, Bool.or_false, Bool.or_true]
  · rw [decide_eq_false h] at k1 ⊢
    (repeat' first | with_reducible (first | intro _ | refine rc ?_ | refine rl ?_ | refine rh ?_ | refine rt ?_ | refine rf ?_ | refine rs ?_ | refine And.intro ?_ ?_) | omega | simp (maxSteps := 1000000) only [go_sem, simprocAttr, ↓reduceIte])
    refine VcCall.k (k1) ?_
    (repeat' first | with_reducible (first | intro _ | refine rc ?_ | refine rl ?_ | refine rh ?_ | refine rt ?_ | refine rf ?_ | refine rs ?_ | refine And.intro ?_ ?_) | omega | simp (maxSteps := 1000000) only [go_sem, simprocAttr, ↓reduceIte])
    refine VcCall.k (k2) ?_
    (repeat' first | with_reducible (first | intro _ | refine rc ?_ | refine rl ?_ | refine rh ?_ | refine rt ?_ | refine rf ?_ | refine rs ?_ | refine And.intro ?_ ?_) | omega | simp (maxSteps := 1000000) only [go_sem, simprocAttr, ↓reduceIte])
    refine VcCall.k (k3) ?_
    (repeat' first | with_reducible (first | intro _ | refine rc ?_ | refine rl ?_ | refine rh ?_ | refine rt ?_ | refine rf ?_ | refine rs ?_ | refine And.intro ?_ ?_) | omega | simp (maxSteps := 1000000) only [go_sem, simprocAttr, ↓reduceIte])
    refine Ret.auto 0 ?_ rfl ?_ <;> simp only [go_sem, reduceCtorEq, reduceIte, Nat.reduceEqDiff, Nat.reduceLT, Nat.reduceLeDiff, Int.natCast_succ, Post, Bool.false_or, Bool.true_or, Bool.or_false, Bool.or_true]
end Go.Fv.Y

/- Correct: what it computes. -/
namespace Go.Fv.Y
open Go
set_option linter.unusedSimpArgs false
set_option linter.unusedVariables false
set_option linter.unnecessarySimpa false

/-- A word as it is written. -/
def corrW (D : List Wd) (sw : List Sw) (most : Int) (w : Bytes) : Bytes :=
  if hasW D w = true then w
  else match bestG (nearL D sw w most) with
    | some g => g.t
    | none => if smallL w = w then w else match bestG (nearL D sw (smallL w) most) with
      | some g => recL g.t w
      | none => w
structure Fx where
  a : Int
  o : Bytes
  n : Bytes
def Fx.av (x : Fx) : List AV := [.int .i64 x.a, .str x.o, .str x.n]
def Fx.zero : Fx := ⟨0, [], []⟩
instance : FNoId Fx.av := ⟨fun _ => rfl⟩
def fxR (l : List Fx) : RowV := .objs 3 (l.map Fx.av)
/-- What is done so far: the text, the fixes, and how far. -/
structure CS where
  b : Bytes
  f : List Fx
  at_ : Nat
def pieceOf (f : Bytes → Bytes) (t : Tok) : Bytes := if t.2 = true then f t.1 else t.1
def CS.step (f : Bytes → Bytes) (s : CS) (t : Tok) : CS := ⟨s.b ++ pieceOf f t, if pieceOf f t = t.1 then s.f else s.f ++ [⟨s.at_, t.1, pieceOf f t⟩], s.at_ + t.1.length⟩
def csAll (f : Bytes → Bytes) (l : List Tok) : CS := l.foldl (CS.step f) ⟨[], [], 0⟩
theorem csAll_take (f : Bytes → Bytes) {l : List Tok} {i : Nat} (h : i < l.length) : csAll f (l.take (i + 1)) = CS.step f (csAll f (l.take i)) (l.getD i ([], false)) := by
  unfold csAll
  rw [List.take_succ_eq_append_getElem h, List.foldl_append, getD_lt h]; rfl
theorem bestG_mem {L : List Gs} {g : Gs} (h : bestG L = some g) : g ∈ L := by
  match L, h with
  | [x], h => cases h; exact List.mem_cons_self
  | x :: y :: r, h =>
    have h2 : (if x.d < y.d ∨ 2 * y.c ≤ x.c then some x else none) = some g := h
    split at h2
    · cases h2; exact List.mem_cons_self
    · cases h2
theorem near_word {D : List Wd} (hg : GoodD D) {sw : List Sw} {w : Bytes} {most : Int} {g : Gs} (h : bestG (nearL D sw w most) = some g) : isWd g.t = true := by
  have h1 := bestG_mem h
  unfold nearL at h1
  exact ws_isWd hg (mem_gsAll ((sortG_perm _).mem_iff.1 h1)).1
theorem isWd_bd {s : Bytes} (h : isWd s = true) : s ≠ [] ∧ s.length ≤ 40 := by
  unfold isWd at h
  simp only [Bool.and_eq_true, decide_eq_true_eq] at h
  exact ⟨h.1.1.1.1, h.1.1.1.2⟩
theorem recL_len (g w : Bytes) : (recL g w).length = g.length := by
  unfold recL greatL
  split
  · simp
  · split
    · simp; omega
    · rfl
theorem corrW_bd {D : List Wd} (hg : GoodD D) (sw : List Sw) (most : Int) {w : Bytes} (hw : isWd w = true) : corrW D sw most w ≠ [] ∧ (corrW D sw most w).length ≤ 40 := by
  have h0 := isWd_bd hw
  unfold corrW
  split
  · exact h0
  · split
    · rename_i g h; exact isWd_bd (near_word hg h)
    · split
      · exact h0
      · split
        · rename_i g h
          have h1 := isWd_bd (near_word hg h)
          have h2 := recL_len g.t w
          have h3 := List.length_pos_iff.2 h1.1
          exact ⟨List.length_pos_iff.1 (by omega), by omega⟩
        · exact h0
/-- Tokens that are no words, or right ones; none is empty. -/
def TokOk (l : List Tok) : Prop := ∀ t, t ∈ l → t.1 ≠ [] ∧ (t.2 = true → isWd t.1 = true)
theorem TokOk.flush {l : List Tok} (h : TokOk l) (b : Bytes) : TokOk (flush l b) := by
  unfold Go.Fv.Y.flush
  split
  · exact h
  · rename_i hb
    intro t ht
    rcases List.mem_append.1 ht with ht | ht
    · exact h t ht
    · rw [List.mem_singleton] at ht; subst ht; exact ⟨hb, fun e => by cases e⟩
theorem toks_ok : ∀ (n : Nat) (s btw : Bytes) (out : List Tok), s.length ≤ n → TokOk out → TokOk (toks s btw out)
  | 0, s, btw, out, h, ho => by
    have : s = [] := List.eq_nil_of_length_eq_zero (by omega)
    subst this
    rw [toks_nil]; exact ho.flush _
  | n + 1, [], btw, out, h, ho => by rw [toks_nil]; exact ho.flush _
  | n + 1, c :: s, btw, out, h, ho => by
    cases hc : inW c with
    | false => rw [toks_other hc]; exact toks_ok n _ _ _ (by simpa using h) ho
    | true =>
      have hd := drop_lt (s := s) hc
      by_cases hw : isWd (midQ ((c :: s).takeWhile inW)) = true
      · rw [toks_word hc _ _ hw]
        refine toks_ok n _ _ _ (by omega) fun t ht => ?_
        rcases List.mem_append.1 ht with ht | ht
        · exact ho.flush _ t ht
        · rw [List.mem_singleton] at ht; subst ht; exact ⟨(isWd_bd hw).1, fun _ => hw⟩
      · rw [toks_row hc _ _ hw]; exact toks_ok n _ _ _ (by omega) ho
theorem tokOk (s : Bytes) : TokOk (toks s [] []) := toks_ok _ s [] [] (Nat.le_refl _) fun t ht => by cases ht
theorem csAll_at (f : Bytes → Bytes) (l : List Tok) : (csAll f l).at_ = (textOf l).length := by
  have key : ∀ (l : List Tok) (s : CS), (l.foldl (CS.step f) s).at_ = s.at_ + (textOf l).length := by
    intro l
    induction l with
    | nil => intro s; rfl
    | cons t l ih =>
      intro s
      rw [List.foldl_cons, ih]
      show s.at_ + t.1.length + (textOf l).length = _
      unfold textOf
      simp; omega
  have := key l ⟨[], [], 0⟩
  simpa [csAll] using this
end Go.Fv.Y

/- The stable sort of guesses: swaps of ranges. -/
namespace Go.Fv.Y
open Go Go.Proofs
set_option linter.unusedSimpArgs false
set_option linter.unusedVariables false
set_option linter.unnecessarySimpa false
set_option maxRecDepth 8000

theorem covG1 {a : Item} : ∀ j, j < 1 → ∃ it, lk [(0, a)] j = some it := fun j hj => by
  have : j = 0 := by omega
  subst this; exact ⟨a, rfl⟩
theorem getD_mid {α : Type} (A C : List α) (u z : α) {p : Nat} (hp : p = A.length) : (A ++ u :: C).getD p z = u := by
  subst hp
  rw [List.getD_eq_getElem?_getD, List.getElem?_append_right (Nat.le_refl _), Nat.sub_self]; rfl
theorem set_mid {α : Type} (A C : List α) (u v : α) {p : Nat} (hp : p = A.length) : (A ++ u :: C).set p v = A ++ v :: C := by
  subst hp
  rw [List.set_append, if_neg (Nat.lt_irrefl _), Nat.sub_self]; rfl
/-- Two places that are swapped. -/
structure SwapF (M M' : List (List AV)) (p q : Nat) (u v : Gs) : Prop where
  l : p < q ∧ q < M.length
  l' : M'.length = M.length
  e1 : M.getD p [] = [.str u.t, .int .i64 u.d, .int .i64 u.c]
  e2 : M.getD q [] = [.str v.t, .int .i64 v.d, .int .i64 v.c]
  s1 : (M.set p [.str v.t, .int .i64 v.d, .int .i64 v.c]).getD q [] = [.str v.t, .int .i64 v.d, .int .i64 v.c]
  s2 : (M.set q [.str u.t, .int .i64 u.d, .int .i64 u.c]).getD p [] = [.str u.t, .int .i64 u.d, .int .i64 u.c]
  t1 : (M.set p [.str v.t, .int .i64 v.d, .int .i64 v.c]).set q [.str u.t, .int .i64 u.d, .int .i64 u.c] = M'
  t2 : (M.set q [.str u.t, .int .i64 u.d, .int .i64 u.c]).set p [.str v.t, .int .i64 v.d, .int .i64 v.c] = M'
theorem swapF {A B C L L' : List Gs} {u v : Gs} {p q : Nat} (hL : L = A ++ u :: (B ++ v :: C)) (hL' : L' = A ++ v :: (B ++ u :: C)) (hp : p = A.length) (hq : q = A.length + 1 + B.length) : SwapF (L.map Gs.av) (L'.map Gs.av) p q u v := by
  have hm : L.map Gs.av = A.map Gs.av ++ u.av :: (B.map Gs.av ++ v.av :: C.map Gs.av) := by rw [hL]; simp
  have hm' : L'.map Gs.av = A.map Gs.av ++ v.av :: (B.map Gs.av ++ u.av :: C.map Gs.av) := by rw [hL']; simp
  have hp' : p = (A.map Gs.av).length := by rw [List.length_map]; exact hp
  have h2 : ∀ x : List AV, ∀ D : List (List AV), A.map Gs.av ++ x :: (B.map Gs.av ++ D) = (A.map Gs.av ++ x :: B.map Gs.av) ++ D := fun x D => by simp
  have hq' : ∀ x : List AV, q = (A.map Gs.av ++ x :: B.map Gs.av).length := fun x => by simp; omega
  refine ⟨⟨by omega, by rw [hm]; simp; omega⟩, by rw [hm, hm']; simp, ?_, ?_, ?_, ?_, ?_, ?_⟩
  · rw [hm, getD_mid _ _ _ _ hp']; rfl
  · rw [hm, h2, getD_mid _ _ _ _ (hq' _)]; rfl
  · rw [hm, set_mid _ _ _ _ hp', h2, getD_mid _ _ _ _ (hq' _)]; rfl
  · rw [hm, h2, set_mid _ _ _ _ (hq' _), ← h2, getD_mid _ _ _ _ hp']; rfl
  · rw [hm, hm', set_mid _ _ _ _ hp', h2, set_mid _ _ _ _ (hq' _), h2]; rfl
  · rw [hm, hm', h2, set_mid _ _ _ _ (hq' _), ← h2, set_mid _ _ _ _ hp']; rfl
def swR (P U M V Q : List Gs) (i : Nat) : List Gs := P ++ ((V.take i ++ U.drop i) ++ (M ++ ((U.take i ++ V.drop i) ++ Q)))
theorem swR_step {P U M V Q : List Gs} {n i : Nat} (hU : U.length = n) (hV : V.length = n) (hi : i < n) :
    SwapF ((swR P U M V Q i).map Gs.av) ((swR P U M V Q (i + 1)).map Gs.av) (P.length + i) (P.length + n + M.length + i) (U.getD i Gs.zero) (V.getD i Gs.zero) := by
  have eu : U.drop i = U.getD i Gs.zero :: U.drop (i + 1) := by rw [List.drop_eq_getElem_cons (by omega), getD_lt (by omega)]
  have ev : V.drop i = V.getD i Gs.zero :: V.drop (i + 1) := by rw [List.drop_eq_getElem_cons (by omega), getD_lt (by omega)]
  have fu : U.take (i + 1) = U.take i ++ [U.getD i Gs.zero] := by rw [List.take_succ_eq_append_getElem (by omega), getD_lt (by omega)]
  have fv : V.take (i + 1) = V.take i ++ [V.getD i Gs.zero] := by rw [List.take_succ_eq_append_getElem (by omega), getD_lt (by omega)]
  refine swapF (A := P ++ V.take i) (B := U.drop (i + 1) ++ M ++ U.take i) (C := V.drop (i + 1) ++ Q) ?_ ?_ ?_ ?_
  · unfold swR; rw [eu, ev]; simp
  · unfold swR; rw [fu, fv]; simp
  · simp; omega
  · simp; omega
theorem swR_len (P U M V Q : List Gs) {n i : Nat} (hU : U.length = n) (hV : V.length = n) (hi : i ≤ n) : (swR P U M V Q i).length = P.length + n + M.length + n + Q.length := by
  unfold swR; simp; omega
theorem swR_zero (P U M V Q : List Gs) : swR P U M V Q 0 = P ++ (U ++ (M ++ (V ++ Q))) := by unfold swR; simp
theorem swR_all (P U M V Q : List Gs) {n : Nat} (hU : U.length = n) (hV : V.length = n) : swR P U M V Q n = P ++ (V ++ (M ++ (U ++ Q))) := by
  unfold swR
  rw [List.take_of_length_le (by omega), List.take_of_length_le (by omega), List.drop_of_length_le (by omega), List.drop_of_length_le (by omega)]; simp
set_option maxHeartbeats 4000000 in
theorem swapRange_io (P U M V Q : List Gs) (n a b : Nat) (F : Nat) (hU : U.length = n) (hV : V.length = n) (ha : a = P.length) (hb : b = P.length + n + M.length) (hq : P.length + n + M.length + n + Q.length ≤ 1000000) :
    FnIO Tryz.prog 177 [.own 0, .int .i64 a, .int .i64 b, .int .i64 n, .fn F []] [(0, .row 41 (gsR (P ++ (U ++ (M ++ (V ++ Q))))))] 1 (.tup []) [(0, .row 41 (gsR (P ++ (V ++ (M ++ (U ++ Q))))))] := by
  refine FnIO.of_vc Tryz.func177 rfl (by decide) (by simp [Tryz.f177]) covG1 [] rfl fun w0 T0 _ => ?_
  simp only [Tryz.f177, argEnv]
  (repeat' first | with_reducible (first | intro _ | refine rc ?_ | refine rl ?_ | refine rh ?_ | refine rt ?_ | refine rf ?_ | refine rs ?_ | refine And.intro ?_ ?_) | omega | simp (maxSteps := 1000000) only [go_sem, simprocAttr, ↓reduceIte])
  refine VcLoop.intro (fun i : Nat => ⟨38, [(0, .own 0), (1, .int .i64 a), (2, .int .i64 b), (3, .int .i64 n), (10, .int .i64 i)], [(0, .row 41 (gsR (swR P U M V Q i)))], 1⟩) (fun i => i ≤ n) (fun i => n - i) 0 ?_ (Nat.zero_le _) fun i hi => ?_
  · refine Ent.autoK 1 rfl (Nat.le_refl 1) ?_ ?_ <;> simp only [go_sem, reduceCtorEq, reduceIte, Nat.reduceEqDiff, Nat.reduceLT, Nat.reduceLeDiff, Int.natCast_succ, swR_zero, fromL, gsR]
    all_goals rfl
  by_cases hlt : i < n
  · have hs := swR_step (P := P) (M := M) (Q := Q) hU hV hlt
    have hsl := swR_len P U M V Q hU hV hi
    have i1 : (a : Int) + (i : Int) = ((P.length + i : Nat) : Int) := by omega
    have i2 : (b : Int) + (i : Int) = ((P.length + n + M.length + i : Nat) : Int) := by omega
    have hsl2 := hsl
    rw [← List.length_map (f := Gs.av)] at hsl
    obtain ⟨hl, hl', e1, e2, s1, s2, t1, t2⟩ := hs
    generalize U.getD i Gs.zero = u at *
    generalize V.getD i Gs.zero = v at *
    (repeat' first | with_reducible (first | intro _ | refine rc ?_ | refine rl ?_ | refine rh ?_ | refine rt ?_ | refine rf ?_ | refine rs ?_ | refine And.intro ?_ ?_) | omega | simp (maxSteps := 1000000) only [go_sem, simprocAttr, ↓reduceIte, i1, i2, Int.toNat_natCast, gsR])
    refine VcDraw.lex [21, 23] [(4, [1]), (5, [1]), (6, [1]), (7, [1])] (by kernel_rfl) (by kernel_rfl) ?_
    (repeat' first | with_reducible (first | intro _ | refine rc ?_ | refine rl ?_ | refine rh ?_ | refine rt ?_ | refine rf ?_ | refine rs ?_ | refine And.intro ?_ ?_) | omega | simp (maxSteps := 1000000) only [go_sem, simprocAttr, ↓reduceIte, i1, i2, Int.toNat_natCast, gsR, elemA, e1, e2, s1, s2, t1, t2])
    refine ⟨i + 1, Ent.autoK 1 rfl (Nat.le_refl 1) ?_ ?_, by omega, by omega⟩ <;> simp only [go_sem, reduceCtorEq, reduceIte, Nat.reduceEqDiff, Nat.reduceLT, Nat.reduceLeDiff, Int.natCast_succ, fromL, gsR]
  · have e : i = n := by omega
    subst e
    rw [swR_all P U M V Q hU hV]
    (repeat' first | with_reducible (first | intro _ | refine rc ?_ | refine rl ?_ | refine rh ?_ | refine rt ?_ | refine rf ?_ | refine rs ?_ | refine And.intro ?_ ?_) | omega | simp (maxSteps := 1000000) only [go_sem, simprocAttr, ↓reduceIte])
    refine RetK.auto 1 (Nat.le_refl 1) ?_ rfl ?_ <;> simp only [go_sem, reduceCtorEq, reduceIte, Nat.reduceEqDiff, Nat.reduceLT, Nat.reduceLeDiff, Int.natCast_succ, fromL, gsR]
end Go.Fv.Y

/- The stable sort of guesses: what insertion does. -/
namespace Go.Fv.Y
open Go Go.Proofs
set_option linter.unusedSimpArgs false
set_option linter.unusedVariables false
set_option linter.unnecessarySimpa false
set_option maxRecDepth 8000

def cmpI (a b : Int) : Int := if a < b then -1 else if b < a then 1 else 0
def cfG (x y : Gs) : Int := if cmpI x.d y.d = 0 then cmpI y.c x.c else cmpI x.d y.d
theorem cfG_lt (x y : Gs) : cfG x y < 0 ↔ lt0 x y := by
  unfold cfG cmpI lt0; split <;> split <;> (try split) <;> (try split) <;> omega
abbrev gd (Y : List Gs) (i : Nat) : Gs := Y.getD i Gs.zero
def StabI (Y : List Gs) : Prop := ∀ p q, p < q → q < Y.length → ke (gd Y p) (gd Y q) → (gd Y p).t < (gd Y q).t
theorem gd_get {Y : List Gs} {i : Nat} (h : i < Y.length) : gd Y i = Y[i] := getD_lt h
theorem stabI_of {Y : List Gs} (h : Stab Y) : StabI Y := fun p q hpq hq hk => by
  have := List.pairwise_iff_getElem.1 h p q (by omega) hq hpq
  rw [gd_get (by omega), gd_get hq] at *
  exact this hk
theorem stab_ofI {Y : List Gs} (h : StabI Y) : Stab Y := List.pairwise_iff_getElem.2 fun p q hp hq hpq hk => by
  have := h p q hpq hq
  rw [gd_get hp, gd_get hq] at this
  exact this hk
theorem srt_ofI {Y : List Gs} (h : ∀ p q, p < q → q < Y.length → ¬ lt0 (gd Y q) (gd Y p)) : Srt Y := List.pairwise_iff_getElem.2 fun p q hp hq hpq => by
  have := h p q hpq hq
  rw [gd_get hp, gd_get hq] at this
  exact this
theorem srtI_of {Y : List Gs} (h : Srt Y) : ∀ p q, p < q → q < Y.length → ¬ lt0 (gd Y q) (gd Y p) := fun p q hpq hq => by
  have := List.pairwise_iff_getElem.1 h p q (by omega) hq hpq
  rw [gd_get (i := p) (by omega), gd_get (i := q) hq]
  exact this
/-- Two neighbours change their places. -/
def swp (Y : List Gs) (j : Nat) : List Gs := Y.take j ++ gd Y (j + 1) :: ([] ++ gd Y j :: Y.drop (j + 2))
theorem swp_src {Y : List Gs} {j : Nat} (h : j + 1 < Y.length) : Y = Y.take j ++ gd Y j :: ([] ++ gd Y (j + 1) :: Y.drop (j + 2)) := by
  have e1 : Y.drop j = gd Y j :: Y.drop (j + 1) := by rw [List.drop_eq_getElem_cons (by omega), gd_get (by omega)]
  have e2 : Y.drop (j + 1) = gd Y (j + 1) :: Y.drop (j + 2) := by rw [List.drop_eq_getElem_cons h, gd_get h]
  conv => lhs; rw [← List.take_append_drop j Y, e1, e2]
  rfl
theorem swp_perm {Y : List Gs} {j : Nat} (h : j + 1 < Y.length) : (swp Y j).Perm Y := by
  conv => rhs; rw [swp_src h]
  unfold swp
  exact List.Perm.append_left _ (List.Perm.swap _ _ _)
theorem swp_len {Y : List Gs} {j : Nat} (h : j + 1 < Y.length) : (swp Y j).length = Y.length := (swp_perm h).length_eq
theorem swp_get {Y : List Gs} {j : Nat} (h : j + 1 < Y.length) (i : Nat) : gd (swp Y j) i = if i = j then gd Y (j + 1) else if i = j + 1 then gd Y j else gd Y i := by
  have hl : (Y.take j).length = j := by rw [List.length_take]; omega
  unfold swp gd
  rw [List.nil_append]
  simp only [List.getD_eq_getElem?_getD]
  by_cases h1 : i < j
  · rw [List.getElem?_append_left (by omega), List.getElem?_take_of_lt h1, if_neg (by omega), if_neg (by omega)]
  rw [List.getElem?_append_right (by omega), hl]
  by_cases h2 : i = j
  · subst h2; rw [Nat.sub_self, if_pos rfl]; rfl
  by_cases h3 : i = j + 1
  · subst h3; rw [if_neg h2, if_pos rfl, show j + 1 - j = 1 by omega]; rfl
  rw [if_neg h2, if_neg h3, show i - j = (i - j - 2) + 2 by omega]
  simp only [List.getElem?_cons_succ]
  rw [List.getElem?_drop, show j + 2 + (i - j - 2) = i by omega]
theorem swp_stab {Y : List Gs} {j : Nat} (h : j + 1 < Y.length) (hl : lt0 (gd Y (j + 1)) (gd Y j)) (hs : StabI Y) : StabI (swp Y j) := fun p q hpq hq hk => by
  rw [swp_len h] at hq
  rw [swp_get h, swp_get h] at *
  by_cases p1 : p = j
  · by_cases q2 : q = j + 1
    · rw [if_pos p1, if_neg (by omega), if_pos q2] at hk
      exact absurd hk (lt0_ke hl).1
    · rw [if_pos p1, if_neg (by omega), if_neg q2] at *
      exact hs _ _ (by omega) hq hk
  rw [if_neg p1] at *
  by_cases p2 : p = j + 1
  · rw [if_pos p2, if_neg (by omega), if_neg (by omega)] at *
    exact hs _ _ (by omega) hq hk
  rw [if_neg p2] at *
  by_cases q1 : q = j
  · rw [if_pos q1] at *
    exact hs _ _ (by omega) h hk
  rw [if_neg q1] at *
  by_cases q2 : q = j + 1
  · rw [if_pos q2] at *
    exact hs _ _ (by omega) (by omega) hk
  rw [if_neg q2] at *
  exact hs _ _ hpq hq hk
/-- The prefix up to k is in order but for the place j. -/
def InsI (Y : List Gs) (k j : Nat) : Prop := ∀ p q, p < q → q ≤ k → q ≠ j → ¬ lt0 (gd Y q) (gd Y p)
theorem insI_swap {Y : List Gs} {k j : Nat} (hk : k < Y.length) (hj : j + 1 ≤ k) (h : InsI Y k (j + 1)) (hl : lt0 (gd Y (j + 1)) (gd Y j)) : InsI (swp Y j) k j := fun p q hpq hq hne => by
  have hb : j + 1 < Y.length := by omega
  rw [swp_get hb, swp_get hb, if_neg hne]
  by_cases q2 : q = j + 1
  · rw [if_pos q2]
    by_cases p1 : p = j
    · rw [if_pos p1]; exact lt0_asymm hl
    · rw [if_neg p1, if_neg (by omega)]
      exact h _ _ (by omega) (by omega) (by omega)
  rw [if_neg q2]
  by_cases p1 : p = j
  · rw [if_pos p1]; exact h _ _ (by omega) hq q2
  rw [if_neg p1]
  by_cases p2 : p = j + 1
  · rw [if_pos p2]; exact h _ _ (by omega) hq q2
  rw [if_neg p2]; exact h _ _ hpq hq q2
theorem insI_end {Y : List Gs} {k j : Nat} (hj : j ≤ k) (h : InsI Y k j) (he : 0 < j → ¬ lt0 (gd Y j) (gd Y (j - 1))) : ∀ p q, p < q → q ≤ k → ¬ lt0 (gd Y q) (gd Y p) := fun p q hpq hq => by
  by_cases e : q = j
  · subst e
    by_cases e2 : p = q - 1
    · subst e2; exact he (by omega)
    · exact nlt_trans (h p (q - 1) (by omega) (by omega) (by omega)) (he (by omega))
  · exact h p q hpq hq e
theorem swp_swapF {P Y Q : List Gs} {j : Nat} (h : j + 1 < Y.length) : SwapF ((P ++ (Y ++ Q)).map Gs.av) ((P ++ (swp Y j ++ Q)).map Gs.av) (P.length + j) (P.length + (j + 1)) (gd Y j) (gd Y (j + 1)) := by
  refine swapF (A := P ++ Y.take j) (B := []) (C := Y.drop (j + 2) ++ Q) ?_ ?_ ?_ ?_
  · conv => lhs; rw [swp_src h]
    simp
  · unfold swp; simp
  · simp; omega
  · simp; omega
end Go.Fv.Y
