/-
  A part of the proof of the claim: walks over the program's functions and the plain laws that these need. No condition of its own.
-/
import Derived.Test.YtmdaiceacfgkpaaGreatDoorYGuessesCardPart2
import Derived.Test.YtmdaiceacfgkpaaGreatDoorYGuessesCardPart5
import Derived.Test.YtmdaiceacfgkpaaGreatDoorYGuessesCardPart1
import Derived.Test.YtmdaiceacfgkpaaGreatDoorYGuessesCardPart4
import Derived.Test.YtmdaiceacfgkpaaGreatDoorFvPart6
namespace Go.Fv.Y
open Go Go.Proofs
set_option linter.unusedSimpArgs false
set_option linter.unusedVariables false
set_option linter.unnecessarySimpa false
set_option maxRecDepth 8000

def St.av (s : St) : List AV := [.int .i64 s.a, .int .i64 s.b, .int .i64 s.c]
def St.zero : St := ⟨0, 0, 0⟩
def sts (l : List St) : RowV := .objs 3 (l.map St.av)
instance : FNoId St.av := ⟨fun _ => rfl⟩
instance {l : List St} : RowNoId (sts l) := inferInstanceAs (RowNoId (.objs 3 (l.map St.av)))
theorem st_elem (l : List St) {i : Nat} (h : i < l.length) : (l.map St.av).getD i [] = [.int .i64 (l.getD i St.zero).a, .int .i64 (l.getD i St.zero).b, .int .i64 (l.getD i St.zero).c] := by
  rw [getD_lt (by simpa using h), getD_lt h, List.getElem_map]; rfl
theorem sts_snoc (l : List St) (a b : Nat) (c : Int) : l.map St.av ++ [[.int .i64 a, .int .i64 b, .int .i64 c]] = (l ++ [(⟨a, b, c⟩ : St)]).map St.av := by simp [St.av]
/-- What a swap gives at two places. -/
def one (x y : List UInt8) (s : Sw) : List St := if fits x y s = true then [⟨s.o.length, s.n.length, s.c⟩] else []
def two (x y : List UInt8) (m : Mx) : List St := one x y ⟨m.f, m.t, m.c⟩ ++ one x y ⟨m.t, m.f, m.c⟩
theorem swSteps_flat (x y : List UInt8) (l : List Mx) : swSteps (swL l) x y = l.flatMap (two x y) := by
  induction l with
  | nil => rfl
  | cons m l ih =>
    have e : swL (m :: l) = ⟨m.f, m.t, m.c⟩ :: ⟨m.t, m.f, m.c⟩ :: swL l := rfl
    have hc : ∀ (s : Sw) (q : List Sw), swSteps (s :: q) x y = one x y s ++ swSteps q x y := by
      intro s q
      unfold swSteps one
      by_cases h : fits x y s = true
      · have h' : (s.o.isPrefixOf x && s.n.isPrefixOf y) = true := h
        simp only [List.filter_cons, h', h, if_true]; rfl
      · have h' : ¬ (s.o.isPrefixOf x && s.n.isPrefixOf y) = true := h
        simp only [List.filter_cons, if_neg h', if_neg h]; rfl
    rw [e, hc, hc, ih, List.flatMap_cons, ← List.append_assoc]; rfl
theorem two_len (x y : List UInt8) (m : Mx) : (two x y m).length ≤ 2 := by
  unfold two one
  split <;> split <;> simp
theorem flat_len (x y : List UInt8) : ∀ l : List Mx, (l.flatMap (two x y)).length ≤ 2 * l.length
  | [] => by simp
  | m :: l => by
    rw [List.flatMap_cons, List.length_append]
    have h1 := two_len x y m
    have h2 := flat_len x y l
    rw [List.length_cons]; omega

set_option maxHeartbeats 16000000 in
theorem steps_ok (l : List Mx) (hl : l.length ≤ 1000) (a b : List UInt8) (i j : Nat) (hi : i ≤ a.length) (hj : j ≤ b.length) :
    FnOk Tryz.prog 93 [.str a, .str b, .int .i64 i, .int .i64 j, .ro (mxs l)] (.own 0) [(0, .row 140 (sts (steps (swL l) (a.drop i) (b.drop j))))] := by
  have hxne : a.drop i ≠ [] ↔ i < a.length := by simp
  have hyne : b.drop j ≠ [] ↔ j < b.length := by simp
  have hhd : ∀ l : List UInt8, l.headD 0 = l.getD 0 0 := fun l => by cases l <;> rfl
  have hgx : (a.drop i).headD 0 = a.getD i 0 := by rw [hhd]; simp [List.getD]
  have hgy : (b.drop j).headD 0 = b.getD j 0 := by rw [hhd]; simp [List.getD]
  have hst : steps (swL l) (a.drop i) (b.drop j) = (if i < a.length ∧ j < b.length ∧ a.getD i 0 = b.getD j 0 then [(⟨1, 1, 0⟩ : St)] else []) ++ l.flatMap (two (a.drop i) (b.drop j)) ++ (if i < a.length ∧ j < b.length then [⟨1, 1, 100⟩] else []) ++ (if i < a.length then [⟨1, 0, 100⟩] else []) ++ (if j < b.length then [⟨0, 1, 100⟩] else []) := by
    unfold steps
    rw [swSteps_flat]
    simp only [hxne, hyne, hgx, hgy]
  have hsa : List.take (a.length - i) (a.drop i) = a.drop i := List.take_of_length_le (by simp)
  have hsb : List.take (b.length - j) (b.drop j) = b.drop j := List.take_of_length_le (by simp)
  rw [hst]
  refine FnOk.of_vc Tryz.func93 rfl (by decide) (by simp [Tryz.f93]) [.tmp 10] rfl fun w0 T0 _ => ?_
  simp only [Tryz.f93, argEnv]
  (repeat' first | with_reducible (first | intro _ | refine rc ?_ | refine rl ?_ | refine rh ?_ | refine rt ?_ | refine rf ?_ | refine rs ?_ | refine And.intro ?_ ?_) | omega | simp (maxSteps := 1000000) only [go_sem, simprocAttr, ↓reduceIte])
  refine VcDraw.lex [] [] (by kernel_rfl) (by kernel_rfl) ?_
  generalize hE : (if i < a.length ∧ j < b.length ∧ a.getD i 0 = b.getD j 0 then [(⟨1, 1, 0⟩ : St)] else []) = E at *
  (repeat' first | with_reducible (first | intro _ | refine rc ?_ | refine rl ?_ | refine rh ?_ | refine rt ?_ | refine rf ?_ | refine rs ?_ | refine And.intro ?_ ?_) | omega | simp (maxSteps := 1000000) only [go_sem, simprocAttr, ↓reduceIte, Int.toNat_natCast])
  case' refine_1 =>
    rename_i hc _
    rw [if_pos ⟨by omega, by omega, UInt8.toNat_inj.1 (by omega)⟩] at hE
  case' refine_2 =>
    rename_i hc _
    rw [if_neg (fun h => hc ⟨⟨by omega, by omega⟩, by rw [h.2.2]⟩)] at hE
  all_goals
    have hEl : E.length ≤ 1 := by rw [← hE]; simp
    refine VcLoop.intro (fun k : Nat => ⟨118, [(41, .int .i64 k), (40, .int .i64 l.length), (39, .ro (mxs l)), (11, .own 0), (0, .str a), (1, .str b), (2, .int .i64 i), (3, .int .i64 j)], [(0, .row 140 (sts (E ++ (l.take k).flatMap (two (a.drop i) (b.drop j)))))], 1⟩) (fun k => k ≤ l.length) (fun k => l.length - k) 0 ?_ (Nat.zero_le _) fun k hk => ?_
    · refine Ent.auto0 rfl ?_ ?_ <;> simp only [go_sem, reduceCtorEq, reduceIte, Nat.reduceEqDiff, Nat.reduceLT, Nat.reduceLeDiff, Int.natCast_succ, mxs, List.take_zero, List.flatMap_nil, sts, List.length_map, St.av, zrow, List.replicate_zero, ← hE]
      all_goals rfl
    have hfl := flat_len (a.drop i) (b.drop j) (l.take k)
    by_cases hlt : k < l.length
    · have he := mx_elem l hlt
      have htk : (l.take (k + 1)).flatMap (two (a.drop i) (b.drop j)) = (l.take k).flatMap (two (a.drop i) (b.drop j)) ++ two (a.drop i) (b.drop j) (l.getD k Mx.zero) := by
        rw [List.take_succ_eq_append_getElem hlt, List.flatMap_append, getD_lt hlt]; simp
      generalize l.getD k Mx.zero = m at *
      (repeat' first | with_reducible (first | intro _ | refine rc ?_ | refine rl ?_ | refine rh ?_ | refine rt ?_ | refine rf ?_ | refine rs ?_ | refine And.intro ?_ ?_) | omega | simp (maxSteps := 1000000) only [go_sem, simprocAttr, ↓reduceIte, elemA, he, mxs, List.length_map])
      obtain ⟨part, hp0, hp1q, hp2q⟩ : ∃ part : Nat → List St, part 0 = [] ∧ part 1 = one (a.drop i) (b.drop j) ⟨m.f, m.t, m.c⟩ ∧ part 2 = one (a.drop i) (b.drop j) ⟨m.f, m.t, m.c⟩ ++ one (a.drop i) (b.drop j) ⟨m.t, m.f, m.c⟩ := ⟨fun q => if q = 0 then [] else if q = 1 then one (a.drop i) (b.drop j) ⟨m.f, m.t, m.c⟩ else one (a.drop i) (b.drop j) ⟨m.f, m.t, m.c⟩ ++ one (a.drop i) (b.drop j) ⟨m.t, m.f, m.c⟩, rfl, rfl, rfl⟩
      have htwo : two (a.drop i) (b.drop j) m = part 2 := hp2q.symm
      have hpl : (part 1).length ≤ 2 := by rw [hp1q]; unfold one; split <;> simp
      have hpl0 : (part 0).length ≤ 2 := by rw [hp0]; simp
      have hGl : (E ++ (l.take k).flatMap (two (a.drop i) (b.drop j))).length ≤ 3000 := by simp at hfl ⊢; omega
      rw [htwo] at htk
      generalize hG : E ++ (l.take k).flatMap (two (a.drop i) (b.drop j)) = G at *
      refine VcLoop.intro (fun q : Nat => ⟨118, [(56, .int .i64 q), (55, .agg [.str m.f, .str m.t, .str m.t, .str m.f]), (13, .ptr 1 0), (41, .int .i64 k), (40, .int .i64 l.length), (39, .ro (mxs l)), (11, .own 0), (0, .str a), (1, .str b), (2, .int .i64 i), (3, .int .i64 j)], [(0, .row 140 (sts (G ++ part q))), (1, .box 54 [.str m.f, .str m.t, .int .i64 m.c])], 2⟩) (fun q => q ≤ 2) (fun q => 2 - q) 0 ?_ (Nat.zero_le _) fun q hq => ?_
      · refine Ent.auto0 rfl ?_ ?_ <;> simp only [go_sem, reduceCtorEq, reduceIte, Nat.reduceEqDiff, Nat.reduceLT, Nat.reduceLeDiff, Int.natCast_succ, mxs, hp0, List.append_nil, Int.natCast_zero]
      rcases (by omega : q = 0 ∨ q = 1 ∨ q = 2) with rfl | rfl | rfl
      · have k1 := hasPrefix_ok (a.drop i) m.f
        have k2 := hasPrefix_ok (b.drop j) m.t
        have hone : one (a.drop i) (b.drop j) ⟨m.f, m.t, m.c⟩ = if (m.f.isPrefixOf (a.drop i) && m.t.isPrefixOf (b.drop j)) = true then [⟨m.f.length, m.t.length, m.c⟩] else [] := rfl
        (repeat' first | with_reducible (first | intro _ | refine rc ?_ | refine rl ?_ | refine rh ?_ | refine rt ?_ | refine rf ?_ | refine rs ?_ | refine And.intro ?_ ?_) | omega | simp (maxSteps := 1000000) only [go_sem, simprocAttr, ↓reduceIte, Int.cast_ofNat_Int, Int.natCast_zero, Int.natCast_one, Int.toNat_zero, Int.toNat_one, Int.reduceToNat, List.getD_cons_zero, List.getD_cons_succ])
        refine VcDraw.lex [] [] (by kernel_rfl) (by kernel_rfl) ?_
        (repeat' first | with_reducible (first | intro _ | refine rc ?_ | refine rl ?_ | refine rh ?_ | refine rt ?_ | refine rf ?_ | refine rs ?_ | refine And.intro ?_ ?_) | omega | simp (maxSteps := 1000000) only [go_sem, simprocAttr, ↓reduceIte, hsa, hsb, Int.toNat_natCast])
        refine QV.intro (.bool (m.f.isPrefixOf (a.drop i))) ?_ ?_
        · (repeat' first | with_reducible (first | intro _ | refine rc ?_ | refine rl ?_ | refine rh ?_ | refine rt ?_ | refine rf ?_ | refine rs ?_ | refine And.intro ?_ ?_) | omega | simp (maxSteps := 1000000) only [go_sem, simprocAttr, ↓reduceIte])
          refine VcCall.k k1 ?_
          (repeat' first | with_reducible (first | intro _ | refine rc ?_ | refine rl ?_ | refine rh ?_ | refine rt ?_ | refine rf ?_ | refine rs ?_ | refine And.intro ?_ ?_) | omega | simp (maxSteps := 1000000) only [go_sem, simprocAttr, ↓reduceIte])
        cases hp1 : m.f.isPrefixOf (a.drop i) with
        | false =>
          rw [hp1, Bool.false_and] at hone
          (repeat' first | with_reducible (first | intro _ | refine rc ?_ | refine rl ?_ | refine rh ?_ | refine rt ?_ | refine rf ?_ | refine rs ?_ | refine And.intro ?_ ?_) | omega | simp (maxSteps := 1000000) only [go_sem, simprocAttr, ↓reduceIte, hsa, hsb, Int.toNat_natCast])
          refine QV.intro (.bool false) ?_ ?_
          · (repeat' first | with_reducible (first | intro _ | refine rc ?_ | refine rl ?_ | refine rh ?_ | refine rt ?_ | refine rf ?_ | refine rs ?_ | refine And.intro ?_ ?_) | omega | simp (maxSteps := 1000000) only [go_sem, simprocAttr, ↓reduceIte])
          (repeat' first | with_reducible (first | intro _ | refine rc ?_ | refine rl ?_ | refine rh ?_ | refine rt ?_ | refine rf ?_ | refine rs ?_ | refine And.intro ?_ ?_) | omega | simp (maxSteps := 1000000) only [go_sem, simprocAttr, ↓reduceIte])
          refine ⟨1, Ent.auto0 rfl ?_ ?_, by omega, by omega⟩ <;> simp only [go_sem, reduceCtorEq, reduceIte, Nat.reduceEqDiff, Nat.reduceLT, Nat.reduceLeDiff, Int.natCast_succ, mxs, hp0, hp1q, hone, List.append_nil, Bool.false_eq_true, if_false]
          all_goals rfl
        | true =>
          have hl1 := prefix_len hp1
          rw [hp1, Bool.true_and] at hone
          (repeat' first | with_reducible (first | intro _ | refine rc ?_ | refine rl ?_ | refine rh ?_ | refine rt ?_ | refine rf ?_ | refine rs ?_ | refine And.intro ?_ ?_) | omega | simp (maxSteps := 1000000) only [go_sem, simprocAttr, ↓reduceIte, hsa, hsb, Int.toNat_natCast])
          refine QV.intro (.bool (m.t.isPrefixOf (b.drop j))) ?_ ?_
          · (repeat' first | with_reducible (first | intro _ | refine rc ?_ | refine rl ?_ | refine rh ?_ | refine rt ?_ | refine rf ?_ | refine rs ?_ | refine And.intro ?_ ?_) | omega | simp (maxSteps := 1000000) only [go_sem, simprocAttr, ↓reduceIte, hsa, hsb, Int.toNat_natCast])
            refine VcCall.k k2 ?_
            (repeat' first | with_reducible (first | intro _ | refine rc ?_ | refine rl ?_ | refine rh ?_ | refine rt ?_ | refine rf ?_ | refine rs ?_ | refine And.intro ?_ ?_) | omega | simp (maxSteps := 1000000) only [go_sem, simprocAttr, ↓reduceIte])
          cases hp2 : m.t.isPrefixOf (b.drop j) with
          | false =>
            rw [hp2] at hone
            (repeat' first | with_reducible (first | intro _ | refine rc ?_ | refine rl ?_ | refine rh ?_ | refine rt ?_ | refine rf ?_ | refine rs ?_ | refine And.intro ?_ ?_) | omega | simp (maxSteps := 1000000) only [go_sem, simprocAttr, ↓reduceIte])
            refine ⟨1, Ent.auto0 rfl ?_ ?_, by omega, by omega⟩ <;> simp only [go_sem, reduceCtorEq, reduceIte, Nat.reduceEqDiff, Nat.reduceLT, Nat.reduceLeDiff, Int.natCast_succ, mxs, hp0, hp1q, hone, List.append_nil, Bool.false_eq_true, if_false]
            all_goals rfl
          | true =>
            rw [hp2] at hone
            simp only [if_true] at hone
            have hsn := sts_snoc (G ++ part 0) m.f.length m.t.length m.c
            (repeat' first | with_reducible (first | intro _ | refine rc ?_ | refine rl ?_ | refine rh ?_ | refine rt ?_ | refine rf ?_ | refine rs ?_ | refine And.intro ?_ ?_) | omega | simp (maxSteps := 1000000) only [go_sem, simprocAttr, ↓reduceIte, sts, hsn, List.length_map, Int.toNat_zero, Int.toNat_one, List.drop_zero])
            refine ⟨1, Ent.auto0 rfl ?_ ?_, by omega, by omega⟩ <;> simp only [go_sem, reduceCtorEq, reduceIte, Nat.reduceEqDiff, Nat.reduceLT, Nat.reduceLeDiff, Int.natCast_succ, mxs, sts, hp0, hp1q, hone, List.append_nil, List.append_assoc]
            all_goals rfl
      · have k1 := hasPrefix_ok (a.drop i) m.t
        have k2 := hasPrefix_ok (b.drop j) m.f
        have hone : one (a.drop i) (b.drop j) ⟨m.t, m.f, m.c⟩ = if (m.t.isPrefixOf (a.drop i) && m.f.isPrefixOf (b.drop j)) = true then [⟨m.t.length, m.f.length, m.c⟩] else [] := rfl
        (repeat' first | with_reducible (first | intro _ | refine rc ?_ | refine rl ?_ | refine rh ?_ | refine rt ?_ | refine rf ?_ | refine rs ?_ | refine And.intro ?_ ?_) | omega | simp (maxSteps := 1000000) only [go_sem, simprocAttr, ↓reduceIte, Int.cast_ofNat_Int, Int.natCast_zero, Int.natCast_one, Int.toNat_zero, Int.toNat_one, Int.reduceToNat, List.getD_cons_zero, List.getD_cons_succ])
        refine VcDraw.lex [] [] (by kernel_rfl) (by kernel_rfl) ?_
        (repeat' first | with_reducible (first | intro _ | refine rc ?_ | refine rl ?_ | refine rh ?_ | refine rt ?_ | refine rf ?_ | refine rs ?_ | refine And.intro ?_ ?_) | omega | simp (maxSteps := 1000000) only [go_sem, simprocAttr, ↓reduceIte, hsa, hsb, Int.toNat_natCast])
        refine QV.intro (.bool (m.t.isPrefixOf (a.drop i))) ?_ ?_
        · (repeat' first | with_reducible (first | intro _ | refine rc ?_ | refine rl ?_ | refine rh ?_ | refine rt ?_ | refine rf ?_ | refine rs ?_ | refine And.intro ?_ ?_) | omega | simp (maxSteps := 1000000) only [go_sem, simprocAttr, ↓reduceIte])
          refine VcCall.k k1 ?_
          (repeat' first | with_reducible (first | intro _ | refine rc ?_ | refine rl ?_ | refine rh ?_ | refine rt ?_ | refine rf ?_ | refine rs ?_ | refine And.intro ?_ ?_) | omega | simp (maxSteps := 1000000) only [go_sem, simprocAttr, ↓reduceIte])
        cases hp1 : m.t.isPrefixOf (a.drop i) with
        | false =>
          rw [hp1, Bool.false_and] at hone
          (repeat' first | with_reducible (first | intro _ | refine rc ?_ | refine rl ?_ | refine rh ?_ | refine rt ?_ | refine rf ?_ | refine rs ?_ | refine And.intro ?_ ?_) | omega | simp (maxSteps := 1000000) only [go_sem, simprocAttr, ↓reduceIte, hsa, hsb, Int.toNat_natCast])
          refine QV.intro (.bool false) ?_ ?_
          · (repeat' first | with_reducible (first | intro _ | refine rc ?_ | refine rl ?_ | refine rh ?_ | refine rt ?_ | refine rf ?_ | refine rs ?_ | refine And.intro ?_ ?_) | omega | simp (maxSteps := 1000000) only [go_sem, simprocAttr, ↓reduceIte])
          (repeat' first | with_reducible (first | intro _ | refine rc ?_ | refine rl ?_ | refine rh ?_ | refine rt ?_ | refine rf ?_ | refine rs ?_ | refine And.intro ?_ ?_) | omega | simp (maxSteps := 1000000) only [go_sem, simprocAttr, ↓reduceIte])
          refine ⟨2, Ent.auto0 rfl ?_ ?_, by omega, by omega⟩ <;> simp only [go_sem, reduceCtorEq, reduceIte, Nat.reduceEqDiff, Nat.reduceLT, Nat.reduceLeDiff, Int.natCast_succ, mxs, hp1q, hp2q, hone, List.append_nil, Bool.false_eq_true, if_false]
          all_goals rfl
        | true =>
          have hl1 := prefix_len hp1
          rw [hp1, Bool.true_and] at hone
          (repeat' first | with_reducible (first | intro _ | refine rc ?_ | refine rl ?_ | refine rh ?_ | refine rt ?_ | refine rf ?_ | refine rs ?_ | refine And.intro ?_ ?_) | omega | simp (maxSteps := 1000000) only [go_sem, simprocAttr, ↓reduceIte, hsa, hsb, Int.toNat_natCast])
          refine QV.intro (.bool (m.f.isPrefixOf (b.drop j))) ?_ ?_
          · (repeat' first | with_reducible (first | intro _ | refine rc ?_ | refine rl ?_ | refine rh ?_ | refine rt ?_ | refine rf ?_ | refine rs ?_ | refine And.intro ?_ ?_) | omega | simp (maxSteps := 1000000) only [go_sem, simprocAttr, ↓reduceIte, hsa, hsb, Int.toNat_natCast])
            refine VcCall.k k2 ?_
            (repeat' first | with_reducible (first | intro _ | refine rc ?_ | refine rl ?_ | refine rh ?_ | refine rt ?_ | refine rf ?_ | refine rs ?_ | refine And.intro ?_ ?_) | omega | simp (maxSteps := 1000000) only [go_sem, simprocAttr, ↓reduceIte])
          cases hp2 : m.f.isPrefixOf (b.drop j) with
          | false =>
            rw [hp2] at hone
            (repeat' first | with_reducible (first | intro _ | refine rc ?_ | refine rl ?_ | refine rh ?_ | refine rt ?_ | refine rf ?_ | refine rs ?_ | refine And.intro ?_ ?_) | omega | simp (maxSteps := 1000000) only [go_sem, simprocAttr, ↓reduceIte])
            refine ⟨2, Ent.auto0 rfl ?_ ?_, by omega, by omega⟩ <;> simp only [go_sem, reduceCtorEq, reduceIte, Nat.reduceEqDiff, Nat.reduceLT, Nat.reduceLeDiff, Int.natCast_succ, mxs, hp1q, hp2q, hone, List.append_nil, Bool.false_eq_true, if_false]
            all_goals rfl
          | true =>
            rw [hp2] at hone
            simp only [if_true] at hone
            have hsn := sts_snoc (G ++ part 1) m.t.length m.f.length m.c
            (repeat' first | with_reducible (first | intro _ | refine rc ?_ | refine rl ?_ | refine rh ?_ | refine rt ?_ | refine rf ?_ | refine rs ?_ | refine And.intro ?_ ?_) | omega | simp (maxSteps := 1000000) only [go_sem, simprocAttr, ↓reduceIte, sts, hsn, List.length_map, Int.toNat_zero, Int.toNat_one, List.drop_zero])
            refine ⟨2, Ent.auto0 rfl ?_ ?_, by omega, by omega⟩ <;> simp only [go_sem, reduceCtorEq, reduceIte, Nat.reduceEqDiff, Nat.reduceLT, Nat.reduceLeDiff, Int.natCast_succ, mxs, sts, hp1q, hp2q, hone, List.append_nil, List.append_assoc]
            all_goals rfl
      · (repeat' first | with_reducible (first | intro _ | refine rc ?_ | refine rl ?_ | refine rh ?_ | refine rt ?_ | refine rf ?_ | refine rs ?_ | refine And.intro ?_ ?_) | omega | simp (maxSteps := 1000000) only [go_sem, simprocAttr, ↓reduceIte, Int.cast_ofNat_Int])
        refine ⟨k + 1, Ent.auto0 rfl ?_ ?_, by omega, by omega⟩ <;> simp only [go_sem, reduceCtorEq, reduceIte, Nat.reduceEqDiff, Nat.reduceLT, Nat.reduceLeDiff, Int.natCast_succ, mxs, htk, ← hG, List.append_assoc]
    · have ek : k = l.length := by omega
      subst ek
      rw [List.take_length] at *
      clear hst
      have hGl : (E ++ l.flatMap (two (a.drop i) (b.drop j))).length ≤ 3000 := by simp at hfl ⊢; omega
      generalize E ++ l.flatMap (two (a.drop i) (b.drop j)) = G at *
      (repeat' first | with_reducible (first | intro _ | refine rc ?_ | refine rl ?_ | refine rh ?_ | refine rt ?_ | refine rf ?_ | refine rs ?_ | refine And.intro ?_ ?_) | omega | simp (maxSteps := 1000000) only [go_sem, simprocAttr, ↓reduceIte, mxs, List.length_map, sts])
      all_goals
        by_cases hi2 : i < a.length <;> by_cases hj2 : j < b.length <;> first
          | (exfalso; omega)
          | (refine Ret.auto 1 ?_ rfl ?_ <;> simp only [go_sem, reduceCtorEq, reduceIte, Nat.reduceEqDiff, Nat.reduceLT, Nat.reduceLeDiff, Int.natCast_succ, Post, hi2, hj2, List.map_append, St.av, List.append_assoc, Int.natCast_zero, Int.natCast_one, if_true, if_false])
        all_goals rfl
end Go.Fv.Y

/- The table of the reference, row by row, in plain words. -/
namespace Go.Fv.Y
open Go
set_option linter.unusedSimpArgs false
set_option linter.unusedVariables false
set_option linter.unnecessarySimpa false

/-- A row from column c on. -/
def rowF (sw : List Sw) (a b : List UInt8) (q c : Nat) : List Int := (List.range (b.length + 1)).map fun j => if c ≤ j then dist sw (a.drop q) (b.drop j) else 0
def costL (sw : List Sw) (a b : List UInt8) (r : Nat) : List (List AV) := (List.range (a.length + 1)).map fun q => if r ≤ q then [.ro (.ints .i64 (rowF sw a b q 0))] else [.nilS]
theorem rowF_len (sw : List Sw) (a b : List UInt8) (q c : Nat) : (rowF sw a b q c).length = b.length + 1 := by simp [rowF]
theorem rowF_get {sw : List Sw} {a b : List UInt8} {q c j : Nat} (h : j < b.length + 1) (hc : c ≤ j) : (rowF sw a b q c).getD j 0 = dist sw (a.drop q) (b.drop j) := by
  rw [getD_lt (by rw [rowF_len]; exact h)]; simp [rowF, hc]
theorem rowF_all (sw : List Sw) (a b : List UInt8) (q : Nat) : rowF sw a b q (b.length + 1) = List.replicate (b.length + 1) 0 := by
  refine List.ext_getElem (by simp [rowF]) fun i h1 h2 => ?_
  simp only [rowF, List.length_map, List.length_range] at h1
  simp [rowF]; omega
theorem rowF_set {sw : List Sw} {a b : List UInt8} {q c : Nat} {v : Int} (hv : v = dist sw (a.drop q) (b.drop c)) : (rowF sw a b q (c + 1)).set c v = rowF sw a b q c := by
  refine List.ext_getElem (by simp [rowF]) fun i h1 h2 => ?_
  rw [List.getElem_set]
  split
  · rename_i e; subst e; simp [rowF, hv]
  · rename_i e
    simp only [rowF, List.getElem_map, List.getElem_range]
    by_cases h : c ≤ i
    · rw [if_pos (by omega), if_pos h]
    · rw [if_neg (by omega), if_neg h]
theorem rowF_zero {sw : List Sw} {a b : List UInt8} {q c : Nat} (hv : dist sw (a.drop q) (b.drop c) = 0) : rowF sw a b q (c + 1) = rowF sw a b q c := by
  refine List.ext_getElem (by simp [rowF]) fun i h1 h2 => ?_
  simp only [rowF, List.getElem_map, List.getElem_range]
  by_cases h : c + 1 ≤ i
  · rw [if_pos h, if_pos (by omega)]
  · rw [if_neg h]
    by_cases e : c = i
    · subst e; rw [if_pos (Nat.le_refl _), hv]
    · rw [if_neg (by omega)]
theorem costL_len (sw : List Sw) (a b : List UInt8) (r : Nat) : (costL sw a b r).length = a.length + 1 := by simp [costL]
theorem costL_get {sw : List Sw} {a b : List UInt8} {r q : Nat} (h : q < a.length + 1) (hr : r ≤ q) : (costL sw a b r).getD q [] = [.ro (.ints .i64 (rowF sw a b q 0))] := by
  rw [getD_lt (by rw [costL_len]; exact h)]; simp [costL, hr]
theorem costL_all (sw : List Sw) (a b : List UInt8) : costL sw a b (a.length + 1) = List.replicate (a.length + 1) [.nilS] := by
  refine List.ext_getElem (by simp [costL]) fun i h1 h2 => ?_
  simp only [costL, List.length_map, List.length_range] at h1
  simp [costL]; omega
theorem costL_set {sw : List Sw} {a b : List UInt8} {r : Nat} : (costL sw a b (r + 1)).set r [.ro (.ints .i64 (rowF sw a b r 0))] = costL sw a b r := by
  refine List.ext_getElem (by simp [costL]) fun i h1 h2 => ?_
  rw [List.getElem_set]
  split
  · rename_i e; subst e; simp [costL]
  · rename_i e
    simp only [costL, List.getElem_map, List.getElem_range]
    by_cases h : r ≤ i
    · rw [if_pos (by omega), if_pos h]
    · rw [if_neg (by omega), if_neg h]
theorem costL_noid (sw : List Sw) (a b : List UInt8) (r : Nat) : (costL sw a b r).all noIdL = true := by
  rw [List.all_eq_true]
  intro x hx
  obtain ⟨q, _, rfl⟩ := List.mem_map.1 hx
  split <;> rfl
theorem fzL_costL (sw : List Sw) (a b : List UInt8) (r i k : Nat) (q : RowV) : ((costL sw a b r).set i [.own k]).map (fzL k q) = (costL sw a b r).set i [.ro q] := by
  rw [List.map_set, fzLL_noId _ (costL_noid sw a b r)]
  simp [fzL, fz]

def mfold : Int → List Int → Int
  | b, [] => b
  | b, v :: l => mfold (if b < 0 ∨ v < b then v else b) l
theorem mfold_pos : ∀ (l : List Int) (b : Int), 0 ≤ b → (∀ v, v ∈ l → 0 ≤ v) → mfold b l = minL (b :: l)
  | [], b, _, _ => rfl
  | v :: l, b, hb, hl => by
    have hv := hl v (.head _)
    have e : (if b < 0 ∨ v < b then v else b) = min b v := by split <;> omega
    rw [mfold, e, mfold_pos l _ (by omega) fun u hu => hl u (.tail _ hu)]
    cases l with
    | nil => rfl
    | cons u l => simp only [minL]; omega
theorem mfold_neg {l : List Int} (hl : ∀ v, v ∈ l → 0 ≤ v) (hne : l ≠ []) : mfold (-1) l = minL l := by
  cases l with
  | nil => exact absurd rfl hne
  | cons v l =>
    rw [mfold, if_pos (by omega), mfold_pos l v (hl v (.head _)) fun u hu => hl u (.tail _ hu)]
def valS (sw : List Sw) (x y : List UInt8) (s : St) : Int := s.c + dist sw (x.drop s.a) (y.drop s.b)
theorem mfold_dist {sw : List Sw} (hg : GoodSw sw) {x y : List UInt8} (h : ¬ (x = [] ∧ y = [])) : mfold (-1) ((steps sw x y).map (valS sw x y)) = dist sw x y := by
  rw [mfold_neg ?_ (by simpa using steps_ne h), dist_eq hg h]
  · rfl
  · intro v hv
    obtain ⟨s, hs, rfl⟩ := List.mem_map.1 hv
    have := step_bd hg hs
    have := dist_bd hg _ (x.drop s.a) (y.drop s.b) (Nat.le_refl _)
    unfold valS; omega
theorem mfold_step (f : St → Int) (l : List St) {k : Nat} (h : k < l.length) (b : Int) : mfold b ((l.drop k).map f) = mfold (if b < 0 ∨ f (l.getD k St.zero) < b then f (l.getD k St.zero) else b) ((l.drop (k + 1)).map f) := by
  rw [List.drop_eq_getElem_cons h, getD_lt h]; rfl
end Go.Fv.Y

namespace Go.Fv.Y
open Go Go.Proofs
set_option linter.unusedSimpArgs false
set_option linter.unusedVariables false
set_option linter.unnecessarySimpa false
set_option maxRecDepth 8000

def Sl.av (s : Sl) : List AV := [.int .i64 s.at_, .str s.o, .str s.n, .int .i64 s.c]
def Sl.zero : Sl := ⟨0, [], [], 0⟩
def sls (l : List Sl) : RowV := .objs 4 (l.map Sl.av)
instance : FNoId Sl.av := ⟨fun _ => rfl⟩
instance {l : List Sl} : RowNoId (sls l) := inferInstanceAs (RowNoId (.objs 4 (l.map Sl.av)))
theorem sls_snoc (l : List Sl) (i : Nat) (x y : List UInt8) (c : Int) : l.map Sl.av ++ [[.int .i64 i, .str x, .str y, .int .i64 c]] = (l ++ [(⟨i, x, y, c⟩ : Sl)]).map Sl.av := by simp [Sl.av]

end Go.Fv.Y

namespace Go.Fv.Y
open Go Go.Proofs
set_option linter.unusedSimpArgs false
set_option linter.unusedVariables false
set_option linter.unnecessarySimpa false
set_option maxRecDepth 8000

instance {sw : List Sw} {a b : List UInt8} {r : Nat} : LNoId (costL sw a b r) := ⟨costL_noid sw a b r⟩
theorem belowL_set1 (sw : List Sw) (a b : List UInt8) (r i : Nat) : belowR 2 (.objs 1 ((costL sw a b r).set i [.own 1])) = true := by
  simp only [belowR, List.all_eq_true]
  intro x hx
  rcases List.mem_or_eq_of_mem_set hx with h | h
  · exact noIdL_below 2 x (List.all_eq_true.1 (costL_noid sw a b r) x h)
  · subst h; rfl

theorem pick_find {sw : List Sw} (hg : GoodSw sw) {x y : List UInt8} (h : ¬ (x = [] ∧ y = [])) : (steps sw x y).find? (fun s => decide (valS sw x y s = dist sw x y)) = some (pick sw x y) := by
  have hp : pick sw x y = ((steps sw x y).find? (fun s => decide (valS sw x y s = dist sw x y))).getD ⟨0, 1, 100⟩ := rfl
  obtain ⟨s, hs, he⟩ := dist_step hg h
  cases hq : (steps sw x y).find? (fun s => decide (valS sw x y s = dist sw x y)) with
  | none =>
    rw [List.find?_eq_none] at hq
    exact absurd (decide_eq_true he) (hq s hs)
  | some q => rw [hq] at hp; rw [hp]; rfl
theorem findS_step (f : St → Bool) (l : List St) {k : Nat} (h : k < l.length) : (l.drop k).find? f = if f (l.getD k St.zero) = true then some (l.getD k St.zero) else (l.drop (k + 1)).find? f := by
  rw [List.drop_eq_getElem_cons h, getD_lt h, List.find?_cons]
  cases f l[k] <;> rfl

set_option maxHeartbeats 16000000 in
theorem refScript_ok (l : List Mx) (hg : GoodSw (swL l)) (hl : l.length ≤ 1000) (a b : List UInt8) (ha : a.length ≤ 2000) (hb : b.length ≤ 2000) :
    FnOk Tryz.prog 53 [.str a, .str b, .ro (mxs l)] (.tup [.own 0, .int .i64 (dist (swL l) a b)]) [(0, .row 142 (sls (script (swL l) 0 a b)))] := by
  have kst := fun (i j : Nat) (hi : i ≤ a.length) (hj : j ≤ b.length) => steps_ok l hl a b i j hi hj
  have hsl : (swL l).length ≤ 2000 := by rw [swL_len]; omega
  refine FnOk.of_vc Tryz.func53 rfl (by decide) (by simp [Tryz.f53]) [.tmp 6, .tmp 7] rfl fun w0 T0 _ => ?_
  simp only [Tryz.f53, argEnv]
  generalize swL l = sw at *
  have hall := costL_all sw a b
  have hup : ((a.length : Int) + 1).toNat = a.length + 1 := by omega
  have hup2 : ((b.length : Int) + 1).toNat = b.length + 1 := by omega
  have hall2 := rowF_all sw a b
  (repeat' first | with_reducible (first | intro _ | refine rc ?_ | refine rl ?_ | refine rh ?_ | refine rt ?_ | refine rf ?_ | refine rs ?_ | refine And.intro ?_ ?_) | omega | simp (maxSteps := 1000000) only [go_sem, simprocAttr, ↓reduceIte, hup])
  refine VcLoop.intro (fun r : Nat => ⟨184, [(9, .int .i64 ((r : Int) - 1)), (8, .own 0), (0, .str a), (1, .str b), (2, .ro (mxs l))], [(0, .row 130 (.objs 1 (costL sw a b r)))], 1⟩) (fun r => r ≤ a.length + 1) (fun r => r) (a.length + 1) ?_ (Nat.le_refl _) fun r hr => ?_
  · refine Ent.auto0 rfl ?_ ?_ <;> simp only [go_sem, reduceCtorEq, reduceIte, Nat.reduceEqDiff, Nat.reduceLT, Nat.reduceLeDiff, Int.natCast_succ, hall]
    omega
  cases r with
  | zero =>
    have hc0 := costL_len sw a b 0
    (repeat' first | with_reducible (first | intro _ | refine rc ?_ | refine rl ?_ | refine rh ?_ | refine rt ?_ | refine rf ?_ | refine rs ?_ | refine And.intro ?_ ?_) | omega | simp (maxSteps := 1000000) only [go_sem, simprocAttr, ↓reduceIte])
    refine VcLoop.intro (fun x : Nat × Nat × List Sl => ⟨184, [(17, .int .i64 x.2.1), (16, .int .i64 x.1), (15, .own 1), (8, .own 0), (0, .str a), (1, .str b), (2, .ro (mxs l))], [(0, .row 130 (.objs 1 (costL sw a b 0))), (1, .row 142 (sls x.2.2))], 2⟩)
      (fun x => x.1 ≤ a.length ∧ x.2.1 ≤ b.length ∧ x.2.2.length ≤ x.1 + x.2.1 ∧ x.2.2 ++ script sw x.1 (a.drop x.1) (b.drop x.2.1) = script sw 0 a b) (fun x => a.length - x.1 + (b.length - x.2.1)) (0, 0, []) ?_ ⟨Nat.zero_le _, Nat.zero_le _, Nat.le_refl _, rfl⟩ fun x hx => ?_
    · refine Ent.same rfl (Nat.zero_le _) ?_ ?_ <;> simp only [go_sem, reduceCtorEq, reduceIte, Nat.reduceEqDiff, Nat.reduceLT, Nat.reduceLeDiff, Int.natCast_succ, Int.natCast_zero, sls, List.map_nil]
    obtain ⟨i, j, out⟩ := x
    dsimp only at hx
    by_cases hend : i < a.length ∨ j < b.length
    · have hne : ¬ (a.drop i = [] ∧ b.drop j = []) := by
        rintro ⟨e1, e2⟩
        simp at e1 e2; omega
      have ks := kst i j hx.1 hx.2.1
      have hpf := pick_find hg hne
      have hpb := pick_bd hg hne
      have hse := script_eq hg (i := i) hne
      have hxx := hx.2.2.2
      rw [hse] at hxx
      simp only [List.length_drop] at hpb
      have hsb : ∀ s, s ∈ steps sw (a.drop i) (b.drop j) → s.a ≤ a.length - i ∧ s.b ≤ b.length - j ∧ 1 ≤ s.a + s.b ∧ 0 ≤ s.c ∧ s.c ≤ 100 := fun s hs => by
        have := step_bd hg hs
        simpa only [List.length_drop] using this
      have hvS : ∀ s, valS sw (a.drop i) (b.drop j) s = s.c + dist sw (a.drop (i + s.a)) (b.drop (j + s.b)) := fun s => by unfold valS; rw [List.drop_drop, List.drop_drop]
      have hdij : (rowF sw a b i 0).getD j 0 = dist sw (a.drop i) (b.drop j) := rowF_get (by omega) (Nat.zero_le _)
      have hgi : (costL sw a b 0).getD i [] = [.ro (.ints .i64 (rowF sw a b i 0))] := costL_get (by omega) (Nat.zero_le _)
      have hfl := rowF_len sw a b i 0
      generalize pick sw (a.drop i) (b.drop j) = p at *
      clear hse
      generalize hS : steps sw (a.drop i) (b.drop j) = S at *
      (repeat' first | with_reducible (first | intro _ | refine rc ?_ | refine rl ?_ | refine rh ?_ | refine rt ?_ | refine rf ?_ | refine rs ?_ | refine And.intro ?_ ?_) | omega | simp (maxSteps := 1000000) only [go_sem, simprocAttr, ↓reduceIte])
      refine VcCall.ro (.ro (sts S)) (FnFr.of_ok ks rfl (by simp [noRoRows, noRoItem, noRoRow, noRoL, noRo, sts, St.av])) (by simp only [noIdR_ok, argOkL, argOk, allOk, argOkN, List.drop_zero, lk, reduceIte, reduceCtorEq, Nat.reduceEqDiff, Option.some.injEq, Item.row.injEq, Item.box.injEq, AV.ro.injEq, exists_eq_left, exists_and_left, exists_eq_left', exists_eq_right, and_assoc, and_true, true_and, List.cons.injEq, exists_eq', exists_eq, mxs]) (by simp [outOk, argOk, argOkN, lk, noIdR_ok]) rfl ?_
      (repeat' first | with_reducible (first | intro _ | refine rc ?_ | refine rl ?_ | refine rh ?_ | refine rt ?_ | refine rf ?_ | refine rs ?_ | refine And.intro ?_ ?_) | omega | simp (maxSteps := 1000000) only [go_sem, simprocAttr, ↓reduceIte, sts, List.length_map])
      refine VcLoop.intro (fun k : Nat => ⟨184, [(115, .int .i64 k), (114, .int .i64 S.length), (113, .ro (sts S)), (17, .int .i64 j), (16, .int .i64 i), (15, .own 1), (8, .own 0), (0, .str a), (1, .str b), (2, .ro (mxs l))], [(0, .row 130 (.objs 1 (costL sw a b 0))), (1, .row 142 (sls out))], 2⟩) (fun k => k ≤ S.length ∧ (S.drop k).find? (fun s => decide (valS sw (a.drop i) (b.drop j) s = dist sw (a.drop i) (b.drop j))) = some p) (fun k => S.length - k) 0 ?_ ⟨Nat.zero_le _, hpf⟩ fun k hk => ?_
      · refine Ent.same rfl (Nat.zero_le _) ?_ ?_ <;> simp only [go_sem, reduceCtorEq, reduceIte, Nat.reduceEqDiff, Nat.reduceLT, Nat.reduceLeDiff, Int.natCast_succ, sts, Int.natCast_zero]
      by_cases hkl : k < S.length
      · have hel := st_elem S hkl
        have hfs := findS_step (fun s => decide (valS sw (a.drop i) (b.drop j) s = dist sw (a.drop i) (b.drop j))) S hkl
        have hbs := hsb (S.getD k St.zero) (by rw [getD_lt hkl]; exact List.getElem_mem hkl)
        rw [hk.2] at hfs
        generalize S.getD k St.zero = s at *
        rw [hvS] at hfs
        have ta : ((i : Int) + s.a).toNat = i + s.a := by omega
        have tb : ((j : Int) + s.b).toNat = j + s.b := by omega
        have hgs : (costL sw a b 0).getD (i + s.a) [] = [.ro (.ints .i64 (rowF sw a b (i + s.a) 0))] := costL_get (by omega) (Nat.zero_le _)
        have hfs2 := rowF_len sw a b (i + s.a) 0
        have hgv : (rowF sw a b (i + s.a) 0).getD (j + s.b) 0 = dist sw (a.drop (i + s.a)) (b.drop (j + s.b)) := rowF_get (by omega) (Nat.zero_le _)
        have bs := dist_bd hg _ (a.drop (i + s.a)) (b.drop (j + s.b)) (Nat.le_refl _)
        simp only [List.length_drop] at bs
        have sla : List.take (i + s.a - i) (a.drop i) = (a.drop i).take s.a := by rw [Nat.add_sub_cancel_left]
        have slb : List.take (j + s.b - j) (b.drop j) = (b.drop j).take s.b := by rw [Nat.add_sub_cancel_left]
        have hsn := sls_snoc out i ((a.drop i).take s.a) ((b.drop j).take s.b) s.c
        generalize hd0 : dist sw (a.drop i) (b.drop j) = d0 at *
        generalize dist sw (a.drop (i + s.a)) (b.drop (j + s.b)) = ds at *
        (repeat' first | with_reducible (first | intro _ | refine rc ?_ | refine rl ?_ | refine rh ?_ | refine rt ?_ | refine rf ?_ | refine rs ?_ | refine And.intro ?_ ?_) | omega | simp (maxSteps := 1000000) only [go_sem, simprocAttr, ↓reduceIte, elemA, hel, sts, List.length_map])
        refine VcDraw.lex [] [] (by kernel_rfl) (by kernel_rfl) ?_
        (repeat' first | with_reducible (first | intro _ | refine rc ?_ | refine rl ?_ | refine rh ?_ | refine rt ?_ | refine rf ?_ | refine rs ?_ | refine And.intro ?_ ?_) | omega | simp (maxSteps := 1000000) only [go_sem, simprocAttr, ↓reduceIte, elemA, ta, tb, hgs, hgv, hgi, hdij, hc0, hfl, hfs2, Int.toNat_natCast])
        · have hne2 : ¬ s.c + ds = d0 := by assumption
          rw [if_neg (by simpa using hne2)] at hfs
          refine ⟨k + 1, ?_, ⟨by omega, hfs.symm⟩, by omega⟩
          refine Ent.same rfl (Nat.zero_le _) ?_ ?_ <;> simp only [go_sem, reduceCtorEq, reduceIte, Nat.reduceEqDiff, Nat.reduceLT, Nat.reduceLeDiff, Int.natCast_succ, sts]
        · have heq2 : s.c + ds = d0 := Decidable.of_not_not (by assumption)
          rw [if_pos (by simpa using heq2)] at hfs
          cases hfs
          refine VcDraw.lex [] [] (by kernel_rfl) (by kernel_rfl) ?_
          (repeat' first | with_reducible (first | intro _ | refine rc ?_ | refine rl ?_ | refine rh ?_ | refine rt ?_ | refine rf ?_ | refine rs ?_ | refine And.intro ?_ ?_) | omega | simp (maxSteps := 1000000) only [go_sem, simprocAttr, ↓reduceIte, ta, tb, sla, slb, Int.toNat_natCast])
          · have hxy : ¬ (a.drop i).take p.a = (b.drop j).take p.b := by assumption
            rw [if_neg hxy, List.drop_drop, List.drop_drop, ← List.append_assoc] at hxx
            (repeat' first | with_reducible (first | intro _ | refine rc ?_ | refine rl ?_ | refine rh ?_ | refine rt ?_ | refine rf ?_ | refine rs ?_ | refine And.intro ?_ ?_) | omega | simp (maxSteps := 1000000) only [go_sem, simprocAttr, ↓reduceIte, sls, hsn, List.length_map])
            refine VcDraw.lex [] [] (by kernel_rfl) (by kernel_rfl) ?_
            (repeat' first | with_reducible (first | intro _ | refine rc ?_ | refine rl ?_ | refine rh ?_ | refine rt ?_ | refine rf ?_ | refine rs ?_ | refine And.intro ?_ ?_) | omega | simp (maxSteps := 1000000) only [go_sem, simprocAttr, ↓reduceIte])
            refine ⟨(i + p.a, j + p.b, out ++ [⟨i, (a.drop i).take p.a, (b.drop j).take p.b, p.c⟩]), ?_, ⟨by dsimp only; omega, by dsimp only; omega, by simp; omega, hxx⟩, by dsimp only; omega⟩
            refine Ent.auto0 rfl ?_ ?_ <;> simp only [go_sem, reduceCtorEq, reduceIte, Nat.reduceEqDiff, Nat.reduceLT, Nat.reduceLeDiff, Int.natCast_succ, sls, Int.natCast_add]
          · have hxy : (a.drop i).take p.a = (b.drop j).take p.b := by first | assumption | exact Decidable.of_not_not (by assumption)
            rw [if_pos hxy, List.nil_append, List.drop_drop, List.drop_drop] at hxx
            (repeat' first | with_reducible (first | intro _ | refine rc ?_ | refine rl ?_ | refine rh ?_ | refine rt ?_ | refine rf ?_ | refine rs ?_ | refine And.intro ?_ ?_) | omega | simp (maxSteps := 1000000) only [go_sem, simprocAttr, ↓reduceIte])
            refine VcDraw.lex [] [] (by kernel_rfl) (by kernel_rfl) ?_
            (repeat' first | with_reducible (first | intro _ | refine rc ?_ | refine rl ?_ | refine rh ?_ | refine rt ?_ | refine rf ?_ | refine rs ?_ | refine And.intro ?_ ?_) | omega | simp (maxSteps := 1000000) only [go_sem, simprocAttr, ↓reduceIte])
            refine ⟨(i + p.a, j + p.b, out), ?_, ⟨by dsimp only; omega, by dsimp only; omega, by dsimp only; omega, hxx⟩, by dsimp only; omega⟩
            refine Ent.auto0 rfl ?_ ?_ <;> simp only [go_sem, reduceCtorEq, reduceIte, Nat.reduceEqDiff, Nat.reduceLT, Nat.reduceLeDiff, Int.natCast_succ, sls, Int.natCast_add]
      · have ek : k = S.length := by omega
        have := hk.2
        rw [ek, List.drop_length] at this
        cases this
    · have ei : i = a.length := by omega
      have ej : j = b.length := by omega
      have hxx := hx.2.2.2
      have hg0 : (costL sw a b 0).getD 0 [] = [.ro (.ints .i64 (rowF sw a b 0 0))] := costL_get (by omega) (Nat.zero_le _)
      have hd00 : (rowF sw a b 0 0).getD 0 0 = dist sw a b := by
        have := rowF_get (sw := sw) (a := a) (b := b) (q := 0) (c := 0) (j := 0) (by omega) (Nat.le_refl _)
        simpa using this
      have hfl := rowF_len sw a b 0 0
      subst ei; subst ej
      rw [List.drop_length, List.drop_length, script_nil, List.append_nil] at hxx
      (repeat' first | with_reducible (first | intro _ | refine rc ?_ | refine rl ?_ | refine rh ?_ | refine rt ?_ | refine rf ?_ | refine rs ?_ | refine And.intro ?_ ?_) | omega | simp (maxSteps := 1000000) only [go_sem, simprocAttr, ↓reduceIte])
      refine VcDraw.lex [] [] (by kernel_rfl) (by kernel_rfl) ?_
      (repeat' first | with_reducible (first | intro _ | refine rc ?_ | refine rl ?_ | refine rh ?_ | refine rt ?_ | refine rf ?_ | refine rs ?_ | refine And.intro ?_ ?_) | omega | simp (maxSteps := 1000000) only [go_sem, simprocAttr, ↓reduceIte, elemA, hg0, hd00, hc0, hfl, Int.toNat_zero])
      refine Ret.auto 1 ?_ rfl ?_ <;> simp only [go_sem, reduceCtorEq, reduceIte, Nat.reduceEqDiff, Nat.reduceLT, Nat.reduceLeDiff, Int.natCast_succ, Post, sls, hxx]
  | succ i =>
    have er : (((i + 1 : Nat) : Int)) - 1 = (i : Int) := by omega
    have hcl := costL_len sw a b (i + 1)
    have hcl2 : ((costL sw a b (i + 1)).set i [.own 1]).length = a.length + 1 := by rw [List.length_set]; exact hcl
    (repeat' first | with_reducible (first | intro _ | refine rc ?_ | refine rl ?_ | refine rh ?_ | refine rt ?_ | refine rf ?_ | refine rs ?_ | refine And.intro ?_ ?_) | omega | simp (maxSteps := 1000000) only [go_sem, simprocAttr, ↓reduceIte, er, hup2, hcl])
    refine VcLoop.intro (fun c : Nat => ⟨184, [(10, .int .i64 ((c : Int) - 1)), (9, .int .i64 i), (8, .own 0), (0, .str a), (1, .str b), (2, .ro (mxs l))], [(0, .row 130 (.objs 1 ((costL sw a b (i + 1)).set i [.own 1]))), (1, .row 3 (.ints .i64 (rowF sw a b i c)))], 2⟩) (fun c => c ≤ b.length + 1) (fun c => c) (b.length + 1) ?_ (Nat.le_refl _) fun c hc => ?_
    · have hgi : (costL sw a b (i + 1)).getD i [] = [.nilS] := by
        rw [getD_lt (by rw [hcl]; omega)]; simp [costL]
      refine Ent.same rfl (Nat.zero_le _) ?_ ?_ <;> simp only [go_sem, reduceCtorEq, reduceIte, Nat.reduceEqDiff, Nat.reduceLT, Nat.reduceLeDiff, Int.natCast_succ, hall2, belowL_set1, hgi]
      omega
    have hset := @costL_set sw a b i
    cases c with
    | zero =>
      have hidR : noIdR (.ints .i64 (rowF sw a b i 0)) = true := rfl
      (repeat' first | with_reducible (first | intro _ | refine rc ?_ | refine rl ?_ | refine rh ?_ | refine rt ?_ | refine rf ?_ | refine rs ?_ | refine And.intro ?_ ?_) | omega | simp (maxSteps := 1000000) only [go_sem, simprocAttr, ↓reduceIte])
      refine ⟨i, ?_, by omega, by omega⟩
      refine Ent.trans (Ent.fz 1 rfl hidR (Nat.zero_le _)) ?_
      simp only [S.fz, fzE, fz, fzRows, fzI, fzR, fzL_costL, hset, Nat.reduceEqDiff, if_true, if_false, reduceIte, fzL]
      refine Ent.auto0 rfl ?_ ?_ <;> simp only [go_sem, reduceCtorEq, reduceIte, Nat.reduceEqDiff, Nat.reduceLT, Nat.reduceLeDiff, Int.natCast_succ]
    | succ j =>
      have ej : (((j + 1 : Nat) : Int)) - 1 = (j : Int) := by omega
      have hfl := rowF_len sw a b i (j + 1)
      by_cases hend : i = a.length ∧ j = b.length
      · obtain ⟨e1, e2⟩ := hend
        subst e1; subst e2
        have hz := @rowF_zero sw a b a.length b.length (by rw [List.drop_length, List.drop_length]; rfl)
        (repeat' first | with_reducible (first | intro _ | refine rc ?_ | refine rl ?_ | refine rh ?_ | refine rt ?_ | refine rf ?_ | refine rs ?_ | refine And.intro ?_ ?_) | omega | simp (maxSteps := 1000000) only [go_sem, simprocAttr, ↓reduceIte, ej, hcl2, hfl])
        refine ⟨b.length, ?_, by omega, by omega⟩
        refine Ent.same rfl (Nat.zero_le _) ?_ ?_ <;> simp only [go_sem, reduceCtorEq, reduceIte, Nat.reduceEqDiff, Nat.reduceLT, Nat.reduceLeDiff, Int.natCast_succ, belowL_set1, hz]
      · have hne : ¬ (a.drop i = [] ∧ b.drop j = []) := by
          rintro ⟨e1, e2⟩
          simp at e1 e2; omega
        have hmf := mfold_dist hg hne
        have ks := kst i j (by omega) (by omega)
        have hsb : ∀ s, s ∈ steps sw (a.drop i) (b.drop j) → s.a ≤ a.length - i ∧ s.b ≤ b.length - j ∧ 1 ≤ s.a + s.b ∧ 0 ≤ s.c ∧ s.c ≤ 100 := fun s hs => by
          have := step_bd hg hs
          simpa only [List.length_drop] using this
        have hstl : (steps sw (a.drop i) (b.drop j)).length ≤ 3000 := by
          have h1 : (swSteps sw (a.drop i) (b.drop j)).length ≤ sw.length := by unfold swSteps; rw [List.length_map]; exact List.length_filter_le _ _
          unfold steps
          simp only [List.length_append]
          (repeat' split) <;> simp <;> omega
        have hvS : ∀ s, valS sw (a.drop i) (b.drop j) s = s.c + dist sw (a.drop (i + s.a)) (b.drop (j + s.b)) := fun s => by unfold valS; rw [List.drop_drop, List.drop_drop]
        have hrs : ∀ v, v = dist sw (a.drop i) (b.drop j) → (rowF sw a b i (j + 1)).set j v = rowF sw a b i j := fun v hv => rowF_set hv
        generalize hS : steps sw (a.drop i) (b.drop j) = S at *
        have hcd : ¬ ((i : Int) = (a.length : Int) ∧ (j : Int) = (b.length : Int)) := by omega
        (repeat' first | with_reducible (first | intro _ | refine rc ?_ | refine rl ?_ | refine rh ?_ | refine rt ?_ | refine rf ?_ | refine rs ?_ | refine And.intro ?_ ?_) | omega | simp (maxSteps := 1000000) only [go_sem, simprocAttr, ↓reduceIte, ej, hcl2, hfl, hcd])
        refine VcCall.ro (.ro (sts S)) (FnFr.of_ok ks rfl (by simp [noRoRows, noRoItem, noRoRow, noRoL, noRo, sts, St.av])) (by simp only [noIdR_ok, argOkL, argOk, allOk, argOkN, List.drop_zero, lk, reduceIte, reduceCtorEq, Nat.reduceEqDiff, Option.some.injEq, Item.row.injEq, Item.box.injEq, AV.ro.injEq, exists_eq_left, exists_and_left, exists_eq_left', exists_eq_right, and_assoc, and_true, true_and, List.cons.injEq, exists_eq', exists_eq, mxs]) (by simp [outOk, argOk, argOkN, lk, noIdR_ok]) rfl ?_
        (repeat' first | with_reducible (first | intro _ | refine rc ?_ | refine rl ?_ | refine rh ?_ | refine rt ?_ | refine rf ?_ | refine rs ?_ | refine And.intro ?_ ?_) | omega | simp (maxSteps := 1000000) only [go_sem, simprocAttr, ↓reduceIte, sts, List.length_map])
        refine VcLoop.intro (fun x : Nat × Int => ⟨184, [(62, .int .i64 x.1), (61, .int .i64 S.length), (60, .ro (sts S)), (11, .int .i64 x.2), (10, .int .i64 j), (9, .int .i64 i), (8, .own 0), (0, .str a), (1, .str b), (2, .ro (mxs l))], [(0, .row 130 (.objs 1 ((costL sw a b (i + 1)).set i [.own 1]))), (1, .row 3 (.ints .i64 (rowF sw a b i (j + 1))))], 2⟩) (fun x => x.1 ≤ S.length ∧ -1 ≤ x.2 ∧ x.2 ≤ 1000000 ∧ mfold x.2 ((S.drop x.1).map (valS sw (a.drop i) (b.drop j))) = dist sw (a.drop i) (b.drop j)) (fun x => S.length - x.1) (0, -1) ?_ ⟨Nat.zero_le _, Int.le_refl _, by decide, hmf⟩ fun x hx => ?_
        · refine Ent.same rfl (Nat.zero_le _) ?_ ?_ <;> simp only [go_sem, reduceCtorEq, reduceIte, Nat.reduceEqDiff, Nat.reduceLT, Nat.reduceLeDiff, Int.natCast_succ, belowL_set1, sts, Int.natCast_zero]
        obtain ⟨k, best⟩ := x
        dsimp only at hx
        by_cases hk : k < S.length
        · have hel := st_elem S hk
          have hstp := mfold_step (valS sw (a.drop i) (b.drop j)) S hk best
          have hbs := hsb (S.getD k St.zero) (by rw [getD_lt hk]; exact List.getElem_mem hk)
          generalize S.getD k St.zero = s at *
          obtain ⟨sa, sb, sc⟩ := s
          dsimp only at hbs hel
          rw [hvS, hx.2.2.2] at hstp
          dsimp only at hstp
          have bs := dist_bd hg _ (a.drop (i + sa)) (b.drop (j + sb)) (Nat.le_refl _)
          simp only [List.length_drop] at bs
          have ta : ((i : Int) + sa).toNat = i + sa := by omega
          have tb : ((j : Int) + sb).toNat = j + sb := by omega
          have hfl0 := rowF_len sw a b (i + sa) 0
          by_cases hsa : sa = 0
          case' pos =>
            subst hsa
            simp only [Nat.add_zero, Int.natCast_zero] at hstp bs ta hfl0
            have hgt : ((costL sw a b (i + 1)).set i [.own 1]).getD i [] = [.own 1] := by rw [getD_lt (by rw [List.length_set, hcl]; omega), List.getElem_set_self]
            have hgv : (rowF sw a b i (j + 1)).getD (j + sb) 0 = dist sw (a.drop i) (b.drop (j + sb)) := rowF_get (by omega) (by omega)
          case' neg =>
            have hgt : ((costL sw a b (i + 1)).set i [.own 1]).getD (i + sa) [] = [.ro (.ints .i64 (rowF sw a b (i + sa) 0))] := by
              rw [getD_lt (by rw [List.length_set, hcl]; omega), List.getElem_set_ne (by omega), ← getD_lt (d := [])]
              exact costL_get (by omega) (by omega)
            have hgv : (rowF sw a b (i + sa) 0).getD (j + sb) 0 = dist sw (a.drop (i + sa)) (b.drop (j + sb)) := rowF_get (by omega) (Nat.zero_le _)
          all_goals
            generalize dist sw (a.drop _) (b.drop (j + sb)) = ds at *
            (repeat' first | with_reducible (first | intro _ | refine rc ?_ | refine rl ?_ | refine rh ?_ | refine rt ?_ | refine rf ?_ | refine rs ?_ | refine And.intro ?_ ?_) | omega | simp (maxSteps := 1000000) only [go_sem, simprocAttr, ↓reduceIte, elemA, hel, sts, List.length_map])
            refine VcDraw.lex [] [] (by kernel_rfl) (by kernel_rfl) ?_
            (repeat' first | with_reducible (first | intro _ | refine rc ?_ | refine rl ?_ | refine rh ?_ | refine rt ?_ | refine rf ?_ | refine rs ?_ | refine And.intro ?_ ?_) | omega | simp (maxSteps := 1000000) only [go_sem, simprocAttr, ↓reduceIte, elemA, ta, tb, hgt, hgv, hcl2, hfl, hfl0])
            · have h : best < 0 ∨ sc + ds < best := by assumption
              rw [if_pos h] at hstp
              refine ⟨(k + 1, sc + ds), Ent.same rfl (Nat.zero_le _) ?_ ?_, ⟨by dsimp only; omega, by dsimp only; omega, by dsimp only; omega, hstp.symm⟩, by dsimp only; omega⟩ <;> simp only [go_sem, reduceCtorEq, reduceIte, Nat.reduceEqDiff, Nat.reduceLT, Nat.reduceLeDiff, Int.natCast_succ, belowL_set1, sts]
            · have h : ¬ (best < 0 ∨ sc + ds < best) := by assumption
              rw [if_neg h] at hstp
              refine ⟨(k + 1, best), Ent.same rfl (Nat.zero_le _) ?_ ?_, ⟨by dsimp only; omega, by dsimp only; omega, by dsimp only; omega, hstp.symm⟩, by dsimp only; omega⟩ <;> simp only [go_sem, reduceCtorEq, reduceIte, Nat.reduceEqDiff, Nat.reduceLT, Nat.reduceLeDiff, Int.natCast_succ, belowL_set1, sts]
        · have ek : k = S.length := by omega
          have hfin := hx.2.2.2
          rw [ek, List.drop_length] at hfin
          have hfin' : best = dist sw (a.drop i) (b.drop j) := hfin
          have hgt : ((costL sw a b (i + 1)).set i [.own 1]).getD i [] = [.own 1] := by rw [getD_lt (by rw [List.length_set, hcl]; omega), List.getElem_set_self]
          (repeat' first | with_reducible (first | intro _ | refine rc ?_ | refine rl ?_ | refine rh ?_ | refine rt ?_ | refine rf ?_ | refine rs ?_ | refine And.intro ?_ ?_) | omega | simp (maxSteps := 1000000) only [go_sem, simprocAttr, ↓reduceIte, sts, List.length_map, elemA, hgt, hcl2, hfl, hrs _ hfin', Int.toNat_natCast])
          refine ⟨j, Ent.same rfl (Nat.zero_le _) ?_ ?_, by omega, by omega⟩ <;> simp only [go_sem, reduceCtorEq, reduceIte, Nat.reduceEqDiff, Nat.reduceLT, Nat.reduceLeDiff, Int.natCast_succ, belowL_set1]
end Go.Fv.Y

/- Letters, words, and the trims at one byte. -/
namespace Go.Fv.Y
open Go Go.Proofs
set_option linter.unusedSimpArgs false
set_option linter.unusedVariables false
set_option linter.unnecessarySimpa false
set_option maxRecDepth 8000

theorem isL_eq (c : UInt8) : isL c = decide ((97 ≤ (c.toNat : Int) ∧ (c.toNat : Int) ≤ 122 ∨ 65 ≤ (c.toNat : Int) ∧ (c.toNat : Int) ≤ 90) ∨ 128 ≤ (c.toNat : Int)) := by
  rw [Bool.eq_iff_iff]; simp only [isL, Bool.or_eq_true, Bool.and_eq_true, decide_eq_true_eq]; omega
theorem u8_39 (c : UInt8) : c = 39 ↔ (c.toNat : Int) = 39 := by
  constructor
  · rintro rfl; rfl
  · intro h; exact UInt8.toNat_inj.1 (by show c.toNat = 39; omega)
theorem inW_eq (c : UInt8) : inW c = (isL c || decide ((c.toNat : Int) = 39)) := by
  simp only [inW, u8_39]
theorem letter_ok (c : UInt8) : FnOk Tryz.prog 32 [.int .u8 c.toNat] (.bool (isL c)) [] := by
  refine FnOk.of_vc Tryz.func32 rfl (by decide) (by simp [Tryz.f32]) [.tmp 2] rfl fun w0 T0 _ => ?_
  simp only [Tryz.f32, argEnv]
  (repeat' first | with_reducible (first | intro _ | refine rc ?_ | refine rl ?_ | refine rh ?_ | refine rt ?_ | refine rf ?_ | refine rs ?_ | refine And.intro ?_ ?_) | omega | simp (maxSteps := 1000000) only [go_sem, simprocAttr, ↓reduceIte])
  refine Ret.auto 0 ?_ rfl ?_ <;> simp only [go_sem, reduceCtorEq, reduceIte, Nat.reduceEqDiff, Nat.reduceLT, Nat.reduceLeDiff, Int.natCast_succ, Post, isL_eq]
theorem isLetter_ok (c : UInt8) : FnOk Tryz.prog 43 [.int .u8 c.toNat] (.bool (isL c)) [] := by
  refine FnOk.of_vc Tryz.func43 rfl (by decide) (by simp [Tryz.f43]) [.tmp 2] rfl fun w0 T0 _ => ?_
  simp only [Tryz.f43, argEnv]
  (repeat' first | with_reducible (first | intro _ | refine rc ?_ | refine rl ?_ | refine rh ?_ | refine rt ?_ | refine rf ?_ | refine rs ?_ | refine And.intro ?_ ?_) | omega | simp (maxSteps := 1000000) only [go_sem, simprocAttr, ↓reduceIte])
  refine Ret.auto 0 ?_ rfl ?_ <;> simp only [go_sem, reduceCtorEq, reduceIte, Nat.reduceEqDiff, Nat.reduceLT, Nat.reduceLeDiff, Int.natCast_succ, Post, isL_eq]
theorem inWord_ok (c : UInt8) : FnOk Tryz.prog 76 [.int .u8 c.toNat] (.bool (inW c)) [] := by
  have k := letter_ok c
  refine FnOk.of_vc Tryz.func76 rfl (by decide) (by simp [Tryz.f76]) [.tmp 2] rfl fun w0 T0 _ => ?_
  simp only [Tryz.f76, argEnv]
  (repeat' first | with_reducible (first | intro _ | refine rc ?_ | refine rl ?_ | refine rh ?_ | refine rt ?_ | refine rf ?_ | refine rs ?_ | refine And.intro ?_ ?_) | omega | simp (maxSteps := 1000000) only [go_sem, simprocAttr, ↓reduceIte])
  refine VcCall.k k ?_
  (repeat' first | with_reducible (first | intro _ | refine rc ?_ | refine rl ?_ | refine rh ?_ | refine rt ?_ | refine rf ?_ | refine rs ?_ | refine And.intro ?_ ?_) | omega | simp (maxSteps := 1000000) only [go_sem, simprocAttr, ↓reduceIte])
  refine Ret.auto 0 ?_ rfl ?_ <;> simp only [go_sem, reduceCtorEq, reduceIte, Nat.reduceEqDiff, Nat.reduceLT, Nat.reduceLeDiff, Int.natCast_succ, Post, inW_eq]
theorem isWd_nil : isWd [] = false := by simp [isWd]
theorem isWd_long {s : List UInt8} (h : 40 < (s.length : Int)) : isWd s = false := by
  have : ¬ s.length ≤ 40 := by omega
  simp [isWd, this]
theorem isWd_mid {s : List UInt8} (h0 : ¬ s = []) (h1 : ¬ 40 < (s.length : Int)) : isWd s = (isL (s.getD 0 0) && isL (s.getD (s.length - 1) 0) && s.all inW) := by
  have h : s.length ≤ 40 := by omega
  have e1 : s.headD 0 = s.getD 0 0 := by cases s <;> rfl
  have e2 : s.getLastD 0 = s.getD (s.length - 1) 0 := by
    rw [List.getLastD_eq_getLast?, List.getLast?_eq_getElem?]; simp [List.getD]
  simp only [isWd, e1, e2, h0, h, ne_eq, not_false_eq_true, decide_true, Bool.true_and]
theorem all_of {s : List UInt8} (h : ∀ j, j < s.length → inW (s.getD j 0) = true) : s.all inW = true := by
  rw [List.all_eq_true]; intro x hx
  obtain ⟨j, hj, rfl⟩ := List.getElem_of_mem hx
  have := h j hj; rwa [getD_lt hj] at this
theorem all_not {s : List UInt8} {j : Nat} (hj : j < s.length) (h : inW (s.getD j 0) = false) : s.all inW = false := by
  rw [Bool.eq_false_iff]; intro ha
  rw [List.all_eq_true] at ha
  have := ha _ (List.getElem_mem hj)
  rw [getD_lt hj] at h; rw [h] at this; cases this
set_option maxHeartbeats 2000000 in
theorem isWordA_ok (s : List UInt8) : FnOk Tryz.prog 67 [.str s] (.bool (isWd s)) [] := by
  refine FnOk.of_vc Tryz.func67 rfl (by decide) (by simp [Tryz.f67]) [.tmp 2] rfl fun w0 T0 _ => ?_
  simp only [Tryz.f67, argEnv]
  by_cases h0 : s = []
  · (repeat' first | with_reducible (first | intro _ | refine rc ?_ | refine rl ?_ | refine rh ?_ | refine rt ?_ | refine rf ?_ | refine rs ?_ | refine And.intro ?_ ?_) | omega | simp (maxSteps := 1000000) only [go_sem, simprocAttr, ↓reduceIte, h0])
    refine Ret.auto 0 ?_ rfl ?_ <;> simp only [go_sem, reduceCtorEq, reduceIte, Nat.reduceEqDiff, Nat.reduceLT, Nat.reduceLeDiff, Int.natCast_succ, Post, isWd_nil]
  · by_cases h1 : 40 < (s.length : Int)
    · (repeat' first | with_reducible (first | intro _ | refine rc ?_ | refine rl ?_ | refine rh ?_ | refine rt ?_ | refine rf ?_ | refine rs ?_ | refine And.intro ?_ ?_) | omega | simp (maxSteps := 1000000) only [go_sem, simprocAttr, ↓reduceIte, h0, h1])
      refine Ret.auto 0 ?_ rfl ?_ <;> simp only [go_sem, reduceCtorEq, reduceIte, Nat.reduceEqDiff, Nat.reduceLT, Nat.reduceLeDiff, Int.natCast_succ, Post, isWd_long h1]
    · have hp : 0 < s.length := List.length_pos_iff.2 h0
      have hp2 : (0 : Int) < s.length := by omega
      have k := letter_ok (s.getD 0 0)
      have k2 := letter_ok (s.getD (s.length - 1) 0)
      have e := isWd_mid h0 h1
      have et : ((s.length : Int) - 1).toNat = s.length - 1 := by omega
      (repeat' first | with_reducible (first | intro _ | refine rc ?_ | refine rl ?_ | refine rh ?_ | refine rt ?_ | refine rf ?_ | refine rs ?_ | refine And.intro ?_ ?_) | omega | simp (maxSteps := 1000000) only [go_sem, simprocAttr, ↓reduceIte, h0, h1, hp2])
      refine VcCall.k k ?_
      cases hL : isL (s.getD 0 0) with
      | false =>
        (repeat' first | with_reducible (first | intro _ | refine rc ?_ | refine rl ?_ | refine rh ?_ | refine rt ?_ | refine rf ?_ | refine rs ?_ | refine And.intro ?_ ?_) | omega | simp (maxSteps := 1000000) only [go_sem, simprocAttr, ↓reduceIte, hL])
        refine Ret.auto 0 ?_ rfl ?_ <;> simp only [go_sem, reduceCtorEq, reduceIte, Nat.reduceEqDiff, Nat.reduceLT, Nat.reduceLeDiff, Int.natCast_succ, Post, e, hL, Bool.false_and]
      | true =>
        (repeat' first | with_reducible (first | intro _ | refine rc ?_ | refine rl ?_ | refine rh ?_ | refine rt ?_ | refine rf ?_ | refine rs ?_ | refine And.intro ?_ ?_) | omega | simp (maxSteps := 1000000) only [go_sem, simprocAttr, ↓reduceIte, hL, et])
        refine VcCall.k k2 ?_
        cases hL2 : isL (s.getD (s.length - 1) 0) with
        | false =>
          (repeat' first | with_reducible (first | intro _ | refine rc ?_ | refine rl ?_ | refine rh ?_ | refine rt ?_ | refine rf ?_ | refine rs ?_ | refine And.intro ?_ ?_) | omega | simp (maxSteps := 1000000) only [go_sem, simprocAttr, ↓reduceIte, hL2])
          refine Ret.auto 0 ?_ rfl ?_ <;> simp only [go_sem, reduceCtorEq, reduceIte, Nat.reduceEqDiff, Nat.reduceLT, Nat.reduceLeDiff, Int.natCast_succ, Post, e, hL, hL2, Bool.false_and, Bool.and_false]
        | true =>
          (repeat' first | with_reducible (first | intro _ | refine rc ?_ | refine rl ?_ | refine rh ?_ | refine rt ?_ | refine rf ?_ | refine rs ?_ | refine And.intro ?_ ?_) | omega | simp (maxSteps := 1000000) only [go_sem, simprocAttr, ↓reduceIte, hL2])
          refine VcLoop.intro (fun i : Nat => ⟨37, [(28, .int .i64 i), (27, .int .i64 s.length), (0, .str s)], [], 0⟩) (fun i => i ≤ s.length ∧ ∀ j, j < i → inW (s.getD j 0) = true) (fun i => s.length - i) 0 ?_ ⟨Nat.zero_le _, fun j hj => absurd hj (Nat.not_lt_zero j)⟩ fun i hi => ?_
          · refine Ent.auto0 rfl ?_ ?_ <;> simp only [go_sem, reduceCtorEq, reduceIte, Nat.reduceEqDiff, Nat.reduceLT, Nat.reduceLeDiff, Int.natCast_succ]
          obtain ⟨hi, ha⟩ := hi
          have k3 := inWord_ok (s.getD i 0)
          (repeat' first | with_reducible (first | intro _ | refine rc ?_ | refine rl ?_ | refine rh ?_ | refine rt ?_ | refine rf ?_ | refine rs ?_ | refine And.intro ?_ ?_) | omega | simp (maxSteps := 1000000) only [go_sem, simprocAttr, ↓reduceIte, Int.toNat_natCast])
          · refine VcCall.k k3 ?_
            cases hW : inW (s.getD i 0) with
            | false =>
              have hf := all_not (by omega) hW
              (repeat' first | with_reducible (first | intro _ | refine rc ?_ | refine rl ?_ | refine rh ?_ | refine rt ?_ | refine rf ?_ | refine rs ?_ | refine And.intro ?_ ?_) | omega | simp (maxSteps := 1000000) only [go_sem, simprocAttr, ↓reduceIte, hW])
              refine Ret.auto 0 ?_ rfl ?_ <;> simp only [go_sem, reduceCtorEq, reduceIte, Nat.reduceEqDiff, Nat.reduceLT, Nat.reduceLeDiff, Int.natCast_succ, Post, e, hf, Bool.and_false]
            | true =>
              (repeat' first | with_reducible (first | intro _ | refine rc ?_ | refine rl ?_ | refine rh ?_ | refine rt ?_ | refine rf ?_ | refine rs ?_ | refine And.intro ?_ ?_) | omega | simp (maxSteps := 1000000) only [go_sem, simprocAttr, ↓reduceIte, hW])
              refine ⟨i + 1, Ent.auto0 rfl ?_ ?_, ⟨by omega, fun j hj => ?_⟩, by omega⟩
              · simp only [go_sem, reduceCtorEq, reduceIte, Nat.reduceEqDiff, Nat.reduceLT, Nat.reduceLeDiff, Int.natCast_succ]
              · simp only [go_sem, reduceCtorEq, reduceIte, Nat.reduceEqDiff, Nat.reduceLT, Nat.reduceLeDiff, Int.natCast_succ]
              · by_cases hji : j = i
                · rw [hji]; exact hW
                · exact ha j (by omega)
          · have hf := all_of fun j hj => ha j (by omega)
            refine Ret.auto 0 ?_ rfl ?_ <;> simp only [go_sem, reduceCtorEq, reduceIte, Nat.reduceEqDiff, Nat.reduceLT, Nat.reduceLeDiff, Int.natCast_succ, Post, e, hL, hL2, hf, Bool.and_true]
end Go.Fv.Y

/- The reference's IsWord. -/
namespace Go.Fv.Y
open Go Go.Proofs
set_option linter.unusedSimpArgs false
set_option linter.unusedVariables false
set_option linter.unnecessarySimpa false
set_option maxRecDepth 8000

set_option maxHeartbeats 2000000 in
theorem refIsWordA_ok (s : List UInt8) : FnOk Tryz.prog 85 [.str s] (.bool (isWd s)) [] := by
  refine FnOk.of_vc Tryz.func85 rfl (by decide) (by simp [Tryz.f85]) [.tmp 2] rfl fun w0 T0 _ => ?_
  simp only [Tryz.f85, argEnv]
  by_cases h0 : s = []
  · (repeat' first | with_reducible (first | intro _ | refine rc ?_ | refine rl ?_ | refine rh ?_ | refine rt ?_ | refine rf ?_ | refine rs ?_ | refine And.intro ?_ ?_) | omega | simp (maxSteps := 1000000) only [go_sem, simprocAttr, ↓reduceIte, h0])
    refine Ret.auto 0 ?_ rfl ?_ <;> simp only [go_sem, reduceCtorEq, reduceIte, Nat.reduceEqDiff, Nat.reduceLT, Nat.reduceLeDiff, Int.natCast_succ, Post, isWd_nil]
  · by_cases h1 : 40 < (s.length : Int)
    · (repeat' first | with_reducible (first | intro _ | refine rc ?_ | refine rl ?_ | refine rh ?_ | refine rt ?_ | refine rf ?_ | refine rs ?_ | refine And.intro ?_ ?_) | omega | simp (maxSteps := 1000000) only [go_sem, simprocAttr, ↓reduceIte, h0, h1])
      refine Ret.auto 0 ?_ rfl ?_ <;> simp only [go_sem, reduceCtorEq, reduceIte, Nat.reduceEqDiff, Nat.reduceLT, Nat.reduceLeDiff, Int.natCast_succ, Post, isWd_long h1]
    · have hp : 0 < s.length := List.length_pos_iff.2 h0
      have hp2 : (0 : Int) < s.length := by omega
      have k := isLetter_ok (s.getD 0 0)
      have k2 := isLetter_ok (s.getD (s.length - 1) 0)
      have e := isWd_mid h0 h1
      have et : ((s.length : Int) - 1).toNat = s.length - 1 := by omega
      (repeat' first | with_reducible (first | intro _ | refine rc ?_ | refine rl ?_ | refine rh ?_ | refine rt ?_ | refine rf ?_ | refine rs ?_ | refine And.intro ?_ ?_) | omega | simp (maxSteps := 1000000) only [go_sem, simprocAttr, ↓reduceIte, h0, h1, hp2])
      refine VcCall.k k ?_
      cases hL : isL (s.getD 0 0) with
      | false =>
        (repeat' first | with_reducible (first | intro _ | refine rc ?_ | refine rl ?_ | refine rh ?_ | refine rt ?_ | refine rf ?_ | refine rs ?_ | refine And.intro ?_ ?_) | omega | simp (maxSteps := 1000000) only [go_sem, simprocAttr, ↓reduceIte, hL])
        refine Ret.auto 0 ?_ rfl ?_ <;> simp only [go_sem, reduceCtorEq, reduceIte, Nat.reduceEqDiff, Nat.reduceLT, Nat.reduceLeDiff, Int.natCast_succ, Post, e, hL, Bool.false_and]
      | true =>
        (repeat' first | with_reducible (first | intro _ | refine rc ?_ | refine rl ?_ | refine rh ?_ | refine rt ?_ | refine rf ?_ | refine rs ?_ | refine And.intro ?_ ?_) | omega | simp (maxSteps := 1000000) only [go_sem, simprocAttr, ↓reduceIte, hL, et])
        refine VcCall.k k2 ?_
        cases hL2 : isL (s.getD (s.length - 1) 0) with
        | false =>
          (repeat' first | with_reducible (first | intro _ | refine rc ?_ | refine rl ?_ | refine rh ?_ | refine rt ?_ | refine rf ?_ | refine rs ?_ | refine And.intro ?_ ?_) | omega | simp (maxSteps := 1000000) only [go_sem, simprocAttr, ↓reduceIte, hL2])
          refine Ret.auto 0 ?_ rfl ?_ <;> simp only [go_sem, reduceCtorEq, reduceIte, Nat.reduceEqDiff, Nat.reduceLT, Nat.reduceLeDiff, Int.natCast_succ, Post, e, hL, hL2, Bool.false_and, Bool.and_false]
        | true =>
          (repeat' first | with_reducible (first | intro _ | refine rc ?_ | refine rl ?_ | refine rh ?_ | refine rt ?_ | refine rf ?_ | refine rs ?_ | refine And.intro ?_ ?_) | omega | simp (maxSteps := 1000000) only [go_sem, simprocAttr, ↓reduceIte, hL2])
          refine VcLoop.intro (fun i : Nat => ⟨43, [(28, .int .i64 i), (27, .int .i64 s.length), (0, .str s)], [], 0⟩) (fun i => i ≤ s.length ∧ ∀ j, j < i → inW (s.getD j 0) = true) (fun i => s.length - i) 0 ?_ ⟨Nat.zero_le _, fun j hj => by omega⟩ fun i hi => ?_
          · refine Ent.auto0 rfl ?_ ?_ <;> simp only [go_sem, reduceCtorEq, reduceIte, Nat.reduceEqDiff, Nat.reduceLT, Nat.reduceLeDiff, Int.natCast_succ]
          obtain ⟨hi, ha⟩ := hi
          have k3 := isLetter_ok (s.getD i 0)
          have hiw := inW_eq (s.getD i 0)
          (repeat' first | with_reducible (first | intro _ | refine rc ?_ | refine rl ?_ | refine rh ?_ | refine rt ?_ | refine rf ?_ | refine rs ?_ | refine And.intro ?_ ?_) | omega | simp (maxSteps := 1000000) only [go_sem, simprocAttr, ↓reduceIte, Int.toNat_natCast])
          · refine VcCall.k k3 ?_
            cases hW : isL (s.getD i 0) with
            | true =>
              rw [hW, Bool.true_or] at hiw
              (repeat' first | with_reducible (first | intro _ | refine rc ?_ | refine rl ?_ | refine rh ?_ | refine rt ?_ | refine rf ?_ | refine rs ?_ | refine And.intro ?_ ?_) | omega | simp (maxSteps := 1000000) only [go_sem, simprocAttr, ↓reduceIte, hW])
              refine ⟨i + 1, Ent.auto0 rfl ?_ ?_, ⟨by omega, fun j hj => ?_⟩, by omega⟩
              · simp only [go_sem, reduceCtorEq, reduceIte, Nat.reduceEqDiff, Nat.reduceLT, Nat.reduceLeDiff, Int.natCast_succ]
              · simp only [go_sem, reduceCtorEq, reduceIte, Nat.reduceEqDiff, Nat.reduceLT, Nat.reduceLeDiff, Int.natCast_succ]
              · by_cases hji : j = i
                · rw [hji]; exact hiw
                · exact ha j (by omega)
            | false =>
              rw [hW, Bool.false_or] at hiw
              (repeat' first | with_reducible (first | intro _ | refine rc ?_ | refine rl ?_ | refine rh ?_ | refine rt ?_ | refine rf ?_ | refine rs ?_ | refine And.intro ?_ ?_) | omega | simp (maxSteps := 1000000) only [go_sem, simprocAttr, ↓reduceIte, hW])
              · rename_i h39
                rw [decide_eq_false h39] at hiw
                have hf := all_not (by omega) hiw
                refine Ret.auto 0 ?_ rfl ?_ <;> simp only [go_sem, reduceCtorEq, reduceIte, Nat.reduceEqDiff, Nat.reduceLT, Nat.reduceLeDiff, Int.natCast_succ, Post, e, hf, Bool.and_false]
              · rename_i h39
                rw [decide_eq_true (Decidable.of_not_not h39)] at hiw
                refine ⟨i + 1, Ent.auto0 rfl ?_ ?_, ⟨by omega, fun j hj => ?_⟩, by omega⟩
                · simp only [go_sem, reduceCtorEq, reduceIte, Nat.reduceEqDiff, Nat.reduceLT, Nat.reduceLeDiff, Int.natCast_succ]
                · simp only [go_sem, reduceCtorEq, reduceIte, Nat.reduceEqDiff, Nat.reduceLT, Nat.reduceLeDiff, Int.natCast_succ]
                · by_cases hji : j = i
                  · rw [hji]; exact hiw
                  · exact ha j (by omega)
          · have hf := all_of fun j hj => ha j (by omega)
            refine Ret.auto 0 ?_ rfl ?_ <;> simp only [go_sem, reduceCtorEq, reduceIte, Nat.reduceEqDiff, Nat.reduceLT, Nat.reduceLeDiff, Int.natCast_succ, Post, e, hL, hL2, hf, Bool.and_true]
end Go.Fv.Y

/- Dictionaries: the walks of Has, Count, Begin and their references. -/
namespace Go.Fv.Y
open Go Go.Proofs
set_option linter.unusedSimpArgs false
set_option linter.unusedVariables false
set_option linter.unnecessarySimpa false
set_option maxRecDepth 8000

theorem keysT_d {P : Program} {kt : TypeId} (h : P.underlying kt = some .string) (l : List Wd) : KeysT P kt (dKs l) := KeysT_map (fun n => KeyT.str h n) _
theorem hasD_ok (l : List Wd) (ws : List Bytes) (x : Bytes) : FnOk Tryz.prog 28 [.cell [.mp (dKs l) (dVs l), .ro (.strs ws)], .str x] (.bool (decide (0 < cntD l x))) [] := by
  have e1 := getI_d l x
  have e4 := isI_d l
  have e5 : KeysT Tryz.prog 9 (dKs l) := keysT_d (by kernel_rfl) _
  refine FnOk.of_vc Tryz.func28 rfl (by decide) (by simp [Tryz.f28]) [.tmp 4] rfl fun w0 T0 _ => ?_
  simp only [Tryz.f28, argEnv]
  (repeat' first | with_reducible (first | intro _ | refine rc ?_ | refine rl ?_ | refine rh ?_ | refine rt ?_ | refine rf ?_ | refine rs ?_ | refine And.intro ?_ ?_) | omega | simp (maxSteps := 1000000) only [go_sem, simprocAttr, ↓reduceIte, e1, e4, e5])
  refine Ret.auto 0 ?_ rfl ?_ <;> simp only [go_sem, reduceCtorEq, reduceIte, Nat.reduceEqDiff, Nat.reduceLT, Nat.reduceLeDiff, Int.natCast_succ, Post]
end Go.Fv.Y
