/-
  A part of the proof of the claim: walks over the program's functions and the plain laws that these need. No condition of its own.
-/
import Derived.Test.YtkfadacmcknejaaDoorVDictsCardPart1
import Derived.Shelf.Small.Strs
import Derived.Test.YtkfadacmcknejaaDoorFvPart10
import Derived.Test.YtkfadacmcknejaaDoorFvPart9
/- Begin, and the reference's. -/
namespace Go.Fv.V
open Go Go.Proofs
set_option linter.unusedSimpArgs false
set_option linter.unusedVariables false
set_option linter.unnecessarySimpa false
set_option maxRecDepth 8000

theorem not_pre {s x : Bytes} (h : x < s) : s.isPrefixOf x = false := by
  cases hp : s.isPrefixOf x with
  | false => rfl
  | true => exact absurd h (prefix_le hp)
theorem beg_start {ws : List Bytes} (hs : ws.Pairwise fun a b => a ≤ b) (s : Bytes) : ws.filter (fun x => s.isPrefixOf x) = (ws.drop (lessN ws s)).filter fun x => s.isPrefixOf x := by
  have h : (ws.take (lessN ws s)).filter (fun x => s.isPrefixOf x) = [] := by
    rw [List.filter_eq_nil_iff]
    intro x hx
    obtain ⟨i, hi, rfl⟩ := List.mem_iff_getElem.1 hx
    rw [List.length_take] at hi
    have h1 : i < ws.length := by omega
    have := (lessN_at (x := s) hs i h1).2 (by omega)
    rw [getD_lt h1] at this
    rw [List.getElem_take, not_pre this]; decide
  conv => lhs; rw [← List.take_append_drop (lessN ws s) ws]
  rw [List.filter_append, h, List.nil_append]
theorem beg_stop {ws : List Bytes} (hs : ws.Pairwise fun a b => a ≤ b) {s : Bytes} {k : Nat} (hk : lessN ws s ≤ k) (hl : k < ws.length) (hp : s.isPrefixOf (ws.getD k []) = false) : (ws.drop k).filter (fun x => s.isPrefixOf x) = [] := by
  rw [List.filter_eq_nil_iff]
  intro y hy hpy
  obtain ⟨i, hi, rfl⟩ := List.mem_iff_getElem.1 hy
  rw [List.length_drop] at hi
  rw [List.getElem_drop] at hpy
  have h1 : s ≤ ws[k] := by
    intro hlt
    rw [← getD_lt hl (d := [])] at hlt
    have := (lessN_at (x := s) hs k hl).1 hlt
    omega
  have h2 : ws[k] ≤ ws[k + i] := by
    cases i with
    | zero => exact List.le_refl _
    | succ i => exact (List.pairwise_iff_getElem.1 hs) k (k + (i + 1)) hl (by omega) (by omega)
  have := prefix_mid h1 h2 hpy
  rw [getD_lt hl] at hp
  rw [hp] at this
  cases this
structure BegI (s : Bytes) (most : Int) (ws : List Bytes) (k : Nat) (out : List Bytes) : Prop where
  lo : lessN ws s ≤ k
  hi : k ≤ ws.length
  len : out.length ≤ most.toNat ∧ out.length ≤ k
  eq : out ++ ((ws.drop k).filter fun x => s.isPrefixOf x).take (most.toNat - out.length) = begB s most ws
set_option maxHeartbeats 4000000 in
theorem beginD_ok (l : List Wd) (ws : List Bytes) (hs : ws.Pairwise fun a b => a ≤ b) (hl : ws.length ≤ 100000) (s : Bytes) (most : Int) :
    FnOk Tryd.prog 19 [.cell [.mp (dKs l) (dVs l), .ro (.strs ws)], .str s, .int .i64 most] (.own 0) [(0, .row 9 (.strs (begB s most ws)))] := by
  have kb := binS_ok ws hs (by omega) s
  have hle := lessN_le ws s
  have h0 : BegI s most ws (lessN ws s) [] := ⟨Nat.le_refl _, hle, by simp, by rw [← beg_start hs]; rfl⟩
  have hstop := fun k => @beg_stop ws hs s k
  have hdrop : ∀ k, k < ws.length → ws.drop k = ws.getD k [] :: ws.drop (k + 1) := fun k hk => by rw [List.drop_eq_getElem_cons hk, getD_lt hk]
  generalize (decide (lessN ws s < ws.length) && decide (ws.getD (lessN ws s) [] = s)) = fb at *
  refine FnOk.of_vc Tryd.func19 rfl (by decide) (by simp [Tryd.f19]) [.tmp 6] rfl fun w0 T0 _ => ?_
  simp only [Tryd.f19, argEnv]
  (repeat' first | with_reducible (first | intro _ | refine rc ?_ | refine rl ?_ | refine rh ?_ | refine rt ?_ | refine rf ?_ | refine rs ?_ | refine And.intro ?_ ?_) | omega | simp (maxSteps := 1000000) only [go_sem, simprocAttr, ↓reduceIte])
  refine VcCall.k (kb) ?_
  (repeat' first | with_reducible (first | intro _ | refine rc ?_ | refine rl ?_ | refine rh ?_ | refine rt ?_ | refine rf ?_ | refine rs ?_ | refine And.intro ?_ ?_) | omega | simp (maxSteps := 1000000) only [go_sem, simprocAttr, ↓reduceIte])
  refine VcLoop.intro (fun y : Nat × List Bytes => ⟨56, [(8, .int .i64 y.1), (7, .own 0), (0, .cell [.mp (dKs l) (dVs l), .ro (.strs ws)]), (1, .str s), (2, .int .i64 most)], [(0, .row 9 (.strs y.2))], 1⟩) (fun y => BegI s most ws y.1 y.2) (fun y => ws.length - y.1) (lessN ws s, []) ?_ h0 fun y hy => ?_
  · refine Ent.auto0 rfl ?_ ?_ <;> simp only [go_sem, reduceCtorEq, reduceIte, Nat.reduceEqDiff, Nat.reduceLT, Nat.reduceLeDiff, Int.natCast_succ]
    all_goals rfl
  obtain ⟨k, out⟩ := y
  obtain ⟨h1, h2, h3, h4⟩ := hy
  dsimp only at h1 h2 h3 h4 ⊢
  by_cases hk : k < ws.length
  · have hk' : (k : Int) < ws.length := by omega
    by_cases hm : (out.length : Int) < most
    · have kp := hasPrefix_ok (ws.getD k []) s
      cases hp : s.isPrefixOf (ws.getD k []) with
      | true =>
        rw [hp] at kp
        (repeat' first | with_reducible (first | intro _ | refine rc ?_ | refine rl ?_ | refine rh ?_ | refine rt ?_ | refine rf ?_ | refine rs ?_ | refine And.intro ?_ ?_) | omega | simp (maxSteps := 1000000) only [go_sem, simprocAttr, ↓reduceIte, hk', hm, Int.toNat_natCast])
        refine VcCall.k (kp) ?_
        (repeat' first | with_reducible (first | intro _ | refine rc ?_ | refine rl ?_ | refine rh ?_ | refine rt ?_ | refine rf ?_ | refine rs ?_ | refine And.intro ?_ ?_) | omega | simp (maxSteps := 1000000) only [go_sem, simprocAttr, ↓reduceIte, hk', hm, Int.toNat_natCast])
        have hst : BegI s most ws (k + 1) (out ++ [ws.getD k []]) := by
          refine ⟨by omega, by omega, by rw [List.length_append, List.length_singleton]; omega, ?_⟩
          rw [hdrop k hk, List.filter_cons, if_pos hp, show most.toNat - out.length = most.toNat - (out.length + 1) + 1 by omega, List.take_succ_cons] at h4
          rw [List.length_append, List.length_singleton, List.append_assoc, List.singleton_append]
          exact h4
        refine ⟨(k + 1, out ++ [ws.getD k []]), Ent.auto0 rfl ?_ ?_, hst, by dsimp only; omega⟩ <;> simp only [go_sem, reduceCtorEq, reduceIte, Nat.reduceEqDiff, Nat.reduceLT, Nat.reduceLeDiff, Int.natCast_succ]
      | false =>
        rw [hp] at kp
        rw [hstop k h1 hk hp, List.take_nil, List.append_nil] at h4
        (repeat' first | with_reducible (first | intro _ | refine rc ?_ | refine rl ?_ | refine rh ?_ | refine rt ?_ | refine rf ?_ | refine rs ?_ | refine And.intro ?_ ?_) | omega | simp (maxSteps := 1000000) only [go_sem, simprocAttr, ↓reduceIte, hk', hm, Int.toNat_natCast])
        refine VcCall.k (kp) ?_
        (repeat' first | with_reducible (first | intro _ | refine rc ?_ | refine rl ?_ | refine rh ?_ | refine rt ?_ | refine rf ?_ | refine rs ?_ | refine And.intro ?_ ?_) | omega | simp (maxSteps := 1000000) only [go_sem, simprocAttr, ↓reduceIte, hk', hm, Int.toNat_natCast])
        refine Ret.auto 1 ?_ rfl ?_ <;> simp only [go_sem, reduceCtorEq, reduceIte, Nat.reduceEqDiff, Nat.reduceLT, Nat.reduceLeDiff, Int.natCast_succ, Post, h4]
    · rw [show most.toNat - out.length = 0 by omega, List.take_zero, List.append_nil] at h4
      (repeat' first | with_reducible (first | intro _ | refine rc ?_ | refine rl ?_ | refine rh ?_ | refine rt ?_ | refine rf ?_ | refine rs ?_ | refine And.intro ?_ ?_) | omega | simp (maxSteps := 1000000) only [go_sem, simprocAttr, ↓reduceIte, hk', hm])
      refine Ret.auto 1 ?_ rfl ?_ <;> simp only [go_sem, reduceCtorEq, reduceIte, Nat.reduceEqDiff, Nat.reduceLT, Nat.reduceLeDiff, Int.natCast_succ, Post, h4]
  · have e : k = ws.length := by omega
    subst e
    rw [List.drop_length, List.filter_nil, List.take_nil, List.append_nil] at h4
    (repeat' first | with_reducible (first | intro _ | refine rc ?_ | refine rl ?_ | refine rh ?_ | refine rt ?_ | refine rf ?_ | refine rs ?_ | refine And.intro ?_ ?_) | omega | simp (maxSteps := 1000000) only [go_sem, simprocAttr, ↓reduceIte])
    refine Ret.auto 1 ?_ rfl ?_ <;> simp only [go_sem, reduceCtorEq, reduceIte, Nat.reduceEqDiff, Nat.reduceLT, Nat.reduceLeDiff, Int.natCast_succ, Post, h4]
theorem beg_snoc (s : Bytes) (most : Int) (A : List Bytes) (x : Bytes) : begB s most (A ++ [x]) = if s.isPrefixOf x = true ∧ ((begB s most A).length : Int) < most then begB s most A ++ [x] else begB s most A := by
  unfold begB
  rw [List.filter_append]
  generalize A.filter (fun x => s.isPrefixOf x) = F
  have e1 : (F.take most.toNat).length = min most.toNat F.length := List.length_take
  by_cases hp : s.isPrefixOf x = true
  · rw [List.filter_cons, if_pos hp, List.filter_nil]
    by_cases hm : ((F.take most.toNat).length : Int) < most
    · rw [if_pos ⟨hp, hm⟩, List.take_append, List.take_of_length_le (show F.length ≤ most.toNat by omega), List.take_of_length_le (show [x].length ≤ most.toNat - F.length by simp; omega)]
    · rw [if_neg (fun h => hm h.2), List.take_append, show most.toNat - F.length = 0 by omega, List.take_zero, List.append_nil]
  · rw [List.filter_cons, if_neg hp, List.filter_nil, List.append_nil, if_neg (fun h => hp h.1)]
set_option maxHeartbeats 4000000 in
theorem refBeginD_ok (l : List Wd) (hl : l.length ≤ 100000) (s : Bytes) (most : Int) :
    FnOk Tryd.prog 14 [.cell [.ro (wdR l)], .str s, .int .i64 most] (.own 0) [(0, .row 9 (.strs (begB s most (l.map Wd.t))))] := by
  have hlen : ∀ i, (begB s most ((l.take i).map Wd.t)).length ≤ l.length := fun i => by
    unfold begB
    rw [List.length_take]
    have := List.length_filter_le (fun x => s.isPrefixOf x) ((l.take i).map Wd.t)
    rw [List.length_map, List.length_take] at this
    omega
  refine FnOk.of_vc Tryd.func14 rfl (by decide) (by simp [Tryd.f14]) [.tmp 6] rfl fun w0 T0 _ => ?_
  simp only [Tryd.f14, argEnv]
  (repeat' first | with_reducible (first | intro _ | refine rc ?_ | refine rl ?_ | refine rh ?_ | refine rt ?_ | refine rf ?_ | refine rs ?_ | refine And.intro ?_ ?_) | omega | simp (maxSteps := 1000000) only [go_sem, simprocAttr, ↓reduceIte, List.length_map])
  refine VcLoop.intro (fun i : Nat => ⟨36, [(15, .int .i64 i), (14, .int .i64 l.length), (13, .ro (wdR l)), (7, .own 0), (1, .str s), (2, .int .i64 most)], [(0, .row 9 (.strs (begB s most ((l.take i).map Wd.t))))], 1⟩) (fun i => i ≤ l.length) (fun i => l.length - i) 0 ?_ (Nat.zero_le _) fun i hi => ?_
  · refine Ent.auto0 rfl ?_ ?_ <;> simp only [go_sem, reduceCtorEq, reduceIte, Nat.reduceEqDiff, Nat.reduceLT, Nat.reduceLeDiff, Int.natCast_succ, List.take_zero, List.map_nil, begB, List.filter_nil, List.take_nil]
    all_goals rfl
  by_cases hlt : i < l.length
  · have he := wd_elem l hlt
    have hs : (l.take (i + 1)).map Wd.t = (l.take i).map Wd.t ++ [(l.getD i Wd.zero).t] := by rw [List.take_succ_eq_append_getElem hlt, List.map_append, getD_lt hlt]; rfl
    have hb := beg_snoc s most ((l.take i).map Wd.t) (l.getD i Wd.zero).t
    have hln := hlen i
    rw [← hs] at hb
    generalize l.getD i Wd.zero = y at *
    obtain ⟨yt, yc⟩ := y
    dsimp only at he hb
    have kp := hasPrefix_ok yt s
    generalize begB s most ((l.take i).map Wd.t) = O at *
    cases hp : s.isPrefixOf yt with
    | true =>
      rw [hp] at kp hb
      by_cases hm : (O.length : Int) < most
      · rw [if_pos ⟨rfl, hm⟩] at hb
        (repeat' first | with_reducible (first | intro _ | refine rc ?_ | refine rl ?_ | refine rh ?_ | refine rt ?_ | refine rf ?_ | refine rs ?_ | refine And.intro ?_ ?_) | omega | simp (maxSteps := 1000000) only [go_sem, simprocAttr, ↓reduceIte, elemA, he, List.length_map])
        refine VcCall.k (kp) ?_
        (repeat' first | with_reducible (first | intro _ | refine rc ?_ | refine rl ?_ | refine rh ?_ | refine rt ?_ | refine rf ?_ | refine rs ?_ | refine And.intro ?_ ?_) | omega | simp (maxSteps := 1000000) only [go_sem, simprocAttr, ↓reduceIte, hm, List.length_map])
        refine ⟨i + 1, Ent.auto0 rfl ?_ ?_, by omega, by omega⟩ <;> simp only [go_sem, reduceCtorEq, reduceIte, Nat.reduceEqDiff, Nat.reduceLT, Nat.reduceLeDiff, Int.natCast_succ, hb]
      · rw [if_neg (fun h => hm h.2)] at hb
        (repeat' first | with_reducible (first | intro _ | refine rc ?_ | refine rl ?_ | refine rh ?_ | refine rt ?_ | refine rf ?_ | refine rs ?_ | refine And.intro ?_ ?_) | omega | simp (maxSteps := 1000000) only [go_sem, simprocAttr, ↓reduceIte, elemA, he, List.length_map])
        refine VcCall.k (kp) ?_
        (repeat' first | with_reducible (first | intro _ | refine rc ?_ | refine rl ?_ | refine rh ?_ | refine rt ?_ | refine rf ?_ | refine rs ?_ | refine And.intro ?_ ?_) | omega | simp (maxSteps := 1000000) only [go_sem, simprocAttr, ↓reduceIte, hm, List.length_map])
        refine ⟨i + 1, Ent.auto0 rfl ?_ ?_, by omega, by omega⟩ <;> simp only [go_sem, reduceCtorEq, reduceIte, Nat.reduceEqDiff, Nat.reduceLT, Nat.reduceLeDiff, Int.natCast_succ, hb]
    | false =>
      rw [hp] at kp hb
      rw [if_neg (fun h => by cases h.1)] at hb
      (repeat' first | with_reducible (first | intro _ | refine rc ?_ | refine rl ?_ | refine rh ?_ | refine rt ?_ | refine rf ?_ | refine rs ?_ | refine And.intro ?_ ?_) | omega | simp (maxSteps := 1000000) only [go_sem, simprocAttr, ↓reduceIte, elemA, he, List.length_map])
      refine VcCall.k (kp) ?_
      (repeat' first | with_reducible (first | intro _ | refine rc ?_ | refine rl ?_ | refine rh ?_ | refine rt ?_ | refine rf ?_ | refine rs ?_ | refine And.intro ?_ ?_) | omega | simp (maxSteps := 1000000) only [go_sem, simprocAttr, ↓reduceIte, List.length_map])
      refine ⟨i + 1, Ent.auto0 rfl ?_ ?_, by omega, by omega⟩ <;> simp only [go_sem, reduceCtorEq, reduceIte, Nat.reduceEqDiff, Nat.reduceLT, Nat.reduceLeDiff, Int.natCast_succ, hb]
  · have e : i = l.length := by omega
    subst e
    rw [List.take_length]
    (repeat' first | with_reducible (first | intro _ | refine rc ?_ | refine rl ?_ | refine rh ?_ | refine rt ?_ | refine rf ?_ | refine rs ?_ | refine And.intro ?_ ?_) | omega | simp (maxSteps := 1000000) only [go_sem, simprocAttr, ↓reduceIte, List.length_map])
    refine Ret.auto 1 ?_ rfl ?_ <;> simp only [go_sem, reduceCtorEq, reduceIte, Nat.reduceEqDiff, Nat.reduceLT, Nat.reduceLeDiff, Int.natCast_succ, Post]
end Go.Fv.V

/- strings.Compare, and slices.SortFunc of words, by the shelf. -/
namespace Go.Proofs
open Go.Shelf
def Tryd.lays106_ren : Go.Shelf.Ren := ⟨fun | 106 => 25 | 213 => 48 | 265 => 77 | n => n, fun | 9 => 9 | 3 => 3 | n => n, fun | n => n⟩
theorem Tryd.lays106 : Go.Proofs.Lays.n106 Tryd.prog Tryd.lays106_ren := {
  mixed := by kernel_rfl
  f106 := Tryd.func25.trans (congrArg some (by kernel_rfl))
  f213 := Tryd.func48.trans (congrArg some (by kernel_rfl))
  f265 := Tryd.func77.trans (congrArg some (by kernel_rfl))
  t3 := Tryd.underlying3
  a3 := Tryd.isAgg3
  z3 := Tryd.sizeOf3
  v3 := Tryd.zeroValue3
  t9 := Tryd.underlying9
  a9 := Tryd.isAgg9
  z9 := Tryd.sizeOf9
  v9 := Tryd.zeroValue9 }
end Go.Proofs
namespace Go.Proofs
open Go.Shelf
def Tryd.lSoW_ren : Go.Shelf.Ren := ⟨fun | 6 => 23 | 15 => 47 | 14 => 46 | 28 => 75 | 29 => 76 | 20 => 67 | 21 => 68 | 22 => 69 | 23 => 70 | 24 => 71 | 25 => 72 | 26 => 73 | 27 => 74 | 46 => 95 | 47 => 96 | 48 => 97 | 49 => 98 | 50 => 99 | 57 => 108 | n => n, fun | 22 => 24 | 24 => 30 | 25 => 55 | 3 => 3 | 39 => 79 | 0 => 0 | 53 => 109 | 55 => 111 | 4 => 4 | 46 => 103 | 45 => 102 | 50 => 70 | 5 => 5 | 9 => 9 | 66 => 126 | 70 => 130 | 76 => 137 | 77 => 33 | n => n, fun | n => n⟩
theorem Tryd.lSoW : Go.Proofs.SlLaysF0.n6 Tryd.prog Tryd.lSoW_ren := {
  mixed := by kernel_rfl
  f6 := ⟨Tryd.f23.name, by decide, Tryd.func23.trans (congrArg some (by kernel_rfl))⟩
  f14 := ⟨Tryd.f46.name, by decide, Tryd.func46.trans (congrArg some (by kernel_rfl))⟩
  f15 := Tryd.func47.trans (congrArg some (by kernel_rfl))
  f20 := ⟨Tryd.f67.name, by decide, Tryd.func67.trans (congrArg some (by kernel_rfl))⟩
  f21 := ⟨Tryd.f68.name, by decide, Tryd.func68.trans (congrArg some (by kernel_rfl))⟩
  f22 := ⟨Tryd.f69.name, by decide, Tryd.func69.trans (congrArg some (by kernel_rfl))⟩
  f23 := ⟨Tryd.f70.name, by decide, Tryd.func70.trans (congrArg some (by kernel_rfl))⟩
  f24 := ⟨Tryd.f71.name, by decide, Tryd.func71.trans (congrArg some (by kernel_rfl))⟩
  f25 := ⟨Tryd.f72.name, by decide, Tryd.func72.trans (congrArg some (by kernel_rfl))⟩
  f26 := ⟨Tryd.f73.name, by decide, Tryd.func73.trans (congrArg some (by kernel_rfl))⟩
  f27 := ⟨Tryd.f74.name, by decide, Tryd.func74.trans (congrArg some (by kernel_rfl))⟩
  f28 := Tryd.func75.trans (congrArg some (by kernel_rfl))
  f29 := Tryd.func76.trans (congrArg some (by kernel_rfl))
  f46 := ⟨Tryd.f95.name, by decide, Tryd.func95.trans (congrArg some (by kernel_rfl))⟩
  f47 := Tryd.func96.trans (congrArg some (by kernel_rfl))
  f48 := Tryd.func97.trans (congrArg some (by kernel_rfl))
  f49 := ⟨Tryd.f98.name, by decide, Tryd.func98.trans (congrArg some (by kernel_rfl))⟩
  f50 := ⟨Tryd.f99.name, by decide, Tryd.func99.trans (congrArg some (by kernel_rfl))⟩
  f57 := ⟨Tryd.f108.name, by decide, Tryd.func108.trans (congrArg some (by kernel_rfl))⟩
  t0 := Tryd.underlying0
  a0 := Tryd.isAgg0
  z0 := Tryd.sizeOf0
  v0 := Tryd.zeroValue0
  t3 := Tryd.underlying3
  a3 := Tryd.isAgg3
  z3 := Tryd.sizeOf3
  v3 := Tryd.zeroValue3
  t4 := Tryd.underlying4
  a4 := Tryd.isAgg4
  z4 := Tryd.sizeOf4
  v4 := Tryd.zeroValue4
  t5 := Tryd.underlying5
  a5 := Tryd.isAgg5
  z5 := Tryd.sizeOf5
  v5 := Tryd.zeroValue5
  t9 := Tryd.underlying9
  a9 := Tryd.isAgg9
  z9 := Tryd.sizeOf9
  v9 := Tryd.zeroValue9
  t22 := Tryd.underlying24
  a22 := Tryd.isAgg24
  z22 := Tryd.sizeOf24
  v22 := Tryd.zeroValue24
  t25 := Tryd.underlying55
  a25 := Tryd.isAgg55
  z25 := Tryd.sizeOf55
  v25 := Tryd.zeroValue55
  t39 := Tryd.underlying79
  a39 := Tryd.isAgg79
  z39 := Tryd.sizeOf79
  v39 := Tryd.zeroValue79
  t45 := Tryd.underlying102
  a45 := Tryd.isAgg102
  z45 := Tryd.sizeOf102
  v45 := Tryd.zeroValue102
  t46 := Tryd.underlying103
  a46 := Tryd.isAgg103
  z46 := Tryd.sizeOf103
  v46 := Tryd.zeroValue103
  t50 := Tryd.underlying70
  a50 := Tryd.isAgg70
  z50 := Tryd.sizeOf70
  v50 := Tryd.zeroValue70
  t53 := Tryd.underlying109
  a53 := Tryd.isAgg109
  z53 := Tryd.sizeOf109
  v53 := Tryd.zeroValue109
  t55 := Tryd.underlying111
  a55 := Tryd.isAgg111
  z55 := Tryd.sizeOf111
  v55 := Tryd.zeroValue111
  t66 := Tryd.underlying126
  a66 := Tryd.isAgg126
  z66 := Tryd.sizeOf126
  v66 := Tryd.zeroValue126
  t70 := Tryd.underlying130
  a70 := Tryd.isAgg130
  z70 := Tryd.sizeOf130
  v70 := Tryd.zeroValue130
  t76 := Tryd.underlying137
  a76 := Tryd.isAgg137
  z76 := Tryd.sizeOf137
  v76 := Tryd.zeroValue137
  t77 := Tryd.underlying33
  a77 := Tryd.isAgg33
  z77 := Tryd.sizeOf33
  v77 := Tryd.zeroValue33 }
end Go.Proofs
namespace Go.Fv.V
open Go Go.Proofs
set_option linter.unusedSimpArgs false
set_option linter.unusedVariables false
set_option linter.unnecessarySimpa false
set_option maxRecDepth 8000

theorem compareS_ok (s t : List UInt8) : FnOk Tryd.prog 25 [.str s, .str t] (.int .i64 (Lib.compareBytes s t)) [] := by
  refine ⟨⟨_, Tryd.func25, by kernel_rfl, by kernel_rfl⟩, fun w T vals hg hv => ?_⟩
  cases hv with
  | cons _ _ _ _ h1 hv => cases hv with
    | cons _ _ _ _ h2 hv =>
      cases hv
      cases h1 with
      | str _ e1 => cases h2 with
        | str _ e2 =>
          have L := Tryd.lays106
          refine (Any.strings_Compare { L with } ⟨s.toArray⟩ ⟨t.toArray⟩ w).mono ?_
          rintro e w' ⟨rfl, rfl⟩
          refine ⟨_, rfl, BelowD.refl _ _, fun _ => undef, 0, ?_, ?_, ?_⟩
          · have h1 := cmp_bd s t
            have e1 : IntKind.i64.min = -9223372036854775808 := by decide
            have e2 : IntKind.i64.max = 9223372036854775807 := by decide
            exact .int .i64 _ ⟨by rw [e1]; omega, by rw [e2]; omega⟩
          · intro i it h; cases h
          · intro i j it jt b h; cases h
theorem learn1_ok (x y : Wd) : FnOk Tryd.prog 24 [.agg x.av, .agg y.av] (.int .i64 (cfW x y)) [] := by
  have k := compareS_ok x.t y.t
  unfold Wd.av cfW
  refine FnOk.of_vc Tryd.func24 rfl (by decide) (by simp [Tryd.f24]) [.tmp 4] rfl fun w0 T0 _ => ?_
  simp only [Tryd.f24, argEnv]
  (repeat' first | with_reducible (first | intro _ | refine rc ?_ | refine rl ?_ | refine rh ?_ | refine rt ?_ | refine rf ?_ | refine rs ?_ | refine And.intro ?_ ?_) | omega | simp (maxSteps := 1000000) only [go_sem, simprocAttr, ↓reduceIte])
  refine VcCall.k (k) ?_
  (repeat' first | with_reducible (first | intro _ | refine rc ?_ | refine rl ?_ | refine rh ?_ | refine rt ?_ | refine rf ?_ | refine rs ?_ | refine And.intro ?_ ?_) | omega | simp (maxSteps := 1000000) only [go_sem, simprocAttr, ↓reduceIte])
  refine Ret.auto 0 ?_ rfl ?_ <;> simp only [go_sem, reduceCtorEq, reduceIte, Nat.reduceEqDiff, Nat.reduceLT, Nat.reduceLeDiff, Int.natCast_succ, Post]
theorem refDict1_ok (x y : Wd) : FnOk Tryd.prog 37 [.agg x.av, .agg y.av] (.int .i64 (cfW x y)) [] := by
  have k := compareS_ok x.t y.t
  unfold Wd.av cfW
  refine FnOk.of_vc Tryd.func37 rfl (by decide) (by simp [Tryd.f37]) [.tmp 4] rfl fun w0 T0 _ => ?_
  simp only [Tryd.f37, argEnv]
  (repeat' first | with_reducible (first | intro _ | refine rc ?_ | refine rl ?_ | refine rh ?_ | refine rt ?_ | refine rf ?_ | refine rs ?_ | refine And.intro ?_ ?_) | omega | simp (maxSteps := 1000000) only [go_sem, simprocAttr, ↓reduceIte])
  refine VcCall.k (k) ?_
  (repeat' first | with_reducible (first | intro _ | refine rc ?_ | refine rl ?_ | refine rh ?_ | refine rt ?_ | refine rf ?_ | refine rs ?_ | refine And.intro ?_ ?_) | omega | simp (maxSteps := 1000000) only [go_sem, simprocAttr, ↓reduceIte])
  refine Ret.auto 0 ?_ rfl ?_ <;> simp only [go_sem, reduceCtorEq, reduceIte, Nat.reduceEqDiff, Nat.reduceLT, Nat.reduceLeDiff, Int.natCast_succ, Post]
theorem sortWd_io (F : Nat) (kF : ∀ x y, FnFr Tryd.prog F [.agg (Wd.av x), .agg (Wd.av y)] (.int .i64 (cfW x y)) []) (l : List Wd) (hl : ∀ x, x ∈ l → WdOk x) (hn : (l.map Wd.t).Nodup) (hln : l.length ≤ 1000000000) :
    FnIO Tryd.prog 23 [.own 0, .fn F []] [(0, .row 30 (wdR l))] 1 (.tup []) [(0, .row 30 (wdR (sortW l)))] := by
  obtain ⟨l', hp, hs, kS⟩ := sortFK_io Wd.av 2 (fun _ => rfl) (by decide) Tryd.lSoW ⟨_, Tryd.func23, by kernel_rfl, by kernel_rfl⟩ Tryd.isAgg30 Tryd.sizeOf30 30 (good := WdOk)
    cfW_ord F [] rfl (fun x y _ _ => kF x y) l hl (fun x hx y hy => by
      unfold WdOk at hx
      unfold Wd.av at hy
      rcases List.mem_cons.1 hy with rfl | hy
      · show x.t.length ≤ maxLen
        have : maxLen = 9223372036854775807 := rfl
        omega
      · rw [List.mem_singleton] at hy; subst hy; exact InK_i64.2 (by omega)) (by omega)
  rw [sortW_eq hp hs hn] at kS
  exact kS
end Go.Fv.V

/- The reference's DictError and NewDict. -/
namespace Go.Fv.V
open Go Go.Proofs
set_option linter.unusedSimpArgs false
set_option linter.unusedVariables false
set_option linter.unnecessarySimpa false
set_option maxRecDepth 8000

def sKs (l : List Wd) : List AV := (l.map Wd.t).map .str
def sVs (l : List Wd) : List AV := (l.map Wd.t).map fun _ => .bool true
theorem updKs_s {l : List Wd} {w : Wd} (h : w.t ∉ l.map Wd.t) : updKs (sKs l) (.str w.t) = sKs (l ++ [w]) := updKs_d h
theorem updVs_s {l : List Wd} {w : Wd} (h : w.t ∉ l.map Wd.t) : updVs (sKs l) (sVs l) (.str w.t) (.bool true) = sVs (l ++ [w]) := by
  unfold updVs sKs sVs
  rw [keyIdx_strs, ixOf_none.2 h]
  simp
theorem getB_s (l : List Wd) (x : Bytes) : getB (sKs l) (sVs l) (.str x) = decide (x ∈ l.map Wd.t) := by
  unfold getB getV sKs sVs
  rw [keyIdx_strs]
  cases h : ixOf (l.map Wd.t) x with
  | none => simp [ixOf_none.1 h]
  | some j =>
    have hj := ixOf_some h
    have hm := List.mem_of_getElem? hj
    obtain ⟨a1, a2⟩ := List.getElem?_eq_some_iff.1 hj
    rw [decide_eq_true hm]
    simp only [Option.bind_some, List.getElem?_map, List.getElem?_map]
    rw [List.getElem?_eq_getElem (by simpa using a1)]
    rfl
theorem isB_s (l : List Wd) : (sVs l).all isB = true := by simp [sVs, isB]
theorem ren_sKs (p : Nat → Nat) (l : List Wd) : renL p (sKs l) = sKs l := renL_kmap p (fun _ => rfl) _
theorem ren_sVs (p : Nat → Nat) (l : List Wd) : renL p (sVs l) = sVs l := renL_kmap p (fun _ => rfl) _
theorem below_sKs (n : Nat) (l : List Wd) : belowL n (sKs l) = true := belowL_kmap n (fun _ => rfl) _
theorem below_sVs (n : Nat) (l : List Wd) : belowL n (sVs l) = true := belowL_kmap n (fun _ => rfl) _
theorem mk_sKs (l : List Wd) (y : List AV) : mkL (sKs l) y = [] := mkL_kmap (fun _ => rfl) _ _
theorem mk_sVs (l : List Wd) (y : List AV) : mkL (sVs l) y = [] := mkL_kmap (fun _ => rfl) _ _
theorem keysT_s {P : Program} {kt : TypeId} (h : P.underlying kt = some .string) (l : List Wd) : KeysT P kt (sKs l) := KeysT_map (fun n => KeyT.str h n) _
theorem wdEs_take (l : List Wd) {i : Nat} (h : i < l.length) : wdEs ((l.take i).map Wd.t) (l.drop i) = if wdE ((l.take i).map Wd.t) (l.getD i Wd.zero) = 0 then wdEs ((l.take (i + 1)).map Wd.t) (l.drop (i + 1)) else wdE ((l.take i).map Wd.t) (l.getD i Wd.zero) := by
  rw [wdEs_drop l h]
  rw [show (l.take (i + 1)).map Wd.t = (l.take i).map Wd.t ++ [(l.getD i Wd.zero).t] by rw [List.take_succ_eq_append_getElem h, List.map_append, getD_lt h]; rfl]
set_option maxHeartbeats 4000000 in
theorem refDictError_ok (l : List Wd) : FnOk Tryd.prog 12 [.ro (wdR l)] (.int .i64 (dictErr l)) [] := by
  unfold dictErr
  refine FnOk.of_vc Tryd.func12 rfl (by decide) (by simp [Tryd.f12]) [.tmp 2] rfl fun w0 T0 _ => ?_
  simp only [Tryd.f12, argEnv]
  by_cases h0 : 5000 < l.length
  · (repeat' first | with_reducible (first | intro _ | refine rc ?_ | refine rl ?_ | refine rh ?_ | refine rt ?_ | refine rf ?_ | refine rs ?_ | refine And.intro ?_ ?_) | omega | simp (maxSteps := 1000000) only [go_sem, simprocAttr, ↓reduceIte, List.length_map])
    refine Ret.auto 0 ?_ rfl ?_ <;> simp only [go_sem, reduceCtorEq, reduceIte, Nat.reduceEqDiff, Nat.reduceLT, Nat.reduceLeDiff, Int.natCast_succ, Post, h0]
  rw [if_neg h0]
  (repeat' first | with_reducible (first | intro _ | refine rc ?_ | refine rl ?_ | refine rh ?_ | refine rt ?_ | refine rf ?_ | refine rs ?_ | refine And.intro ?_ ?_) | omega | simp (maxSteps := 1000000) only [go_sem, simprocAttr, ↓reduceIte, List.length_map])
  refine VcLoop.intro (fun i : Nat => ⟨39, [(12, .int .i64 i), (11, .int .i64 l.length), (10, .ro (wdR l)), (3, .own 0)], [(0, .map (sKs (l.take i)) (sVs (l.take i)))], 1⟩) (fun i => i ≤ l.length ∧ wdEs ((l.take i).map Wd.t) (l.drop i) = wdEs [] l) (fun i => l.length - i) 0 ?_ ⟨Nat.zero_le _, rfl⟩ fun i hi => ?_
  · refine Ent.auto0 rfl ?_ ?_ <;> simp only [go_sem, reduceCtorEq, reduceIte, Nat.reduceEqDiff, Nat.reduceLT, Nat.reduceLeDiff, Int.natCast_succ, List.take_zero, ren_sKs, ren_sVs, below_sKs, below_sVs, mk_sKs, mk_sVs]
    all_goals rfl
  obtain ⟨hi, hc⟩ := hi
  by_cases hlt : i < l.length
  · have he := wd_elem l hlt
    rw [wdEs_take l hlt] at hc
    have ht : l.take (i + 1) = l.take i ++ [l.getD i Wd.zero] := by rw [List.take_succ_eq_append_getElem hlt, getD_lt hlt]
    generalize l.getD i Wd.zero = y at *
    have e1 := getB_s (l.take i) y.t
    have e2 := fun h => @updKs_s (l.take i) y h
    have e3 := fun h => @updVs_s (l.take i) y h
    have e4 := isB_s (l.take i)
    have e5 : KeysT Tryd.prog 9 (sKs (l.take i)) := keysT_s (by kernel_rfl) _
    rw [← ht] at e2 e3
    generalize hL1 : l.take (i + 1) = L1 at *
    generalize l.take i = L0 at *
    have kw := refIsWordA_ok y.t
    unfold wdE at hc
    obtain ⟨yt, yc⟩ := y
    dsimp only at he hc e1 e2 e3 kw
    cases hw : isWd yt with
    | false =>
      rw [hw] at kw
      rw [if_neg (by rw [if_pos hw]; decide), if_pos hw] at hc
      (repeat' first | with_reducible (first | intro _ | refine rc ?_ | refine rl ?_ | refine rh ?_ | refine rt ?_ | refine rf ?_ | refine rs ?_ | refine And.intro ?_ ?_) | omega | simp (maxSteps := 1000000) only [go_sem, simprocAttr, ↓reduceIte, elemA, he, List.length_map])
      refine VcCall.k (kw) ?_
      (repeat' first | with_reducible (first | intro _ | refine rc ?_ | refine rl ?_ | refine rh ?_ | refine rt ?_ | refine rf ?_ | refine rs ?_ | refine And.intro ?_ ?_) | omega | simp (maxSteps := 1000000) only [go_sem, simprocAttr, ↓reduceIte])
      refine Ret.auto 0 ?_ rfl ?_ <;> simp only [go_sem, reduceCtorEq, reduceIte, Nat.reduceEqDiff, Nat.reduceLT, Nat.reduceLeDiff, Int.natCast_succ, Post, ← hc]
    | true =>
      rw [hw] at kw
      rw [if_neg (show ¬ isWd yt = false by rw [hw]; decide)] at hc
      by_cases hr : yc < 1 ∨ 1000000000 < yc
      · rw [if_neg (by rw [if_pos hr]; decide), if_pos hr] at hc
        (repeat' first | with_reducible (first | intro _ | refine rc ?_ | refine rl ?_ | refine rh ?_ | refine rt ?_ | refine rf ?_ | refine rs ?_ | refine And.intro ?_ ?_) | omega | simp (maxSteps := 1000000) only [go_sem, simprocAttr, ↓reduceIte, elemA, he, List.length_map])
        refine VcCall.k (kw) ?_
        (repeat' first | with_reducible (first | intro _ | refine rc ?_ | refine rl ?_ | refine rh ?_ | refine rt ?_ | refine rf ?_ | refine rs ?_ | refine And.intro ?_ ?_) | omega | simp (maxSteps := 1000000) only [go_sem, simprocAttr, ↓reduceIte, hr])
        refine Ret.auto 0 ?_ rfl ?_ <;> simp only [go_sem, reduceCtorEq, reduceIte, Nat.reduceEqDiff, Nat.reduceLT, Nat.reduceLeDiff, Int.natCast_succ, Post, ← hc]
      · rw [if_neg hr] at hc
        by_cases hm : yt ∈ L0.map Wd.t
        · rw [decide_eq_true hm] at e1
          rw [if_neg (by rw [if_pos hm]; decide), if_pos hm] at hc
          (repeat' first | with_reducible (first | intro _ | refine rc ?_ | refine rl ?_ | refine rh ?_ | refine rt ?_ | refine rf ?_ | refine rs ?_ | refine And.intro ?_ ?_) | omega | simp (maxSteps := 1000000) only [go_sem, simprocAttr, ↓reduceIte, elemA, he, List.length_map])
          refine VcCall.k (kw) ?_
          (repeat' first | with_reducible (first | intro _ | refine rc ?_ | refine rl ?_ | refine rh ?_ | refine rt ?_ | refine rf ?_ | refine rs ?_ | refine And.intro ?_ ?_) | omega | simp (maxSteps := 1000000) only [go_sem, simprocAttr, ↓reduceIte, hr, e1, e4, e5])
          refine Ret.auto 0 ?_ rfl ?_ <;> simp only [go_sem, reduceCtorEq, reduceIte, Nat.reduceEqDiff, Nat.reduceLT, Nat.reduceLeDiff, Int.natCast_succ, Post, ← hc]
        · rw [decide_eq_false hm] at e1
          rw [if_pos (by rw [if_neg hm])] at hc
          have e2 := e2 hm
          have e3 := e3 hm
          (repeat' first | with_reducible (first | intro _ | refine rc ?_ | refine rl ?_ | refine rh ?_ | refine rt ?_ | refine rf ?_ | refine rs ?_ | refine And.intro ?_ ?_) | omega | simp (maxSteps := 1000000) only [go_sem, simprocAttr, ↓reduceIte, elemA, he, List.length_map])
          refine VcCall.k (kw) ?_
          (repeat' first | with_reducible (first | intro _ | refine rc ?_ | refine rl ?_ | refine rh ?_ | refine rt ?_ | refine rf ?_ | refine rs ?_ | refine And.intro ?_ ?_) | omega | simp (maxSteps := 1000000) only [go_sem, simprocAttr, ↓reduceIte, hr, e1, e2, e3, e4, e5])
          refine ⟨i + 1, Ent.auto0 rfl ?_ ?_, ⟨by omega, by rw [hL1]; exact hc⟩, by omega⟩ <;> simp only [go_sem, reduceCtorEq, reduceIte, Nat.reduceEqDiff, Nat.reduceLT, Nat.reduceLeDiff, Int.natCast_succ, hL1, ren_sKs, ren_sVs, below_sKs, below_sVs, mk_sKs, mk_sVs]
  · have e : i = l.length := by omega
    subst e
    rw [List.drop_length] at hc
    (repeat' first | with_reducible (first | intro _ | refine rc ?_ | refine rl ?_ | refine rh ?_ | refine rt ?_ | refine rf ?_ | refine rs ?_ | refine And.intro ?_ ?_) | omega | simp (maxSteps := 1000000) only [go_sem, simprocAttr, ↓reduceIte, List.length_map])
    refine Ret.auto 0 ?_ rfl ?_ <;> simp only [go_sem, reduceCtorEq, reduceIte, Nat.reduceEqDiff, Nat.reduceLT, Nat.reduceLeDiff, Int.natCast_succ, Post, ← hc, wdEs]
end Go.Fv.V

/- NewDict, and the reference's. -/
namespace Go.Proofs
open Go.Shelf
def Tryd.lSoS_ren : Go.Shelf.Ren := ⟨fun | 6 => 34 | 8 => 47 | 9 => 55 | 19 => 75 | 20 => 76 | 21 => 78 | 22 => 79 | 23 => 80 | 24 => 81 | 25 => 82 | 26 => 83 | 27 => 57 | 28 => 84 | 29 => 85 | 36 => 100 | 31 => 96 | 32 => 97 | 37 => 101 | 38 => 102 | 39 => 86 | 41 => 109 | n => n, fun | 27 => 22 | 29 => 9 | 3 => 3 | 32 => 79 | 26 => 22 | 0 => 0 | 44 => 109 | 46 => 111 | 4 => 4 | 36 => 103 | 35 => 102 | 41 => 70 | 5 => 5 | 9 => 9 | 53 => 126 | 57 => 130 | 63 => 137 | 64 => 33 | n => n, fun | n => n⟩
theorem Tryd.lSoS : Go.Proofs.SlLaysM.n6 Tryd.prog Tryd.lSoS_ren := {
  mixed := by kernel_rfl
  f6 := ⟨Tryd.f34.name, by decide, Tryd.func34.trans (congrArg some (by kernel_rfl))⟩
  f8 := Tryd.func47.trans (congrArg some (by kernel_rfl))
  f9 := ⟨Tryd.f55.name, by decide, Tryd.func55.trans (congrArg some (by kernel_rfl))⟩
  f19 := Tryd.func75.trans (congrArg some (by kernel_rfl))
  f20 := Tryd.func76.trans (congrArg some (by kernel_rfl))
  f21 := ⟨Tryd.f78.name, by decide, Tryd.func78.trans (congrArg some (by kernel_rfl))⟩
  f22 := ⟨Tryd.f79.name, by decide, Tryd.func79.trans (congrArg some (by kernel_rfl))⟩
  f23 := ⟨Tryd.f80.name, by decide, Tryd.func80.trans (congrArg some (by kernel_rfl))⟩
  f24 := ⟨Tryd.f81.name, by decide, Tryd.func81.trans (congrArg some (by kernel_rfl))⟩
  f25 := ⟨Tryd.f82.name, by decide, Tryd.func82.trans (congrArg some (by kernel_rfl))⟩
  f26 := ⟨Tryd.f83.name, by decide, Tryd.func83.trans (congrArg some (by kernel_rfl))⟩
  f27 := ⟨Tryd.f57.name, by decide, Tryd.func57.trans (congrArg some (by kernel_rfl))⟩
  f28 := ⟨Tryd.f84.name, by decide, Tryd.func84.trans (congrArg some (by kernel_rfl))⟩
  f29 := ⟨Tryd.f85.name, by decide, Tryd.func85.trans (congrArg some (by kernel_rfl))⟩
  f31 := Tryd.func96.trans (congrArg some (by kernel_rfl))
  f32 := Tryd.func97.trans (congrArg some (by kernel_rfl))
  f36 := ⟨Tryd.f100.name, by decide, Tryd.func100.trans (congrArg some (by kernel_rfl))⟩
  f37 := ⟨Tryd.f101.name, by decide, Tryd.func101.trans (congrArg some (by kernel_rfl))⟩
  f38 := ⟨Tryd.f102.name, by decide, Tryd.func102.trans (congrArg some (by kernel_rfl))⟩
  f39 := ⟨Tryd.f86.name, by decide, Tryd.func86.trans (congrArg some (by kernel_rfl))⟩
  f41 := ⟨Tryd.f109.name, by decide, Tryd.func109.trans (congrArg some (by kernel_rfl))⟩
  t0 := Tryd.underlying0
  a0 := Tryd.isAgg0
  z0 := Tryd.sizeOf0
  v0 := Tryd.zeroValue0
  t3 := Tryd.underlying3
  a3 := Tryd.isAgg3
  z3 := Tryd.sizeOf3
  v3 := Tryd.zeroValue3
  t4 := Tryd.underlying4
  a4 := Tryd.isAgg4
  z4 := Tryd.sizeOf4
  v4 := Tryd.zeroValue4
  t5 := Tryd.underlying5
  a5 := Tryd.isAgg5
  z5 := Tryd.sizeOf5
  v5 := Tryd.zeroValue5
  t9 := Tryd.underlying9
  a9 := Tryd.isAgg9
  z9 := Tryd.sizeOf9
  v9 := Tryd.zeroValue9
  t26 := Tryd.underlying22
  a26 := Tryd.isAgg22
  z26 := Tryd.sizeOf22
  v26 := Tryd.zeroValue22
  t27 := Tryd.underlying22
  a27 := Tryd.isAgg22
  z27 := Tryd.sizeOf22
  v27 := Tryd.zeroValue22
  t29 := Tryd.underlying9
  a29 := Tryd.isAgg9
  z29 := Tryd.sizeOf9
  v29 := Tryd.zeroValue9
  t32 := Tryd.underlying79
  a32 := Tryd.isAgg79
  z32 := Tryd.sizeOf79
  v32 := Tryd.zeroValue79
  t35 := Tryd.underlying102
  a35 := Tryd.isAgg102
  z35 := Tryd.sizeOf102
  v35 := Tryd.zeroValue102
  t36 := Tryd.underlying103
  a36 := Tryd.isAgg103
  z36 := Tryd.sizeOf103
  v36 := Tryd.zeroValue103
  t41 := Tryd.underlying70
  a41 := Tryd.isAgg70
  z41 := Tryd.sizeOf70
  v41 := Tryd.zeroValue70
  t44 := Tryd.underlying109
  a44 := Tryd.isAgg109
  z44 := Tryd.sizeOf109
  v44 := Tryd.zeroValue109
  t46 := Tryd.underlying111
  a46 := Tryd.isAgg111
  z46 := Tryd.sizeOf111
  v46 := Tryd.zeroValue111
  t53 := Tryd.underlying126
  a53 := Tryd.isAgg126
  z53 := Tryd.sizeOf126
  v53 := Tryd.zeroValue126
  t57 := Tryd.underlying130
  a57 := Tryd.isAgg130
  z57 := Tryd.sizeOf130
  v57 := Tryd.zeroValue130
  t63 := Tryd.underlying137
  a63 := Tryd.isAgg137
  z63 := Tryd.sizeOf137
  v63 := Tryd.zeroValue137
  t64 := Tryd.underlying33
  a64 := Tryd.isAgg33
  z64 := Tryd.sizeOf33
  v64 := Tryd.zeroValue33 }
end Go.Proofs
namespace Go.Fv.V
open Go Go.Proofs
set_option linter.unusedSimpArgs false
set_option linter.unusedVariables false
set_option linter.unnecessarySimpa false
set_option maxRecDepth 8000

theorem covD1 {a : Item} : ∀ j, j < 1 → ∃ it, lk [(0, a)] j = some it := fun j hj => by
  obtain rfl : j = 0 := by omega
  exact ⟨_, rfl⟩
theorem cloneWd_ok (l : List Wd) (hl : l.length ≤ 100000) : FnOk Tryd.prog 36 [.ro (wdR l)] (.own 0) [(0, .row 30 (wdR l))] := by
  refine FnOk.of_vc Tryd.func36 rfl (by decide) (by simp [Tryd.f36]) [.tmp 2] rfl fun w0 T0 _ => ?_
  simp only [Tryd.f36, argEnv]
  (repeat' first | with_reducible (first | intro _ | refine rc ?_ | refine rl ?_ | refine rh ?_ | refine rt ?_ | refine rf ?_ | refine rs ?_ | refine And.intro ?_ ?_) | omega | simp (maxSteps := 1000000) only [go_sem, simprocAttr, ↓reduceIte, List.length_map])
  · rename_i h
    have : l = [] := List.eq_nil_of_length_eq_zero (by simpa using h)
    refine Ret.auto 1 ?_ rfl ?_ <;> simp only [go_sem, reduceCtorEq, reduceIte, Nat.reduceEqDiff, Nat.reduceLT, Nat.reduceLeDiff, Int.natCast_succ, Post, this, zrow, List.replicate_zero]
  · refine Ret.auto 1 ?_ rfl ?_ <;> simp only [go_sem, reduceCtorEq, reduceIte, Nat.reduceEqDiff, Nat.reduceLT, Nat.reduceLeDiff, Int.natCast_succ, Post, zrow, List.replicate_zero]
theorem isWd_len {s : Bytes} (h : isWd s = true) : s.length ≤ 40 := by
  unfold isWd at h
  simp only [Bool.and_eq_true, decide_eq_true_eq] at h
  exact h.1.1.1.2
set_option maxHeartbeats 4000000 in
theorem refNewDict_ok (l : List Wd) (hg : GoodD l) : FnOk Tryd.prog 13 [.ro (wdR l)] (.cell [.ro (wdR (sortW l))]) [] := by
  have hln := hg.len
  have kC := cloneWd_ok l (by omega)
  have kS := sortWd_io 37 (fun x y => FnFr.of_ok (refDict1_ok x y) rfl rfl) l (fun x hx => by
    obtain ⟨h1, h2⟩ := hg.wd x hx
    have := isWd_len h1
    unfold WdOk
    omega) hg.nd (by omega)
  generalize sortW l = R at *
  refine FnOk.of_vc Tryd.func13 rfl (by decide) (by simp [Tryd.f13]) [.tmp 2] rfl fun w0 T0 _ => ?_
  simp only [Tryd.f13, argEnv]
  (repeat' first | with_reducible (first | intro _ | refine rc ?_ | refine rl ?_ | refine rh ?_ | refine rt ?_ | refine rf ?_ | refine rs ?_ | refine And.intro ?_ ?_) | omega | simp (maxSteps := 1000000) only [go_sem, simprocAttr, ↓reduceIte])
  refine VcCall.fr (FnFr.of_ok kC rfl (by simp [noRoRows, noRoItem, noRoRow, noRoL, noRo, Wd.av])) (by simp only [noIdR_ok, argOkL, argOk, allOk, argOkN, List.drop_zero, lk, reduceIte, reduceCtorEq, Nat.reduceEqDiff, Option.some.injEq, Item.row.injEq, Item.box.injEq, AV.ro.injEq, exists_eq_left, exists_and_left, exists_eq_left', exists_eq_right, and_assoc, and_true, true_and, List.cons.injEq, exists_eq', exists_eq]) 1 rfl (by simp [rowsB, Item.below, belowR_ok]) ?_
  (repeat' first | with_reducible (first | intro _ | refine rc ?_ | refine rl ?_ | refine rh ?_ | refine rt ?_ | refine rf ?_ | refine rs ?_ | refine And.intro ?_ ?_) | omega | simp (maxSteps := 1000000) only [go_sem, simprocAttr, ↓reduceIte, renR_ok])
  refine VcCall.ioL [0] kS rfl (by simp [noRoRows, noRoItem, noRoRow, noRoL, noRo, Wd.av]) (by decide) ⟨_, _, .inl ⟨rfl, rfl⟩, ⟨_, _, .inr (by simp only [noIdR_ok, argOkL, argOk, allOk, argOkN, List.drop_zero, lk, reduceIte, reduceCtorEq, Nat.reduceEqDiff, Option.some.injEq, Item.row.injEq, Item.box.injEq, AV.ro.injEq, exists_eq_left, exists_and_left, exists_eq_left', exists_eq_right, and_assoc, and_true, true_and, List.cons.injEq, exists_eq', exists_eq, delL, del]), rfl, rfl⟩, rfl⟩ (by simp [subOk, ioN, lk, Item.ren, Item.below, renR_ok, belowR_ok]) covD1 1 (by decide) rfl (by simp [rowsB, Item.below, belowR, belowL, Fv.below, Wd.av]) ?_
  (repeat' first | with_reducible (first | intro _ | refine rc ?_ | refine rl ?_ | refine rh ?_ | refine rt ?_ | refine rf ?_ | refine rs ?_ | refine And.intro ?_ ?_) | omega | simp (maxSteps := 1000000) only [go_sem, simprocAttr, ↓reduceIte, S.ioS, ioRows, ioN, delL, Item.ren, renR_ok, noIdR_ok, List.length_cons, List.length_nil, List.length_map, Int.cast_ofNat_Int, List.getElem?_cons_zero, List.getElem?_cons_succ, List.cons_append, List.nil_append, Nat.reduceAdd, Nat.sub_self, Nat.add_zero, List.filter])
  refine Ret.ro ?_
  simp only [go_sem, reduceCtorEq, reduceIte, Nat.reduceEqDiff, Nat.reduceLT, Nat.reduceLeDiff, Int.natCast_succ, outOk, argOk, argOkN, allOk, noIdR_ok]
  exact ⟨_, _, [.ro (wdR R)], ⟨rfl, rfl⟩, ⟨_, _, argOkN_row (e := 30) rfl (noIdR_ok _), rfl, rfl⟩, rfl⟩
theorem ren_dKs (p : Nat → Nat) (l : List Wd) : renL p (dKs l) = dKs l := renL_kmap p (fun _ => rfl) _
theorem ren_dVs (p : Nat → Nat) (l : List Wd) : renL p (dVs l) = dVs l := renL_kmap p (fun _ => rfl) _
theorem below_dKs (n : Nat) (l : List Wd) : belowL n (dKs l) = true := belowL_kmap n (fun _ => rfl) _
theorem below_dVs (n : Nat) (l : List Wd) : belowL n (dVs l) = true := belowL_kmap n (fun _ => rfl) _
theorem mk_dKs (l : List Wd) (y : List AV) : mkL (dKs l) y = [] := mkL_kmap (fun _ => rfl) _ _
theorem mk_dVs (l : List Wd) (y : List AV) : mkL (dVs l) y = [] := mkL_kmap (fun _ => rfl) _ _
theorem ok_dKs (rows : List (Nat × Item)) (n : Nat) (l : List Wd) : allOk (argOkN rows (n + 1)) (dKs l) (dKs l) := allOk_get rfl fun j h1 h2 => by simp [dKs, argOkN]
theorem ok_dVs (rows : List (Nat × Item)) (n : Nat) (l : List Wd) : allOk (argOkN rows (n + 1)) (dVs l) (dVs l) := allOk_get rfl fun j h1 h2 => by simp [dVs, argOkN]
set_option maxHeartbeats 8000000 in
theorem newDict_any (l : List Wd) (E : Int) (hE : dictErr l = E) (out : AV) (hout0 : E = 0 → out = .cell [.mp (dKs l) (dVs l), .ro (.strs (wsD l))]) (hout1 : E ≠ 0 → out = .raw (.pointer none)) : FnOk Tryd.prog 11 [.ro (wdR l)] (.tup [out, .int .i64 E]) [] := by
  refine FnOk.of_vc Tryd.func11 rfl (by decide) (by simp [Tryd.f11]) [.tmp 2, .tmp 3] rfl fun w0 T0 _ => ?_
  simp only [Tryd.f11, argEnv]
  unfold dictErr at hE
  by_cases h0 : 5000 < l.length
  · rw [if_pos h0] at hE
    subst hE
    rw [hout1 (by decide)]
    (repeat' first | with_reducible (first | intro _ | refine rc ?_ | refine rl ?_ | refine rh ?_ | refine rt ?_ | refine rf ?_ | refine rs ?_ | refine And.intro ?_ ?_) | omega | simp (maxSteps := 1000000) only [go_sem, simprocAttr, ↓reduceIte, List.length_map])
    refine Ret.auto 0 ?_ rfl ?_ <;> simp only [go_sem, reduceCtorEq, reduceIte, Nat.reduceEqDiff, Nat.reduceLT, Nat.reduceLeDiff, Int.natCast_succ, Post]
  rw [if_neg h0] at hE
  (repeat' first | with_reducible (first | intro _ | refine rc ?_ | refine rl ?_ | refine rh ?_ | refine rt ?_ | refine rf ?_ | refine rs ?_ | refine And.intro ?_ ?_) | omega | simp (maxSteps := 1000000) only [go_sem, simprocAttr, ↓reduceIte, List.length_map])
  refine VcLoop.intro (fun i : Nat => ⟨64, [(15, .int .i64 i), (14, .int .i64 l.length), (13, .ro (wdR l)), (4, .ptr 1 0)], [(0, .map (dKs (l.take i)) (dVs (l.take i))), (1, .box 63 [.own 0, .own 2]), (2, .row 9 (.strs ((l.take i).map Wd.t)))], 3⟩) (fun i => i ≤ l.length ∧ (∀ w, w ∈ l.take i → 1 ≤ w.c) ∧ wdEs ((l.take i).map Wd.t) (l.drop i) = E) (fun i => l.length - i) 0 ?_ ⟨Nat.zero_le _, fun w hw => (by cases hw), hE⟩ fun i hi => ?_
  · refine Ent.trans (Ent.nilBox (P := Tryd.prog) 1 1 9 e9 rfl rfl) (Ent.auto0 rfl ?_ ?_) <;> simp only [go_sem, reduceCtorEq, reduceIte, Nat.reduceEqDiff, Nat.reduceLT, Nat.reduceLeDiff, Int.natCast_succ, List.take_zero, List.map_nil, zrow, put, List.set_cons_zero, List.set_cons_succ, List.replicate_zero, ren_dKs, ren_dVs, below_dKs, below_dVs, mk_dKs, mk_dVs]
    all_goals rfl
  obtain ⟨hi, hall, hc⟩ := hi
  by_cases hlt : i < l.length
  · have he := wd_elem l hlt
    rw [wdEs_take l hlt] at hc
    have ht : l.take (i + 1) = l.take i ++ [l.getD i Wd.zero] := by rw [List.take_succ_eq_append_getElem hlt, getD_lt hlt]
    have hnm : (l.getD i Wd.zero).t ∉ (l.take i).map Wd.t → cntD (l.take i) (l.getD i Wd.zero).t = 0 := cntD_none
    generalize l.getD i Wd.zero = y at *
    have e2 := fun h => @updKs_d (l.take i) y h
    have e3 := fun h => @updVs_d (l.take i) y h
    have e4 := isI_d (l.take i)
    have e5 : KeysT Tryd.prog 9 (dKs (l.take i)) := keysT_d (by kernel_rfl) _
    have hL0 : (l.take i).length ≤ 5000 := by rw [List.length_take]; omega
    rw [← ht] at e2 e3
    have ht2 : (l.take (i + 1)).map Wd.t = (l.take i).map Wd.t ++ [y.t] := by rw [ht, List.map_append]; rfl
    generalize hL1 : l.take (i + 1) = L1 at *
    have kh := hasD_ok (l.take i) ((l.take i).map Wd.t) y.t
    have hpos : y.t ∈ (l.take i).map Wd.t → (∀ w, w ∈ l.take i → 1 ≤ w.c) → 0 < cntD (l.take i) y.t := fun hm hall => by
      have key : ∀ L : List Wd, y.t ∈ L.map Wd.t → (∀ w, w ∈ L → 1 ≤ w.c) → 0 < cntD L y.t := by
        intro L
        induction L with
        | nil => intro h _; cases h
        | cons v L ih =>
          intro h hall
          rw [cntD_cons]
          have hv := hall v List.mem_cons_self
          by_cases hvt : v.t = y.t
          · rw [if_pos hvt]; omega
          · rw [if_neg hvt]
            rcases List.mem_cons.1 h with h | h
            · exact absurd h.symm hvt
            · exact ih h fun w hw => hall w (List.mem_cons_of_mem _ hw)
      exact key _ hm hall
    generalize l.take i = L0 at *
    have kw := isWordA_ok y.t
    unfold wdE at hc
    obtain ⟨yt, yc⟩ := y
    dsimp only at he hc e2 e3 kw kh hnm hpos ht2
    cases hw : isWd yt with
    | false =>
      rw [hw] at kw
      rw [if_neg (by rw [if_pos hw]; decide), if_pos hw] at hc
      subst hc
      rw [hout1 (by decide)]
      (repeat' first | with_reducible (first | intro _ | refine rc ?_ | refine rl ?_ | refine rh ?_ | refine rt ?_ | refine rf ?_ | refine rs ?_ | refine And.intro ?_ ?_) | omega | simp (maxSteps := 1000000) only [go_sem, simprocAttr, ↓reduceIte, elemA, he, List.length_map])
      refine VcCall.k (kw) ?_
      (repeat' first | with_reducible (first | intro _ | refine rc ?_ | refine rl ?_ | refine rh ?_ | refine rt ?_ | refine rf ?_ | refine rs ?_ | refine And.intro ?_ ?_) | omega | simp (maxSteps := 1000000) only [go_sem, simprocAttr, ↓reduceIte])
      refine Ret.auto 0 ?_ rfl ?_ <;> simp only [go_sem, reduceCtorEq, reduceIte, Nat.reduceEqDiff, Nat.reduceLT, Nat.reduceLeDiff, Int.natCast_succ, Post]
    | true =>
      rw [hw] at kw
      rw [if_neg (show ¬ isWd yt = false by rw [hw]; decide)] at hc
      by_cases hr : yc < 1 ∨ 1000000000 < yc
      · rw [if_neg (by rw [if_pos hr]; decide), if_pos hr] at hc
        subst hc
        rw [hout1 (by decide)]
        (repeat' first | with_reducible (first | intro _ | refine rc ?_ | refine rl ?_ | refine rh ?_ | refine rt ?_ | refine rf ?_ | refine rs ?_ | refine And.intro ?_ ?_) | omega | simp (maxSteps := 1000000) only [go_sem, simprocAttr, ↓reduceIte, elemA, he, List.length_map])
        refine VcCall.k (kw) ?_
        (repeat' first | with_reducible (first | intro _ | refine rc ?_ | refine rl ?_ | refine rh ?_ | refine rt ?_ | refine rf ?_ | refine rs ?_ | refine And.intro ?_ ?_) | omega | simp (maxSteps := 1000000) only [go_sem, simprocAttr, ↓reduceIte, hr])
        refine Ret.auto 0 ?_ rfl ?_ <;> simp only [go_sem, reduceCtorEq, reduceIte, Nat.reduceEqDiff, Nat.reduceLT, Nat.reduceLeDiff, Int.natCast_succ, Post]
      · rw [if_neg hr] at hc
        by_cases hm : yt ∈ L0.map Wd.t
        · rw [decide_eq_true (hpos hm hall)] at kh
          rw [if_neg (by rw [if_pos hm]; decide), if_pos hm] at hc
          subst hc
          rw [hout1 (by decide)]
          (repeat' first | with_reducible (first | intro _ | refine rc ?_ | refine rl ?_ | refine rh ?_ | refine rt ?_ | refine rf ?_ | refine rs ?_ | refine And.intro ?_ ?_) | omega | simp (maxSteps := 1000000) only [go_sem, simprocAttr, ↓reduceIte, elemA, he, List.length_map])
          refine VcCall.k (kw) ?_
          (repeat' first | with_reducible (first | intro _ | refine rc ?_ | refine rl ?_ | refine rh ?_ | refine rt ?_ | refine rf ?_ | refine rs ?_ | refine And.intro ?_ ?_) | omega | simp (maxSteps := 1000000) only [go_sem, simprocAttr, ↓reduceIte, hr])
          refine VcCall.fr (FnFr.of_ok kh rfl rfl) ?_ 0 rfl (by simp [rowsB]) ?_
          · exact ⟨_, _, ⟨_, _, [.mp (dKs L0) (dVs L0), .ro (.strs (L0.map Wd.t))], rfl, ⟨_, _, argOkN_map rfl (ok_dKs _ _ _) (ok_dVs _ _ _), ⟨_, _, argOkN_row (e := 9) rfl (noIdR_ok _), rfl, rfl⟩, rfl⟩, rfl⟩, ⟨_, _, rfl, rfl, rfl⟩, rfl⟩
          (repeat' first | with_reducible (first | intro _ | refine rc ?_ | refine rl ?_ | refine rh ?_ | refine rt ?_ | refine rf ?_ | refine rs ?_ | refine And.intro ?_ ?_) | omega | simp (maxSteps := 1000000) only [go_sem, simprocAttr, ↓reduceIte])
          refine Ret.auto 0 ?_ rfl ?_ <;> simp only [go_sem, reduceCtorEq, reduceIte, Nat.reduceEqDiff, Nat.reduceLT, Nat.reduceLeDiff, Int.natCast_succ, Post]
        · rw [hnm hm, decide_eq_false (by omega)] at kh
          rw [if_pos (by rw [if_neg hm])] at hc
          have e2 := e2 hm
          have e3 := e3 hm
          (repeat' first | with_reducible (first | intro _ | refine rc ?_ | refine rl ?_ | refine rh ?_ | refine rt ?_ | refine rf ?_ | refine rs ?_ | refine And.intro ?_ ?_) | omega | simp (maxSteps := 1000000) only [go_sem, simprocAttr, ↓reduceIte, elemA, he, List.length_map])
          refine VcCall.k (kw) ?_
          (repeat' first | with_reducible (first | intro _ | refine rc ?_ | refine rl ?_ | refine rh ?_ | refine rt ?_ | refine rf ?_ | refine rs ?_ | refine And.intro ?_ ?_) | omega | simp (maxSteps := 1000000) only [go_sem, simprocAttr, ↓reduceIte, hr])
          refine VcCall.fr (FnFr.of_ok kh rfl rfl) ?_ 0 rfl (by simp [rowsB]) ?_
          · exact ⟨_, _, ⟨_, _, [.mp (dKs L0) (dVs L0), .ro (.strs (L0.map Wd.t))], rfl, ⟨_, _, argOkN_map rfl (ok_dKs _ _ _) (ok_dVs _ _ _), ⟨_, _, argOkN_row (e := 9) rfl (noIdR_ok _), rfl, rfl⟩, rfl⟩, rfl⟩, ⟨_, _, rfl, rfl, rfl⟩, rfl⟩
          (repeat' first | with_reducible (first | intro _ | refine rc ?_ | refine rl ?_ | refine rh ?_ | refine rt ?_ | refine rf ?_ | refine rs ?_ | refine And.intro ?_ ?_) | omega | simp (maxSteps := 1000000) only [go_sem, simprocAttr, ↓reduceIte])
          refine VcDraw.lex [8] [] (by kernel_rfl) (by kernel_rfl) ?_
          (repeat' first | with_reducible (first | intro _ | refine rc ?_ | refine rl ?_ | refine rh ?_ | refine rt ?_ | refine rf ?_ | refine rs ?_ | refine And.intro ?_ ?_) | omega | simp (maxSteps := 1000000) only [go_sem, simprocAttr, ↓reduceIte, e2, e3, e4, e5])
          refine VcDraw.lex [7, 8, 11] [(0, [1, 2]), (1, [1]), (2, [1]), (3, [1]), (4, [1])] (by kernel_rfl) (by kernel_rfl) ?_
          (repeat' first | with_reducible (first | intro _ | refine rc ?_ | refine rl ?_ | refine rh ?_ | refine rt ?_ | refine rf ?_ | refine rs ?_ | refine And.intro ?_ ?_) | omega | simp (maxSteps := 1000000) only [go_sem, simprocAttr, ↓reduceIte, List.length_map])
          refine ⟨i + 1, Ent.auto0 rfl ?_ ?_, ⟨by omega, fun w hw => ?_, by rw [hL1]; exact hc⟩, by omega⟩
          · simp only [go_sem, reduceCtorEq, reduceIte, Nat.reduceEqDiff, Nat.reduceLT, Nat.reduceLeDiff, Int.natCast_succ, hL1, ht2, ren_dKs, ren_dVs, below_dKs, below_dVs, mk_dKs, mk_dVs]
          · simp only [go_sem, reduceCtorEq, reduceIte, Nat.reduceEqDiff, Nat.reduceLT, Nat.reduceLeDiff, Int.natCast_succ, hL1, ht2, ren_dKs, ren_dVs, below_dKs, below_dVs, mk_dKs, mk_dVs]
          · rw [hL1, ht] at hw
            rcases List.mem_append.1 hw with hw | hw
            · exact hall w hw
            · rw [List.mem_singleton.1 hw]; dsimp only; omega
  · have e : i = l.length := by omega
    subst e
    rw [List.drop_length] at hc
    rw [List.take_length]
    subst hc
    rw [hout0 rfl]
    have kS := sortStrs_io Tryd.lSoS ⟨_, Tryd.func34, by kernel_rfl, by kernel_rfl⟩ 9 (l.map Wd.t) (by rw [List.length_map]; omega)
    rw [show sortS (l.map Wd.t) = wsD l from rfl] at kS
    generalize wsD l = ws at *
    (repeat' first | with_reducible (first | intro _ | refine rc ?_ | refine rl ?_ | refine rh ?_ | refine rt ?_ | refine rf ?_ | refine rs ?_ | refine And.intro ?_ ?_) | omega | simp (maxSteps := 1000000) only [go_sem, simprocAttr, ↓reduceIte, List.length_map])
    refine VcCall.ioL [2] kS rfl rfl (by decide) ⟨.own 0, [], .inl ⟨rfl, rfl⟩, rfl, rfl⟩ (by simp [subOk, ioN, lk, Item.ren, Item.below, renR_ok, belowR_ok]) covD1 1 (by decide) rfl (by simp [rowsB, Item.below, belowR, belowL, Fv.below]) ?_
    (repeat' first | with_reducible (first | intro _ | refine rc ?_ | refine rl ?_ | refine rh ?_ | refine rt ?_ | refine rf ?_ | refine rs ?_ | refine And.intro ?_ ?_) | omega | simp (maxSteps := 1000000) only [go_sem, simprocAttr, ↓reduceIte, S.ioS, ioRows, ioN, delL, Item.ren, renR_ok, noIdR_ok, ren_dKs, ren_dVs, List.length_cons, List.length_nil, List.length_map, Int.cast_ofNat_Int, List.getElem?_cons_zero, List.getElem?_cons_succ, List.cons_append, List.nil_append, Nat.reduceAdd, Nat.sub_self, Nat.add_zero, List.filter])
    refine Ret.ro ?_
    simp only [go_sem, reduceCtorEq, reduceIte, Nat.reduceEqDiff, Nat.reduceLT, Nat.reduceLeDiff, Int.natCast_succ, outOk, argOk, argOkN, allOk, noIdR_ok, wdEs]
    exact ⟨_, ⟨_, _, ⟨_, _, [.mp (dKs l) (dVs l), .ro (.strs ws)], rfl, ⟨_, _, argOkN_map rfl (ok_dKs _ _ _) (ok_dVs _ _ _), ⟨_, _, argOkN_row (e := 9) rfl (noIdR_ok _), rfl, rfl⟩, rfl⟩, rfl⟩, ⟨_, _, rfl, rfl, rfl⟩, rfl⟩, rfl⟩
end Go.Fv.V
