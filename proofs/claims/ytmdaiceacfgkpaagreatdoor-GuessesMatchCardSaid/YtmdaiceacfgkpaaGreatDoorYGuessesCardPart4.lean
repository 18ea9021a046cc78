/-
  A part of the proof of the claim: walks over the program's functions and the plain laws that these need. No condition of its own.
-/
import Derived.Test.YtmdaiceacfgkpaaGreatDoorYGuessesCardPart3
import Derived.Test.YtmdaiceacfgkpaaGreatDoorYGuessesCardPart1
import Derived.Shelf.Small.Strs
import Derived.Test.YtmdaiceacfgkpaaGreatDoorYGuessesCardPart2
import Derived.Test.YtmdaiceacfgkpaaGreatDoorFvPart10
import Derived.Test.YtmdaiceacfgkpaaGreatDoorFvPart9
/- slices.SortStableFunc of fewer than forty guesses. -/
namespace Go.Fv.Y
open Go Go.Proofs
set_option linter.unusedSimpArgs false
set_option linter.unusedVariables false
set_option linter.unnecessarySimpa false
set_option maxRecDepth 8000

theorem sortG_parts {A B : List Gs} : sortG (sortG A ++ sortG B) = sortG (A ++ B) :=
  sortG_eq ((sortG_perm _).trans ((sortG_perm A).append (sortG_perm B))) (sortG_le _)
theorem stab_parts {A B : List Gs} (h : Stab (A ++ B)) : Stab (sortG A ++ sortG B) := by
  obtain ⟨h1, h2, h3⟩ := List.pairwise_append.1 h
  exact List.pairwise_append.2 ⟨stab_sort h1, stab_sort h2, fun x hx y hy => h3 x ((sortG_perm A).mem_iff.1 hx) y ((sortG_perm B).mem_iff.1 hy)⟩
set_option maxHeartbeats 16000000 in
theorem stableCmp_io (F : Nat) (hF : CmpG F) (l : List Gs) (n : Nat) (hn : l.length = n) (h40 : n < 40) (hS : Stab l) :
    FnIO Tryz.prog 116 [.own 0, .int .i64 n, .fn F []] [(0, .row 41 (gsR l))] 1 (.tup []) [(0, .row 41 (gsR (sortG l)))] := by
  refine FnIO.of_vc Tryz.func116 rfl (by decide) (by simp [Tryz.f116]) covG1 [] rfl fun w0 T0 _ => ?_
  simp only [Tryz.f116, argEnv]
  rcases Nat.lt_or_ge n 20 with h20 | h20
  · have k := insertion_io F hF [] l [] 0 n rfl (by simp [hn]) hS (by simp; omega)
    simp only [List.nil_append, List.append_nil] at k
    (repeat' first | with_reducible (first | intro _ | refine rc ?_ | refine rl ?_ | refine rh ?_ | refine rt ?_ | refine rf ?_ | refine rs ?_ | refine And.intro ?_ ?_) | omega | simp (maxSteps := 1000000) only [go_sem, simprocAttr, ↓reduceIte])
    refine VcLoop.intro (fun i : Nat => ⟨63, [(0, .own 0), (1, .int .i64 n), (2, .fn F []), (6, .int .i64 20), (7, .int .i64 0), (8, .int .i64 20)], [(0, .row 41 (gsR l))], 1⟩) (fun i => True) (fun i => i) 0 ?_ trivial fun i hi => ?_
    · refine Ent.autoK 1 rfl (Nat.le_refl 1) ?_ ?_ <;> simp only [go_sem, reduceCtorEq, reduceIte, Nat.reduceEqDiff, Nat.reduceLT, Nat.reduceLeDiff, Int.natCast_succ, fromL, gsR]
    have hc : ¬ (20 : Int) ≤ (n : Int) := by omega
    (repeat' first | with_reducible (first | intro _ | refine rc ?_ | refine rl ?_ | refine rh ?_ | refine rt ?_ | refine rf ?_ | refine rs ?_ | refine And.intro ?_ ?_) | omega | simp (maxSteps := 1000000) only [go_sem, simprocAttr, ↓reduceIte, hc])
    refine VcCall.io [0] k (by decide) (by simp [renL, ren, ioN]) rfl (by simp [subOk, ioN, lk, Item.ren, Item.below, gsR, renR_ok, belowR_ok]) covG1 1 (by decide) rfl (by simp [rowsB, Item.below, gsR, belowR_ok]) ?_
    (repeat' first | with_reducible (first | intro _ | refine rc ?_ | refine rl ?_ | refine rh ?_ | refine rt ?_ | refine rf ?_ | refine rs ?_ | refine And.intro ?_ ?_) | omega | simp (maxSteps := 1000000) only [go_sem, simprocAttr, ↓reduceIte, S.ioS, ioRows, ioN, delL, Item.ren, gsR, renR_ok, List.length_cons, List.length_nil, List.getElem?_cons_zero, List.getElem?_cons_succ, List.getElem?_nil, List.cons_append, List.nil_append, Nat.reduceAdd, Nat.sub_self, Nat.add_zero, List.filter])
    refine VcLoop.intro (fun i : Nat => ⟨63, [(0, .own 0), (1, .int .i64 n), (2, .fn F []), (6, .int .i64 20)], [(0, .row 41 (gsR (sortG l)))], 1⟩) (fun i => True) (fun i => i) 0 ?_ trivial fun i hi => ?_
    · refine Ent.autoK 1 rfl (Nat.le_refl 1) ?_ ?_ <;> simp only [go_sem, reduceCtorEq, reduceIte, Nat.reduceEqDiff, Nat.reduceLT, Nat.reduceLeDiff, Int.natCast_succ, fromL, gsR]
    have hc : ¬ (20 : Int) < (n : Int) := by omega
    (repeat' first | with_reducible (first | intro _ | refine rc ?_ | refine rl ?_ | refine rh ?_ | refine rt ?_ | refine rf ?_ | refine rs ?_ | refine And.intro ?_ ?_) | omega | simp (maxSteps := 1000000) only [go_sem, simprocAttr, ↓reduceIte, hc])
    refine RetK.auto 1 (Nat.le_refl 1) ?_ rfl ?_ <;> simp only [go_sem, reduceCtorEq, reduceIte, Nat.reduceEqDiff, Nat.reduceLT, Nat.reduceLeDiff, Int.natCast_succ, fromL, gsR]
  have hAB := List.take_append_drop 20 l
  have hAl : (l.take 20).length = 20 := by rw [List.length_take]; omega
  have hBl : (l.drop 20).length = n - 20 := by rw [List.length_drop]; omega
  rw [← hAB] at hS ⊢
  generalize l.take 20 = A at *
  generalize l.drop 20 = B at *
  have sA : Stab A := (List.pairwise_append.1 hS).1
  have sB : Stab B := (List.pairwise_append.1 hS).2.1
  have k1 := insertion_io F hF [] A B 0 20 rfl (by simp [hAl]) sA (by simp; omega)
  have lA : (sortG A).length = 20 := by rw [sortG_len]; exact hAl
  have k2 := insertion_io F hF (sortG A) B [] 20 n (by omega) (by omega) sB (by simp; omega)
  have k3 : 20 < n → FnIO Tryz.prog 156 [.own 0, .int .i64 (0 : Nat), .int .i64 (20 : Nat), .int .i64 n, .fn F []] [(0, .row 41 (gsR (sortG A ++ sortG B)))] 1 (.tup []) [(0, .row 41 (gsR (sortG (A ++ B))))] := fun h => by
    have k := symMerge_io F hF 40 [] (sortG A) (sortG B) [] 0 20 n rfl (by simp; omega) (by simp [lA, sortG_len]; omega) (by omega) (by rw [sortG_len]; omega) (by rw [lA, sortG_len]; omega) (sortG_srt _) (sortG_srt _) (stab_parts hS) (by rw [lA, sortG_len]; simp; omega)
    simp only [List.nil_append, List.append_nil] at k
    rw [sortG_parts] at k
    exact k
  have e0 : ¬ 20 < n → sortG A ++ sortG B = sortG (A ++ B) := fun h => by
    have : B = [] := List.eq_nil_of_length_eq_zero (by omega)
    subst this
    rw [List.append_nil]
    have : sortG [] = [] := List.eq_nil_of_length_eq_zero (by rw [sortG_len]; rfl)
    rw [this, List.append_nil]
  simp only [List.nil_append, List.append_nil, Int.cast_ofNat_Int] at k1 k2 k3
  generalize sortG (A ++ B) = R at *
  generalize sortG A = SA at *
  generalize sortG B = SB at *
  have c0 : (20 : Int) ≤ (n : Int) := by omega
  have c1 : ¬ (40 : Int) ≤ (n : Int) := by omega
  (repeat' first | with_reducible (first | intro _ | refine rc ?_ | refine rl ?_ | refine rh ?_ | refine rt ?_ | refine rf ?_ | refine rs ?_ | refine And.intro ?_ ?_) | omega | simp (maxSteps := 1000000) only [go_sem, simprocAttr, ↓reduceIte])
  refine VcLoop.intro (fun k : Bool => ⟨63, [(0, .own 0), (1, .int .i64 n), (2, .fn F []), (6, .int .i64 20), (7, .int .i64 (bif k then 20 else 0)), (8, .int .i64 (bif k then 40 else 20))], [(0, .row 41 (gsR (bif k then SA ++ B else A ++ B)))], 1⟩) (fun k => True) (fun k => bif k then 0 else 1) false ?_ trivial fun k hk => ?_
  · refine Ent.autoK 1 rfl (Nat.le_refl 1) ?_ ?_ <;> simp only [go_sem, reduceCtorEq, reduceIte, Nat.reduceEqDiff, Nat.reduceLT, Nat.reduceLeDiff, Int.natCast_succ, fromL, gsR, cond_true, cond_false]
  cases k with
  | false =>
    simp only [cond_false]
    (repeat' first | with_reducible (first | intro _ | refine rc ?_ | refine rl ?_ | refine rh ?_ | refine rt ?_ | refine rf ?_ | refine rs ?_ | refine And.intro ?_ ?_) | omega | simp (maxSteps := 1000000) only [go_sem, simprocAttr, ↓reduceIte, c0])
    refine VcCall.io [0] k1 (by decide) (by simp [renL, ren, ioN]) rfl (by simp [subOk, ioN, lk, Item.ren, Item.below, gsR, renR_ok, belowR_ok]) covG1 1 (by decide) rfl (by simp [rowsB, Item.below, gsR, belowR_ok]) ?_
    (repeat' first | with_reducible (first | intro _ | refine rc ?_ | refine rl ?_ | refine rh ?_ | refine rt ?_ | refine rf ?_ | refine rs ?_ | refine And.intro ?_ ?_) | omega | simp (maxSteps := 1000000) only [go_sem, simprocAttr, ↓reduceIte, S.ioS, ioRows, ioN, delL, Item.ren, gsR, renR_ok, List.length_cons, List.length_nil, List.getElem?_cons_zero, List.getElem?_cons_succ, List.getElem?_nil, List.cons_append, List.nil_append, Nat.reduceAdd, Nat.sub_self, Nat.add_zero, List.filter])
    refine ⟨true, Ent.autoK 1 rfl (Nat.le_refl 1) ?_ ?_, by decide⟩ <;> simp only [go_sem, reduceCtorEq, reduceIte, Nat.reduceEqDiff, Nat.reduceLT, Nat.reduceLeDiff, Int.natCast_succ, fromL, gsR, cond_true, cond_false]
  | true =>
    simp only [cond_true]
    (repeat' first | with_reducible (first | intro _ | refine rc ?_ | refine rl ?_ | refine rh ?_ | refine rt ?_ | refine rf ?_ | refine rs ?_ | refine And.intro ?_ ?_) | omega | simp (maxSteps := 1000000) only [go_sem, simprocAttr, ↓reduceIte, c1])
    refine VcCall.io [0] k2 (by decide) (by simp [renL, ren, ioN]) rfl (by simp [subOk, ioN, lk, Item.ren, Item.below, gsR, renR_ok, belowR_ok]) covG1 1 (by decide) rfl (by simp [rowsB, Item.below, gsR, belowR_ok]) ?_
    (repeat' first | with_reducible (first | intro _ | refine rc ?_ | refine rl ?_ | refine rh ?_ | refine rt ?_ | refine rf ?_ | refine rs ?_ | refine And.intro ?_ ?_) | omega | simp (maxSteps := 1000000) only [go_sem, simprocAttr, ↓reduceIte, S.ioS, ioRows, ioN, delL, Item.ren, gsR, renR_ok, List.length_cons, List.length_nil, List.getElem?_cons_zero, List.getElem?_cons_succ, List.getElem?_nil, List.cons_append, List.nil_append, Nat.reduceAdd, Nat.sub_self, Nat.add_zero, List.filter])
    refine VcLoop.intro (fun k : Bool => ⟨63, [(0, .own 0), (1, .int .i64 n), (2, .fn F []), (6, .int .i64 (bif k then 40 else 20))], [(0, .row 41 (gsR (bif k then R else SA ++ SB)))], 1⟩) (fun k => k = true → 20 < n) (fun k => bif k then 0 else 1) false ?_ (fun h => absurd h (by decide)) fun k hk => ?_
    · refine Ent.autoK 1 rfl (Nat.le_refl 1) ?_ ?_ <;> simp only [go_sem, reduceCtorEq, reduceIte, Nat.reduceEqDiff, Nat.reduceLT, Nat.reduceLeDiff, Int.natCast_succ, fromL, gsR, cond_true, cond_false]
    cases k with
    | true =>
      simp only [cond_true]
      have c2 : ¬ (40 : Int) < (n : Int) := by omega
      (repeat' first | with_reducible (first | intro _ | refine rc ?_ | refine rl ?_ | refine rh ?_ | refine rt ?_ | refine rf ?_ | refine rs ?_ | refine And.intro ?_ ?_) | omega | simp (maxSteps := 1000000) only [go_sem, simprocAttr, ↓reduceIte, c2])
      refine RetK.auto 1 (Nat.le_refl 1) ?_ rfl ?_ <;> simp only [go_sem, reduceCtorEq, reduceIte, Nat.reduceEqDiff, Nat.reduceLT, Nat.reduceLeDiff, Int.natCast_succ, fromL, gsR]
    | false =>
      simp only [cond_false]
      by_cases hlt : 20 < n
      · have k3 := k3 hlt
        have c2 : (20 : Int) < (n : Int) := by omega
        (repeat' first | with_reducible (first | intro _ | refine rc ?_ | refine rl ?_ | refine rh ?_ | refine rt ?_ | refine rf ?_ | refine rs ?_ | refine And.intro ?_ ?_) | omega | simp (maxSteps := 1000000) only [go_sem, simprocAttr, ↓reduceIte, c2])
        refine VcLoop.intro (fun i : Nat => ⟨63, [(0, .own 0), (1, .int .i64 n), (2, .fn F []), (6, .int .i64 20), (7, .int .i64 0), (8, .int .i64 40)], [(0, .row 41 (gsR (SA ++ SB)))], 1⟩) (fun i => True) (fun i => i) 0 ?_ trivial fun i hi => ?_
        · refine Ent.autoK 1 rfl (Nat.le_refl 1) ?_ ?_ <;> simp only [go_sem, reduceCtorEq, reduceIte, Nat.reduceEqDiff, Nat.reduceLT, Nat.reduceLeDiff, Int.natCast_succ, fromL, gsR]
        (repeat' first | with_reducible (first | intro _ | refine rc ?_ | refine rl ?_ | refine rh ?_ | refine rt ?_ | refine rf ?_ | refine rs ?_ | refine And.intro ?_ ?_) | omega | simp (maxSteps := 1000000) only [go_sem, simprocAttr, ↓reduceIte, c1, c2])
        refine VcCall.io [0] k3 (by decide) (by simp [renL, ren, ioN]) rfl (by simp [subOk, ioN, lk, Item.ren, Item.below, gsR, renR_ok, belowR_ok]) covG1 1 (by decide) rfl (by simp [rowsB, Item.below, gsR, belowR_ok]) ?_
        (repeat' first | with_reducible (first | intro _ | refine rc ?_ | refine rl ?_ | refine rh ?_ | refine rt ?_ | refine rf ?_ | refine rs ?_ | refine And.intro ?_ ?_) | omega | simp (maxSteps := 1000000) only [go_sem, simprocAttr, ↓reduceIte, S.ioS, ioRows, ioN, delL, Item.ren, gsR, renR_ok, List.length_cons, List.length_nil, List.getElem?_cons_zero, List.getElem?_cons_succ, List.getElem?_nil, List.cons_append, List.nil_append, Nat.reduceAdd, Nat.sub_self, Nat.add_zero, List.filter])
        refine ⟨true, Ent.autoK 1 rfl (Nat.le_refl 1) ?_ ?_, fun _ => hlt, by decide⟩ <;> simp only [go_sem, reduceCtorEq, reduceIte, Nat.reduceEqDiff, Nat.reduceLT, Nat.reduceLeDiff, Int.natCast_succ, fromL, gsR, cond_true, cond_false]
      · have c2 : ¬ (20 : Int) < (n : Int) := by omega
        rw [e0 hlt]
        (repeat' first | with_reducible (first | intro _ | refine rc ?_ | refine rl ?_ | refine rh ?_ | refine rt ?_ | refine rf ?_ | refine rs ?_ | refine And.intro ?_ ?_) | omega | simp (maxSteps := 1000000) only [go_sem, simprocAttr, ↓reduceIte, c2])
        refine RetK.auto 1 (Nat.le_refl 1) ?_ rfl ?_ <;> simp only [go_sem, reduceCtorEq, reduceIte, Nat.reduceEqDiff, Nat.reduceLT, Nat.reduceLeDiff, Int.natCast_succ, fromL, gsR]
theorem sortStable_io (F : Nat) (hF : CmpG F) (l : List Gs) (h40 : l.length < 40) (hS : Stab l) :
    FnIO Tryz.prog 90 [.own 0, .fn F []] [(0, .row 41 (gsR l))] 1 (.tup []) [(0, .row 41 (gsR (sortG l)))] := by
  have k := stableCmp_io F hF l _ rfl h40 hS
  refine FnIO.of_vc Tryz.func90 rfl (by decide) (by simp [Tryz.f90]) covG1 [] rfl fun w0 T0 _ => ?_
  simp only [Tryz.f90, argEnv]
  (repeat' first | with_reducible (first | intro _ | refine rc ?_ | refine rl ?_ | refine rh ?_ | refine rt ?_ | refine rf ?_ | refine rs ?_ | refine And.intro ?_ ?_) | omega | simp (maxSteps := 1000000) only [go_sem, simprocAttr, ↓reduceIte, gsR, List.length_map])
  refine VcCall.io [0] k (by decide) (by simp [renL, ren, ioN]) rfl (by simp [subOk, ioN, lk, Item.ren, Item.below, gsR, renR_ok, belowR_ok]) covG1 1 (by decide) rfl (by simp [rowsB, Item.below, gsR, belowR_ok]) ?_
  (repeat' first | with_reducible (first | intro _ | refine rc ?_ | refine rl ?_ | refine rh ?_ | refine rt ?_ | refine rf ?_ | refine rs ?_ | refine And.intro ?_ ?_) | omega | simp (maxSteps := 1000000) only [go_sem, simprocAttr, ↓reduceIte, S.ioS, ioRows, ioN, delL, Item.ren, gsR, renR_ok, List.length_cons, List.length_nil, List.getElem?_cons_zero, List.getElem?_cons_succ, List.getElem?_nil, List.cons_append, List.nil_append, Nat.reduceAdd, Nat.sub_self, Nat.add_zero, List.filter])
  refine RetK.auto 1 (Nat.le_refl 1) ?_ rfl ?_ <;> simp only [go_sem, reduceCtorEq, reduceIte, Nat.reduceEqDiff, Nat.reduceLT, Nat.reduceLeDiff, Int.natCast_succ, fromL, gsR]
end Go.Fv.Y

/- strings.Compare, and slices.SortFunc of words, by the shelf. -/
namespace Go.Proofs
open Go.Shelf
def Tryz.lays106_ren : Go.Shelf.Ren := ⟨fun | 106 => 57 | 213 => 96 | 265 => 128 | n => n, fun | 9 => 9 | 3 => 3 | n => n, fun | n => n⟩
theorem Tryz.lays106 : Go.Proofs.Lays.n106 Tryz.prog Tryz.lays106_ren := {
  mixed := by kernel_rfl
  f106 := Tryz.func57.trans (congrArg some (by kernel_rfl))
  f213 := Tryz.func96.trans (congrArg some (by kernel_rfl))
  f265 := Tryz.func128.trans (congrArg some (by kernel_rfl))
  t3 := Tryz.underlying3
  a3 := Tryz.isAgg3
  z3 := Tryz.sizeOf3
  v3 := Tryz.zeroValue3
  t9 := Tryz.underlying9
  a9 := Tryz.isAgg9
  z9 := Tryz.sizeOf9
  v9 := Tryz.zeroValue9 }
end Go.Proofs
namespace Go.Proofs
open Go.Shelf
def Tryz.lSoW_ren : Go.Shelf.Ren := ⟨fun | 6 => 86 | 15 => 95 | 14 => 114 | 28 => 126 | 29 => 127 | 20 => 147 | 21 => 148 | 22 => 149 | 23 => 150 | 24 => 151 | 25 => 152 | 26 => 153 | 27 => 154 | 46 => 170 | 47 => 158 | 48 => 159 | 49 => 171 | 50 => 172 | 57 => 176 | n => n, fun | 22 => 23 | 24 => 56 | 25 => 128 | 3 => 3 | 39 => 145 | 0 => 0 | 53 => 165 | 55 => 167 | 4 => 4 | 46 => 158 | 45 => 157 | 50 => 162 | 5 => 5 | 9 => 9 | 66 => 187 | 70 => 191 | 76 => 199 | 77 => 200 | n => n, fun | n => n⟩
theorem Tryz.lSoW : Go.Proofs.SlLaysF0.n6 Tryz.prog Tryz.lSoW_ren := {
  mixed := by kernel_rfl
  f6 := ⟨Tryz.f86.name, by decide, Tryz.func86.trans (congrArg some (by kernel_rfl))⟩
  f14 := ⟨Tryz.f114.name, by decide, Tryz.func114.trans (congrArg some (by kernel_rfl))⟩
  f15 := Tryz.func95.trans (congrArg some (by kernel_rfl))
  f20 := ⟨Tryz.f147.name, by decide, Tryz.func147.trans (congrArg some (by kernel_rfl))⟩
  f21 := ⟨Tryz.f148.name, by decide, Tryz.func148.trans (congrArg some (by kernel_rfl))⟩
  f22 := ⟨Tryz.f149.name, by decide, Tryz.func149.trans (congrArg some (by kernel_rfl))⟩
  f23 := ⟨Tryz.f150.name, by decide, Tryz.func150.trans (congrArg some (by kernel_rfl))⟩
  f24 := ⟨Tryz.f151.name, by decide, Tryz.func151.trans (congrArg some (by kernel_rfl))⟩
  f25 := ⟨Tryz.f152.name, by decide, Tryz.func152.trans (congrArg some (by kernel_rfl))⟩
  f26 := ⟨Tryz.f153.name, by decide, Tryz.func153.trans (congrArg some (by kernel_rfl))⟩
  f27 := ⟨Tryz.f154.name, by decide, Tryz.func154.trans (congrArg some (by kernel_rfl))⟩
  f28 := Tryz.func126.trans (congrArg some (by kernel_rfl))
  f29 := Tryz.func127.trans (congrArg some (by kernel_rfl))
  f46 := ⟨Tryz.f170.name, by decide, Tryz.func170.trans (congrArg some (by kernel_rfl))⟩
  f47 := Tryz.func158.trans (congrArg some (by kernel_rfl))
  f48 := Tryz.func159.trans (congrArg some (by kernel_rfl))
  f49 := ⟨Tryz.f171.name, by decide, Tryz.func171.trans (congrArg some (by kernel_rfl))⟩
  f50 := ⟨Tryz.f172.name, by decide, Tryz.func172.trans (congrArg some (by kernel_rfl))⟩
  f57 := ⟨Tryz.f176.name, by decide, Tryz.func176.trans (congrArg some (by kernel_rfl))⟩
  t0 := Tryz.underlying0
  a0 := Tryz.isAgg0
  z0 := Tryz.sizeOf0
  v0 := Tryz.zeroValue0
  t3 := Tryz.underlying3
  a3 := Tryz.isAgg3
  z3 := Tryz.sizeOf3
  v3 := Tryz.zeroValue3
  t4 := Tryz.underlying4
  a4 := Tryz.isAgg4
  z4 := Tryz.sizeOf4
  v4 := Tryz.zeroValue4
  t5 := Tryz.underlying5
  a5 := Tryz.isAgg5
  z5 := Tryz.sizeOf5
  v5 := Tryz.zeroValue5
  t9 := Tryz.underlying9
  a9 := Tryz.isAgg9
  z9 := Tryz.sizeOf9
  v9 := Tryz.zeroValue9
  t22 := Tryz.underlying23
  a22 := Tryz.isAgg23
  z22 := Tryz.sizeOf23
  v22 := Tryz.zeroValue23
  t25 := Tryz.underlying128
  a25 := Tryz.isAgg128
  z25 := Tryz.sizeOf128
  v25 := Tryz.zeroValue128
  t39 := Tryz.underlying145
  a39 := Tryz.isAgg145
  z39 := Tryz.sizeOf145
  v39 := Tryz.zeroValue145
  t45 := Tryz.underlying157
  a45 := Tryz.isAgg157
  z45 := Tryz.sizeOf157
  v45 := Tryz.zeroValue157
  t46 := Tryz.underlying158
  a46 := Tryz.isAgg158
  z46 := Tryz.sizeOf158
  v46 := Tryz.zeroValue158
  t50 := Tryz.underlying162
  a50 := Tryz.isAgg162
  z50 := Tryz.sizeOf162
  v50 := Tryz.zeroValue162
  t53 := Tryz.underlying165
  a53 := Tryz.isAgg165
  z53 := Tryz.sizeOf165
  v53 := Tryz.zeroValue165
  t55 := Tryz.underlying167
  a55 := Tryz.isAgg167
  z55 := Tryz.sizeOf167
  v55 := Tryz.zeroValue167
  t66 := Tryz.underlying187
  a66 := Tryz.isAgg187
  z66 := Tryz.sizeOf187
  v66 := Tryz.zeroValue187
  t70 := Tryz.underlying191
  a70 := Tryz.isAgg191
  z70 := Tryz.sizeOf191
  v70 := Tryz.zeroValue191
  t76 := Tryz.underlying199
  a76 := Tryz.isAgg199
  z76 := Tryz.sizeOf199
  v76 := Tryz.zeroValue199
  t77 := Tryz.underlying200
  a77 := Tryz.isAgg200
  z77 := Tryz.sizeOf200
  v77 := Tryz.zeroValue200 }
end Go.Proofs
namespace Go.Fv.Y
open Go Go.Proofs
set_option linter.unusedSimpArgs false
set_option linter.unusedVariables false
set_option linter.unnecessarySimpa false
set_option maxRecDepth 8000

theorem compareS_ok (s t : List UInt8) : FnOk Tryz.prog 57 [.str s, .str t] (.int .i64 (Lib.compareBytes s t)) [] := by
  refine ⟨⟨_, Tryz.func57, by kernel_rfl, by kernel_rfl⟩, fun w T vals hg hv => ?_⟩
  cases hv with
  | cons _ _ _ _ h1 hv => cases hv with
    | cons _ _ _ _ h2 hv =>
      cases hv
      cases h1 with
      | str _ e1 => cases h2 with
        | str _ e2 =>
          have L := Tryz.lays106
          refine (Any.strings_Compare { L with } ⟨s.toArray⟩ ⟨t.toArray⟩ w).mono ?_
          rintro e w' ⟨rfl, rfl⟩
          refine ⟨_, rfl, BelowD.refl _ _, fun _ => undef, 0, ?_, ?_, ?_⟩
          · have h1 := cmp_bd s t
            have e1 : IntKind.i64.min = -9223372036854775808 := by decide
            have e2 : IntKind.i64.max = 9223372036854775807 := by decide
            exact .int .i64 _ ⟨by rw [e1]; omega, by rw [e2]; omega⟩
          · intro i it h; cases h
          · intro i j it jt b h; cases h
theorem refDict1_ok (x y : Wd) : FnOk Tryz.prog 87 [.agg x.av, .agg y.av] (.int .i64 (cfW x y)) [] := by
  have k := compareS_ok x.t y.t
  unfold Wd.av cfW
  refine FnOk.of_vc Tryz.func87 rfl (by decide) (by simp [Tryz.f87]) [.tmp 4] rfl fun w0 T0 _ => ?_
  simp only [Tryz.f87, argEnv]
  (repeat' first | with_reducible (first | intro _ | refine rc ?_ | refine rl ?_ | refine rh ?_ | refine rt ?_ | refine rf ?_ | refine rs ?_ | refine And.intro ?_ ?_) | omega | simp (maxSteps := 1000000) only [go_sem, simprocAttr, ↓reduceIte])
  refine VcCall.k (k) ?_
  (repeat' first | with_reducible (first | intro _ | refine rc ?_ | refine rl ?_ | refine rh ?_ | refine rt ?_ | refine rf ?_ | refine rs ?_ | refine And.intro ?_ ?_) | omega | simp (maxSteps := 1000000) only [go_sem, simprocAttr, ↓reduceIte])
  refine Ret.auto 0 ?_ rfl ?_ <;> simp only [go_sem, reduceCtorEq, reduceIte, Nat.reduceEqDiff, Nat.reduceLT, Nat.reduceLeDiff, Int.natCast_succ, Post]
theorem sortWd_io (F : Nat) (kF : ∀ x y, FnFr Tryz.prog F [.agg (Wd.av x), .agg (Wd.av y)] (.int .i64 (cfW x y)) []) (l : List Wd) (hl : ∀ x, x ∈ l → WdOk x) (hn : (l.map Wd.t).Nodup) (hln : l.length ≤ 1000000000) :
    FnIO Tryz.prog 86 [.own 0, .fn F []] [(0, .row 56 (wdR l))] 1 (.tup []) [(0, .row 56 (wdR (sortW l)))] := by
  obtain ⟨l', hp, hs, kS⟩ := sortFK_io Wd.av 2 (fun _ => rfl) (by decide) Tryz.lSoW ⟨_, Tryz.func86, by kernel_rfl, by kernel_rfl⟩ Tryz.isAgg56 Tryz.sizeOf56 56 (good := WdOk)
    cfW_ord F [] rfl (fun x y _ _ => kF x y) l hl (fun x hx y hy => by
      unfold WdOk at hx
      unfold Wd.av at hy
      rcases List.mem_cons.1 hy with rfl | hy
      · show x.t.length ≤ maxLen
        have : maxLen = 9223372036854775807 := rfl
        omega
      · rw [List.mem_singleton] at hy; subst hy; exact InK_i64.2 (by omega)) (by omega)
  rw [sortW_eq hp hs hn] at kS
  exact kS
end Go.Fv.Y

/- Comparisons of guesses, of the program and of the reference, and slices.SortFunc of guesses. -/
namespace Go.Proofs
open Go.Shelf
def Tryz.lSoG_ren : Go.Shelf.Ren := ⟨fun | 6 => 54 | 15 => 95 | 14 => 94 | 28 => 126 | 29 => 127 | 20 => 118 | 21 => 119 | 22 => 120 | 23 => 121 | 24 => 122 | 25 => 123 | 26 => 124 | 27 => 125 | 46 => 157 | 47 => 158 | 48 => 159 | 49 => 160 | 50 => 161 | 57 => 174 | n => n, fun | 22 => 36 | 24 => 41 | 25 => 94 | 3 => 3 | 39 => 145 | 0 => 0 | 53 => 165 | 55 => 167 | 4 => 4 | 46 => 158 | 45 => 157 | 50 => 162 | 5 => 5 | 9 => 9 | 66 => 187 | 70 => 191 | 76 => 199 | 77 => 200 | n => n, fun | n => n⟩
theorem Tryz.lSoG : Go.Proofs.SlLaysF0.n6 Tryz.prog Tryz.lSoG_ren := {
  mixed := by kernel_rfl
  f6 := ⟨Tryz.f54.name, by decide, Tryz.func54.trans (congrArg some (by kernel_rfl))⟩
  f14 := ⟨Tryz.f94.name, by decide, Tryz.func94.trans (congrArg some (by kernel_rfl))⟩
  f15 := Tryz.func95.trans (congrArg some (by kernel_rfl))
  f20 := ⟨Tryz.f118.name, by decide, Tryz.func118.trans (congrArg some (by kernel_rfl))⟩
  f21 := ⟨Tryz.f119.name, by decide, Tryz.func119.trans (congrArg some (by kernel_rfl))⟩
  f22 := ⟨Tryz.f120.name, by decide, Tryz.func120.trans (congrArg some (by kernel_rfl))⟩
  f23 := ⟨Tryz.f121.name, by decide, Tryz.func121.trans (congrArg some (by kernel_rfl))⟩
  f24 := ⟨Tryz.f122.name, by decide, Tryz.func122.trans (congrArg some (by kernel_rfl))⟩
  f25 := ⟨Tryz.f123.name, by decide, Tryz.func123.trans (congrArg some (by kernel_rfl))⟩
  f26 := ⟨Tryz.f124.name, by decide, Tryz.func124.trans (congrArg some (by kernel_rfl))⟩
  f27 := ⟨Tryz.f125.name, by decide, Tryz.func125.trans (congrArg some (by kernel_rfl))⟩
  f28 := Tryz.func126.trans (congrArg some (by kernel_rfl))
  f29 := Tryz.func127.trans (congrArg some (by kernel_rfl))
  f46 := ⟨Tryz.f157.name, by decide, Tryz.func157.trans (congrArg some (by kernel_rfl))⟩
  f47 := Tryz.func158.trans (congrArg some (by kernel_rfl))
  f48 := Tryz.func159.trans (congrArg some (by kernel_rfl))
  f49 := ⟨Tryz.f160.name, by decide, Tryz.func160.trans (congrArg some (by kernel_rfl))⟩
  f50 := ⟨Tryz.f161.name, by decide, Tryz.func161.trans (congrArg some (by kernel_rfl))⟩
  f57 := ⟨Tryz.f174.name, by decide, Tryz.func174.trans (congrArg some (by kernel_rfl))⟩
  t0 := Tryz.underlying0
  a0 := Tryz.isAgg0
  z0 := Tryz.sizeOf0
  v0 := Tryz.zeroValue0
  t3 := Tryz.underlying3
  a3 := Tryz.isAgg3
  z3 := Tryz.sizeOf3
  v3 := Tryz.zeroValue3
  t4 := Tryz.underlying4
  a4 := Tryz.isAgg4
  z4 := Tryz.sizeOf4
  v4 := Tryz.zeroValue4
  t5 := Tryz.underlying5
  a5 := Tryz.isAgg5
  z5 := Tryz.sizeOf5
  v5 := Tryz.zeroValue5
  t9 := Tryz.underlying9
  a9 := Tryz.isAgg9
  z9 := Tryz.sizeOf9
  v9 := Tryz.zeroValue9
  t22 := Tryz.underlying36
  a22 := Tryz.isAgg36
  z22 := Tryz.sizeOf36
  v22 := Tryz.zeroValue36
  t25 := Tryz.underlying94
  a25 := Tryz.isAgg94
  z25 := Tryz.sizeOf94
  v25 := Tryz.zeroValue94
  t39 := Tryz.underlying145
  a39 := Tryz.isAgg145
  z39 := Tryz.sizeOf145
  v39 := Tryz.zeroValue145
  t45 := Tryz.underlying157
  a45 := Tryz.isAgg157
  z45 := Tryz.sizeOf157
  v45 := Tryz.zeroValue157
  t46 := Tryz.underlying158
  a46 := Tryz.isAgg158
  z46 := Tryz.sizeOf158
  v46 := Tryz.zeroValue158
  t50 := Tryz.underlying162
  a50 := Tryz.isAgg162
  z50 := Tryz.sizeOf162
  v50 := Tryz.zeroValue162
  t53 := Tryz.underlying165
  a53 := Tryz.isAgg165
  z53 := Tryz.sizeOf165
  v53 := Tryz.zeroValue165
  t55 := Tryz.underlying167
  a55 := Tryz.isAgg167
  z55 := Tryz.sizeOf167
  v55 := Tryz.zeroValue167
  t66 := Tryz.underlying187
  a66 := Tryz.isAgg187
  z66 := Tryz.sizeOf187
  v66 := Tryz.zeroValue187
  t70 := Tryz.underlying191
  a70 := Tryz.isAgg191
  z70 := Tryz.sizeOf191
  v70 := Tryz.zeroValue191
  t76 := Tryz.underlying199
  a76 := Tryz.isAgg199
  z76 := Tryz.sizeOf199
  v76 := Tryz.zeroValue199
  t77 := Tryz.underlying200
  a77 := Tryz.isAgg200
  z77 := Tryz.sizeOf200
  v77 := Tryz.zeroValue200 }
end Go.Proofs
namespace Go.Fv.Y
open Go Go.Proofs
set_option linter.unusedSimpArgs false
set_option linter.unusedVariables false
set_option linter.unnecessarySimpa false
set_option maxRecDepth 8000

theorem gsNaN_ok (a : Int) : FnOk Tryz.prog 117 [.int .i64 a] (.bool false) [] := by
  refine FnOk.of_vc Tryz.func117 rfl (by decide) (by simp [Tryz.f117]) [.tmp 2] rfl fun w0 T0 _ => ?_
  simp only [Tryz.f117, argEnv]
  (repeat' first | with_reducible (first | intro _ | refine rc ?_ | refine rl ?_ | refine rh ?_ | refine rt ?_ | refine rf ?_ | refine rs ?_ | refine And.intro ?_ ?_) | omega | simp (maxSteps := 1000000) only [go_sem, simprocAttr, ↓reduceIte])
  refine Ret.auto 0 ?_ rfl ?_ <;> simp only [go_sem, reduceCtorEq, reduceIte, Nat.reduceEqDiff, Nat.reduceLT, Nat.reduceLeDiff, Int.natCast_succ, Post]
  all_goals simp
theorem gsCompare_ok (a b : Int) : FnOk Tryz.prog 92 [.int .i64 a, .int .i64 b] (.int .i64 (cmpI a b)) [] := by
  unfold cmpI
  refine FnOk.of_vc Tryz.func92 rfl (by decide) (by simp [Tryz.f92]) [.tmp 4] rfl fun w0 T0 _ => ?_
  simp only [Tryz.f92, argEnv]
  (repeat' first | with_reducible (first | intro _ | refine rc ?_ | refine rl ?_ | refine rh ?_ | refine rt ?_ | refine rf ?_ | refine rs ?_ | refine And.intro ?_ ?_) | omega | simp (maxSteps := 1000000) only [go_sem, simprocAttr, ↓reduceIte])
  refine VcCall.k (gsNaN_ok a) ?_
  (repeat' first | with_reducible (first | intro _ | refine rc ?_ | refine rl ?_ | refine rh ?_ | refine rt ?_ | refine rf ?_ | refine rs ?_ | refine And.intro ?_ ?_) | omega | simp (maxSteps := 1000000) only [go_sem, simprocAttr, ↓reduceIte])
  refine VcCall.k (gsNaN_ok b) ?_
  by_cases h1 : a < b
  · rw [if_pos h1]
    (repeat' first | with_reducible (first | intro _ | refine rc ?_ | refine rl ?_ | refine rh ?_ | refine rt ?_ | refine rf ?_ | refine rs ?_ | refine And.intro ?_ ?_) | omega | simp (maxSteps := 1000000) only [go_sem, simprocAttr, ↓reduceIte])
    refine Ret.auto 0 ?_ rfl ?_ <;> simp only [go_sem, reduceCtorEq, reduceIte, Nat.reduceEqDiff, Nat.reduceLT, Nat.reduceLeDiff, Int.natCast_succ, Post]
  · rw [if_neg h1]
    by_cases h2 : b < a
    · rw [if_pos h2]
      (repeat' first | with_reducible (first | intro _ | refine rc ?_ | refine rl ?_ | refine rh ?_ | refine rt ?_ | refine rf ?_ | refine rs ?_ | refine And.intro ?_ ?_) | omega | simp (maxSteps := 1000000) only [go_sem, simprocAttr, ↓reduceIte])
      refine Ret.auto 0 ?_ rfl ?_ <;> simp only [go_sem, reduceCtorEq, reduceIte, Nat.reduceEqDiff, Nat.reduceLT, Nat.reduceLeDiff, Int.natCast_succ, Post]
    · rw [if_neg h2]
      (repeat' first | with_reducible (first | intro _ | refine rc ?_ | refine rl ?_ | refine rh ?_ | refine rt ?_ | refine rf ?_ | refine rs ?_ | refine And.intro ?_ ?_) | omega | simp (maxSteps := 1000000) only [go_sem, simprocAttr, ↓reduceIte])
      refine Ret.auto 0 ?_ rfl ?_ <;> simp only [go_sem, reduceCtorEq, reduceIte, Nat.reduceEqDiff, Nat.reduceLT, Nat.reduceLeDiff, Int.natCast_succ, Post]
def orI : List Int → Int
  | [] => 0
  | x :: l => if x = 0 then orI l else x
theorem orI_drop (l : List Int) {k : Nat} (h : k < l.length) : orI (l.drop k) = if l.getD k 0 = 0 then orI (l.drop (k + 1)) else l.getD k 0 := by
  rw [List.drop_eq_getElem_cons h, orI, getD_lt h]
theorem gsOr_ok (l : List Int) : FnOk Tryz.prog 56 [.ro (.ints .i64 l)] (.int .i64 (orI l)) [] := by
  refine FnOk.of_vc Tryz.func56 rfl (by decide) (by simp [Tryz.f56]) [.tmp 2] rfl fun w0 T0 _ => ?_
  simp only [Tryz.f56, argEnv]
  (repeat' first | with_reducible (first | intro _ | refine rc ?_ | refine rl ?_ | refine rh ?_ | refine rt ?_ | refine rf ?_ | refine rs ?_ | refine And.intro ?_ ?_) | omega | simp (maxSteps := 1000000) only [go_sem, simprocAttr, ↓reduceIte])
  refine VcLoop.intro (fun i : Nat => ⟨18, [(8, .int .i64 i), (7, .int .i64 l.length), (6, .ro (.ints .i64 l)), (3, .int .i64 0)], [], 0⟩) (fun i => i ≤ l.length ∧ orI l = orI (l.drop i)) (fun i => l.length - i) 0 ?_ ⟨Nat.zero_le _, rfl⟩ fun i hi => ?_
  · refine Ent.auto0 rfl ?_ ?_ <;> simp only [go_sem, reduceCtorEq, reduceIte, Nat.reduceEqDiff, Nat.reduceLT, Nat.reduceLeDiff, Int.natCast_succ]
  obtain ⟨hi, ho⟩ := hi
  by_cases hlt : i < l.length
  · have hd := orI_drop l hlt
    by_cases h0 : l.getD i 0 = 0
    · rw [if_pos h0] at hd
      (repeat' first | with_reducible (first | intro _ | refine rc ?_ | refine rl ?_ | refine rh ?_ | refine rt ?_ | refine rf ?_ | refine rs ?_ | refine And.intro ?_ ?_) | omega | simp (maxSteps := 1000000) only [go_sem, simprocAttr, ↓reduceIte, h0])
      refine ⟨i + 1, Ent.auto0 rfl ?_ ?_, ⟨by omega, ho.trans hd⟩, by omega⟩ <;> simp only [go_sem, reduceCtorEq, reduceIte, Nat.reduceEqDiff, Nat.reduceLT, Nat.reduceLeDiff, Int.natCast_succ]
    · rw [if_neg h0] at hd
      (repeat' first | with_reducible (first | intro _ | refine rc ?_ | refine rl ?_ | refine rh ?_ | refine rt ?_ | refine rf ?_ | refine rs ?_ | refine And.intro ?_ ?_) | omega | simp (maxSteps := 1000000) only [go_sem, simprocAttr, ↓reduceIte])
      refine Ret.auto 0 ?_ rfl ?_ <;> simp only [go_sem, reduceCtorEq, reduceIte, Nat.reduceEqDiff, Nat.reduceLT, Nat.reduceLeDiff, Int.natCast_succ, Post, ho.trans hd]
  · have e : i = l.length := by omega
    subst e
    have : orI l = 0 := by rw [ho, List.drop_length]; rfl
    (repeat' first | with_reducible (first | intro _ | refine rc ?_ | refine rl ?_ | refine rh ?_ | refine rt ?_ | refine rf ?_ | refine rs ?_ | refine And.intro ?_ ?_) | omega | simp (maxSteps := 1000000) only [go_sem, simprocAttr, ↓reduceIte])
    refine Ret.auto 0 ?_ rfl ?_ <;> simp only [go_sem, reduceCtorEq, reduceIte, Nat.reduceEqDiff, Nat.reduceLT, Nat.reduceLeDiff, Int.natCast_succ, Post, this]
theorem cfG_or (x y : Gs) : orI [cmpI x.d y.d, cmpI y.c x.c] = cfG x y := by
  unfold cfG orI orI orI
  by_cases h : cmpI x.d y.d = 0
  · rw [if_pos h, if_pos h]
    by_cases h2 : cmpI y.c x.c = 0
    · rw [if_pos h2, h2]
    · rw [if_neg h2]
  · rw [if_neg h, if_neg h]
set_option maxHeartbeats 2000000 in
theorem near1_ok : CmpG 91 := fun x y => by
  have k1 := gsCompare_ok x.d y.d
  have k2 := gsCompare_ok y.c x.c
  have k3 := gsOr_ok [cmpI x.d y.d, cmpI y.c x.c]
  rw [cfG_or] at k3
  generalize cfG x y = r at *
  generalize cmpI x.d y.d = c1 at *
  generalize cmpI y.c x.c = c2 at *
  refine FnOk.of_vc Tryz.func91 rfl (by decide) (by simp [Tryz.f91]) [.tmp 4] rfl fun w0 T0 _ => ?_
  simp only [Tryz.f91, argEnv]
  (repeat' first | with_reducible (first | intro _ | refine rc ?_ | refine rl ?_ | refine rh ?_ | refine rt ?_ | refine rf ?_ | refine rs ?_ | refine And.intro ?_ ?_) | omega | simp (maxSteps := 1000000) only [go_sem, simprocAttr, ↓reduceIte])
  refine VcDraw.lex [10] [] (by kernel_rfl) (by kernel_rfl) ?_
  (repeat' first | with_reducible (first | intro _ | refine rc ?_ | refine rl ?_ | refine rh ?_ | refine rt ?_ | refine rf ?_ | refine rs ?_ | refine And.intro ?_ ?_) | omega | simp (maxSteps := 1000000) only [go_sem, simprocAttr, ↓reduceIte])
  refine QV.intro (.int .i64 c1) ?_ ?_
  · (repeat' first | with_reducible (first | intro _ | refine rc ?_ | refine rl ?_ | refine rh ?_ | refine rt ?_ | refine rf ?_ | refine rs ?_ | refine And.intro ?_ ?_) | omega | simp (maxSteps := 1000000) only [go_sem, simprocAttr, ↓reduceIte])
    refine VcCall.k (k1) ?_
    (repeat' first | with_reducible (first | intro _ | refine rc ?_ | refine rl ?_ | refine rh ?_ | refine rt ?_ | refine rf ?_ | refine rs ?_ | refine And.intro ?_ ?_) | omega | simp (maxSteps := 1000000) only [go_sem, simprocAttr, ↓reduceIte])
  (repeat' first | with_reducible (first | intro _ | refine rc ?_ | refine rl ?_ | refine rh ?_ | refine rt ?_ | refine rf ?_ | refine rs ?_ | refine And.intro ?_ ?_) | omega | simp (maxSteps := 1000000) only [go_sem, simprocAttr, ↓reduceIte])
  refine QV.intro (.int .i64 c2) ?_ ?_
  · (repeat' first | with_reducible (first | intro _ | refine rc ?_ | refine rl ?_ | refine rh ?_ | refine rt ?_ | refine rf ?_ | refine rs ?_ | refine And.intro ?_ ?_) | omega | simp (maxSteps := 1000000) only [go_sem, simprocAttr, ↓reduceIte])
    refine VcCall.k (k2) ?_
    (repeat' first | with_reducible (first | intro _ | refine rc ?_ | refine rl ?_ | refine rh ?_ | refine rt ?_ | refine rf ?_ | refine rs ?_ | refine And.intro ?_ ?_) | omega | simp (maxSteps := 1000000) only [go_sem, simprocAttr, ↓reduceIte])
  (repeat' first | with_reducible (first | intro _ | refine rc ?_ | refine rl ?_ | refine rh ?_ | refine rt ?_ | refine rf ?_ | refine rs ?_ | refine And.intro ?_ ?_) | omega | simp (maxSteps := 1000000) only [go_sem, simprocAttr, ↓reduceIte])
  refine QV.intro (.int .i64 r) ?_ ?_
  · (repeat' first | with_reducible (first | intro _ | refine rc ?_ | refine rl ?_ | refine rh ?_ | refine rt ?_ | refine rf ?_ | refine rs ?_ | refine And.intro ?_ ?_) | omega | simp (maxSteps := 1000000) only [go_sem, simprocAttr, ↓reduceIte])
    refine VcCall.k (k3) ?_
    (repeat' first | with_reducible (first | intro _ | refine rc ?_ | refine rl ?_ | refine rh ?_ | refine rt ?_ | refine rf ?_ | refine rs ?_ | refine And.intro ?_ ?_) | omega | simp (maxSteps := 1000000) only [go_sem, simprocAttr, ↓reduceIte])
  (repeat' first | with_reducible (first | intro _ | refine rc ?_ | refine rl ?_ | refine rh ?_ | refine rt ?_ | refine rf ?_ | refine rs ?_ | refine And.intro ?_ ?_) | omega | simp (maxSteps := 1000000) only [go_sem, simprocAttr, ↓reduceIte])
  refine Ret.auto 0 ?_ rfl ?_ <;> simp only [go_sem, reduceCtorEq, reduceIte, Nat.reduceEqDiff, Nat.reduceLT, Nat.reduceLeDiff, Int.natCast_succ, Post]
/-! ### The reference -/
def cfR (x y : Gs) : Int := orI [x.d - y.d, y.c - x.c, Lib.compareBytes x.t y.t]
def GsOk (x : Gs) : Prop := x.t.length ≤ 1048576 ∧ (0 ≤ x.d ∧ x.d ≤ 1000000000000) ∧ (0 ≤ x.c ∧ x.c ≤ 1000000000000)
theorem cfR_lt (x y : Gs) : cfR x y < 0 ↔ ¬ leG y x = true := by
  rw [leG_iff]
  unfold cfR orI orI orI orI
  have hc := cmp_lt x.t y.t
  have hle : y.t ≤ x.t ↔ ¬ x.t < y.t := ⟨fun h h2 => h h2, fun h => h⟩
  by_cases h : x.d - y.d = 0
  · rw [if_pos h]
    by_cases h2 : y.c - x.c = 0
    · rw [if_pos h2]
      have hk : ke y x := by unfold ke; omega
      have hn : ¬ lt0 y x := by unfold lt0; omega
      have e : (if Lib.compareBytes x.t y.t = 0 then 0 else Lib.compareBytes x.t y.t) = Lib.compareBytes x.t y.t := by
        by_cases h5 : Lib.compareBytes x.t y.t = 0
        · rw [if_pos h5, h5]
        · rw [if_neg h5]
      rw [e, hc, hle]
      constructor
      · rintro h3 (h4 | ⟨_, h4⟩)
        · exact hn h4
        · exact h4 h3
      · intro h3
        exact Classical.byContradiction fun h4 => h3 (.inr ⟨hk, h4⟩)
    · rw [if_neg h2]
      unfold lt0 ke
      constructor
      · intro h3; omega
      · intro h3; omega
  · rw [if_neg h]
    unfold lt0 ke
    constructor
    · intro h3; omega
    · intro h3; omega
theorem cfR_n (x y : Gs) : ¬ cfR x y < 0 ↔ leG y x = true := by rw [cfR_lt, Classical.not_not]
theorem leG_refl (x : Gs) : leG x x = true := leG_iff.2 (.inr ⟨⟨rfl, rfl⟩, List.le_refl _⟩)
theorem leG_or {x y : Gs} (h : ¬ leG x y = true) : leG y x = true := by
  have := leG_total x y
  rw [Bool.or_eq_true] at this
  rcases this with h2 | h2
  · exact absurd h2 h
  · exact h2
theorem cfR_ord : CmpOrd GsOk cfR where
  irrefl := fun x _ => (cfR_n x x).2 (leG_refl x)
  trans := fun x y z _ _ _ h1 h2 => (cfR_lt x z).2 fun h => ((cfR_lt y z).1 h2) (leG_trans _ _ _ h (leG_or ((cfR_lt x y).1 h1)))
  ntrans := fun x y z _ _ _ h1 h2 => (cfR_n x z).2 (leG_trans _ _ _ ((cfR_n y z).1 h2) ((cfR_n x y).1 h1))
set_option maxHeartbeats 2000000 in
theorem refNear1_ok (x y : Gs) (hx : GsOk x) (hy : GsOk y) : FnOk Tryz.prog 55 [.agg x.av, .agg y.av] (.int .i64 (cfR x y)) [] := by
  have k1 := compareS_ok x.t y.t
  have k2 := gsOr_ok [x.d - y.d, y.c - x.c, Lib.compareBytes x.t y.t]
  unfold GsOk at hx hy
  unfold Gs.av cfR
  generalize orI [x.d - y.d, y.c - x.c, Lib.compareBytes x.t y.t] = r at *
  generalize Lib.compareBytes x.t y.t = c3 at *
  refine FnOk.of_vc Tryz.func55 rfl (by decide) (by simp [Tryz.f55]) [.tmp 4] rfl fun w0 T0 _ => ?_
  simp only [Tryz.f55, argEnv]
  (repeat' first | with_reducible (first | intro _ | refine rc ?_ | refine rl ?_ | refine rh ?_ | refine rt ?_ | refine rf ?_ | refine rs ?_ | refine And.intro ?_ ?_) | omega | simp (maxSteps := 1000000) only [go_sem, simprocAttr, ↓reduceIte])
  refine VcDraw.lex [15] [] (by kernel_rfl) (by kernel_rfl) ?_
  (repeat' first | with_reducible (first | intro _ | refine rc ?_ | refine rl ?_ | refine rh ?_ | refine rt ?_ | refine rf ?_ | refine rs ?_ | refine And.intro ?_ ?_) | omega | simp (maxSteps := 1000000) only [go_sem, simprocAttr, ↓reduceIte])
  refine QV.intro (.int .i64 c3) ?_ ?_
  · (repeat' first | with_reducible (first | intro _ | refine rc ?_ | refine rl ?_ | refine rh ?_ | refine rt ?_ | refine rf ?_ | refine rs ?_ | refine And.intro ?_ ?_) | omega | simp (maxSteps := 1000000) only [go_sem, simprocAttr, ↓reduceIte])
    refine VcCall.k (k1) ?_
    (repeat' first | with_reducible (first | intro _ | refine rc ?_ | refine rl ?_ | refine rh ?_ | refine rt ?_ | refine rf ?_ | refine rs ?_ | refine And.intro ?_ ?_) | omega | simp (maxSteps := 1000000) only [go_sem, simprocAttr, ↓reduceIte])
  (repeat' first | with_reducible (first | intro _ | refine rc ?_ | refine rl ?_ | refine rh ?_ | refine rt ?_ | refine rf ?_ | refine rs ?_ | refine And.intro ?_ ?_) | omega | simp (maxSteps := 1000000) only [go_sem, simprocAttr, ↓reduceIte])
  refine QV.intro (.int .i64 r) ?_ ?_
  · (repeat' first | with_reducible (first | intro _ | refine rc ?_ | refine rl ?_ | refine rh ?_ | refine rt ?_ | refine rf ?_ | refine rs ?_ | refine And.intro ?_ ?_) | omega | simp (maxSteps := 1000000) only [go_sem, simprocAttr, ↓reduceIte])
    refine VcCall.k (k2) ?_
    (repeat' first | with_reducible (first | intro _ | refine rc ?_ | refine rl ?_ | refine rh ?_ | refine rt ?_ | refine rf ?_ | refine rs ?_ | refine And.intro ?_ ?_) | omega | simp (maxSteps := 1000000) only [go_sem, simprocAttr, ↓reduceIte])
  (repeat' first | with_reducible (first | intro _ | refine rc ?_ | refine rl ?_ | refine rh ?_ | refine rt ?_ | refine rf ?_ | refine rs ?_ | refine And.intro ?_ ?_) | omega | simp (maxSteps := 1000000) only [go_sem, simprocAttr, ↓reduceIte])
  refine Ret.auto 0 ?_ rfl ?_ <;> simp only [go_sem, reduceCtorEq, reduceIte, Nat.reduceEqDiff, Nat.reduceLT, Nat.reduceLeDiff, Int.natCast_succ, Post]
theorem sortGs_io (l : List Gs) (hl : ∀ x, x ∈ l → GsOk x) (hln : l.length ≤ 1000000000) :
    FnIO Tryz.prog 54 [.own 0, .fn 55 []] [(0, .row 41 (gsR l))] 1 (.tup []) [(0, .row 41 (gsR (sortG l)))] := by
  obtain ⟨l', hp, hs, kS⟩ := sortFK_io Gs.av 3 (fun _ => rfl) (by decide) Tryz.lSoG ⟨_, Tryz.func54, by kernel_rfl, by kernel_rfl⟩ Tryz.isAgg41 Tryz.sizeOf41 41 (good := GsOk)
    cfR_ord 55 [] rfl (fun x y hx hy => FnFr.of_ok (refNear1_ok x y hx hy) rfl rfl) l hl (fun x hx y hy => by
      unfold GsOk at hx
      unfold Gs.av at hy
      rcases List.mem_cons.1 hy with rfl | hy
      · show x.t.length ≤ maxLen
        have : maxLen = 9223372036854775807 := rfl
        omega
      rcases List.mem_cons.1 hy with rfl | hy
      · exact InK_i64.2 (by omega)
      · rw [List.mem_singleton] at hy; subst hy; exact InK_i64.2 (by omega)) (by omega)
  rw [sortG_eq hp (hs.imp fun h => (cfR_n _ _).1 h)] at kS
  exact kS
end Go.Fv.Y

namespace Go.Fv.Y
open Go Go.Proofs
set_option linter.unusedSimpArgs false
set_option linter.unusedVariables false
set_option linter.unnecessarySimpa false
set_option maxRecDepth 8000

def Mx.av (m : Mx) : List AV := [.str m.f, .str m.t, .int .i64 m.c]
def Mx.zero : Mx := ⟨[], [], 0⟩
def mxs (l : List Mx) : RowV := .objs 3 (l.map Mx.av)
theorem mx_elem (l : List Mx) {i : Nat} (h : i < l.length) : (l.map Mx.av).getD i [] = [.str (l.getD i Mx.zero).f, .str (l.getD i Mx.zero).t, .int .i64 (l.getD i Mx.zero).c] := by
  rw [getD_lt (by simpa using h), getD_lt h, List.getElem_map]; rfl
theorem laidOut : laidOutB Tryz.prog = true := by kernel_rfl
theorem keyed2 : Maps.Keyed Tryz.prog 113 := keyed_deep laidOut (of_decide_eq_true (by kernel_rfl)) (by kernel_rfl) (by rw [Tryz.underlying113])
theorem key2T (k : Key) : KeyT Tryz.prog 113 (key2 k) := KeyT.strs2 Tryz.underlying113 Tryz.underlying9 (by kernel_rfl) c113 c9 (of_decide_eq_true (by kernel_rfl)) k.1 k.2
theorem key2Ts (l : List Key) : KeysT Tryz.prog 113 (l.map key2) := KeysT_map key2T l

theorem part_ok (s : List UInt8) : FnOk Tryz.prog 69 [.str s] (.bool (partOk s)) [] := by
  have e : partOk s = decide (1 ≤ (s.length : Int) ∧ (s.length : Int) ≤ 3) := by
    unfold partOk
    rw [← Bool.decide_and]; congr 1; apply propext; omega
  rw [e]
  refine FnOk.of_vc Tryz.func69 rfl (by decide) (by simp [Tryz.f69]) [.tmp 2] rfl fun w0 T0 _ => ?_
  simp only [Tryz.f69, argEnv]
  (repeat' first | with_reducible (first | intro _ | refine rc ?_ | refine rl ?_ | refine rh ?_ | refine rt ?_ | refine rf ?_ | refine rs ?_ | refine And.intro ?_ ?_) | omega | simp (maxSteps := 1000000) only [go_sem, simprocAttr, ↓reduceIte])
  refine Ret.auto 0 ?_ rfl ?_ <;> simp only [go_sem, reduceCtorEq, reduceIte, Nat.reduceEqDiff, Nat.reduceLT, Nat.reduceLeDiff, Int.natCast_succ, Post]

def seenK (l : List Mx) (i : Nat) : List Key := (l.take i).map Mx.key
theorem seenK_succ (l : List Mx) {i : Nat} (h : i < l.length) : seenK l (i + 1) = seenK l i ++ [(l.getD i Mx.zero).key] := by
  unfold seenK
  rw [List.take_succ_eq_append_getElem h, List.map_append, getD_lt h]; rfl
theorem mixEs_drop (l : List Mx) {i : Nat} (h : i < l.length) (s : List Key) : mixEs s (l.drop i) = if mixE s (l.getD i Mx.zero) = 0 then mixEs (s ++ [(l.getD i Mx.zero).key]) (l.drop (i + 1)) else mixE s (l.getD i Mx.zero) := by
  rw [List.drop_eq_getElem_cons h, getD_lt h]; rfl
theorem insE_new {α : Type} [DecidableEq α] {l : List α} {x : α} (h : x ∉ l) : insE l x = l ++ [x] := if_neg h

set_option maxHeartbeats 4000000 in
theorem checkMixes_ok (l : List Mx) : FnOk Tryz.prog 23 [.ro (mxs l)] (.int .i64 (mixErr l)) [] := by
  unfold mixErr
  refine FnOk.of_vc Tryz.func23 rfl (by decide) (by simp [Tryz.f23]) [.tmp 2] rfl fun w0 T0 _ => ?_
  simp only [Tryz.f23, argEnv]
  (repeat' first | with_reducible (first | intro _ | refine rc ?_ | refine rl ?_ | refine rh ?_ | refine rt ?_ | refine rf ?_ | refine rs ?_ | refine And.intro ?_ ?_) | omega | simp (maxSteps := 1000000) only [go_sem, simprocAttr, ↓reduceIte, List.length_map, mxs])
  · refine Ret.auto 0 ?_ rfl ?_ <;> simp only [go_sem, reduceCtorEq, reduceIte, Nat.reduceEqDiff, Nat.reduceLT, Nat.reduceLeDiff, Int.natCast_succ, Post]
    rw [if_pos (by omega)]
  rw [if_neg (by omega)]
  refine VcLoop.intro (fun i : Nat => ⟨59, [(14, .int .i64 i), (13, .int .i64 l.length), (12, .ro (mxs l)), (3, .own 0), (4, .fn 69 [])], [(0, .map ((seenK l i).map key2) ((seenK l i).map fun _ => .bool true))], 1⟩) (fun i => i ≤ l.length ∧ mixEs (seenK l i) (l.drop i) = mixEs [] l) (fun i => l.length - i) 0 ?_ ⟨Nat.zero_le _, rfl⟩ fun i hi => ?_
  · refine Ent.auto0 rfl ?_ ?_ <;> simp only [go_sem, reduceCtorEq, reduceIte, Nat.reduceEqDiff, Nat.reduceLT, Nat.reduceLeDiff, Int.natCast_succ, seenK, List.take_zero, mxs]
  by_cases hlt : i < l.length
  · have he := mx_elem l hlt
    have hs := seenK_succ l hlt
    have hd := mixEs_drop l hlt (seenK l i)
    generalize l.getD i Mx.zero = m at *
    have k1 := part_ok m.f
    have k2 := part_ok m.t
    have kk : KeyT Tryz.prog 113 (.agg [.str m.f, .str m.t]) := key2T m.key
    have ks := key2Ts (seenK l i)
    have hE : mixE (seenK l i) m = if partOk m.f = false ∨ partOk m.t = false ∨ m.f = m.t then 2 else if m.c < 0 ∨ 100 < m.c then 3 else if m.key ∈ seenK l i then 6 else 0 := rfl
    have e3 : getB ((seenK l i).map key2) ((seenK l i).map fun _ => .bool true) (.agg [.str m.f, .str m.t]) = decide (m.key ∈ seenK l i) := (getB_set eqKey2 (seenK l i) m.key).trans (by congr)
    have e4 : updKs ((seenK l i).map key2) (.agg [.str m.f, .str m.t]) = _ := updKs_set eqKey2 (seenK l i) m.key
    have e5 : updVs ((seenK l i).map key2) ((seenK l i).map fun _ => .bool true) (.agg [.str m.f, .str m.t]) (.bool true) = _ := updVs_set eqKey2 (seenK l i) m.key
    generalize partOk m.f = p at *
    generalize partOk m.t = q at *
    (repeat' first | with_reducible (first | intro _ | refine rc ?_ | refine rl ?_ | refine rh ?_ | refine rt ?_ | refine rf ?_ | refine rs ?_ | refine And.intro ?_ ?_) | omega | simp (maxSteps := 1000000) only [go_sem, simprocAttr, ↓reduceIte, elemA, he, mxs, List.length_map])
    refine VcCall.k k1 ?_
    cases p with
    | false =>
      (repeat' first | with_reducible (first | intro _ | refine rc ?_ | refine rl ?_ | refine rh ?_ | refine rt ?_ | refine rf ?_ | refine rs ?_ | refine And.intro ?_ ?_) | omega | simp (maxSteps := 1000000) only [go_sem, simprocAttr, ↓reduceIte])
      refine Ret.auto 0 ?_ rfl ?_ <;> simp only [go_sem, reduceCtorEq, reduceIte, Nat.reduceEqDiff, Nat.reduceLT, Nat.reduceLeDiff, Int.natCast_succ, Post]
      rw [← hi.2, hd, hE]; simp
    | true =>
      (repeat' first | with_reducible (first | intro _ | refine rc ?_ | refine rl ?_ | refine rh ?_ | refine rt ?_ | refine rf ?_ | refine rs ?_ | refine And.intro ?_ ?_) | omega | simp (maxSteps := 1000000) only [go_sem, simprocAttr, ↓reduceIte])
      refine VcCall.k k2 ?_
      cases q with
      | false =>
        (repeat' first | with_reducible (first | intro _ | refine rc ?_ | refine rl ?_ | refine rh ?_ | refine rt ?_ | refine rf ?_ | refine rs ?_ | refine And.intro ?_ ?_) | omega | simp (maxSteps := 1000000) only [go_sem, simprocAttr, ↓reduceIte])
        refine Ret.auto 0 ?_ rfl ?_ <;> simp only [go_sem, reduceCtorEq, reduceIte, Nat.reduceEqDiff, Nat.reduceLT, Nat.reduceLeDiff, Int.natCast_succ, Post]
        rw [← hi.2, hd, hE]; simp
      | true =>
        (repeat' first | with_reducible (first | intro _ | refine rc ?_ | refine rl ?_ | refine rh ?_ | refine rt ?_ | refine rf ?_ | refine rs ?_ | refine And.intro ?_ ?_) | omega | simp (maxSteps := 1000000) only [go_sem, simprocAttr, ↓reduceIte, e3, e4, e5, all_isB, eq_true kk, eq_true ks, eq_true keyed2])
        · rename_i h1
          refine Ret.auto 0 ?_ rfl ?_ <;> simp only [go_sem, reduceCtorEq, reduceIte, Nat.reduceEqDiff, Nat.reduceLT, Nat.reduceLeDiff, Int.natCast_succ, Post]
          rw [← hi.2, hd, hE]; simp [h1]
        · rename_i h1 _ h2
          refine Ret.auto 0 ?_ rfl ?_ <;> simp only [go_sem, reduceCtorEq, reduceIte, Nat.reduceEqDiff, Nat.reduceLT, Nat.reduceLeDiff, Int.natCast_succ, Post]
          rw [← hi.2, hd, hE]; simp [h1, h2]
        · rename_i h1 _ h2 h3
          refine Ret.auto 0 ?_ rfl ?_ <;> simp only [go_sem, reduceCtorEq, reduceIte, Nat.reduceEqDiff, Nat.reduceLT, Nat.reduceLeDiff, Int.natCast_succ, Post]
          rw [← hi.2, hd, hE]; simp [h1, h2, h3]
        · rename_i h1 _ h2 h3
          have h0 : mixE (seenK l i) m = 0 := by rw [hE]; simp [h1, h2, h3]
          rw [if_pos h0, hi.2] at hd
          refine ⟨i + 1, Ent.auto0 rfl ?_ ?_, ⟨by omega, by rw [hs]; exact hd.symm⟩, by omega⟩ <;> simp only [go_sem, reduceCtorEq, reduceIte, Nat.reduceEqDiff, Nat.reduceLT, Nat.reduceLeDiff, Int.natCast_succ, hs, insE_new h3, mxs]
  · have e : i = l.length := by omega
    have h0 := hi.2
    rw [e, List.drop_length] at h0
    (repeat' first | with_reducible (first | intro _ | refine rc ?_ | refine rl ?_ | refine rh ?_ | refine rt ?_ | refine rf ?_ | refine rs ?_ | refine And.intro ?_ ?_) | omega | simp (maxSteps := 1000000) only [go_sem, simprocAttr, ↓reduceIte, mxs, List.length_map])
    refine Ret.auto 0 ?_ rfl ?_ <;> simp only [go_sem, reduceCtorEq, reduceIte, Nat.reduceEqDiff, Nat.reduceLT, Nat.reduceLeDiff, Int.natCast_succ, Post]
    rw [← h0]; rfl
end Go.Fv.Y

/- strings.HasPrefix. -/
namespace Go.Fv.Y
open Go Go.Proofs
set_option linter.unusedSimpArgs false
set_option linter.unusedVariables false
set_option linter.unnecessarySimpa false
set_option maxRecDepth 8000

theorem take_prefix (s p : List UInt8) : decide ((p.length : Int) ≤ (s.length : Int) ∧ s.take p.length = p) = p.isPrefixOf s := by
  rw [Bool.eq_iff_iff, decide_eq_true_eq, List.isPrefixOf_iff_prefix]
  constructor
  · rintro ⟨_, h⟩; exact List.prefix_iff_eq_take.2 h.symm
  · intro h; exact ⟨by have := h.length_le; omega, (List.prefix_iff_eq_take.1 h).symm⟩
theorem hasPrefix0_ok (s p : List UInt8) : FnOk Tryz.prog 155 [.str s, .str p] (.bool (p.isPrefixOf s)) [] := by
  rw [← take_prefix]
  refine FnOk.of_vc Tryz.func155 rfl (by decide) (by simp [Tryz.f155]) [.tmp 4] rfl fun w0 T0 _ => ?_
  simp only [Tryz.f155, argEnv]
  (repeat' first | with_reducible (first | intro _ | refine rc ?_ | refine rl ?_ | refine rh ?_ | refine rt ?_ | refine rf ?_ | refine rs ?_ | refine And.intro ?_ ?_) | omega | simp (maxSteps := 1000000) only [go_sem, simprocAttr, ↓reduceIte, Nat.sub_zero, List.drop_zero, Int.toNat_natCast, Int.toNat_zero])
  refine Ret.auto 0 ?_ rfl ?_ <;> simp only [go_sem, reduceCtorEq, reduceIte, Nat.reduceEqDiff, Nat.reduceLT, Nat.reduceLeDiff, Int.natCast_succ, Post]
theorem hasPrefix_ok (s p : List UInt8) : FnOk Tryz.prog 115 [.str s, .str p] (.bool (p.isPrefixOf s)) [] := by
  have k := hasPrefix0_ok s p
  refine FnOk.of_vc Tryz.func115 rfl (by decide) (by simp [Tryz.f115]) [.tmp 4] rfl fun w0 T0 _ => ?_
  simp only [Tryz.f115, argEnv]
  (repeat' first | with_reducible (first | intro _ | refine rc ?_ | refine rl ?_ | refine rh ?_ | refine rt ?_ | refine rf ?_ | refine rs ?_ | refine And.intro ?_ ?_) | omega | simp (maxSteps := 1000000) only [go_sem, simprocAttr, ↓reduceIte])
  refine VcCall.k k ?_
  (repeat' first | with_reducible (first | intro _ | refine rc ?_ | refine rl ?_ | refine rh ?_ | refine rt ?_ | refine rf ?_ | refine rs ?_ | refine And.intro ?_ ?_) | omega | simp (maxSteps := 1000000) only [go_sem, simprocAttr, ↓reduceIte])
  refine Ret.auto 0 ?_ rfl ?_ <;> simp only [go_sem, reduceCtorEq, reduceIte, Nat.reduceEqDiff, Nat.reduceLT, Nat.reduceLeDiff, Int.natCast_succ, Post]
end Go.Fv.Y
