/-
  A part of the proof of the claim: walks over the program's functions and the plain laws that these need. No condition of its own.
-/
import Derived.Test.YtmdaiceacfgkpaaGreatDoorYCorrectsCardPart7
import Derived.Test.YtmdaiceacfgkpaaGreatDoorYCorrectsCardPart2
import Derived.Test.YtmdaiceacfgkpaaGreatDoorYCorrectsCardPart5
import Derived.Test.YtmdaiceacfgkpaaGreatDoorYCorrectsCardPart6
import Derived.Test.YtmdaiceacfgkpaaGreatDoorYCorrectsCardPart3
namespace Go.Fv.Y
open Go Go.Proofs
set_option linter.unusedSimpArgs false
set_option linter.unusedVariables false
set_option linter.unnecessarySimpa false
set_option maxRecDepth 8000

instance {sw : List Sw} {a b : List UInt8} {r : Nat} : LNoId (costL sw a b r) := ⟨costL_noid sw a b r⟩
theorem belowL_set1 (sw : List Sw) (a b : List UInt8) (r i : Nat) : belowR 2 (.objs 1 ((costL sw a b r).set i [.own 1])) = true := by
  simp only [belowR, List.all_eq_true]
  intro x hx
  rcases List.mem_or_eq_of_mem_set hx with h | h
  · exact noIdL_below 2 x (List.all_eq_true.1 (costL_noid sw a b r) x h)
  · subst h; rfl

theorem pick_find {sw : List Sw} (hg : GoodSw sw) {x y : List UInt8} (h : ¬ (x = [] ∧ y = [])) : (steps sw x y).find? (fun s => decide (valS sw x y s = dist sw x y)) = some (pick sw x y) := by
  have hp : pick sw x y = ((steps sw x y).find? (fun s => decide (valS sw x y s = dist sw x y))).getD ⟨0, 1, 100⟩ := rfl
  obtain ⟨s, hs, he⟩ := dist_step hg h
  cases hq : (steps sw x y).find? (fun s => decide (valS sw x y s = dist sw x y)) with
  | none =>
    rw [List.find?_eq_none] at hq
    exact absurd (decide_eq_true he) (hq s hs)
  | some q => rw [hq] at hp; rw [hp]; rfl
theorem findS_step (f : St → Bool) (l : List St) {k : Nat} (h : k < l.length) : (l.drop k).find? f = if f (l.getD k St.zero) = true then some (l.getD k St.zero) else (l.drop (k + 1)).find? f := by
  rw [List.drop_eq_getElem_cons h, getD_lt h, List.find?_cons]
  cases f l[k] <;> rfl

set_option maxHeartbeats 16000000 in
theorem refScript_ok (l : List Mx) (hg : GoodSw (swL l)) (hl : l.length ≤ 1000) (a b : List UInt8) (ha : a.length ≤ 2000) (hb : b.length ≤ 2000) :
    FnOk Tryz.prog 53 [.str a, .str b, .ro (mxs l)] (.tup [.own 0, .int .i64 (dist (swL l) a b)]) [(0, .row 142 (sls (script (swL l) 0 a b)))] := by
  have kst := fun (i j : Nat) (hi : i ≤ a.length) (hj : j ≤ b.length) => steps_ok l hl a b i j hi hj
  have hsl : (swL l).length ≤ 2000 := by rw [swL_len]; omega
  refine FnOk.of_vc Tryz.func53 rfl (by decide) (by simp [Tryz.f53]) [.tmp 6, .tmp 7] rfl fun w0 T0 _ => ?_
  simp only [Tryz.f53, argEnv]
  generalize swL l = sw at *
  have hall := costL_all sw a b
  have hup : ((a.length : Int) + 1).toNat = a.length + 1 := by omega
  have hup2 : ((b.length : Int) + 1).toNat = b.length + 1 := by omega
  have hall2 := rowF_all sw a b
  (repeat' first | with_reducible (first | intro _ | refine rc ?_ | refine rl ?_ | refine rh ?_ | refine rt ?_ | refine rf ?_ | refine rs ?_ | refine And.intro ?_ ?_) | omega | simp (maxSteps := 1000000) only [go_sem, simprocAttr, ↓reduceIte, hup])
  refine VcLoop.intro (fun r : Nat => ⟨184, [(9, .int .i64 ((r : Int) - 1)), (8, .own 0), (0, .str a), (1, .str b), (2, .ro (mxs l))], [(0, .row 130 (.objs 1 (costL sw a b r)))], 1⟩) (fun r => r ≤ a.length + 1) (fun r => r) (a.length + 1) ?_ (Nat.le_refl _) fun r hr => ?_
  · refine Ent.auto0 rfl ?_ ?_ <;> simp only [go_sem, reduceCtorEq, reduceIte, Nat.reduceEqDiff, Nat.reduceLT, Nat.reduceLeDiff, Int.natCast_succ, hall]
    omega
  cases r with
  | zero =>
    have hc0 := costL_len sw a b 0
    (repeat' first | with_reducible (first | intro _ | refine rc ?_ | refine rl ?_ | refine rh ?_ | refine rt ?_ | refine rf ?_ | refine rs ?_ | refine And.intro ?_ ?_) | omega | simp (maxSteps := 1000000) only [go_sem, simprocAttr, ↓reduceIte])
    refine VcLoop.intro (fun x : Nat × Nat × List Sl => ⟨184, [(17, .int .i64 x.2.1), (16, .int .i64 x.1), (15, .own 1), (8, .own 0), (0, .str a), (1, .str b), (2, .ro (mxs l))], [(0, .row 130 (.objs 1 (costL sw a b 0))), (1, .row 142 (sls x.2.2))], 2⟩)
      (fun x => x.1 ≤ a.length ∧ x.2.1 ≤ b.length ∧ x.2.2.length ≤ x.1 + x.2.1 ∧ x.2.2 ++ script sw x.1 (a.drop x.1) (b.drop x.2.1) = script sw 0 a b) (fun x => a.length - x.1 + (b.length - x.2.1)) (0, 0, []) ?_ ⟨Nat.zero_le _, Nat.zero_le _, Nat.le_refl _, rfl⟩ fun x hx => ?_
    · refine Ent.same rfl (Nat.zero_le _) ?_ ?_ <;> simp only [go_sem, reduceCtorEq, reduceIte, Nat.reduceEqDiff, Nat.reduceLT, Nat.reduceLeDiff, Int.natCast_succ, Int.natCast_zero, sls, List.map_nil]
    obtain ⟨i, j, out⟩ := x
    dsimp only at hx
    by_cases hend : i < a.length ∨ j < b.length
    · have hne : ¬ (a.drop i = [] ∧ b.drop j = []) := by
        rintro ⟨e1, e2⟩
        simp at e1 e2; omega
      have ks := kst i j hx.1 hx.2.1
      have hpf := pick_find hg hne
      have hpb := pick_bd hg hne
      have hse := script_eq hg (i := i) hne
      have hxx := hx.2.2.2
      rw [hse] at hxx
      simp only [List.length_drop] at hpb
      have hsb : ∀ s, s ∈ steps sw (a.drop i) (b.drop j) → s.a ≤ a.length - i ∧ s.b ≤ b.length - j ∧ 1 ≤ s.a + s.b ∧ 0 ≤ s.c ∧ s.c ≤ 100 := fun s hs => by
        have := step_bd hg hs
        simpa only [List.length_drop] using this
      have hvS : ∀ s, valS sw (a.drop i) (b.drop j) s = s.c + dist sw (a.drop (i + s.a)) (b.drop (j + s.b)) := fun s => by unfold valS; rw [List.drop_drop, List.drop_drop]
      have hdij : (rowF sw a b i 0).getD j 0 = dist sw (a.drop i) (b.drop j) := rowF_get (by omega) (Nat.zero_le _)
      have hgi : (costL sw a b 0).getD i [] = [.ro (.ints .i64 (rowF sw a b i 0))] := costL_get (by omega) (Nat.zero_le _)
      have hfl := rowF_len sw a b i 0
      generalize pick sw (a.drop i) (b.drop j) = p at *
      clear hse
      generalize hS : steps sw (a.drop i) (b.drop j) = S at *
      (repeat' first | with_reducible (first | intro _ | refine rc ?_ | refine rl ?_ | refine rh ?_ | refine rt ?_ | refine rf ?_ | refine rs ?_ | refine And.intro ?_ ?_) | omega | simp (maxSteps := 1000000) only [go_sem, simprocAttr, ↓reduceIte])
      refine VcCall.ro (.ro (sts S)) (FnFr.of_ok ks rfl (by simp [noRoRows, noRoItem, noRoRow, noRoL, noRo, sts, St.av])) (by simp only [noIdR_ok, argOkL, argOk, allOk, argOkN, List.drop_zero, lk, reduceIte, reduceCtorEq, Nat.reduceEqDiff, Option.some.injEq, Item.row.injEq, Item.box.injEq, AV.ro.injEq, exists_eq_left, exists_and_left, exists_eq_left', exists_eq_right, and_assoc, and_true, true_and, List.cons.injEq, exists_eq', exists_eq, mxs]) (by simp [outOk, argOk, argOkN, lk, noIdR_ok]) rfl ?_
      (repeat' first | with_reducible (first | intro _ | refine rc ?_ | refine rl ?_ | refine rh ?_ | refine rt ?_ | refine rf ?_ | refine rs ?_ | refine And.intro ?_ ?_) | omega | simp (maxSteps := 1000000) only [go_sem, simprocAttr, ↓reduceIte, sts, List.length_map])
      refine VcLoop.intro (fun k : Nat => ⟨184, [(115, .int .i64 k), (114, .int .i64 S.length), (113, .ro (sts S)), (17, .int .i64 j), (16, .int .i64 i), (15, .own 1), (8, .own 0), (0, .str a), (1, .str b), (2, .ro (mxs l))], [(0, .row 130 (.objs 1 (costL sw a b 0))), (1, .row 142 (sls out))], 2⟩) (fun k => k ≤ S.length ∧ (S.drop k).find? (fun s => decide (valS sw (a.drop i) (b.drop j) s = dist sw (a.drop i) (b.drop j))) = some p) (fun k => S.length - k) 0 ?_ ⟨Nat.zero_le _, hpf⟩ fun k hk => ?_
      · refine Ent.same rfl (Nat.zero_le _) ?_ ?_ <;> simp only [go_sem, reduceCtorEq, reduceIte, Nat.reduceEqDiff, Nat.reduceLT, Nat.reduceLeDiff, Int.natCast_succ, sts, Int.natCast_zero]
      by_cases hkl : k < S.length
      · have hel := st_elem S hkl
        have hfs := findS_step (fun s => decide (valS sw (a.drop i) (b.drop j) s = dist sw (a.drop i) (b.drop j))) S hkl
        have hbs := hsb (S.getD k St.zero) (by rw [getD_lt hkl]; exact List.getElem_mem hkl)
        rw [hk.2] at hfs
        generalize S.getD k St.zero = s at *
        rw [hvS] at hfs
        have ta : ((i : Int) + s.a).toNat = i + s.a := by omega
        have tb : ((j : Int) + s.b).toNat = j + s.b := by omega
        have hgs : (costL sw a b 0).getD (i + s.a) [] = [.ro (.ints .i64 (rowF sw a b (i + s.a) 0))] := costL_get (by omega) (Nat.zero_le _)
        have hfs2 := rowF_len sw a b (i + s.a) 0
        have hgv : (rowF sw a b (i + s.a) 0).getD (j + s.b) 0 = dist sw (a.drop (i + s.a)) (b.drop (j + s.b)) := rowF_get (by omega) (Nat.zero_le _)
        have bs := dist_bd hg _ (a.drop (i + s.a)) (b.drop (j + s.b)) (Nat.le_refl _)
        simp only [List.length_drop] at bs
        have sla : List.take (i + s.a - i) (a.drop i) = (a.drop i).take s.a := by rw [Nat.add_sub_cancel_left]
        have slb : List.take (j + s.b - j) (b.drop j) = (b.drop j).take s.b := by rw [Nat.add_sub_cancel_left]
        have hsn := sls_snoc out i ((a.drop i).take s.a) ((b.drop j).take s.b) s.c
        generalize hd0 : dist sw (a.drop i) (b.drop j) = d0 at *
        generalize dist sw (a.drop (i + s.a)) (b.drop (j + s.b)) = ds at *
        (repeat' first | with_reducible (first | intro _ | refine rc ?_ | refine rl ?_ | refine rh ?_ | refine rt ?_ | refine rf ?_ | refine rs ?_ | refine And.intro ?_ ?_) | omega | simp (maxSteps := 1000000) only [go_sem, simprocAttr, ↓reduceIte, elemA, hel, sts, List.length_map])
        refine VcDraw.lex [] [] (by kernel_rfl) (by kernel_rfl) ?_
        (repeat' first | with_reducible (first | intro _ | refine rc ?_ | refine rl ?_ | refine rh ?_ | refine rt ?_ | refine rf ?_ | refine rs ?_ | refine And.intro ?_ ?_) | omega | simp (maxSteps := 1000000) only [go_sem, simprocAttr, ↓reduceIte, elemA, ta, tb, hgs, hgv, hgi, hdij, hc0, hfl, hfs2, Int.toNat_natCast])
        · have hne2 : ¬ s.c + ds = d0 := by assumption
          rw [if_neg (by simpa using hne2)] at hfs
          refine ⟨k + 1, ?_, ⟨by omega, hfs.symm⟩, by omega⟩
          refine Ent.same rfl (Nat.zero_le _) ?_ ?_ <;> simp only [go_sem, reduceCtorEq, reduceIte, Nat.reduceEqDiff, Nat.reduceLT, Nat.reduceLeDiff, Int.natCast_succ, sts]
        · have heq2 : s.c + ds = d0 := Decidable.of_not_not (by assumption)
          rw [if_pos (by simpa using heq2)] at hfs
          cases hfs
          refine VcDraw.lex [] [] (by kernel_rfl) (by kernel_rfl) ?_
          (repeat' first | with_reducible (first | intro _ | refine rc ?_ | refine rl ?_ | refine rh ?_ | refine rt ?_ | refine rf ?_ | refine rs ?_ | refine And.intro ?_ ?_) | omega | simp (maxSteps := 1000000) only [go_sem, simprocAttr, ↓reduceIte, ta, tb, sla, slb, Int.toNat_natCast])
          · have hxy : ¬ (a.drop i).take p.a = (b.drop j).take p.b := by assumption
            rw [if_neg hxy, List.drop_drop, List.drop_drop, ← List.append_assoc] at hxx
            (repeat' first | with_reducible (first | intro _ | refine rc ?_ | refine rl ?_ | refine rh ?_ | refine rt ?_ | refine rf ?_ | refine rs ?_ | refine And.intro ?_ ?_) | omega | simp (maxSteps := 1000000) only [go_sem, simprocAttr, ↓reduceIte, sls, hsn, List.length_map])
            refine VcDraw.lex [] [] (by kernel_rfl) (by kernel_rfl) ?_
            (repeat' first | with_reducible (first | intro _ | refine rc ?_ | refine rl ?_ | refine rh ?_ | refine rt ?_ | refine rf ?_ | refine rs ?_ | refine And.intro ?_ ?_) | omega | simp (maxSteps := 1000000) only [go_sem, simprocAttr, ↓reduceIte])
            refine ⟨(i + p.a, j + p.b, out ++ [⟨i, (a.drop i).take p.a, (b.drop j).take p.b, p.c⟩]), ?_, ⟨by dsimp only; omega, by dsimp only; omega, by simp; omega, hxx⟩, by dsimp only; omega⟩
            refine Ent.auto0 rfl ?_ ?_ <;> simp only [go_sem, reduceCtorEq, reduceIte, Nat.reduceEqDiff, Nat.reduceLT, Nat.reduceLeDiff, Int.natCast_succ, sls, Int.natCast_add]
          · have hxy : (a.drop i).take p.a = (b.drop j).take p.b := by first | assumption | exact Decidable.of_not_not (by assumption)
            rw [if_pos hxy, List.nil_append, List.drop_drop, List.drop_drop] at hxx
            (repeat' first | with_reducible (first | intro _ | refine rc ?_ | refine rl ?_ | refine rh ?_ | refine rt ?_ | refine rf ?_ | refine rs ?_ | refine And.intro ?_ ?_) | omega | simp (maxSteps := 1000000) only [go_sem, simprocAttr, ↓reduceIte])
            refine VcDraw.lex [] [] (by kernel_rfl) (by kernel_rfl) ?_
            (repeat' first | with_reducible (first | intro _ | refine rc ?_ | refine rl ?_ | refine rh ?_ | refine rt ?_ | refine rf ?_ | refine rs ?_ | refine And.intro ?_ ?_) | omega | simp (maxSteps := 1000000) only [go_sem, simprocAttr, ↓reduceIte])
            refine ⟨(i + p.a, j + p.b, out), ?_, ⟨by dsimp only; omega, by dsimp only; omega, by dsimp only; omega, hxx⟩, by dsimp only; omega⟩
            refine Ent.auto0 rfl ?_ ?_ <;> simp only [go_sem, reduceCtorEq, reduceIte, Nat.reduceEqDiff, Nat.reduceLT, Nat.reduceLeDiff, Int.natCast_succ, sls, Int.natCast_add]
      · have ek : k = S.length := by omega
        have := hk.2
        rw [ek, List.drop_length] at this
        cases this
    · have ei : i = a.length := by omega
      have ej : j = b.length := by omega
      have hxx := hx.2.2.2
      have hg0 : (costL sw a b 0).getD 0 [] = [.ro (.ints .i64 (rowF sw a b 0 0))] := costL_get (by omega) (Nat.zero_le _)
      have hd00 : (rowF sw a b 0 0).getD 0 0 = dist sw a b := by
        have := rowF_get (sw := sw) (a := a) (b := b) (q := 0) (c := 0) (j := 0) (by omega) (Nat.le_refl _)
        simpa using this
      have hfl := rowF_len sw a b 0 0
      subst ei; subst ej
      rw [List.drop_length, List.drop_length, script_nil, List.append_nil] at hxx
      (repeat' first | with_reducible (first | intro _ | refine rc ?_ | refine rl ?_ | refine rh ?_ | refine rt ?_ | refine rf ?_ | refine rs ?_ | refine And.intro ?_ ?_) | omega | simp (maxSteps := 1000000) only [go_sem, simprocAttr, ↓reduceIte])
      refine VcDraw.lex [] [] (by kernel_rfl) (by kernel_rfl) ?_
      (repeat' first | with_reducible (first | intro _ | refine rc ?_ | refine rl ?_ | refine rh ?_ | refine rt ?_ | refine rf ?_ | refine rs ?_ | refine And.intro ?_ ?_) | omega | simp (maxSteps := 1000000) only [go_sem, simprocAttr, ↓reduceIte, elemA, hg0, hd00, hc0, hfl, Int.toNat_zero])
      refine Ret.auto 1 ?_ rfl ?_ <;> simp only [go_sem, reduceCtorEq, reduceIte, Nat.reduceEqDiff, Nat.reduceLT, Nat.reduceLeDiff, Int.natCast_succ, Post, sls, hxx]
  | succ i =>
    have er : (((i + 1 : Nat) : Int)) - 1 = (i : Int) := by omega
    have hcl := costL_len sw a b (i + 1)
    have hcl2 : ((costL sw a b (i + 1)).set i [.own 1]).length = a.length + 1 := by rw [List.length_set]; exact hcl
    (repeat' first | with_reducible (first | intro _ | refine rc ?_ | refine rl ?_ | refine rh ?_ | refine rt ?_ | refine rf ?_ | refine rs ?_ | refine And.intro ?_ ?_) | omega | simp (maxSteps := 1000000) only [go_sem, simprocAttr, ↓reduceIte, er, hup2, hcl])
    refine VcLoop.intro (fun c : Nat => ⟨184, [(10, .int .i64 ((c : Int) - 1)), (9, .int .i64 i), (8, .own 0), (0, .str a), (1, .str b), (2, .ro (mxs l))], [(0, .row 130 (.objs 1 ((costL sw a b (i + 1)).set i [.own 1]))), (1, .row 3 (.ints .i64 (rowF sw a b i c)))], 2⟩) (fun c => c ≤ b.length + 1) (fun c => c) (b.length + 1) ?_ (Nat.le_refl _) fun c hc => ?_
    · have hgi : (costL sw a b (i + 1)).getD i [] = [.nilS] := by
        rw [getD_lt (by rw [hcl]; omega)]; simp [costL]
      refine Ent.same rfl (Nat.zero_le _) ?_ ?_ <;> simp only [go_sem, reduceCtorEq, reduceIte, Nat.reduceEqDiff, Nat.reduceLT, Nat.reduceLeDiff, Int.natCast_succ, hall2, belowL_set1, hgi]
      omega
    have hset := @costL_set sw a b i
    cases c with
    | zero =>
      have hidR : noIdR (.ints .i64 (rowF sw a b i 0)) = true := rfl
      (repeat' first | with_reducible (first | intro _ | refine rc ?_ | refine rl ?_ | refine rh ?_ | refine rt ?_ | refine rf ?_ | refine rs ?_ | refine And.intro ?_ ?_) | omega | simp (maxSteps := 1000000) only [go_sem, simprocAttr, ↓reduceIte])
      refine ⟨i, ?_, by omega, by omega⟩
      refine Ent.trans (Ent.fz 1 rfl hidR (Nat.zero_le _)) ?_
      simp only [S.fz, fzE, fz, fzRows, fzI, fzR, fzL_costL, hset, Nat.reduceEqDiff, if_true, if_false, reduceIte, fzL]
      refine Ent.auto0 rfl ?_ ?_ <;> simp only [go_sem, reduceCtorEq, reduceIte, Nat.reduceEqDiff, Nat.reduceLT, Nat.reduceLeDiff, Int.natCast_succ]
    | succ j =>
      have ej : (((j + 1 : Nat) : Int)) - 1 = (j : Int) := by omega
      have hfl := rowF_len sw a b i (j + 1)
      by_cases hend : i = a.length ∧ j = b.length
      · obtain ⟨e1, e2⟩ := hend
        subst e1; subst e2
        have hz := @rowF_zero sw a b a.length b.length (by rw [List.drop_length, List.drop_length]; rfl)
        (repeat' first | with_reducible (first | intro _ | refine rc ?_ | refine rl ?_ | refine rh ?_ | refine rt ?_ | refine rf ?_ | refine rs ?_ | refine And.intro ?_ ?_) | omega | simp (maxSteps := 1000000) only [go_sem, simprocAttr, ↓reduceIte, ej, hcl2, hfl])
        refine ⟨b.length, ?_, by omega, by omega⟩
        refine Ent.same rfl (Nat.zero_le _) ?_ ?_ <;> simp only [go_sem, reduceCtorEq, reduceIte, Nat.reduceEqDiff, Nat.reduceLT, Nat.reduceLeDiff, Int.natCast_succ, belowL_set1, hz]
      · have hne : ¬ (a.drop i = [] ∧ b.drop j = []) := by
          rintro ⟨e1, e2⟩
          simp at e1 e2; omega
        have hmf := mfold_dist hg hne
        have ks := kst i j (by omega) (by omega)
        have hsb : ∀ s, s ∈ steps sw (a.drop i) (b.drop j) → s.a ≤ a.length - i ∧ s.b ≤ b.length - j ∧ 1 ≤ s.a + s.b ∧ 0 ≤ s.c ∧ s.c ≤ 100 := fun s hs => by
          have := step_bd hg hs
          simpa only [List.length_drop] using this
        have hstl : (steps sw (a.drop i) (b.drop j)).length ≤ 3000 := by
          have h1 : (swSteps sw (a.drop i) (b.drop j)).length ≤ sw.length := by unfold swSteps; rw [List.length_map]; exact List.length_filter_le _ _
          unfold steps
          simp only [List.length_append]
          (repeat' split) <;> simp <;> omega
        have hvS : ∀ s, valS sw (a.drop i) (b.drop j) s = s.c + dist sw (a.drop (i + s.a)) (b.drop (j + s.b)) := fun s => by unfold valS; rw [List.drop_drop, List.drop_drop]
        have hrs : ∀ v, v = dist sw (a.drop i) (b.drop j) → (rowF sw a b i (j + 1)).set j v = rowF sw a b i j := fun v hv => rowF_set hv
        generalize hS : steps sw (a.drop i) (b.drop j) = S at *
        have hcd : ¬ ((i : Int) = (a.length : Int) ∧ (j : Int) = (b.length : Int)) := by omega
        (repeat' first | with_reducible (first | intro _ | refine rc ?_ | refine rl ?_ | refine rh ?_ | refine rt ?_ | refine rf ?_ | refine rs ?_ | refine And.intro ?_ ?_) | omega | simp (maxSteps := 1000000) only [go_sem, simprocAttr, ↓reduceIte, ej, hcl2, hfl, hcd])
        refine VcCall.ro (.ro (sts S)) (FnFr.of_ok ks rfl (by simp [noRoRows, noRoItem, noRoRow, noRoL, noRo, sts, St.av])) (by simp only [noIdR_ok, argOkL, argOk, allOk, argOkN, List.drop_zero, lk, reduceIte, reduceCtorEq, Nat.reduceEqDiff, Option.some.injEq, Item.row.injEq, Item.box.injEq, AV.ro.injEq, exists_eq_left, exists_and_left, exists_eq_left', exists_eq_right, and_assoc, and_true, true_and, List.cons.injEq, exists_eq', exists_eq, mxs]) (by simp [outOk, argOk, argOkN, lk, noIdR_ok]) rfl ?_
        (repeat' first | with_reducible (first | intro _ | refine rc ?_ | refine rl ?_ | refine rh ?_ | refine rt ?_ | refine rf ?_ | refine rs ?_ | refine And.intro ?_ ?_) | omega | simp (maxSteps := 1000000) only [go_sem, simprocAttr, ↓reduceIte, sts, List.length_map])
        refine VcLoop.intro (fun x : Nat × Int => ⟨184, [(62, .int .i64 x.1), (61, .int .i64 S.length), (60, .ro (sts S)), (11, .int .i64 x.2), (10, .int .i64 j), (9, .int .i64 i), (8, .own 0), (0, .str a), (1, .str b), (2, .ro (mxs l))], [(0, .row 130 (.objs 1 ((costL sw a b (i + 1)).set i [.own 1]))), (1, .row 3 (.ints .i64 (rowF sw a b i (j + 1))))], 2⟩) (fun x => x.1 ≤ S.length ∧ -1 ≤ x.2 ∧ x.2 ≤ 1000000 ∧ mfold x.2 ((S.drop x.1).map (valS sw (a.drop i) (b.drop j))) = dist sw (a.drop i) (b.drop j)) (fun x => S.length - x.1) (0, -1) ?_ ⟨Nat.zero_le _, Int.le_refl _, by decide, hmf⟩ fun x hx => ?_
        · refine Ent.same rfl (Nat.zero_le _) ?_ ?_ <;> simp only [go_sem, reduceCtorEq, reduceIte, Nat.reduceEqDiff, Nat.reduceLT, Nat.reduceLeDiff, Int.natCast_succ, belowL_set1, sts, Int.natCast_zero]
        obtain ⟨k, best⟩ := x
        dsimp only at hx
        by_cases hk : k < S.length
        · have hel := st_elem S hk
          have hstp := mfold_step (valS sw (a.drop i) (b.drop j)) S hk best
          have hbs := hsb (S.getD k St.zero) (by rw [getD_lt hk]; exact List.getElem_mem hk)
          generalize S.getD k St.zero = s at *
          obtain ⟨sa, sb, sc⟩ := s
          dsimp only at hbs hel
          rw [hvS, hx.2.2.2] at hstp
          dsimp only at hstp
          have bs := dist_bd hg _ (a.drop (i + sa)) (b.drop (j + sb)) (Nat.le_refl _)
          simp only [List.length_drop] at bs
          have ta : ((i : Int) + sa).toNat = i + sa := by omega
          have tb : ((j : Int) + sb).toNat = j + sb := by omega
          have hfl0 := rowF_len sw a b (i + sa) 0
          by_cases hsa : sa = 0
          case' pos =>
            subst hsa
            simp only [Nat.add_zero, Int.natCast_zero] at hstp bs ta hfl0
            have hgt : ((costL sw a b (i + 1)).set i [.own 1]).getD i [] = [.own 1] := by rw [getD_lt (by rw [List.length_set, hcl]; omega), List.getElem_set_self]
            have hgv : (rowF sw a b i (j + 1)).getD (j + sb) 0 = dist sw (a.drop i) (b.drop (j + sb)) := rowF_get (by omega) (by omega)
          case' neg =>
            have hgt : ((costL sw a b (i + 1)).set i [.own 1]).getD (i + sa) [] = [.ro (.ints .i64 (rowF sw a b (i + sa) 0))] := by
              rw [getD_lt (by rw [List.length_set, hcl]; omega), List.getElem_set_ne (by omega), ← getD_lt (d := [])]
              exact costL_get (by omega) (by omega)
            have hgv : (rowF sw a b (i + sa) 0).getD (j + sb) 0 = dist sw (a.drop (i + sa)) (b.drop (j + sb)) := rowF_get (by omega) (Nat.zero_le _)
          all_goals
            generalize dist sw (a.drop _) (b.drop (j + sb)) = ds at *
            (repeat' first | with_reducible (first | intro _ | refine rc ?_ | refine rl ?_ | refine rh ?_ | refine rt ?_ | refine rf ?_ | refine rs ?_ | refine And.intro ?_ ?_) | omega | simp (maxSteps := 1000000) only [go_sem, simprocAttr, ↓reduceIte, elemA, hel, sts, List.length_map])
            refine VcDraw.lex [] [] (by kernel_rfl) (by kernel_rfl) ?_
            (repeat' first | with_reducible (first | intro _ | refine rc ?_ | refine rl ?_ | refine rh ?_ | refine rt ?_ | refine rf ?_ | refine rs ?_ | refine And.intro ?_ ?_) | omega | simp (maxSteps := 1000000) only [go_sem, simprocAttr, ↓reduceIte, elemA, ta, tb, hgt, hgv, hcl2, hfl, hfl0])
            · have h : best < 0 ∨ sc + ds < best := by assumption
              rw [if_pos h] at hstp
              refine ⟨(k + 1, sc + ds), Ent.same rfl (Nat.zero_le _) ?_ ?_, ⟨by dsimp only; omega, by dsimp only; omega, by dsimp only; omega, hstp.symm⟩, by dsimp only; omega⟩ <;> simp only [go_sem, reduceCtorEq, reduceIte, Nat.reduceEqDiff, Nat.reduceLT, Nat.reduceLeDiff, Int.natCast_succ, belowL_set1, sts]
            · have h : ¬ (best < 0 ∨ sc + ds < best) := by assumption
              rw [if_neg h] at hstp
              refine ⟨(k + 1, best), Ent.same rfl (Nat.zero_le _) ?_ ?_, ⟨by dsimp only; omega, by dsimp only; omega, by dsimp only; omega, hstp.symm⟩, by dsimp only; omega⟩ <;> simp only [go_sem, reduceCtorEq, reduceIte, Nat.reduceEqDiff, Nat.reduceLT, Nat.reduceLeDiff, Int.natCast_succ, belowL_set1, sts]
        · have ek : k = S.length := by omega
          have hfin := hx.2.2.2
          rw [ek, List.drop_length] at hfin
          have hfin' : best = dist sw (a.drop i) (b.drop j) := hfin
          have hgt : ((costL sw a b (i + 1)).set i [.own 1]).getD i [] = [.own 1] := by rw [getD_lt (by rw [List.length_set, hcl]; omega), List.getElem_set_self]
          (repeat' first | with_reducible (first | intro _ | refine rc ?_ | refine rl ?_ | refine rh ?_ | refine rt ?_ | refine rf ?_ | refine rs ?_ | refine And.intro ?_ ?_) | omega | simp (maxSteps := 1000000) only [go_sem, simprocAttr, ↓reduceIte, sts, List.length_map, elemA, hgt, hcl2, hfl, hrs _ hfin', Int.toNat_natCast])
          refine ⟨j, Ent.same rfl (Nat.zero_le _) ?_ ?_, by omega, by omega⟩ <;> simp only [go_sem, reduceCtorEq, reduceIte, Nat.reduceEqDiff, Nat.reduceLT, Nat.reduceLeDiff, Int.natCast_succ, belowL_set1]
end Go.Fv.Y

/- The walks of near and Near, of the program and of the reference. -/
namespace Go.Fv.Y
open Go Go.Proofs
set_option linter.unusedSimpArgs false
set_option linter.unusedVariables false
set_option linter.unnecessarySimpa false
set_option maxRecDepth 8000

theorem isWd_l40 {s : Bytes} (h : isWd s = true) : s.length ≤ 40 := by
  unfold isWd at h
  simp only [Bool.and_eq_true, decide_eq_true_eq] at h
  exact h.1.1.1.2
theorem gs_snoc (l : List Gs) (t : Bytes) (d c : Int) : (l ++ [(⟨t, d, c⟩ : Gs)]).map Gs.av = l.map Gs.av ++ [[.str t, .int .i64 d, .int .i64 c]] := by simp [Gs.av]
theorem gs_ok {D : List Wd} (hg : GoodD D) {sw : List Sw} (hsw : GoodSw sw) {w : Bytes} (hw : w.length ≤ 1000) {most : Int} {ws : List Bytes} (hws : ∀ x, x ∈ ws → x ∈ wsD D) : ∀ x, x ∈ gsAll D sw w most ws → GsOk x := fun x hx => by
  obtain ⟨h1, h2, h3, _⟩ := mem_gsAll hx
  have h4 := hws _ h1
  have hl := isWd_l40 (ws_isWd hg h4)
  have hb := dist_bd hsw _ w x.t (Nat.le_refl _)
  obtain ⟨y, hy, e⟩ := List.mem_map.1 (ws_mem.1 h4)
  have hc := cntD_mem hg.nd hy
  have hyb := (hg.wd y hy).2
  rw [e] at hc
  exact ⟨by omega, by omega, by omega⟩
set_option maxHeartbeats 8000000 in
theorem near_ok (D : List Wd) (hg : GoodD D) (hl : D.length < 40) (sw : List Sw) (hsw : GoodSw sw) (hswl : sw.length ≤ 4000) (w : Bytes) (hw : w.length ≤ 1000) (most : Int) :
    FnOk Tryz.prog 50 [.cell [.mp (dKs D) (dVs D), .ro (.strs (wsD D))], .str w, .mp (kgKs (grp [] sw)) (kgVs (grp [] sw)), .int .i64 most] (.own 0) [(0, .row 41 (gsR (nearL D sw w most)))] := by
  have hwl := ws_len D
  have hst := gsAll_stab D sw w most (ws_lt hg)
  have hgl := gsAll_len D sw w most (wsD D)
  have kS := sortStable_io 91 near1_ok (gsAll D sw w most (wsD D)) (by omega) hst
  have h40 : ∀ x, x ∈ wsD D → x.length ≤ 40 := fun x hx => isWd_l40 (ws_isWd hg hx)
  have htk : ∀ i, i < D.length → gsAll D sw w most ((wsD D).take (i + 1)) = gsAll D sw w most ((wsD D).take i) ++ gsOf D sw w most ((wsD D).getD i []) := fun i hi => gsAll_take D sw w most (by omega)
  have hgi : ∀ i, i ≤ D.length → (gsAll D sw w most ((wsD D).take i)).length ≤ 40 := fun i hi => by
    have := gsAll_len D sw w most ((wsD D).take i)
    rw [List.length_take] at this; omega
  have hall : gsAll D sw w most ((wsD D).take D.length) = gsAll D sw w most (wsD D) := by rw [← hwl, List.take_length]
  have e4 := isI_d D
  have e5 : KeysT Tryz.prog 9 (dKs D) := keysT_d (by kernel_rfl) _
  have e1 := getI_d D
  have hga0 : gsAll D sw w most [] = [] := rfl
  unfold nearL
  refine FnOk.of_vc Tryz.func50 rfl (by decide) (by simp [Tryz.f50]) [.tmp 8] rfl fun w0 T0 _ => ?_
  simp only [Tryz.f50, argEnv]
  generalize hws : wsD D = ws at *
  (repeat' first | with_reducible (first | intro _ | refine rc ?_ | refine rl ?_ | refine rh ?_ | refine rt ?_ | refine rf ?_ | refine rs ?_ | refine And.intro ?_ ?_) | omega | simp (maxSteps := 1000000) only [go_sem, simprocAttr, ↓reduceIte])
  refine VcLoop.intro (fun i : Nat => ⟨47, [(18, .int .i64 i), (17, .int .i64 D.length), (16, .ro (.strs ws)), (9, .own 0), (0, .cell [.mp (dKs D) (dVs D), .ro (.strs ws)]), (1, .str w), (2, .mp (kgKs (grp [] sw)) (kgVs (grp [] sw))), (3, .int .i64 most)], [(0, .row 41 (gsR (gsAll D sw w most (ws.take i))))], 1⟩) (fun i => i ≤ D.length) (fun i => D.length - i) 0 ?_ (Nat.zero_le _) fun i hi => ?_
  · refine Ent.auto0 rfl ?_ ?_ <;> simp only [go_sem, reduceCtorEq, reduceIte, Nat.reduceEqDiff, Nat.reduceLT, Nat.reduceLeDiff, Int.natCast_succ, hwl, gsR, List.take_zero, hga0, List.map_nil]
  by_cases hlt : i < D.length
  · have hxl := h40 (ws.getD i []) (by rw [getD_lt (by omega)]; exact List.getElem_mem _)
    have kT := table_ok sw hsw hswl w (ws.getD i []) (by omega) (by omega)
    have htl := tab_len sw w (ws.getD i []) 0
    have ht0 := tab_first sw w (ws.getD i [])
    have hpos : 0 < (w.length + 1) * ((ws.getD i []).length + 1) := Nat.mul_pos (by omega) (by omega)
    have hst := htk i hlt
    have hgl1 := hgi i (by omega)
    unfold gsOf at hst
    generalize hx : ws.getD i [] = x at *
    have e1 := e1 x
    generalize hG : gsAll D sw w most (ws.take i) = G at *
    generalize hG2 : gsAll D sw w most (ws.take (i + 1)) = G2 at *
    generalize tab sw w x 0 = tb at *
    generalize dist sw w x = dd at *
    (repeat' first | with_reducible (first | intro _ | refine rc ?_ | refine rl ?_ | refine rh ?_ | refine rt ?_ | refine rf ?_ | refine rs ?_ | refine And.intro ?_ ?_) | omega | simp (maxSteps := 1000000) only [go_sem, simprocAttr, ↓reduceIte, hwl, hx])
    refine VcCall.fr (FnFr.of_ok kT rfl rfl) (by simp only [noIdR_ok, argOkL, argOk, allOk, argOkN, List.drop_zero, lk, reduceIte, reduceCtorEq, Nat.reduceEqDiff, Option.some.injEq, Item.row.injEq, Item.box.injEq, AV.ro.injEq, exists_eq_left, exists_and_left, exists_eq_left', exists_eq_right, and_assoc, and_true, true_and, List.cons.injEq, exists_eq', exists_eq]) 1 rfl (by simp [rowsB, Item.below]) ?_
    by_cases hd : dd ≤ most
    · rw [if_pos hd] at hst
      have hm : G2.map Gs.av = G.map Gs.av ++ [[.str x, .int .i64 dd, .int .i64 (cntD D x)]] := by rw [hst, gs_snoc]
      (repeat' first | with_reducible (first | intro _ | refine rc ?_ | refine rl ?_ | refine rh ?_ | refine rt ?_ | refine rf ?_ | refine rs ?_ | refine And.intro ?_ ?_) | omega | simp (maxSteps := 1000000) only [go_sem, simprocAttr, ↓reduceIte, htl, elemA, ht0, Int.toNat_zero, hd, e1, e4, e5, gsR, List.length_map])
      refine ⟨i + 1, Ent.auto0 rfl ?_ ?_, by omega, by omega⟩ <;> simp only [go_sem, reduceCtorEq, reduceIte, Nat.reduceEqDiff, Nat.reduceLT, Nat.reduceLeDiff, Int.natCast_succ, gsR, hG2, hm]
    · rw [if_neg hd, List.append_nil] at hst
      (repeat' first | with_reducible (first | intro _ | refine rc ?_ | refine rl ?_ | refine rh ?_ | refine rt ?_ | refine rf ?_ | refine rs ?_ | refine And.intro ?_ ?_) | omega | simp (maxSteps := 1000000) only [go_sem, simprocAttr, ↓reduceIte, htl, elemA, ht0, Int.toNat_zero, hd, gsR, List.length_map])
      refine ⟨i + 1, Ent.auto0 rfl ?_ ?_, by omega, by omega⟩ <;> simp only [go_sem, reduceCtorEq, reduceIte, Nat.reduceEqDiff, Nat.reduceLT, Nat.reduceLeDiff, Int.natCast_succ, gsR, hG2, hst]
  · have e : i = D.length := by omega
    subst e
    rw [hall]
    (repeat' first | with_reducible (first | intro _ | refine rc ?_ | refine rl ?_ | refine rh ?_ | refine rt ?_ | refine rf ?_ | refine rs ?_ | refine And.intro ?_ ?_) | omega | simp (maxSteps := 1000000) only [go_sem, simprocAttr, ↓reduceIte, hwl])
    refine VcCall.io [0] kS (by decide) (by simp [renL, ren, ioN]) rfl (by simp [subOk, ioN, lk, Item.ren, Item.below, gsR, renR_ok, belowR_ok]) covG1 1 (by decide) rfl (by simp [rowsB, Item.below, gsR, belowR_ok]) ?_
    (repeat' first | with_reducible (first | intro _ | refine rc ?_ | refine rl ?_ | refine rh ?_ | refine rt ?_ | refine rf ?_ | refine rs ?_ | refine And.intro ?_ ?_) | omega | simp (maxSteps := 1000000) only [go_sem, simprocAttr, ↓reduceIte, S.ioS, ioRows, ioN, delL, Item.ren, gsR, renR_ok, List.length_cons, List.length_nil, List.getElem?_cons_zero, List.getElem?_cons_succ, List.getElem?_nil, List.cons_append, List.nil_append, Nat.reduceAdd, Nat.sub_self, Nat.add_zero, List.filter])
    refine Ret.auto 1 ?_ rfl ?_ <;> simp only [go_sem, reduceCtorEq, reduceIte, Nat.reduceEqDiff, Nat.reduceLT, Nat.reduceLeDiff, Int.natCast_succ, Post, gsR]
end Go.Fv.Y

/- Near and its reference. -/
namespace Go.Fv.Y
open Go Go.Proofs
set_option linter.unusedSimpArgs false
set_option linter.unusedVariables false
set_option linter.unnecessarySimpa false
set_option maxRecDepth 8000

theorem badMost_ok (most : Int) : FnOk Tryz.prog 48 [.int .i64 most] (.bool (decide (most < 0 ∨ 10000 < most))) [] := by
  refine FnOk.of_vc Tryz.func48 rfl (by decide) (by simp [Tryz.f48]) [.tmp 2] rfl fun w0 T0 _ => ?_
  simp only [Tryz.f48, argEnv]
  (repeat' first | with_reducible (first | intro _ | refine rc ?_ | refine rl ?_ | refine rh ?_ | refine rt ?_ | refine rf ?_ | refine rs ?_ | refine And.intro ?_ ?_) | omega | simp (maxSteps := 1000000) only [go_sem, simprocAttr, ↓reduceIte])
  refine Ret.auto 0 ?_ rfl ?_ <;> simp only [go_sem, reduceCtorEq, reduceIte, Nat.reduceEqDiff, Nat.reduceLT, Nat.reduceLeDiff, Int.natCast_succ, Post]
theorem nearError_ok (l : List Mx) (w : Bytes) (most : Int) : FnOk Tryz.prog 52 [.str w, .ro (mxs l), .int .i64 most] (.int .i64 (nearErr l w most)) [] := by
  have k := mixesError_ok l
  unfold nearErr
  refine FnOk.of_vc Tryz.func52 rfl (by decide) (by simp [Tryz.f52]) [.tmp 6] rfl fun w0 T0 _ => ?_
  simp only [Tryz.f52, argEnv]
  by_cases h1 : most < 0 ∨ 10000 < most
  · rw [if_pos h1]
    (repeat' first | with_reducible (first | intro _ | refine rc ?_ | refine rl ?_ | refine rh ?_ | refine rt ?_ | refine rf ?_ | refine rs ?_ | refine And.intro ?_ ?_) | omega | simp (maxSteps := 1000000) only [go_sem, simprocAttr, ↓reduceIte, h1])
    refine Ret.auto 0 ?_ rfl ?_ <;> simp only [go_sem, reduceCtorEq, reduceIte, Nat.reduceEqDiff, Nat.reduceLT, Nat.reduceLeDiff, Int.natCast_succ, Post]
  rw [if_neg h1]
  by_cases h2 : 200 < w.length
  · rw [if_pos h2]
    (repeat' first | with_reducible (first | intro _ | refine rc ?_ | refine rl ?_ | refine rh ?_ | refine rt ?_ | refine rf ?_ | refine rs ?_ | refine And.intro ?_ ?_) | omega | simp (maxSteps := 1000000) only [go_sem, simprocAttr, ↓reduceIte, h1])
    refine Ret.auto 0 ?_ rfl ?_ <;> simp only [go_sem, reduceCtorEq, reduceIte, Nat.reduceEqDiff, Nat.reduceLT, Nat.reduceLeDiff, Int.natCast_succ, Post]
  · rw [if_neg h2]
    (repeat' first | with_reducible (first | intro _ | refine rc ?_ | refine rl ?_ | refine rh ?_ | refine rt ?_ | refine rf ?_ | refine rs ?_ | refine And.intro ?_ ?_) | omega | simp (maxSteps := 1000000) only [go_sem, simprocAttr, ↓reduceIte, h1])
    refine VcCall.k (k) ?_
    (repeat' first | with_reducible (first | intro _ | refine rc ?_ | refine rl ?_ | refine rh ?_ | refine rt ?_ | refine rf ?_ | refine rs ?_ | refine And.intro ?_ ?_) | omega | simp (maxSteps := 1000000) only [go_sem, simprocAttr, ↓reduceIte])
    refine Ret.auto 0 ?_ rfl ?_ <;> simp only [go_sem, reduceCtorEq, reduceIte, Nat.reduceEqDiff, Nat.reduceLT, Nat.reduceLeDiff, Int.natCast_succ, Post]
def nearOut (D : List Wd) (l : List Mx) (w : Bytes) (most : Int) : List Gs := if nearErr l w most = 0 then nearL D (swL l) w most else []
theorem nearErr_zero {l : List Mx} {w : Bytes} {most : Int} (h : nearErr l w most = 0) : ¬ (most < 0 ∨ 10000 < most) ∧ ¬ 200 < w.length ∧ mixErr l = 0 := by
  unfold nearErr at h
  by_cases h1 : most < 0 ∨ 10000 < most
  · rw [if_pos h1] at h; exact absurd h (by decide)
  rw [if_neg h1] at h
  by_cases h2 : 200 < w.length
  · rw [if_pos h2] at h; exact absurd h (by decide)
  rw [if_neg h2] at h
  exact ⟨h1, h2, h⟩
set_option maxHeartbeats 4000000 in
theorem nearW_ok (D : List Wd) (hg : GoodD D) (hl : D.length < 40) (l : List Mx) (w : Bytes) (most : Int) (E : Int) (hE : nearErr l w most = E) (O : List Gs) (hO : nearOut D l w most = O) :
    FnOk Tryz.prog 12 [.cell [.mp (dKs D) (dVs D), .ro (.strs (wsD D))], .str w, .ro (mxs l), .int .i64 most] (.tup [.own 0, .int .i64 E]) [(0, .row 41 (gsR O))] := by
  have kb := badMost_ok most
  have kc := checkWords_ok l [w] (by simp)
  have hw1 : wordsErr l [w] = if 200 < w.length then 4 else mixErr l := by unfold wordsErr; by_cases h : 200 < w.length <;> simp [h]
  rw [hw1] at kc
  unfold nearOut at hO
  rw [hE] at hO
  refine FnOk.of_vc Tryz.func12 rfl (by decide) (by simp [Tryz.f12]) [.tmp 8, .tmp 9] rfl fun w0 T0 _ => ?_
  simp only [Tryz.f12, argEnv]
  by_cases h1 : most < 0 ∨ 10000 < most
  · have e3 : E = 3 := by rw [← hE]; unfold nearErr; rw [if_pos h1]
    subst e3
    rw [if_neg (by decide)] at hO
    subst hO
    rw [decide_eq_true h1] at kb
    (repeat' first | with_reducible (first | intro _ | refine rc ?_ | refine rl ?_ | refine rh ?_ | refine rt ?_ | refine rf ?_ | refine rs ?_ | refine And.intro ?_ ?_) | omega | simp (maxSteps := 1000000) only [go_sem, simprocAttr, ↓reduceIte])
    refine VcCall.k (kb) ?_
    (repeat' first | with_reducible (first | intro _ | refine rc ?_ | refine rl ?_ | refine rh ?_ | refine rt ?_ | refine rf ?_ | refine rs ?_ | refine And.intro ?_ ?_) | omega | simp (maxSteps := 1000000) only [go_sem, simprocAttr, ↓reduceIte])
    refine Ret.auto 1 ?_ rfl ?_ <;> simp only [go_sem, reduceCtorEq, reduceIte, Nat.reduceEqDiff, Nat.reduceLT, Nat.reduceLeDiff, Int.natCast_succ, Post, gsR, List.map_nil]
  rw [decide_eq_false h1] at kb
  have hE2 : (if 200 < w.length then 4 else mixErr l) = E := by rw [← hE]; unfold nearErr; rw [if_neg h1]
  rw [hE2] at kc
  by_cases h0 : E = 0
  · subst h0
    rw [if_pos rfl] at hO
    obtain ⟨_, h2, h3⟩ := nearErr_zero hE
    obtain ⟨g1, g2, g3⟩ := mix_good h3
    have hml := (mixErr_zero h3).1
    have k1 := swaps_ok l g3 (by omega)
    have k2 := near_ok D hg hl (swL l) g1 (by omega) w (by omega) most
    rw [hO] at k2
    (repeat' first | with_reducible (first | intro _ | refine rc ?_ | refine rl ?_ | refine rh ?_ | refine rt ?_ | refine rf ?_ | refine rs ?_ | refine And.intro ?_ ?_) | omega | simp (maxSteps := 1000000) only [go_sem, simprocAttr, ↓reduceIte])
    refine VcCall.k (kb) ?_
    (repeat' first | with_reducible (first | intro _ | refine rc ?_ | refine rl ?_ | refine rh ?_ | refine rt ?_ | refine rf ?_ | refine rs ?_ | refine And.intro ?_ ?_) | omega | simp (maxSteps := 1000000) only [go_sem, simprocAttr, ↓reduceIte])
    refine VcCall.k kc ?_
    (repeat' first | with_reducible (first | intro _ | refine rc ?_ | refine rl ?_ | refine rh ?_ | refine rt ?_ | refine rf ?_ | refine rs ?_ | refine And.intro ?_ ?_) | omega | simp (maxSteps := 1000000) only [go_sem, simprocAttr, ↓reduceIte])
    refine VcCall.ros (.mp (kgKs (grp [] (swL l))) (kgVs (grp [] (swL l)))) k1 (by simp only [noIdR_ok, argOkL, argOk, allOk, argOkN, List.drop_zero, lk, reduceIte, reduceCtorEq, Nat.reduceEqDiff, Option.some.injEq, Item.row.injEq, Item.box.injEq, AV.ro.injEq, exists_eq_left, exists_and_left, exists_eq_left', exists_eq_right, and_assoc, and_true, true_and, List.cons.injEq, exists_eq', exists_eq]) (by simp [outOk, argOk, argOkN]) rfl ?_
    (repeat' first | with_reducible (first | intro _ | refine rc ?_ | refine rl ?_ | refine rh ?_ | refine rt ?_ | refine rf ?_ | refine rs ?_ | refine And.intro ?_ ?_) | omega | simp (maxSteps := 1000000) only [go_sem, simprocAttr, ↓reduceIte])
    refine VcCall.fr (FnFr.of_ok k2 rfl (by simp [noRoRows, noRoItem, noRoRow, noRoL, noRo, gsR, Gs.av])) (by simp only [noIdR_ok, argOkL, argOk, allOk, argOkN, List.drop_zero, lk, reduceIte, reduceCtorEq, Nat.reduceEqDiff, Option.some.injEq, Item.row.injEq, Item.box.injEq, AV.ro.injEq, exists_eq_left, exists_and_left, exists_eq_left', exists_eq_right, and_assoc, and_true, true_and, List.cons.injEq, exists_eq', exists_eq]) 1 rfl (by simp [rowsB, Item.below, gsR, belowR_ok]) ?_
    (repeat' first | with_reducible (first | intro _ | refine rc ?_ | refine rl ?_ | refine rh ?_ | refine rt ?_ | refine rf ?_ | refine rs ?_ | refine And.intro ?_ ?_) | omega | simp (maxSteps := 1000000) only [go_sem, simprocAttr, ↓reduceIte, gsR])
    refine Ret.auto 1 ?_ rfl ?_ <;> simp only [go_sem, reduceCtorEq, reduceIte, Nat.reduceEqDiff, Nat.reduceLT, Nat.reduceLeDiff, Int.natCast_succ, Post, gsR]
  · rw [if_neg h0] at hO
    subst hO
    (repeat' first | with_reducible (first | intro _ | refine rc ?_ | refine rl ?_ | refine rh ?_ | refine rt ?_ | refine rf ?_ | refine rs ?_ | refine And.intro ?_ ?_) | omega | simp (maxSteps := 1000000) only [go_sem, simprocAttr, ↓reduceIte])
    refine VcCall.k (kb) ?_
    (repeat' first | with_reducible (first | intro _ | refine rc ?_ | refine rl ?_ | refine rh ?_ | refine rt ?_ | refine rf ?_ | refine rs ?_ | refine And.intro ?_ ?_) | omega | simp (maxSteps := 1000000) only [go_sem, simprocAttr, ↓reduceIte])
    refine VcCall.k kc ?_
    (repeat' first | with_reducible (first | intro _ | refine rc ?_ | refine rl ?_ | refine rh ?_ | refine rt ?_ | refine rf ?_ | refine rs ?_ | refine And.intro ?_ ?_) | omega | simp (maxSteps := 1000000) only [go_sem, simprocAttr, ↓reduceIte, h0])
    refine Ret.auto 1 ?_ rfl ?_ <;> simp only [go_sem, reduceCtorEq, reduceIte, Nat.reduceEqDiff, Nat.reduceLT, Nat.reduceLeDiff, Int.natCast_succ, Post, gsR, List.map_nil]
set_option maxHeartbeats 8000000 in
theorem refNear_ok (D : List Wd) (hg : GoodD D) (hl : D.length < 40) (l : List Mx) (w : Bytes) (most : Int) (E : Int) (hE : nearErr l w most = E) (O : List Gs) (hO : nearOut D l w most = O) :
    FnOk Tryz.prog 13 [.cell [.ro (wdR (sortW D))], .str w, .ro (mxs l), .int .i64 most] (.tup [.own 0, .int .i64 E]) [(0, .row 41 (gsR O))] := by
  have ke := nearError_ok l w most
  rw [hE] at ke
  unfold nearOut at hO
  rw [hE] at hO
  refine FnOk.of_vc Tryz.func13 rfl (by decide) (by simp [Tryz.f13]) [.tmp 8, .tmp 9] rfl fun w0 T0 _ => ?_
  simp only [Tryz.f13, argEnv]
  by_cases h0 : E = 0
  · subst h0
    rw [if_pos rfl] at hO
    obtain ⟨_, h2, h3⟩ := nearErr_zero hE
    obtain ⟨g1, g2, g3⟩ := mix_good h3
    have hml := (mixErr_zero h3).1
    have hwl := ws_len D
    have hsl : (sortW D).length = D.length := (sortW_perm D).length_eq
    have kS := sortGs_io (gsAll D (swL l) w most (wsD D)) (gs_ok hg g1 (by omega) (fun x hx => hx)) (by have := gsAll_len D (swL l) w most (wsD D); omega)
    unfold nearL at hO
    rw [hO] at kS
    have hel : ∀ i, i < D.length → (sortW D).getD i Wd.zero = ⟨(wsD D).getD i [], cntD D ((wsD D).getD i [])⟩ := fun i hi => by
      have hm : (sortW D).getD i Wd.zero ∈ D := by
        rw [getD_lt (by omega)]
        exact (sortW_perm D).mem_iff.1 (List.getElem_mem _)
      have hc := cntD_mem hg.nd hm
      have ht : (wsD D).getD i [] = ((sortW D).getD i Wd.zero).t := by
        rw [wsD_eq, List.getD_eq_getElem?_getD, List.getElem?_map, List.getElem?_eq_getElem (by omega), getD_lt (by omega)]; rfl
      rw [ht, hc]
    have h40 : ∀ i, i < D.length → ((wsD D).getD i []).length ≤ 40 := fun i hi => isWd_l40 (ws_isWd hg (by rw [getD_lt (by omega)]; exact List.getElem_mem _))
    have htk : ∀ i, i < D.length → gsAll D (swL l) w most ((wsD D).take (i + 1)) = gsAll D (swL l) w most ((wsD D).take i) ++ gsOf D (swL l) w most ((wsD D).getD i []) := fun i hi => gsAll_take D (swL l) w most (by omega)
    have hgi : ∀ i, i ≤ D.length → (gsAll D (swL l) w most ((wsD D).take i)).length ≤ 40 := fun i hi => by
      have := gsAll_len D (swL l) w most ((wsD D).take i)
      rw [List.length_take] at this; omega
    have hall : gsAll D (swL l) w most ((wsD D).take D.length) = gsAll D (swL l) w most (wsD D) := by rw [← hwl, List.take_length]
    have kR := fun x hx => refScript_ok l g1 (by omega) w x (by omega) hx
    clear hO
    have hga0 : gsAll D (swL l) w most [] = [] := rfl
    generalize wsD D = ws at *
    generalize hRW : sortW D = RW at *
    (repeat' first | with_reducible (first | intro _ | refine rc ?_ | refine rl ?_ | refine rh ?_ | refine rt ?_ | refine rf ?_ | refine rs ?_ | refine And.intro ?_ ?_) | omega | simp (maxSteps := 1000000) only [go_sem, simprocAttr, ↓reduceIte])
    refine VcCall.k (ke) ?_
    (repeat' first | with_reducible (first | intro _ | refine rc ?_ | refine rl ?_ | refine rh ?_ | refine rt ?_ | refine rf ?_ | refine rs ?_ | refine And.intro ?_ ?_) | omega | simp (maxSteps := 1000000) only [go_sem, simprocAttr, ↓reduceIte, hsl, List.length_map])
    refine VcLoop.intro (fun i : Nat => ⟨56, [(28, .int .i64 i), (27, .int .i64 D.length), (26, .ro (wdR RW)), (11, .own 0), (1, .str w), (2, .ro (mxs l)), (3, .int .i64 most)], [(0, .row 41 (gsR (gsAll D (swL l) w most (ws.take i))))], 1⟩) (fun i => i ≤ D.length) (fun i => D.length - i) 0 ?_ (Nat.zero_le _) fun i hi => ?_
    · refine Ent.auto0 rfl ?_ ?_ <;> simp only [go_sem, reduceCtorEq, reduceIte, Nat.reduceEqDiff, Nat.reduceLT, Nat.reduceLeDiff, Int.natCast_succ, gsR, List.take_zero, hga0, List.map_nil]
    by_cases hlt : i < D.length
    · have he := wd_elem RW (i := i) (by omega)
      rw [hel i hlt] at he
      have hx4 := h40 i hlt
      have kR := kR (ws.getD i []) (by omega)
      have hst := htk i hlt
      have hgl1 := hgi i (by omega)
      have hbd := dist_bd g1 _ w (ws.getD i []) (Nat.le_refl _)
      unfold gsOf at hst
      generalize hx : ws.getD i [] = x at *
      dsimp only at he
      generalize hG : gsAll D (swL l) w most (ws.take i) = G at *
      generalize hG2 : gsAll D (swL l) w most (ws.take (i + 1)) = G2 at *
      generalize script (swL l) 0 w x = sc at *
      generalize dist (swL l) w x = dd at *
      generalize cntD D x = cc at *
      (repeat' first | with_reducible (first | intro _ | refine rc ?_ | refine rl ?_ | refine rh ?_ | refine rt ?_ | refine rf ?_ | refine rs ?_ | refine And.intro ?_ ?_) | omega | simp (maxSteps := 1000000) only [go_sem, simprocAttr, ↓reduceIte, elemA, he, hsl, List.length_map])
      refine VcCall.fr (FnFr.of_ok kR rfl (by simp [noRoRows, noRoItem, noRoRow, noRoL, noRo, sls, Sl.av])) (by simp only [noIdR_ok, argOkL, argOk, allOk, argOkN, List.drop_zero, lk, reduceIte, reduceCtorEq, Nat.reduceEqDiff, Option.some.injEq, Item.row.injEq, Item.box.injEq, AV.ro.injEq, exists_eq_left, exists_and_left, exists_eq_left', exists_eq_right, and_assoc, and_true, true_and, List.cons.injEq, exists_eq', exists_eq]) 1 rfl (by simp [rowsB, Item.below, sls, belowR_ok]) ?_
      by_cases hd : dd ≤ most
      · rw [if_pos hd] at hst
        have hm : G2.map Gs.av = G.map Gs.av ++ [[.str x, .int .i64 dd, .int .i64 cc]] := by rw [hst, gs_snoc]
        (repeat' first | with_reducible (first | intro _ | refine rc ?_ | refine rl ?_ | refine rh ?_ | refine rt ?_ | refine rf ?_ | refine rs ?_ | refine And.intro ?_ ?_) | omega | simp (maxSteps := 1000000) only [go_sem, simprocAttr, ↓reduceIte, hd, gsR, List.length_map])
        refine ⟨i + 1, Ent.auto0 rfl ?_ ?_, by omega, by omega⟩ <;> simp only [go_sem, reduceCtorEq, reduceIte, Nat.reduceEqDiff, Nat.reduceLT, Nat.reduceLeDiff, Int.natCast_succ, gsR, hG2, hm]
      · rw [if_neg hd, List.append_nil] at hst
        (repeat' first | with_reducible (first | intro _ | refine rc ?_ | refine rl ?_ | refine rh ?_ | refine rt ?_ | refine rf ?_ | refine rs ?_ | refine And.intro ?_ ?_) | omega | simp (maxSteps := 1000000) only [go_sem, simprocAttr, ↓reduceIte, hd, gsR, List.length_map])
        refine ⟨i + 1, Ent.auto0 rfl ?_ ?_, by omega, by omega⟩ <;> simp only [go_sem, reduceCtorEq, reduceIte, Nat.reduceEqDiff, Nat.reduceLT, Nat.reduceLeDiff, Int.natCast_succ, gsR, hG2, hst]
    · have e : i = D.length := by omega
      subst e
      rw [hall]
      (repeat' first | with_reducible (first | intro _ | refine rc ?_ | refine rl ?_ | refine rh ?_ | refine rt ?_ | refine rf ?_ | refine rs ?_ | refine And.intro ?_ ?_) | omega | simp (maxSteps := 1000000) only [go_sem, simprocAttr, ↓reduceIte, hsl, List.length_map])
      refine VcCall.io [0] kS (by decide) (by simp [renL, ren, ioN]) rfl (by simp [subOk, ioN, lk, Item.ren, Item.below, gsR, renR_ok, belowR_ok]) covG1 1 (by decide) rfl (by simp [rowsB, Item.below, gsR, belowR_ok]) ?_
      (repeat' first | with_reducible (first | intro _ | refine rc ?_ | refine rl ?_ | refine rh ?_ | refine rt ?_ | refine rf ?_ | refine rs ?_ | refine And.intro ?_ ?_) | omega | simp (maxSteps := 1000000) only [go_sem, simprocAttr, ↓reduceIte, S.ioS, ioRows, ioN, delL, Item.ren, gsR, renR_ok, List.length_cons, List.length_nil, List.getElem?_cons_zero, List.getElem?_cons_succ, List.getElem?_nil, List.cons_append, List.nil_append, Nat.reduceAdd, Nat.sub_self, Nat.add_zero, List.filter])
      refine Ret.auto 1 ?_ rfl ?_ <;> simp only [go_sem, reduceCtorEq, reduceIte, Nat.reduceEqDiff, Nat.reduceLT, Nat.reduceLeDiff, Int.natCast_succ, Post, gsR]
  · rw [if_neg h0] at hO
    subst hO
    (repeat' first | with_reducible (first | intro _ | refine rc ?_ | refine rl ?_ | refine rh ?_ | refine rt ?_ | refine rf ?_ | refine rs ?_ | refine And.intro ?_ ?_) | omega | simp (maxSteps := 1000000) only [go_sem, simprocAttr, ↓reduceIte])
    refine VcCall.k (ke) ?_
    (repeat' first | with_reducible (first | intro _ | refine rc ?_ | refine rl ?_ | refine rh ?_ | refine rt ?_ | refine rf ?_ | refine rs ?_ | refine And.intro ?_ ?_) | omega | simp (maxSteps := 1000000) only [go_sem, simprocAttr, ↓reduceIte, h0])
    refine Ret.auto 1 ?_ rfl ?_ <;> simp only [go_sem, reduceCtorEq, reduceIte, Nat.reduceEqDiff, Nat.reduceLT, Nat.reduceLeDiff, Int.natCast_succ, Post, gsR, List.map_nil]
end Go.Fv.Y

/- Best, of the program and of the reference. -/
namespace Go.Fv.Y
open Go Go.Proofs
set_option linter.unusedSimpArgs false
set_option linter.unusedVariables false
set_option linter.unnecessarySimpa false
set_option maxRecDepth 8000

def gOr (o : Option Gs) : Gs := match o with | some g => g | none => Gs.zero
theorem bestG_two (x y : Gs) (r : List Gs) : bestG (x :: y :: r) = if x.d < y.d ∨ 2 * y.c ≤ x.c then some x else none := rfl
def gsBd (L : List Gs) : Prop := ∀ x, x ∈ L → GsOk x
set_option maxHeartbeats 4000000 in
theorem best_ok (L : List Gs) (hb : gsBd L) (g : Gs) (hg : gOr (bestG L) = g) (o : Bool) (ho : (bestG L).isSome = o) : FnOk Tryz.prog 58 [.ro (gsR L)] (.tup [.agg [.str g.t, .int .i64 g.d, .int .i64 g.c], .bool o]) [] := by
  refine FnOk.of_vc Tryz.func58 rfl (by decide) (by simp [Tryz.f58]) [.cell 2 41, .tmp 3] rfl fun w0 T0 _ => ?_
  simp only [Tryz.f58, argEnv]
  match L, hb, hg, ho with
  | [], hb, hg, ho =>
    subst hg ho
    (repeat' first | with_reducible (first | intro _ | refine rc ?_ | refine rl ?_ | refine rh ?_ | refine rt ?_ | refine rf ?_ | refine rs ?_ | refine And.intro ?_ ?_) | omega | simp (maxSteps := 1000000) only [go_sem, simprocAttr, ↓reduceIte, gsR, List.map_nil, List.length_nil])
    refine Ret.auto 0 ?_ rfl ?_ <;> simp only [go_sem, reduceCtorEq, reduceIte, Nat.reduceEqDiff, Nat.reduceLT, Nat.reduceLeDiff, Int.natCast_succ, Post, gOr, bestG, Gs.zero, Option.isSome]
  | [x], hb, hg, ho =>
    subst hg ho
    (repeat' first | with_reducible (first | intro _ | refine rc ?_ | refine rl ?_ | refine rh ?_ | refine rt ?_ | refine rf ?_ | refine rs ?_ | refine And.intro ?_ ?_) | omega | simp (maxSteps := 1000000) only [go_sem, simprocAttr, ↓reduceIte, gsR, List.map_cons, List.map_nil, List.length_cons, List.length_nil])
    refine VcDraw.lex [] [] (by kernel_rfl) (by kernel_rfl) ?_
    (repeat' first | with_reducible (first | intro _ | refine rc ?_ | refine rl ?_ | refine rh ?_ | refine rt ?_ | refine rf ?_ | refine rs ?_ | refine And.intro ?_ ?_) | omega | simp (maxSteps := 1000000) only [go_sem, simprocAttr, ↓reduceIte, gsR, elemA, List.map_cons, List.map_nil, List.length_cons, List.length_nil, List.getD_cons_zero, List.getD_cons_succ, List.getD_nil, List.drop_nil, Gs.av])
    refine QV.intro (.int .i64 0) ?_ ?_
    · (repeat' first | with_reducible (first | intro _ | refine rc ?_ | refine rl ?_ | refine rh ?_ | refine rt ?_ | refine rf ?_ | refine rs ?_ | refine And.intro ?_ ?_) | omega | simp (maxSteps := 1000000) only [go_sem, simprocAttr, ↓reduceIte, gsR, elemA, List.map_cons, List.map_nil, List.length_cons, List.length_nil, List.getD_cons_zero, List.getD_cons_succ, List.getD_nil, List.drop_nil, Gs.av])
    (repeat' first | with_reducible (first | intro _ | refine rc ?_ | refine rl ?_ | refine rh ?_ | refine rt ?_ | refine rf ?_ | refine rs ?_ | refine And.intro ?_ ?_) | omega | simp (maxSteps := 1000000) only [go_sem, simprocAttr, ↓reduceIte, gsR, elemA, List.map_cons, List.map_nil, List.length_cons, List.length_nil, List.getD_cons_zero, List.getD_cons_succ, List.getD_nil, List.drop_nil, Gs.av])
    refine QV.intro (.int .i64 0) ?_ ?_
    · (repeat' first | with_reducible (first | intro _ | refine rc ?_ | refine rl ?_ | refine rh ?_ | refine rt ?_ | refine rf ?_ | refine rs ?_ | refine And.intro ?_ ?_) | omega | simp (maxSteps := 1000000) only [go_sem, simprocAttr, ↓reduceIte, gsR, elemA, List.map_cons, List.map_nil, List.length_cons, List.length_nil, List.getD_cons_zero, List.getD_cons_succ, List.getD_nil, List.drop_nil, Gs.av])
    (repeat' first | with_reducible (first | intro _ | refine rc ?_ | refine rl ?_ | refine rh ?_ | refine rt ?_ | refine rf ?_ | refine rs ?_ | refine And.intro ?_ ?_) | omega | simp (maxSteps := 1000000) only [go_sem, simprocAttr, ↓reduceIte, gsR, elemA, List.map_cons, List.map_nil, List.length_cons, List.length_nil, List.getD_cons_zero, List.getD_cons_succ, List.getD_nil, List.drop_nil, Gs.av])
    refine Ret.auto 0 ?_ rfl ?_ <;> simp only [go_sem, reduceCtorEq, reduceIte, Nat.reduceEqDiff, Nat.reduceLT, Nat.reduceLeDiff, Int.natCast_succ, Post, gOr, bestG, Option.isSome]
  | x :: y :: r, hb, hg, ho =>
    have hne : ¬ ((r.length + 1 + 1 : Nat) : Int) = 1 := by omega
    have hx := hb x List.mem_cons_self
    have hy := hb y (List.mem_cons_of_mem _ List.mem_cons_self)
    unfold GsOk at hx hy
    rw [bestG_two] at hg ho
    by_cases h1 : x.d < y.d
    · rw [if_pos (Or.inl h1)] at hg ho
      subst hg ho
      (repeat' first | with_reducible (first | intro _ | refine rc ?_ | refine rl ?_ | refine rh ?_ | refine rt ?_ | refine rf ?_ | refine rs ?_ | refine And.intro ?_ ?_) | omega | simp (maxSteps := 1000000) only [go_sem, simprocAttr, ↓reduceIte, gsR, List.map_cons, List.length_cons, List.length_map])
      refine VcDraw.lex [] [] (by kernel_rfl) (by kernel_rfl) ?_
      (repeat' first | with_reducible (first | intro _ | refine rc ?_ | refine rl ?_ | refine rh ?_ | refine rt ?_ | refine rf ?_ | refine rs ?_ | refine And.intro ?_ ?_) | omega | simp (maxSteps := 1000000) only [go_sem, simprocAttr, ↓reduceIte, gsR, elemA, List.map_cons, List.length_cons, List.length_map, List.getD_cons_zero, List.getD_cons_succ, Gs.av, h1, hne, Bool.or_true, Bool.or_false])
      refine Ret.auto 0 ?_ rfl ?_ <;> simp only [go_sem, reduceCtorEq, reduceIte, Nat.reduceEqDiff, Nat.reduceLT, Nat.reduceLeDiff, Int.natCast_succ, Post, gOr, Option.isSome]
    by_cases h2 : 2 * y.c ≤ x.c
    · rw [if_pos (Or.inr h2)] at hg ho
      subst hg ho
      (repeat' first | with_reducible (first | intro _ | refine rc ?_ | refine rl ?_ | refine rh ?_ | refine rt ?_ | refine rf ?_ | refine rs ?_ | refine And.intro ?_ ?_) | omega | simp (maxSteps := 1000000) only [go_sem, simprocAttr, ↓reduceIte, gsR, List.map_cons, List.length_cons, List.length_map])
      refine VcDraw.lex [] [] (by kernel_rfl) (by kernel_rfl) ?_
      (repeat' first | with_reducible (first | intro _ | refine rc ?_ | refine rl ?_ | refine rh ?_ | refine rt ?_ | refine rf ?_ | refine rs ?_ | refine And.intro ?_ ?_) | omega | simp (maxSteps := 1000000) only [go_sem, simprocAttr, ↓reduceIte, gsR, elemA, List.map_cons, List.length_cons, List.length_map, List.getD_cons_zero, List.getD_cons_succ, Gs.av, h1, h2, hne, Bool.or_true, Bool.or_false])
      refine Ret.auto 0 ?_ rfl ?_ <;> simp only [go_sem, reduceCtorEq, reduceIte, Nat.reduceEqDiff, Nat.reduceLT, Nat.reduceLeDiff, Int.natCast_succ, Post, gOr, Option.isSome]
    · rw [if_neg (fun h => h.elim h1 h2)] at hg ho
      subst hg ho
      (repeat' first | with_reducible (first | intro _ | refine rc ?_ | refine rl ?_ | refine rh ?_ | refine rt ?_ | refine rf ?_ | refine rs ?_ | refine And.intro ?_ ?_) | omega | simp (maxSteps := 1000000) only [go_sem, simprocAttr, ↓reduceIte, gsR, List.map_cons, List.length_cons, List.length_map])
      refine VcDraw.lex [] [] (by kernel_rfl) (by kernel_rfl) ?_
      (repeat' first | with_reducible (first | intro _ | refine rc ?_ | refine rl ?_ | refine rh ?_ | refine rt ?_ | refine rf ?_ | refine rs ?_ | refine And.intro ?_ ?_) | omega | simp (maxSteps := 1000000) only [go_sem, simprocAttr, ↓reduceIte, gsR, elemA, List.map_cons, List.length_cons, List.length_map, List.getD_cons_zero, List.getD_cons_succ, Gs.av, h1, h2, hne, Bool.or_true, Bool.or_false])
      refine Ret.auto 0 ?_ rfl ?_ <;> simp only [go_sem, reduceCtorEq, reduceIte, Nat.reduceEqDiff, Nat.reduceLT, Nat.reduceLeDiff, Int.natCast_succ, Post, gOr, Gs.zero, Option.isSome]
end Go.Fv.Y
