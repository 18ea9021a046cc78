/-
  A part of the proof of the claim: walks over the program's functions and the plain laws that these need. No condition of its own.
-/
import Derived.Test.YtkfadacmcknejaaDoorVLearnsCardPart4
import Derived.Test.YtkfadacmcknejaaDoorVLearnsCardPart2
import Derived.Test.YtkfadacmcknejaaDoorVLearnsCardPart3
import Derived.Test.YtkfadacmcknejaaDoorVLearnsCardPart1
import Derived.Test.YtkfadacmcknejaaDoorFvPart9
/- The table of the reference, row by row, in plain words. -/
namespace Go.Fv.V
open Go
set_option linter.unusedSimpArgs false
set_option linter.unusedVariables false
set_option linter.unnecessarySimpa false

/-- A row from column c on. -/
def rowF (sw : List Sw) (a b : List UInt8) (q c : Nat) : List Int := (List.range (b.length + 1)).map fun j => if c ≤ j then dist sw (a.drop q) (b.drop j) else 0
def costL (sw : List Sw) (a b : List UInt8) (r : Nat) : List (List AV) := (List.range (a.length + 1)).map fun q => if r ≤ q then [.ro (.ints .i64 (rowF sw a b q 0))] else [.nilS]
theorem rowF_len (sw : List Sw) (a b : List UInt8) (q c : Nat) : (rowF sw a b q c).length = b.length + 1 := by simp [rowF]
theorem rowF_get {sw : List Sw} {a b : List UInt8} {q c j : Nat} (h : j < b.length + 1) (hc : c ≤ j) : (rowF sw a b q c).getD j 0 = dist sw (a.drop q) (b.drop j) := by
  rw [getD_lt (by rw [rowF_len]; exact h)]; simp [rowF, hc]
theorem rowF_all (sw : List Sw) (a b : List UInt8) (q : Nat) : rowF sw a b q (b.length + 1) = List.replicate (b.length + 1) 0 := by
  refine List.ext_getElem (by simp [rowF]) fun i h1 h2 => ?_
  simp only [rowF, List.length_map, List.length_range] at h1
  simp [rowF]; omega
theorem rowF_set {sw : List Sw} {a b : List UInt8} {q c : Nat} {v : Int} (hv : v = dist sw (a.drop q) (b.drop c)) : (rowF sw a b q (c + 1)).set c v = rowF sw a b q c := by
  refine List.ext_getElem (by simp [rowF]) fun i h1 h2 => ?_
  rw [List.getElem_set]
  split
  · rename_i e; subst e; simp [rowF, hv]
  · rename_i e
    simp only [rowF, List.getElem_map, List.getElem_range]
    by_cases h : c ≤ i
    · rw [if_pos (by omega), if_pos h]
    · rw [if_neg (by omega), if_neg h]
theorem rowF_zero {sw : List Sw} {a b : List UInt8} {q c : Nat} (hv : dist sw (a.drop q) (b.drop c) = 0) : rowF sw a b q (c + 1) = rowF sw a b q c := by
  refine List.ext_getElem (by simp [rowF]) fun i h1 h2 => ?_
  simp only [rowF, List.getElem_map, List.getElem_range]
  by_cases h : c + 1 ≤ i
  · rw [if_pos h, if_pos (by omega)]
  · rw [if_neg h]
    by_cases e : c = i
    · subst e; rw [if_pos (Nat.le_refl _), hv]
    · rw [if_neg (by omega)]
theorem costL_len (sw : List Sw) (a b : List UInt8) (r : Nat) : (costL sw a b r).length = a.length + 1 := by simp [costL]
theorem costL_get {sw : List Sw} {a b : List UInt8} {r q : Nat} (h : q < a.length + 1) (hr : r ≤ q) : (costL sw a b r).getD q [] = [.ro (.ints .i64 (rowF sw a b q 0))] := by
  rw [getD_lt (by rw [costL_len]; exact h)]; simp [costL, hr]
theorem costL_all (sw : List Sw) (a b : List UInt8) : costL sw a b (a.length + 1) = List.replicate (a.length + 1) [.nilS] := by
  refine List.ext_getElem (by simp [costL]) fun i h1 h2 => ?_
  simp only [costL, List.length_map, List.length_range] at h1
  simp [costL]; omega
theorem costL_set {sw : List Sw} {a b : List UInt8} {r : Nat} : (costL sw a b (r + 1)).set r [.ro (.ints .i64 (rowF sw a b r 0))] = costL sw a b r := by
  refine List.ext_getElem (by simp [costL]) fun i h1 h2 => ?_
  rw [List.getElem_set]
  split
  · rename_i e; subst e; simp [costL]
  · rename_i e
    simp only [costL, List.getElem_map, List.getElem_range]
    by_cases h : r ≤ i
    · rw [if_pos (by omega), if_pos h]
    · rw [if_neg (by omega), if_neg h]
theorem costL_noid (sw : List Sw) (a b : List UInt8) (r : Nat) : (costL sw a b r).all noIdL = true := by
  rw [List.all_eq_true]
  intro x hx
  obtain ⟨q, _, rfl⟩ := List.mem_map.1 hx
  split <;> rfl
theorem fzL_costL (sw : List Sw) (a b : List UInt8) (r i k : Nat) (q : RowV) : ((costL sw a b r).set i [.own k]).map (fzL k q) = (costL sw a b r).set i [.ro q] := by
  rw [List.map_set, fzLL_noId _ (costL_noid sw a b r)]
  simp [fzL, fz]

def mfold : Int → List Int → Int
  | b, [] => b
  | b, v :: l => mfold (if b < 0 ∨ v < b then v else b) l
theorem mfold_pos : ∀ (l : List Int) (b : Int), 0 ≤ b → (∀ v, v ∈ l → 0 ≤ v) → mfold b l = minL (b :: l)
  | [], b, _, _ => rfl
  | v :: l, b, hb, hl => by
    have hv := hl v (.head _)
    have e : (if b < 0 ∨ v < b then v else b) = min b v := by split <;> omega
    rw [mfold, e, mfold_pos l _ (by omega) fun u hu => hl u (.tail _ hu)]
    cases l with
    | nil => rfl
    | cons u l => simp only [minL]; omega
theorem mfold_neg {l : List Int} (hl : ∀ v, v ∈ l → 0 ≤ v) (hne : l ≠ []) : mfold (-1) l = minL l := by
  cases l with
  | nil => exact absurd rfl hne
  | cons v l =>
    rw [mfold, if_pos (by omega), mfold_pos l v (hl v (.head _)) fun u hu => hl u (.tail _ hu)]
def valS (sw : List Sw) (x y : List UInt8) (s : St) : Int := s.c + dist sw (x.drop s.a) (y.drop s.b)
theorem mfold_dist {sw : List Sw} (hg : GoodSw sw) {x y : List UInt8} (h : ¬ (x = [] ∧ y = [])) : mfold (-1) ((steps sw x y).map (valS sw x y)) = dist sw x y := by
  rw [mfold_neg ?_ (by simpa using steps_ne h), dist_eq hg h]
  · rfl
  · intro v hv
    obtain ⟨s, hs, rfl⟩ := List.mem_map.1 hv
    have := step_bd hg hs
    have := dist_bd hg _ (x.drop s.a) (y.drop s.b) (Nat.le_refl _)
    unfold valS; omega
theorem mfold_step (f : St → Int) (l : List St) {k : Nat} (h : k < l.length) (b : Int) : mfold b ((l.drop k).map f) = mfold (if b < 0 ∨ f (l.getD k St.zero) < b then f (l.getD k St.zero) else b) ((l.drop (k + 1)).map f) := by
  rw [List.drop_eq_getElem_cons h, getD_lt h]; rfl
end Go.Fv.V

namespace Go.Fv.V
open Go Go.Proofs
set_option linter.unusedSimpArgs false
set_option linter.unusedVariables false
set_option linter.unnecessarySimpa false
set_option maxRecDepth 8000

end Go.Fv.V

namespace Go.Fv.V
open Go Go.Proofs
set_option linter.unusedSimpArgs false
set_option linter.unusedVariables false
set_option linter.unnecessarySimpa false
set_option maxRecDepth 8000

instance : FNoId Mx.av := ⟨fun _ => rfl⟩
instance {l : List Mx} : RowNoId (mxs l) := inferInstanceAs (RowNoId (.objs 3 (l.map Mx.av)))

end Go.Fv.V

namespace Go.Fv.V
open Go Go.Proofs
set_option linter.unusedSimpArgs false
set_option linter.unusedVariables false
set_option linter.unnecessarySimpa false
set_option maxRecDepth 8000

end Go.Fv.V

namespace Go.Fv.V
open Go Go.Proofs
set_option linter.unusedSimpArgs false
set_option linter.unusedVariables false
set_option linter.unnecessarySimpa false
set_option maxRecDepth 8000

end Go.Fv.V

namespace Go.Fv.V
open Go Go.Proofs
set_option linter.unusedSimpArgs false
set_option linter.unusedVariables false
set_option linter.unnecessarySimpa false
set_option maxRecDepth 8000

def Sl.av (s : Sl) : List AV := [.int .i64 s.at_, .str s.o, .str s.n, .int .i64 s.c]
def Sl.zero : Sl := ⟨0, [], [], 0⟩
def sls (l : List Sl) : RowV := .objs 4 (l.map Sl.av)
instance : FNoId Sl.av := ⟨fun _ => rfl⟩
instance {l : List Sl} : RowNoId (sls l) := inferInstanceAs (RowNoId (.objs 4 (l.map Sl.av)))
theorem sls_snoc (l : List Sl) (i : Nat) (x y : List UInt8) (c : Int) : l.map Sl.av ++ [[.int .i64 i, .str x, .str y, .int .i64 c]] = (l ++ [(⟨i, x, y, c⟩ : Sl)]).map Sl.av := by simp [Sl.av]

end Go.Fv.V

namespace Go.Fv.V
open Go Go.Proofs
set_option linter.unusedSimpArgs false
set_option linter.unusedVariables false
set_option linter.unnecessarySimpa false
set_option maxRecDepth 8000

instance {sw : List Sw} {a b : List UInt8} {r : Nat} : LNoId (costL sw a b r) := ⟨costL_noid sw a b r⟩
theorem belowL_set1 (sw : List Sw) (a b : List UInt8) (r i : Nat) : belowR 2 (.objs 1 ((costL sw a b r).set i [.own 1])) = true := by
  simp only [belowR, List.all_eq_true]
  intro x hx
  rcases List.mem_or_eq_of_mem_set hx with h | h
  · exact noIdL_below 2 x (List.all_eq_true.1 (costL_noid sw a b r) x h)
  · subst h; rfl

theorem pick_find {sw : List Sw} (hg : GoodSw sw) {x y : List UInt8} (h : ¬ (x = [] ∧ y = [])) : (steps sw x y).find? (fun s => decide (valS sw x y s = dist sw x y)) = some (pick sw x y) := by
  have hp : pick sw x y = ((steps sw x y).find? (fun s => decide (valS sw x y s = dist sw x y))).getD ⟨0, 1, 100⟩ := rfl
  obtain ⟨s, hs, he⟩ := dist_step hg h
  cases hq : (steps sw x y).find? (fun s => decide (valS sw x y s = dist sw x y)) with
  | none =>
    rw [List.find?_eq_none] at hq
    exact absurd (decide_eq_true he) (hq s hs)
  | some q => rw [hq] at hp; rw [hp]; rfl
theorem findS_step (f : St → Bool) (l : List St) {k : Nat} (h : k < l.length) : (l.drop k).find? f = if f (l.getD k St.zero) = true then some (l.getD k St.zero) else (l.drop (k + 1)).find? f := by
  rw [List.drop_eq_getElem_cons h, getD_lt h, List.find?_cons]
  cases f l[k] <;> rfl

set_option maxHeartbeats 16000000 in
theorem refScript_ok (l : List Mx) (hg : GoodSw (swL l)) (hl : l.length ≤ 1000) (a b : List UInt8) (ha : a.length ≤ 2000) (hb : b.length ≤ 2000) :
    FnOk Tryd.prog 31 [.str a, .str b, .ro (mxs l)] (.tup [.own 0, .int .i64 (dist (swL l) a b)]) [(0, .row 92 (sls (script (swL l) 0 a b)))] := by
  have kst := fun (i j : Nat) (hi : i ≤ a.length) (hj : j ≤ b.length) => steps_ok l hl a b i j hi hj
  have hsl : (swL l).length ≤ 2000 := by rw [swL_len]; omega
  refine FnOk.of_vc Tryd.func31 rfl (by decide) (by simp [Tryd.f31]) [.tmp 6, .tmp 7] rfl fun w0 T0 _ => ?_
  simp only [Tryd.f31, argEnv]
  generalize swL l = sw at *
  have hall := costL_all sw a b
  have hup : ((a.length : Int) + 1).toNat = a.length + 1 := by omega
  have hup2 : ((b.length : Int) + 1).toNat = b.length + 1 := by omega
  have hall2 := rowF_all sw a b
  (repeat' first | with_reducible (first | intro _ | refine rc ?_ | refine rl ?_ | refine rh ?_ | refine rt ?_ | refine rf ?_ | refine rs ?_ | refine And.intro ?_ ?_) | omega | simp (maxSteps := 1000000) only [go_sem, simprocAttr, ↓reduceIte, hup])
  refine VcLoop.intro (fun r : Nat => ⟨184, [(9, .int .i64 ((r : Int) - 1)), (8, .own 0), (0, .str a), (1, .str b), (2, .ro (mxs l))], [(0, .row 57 (.objs 1 (costL sw a b r)))], 1⟩) (fun r => r ≤ a.length + 1) (fun r => r) (a.length + 1) ?_ (Nat.le_refl _) fun r hr => ?_
  · refine Ent.auto0 rfl ?_ ?_ <;> simp only [go_sem, reduceCtorEq, reduceIte, Nat.reduceEqDiff, Nat.reduceLT, Nat.reduceLeDiff, Int.natCast_succ, hall]
    omega
  cases r with
  | zero =>
    have hc0 := costL_len sw a b 0
    (repeat' first | with_reducible (first | intro _ | refine rc ?_ | refine rl ?_ | refine rh ?_ | refine rt ?_ | refine rf ?_ | refine rs ?_ | refine And.intro ?_ ?_) | omega | simp (maxSteps := 1000000) only [go_sem, simprocAttr, ↓reduceIte])
    refine VcLoop.intro (fun x : Nat × Nat × List Sl => ⟨184, [(17, .int .i64 x.2.1), (16, .int .i64 x.1), (15, .own 1), (8, .own 0), (0, .str a), (1, .str b), (2, .ro (mxs l))], [(0, .row 57 (.objs 1 (costL sw a b 0))), (1, .row 92 (sls x.2.2))], 2⟩)
      (fun x => x.1 ≤ a.length ∧ x.2.1 ≤ b.length ∧ x.2.2.length ≤ x.1 + x.2.1 ∧ x.2.2 ++ script sw x.1 (a.drop x.1) (b.drop x.2.1) = script sw 0 a b) (fun x => a.length - x.1 + (b.length - x.2.1)) (0, 0, []) ?_ ⟨Nat.zero_le _, Nat.zero_le _, Nat.le_refl _, rfl⟩ fun x hx => ?_
    · refine Ent.same rfl (Nat.zero_le _) ?_ ?_ <;> simp only [go_sem, reduceCtorEq, reduceIte, Nat.reduceEqDiff, Nat.reduceLT, Nat.reduceLeDiff, Int.natCast_succ, Int.natCast_zero, sls, List.map_nil]
    obtain ⟨i, j, out⟩ := x
    dsimp only at hx
    by_cases hend : i < a.length ∨ j < b.length
    · have hne : ¬ (a.drop i = [] ∧ b.drop j = []) := by
        rintro ⟨e1, e2⟩
        simp at e1 e2; omega
      have ks := kst i j hx.1 hx.2.1
      have hpf := pick_find hg hne
      have hpb := pick_bd hg hne
      have hse := script_eq hg (i := i) hne
      have hxx := hx.2.2.2
      rw [hse] at hxx
      simp only [List.length_drop] at hpb
      have hsb : ∀ s, s ∈ steps sw (a.drop i) (b.drop j) → s.a ≤ a.length - i ∧ s.b ≤ b.length - j ∧ 1 ≤ s.a + s.b ∧ 0 ≤ s.c ∧ s.c ≤ 100 := fun s hs => by
        have := step_bd hg hs
        simpa only [List.length_drop] using this
      have hvS : ∀ s, valS sw (a.drop i) (b.drop j) s = s.c + dist sw (a.drop (i + s.a)) (b.drop (j + s.b)) := fun s => by unfold valS; rw [List.drop_drop, List.drop_drop]
      have hdij : (rowF sw a b i 0).getD j 0 = dist sw (a.drop i) (b.drop j) := rowF_get (by omega) (Nat.zero_le _)
      have hgi : (costL sw a b 0).getD i [] = [.ro (.ints .i64 (rowF sw a b i 0))] := costL_get (by omega) (Nat.zero_le _)
      have hfl := rowF_len sw a b i 0
      generalize pick sw (a.drop i) (b.drop j) = p at *
      clear hse
      generalize hS : steps sw (a.drop i) (b.drop j) = S at *
      (repeat' first | with_reducible (first | intro _ | refine rc ?_ | refine rl ?_ | refine rh ?_ | refine rt ?_ | refine rf ?_ | refine rs ?_ | refine And.intro ?_ ?_) | omega | simp (maxSteps := 1000000) only [go_sem, simprocAttr, ↓reduceIte])
      refine VcCall.ro (.ro (sts S)) (FnFr.of_ok ks rfl (by simp [noRoRows, noRoItem, noRoRow, noRoL, noRo, sts, St.av])) (by simp only [noIdR_ok, argOkL, argOk, allOk, argOkN, List.drop_zero, lk, reduceIte, reduceCtorEq, Nat.reduceEqDiff, Option.some.injEq, Item.row.injEq, Item.box.injEq, AV.ro.injEq, exists_eq_left, exists_and_left, exists_eq_left', exists_eq_right, and_assoc, and_true, true_and, List.cons.injEq, exists_eq', exists_eq, mxs]) (by simp [outOk, argOk, argOkN, lk, noIdR_ok]) rfl ?_
      (repeat' first | with_reducible (first | intro _ | refine rc ?_ | refine rl ?_ | refine rh ?_ | refine rt ?_ | refine rf ?_ | refine rs ?_ | refine And.intro ?_ ?_) | omega | simp (maxSteps := 1000000) only [go_sem, simprocAttr, ↓reduceIte, sts, List.length_map])
      refine VcLoop.intro (fun k : Nat => ⟨184, [(115, .int .i64 k), (114, .int .i64 S.length), (113, .ro (sts S)), (17, .int .i64 j), (16, .int .i64 i), (15, .own 1), (8, .own 0), (0, .str a), (1, .str b), (2, .ro (mxs l))], [(0, .row 57 (.objs 1 (costL sw a b 0))), (1, .row 92 (sls out))], 2⟩) (fun k => k ≤ S.length ∧ (S.drop k).find? (fun s => decide (valS sw (a.drop i) (b.drop j) s = dist sw (a.drop i) (b.drop j))) = some p) (fun k => S.length - k) 0 ?_ ⟨Nat.zero_le _, hpf⟩ fun k hk => ?_
      · refine Ent.same rfl (Nat.zero_le _) ?_ ?_ <;> simp only [go_sem, reduceCtorEq, reduceIte, Nat.reduceEqDiff, Nat.reduceLT, Nat.reduceLeDiff, Int.natCast_succ, sts, Int.natCast_zero]
      by_cases hkl : k < S.length
      · have hel := st_elem S hkl
        have hfs := findS_step (fun s => decide (valS sw (a.drop i) (b.drop j) s = dist sw (a.drop i) (b.drop j))) S hkl
        have hbs := hsb (S.getD k St.zero) (by rw [getD_lt hkl]; exact List.getElem_mem hkl)
        rw [hk.2] at hfs
        generalize S.getD k St.zero = s at *
        rw [hvS] at hfs
        have ta : ((i : Int) + s.a).toNat = i + s.a := by omega
        have tb : ((j : Int) + s.b).toNat = j + s.b := by omega
        have hgs : (costL sw a b 0).getD (i + s.a) [] = [.ro (.ints .i64 (rowF sw a b (i + s.a) 0))] := costL_get (by omega) (Nat.zero_le _)
        have hfs2 := rowF_len sw a b (i + s.a) 0
        have hgv : (rowF sw a b (i + s.a) 0).getD (j + s.b) 0 = dist sw (a.drop (i + s.a)) (b.drop (j + s.b)) := rowF_get (by omega) (Nat.zero_le _)
        have bs := dist_bd hg _ (a.drop (i + s.a)) (b.drop (j + s.b)) (Nat.le_refl _)
        simp only [List.length_drop] at bs
        have sla : List.take (i + s.a - i) (a.drop i) = (a.drop i).take s.a := by rw [Nat.add_sub_cancel_left]
        have slb : List.take (j + s.b - j) (b.drop j) = (b.drop j).take s.b := by rw [Nat.add_sub_cancel_left]
        have hsn := sls_snoc out i ((a.drop i).take s.a) ((b.drop j).take s.b) s.c
        generalize hd0 : dist sw (a.drop i) (b.drop j) = d0 at *
        generalize dist sw (a.drop (i + s.a)) (b.drop (j + s.b)) = ds at *
        (repeat' first | with_reducible (first | intro _ | refine rc ?_ | refine rl ?_ | refine rh ?_ | refine rt ?_ | refine rf ?_ | refine rs ?_ | refine And.intro ?_ ?_) | omega | simp (maxSteps := 1000000) only [go_sem, simprocAttr, ↓reduceIte, elemA, hel, sts, List.length_map])
        refine VcDraw.lex [] [] (by kernel_rfl) (by kernel_rfl) ?_
        (repeat' first | with_reducible (first | intro _ | refine rc ?_ | refine rl ?_ | refine rh ?_ | refine rt ?_ | refine rf ?_ | refine rs ?_ | refine And.intro ?_ ?_) | omega | simp (maxSteps := 1000000) only [go_sem, simprocAttr, ↓reduceIte, elemA, ta, tb, hgs, hgv, hgi, hdij, hc0, hfl, hfs2, Int.toNat_natCast])
        · have hne2 : ¬ s.c + ds = d0 := by assumption
          rw [if_neg (by simpa using hne2)] at hfs
          refine ⟨k + 1, ?_, ⟨by omega, hfs.symm⟩, by omega⟩
          refine Ent.same rfl (Nat.zero_le _) ?_ ?_ <;> simp only [go_sem, reduceCtorEq, reduceIte, Nat.reduceEqDiff, Nat.reduceLT, Nat.reduceLeDiff, Int.natCast_succ, sts]
        · have heq2 : s.c + ds = d0 := Decidable.of_not_not (by assumption)
          rw [if_pos (by simpa using heq2)] at hfs
          cases hfs
          refine VcDraw.lex [] [] (by kernel_rfl) (by kernel_rfl) ?_
          (repeat' first | with_reducible (first | intro _ | refine rc ?_ | refine rl ?_ | refine rh ?_ | refine rt ?_ | refine rf ?_ | refine rs ?_ | refine And.intro ?_ ?_) | omega | simp (maxSteps := 1000000) only [go_sem, simprocAttr, ↓reduceIte, ta, tb, sla, slb, Int.toNat_natCast])
          · have hxy : ¬ (a.drop i).take p.a = (b.drop j).take p.b := by assumption
            rw [if_neg hxy, List.drop_drop, List.drop_drop, ← List.append_assoc] at hxx
            (repeat' first | with_reducible (first | intro _ | refine rc ?_ | refine rl ?_ | refine rh ?_ | refine rt ?_ | refine rf ?_ | refine rs ?_ | refine And.intro ?_ ?_) | omega | simp (maxSteps := 1000000) only [go_sem, simprocAttr, ↓reduceIte, sls, hsn, List.length_map])
            refine VcDraw.lex [] [] (by kernel_rfl) (by kernel_rfl) ?_
            (repeat' first | with_reducible (first | intro _ | refine rc ?_ | refine rl ?_ | refine rh ?_ | refine rt ?_ | refine rf ?_ | refine rs ?_ | refine And.intro ?_ ?_) | omega | simp (maxSteps := 1000000) only [go_sem, simprocAttr, ↓reduceIte])
            refine ⟨(i + p.a, j + p.b, out ++ [⟨i, (a.drop i).take p.a, (b.drop j).take p.b, p.c⟩]), ?_, ⟨by dsimp only; omega, by dsimp only; omega, by simp; omega, hxx⟩, by dsimp only; omega⟩
            refine Ent.auto0 rfl ?_ ?_ <;> simp only [go_sem, reduceCtorEq, reduceIte, Nat.reduceEqDiff, Nat.reduceLT, Nat.reduceLeDiff, Int.natCast_succ, sls, Int.natCast_add]
          · have hxy : (a.drop i).take p.a = (b.drop j).take p.b := by first | assumption | exact Decidable.of_not_not (by assumption)
            rw [if_pos hxy, List.nil_append, List.drop_drop, List.drop_drop] at hxx
            (repeat' first | with_reducible (first | intro _ | refine rc ?_ | refine rl ?_ | refine rh ?_ | refine rt ?_ | refine rf ?_ | refine rs ?_ | refine And.intro ?_ ?_) | omega | simp (maxSteps := 1000000) only [go_sem, simprocAttr, ↓reduceIte])
            refine VcDraw.lex [] [] (by kernel_rfl) (by kernel_rfl) ?_
            (repeat' first | with_reducible (first | intro _ | refine rc ?_ | refine rl ?_ | refine rh ?_ | refine rt ?_ | refine rf ?_ | refine rs ?_ | refine And.intro ?_ ?_) | omega | simp (maxSteps := 1000000) only [go_sem, simprocAttr, ↓reduceIte])
            refine ⟨(i + p.a, j + p.b, out), ?_, ⟨by dsimp only; omega, by dsimp only; omega, by dsimp only; omega, hxx⟩, by dsimp only; omega⟩
            refine Ent.auto0 rfl ?_ ?_ <;> simp only [go_sem, reduceCtorEq, reduceIte, Nat.reduceEqDiff, Nat.reduceLT, Nat.reduceLeDiff, Int.natCast_succ, sls, Int.natCast_add]
      · have ek : k = S.length := by omega
        have := hk.2
        rw [ek, List.drop_length] at this
        cases this
    · have ei : i = a.length := by omega
      have ej : j = b.length := by omega
      have hxx := hx.2.2.2
      have hg0 : (costL sw a b 0).getD 0 [] = [.ro (.ints .i64 (rowF sw a b 0 0))] := costL_get (by omega) (Nat.zero_le _)
      have hd00 : (rowF sw a b 0 0).getD 0 0 = dist sw a b := by
        have := rowF_get (sw := sw) (a := a) (b := b) (q := 0) (c := 0) (j := 0) (by omega) (Nat.le_refl _)
        simpa using this
      have hfl := rowF_len sw a b 0 0
      subst ei; subst ej
      rw [List.drop_length, List.drop_length, script_nil, List.append_nil] at hxx
      (repeat' first | with_reducible (first | intro _ | refine rc ?_ | refine rl ?_ | refine rh ?_ | refine rt ?_ | refine rf ?_ | refine rs ?_ | refine And.intro ?_ ?_) | omega | simp (maxSteps := 1000000) only [go_sem, simprocAttr, ↓reduceIte])
      refine VcDraw.lex [] [] (by kernel_rfl) (by kernel_rfl) ?_
      (repeat' first | with_reducible (first | intro _ | refine rc ?_ | refine rl ?_ | refine rh ?_ | refine rt ?_ | refine rf ?_ | refine rs ?_ | refine And.intro ?_ ?_) | omega | simp (maxSteps := 1000000) only [go_sem, simprocAttr, ↓reduceIte, elemA, hg0, hd00, hc0, hfl, Int.toNat_zero])
      refine Ret.auto 1 ?_ rfl ?_ <;> simp only [go_sem, reduceCtorEq, reduceIte, Nat.reduceEqDiff, Nat.reduceLT, Nat.reduceLeDiff, Int.natCast_succ, Post, sls, hxx]
  | succ i =>
    have er : (((i + 1 : Nat) : Int)) - 1 = (i : Int) := by omega
    have hcl := costL_len sw a b (i + 1)
    have hcl2 : ((costL sw a b (i + 1)).set i [.own 1]).length = a.length + 1 := by rw [List.length_set]; exact hcl
    (repeat' first | with_reducible (first | intro _ | refine rc ?_ | refine rl ?_ | refine rh ?_ | refine rt ?_ | refine rf ?_ | refine rs ?_ | refine And.intro ?_ ?_) | omega | simp (maxSteps := 1000000) only [go_sem, simprocAttr, ↓reduceIte, er, hup2, hcl])
    refine VcLoop.intro (fun c : Nat => ⟨184, [(10, .int .i64 ((c : Int) - 1)), (9, .int .i64 i), (8, .own 0), (0, .str a), (1, .str b), (2, .ro (mxs l))], [(0, .row 57 (.objs 1 ((costL sw a b (i + 1)).set i [.own 1]))), (1, .row 3 (.ints .i64 (rowF sw a b i c)))], 2⟩) (fun c => c ≤ b.length + 1) (fun c => c) (b.length + 1) ?_ (Nat.le_refl _) fun c hc => ?_
    · have hgi : (costL sw a b (i + 1)).getD i [] = [.nilS] := by
        rw [getD_lt (by rw [hcl]; omega)]; simp [costL]
      refine Ent.same rfl (Nat.zero_le _) ?_ ?_ <;> simp only [go_sem, reduceCtorEq, reduceIte, Nat.reduceEqDiff, Nat.reduceLT, Nat.reduceLeDiff, Int.natCast_succ, hall2, belowL_set1, hgi]
      omega
    have hset := @costL_set sw a b i
    cases c with
    | zero =>
      have hidR : noIdR (.ints .i64 (rowF sw a b i 0)) = true := rfl
      (repeat' first | with_reducible (first | intro _ | refine rc ?_ | refine rl ?_ | refine rh ?_ | refine rt ?_ | refine rf ?_ | refine rs ?_ | refine And.intro ?_ ?_) | omega | simp (maxSteps := 1000000) only [go_sem, simprocAttr, ↓reduceIte])
      refine ⟨i, ?_, by omega, by omega⟩
      refine Ent.trans (Ent.fz 1 rfl hidR (Nat.zero_le _)) ?_
      simp only [S.fz, fzE, fz, fzRows, fzI, fzR, fzL_costL, hset, Nat.reduceEqDiff, if_true, if_false, reduceIte, fzL]
      refine Ent.auto0 rfl ?_ ?_ <;> simp only [go_sem, reduceCtorEq, reduceIte, Nat.reduceEqDiff, Nat.reduceLT, Nat.reduceLeDiff, Int.natCast_succ]
    | succ j =>
      have ej : (((j + 1 : Nat) : Int)) - 1 = (j : Int) := by omega
      have hfl := rowF_len sw a b i (j + 1)
      by_cases hend : i = a.length ∧ j = b.length
      · obtain ⟨e1, e2⟩ := hend
        subst e1; subst e2
        have hz := @rowF_zero sw a b a.length b.length (by rw [List.drop_length, List.drop_length]; rfl)
        (repeat' first | with_reducible (first | intro _ | refine rc ?_ | refine rl ?_ | refine rh ?_ | refine rt ?_ | refine rf ?_ | refine rs ?_ | refine And.intro ?_ ?_) | omega | simp (maxSteps := 1000000) only [go_sem, simprocAttr, ↓reduceIte, ej, hcl2, hfl])
        refine ⟨b.length, ?_, by omega, by omega⟩
        refine Ent.same rfl (Nat.zero_le _) ?_ ?_ <;> simp only [go_sem, reduceCtorEq, reduceIte, Nat.reduceEqDiff, Nat.reduceLT, Nat.reduceLeDiff, Int.natCast_succ, belowL_set1, hz]
      · have hne : ¬ (a.drop i = [] ∧ b.drop j = []) := by
          rintro ⟨e1, e2⟩
          simp at e1 e2; omega
        have hmf := mfold_dist hg hne
        have ks := kst i j (by omega) (by omega)
        have hsb : ∀ s, s ∈ steps sw (a.drop i) (b.drop j) → s.a ≤ a.length - i ∧ s.b ≤ b.length - j ∧ 1 ≤ s.a + s.b ∧ 0 ≤ s.c ∧ s.c ≤ 100 := fun s hs => by
          have := step_bd hg hs
          simpa only [List.length_drop] using this
        have hstl : (steps sw (a.drop i) (b.drop j)).length ≤ 3000 := by
          have h1 : (swSteps sw (a.drop i) (b.drop j)).length ≤ sw.length := by unfold swSteps; rw [List.length_map]; exact List.length_filter_le _ _
          unfold steps
          simp only [List.length_append]
          (repeat' split) <;> simp <;> omega
        have hvS : ∀ s, valS sw (a.drop i) (b.drop j) s = s.c + dist sw (a.drop (i + s.a)) (b.drop (j + s.b)) := fun s => by unfold valS; rw [List.drop_drop, List.drop_drop]
        have hrs : ∀ v, v = dist sw (a.drop i) (b.drop j) → (rowF sw a b i (j + 1)).set j v = rowF sw a b i j := fun v hv => rowF_set hv
        generalize hS : steps sw (a.drop i) (b.drop j) = S at *
        have hcd : ¬ ((i : Int) = (a.length : Int) ∧ (j : Int) = (b.length : Int)) := by omega
        (repeat' first | with_reducible (first | intro _ | refine rc ?_ | refine rl ?_ | refine rh ?_ | refine rt ?_ | refine rf ?_ | refine rs ?_ | refine And.intro ?_ ?_) | omega | simp (maxSteps := 1000000) only [go_sem, simprocAttr, ↓reduceIte, ej, hcl2, hfl, hcd])
        refine VcCall.ro (.ro (sts S)) (FnFr.of_ok ks rfl (by simp [noRoRows, noRoItem, noRoRow, noRoL, noRo, sts, St.av])) (by simp only [noIdR_ok, argOkL, argOk, allOk, argOkN, List.drop_zero, lk, reduceIte, reduceCtorEq, Nat.reduceEqDiff, Option.some.injEq, Item.row.injEq, Item.box.injEq, AV.ro.injEq, exists_eq_left, exists_and_left, exists_eq_left', exists_eq_right, and_assoc, and_true, true_and, List.cons.injEq, exists_eq', exists_eq, mxs]) (by simp [outOk, argOk, argOkN, lk, noIdR_ok]) rfl ?_
        (repeat' first | with_reducible (first | intro _ | refine rc ?_ | refine rl ?_ | refine rh ?_ | refine rt ?_ | refine rf ?_ | refine rs ?_ | refine And.intro ?_ ?_) | omega | simp (maxSteps := 1000000) only [go_sem, simprocAttr, ↓reduceIte, sts, List.length_map])
        refine VcLoop.intro (fun x : Nat × Int => ⟨184, [(62, .int .i64 x.1), (61, .int .i64 S.length), (60, .ro (sts S)), (11, .int .i64 x.2), (10, .int .i64 j), (9, .int .i64 i), (8, .own 0), (0, .str a), (1, .str b), (2, .ro (mxs l))], [(0, .row 57 (.objs 1 ((costL sw a b (i + 1)).set i [.own 1]))), (1, .row 3 (.ints .i64 (rowF sw a b i (j + 1))))], 2⟩) (fun x => x.1 ≤ S.length ∧ -1 ≤ x.2 ∧ x.2 ≤ 1000000 ∧ mfold x.2 ((S.drop x.1).map (valS sw (a.drop i) (b.drop j))) = dist sw (a.drop i) (b.drop j)) (fun x => S.length - x.1) (0, -1) ?_ ⟨Nat.zero_le _, Int.le_refl _, by decide, hmf⟩ fun x hx => ?_
        · refine Ent.same rfl (Nat.zero_le _) ?_ ?_ <;> simp only [go_sem, reduceCtorEq, reduceIte, Nat.reduceEqDiff, Nat.reduceLT, Nat.reduceLeDiff, Int.natCast_succ, belowL_set1, sts, Int.natCast_zero]
        obtain ⟨k, best⟩ := x
        dsimp only at hx
        by_cases hk : k < S.length
        · have hel := st_elem S hk
          have hstp := mfold_step (valS sw (a.drop i) (b.drop j)) S hk best
          have hbs := hsb (S.getD k St.zero) (by rw [getD_lt hk]; exact List.getElem_mem hk)
          generalize S.getD k St.zero = s at *
          obtain ⟨sa, sb, sc⟩ := s
          dsimp only at hbs hel
          rw [hvS, hx.2.2.2] at hstp
          dsimp only at hstp
          have bs := dist_bd hg _ (a.drop (i + sa)) (b.drop (j + sb)) (Nat.le_refl _)
          simp only [List.length_drop] at bs
          have ta : ((i : Int) + sa).toNat = i + sa := by omega
          have tb : ((j : Int) + sb).toNat = j + sb := by omega
          have hfl0 := rowF_len sw a b (i + sa) 0
          by_cases hsa : sa = 0
          case' pos =>
            subst hsa
            simp only [Nat.add_zero, Int.natCast_zero] at hstp bs ta hfl0
            have hgt : ((costL sw a b (i + 1)).set i [.own 1]).getD i [] = [.own 1] := by rw [getD_lt (by rw [List.length_set, hcl]; omega), List.getElem_set_self]
            have hgv : (rowF sw a b i (j + 1)).getD (j + sb) 0 = dist sw (a.drop i) (b.drop (j + sb)) := rowF_get (by omega) (by omega)
          case' neg =>
            have hgt : ((costL sw a b (i + 1)).set i [.own 1]).getD (i + sa) [] = [.ro (.ints .i64 (rowF sw a b (i + sa) 0))] := by
              rw [getD_lt (by rw [List.length_set, hcl]; omega), List.getElem_set_ne (by omega), ← getD_lt (d := [])]
              exact costL_get (by omega) (by omega)
            have hgv : (rowF sw a b (i + sa) 0).getD (j + sb) 0 = dist sw (a.drop (i + sa)) (b.drop (j + sb)) := rowF_get (by omega) (Nat.zero_le _)
          all_goals
            generalize dist sw (a.drop _) (b.drop (j + sb)) = ds at *
            (repeat' first | with_reducible (first | intro _ | refine rc ?_ | refine rl ?_ | refine rh ?_ | refine rt ?_ | refine rf ?_ | refine rs ?_ | refine And.intro ?_ ?_) | omega | simp (maxSteps := 1000000) only [go_sem, simprocAttr, ↓reduceIte, elemA, hel, sts, List.length_map])
            refine VcDraw.lex [] [] (by kernel_rfl) (by kernel_rfl) ?_
            (repeat' first | with_reducible (first | intro _ | refine rc ?_ | refine rl ?_ | refine rh ?_ | refine rt ?_ | refine rf ?_ | refine rs ?_ | refine And.intro ?_ ?_) | omega | simp (maxSteps := 1000000) only [go_sem, simprocAttr, ↓reduceIte, elemA, ta, tb, hgt, hgv, hcl2, hfl, hfl0])
            · have h : best < 0 ∨ sc + ds < best := by assumption
              rw [if_pos h] at hstp
              refine ⟨(k + 1, sc + ds), Ent.same rfl (Nat.zero_le _) ?_ ?_, ⟨by dsimp only; omega, by dsimp only; omega, by dsimp only; omega, hstp.symm⟩, by dsimp only; omega⟩ <;> simp only [go_sem, reduceCtorEq, reduceIte, Nat.reduceEqDiff, Nat.reduceLT, Nat.reduceLeDiff, Int.natCast_succ, belowL_set1, sts]
            · have h : ¬ (best < 0 ∨ sc + ds < best) := by assumption
              rw [if_neg h] at hstp
              refine ⟨(k + 1, best), Ent.same rfl (Nat.zero_le _) ?_ ?_, ⟨by dsimp only; omega, by dsimp only; omega, by dsimp only; omega, hstp.symm⟩, by dsimp only; omega⟩ <;> simp only [go_sem, reduceCtorEq, reduceIte, Nat.reduceEqDiff, Nat.reduceLT, Nat.reduceLeDiff, Int.natCast_succ, belowL_set1, sts]
        · have ek : k = S.length := by omega
          have hfin := hx.2.2.2
          rw [ek, List.drop_length] at hfin
          have hfin' : best = dist sw (a.drop i) (b.drop j) := hfin
          have hgt : ((costL sw a b (i + 1)).set i [.own 1]).getD i [] = [.own 1] := by rw [getD_lt (by rw [List.length_set, hcl]; omega), List.getElem_set_self]
          (repeat' first | with_reducible (first | intro _ | refine rc ?_ | refine rl ?_ | refine rh ?_ | refine rt ?_ | refine rf ?_ | refine rs ?_ | refine And.intro ?_ ?_) | omega | simp (maxSteps := 1000000) only [go_sem, simprocAttr, ↓reduceIte, sts, List.length_map, elemA, hgt, hcl2, hfl, hrs _ hfin', Int.toNat_natCast])
          refine ⟨j, Ent.same rfl (Nat.zero_le _) ?_ ?_, by omega, by omega⟩ <;> simp only [go_sem, reduceCtorEq, reduceIte, Nat.reduceEqDiff, Nat.reduceLT, Nat.reduceLeDiff, Int.natCast_succ, belowL_set1]
end Go.Fv.V

/- The reference's errors of two texts. -/
namespace Go.Fv.V
open Go Go.Proofs
set_option linter.unusedSimpArgs false
set_option linter.unusedVariables false
set_option linter.unnecessarySimpa false
set_option maxRecDepth 8000

set_option maxHeartbeats 4000000 in
theorem refWordsOf_ok (s : List UInt8) (hs : s.length ≤ 1048576) (l : List Tok) (hl : toks s [] [] = l) : FnOk Tryd.prog 32 [.str s] (.own 0) [(0, .row 9 (.strs (wds l)))] := by
  have c1 := refTokens_ok s hs
  rw [hl] at c1
  have hll := toks_len _ s [] [] (Nat.le_refl _)
  rw [hl] at hll
  simp only [List.length_nil] at hll
  refine FnOk.of_vc Tryd.func32 rfl (by decide) (by simp [Tryd.f32]) [.tmp 2] rfl fun w0 T0 _ => ?_
  simp only [Tryd.f32, argEnv]
  (repeat' first | with_reducible (first | intro _ | refine rc ?_ | refine rl ?_ | refine rh ?_ | refine rt ?_ | refine rf ?_ | refine rs ?_ | refine And.intro ?_ ?_) | omega | simp (maxSteps := 1000000) only [go_sem, simprocAttr, ↓reduceIte])
  refine VcCall.ro (.ro (tkR l)) (FnFr.of_ok c1 rfl (by simp [noRoRows, noRoItem, noRoRow, noRoL, noRo, tkR, tkAv])) (by simp only [noIdR_ok, argOkL, argOk, allOk, argOkN, List.drop_zero, lk, reduceIte, reduceCtorEq, Nat.reduceEqDiff, Option.some.injEq, Item.row.injEq, Item.box.injEq, AV.ro.injEq, exists_eq_left, exists_and_left, exists_eq_left', exists_eq_right, and_assoc, and_true, true_and, List.cons.injEq, exists_eq', exists_eq]) (by simp [outOk, argOkL, allOk, argOk, argOkN, lk, noIdR_ok, tkR]) rfl ?_
  (repeat' first | with_reducible (first | intro _ | refine rc ?_ | refine rl ?_ | refine rh ?_ | refine rt ?_ | refine rf ?_ | refine rs ?_ | refine And.intro ?_ ?_) | omega | simp (maxSteps := 1000000) only [go_sem, simprocAttr, ↓reduceIte, tkR, List.length_map])
  refine VcLoop.intro (fun i : Nat => ⟨22, [(9, .int .i64 i), (8, .int .i64 l.length), (7, .ro (tkR l)), (3, .own 0)], [(0, .row 9 (.strs (wds (l.take i))))], 1⟩) (fun i => i ≤ l.length) (fun i => l.length - i) 0 ?_ (Nat.zero_le _) fun i hi => ?_
  · refine Ent.auto0 rfl ?_ ?_
    · simp only [go_sem, reduceCtorEq, reduceIte, Nat.reduceEqDiff, Nat.reduceLT, Nat.reduceLeDiff, Int.natCast_succ, tkR]
    · simp only [go_sem, reduceCtorEq, reduceIte, Nat.reduceEqDiff, Nat.reduceLT, Nat.reduceLeDiff, Int.natCast_succ, tkR]
      rfl
  by_cases hlt : i < l.length
  · have hel := tk_elem l hlt
    have hst := wds_take l hlt
    have hwl := wds_len (l.take i)
    have hwl2 : (l.take i).length ≤ l.length := by simp; omega
    generalize l.getD i ([], false) = z at *
    obtain ⟨z1, z2⟩ := z
    dsimp only at hel hst
    cases z2 with
    | true =>
      rw [if_pos rfl] at hst
      (repeat' first | with_reducible (first | intro _ | refine rc ?_ | refine rl ?_ | refine rh ?_ | refine rt ?_ | refine rf ?_ | refine rs ?_ | refine And.intro ?_ ?_) | omega | simp (maxSteps := 1000000) only [go_sem, simprocAttr, ↓reduceIte, elemA, hel, tkR, List.length_map])
      refine ⟨i + 1, Ent.auto0 rfl ?_ ?_, by omega, by omega⟩ <;> simp only [go_sem, reduceCtorEq, reduceIte, Nat.reduceEqDiff, Nat.reduceLT, Nat.reduceLeDiff, Int.natCast_succ, tkR, hst]
    | false =>
      rw [if_neg (by decide), List.append_nil] at hst
      (repeat' first | with_reducible (first | intro _ | refine rc ?_ | refine rl ?_ | refine rh ?_ | refine rt ?_ | refine rf ?_ | refine rs ?_ | refine And.intro ?_ ?_) | omega | simp (maxSteps := 1000000) only [go_sem, simprocAttr, ↓reduceIte, elemA, hel, tkR, List.length_map])
      refine ⟨i + 1, Ent.auto0 rfl ?_ ?_, by omega, by omega⟩ <;> simp only [go_sem, reduceCtorEq, reduceIte, Nat.reduceEqDiff, Nat.reduceLT, Nat.reduceLeDiff, Int.natCast_succ, tkR, hst]
  · have e : i = l.length := by omega
    subst e
    (repeat' first | with_reducible (first | intro _ | refine rc ?_ | refine rl ?_ | refine rh ?_ | refine rt ?_ | refine rf ?_ | refine rs ?_ | refine And.intro ?_ ?_) | omega | simp (maxSteps := 1000000) only [go_sem, simprocAttr, ↓reduceIte, tkR, List.length_map])
    refine Ret.auto 1 ?_ rfl ?_ <;> simp only [go_sem, reduceCtorEq, reduceIte, Nat.reduceEqDiff, Nat.reduceLT, Nat.reduceLeDiff, Int.natCast_succ, Post, List.take_of_length_le, Nat.le_refl]
set_option maxHeartbeats 8000000 in
theorem refErrors_ok (x y : List UInt8) (hx : x.length ≤ 2000) (hy : y.length ≤ 2000) (a b : List Bytes) (ha : wds (toks x [] []) = a) (hb : wds (toks y [] []) = b) :
    FnOk Tryd.prog 10 [.str x, .str y] (.tup [.int .i64 (Int.tdiv (dist [] x y) 100), .int .i64 (wrongN a b b.length)]) [] := by
  have c1 := refWordsOf_ok x (by omega) _ rfl
  have c2 := refWordsOf_ok y (by omega) _ rfl
  have l1 := wds_len (toks x [] [])
  have l2 := wds_len (toks y [] [])
  have t1 := toks_len _ x [] [] (Nat.le_refl _)
  have t2 := toks_len _ y [] [] (Nat.le_refl _)
  simp only [List.length_nil] at t1 t2
  rw [ha] at c1 l1
  rw [hb] at c2 l2
  have c3 := refScript_ok [] goodSw_nil (by simp) x y hx hy
  rw [show swL [] = [] from rfl] at c3
  generalize script [] 0 x y = sl at *
  have hdb := dist_bd goodSw_nil _ x y (Nat.le_refl _)
  generalize dist [] x y = d at *
  have hq0 : 0 ≤ d.tdiv 100 ∧ d.tdiv 100 ≤ 100000 := by
    rw [Int.tdiv_eq_ediv_of_nonneg hdb.1]; omega
  obtain ⟨q, hq⟩ : ∃ q, d.tdiv 100 = q := ⟨_, rfl⟩
  rw [hq] at hq0
  rw [hq]
  refine FnOk.of_vc Tryd.func10 rfl (by decide) (by simp [Tryd.f10]) [.tmp 4, .tmp 5] rfl fun w0 T0 _ => ?_
  simp only [Tryd.f10, argEnv]
  (repeat' first | with_reducible (first | intro _ | refine rc ?_ | refine rl ?_ | refine rh ?_ | refine rt ?_ | refine rf ?_ | refine rs ?_ | refine And.intro ?_ ?_) | omega | simp (maxSteps := 1000000) only [go_sem, simprocAttr, ↓reduceIte])
  refine VcCall.ro (args' := [.str x, .str y, .ro (mxs [])]) (.tup [.ro (sls sl), .int .i64 d]) (FnFr.of_ok c3 rfl (by simp [noRoRows, noRoItem, noRoRow, sls, Sl.av, noRoL, noRo])) (by simp only [noIdR_ok, argOkL, argOk, allOk, argOkN, List.drop_zero, lk, reduceIte, reduceCtorEq, Nat.reduceEqDiff, Option.some.injEq, Item.row.injEq, Item.box.injEq, AV.ro.injEq, exists_eq_left, exists_and_left, exists_eq_left', exists_eq_right, and_assoc, and_true, true_and, List.cons.injEq, exists_eq', exists_eq]; exact ⟨_, ⟨_, ⟨_, .inr ⟨mxs [], by first | trivial | simp [nilRow, mxs], rfl⟩, rfl⟩, rfl⟩, rfl⟩) (by simp [outOk, argOkL, allOk, argOk, argOkN, lk, noIdR_ok]) rfl ?_
  (repeat' first | with_reducible (first | intro _ | refine rc ?_ | refine rl ?_ | refine rh ?_ | refine rt ?_ | refine rf ?_ | refine rs ?_ | refine And.intro ?_ ?_) | omega | simp (maxSteps := 1000000) only [go_sem, simprocAttr, ↓reduceIte])
  refine VcCall.ro (.ro (.strs a)) (FnFr.of_ok c1 rfl rfl) (by simp only [noIdR_ok, argOkL, argOk, allOk, argOkN, List.drop_zero, lk, reduceIte, reduceCtorEq, Nat.reduceEqDiff, Option.some.injEq, Item.row.injEq, Item.box.injEq, AV.ro.injEq, exists_eq_left, exists_and_left, exists_eq_left', exists_eq_right, and_assoc, and_true, true_and, List.cons.injEq, exists_eq', exists_eq]) (by simp [outOk, argOkL, allOk, argOk, argOkN, lk, noIdR_ok]) rfl ?_
  (repeat' first | with_reducible (first | intro _ | refine rc ?_ | refine rl ?_ | refine rh ?_ | refine rt ?_ | refine rf ?_ | refine rs ?_ | refine And.intro ?_ ?_) | omega | simp (maxSteps := 1000000) only [go_sem, simprocAttr, ↓reduceIte])
  refine VcCall.ro (.ro (.strs b)) (FnFr.of_ok c2 rfl rfl) (by simp only [noIdR_ok, argOkL, argOk, allOk, argOkN, List.drop_zero, lk, reduceIte, reduceCtorEq, Nat.reduceEqDiff, Option.some.injEq, Item.row.injEq, Item.box.injEq, AV.ro.injEq, exists_eq_left, exists_and_left, exists_eq_left', exists_eq_right, and_assoc, and_true, true_and, List.cons.injEq, exists_eq', exists_eq]) (by simp [outOk, argOkL, allOk, argOk, argOkN, lk, noIdR_ok]) rfl ?_
  (repeat' first | with_reducible (first | intro _ | refine rc ?_ | refine rl ?_ | refine rh ?_ | refine rt ?_ | refine rf ?_ | refine rs ?_ | refine And.intro ?_ ?_) | omega | simp (maxSteps := 1000000) only [go_sem, simprocAttr, ↓reduceIte])
  refine VcLoop.intro (fun i : Nat => ⟨51, [(28, .int .i64 i), (27, .int .i64 b.length), (26, .ro (.strs b)), (11, .int .i64 (wrongN a b i)), (10, .ro (.strs b)), (9, .ro (.strs a)), (7, .int .i64 d)], [], 0⟩) (fun i => i ≤ b.length) (fun i => b.length - i) 0 ?_ (Nat.zero_le _) fun i hi => ?_
  · refine Ent.auto0 rfl ?_ ?_ <;> simp only [go_sem, reduceCtorEq, reduceIte, Nat.reduceEqDiff, Nat.reduceLT, Nat.reduceLeDiff, Int.natCast_succ, wrongN]
  have hwb := wrongN_bd a b i
  have hst : wrongN a b (i + 1) = if (a.length : Int) ≤ i ∨ ¬ a.getD i [] = b.getD i [] then wrongN a b i + 1 else wrongN a b i := rfl
  by_cases hlt : i < b.length
  · by_cases hal : (a.length : Int) ≤ i
    · rw [if_pos (.inl hal)] at hst
      (repeat' first | with_reducible (first | intro _ | refine rc ?_ | refine rl ?_ | refine rh ?_ | refine rt ?_ | refine rf ?_ | refine rs ?_ | refine And.intro ?_ ?_) | omega | simp (maxSteps := 1000000) only [go_sem, simprocAttr, ↓reduceIte, hal, elemA, Int.toNat_natCast])
      refine ⟨i + 1, Ent.auto0 rfl ?_ ?_, by omega, by omega⟩ <;> simp only [go_sem, reduceCtorEq, reduceIte, Nat.reduceEqDiff, Nat.reduceLT, Nat.reduceLeDiff, Int.natCast_succ, hst]
    · by_cases he : a.getD i [] = b.getD i []
      · rw [if_neg (fun h => h.elim hal (fun h => h he))] at hst
        (repeat' first | with_reducible (first | intro _ | refine rc ?_ | refine rl ?_ | refine rh ?_ | refine rt ?_ | refine rf ?_ | refine rs ?_ | refine And.intro ?_ ?_) | omega | simp (maxSteps := 1000000) only [go_sem, simprocAttr, ↓reduceIte, hal, he, elemA, Int.toNat_natCast])
        refine ⟨i + 1, Ent.auto0 rfl ?_ ?_, by omega, by omega⟩ <;> simp only [go_sem, reduceCtorEq, reduceIte, Nat.reduceEqDiff, Nat.reduceLT, Nat.reduceLeDiff, Int.natCast_succ, hst]
      · rw [if_pos (.inr he)] at hst
        (repeat' first | with_reducible (first | intro _ | refine rc ?_ | refine rl ?_ | refine rh ?_ | refine rt ?_ | refine rf ?_ | refine rs ?_ | refine And.intro ?_ ?_) | omega | simp (maxSteps := 1000000) only [go_sem, simprocAttr, ↓reduceIte, hal, he, elemA, Int.toNat_natCast])
        refine ⟨i + 1, Ent.auto0 rfl ?_ ?_, by omega, by omega⟩ <;> simp only [go_sem, reduceCtorEq, reduceIte, Nat.reduceEqDiff, Nat.reduceLT, Nat.reduceLeDiff, Int.natCast_succ, hst]
  · have e : i = b.length := by omega
    subst e
    (repeat' first | with_reducible (first | intro _ | refine rc ?_ | refine rl ?_ | refine rh ?_ | refine rt ?_ | refine rf ?_ | refine rs ?_ | refine And.intro ?_ ?_) | omega | simp (maxSteps := 1000000) only [go_sem, simprocAttr, ↓reduceIte, hq])
    refine Ret.auto 0 ?_ rfl ?_ <;> simp only [go_sem, reduceCtorEq, reduceIte, Nat.reduceEqDiff, Nat.reduceLT, Nat.reduceLeDiff, Int.natCast_succ, Post]
end Go.Fv.V

namespace Go.Fv.V
open Go Go.Proofs
set_option linter.unusedSimpArgs false
set_option linter.unusedVariables false
set_option maxRecDepth 8000
theorem drop_bools {tab : List Bool} {n : Nat} (h : n < tab.length) : (tab.map AV.bool).drop n = .bool (tab.getD n false) :: (tab.map AV.bool).drop (n + 1) := by
  rw [List.drop_eq_getElem_cons (by simpa using h)]
  simp [List.getD, h]

set_option maxHeartbeats 1000000 in
theorem contains_ok (tab : List Bool) (b : Int) (hl : tab.length = 256) (h0 : 0 ≤ b) (h1 : b < 256) : FnOk Tryd.prog 87 [.cell (tab.map .bool), .int .u8 b] (.bool (tab.getD b.toNat false)) [] := by
  refine FnOk.of_vc Tryd.func87 rfl (by decide) (by simp [Tryd.f87]) [.tmp 4] rfl fun w0 T0 _ => ?_
  simp only [Tryd.f87, argEnv]
  have hd := drop_bools (tab := tab) (n := b.toNat) (by omega)
  simp (maxSteps := 1000000) only [go_sem, reduceCtorEq, Nat.reduceLT, Nat.reduceLeDiff, reduceIte, ↓reduceIte, Nat.reduceEqDiff, Nat.reduceAdd, Nat.reduceMul, Nat.reduceSub, Int.reduceLE, Int.reduceLT, Int.reduceNeg, Int.reduceToNat, Nat.mul_one, hd]
  (repeat' first | (with_reducible refine Asm.intro fun _ => ?_) | ((with_reducible refine Chk.intro ?_ ?_); (· first | omega | (with_reducible refine Chk.intro ?_ ?_ <;> omega) | (simp; done) | (simp; omega))) | ((with_reducible refine LetW.i64 ?_ ?_ ?_); (· omega); (· omega)) | ((with_reducible refine Ite.decide (fun _ => ?_) (fun _ => ?_)) <;> first | (exfalso; omega) | simp (maxSteps := 1000000) only [go_sem, reduceCtorEq, Nat.reduceLT, Nat.reduceLeDiff, reduceIte, ↓reduceIte, Nat.reduceEqDiff, Nat.reduceAdd, Nat.reduceMul, Nat.reduceSub, Int.reduceLE, Int.reduceLT, Int.reduceNeg, Int.reduceToNat]) | ((with_reducible refine Ite.bool (fun _ => ?_) (fun _ => ?_)) <;> simp (maxSteps := 1000000) only [go_sem, reduceCtorEq, Nat.reduceLT, Nat.reduceLeDiff, reduceIte, ↓reduceIte, Nat.reduceEqDiff, Nat.reduceAdd, Nat.reduceMul, Nat.reduceSub, Int.reduceLE, Int.reduceLT, Int.reduceNeg, Int.reduceToNat]) | (with_reducible refine And.intro ?_ ?_))
  refine Ret.auto 0 ?_ rfl ?_ <;> simp only [go_sem, reduceCtorEq, reduceIte, Nat.reduceEqDiff, Nat.reduceLT, Nat.reduceLeDiff, Int.natCast_succ, Post]

set_option maxHeartbeats 1000000 in
theorem trimRight_a (tab : List Bool) (hl : tab.length = 256) (ha : tab.getD 97 false = true) : FnOk Tryd.prog 63 [.str [97], .cell (tab.map .bool)] (.str []) [] := by
  refine FnOk.of_vc Tryd.func63 rfl (by decide) (by simp [Tryd.f63]) [.tmp 4] rfl fun w0 T0 _ => ?_
  simp only [Tryd.f63, argEnv]
  simp (maxSteps := 1000000) only [go_sem, reduceCtorEq, Nat.reduceLT, Nat.reduceLeDiff, reduceIte, ↓reduceIte, Nat.reduceEqDiff, Nat.reduceAdd, Nat.reduceMul, Nat.reduceSub, Int.reduceLE, Int.reduceLT, Int.reduceNeg, Int.reduceToNat]
  refine VcLoop.intro (fun k : Bool => ⟨22, [(0, .str (cond k [97] [])), (1, .cell (tab.map .bool))], [], 0⟩) (fun _ => True) (fun k => cond k 1 0) true ?_ trivial fun k _ => ?_
  · refine Ent.auto0 rfl ?_ ?_ <;> simp only [go_sem, reduceCtorEq, reduceIte, Nat.reduceEqDiff, Nat.reduceLT, Nat.reduceLeDiff, Int.natCast_succ, cond_true]
  cases k with
  | true =>
    simp (maxSteps := 1000000) only [go_sem, reduceCtorEq, Nat.reduceLT, Nat.reduceLeDiff, reduceIte, ↓reduceIte, Nat.reduceEqDiff, Nat.reduceAdd, Nat.reduceMul, Nat.reduceSub, Int.reduceLE, Int.reduceLT, Int.reduceNeg, Int.reduceToNat]
    (repeat' first | (with_reducible refine Asm.intro fun _ => ?_) | ((with_reducible refine Chk.intro ?_ ?_); (· first | omega | (with_reducible refine Chk.intro ?_ ?_ <;> omega) | (simp; done) | (simp; omega))) | ((with_reducible refine LetW.i64 ?_ ?_ ?_); (· omega); (· omega)) | ((with_reducible refine Ite.decide (fun _ => ?_) (fun _ => ?_)) <;> first | (exfalso; omega) | simp (maxSteps := 1000000) only [go_sem, reduceCtorEq, Nat.reduceLT, Nat.reduceLeDiff, reduceIte, ↓reduceIte, Nat.reduceEqDiff, Nat.reduceAdd, Nat.reduceMul, Nat.reduceSub, Int.reduceLE, Int.reduceLT, Int.reduceNeg, Int.reduceToNat]) | ((with_reducible refine Ite.bool (fun _ => ?_) (fun _ => ?_)) <;> simp (maxSteps := 1000000) only [go_sem, reduceCtorEq, Nat.reduceLT, Nat.reduceLeDiff, reduceIte, ↓reduceIte, Nat.reduceEqDiff, Nat.reduceAdd, Nat.reduceMul, Nat.reduceSub, Int.reduceLE, Int.reduceLT, Int.reduceNeg, Int.reduceToNat]) | (with_reducible refine And.intro ?_ ?_))
    have e : ((([97] : List UInt8).getD (((1 : Nat) : Int) - 1).toNat 0).toNat : Int) = 97 := rfl
    rw [e]
    refine VcCall.fr (args' := [.cell (tab.map .bool), .int .u8 97]) (FnFr.of_ok (contains_ok tab 97 hl (by omega) (by omega)) rfl rfl) (by simp [argOkL, allOk, argOkN]) 0 rfl (by simp [rowsB]) ?_
    simp (maxSteps := 1000000) only [go_sem, reduceCtorEq, Nat.reduceLT, Nat.reduceLeDiff, reduceIte, ↓reduceIte, Nat.reduceEqDiff, Nat.reduceAdd, Nat.reduceMul, Nat.reduceSub, Int.reduceLE, Int.reduceLT, Int.reduceNeg, Int.reduceToNat, ha]
    (repeat' first | (with_reducible refine Asm.intro fun _ => ?_) | ((with_reducible refine Chk.intro ?_ ?_); (· first | omega | (with_reducible refine Chk.intro ?_ ?_ <;> omega) | (simp; done) | (simp; omega))) | ((with_reducible refine LetW.i64 ?_ ?_ ?_); (· omega); (· omega)) | ((with_reducible refine Ite.decide (fun _ => ?_) (fun _ => ?_)) <;> first | (exfalso; omega) | simp (maxSteps := 1000000) only [go_sem, reduceCtorEq, Nat.reduceLT, Nat.reduceLeDiff, reduceIte, ↓reduceIte, Nat.reduceEqDiff, Nat.reduceAdd, Nat.reduceMul, Nat.reduceSub, Int.reduceLE, Int.reduceLT, Int.reduceNeg, Int.reduceToNat]) | ((with_reducible refine Ite.bool (fun _ => ?_) (fun _ => ?_)) <;> simp (maxSteps := 1000000) only [go_sem, reduceCtorEq, Nat.reduceLT, Nat.reduceLeDiff, reduceIte, ↓reduceIte, Nat.reduceEqDiff, Nat.reduceAdd, Nat.reduceMul, Nat.reduceSub, Int.reduceLE, Int.reduceLT, Int.reduceNeg, Int.reduceToNat]) | (with_reducible refine And.intro ?_ ?_))
    refine ⟨false, Ent.auto0 rfl ?_ ?_, Nat.zero_lt_one⟩ <;> simp only [go_sem, reduceCtorEq, reduceIte, Nat.reduceEqDiff, Nat.reduceLT, Nat.reduceLeDiff, Int.natCast_succ, cond_false]
    simp
  | false =>
    simp (maxSteps := 1000000) only [go_sem, reduceCtorEq, Nat.reduceLT, Nat.reduceLeDiff, reduceIte, ↓reduceIte, Nat.reduceEqDiff, Nat.reduceAdd, Nat.reduceMul, Nat.reduceSub, Int.reduceLE, Int.reduceLT, Int.reduceNeg, Int.reduceToNat]
    (repeat' first | (with_reducible refine Asm.intro fun _ => ?_) | ((with_reducible refine Chk.intro ?_ ?_); (· first | omega | (with_reducible refine Chk.intro ?_ ?_ <;> omega) | (simp; done) | (simp; omega))) | ((with_reducible refine LetW.i64 ?_ ?_ ?_); (· omega); (· omega)) | ((with_reducible refine Ite.decide (fun _ => ?_) (fun _ => ?_)) <;> first | (exfalso; omega) | simp (maxSteps := 1000000) only [go_sem, reduceCtorEq, Nat.reduceLT, Nat.reduceLeDiff, reduceIte, ↓reduceIte, Nat.reduceEqDiff, Nat.reduceAdd, Nat.reduceMul, Nat.reduceSub, Int.reduceLE, Int.reduceLT, Int.reduceNeg, Int.reduceToNat]) | ((with_reducible refine Ite.bool (fun _ => ?_) (fun _ => ?_)) <;> simp (maxSteps := 1000000) only [go_sem, reduceCtorEq, Nat.reduceLT, Nat.reduceLeDiff, reduceIte, ↓reduceIte, Nat.reduceEqDiff, Nat.reduceAdd, Nat.reduceMul, Nat.reduceSub, Int.reduceLE, Int.reduceLT, Int.reduceNeg, Int.reduceToNat]) | (with_reducible refine And.intro ?_ ?_))
    refine Ret.auto 0 ?_ rfl ?_ <;> simp only [go_sem, reduceCtorEq, reduceIte, Nat.reduceEqDiff, Nat.reduceLT, Nat.reduceLeDiff, Int.natCast_succ, Post]

set_option maxHeartbeats 1000000 in
theorem trimLeft_nil (tab : List Bool) : FnOk Tryd.prog 62 [.str [], .cell (tab.map .bool)] (.str []) [] := by
  refine FnOk.of_vc Tryd.func62 rfl (by decide) (by simp [Tryd.f62]) [.tmp 4] rfl fun w0 T0 _ => ?_
  simp only [Tryd.f62, argEnv]
  simp (maxSteps := 1000000) only [go_sem, reduceCtorEq, Nat.reduceLT, Nat.reduceLeDiff, reduceIte, ↓reduceIte, Nat.reduceEqDiff, Nat.reduceAdd, Nat.reduceMul, Nat.reduceSub, Int.reduceLE, Int.reduceLT, Int.reduceNeg, Int.reduceToNat]
  refine VcLoop.intro (fun k : Unit => ⟨16, [(0, .str [])], [], 0⟩) (fun _ => True) (fun k => 0) () ?_ trivial fun k _ => ?_
  · refine Ent.auto0 rfl ?_ ?_ <;> simp only [go_sem, reduceCtorEq, reduceIte, Nat.reduceEqDiff, Nat.reduceLT, Nat.reduceLeDiff, Int.natCast_succ]
  simp (maxSteps := 1000000) only [go_sem, reduceCtorEq, Nat.reduceLT, Nat.reduceLeDiff, reduceIte, ↓reduceIte, Nat.reduceEqDiff, Nat.reduceAdd, Nat.reduceMul, Nat.reduceSub, Int.reduceLE, Int.reduceLT, Int.reduceNeg, Int.reduceToNat]
  (repeat' first | (with_reducible refine Asm.intro fun _ => ?_) | ((with_reducible refine Chk.intro ?_ ?_); (· first | omega | (with_reducible refine Chk.intro ?_ ?_ <;> omega) | (simp; done) | (simp; omega))) | ((with_reducible refine LetW.i64 ?_ ?_ ?_); (· omega); (· omega)) | ((with_reducible refine Ite.decide (fun _ => ?_) (fun _ => ?_)) <;> first | (exfalso; omega) | simp (maxSteps := 1000000) only [go_sem, reduceCtorEq, Nat.reduceLT, Nat.reduceLeDiff, reduceIte, ↓reduceIte, Nat.reduceEqDiff, Nat.reduceAdd, Nat.reduceMul, Nat.reduceSub, Int.reduceLE, Int.reduceLT, Int.reduceNeg, Int.reduceToNat]) | ((with_reducible refine Ite.bool (fun _ => ?_) (fun _ => ?_)) <;> simp (maxSteps := 1000000) only [go_sem, reduceCtorEq, Nat.reduceLT, Nat.reduceLeDiff, reduceIte, ↓reduceIte, Nat.reduceEqDiff, Nat.reduceAdd, Nat.reduceMul, Nat.reduceSub, Int.reduceLE, Int.reduceLT, Int.reduceNeg, Int.reduceToNat]) | (with_reducible refine And.intro ?_ ?_))
  refine Ret.auto 0 ?_ rfl ?_ <;> simp only [go_sem, reduceCtorEq, reduceIte, Nat.reduceEqDiff, Nat.reduceLT, Nat.reduceLeDiff, Int.natCast_succ, Post]

theorem z96 : zeroOf Tryd.prog 96 = some (.agg (Array.replicate 256 (.bool false))) := by kernel_rfl
theorem c96 : Tryd.prog.cellsOf 96 = 256 := by kernel_rfl

attribute [go_sem] z96 c96
def asciiAt (s : List UInt8) : Nat → List Bool
  | 0 => List.replicate 256 false
  | i + 1 => (asciiAt s i).set (s.getD i 0).toNat true
theorem asciiAt_len (s : List UInt8) : ∀ i, (asciiAt s i).length = 256
  | 0 => by simp [asciiAt]
  | i + 1 => by simp [asciiAt, asciiAt_len s i]

set_option maxHeartbeats 1000000 in
theorem makeAscii_ok (s : List UInt8) (hs : ∀ i, i < s.length → (s.getD i 0).toNat < 128) : FnOk Tryd.prog 61 [.str s] (.tup [.agg ((asciiAt s s.length).map .bool), .bool true]) [] := by
  refine FnOk.of_vc Tryd.func61 rfl (by decide) (by simp [Tryd.f61]) [.cell 2 96, .tmp 3] rfl fun w0 T0 _ => ?_
  simp only [Tryd.f61, argEnv]
  simp (maxSteps := 1000000) only [go_sem, reduceCtorEq, Nat.reduceLT, Nat.reduceLeDiff, reduceIte, ↓reduceIte, Nat.reduceEqDiff, Nat.reduceAdd, Nat.reduceMul, Nat.reduceSub, Int.reduceLE, Int.reduceLT, Int.reduceNeg, Int.reduceToNat]
  refine VcLoop.intro (fun i : Nat => ⟨21, [(0, .str s), (2, .ptr 0 0), (4, .int .i64 i)], [(0, .box 96 ((asciiAt s i).map .bool))], 1⟩) (fun i => i ≤ s.length) (fun i => s.length - i) 0 ?_ (Nat.zero_le _) fun i hi => ?_
  · refine Ent.auto0 rfl ?_ ?_ <;> simp only [go_sem, reduceCtorEq, reduceIte, Nat.reduceEqDiff, Nat.reduceLT, Nat.reduceLeDiff, Int.natCast_succ, asciiAt]
  have hlen := asciiAt_len s i
  simp (maxSteps := 1000000) only [go_sem, reduceCtorEq, Nat.reduceLT, Nat.reduceLeDiff, reduceIte, ↓reduceIte, Nat.reduceEqDiff, Nat.reduceAdd, Nat.reduceMul, Nat.reduceSub, Int.reduceLE, Int.reduceLT, Int.reduceNeg, Int.reduceToNat]
  (repeat' first | (with_reducible refine Asm.intro fun _ => ?_) | ((with_reducible refine Chk.intro ?_ ?_); (· first | omega | (with_reducible refine Chk.intro ?_ ?_ <;> omega) | (simp; done) | (simp; omega))) | ((with_reducible refine LetW.i64 ?_ ?_ ?_); (· omega); (· omega)) | ((with_reducible refine Ite.decide (fun _ => ?_) (fun _ => ?_)) <;> first | (exfalso; omega) | simp (maxSteps := 1000000) only [go_sem, reduceCtorEq, Nat.reduceLT, Nat.reduceLeDiff, reduceIte, ↓reduceIte, Nat.reduceEqDiff, Nat.reduceAdd, Nat.reduceMul, Nat.reduceSub, Int.reduceLE, Int.reduceLT, Int.reduceNeg, Int.reduceToNat]) | ((with_reducible refine Ite.bool (fun _ => ?_) (fun _ => ?_)) <;> simp (maxSteps := 1000000) only [go_sem, reduceCtorEq, Nat.reduceLT, Nat.reduceLeDiff, reduceIte, ↓reduceIte, Nat.reduceEqDiff, Nat.reduceAdd, Nat.reduceMul, Nat.reduceSub, Int.reduceLE, Int.reduceLT, Int.reduceNeg, Int.reduceToNat]) | (with_reducible refine And.intro ?_ ?_))
  · have := hs i (by omega)
    omega
  · refine ⟨i + 1, Ent.auto0 rfl ?_ ?_, by omega, by omega⟩
    · simp only [go_sem, reduceCtorEq, reduceIte, Nat.reduceEqDiff, Nat.reduceLT, Nat.reduceLeDiff, Int.natCast_succ]
    · simp only [go_sem, reduceCtorEq, reduceIte, Nat.reduceEqDiff, Nat.reduceLT, Nat.reduceLeDiff, Int.natCast_succ, asciiAt]
  · have e : i = s.length := by omega
    subst e
    have e2 : ((asciiAt s s.length).map AV.bool).take 256 = (asciiAt s s.length).map AV.bool := List.take_of_length_le (by simp [hlen])
    have e3 : spl ((asciiAt s s.length).map AV.bool) 0 ((asciiAt s s.length).map AV.bool) = (asciiAt s s.length).map AV.bool := spl_all rfl
    refine Ret.auto 0 ?_ ?_ ?_ <;> simp only [go_sem, reduceCtorEq, reduceIte, Nat.reduceEqDiff, Nat.reduceLT, Nat.reduceLeDiff, Int.natCast_succ, Post, e2, e3, List.drop_zero]
    simp (maxSteps := 1000000) only [go_sem, reduceCtorEq, Nat.reduceLT, Nat.reduceLeDiff, reduceIte, ↓reduceIte, Nat.reduceEqDiff, Nat.reduceAdd, Nat.reduceMul, Nat.reduceSub, Int.reduceLE, Int.reduceLT, Int.reduceNeg, Int.reduceToNat, e2, hlen, List.length_map]

def cutset : List UInt8 := [97, 98, 99, 100, 101, 102, 103, 104, 105, 106, 107, 108, 109, 110, 111, 112, 113, 114, 115, 116, 117, 118, 119, 120, 121, 122, 48, 49, 50, 51, 52, 53, 54, 55, 56, 57, 45]
theorem cut_small : ∀ i, i < cutset.length → (cutset.getD i 0).toNat < 128 := by decide
theorem cut_a : (asciiAt cutset cutset.length).getD 97 false = true := by decide

set_option maxHeartbeats 1000000 in
theorem trim_a : FnOk Tryd.prog 40 [.str [97], .str cutset] (.str []) [] := by
  refine FnOk.of_vc Tryd.func40 rfl (by decide) (by simp [Tryd.f40]) [.tmp 4] rfl fun w0 T0 _ => ?_
  simp only [Tryd.f40, argEnv]
  have hc : ¬ cutset = [] := by decide
  have hl : cutset.length = 37 := rfl
  simp (maxSteps := 1000000) only [go_sem, reduceCtorEq, Nat.reduceLT, Nat.reduceLeDiff, reduceIte, ↓reduceIte, Nat.reduceEqDiff, Nat.reduceAdd, Nat.reduceMul, Nat.reduceSub, Int.reduceLE, Int.reduceLT, Int.reduceNeg, Int.reduceToNat, hc, hl]
  (repeat' first | (with_reducible refine Asm.intro fun _ => ?_) | ((with_reducible refine Chk.intro ?_ ?_); (· first | omega | (with_reducible refine Chk.intro ?_ ?_ <;> omega) | (simp; done) | (simp; omega))) | ((with_reducible refine LetW.i64 ?_ ?_ ?_); (· omega); (· omega)) | ((with_reducible refine Ite.decide (fun _ => ?_) (fun _ => ?_)) <;> first | (exfalso; omega) | simp (maxSteps := 1000000) only [go_sem, reduceCtorEq, Nat.reduceLT, Nat.reduceLeDiff, reduceIte, ↓reduceIte, Nat.reduceEqDiff, Nat.reduceAdd, Nat.reduceMul, Nat.reduceSub, Int.reduceLE, Int.reduceLT, Int.reduceNeg, Int.reduceToNat]) | ((with_reducible refine Ite.bool (fun _ => ?_) (fun _ => ?_)) <;> simp (maxSteps := 1000000) only [go_sem, reduceCtorEq, Nat.reduceLT, Nat.reduceLeDiff, reduceIte, ↓reduceIte, Nat.reduceEqDiff, Nat.reduceAdd, Nat.reduceMul, Nat.reduceSub, Int.reduceLE, Int.reduceLT, Int.reduceNeg, Int.reduceToNat]) | (with_reducible refine And.intro ?_ ?_))
  have hlen := asciiAt_len cutset cutset.length
  refine VcCall.fr (args' := [.str cutset]) (FnFr.of_ok (makeAscii_ok cutset cut_small) (by simp [noRo, noRoL, noRoL_bools]) rfl) (by simp [argOkL, allOk, argOkN]) 0 (by simp [Fv.below, belowL, belowL_bools]) (by simp [rowsB]) ?_
  have ha := cut_a
  generalize asciiAt cutset cutset.length = tab at hlen ha ⊢
  simp (maxSteps := 1000000) only [go_sem, reduceCtorEq, Nat.reduceLT, Nat.reduceLeDiff, reduceIte, ↓reduceIte, Nat.reduceEqDiff, Nat.reduceAdd, Nat.reduceMul, Nat.reduceSub, Int.reduceLE, Int.reduceLT, Int.reduceNeg, Int.reduceToNat]
  have e1 : spl (List.replicate 256 (AV.bool false)) 0 (tab.map .bool) = tab.map .bool := spl_all (by simp [hlen])
  refine Chk.intro (by simp [hlen]) ?_
  rw [e1]
  refine Chk.intro (by omega) ?_
  refine VcCall.fr (args' := [.str [97], .cell (tab.map .bool)]) (FnFr.of_ok (trimRight_a tab hlen ha) rfl rfl) ?_ 0 rfl (by simp [rowsB]) ?_
  · exact ⟨_, _, rfl, ⟨_, _, ⟨_, _, _, rfl, allOk_bools _ 4 _, rfl⟩, rfl, rfl⟩, rfl⟩
  simp (maxSteps := 1000000) only [go_sem, reduceCtorEq, Nat.reduceLT, Nat.reduceLeDiff, reduceIte, ↓reduceIte, Nat.reduceEqDiff, Nat.reduceAdd, Nat.reduceMul, Nat.reduceSub, Int.reduceLE, Int.reduceLT, Int.reduceNeg, Int.reduceToNat]
  refine VcCall.fr (args' := [.str [], .cell (tab.map .bool)]) (FnFr.of_ok (trimLeft_nil tab) rfl rfl) ?_ 0 rfl (by simp [rowsB]) ?_
  · exact ⟨_, _, rfl, ⟨_, _, ⟨_, _, _, rfl, allOk_bools _ 4 _, rfl⟩, rfl, rfl⟩, rfl⟩
  simp (maxSteps := 1000000) only [go_sem, reduceCtorEq, Nat.reduceLT, Nat.reduceLeDiff, reduceIte, ↓reduceIte, Nat.reduceEqDiff, Nat.reduceAdd, Nat.reduceMul, Nat.reduceSub, Int.reduceLE, Int.reduceLT, Int.reduceNeg, Int.reduceToNat]
  refine Ret.auto 0 ?_ rfl ?_ <;> simp only [go_sem, reduceCtorEq, reduceIte, Nat.reduceEqDiff, Nat.reduceLT, Nat.reduceLeDiff, Int.natCast_succ, Post]

set_option maxHeartbeats 1000000 in
theorem isName_a : FnOk Tryd.prog 20 [.str [97]] (.bool true) [] := by
  refine FnOk.of_vc Tryd.func20 rfl (by decide) (by simp [Tryd.f20]) [.tmp 2] rfl fun w0 T0 _ => ?_
  simp only [Tryd.f20, argEnv]
  simp (maxSteps := 1000000) only [go_sem, reduceCtorEq, Nat.reduceLT, Nat.reduceLeDiff, reduceIte, ↓reduceIte, Nat.reduceEqDiff, Nat.reduceAdd, Nat.reduceMul, Nat.reduceSub, Int.reduceLE, Int.reduceLT, Int.reduceNeg, Int.reduceToNat]
  (repeat' first | (with_reducible refine Asm.intro fun _ => ?_) | ((with_reducible refine Chk.intro ?_ ?_); (· first | omega | (with_reducible refine Chk.intro ?_ ?_ <;> omega) | (simp; done) | (simp; omega))) | ((with_reducible refine LetW.i64 ?_ ?_ ?_); (· omega); (· omega)) | ((with_reducible refine Ite.decide (fun _ => ?_) (fun _ => ?_)) <;> first | (exfalso; omega) | simp (maxSteps := 1000000) only [go_sem, reduceCtorEq, Nat.reduceLT, Nat.reduceLeDiff, reduceIte, ↓reduceIte, Nat.reduceEqDiff, Nat.reduceAdd, Nat.reduceMul, Nat.reduceSub, Int.reduceLE, Int.reduceLT, Int.reduceNeg, Int.reduceToNat]) | ((with_reducible refine Ite.bool (fun _ => ?_) (fun _ => ?_)) <;> simp (maxSteps := 1000000) only [go_sem, reduceCtorEq, Nat.reduceLT, Nat.reduceLeDiff, reduceIte, ↓reduceIte, Nat.reduceEqDiff, Nat.reduceAdd, Nat.reduceMul, Nat.reduceSub, Int.reduceLE, Int.reduceLT, Int.reduceNeg, Int.reduceToNat]) | (with_reducible refine And.intro ?_ ?_))
  · refine VcCall.fr (args' := [.str [97], .str cutset]) (FnFr.of_ok trim_a rfl rfl) (by simp [argOkL, allOk, argOkN, cutset]) 0 rfl (by simp [rowsB]) ?_
    simp (maxSteps := 1000000) only [go_sem, reduceCtorEq, Nat.reduceLT, Nat.reduceLeDiff, reduceIte, ↓reduceIte, Nat.reduceEqDiff, Nat.reduceAdd, Nat.reduceMul, Nat.reduceSub, Int.reduceLE, Int.reduceLT, Int.reduceNeg, Int.reduceToNat]
    (repeat' first | (with_reducible refine Asm.intro fun _ => ?_) | ((with_reducible refine Chk.intro ?_ ?_); (· first | omega | (with_reducible refine Chk.intro ?_ ?_ <;> omega) | (simp; done) | (simp; omega))) | ((with_reducible refine LetW.i64 ?_ ?_ ?_); (· omega); (· omega)) | ((with_reducible refine Ite.decide (fun _ => ?_) (fun _ => ?_)) <;> first | (exfalso; omega) | simp (maxSteps := 1000000) only [go_sem, reduceCtorEq, Nat.reduceLT, Nat.reduceLeDiff, reduceIte, ↓reduceIte, Nat.reduceEqDiff, Nat.reduceAdd, Nat.reduceMul, Nat.reduceSub, Int.reduceLE, Int.reduceLT, Int.reduceNeg, Int.reduceToNat]) | ((with_reducible refine Ite.bool (fun _ => ?_) (fun _ => ?_)) <;> simp (maxSteps := 1000000) only [go_sem, reduceCtorEq, Nat.reduceLT, Nat.reduceLeDiff, reduceIte, ↓reduceIte, Nat.reduceEqDiff, Nat.reduceAdd, Nat.reduceMul, Nat.reduceSub, Int.reduceLE, Int.reduceLT, Int.reduceNeg, Int.reduceToNat]) | (with_reducible refine And.intro ?_ ?_))
    refine Ret.auto 0 ?_ rfl ?_ <;> simp only [go_sem, reduceCtorEq, reduceIte, Nat.reduceEqDiff, Nat.reduceLT, Nat.reduceLeDiff, Int.natCast_succ, Post]
  · rename_i h
    exact (h (by decide)).elim

theorem landed_ok : FnOk Tryd.prog 5 [] (.bool true) [] := by
  refine FnOk.of_vc Tryd.func5 rfl (by decide) (by simp [Tryd.f5]) [.tmp 0] rfl fun w0 T0 _ => ?_
  simp only [Tryd.f5, argEnv]
  simp (maxSteps := 1000000) only [go_sem, reduceCtorEq, Nat.reduceLT, Nat.reduceLeDiff, reduceIte, ↓reduceIte, Nat.reduceEqDiff, Nat.reduceAdd, Nat.reduceMul, Nat.reduceSub, Int.reduceLE, Int.reduceLT, Int.reduceNeg, Int.reduceToNat]
  refine VcCall.fr (args' := [.str [97]]) (FnFr.of_ok isName_a rfl rfl) (by simp [argOkL, allOk, argOkN]) 0 rfl (by simp [rowsB]) ?_
  simp (maxSteps := 1000000) only [go_sem, reduceCtorEq, Nat.reduceLT, Nat.reduceLeDiff, reduceIte, ↓reduceIte, Nat.reduceEqDiff, Nat.reduceAdd, Nat.reduceMul, Nat.reduceSub, Int.reduceLE, Int.reduceLT, Int.reduceNeg, Int.reduceToNat]
  refine Ret.auto 0 ?_ rfl ?_ <;> simp only [go_sem, reduceCtorEq, reduceIte, Nat.reduceEqDiff, Nat.reduceLT, Nat.reduceLeDiff, Int.natCast_succ, Post]

end Go.Fv.V
