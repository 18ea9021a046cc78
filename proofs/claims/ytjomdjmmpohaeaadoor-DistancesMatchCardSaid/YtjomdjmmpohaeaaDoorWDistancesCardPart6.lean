/-
  A part of the proof of the claim: walks over the program's functions and the plain laws that these need. No condition of its own.
-/
import Derived.Test.YtjomdjmmpohaeaaDoorWDistancesCardPart1
import Derived.Test.YtjomdjmmpohaeaaDoorWDistancesCardPart5
namespace Go.Fv.W
open Go Go.Proofs
set_option linter.unusedSimpArgs false
set_option linter.unusedVariables false
set_option linter.unnecessarySimpa false
set_option maxRecDepth 8000

def kgRs (kg : KG) : List RowV := kg.map fun p => sws p.2
def kgI (kg : KG) : List Item := (kgRs kg).map (Item.row 129)
theorem kgRs_len (kg : KG) : (kgRs kg).length = kg.length := by simp [kgRs]

theorem put_out {b n : Nat} {L : List Item} (h : L.length = n) {q : Nat} (hq : n + b ≤ q) (x : Item) : put (famI b L) q x = famI b L := by
  have : ∀ (L : List Item) (b : Nat), L.length + b ≤ q → put (famI b L) q x = famI b L := by
    intro L
    induction L with
    | nil => intro b _; rfl
    | cons y L ih =>
      intro b hb
      simp only [List.length_cons] at hb
      simp only [famI, put]
      rw [if_neg (by omega), ih (b + 1) (by omega)]
  exact this L b (by omega)
theorem kgI_len (kg : KG) : (kgI kg).length = kg.length := by simp [kgI, kgRs]
theorem kgI_noid (kg : KG) : ∀ r, r ∈ kgRs kg → noIdR r = true := by
  intro r hr
  obtain ⟨p, _, rfl⟩ := List.mem_map.1 hr
  exact noIdR_ok _
theorem kgI_get (kg : KG) {j : Nat} (h : j < (kgRs kg).length) : (kgI kg)[j]? = some (.row 129 (kgRs kg)[j]) := by simp [kgI, h]
theorem below_famN (b n N : Nat) (h : n + b ≤ N) : belowL N (famN b n) = true := by
  have : ∀ (f : Nat → AV) (l : List Nat), (∀ i, i ∈ l → Fv.below N (f i) = true) → belowL N (l.map f) = true := by
    intro f l
    induction l with
    | nil => intro _; rfl
    | cons x l ih => intro hf; simp only [List.map_cons, belowL, hf x (.head _), Bool.true_and]; exact ih fun i hi => hf i (.tail _ hi)
  refine this _ _ fun i hi => ?_
  have := List.mem_range.1 hi
  simp [Fv.below]; omega
theorem ren_famN (p : Nat → Nat) (b n : Nat) : renL p (famN b n) = (List.range n).map fun i => .own (p (i + b)) := by
  unfold famN
  have : ∀ l : List Nat, renL p (l.map fun i => .own (i + b)) = l.map fun i => .own (p (i + b)) := by
    intro l
    induction l with
    | nil => rfl
    | cons x l ih => simp only [List.map_cons, renL, ren, ih]
  exact this _
theorem ren_famN_low {p : Nat → Nat} {b n : Nat} (h : ∀ i, i < n → p (i + b) = i + b) : renL p (famN b n) = famN b n := by
  rw [ren_famN]
  exact List.map_congr_left fun i hi => by rw [h i (List.mem_range.1 hi)]
theorem kgKs_ren (p : Nat → Nat) (kg : KG) : renL p (kgKs kg) = kgKs kg := renL_kmap p (fun _ => rfl) _
theorem kgKs_below (n : Nat) (kg : KG) : belowL n (kgKs kg) = true := belowL_kmap n (fun _ => rfl) _

theorem ren_famN_set {b n t K : Nat} (h : t < n) : renL (p1 (t + b) K) (famN b n) = (famN b n).set t (.own K) := by
  rw [ren_famN]
  refine List.ext_getElem (by simp [famN]) fun i h1 h2 => ?_
  simp only [List.getElem_map, List.getElem_range, List.getElem_set]
  split
  · rename_i e; subst e; rw [p1_at]
  · rename_i e
    rw [p1_ne (by omega)]; simp [famN]
theorem ren_famN_snoc {b n K : Nat} : renL (p1 (n + b) K) (famN b (n + 1)) = famN b n ++ [.own K] := by
  rw [ren_famN, List.range_succ, List.map_append]
  simp only [List.map_cons, List.map_nil, p1_at]
  congr 1
  exact List.map_congr_left fun i hi => by rw [p1_ne (by have := List.mem_range.1 hi; omega)]

set_option maxHeartbeats 8000000 in
theorem swaps_ok (l : List Mx) (hp : ∀ m, m ∈ l → m.f ≠ [] ∧ m.t ≠ []) (hl : l.length ≤ 1000) : FnOk Tryd.prog 44 [.ro (mxs l)] (.mp (kgKs (grp [] (swL l))) (kgVs (grp [] (swL l)))) [] := by
  refine FnOk.of_vc Tryd.func44 rfl (by decide) (by simp [Tryd.f44]) [.tmp 2] rfl fun w0 T0 _ => ?_
  simp only [Tryd.f44, argEnv]
  (repeat' first | (with_reducible refine Asm.intro fun _ => ?_) | ((with_reducible refine Chk.intro ?_ ?_); (· first | omega | (with_reducible refine Chk.intro ?_ ?_ <;> omega) | (simp; done) | (simp; omega))) | (with_reducible refine AnyI.i64 fun _ _ => ?_) | ((with_reducible refine LetW.i64 ?_ ?_ ?_); (· omega); (· omega)) | ((with_reducible refine Ite.decide (fun _ => ?_) (fun _ => ?_)) <;> first | (exfalso; omega) | skip) | (with_reducible refine Ite.bool (fun _ => ?_) (fun _ => ?_)) | (with_reducible refine And.intro ?_ ?_) | omega | simp (maxSteps := 1000000) only [go_sem, reduceCtorEq, Nat.reduceLT, Nat.reduceLeDiff, reduceIte, ↓reduceIte, Nat.reduceEqDiff, Nat.reduceAdd, Nat.reduceMul, Nat.reduceSub, Int.reduceLE, Int.reduceLT, Int.reduceNeg, Int.reduceToNat, List.length_map, mxs])
  refine VcLoop.intro (fun i : Nat => ⟨50, [(11, .int .i64 i), (10, .int .i64 l.length), (9, .ro (mxs l)), (3, .own 0)], (0, .map (kgKs (grp [] (swL (l.take i)))) (famN 100 (grp [] (swL (l.take i))).length)) :: famI 100 (kgI (grp [] (swL (l.take i)))), (grp [] (swL (l.take i))).length + 100⟩) (fun i => i ≤ l.length) (fun i => l.length - i) 0 ?_ (Nat.zero_le _) fun i hi => ?_
  · refine Ent.famR1 id (by simp [kgRs_len]) rfl (Nat.zero_le _) (fun i hi => rfl) (by decide) ?_ ?_ (kgI_noid _) ?_ (fun i j _ _ e => e)
    · simp only [go_sem, reduceCtorEq, reduceIte, Nat.reduceEqDiff, Nat.reduceLT, Nat.reduceLeDiff, Int.natCast_succ, id]
      simp [mxs]
    · simp [subP, lk, Item.ren, Item.below, kgKs, kgK, grp, swL, famN, renL, belowL]
    · intro j hj; simp [kgRs, swL, grp] at hj
  have hgk := grp_is (swL (l.take i))
  have hsl := swL_len (l.take i)
  by_cases hlt : i < l.length
  · have he := mx_elem l hlt
    have hst := swL_take l hlt Mx.zero
    have hpm := hp (l.getD i Mx.zero) (by rw [getD_lt hlt]; exact List.getElem_mem _)
    generalize l.getD i Mx.zero = m at *
    generalize swL (l.take i) = q at *
    have hp0 := fun x => put_out (kgI_len (grp [] q)) (Nat.le_refl ((grp [] q).length + 100)) x
    have hp1 := fun x => put_out (kgI_len (grp [] q)) (Nat.le_add_right ((grp [] q).length + 100) 1) x
    (repeat' first | (with_reducible refine Asm.intro fun _ => ?_) | ((with_reducible refine Chk.intro ?_ ?_); (· first | omega | (with_reducible refine Chk.intro ?_ ?_ <;> omega) | (simp; done) | (simp; omega))) | (with_reducible refine AnyI.i64 fun _ _ => ?_) | ((with_reducible refine LetW.i64 ?_ ?_ ?_); (· omega); (· omega)) | ((with_reducible refine Ite.decide (fun _ => ?_) (fun _ => ?_)) <;> first | (exfalso; omega) | skip) | (with_reducible refine Ite.bool (fun _ => ?_) (fun _ => ?_)) | (with_reducible refine And.intro ?_ ?_) | omega | simp (maxSteps := 1000000) only [go_sem, reduceCtorEq, Nat.reduceLT, Nat.reduceLeDiff, reduceIte, ↓reduceIte, Nat.reduceEqDiff, Nat.reduceAdd, Nat.reduceMul, Nat.reduceSub, Int.reduceLE, Int.reduceLT, Int.reduceNeg, Int.reduceToNat, elemA, he, List.length_map, mxs, hp0, hp1])
    refine VcLoop.intro (fun j : Nat => ⟨50, [(31, .int .i64 j), (30, .int .i64 2), (29, .own 1), (11, .int .i64 i), (10, .int .i64 l.length), (9, .ro (mxs l)), (3, .own 0)], (0, .map (kgKs (grp [] (q ++ [⟨m.f, m.t, m.c⟩, ⟨m.t, m.f, m.c⟩].take j))) (famN 100 (grp [] (q ++ [⟨m.f, m.t, m.c⟩, ⟨m.t, m.f, m.c⟩].take j)).length)) :: (1, .row 129 (.objs 3 [[.str m.f, .str m.t, .int .i64 m.c], [.str m.t, .str m.f, .int .i64 m.c]])) :: famI 100 (kgI (grp [] (q ++ [⟨m.f, m.t, m.c⟩, ⟨m.t, m.f, m.c⟩].take j))), (grp [] (q ++ [⟨m.f, m.t, m.c⟩, ⟨m.t, m.f, m.c⟩].take j)).length + 100⟩) (fun j => j ≤ 2) (fun j => 2 - j) 0 ?_ (Nat.zero_le _) fun j hj => ?_
    · rw [List.take_zero, List.append_nil]
      generalize grp [] q = kg at *
      refine Ent.famR2 (p1 1 (kg.length + 100 + 1)) (by simp [kgRs_len]) rfl (Nat.zero_le _) (fun i hi => by omega) (by decide) ?_ ?_ (kgI_noid _) ?_ ?_
      · simp only [go_sem, reduceCtorEq, reduceIte, Nat.reduceEqDiff, Nat.reduceLT, Nat.reduceLeDiff, Int.natCast_succ, mxs, p1]
        exact ⟨rfl, by omega, by omega⟩
      · simp only [go_sem, reduceCtorEq, reduceIte, Nat.reduceEqDiff, Nat.reduceLT, Nat.reduceLeDiff, Int.natCast_succ, subP, kgKs_ren, kgKs_below, p1_at, p1_ne (show (0 : Nat) ≠ 1 by decide)]
        rw [ren_famN_low (fun i hi => p1_ne (by omega)), below_famN _ _ _ (Nat.le_refl _)]
        exact ⟨rfl, rfl⟩
      · intro j hj
        rw [p1_ne (by omega)]
        rw [kgRs_len] at hj
        repeat rw [lk_ne (by omega)]
        exact lk_fam (kgI_get kg (by rw [kgRs_len]; exact hj))
      · exact p1_inj (by omega)
    have hg0 := grp_all ([⟨m.f, m.t, m.c⟩, ⟨m.t, m.f, m.c⟩].take j) _ _ hgk
    have hjj : j < 2 → ∃ s : Sw, [⟨m.f, m.t, m.c⟩, ⟨m.t, m.f, m.c⟩].take (j + 1) = [⟨m.f, m.t, m.c⟩, ⟨m.t, m.f, m.c⟩].take j ++ [s] ∧ s.o ≠ [] ∧ [[AV.str m.f, .str m.t, .int .i64 m.c], [.str m.t, .str m.f, .int .i64 m.c]].getD j [] = [.str s.o, .str s.n, .int .i64 s.c] := by
      intro h
      rcases (by omega : j = 0 ∨ j = 1) with rfl | rfl
      · exact ⟨⟨m.f, m.t, m.c⟩, rfl, hpm.1, rfl⟩
      · exact ⟨⟨m.t, m.f, m.c⟩, rfl, hpm.2, rfl⟩
    by_cases hj2 : j < 2
    · obtain ⟨s, hts, hso, hel⟩ := hjj hj2
      have hlen : (q ++ ([⟨m.f, m.t, m.c⟩, ⟨m.t, m.f, m.c⟩] : List Sw).take j).length ≤ 3000 := by simp; simp at hsl; omega
      have hgj := grp_is (q ++ ([⟨m.f, m.t, m.c⟩, ⟨m.t, m.f, m.c⟩] : List Sw).take j)
      have hsn : grp [] (q ++ ([⟨m.f, m.t, m.c⟩, ⟨m.t, m.f, m.c⟩] : List Sw).take (j + 1)) = kgIns (grp [] (q ++ ([⟨m.f, m.t, m.c⟩, ⟨m.t, m.f, m.c⟩] : List Sw).take j)) s := by rw [hts, ← List.append_assoc, grp_snoc]
      clear hp0 hp1 hgk hg0 hjj hst
      generalize q ++ ([⟨m.f, m.t, m.c⟩, ⟨m.t, m.f, m.c⟩] : List Sw).take j = qj at *
      generalize grp [] qj = kg at *
      have hp0 := fun x => put_out (kgI_len kg) (Nat.le_refl (kg.length + 100)) x
      have hgO := getV_own kg 100 (s.o.getD 0 0)
      have hks : KeysT Tryd.prog 5 (kgKs kg) := KeysT_map (fun c => .int Tryd.underlying5 _) _
      have hso2 : 0 < s.o.length := by cases ho : s.o with
        | nil => exact absurd ho hso
        | cons => simp
      have hkB : AV.int .u8 ((s.o.getD 0 0).toNat : Int) = kB (s.o.getD 0 0) := rfl
      cases hx : ixOf (kgK kg) (s.o.getD 0 0) with
      | some t =>
        rw [hx] at hgO
        have htl := ixOf_lt hx
        rw [kgK_len] at htl
        have hO : getO (kgKs kg) (famN 100 kg.length) (.int .u8 ((s.o.getD 0 0).toNat : Int)) .nilS = .own (t + 100) := getO_some hgO
        have hlk : lk (famI 100 (kgI kg)) (t + 100) = some (.row 129 (.objs 3 ((kgRs kg)[t]'(by rw [kgRs_len]; exact htl) |> fun _ => (kg[t].2.map Sw.av)))) := by
          rw [lk_fam (kgI_get kg (by rw [kgRs_len]; exact htl))]
          simp [kgRs, sws]
        have hne : (kg.length = t) = False := eq_false (by omega)
        have hne1 : (kg.length + 1 = t) = False := eq_false (by omega)
        have hne2 : (kg.length + 2 = t) = False := eq_false (by omega)
        obtain ⟨_, hund⟩ := hgj.some _ _ hx
        have hul := under_len qj (s.o.getD 0 0)
        rw [← hund] at hul
        have hki : keyIdx (kgKs kg) (.int .u8 ((s.o.getD 0 0).toNat : Int)) = some t := (keyIdx_map eqKeyB _ _).trans hx
        have hK : updKs (kgKs kg) (.int .u8 ((s.o.getD 0 0).toNat : Int)) = kgKs kg := by unfold updKs; rw [hki]
        have hV : ∀ v, updVs (kgKs kg) (famN 100 kg.length) (.int .u8 ((s.o.getD 0 0).toNat : Int)) v = (famN 100 kg.length).set t v := fun v => by unfold updVs; rw [hki]
        have hins : kgIns kg s = kg.set t (s.o.getD 0 0, (kg.getD t (0, [])).2 ++ [s]) := by unfold kgIns; rw [hx]
        (repeat' first | (with_reducible refine Asm.intro fun _ => ?_) | ((with_reducible refine Chk.intro ?_ ?_); (· first | omega | (with_reducible refine Chk.intro ?_ ?_ <;> omega) | (simp; done) | (simp; omega))) | (with_reducible refine AnyI.i64 fun _ _ => ?_) | ((with_reducible refine LetW.i64 ?_ ?_ ?_); (· omega); (· omega)) | ((with_reducible refine Ite.decide (fun _ => ?_) (fun _ => ?_)) <;> first | (exfalso; omega) | skip) | (with_reducible refine Ite.bool (fun _ => ?_) (fun _ => ?_)) | (with_reducible refine And.intro ?_ ?_) | omega | simp (maxSteps := 1000000) only [go_sem, reduceCtorEq, Nat.reduceLT, Nat.reduceLeDiff, reduceIte, ↓reduceIte, Nat.reduceEqDiff, Nat.reduceAdd, Nat.reduceMul, Nat.reduceSub, Int.reduceLE, Int.reduceLT, Int.reduceNeg, Int.reduceToNat, elemA, hel, hp0])
        refine VcDraw.lex [10, 11, 12] [(0, [1, 2]), (1, [1, 2]), (2, [1, 2]), (3, [1, 2]), (4, [1]), (5, [1]), (6, [1]), (7, [1]), (8, [1])] (by kernel_rfl) (by kernel_rfl) ?_
        (repeat' first | (with_reducible refine Asm.intro fun _ => ?_) | ((with_reducible refine Chk.intro ?_ ?_); (· first | omega | (with_reducible refine Chk.intro ?_ ?_ <;> omega) | (simp; done) | (simp; omega))) | (with_reducible refine AnyI.i64 fun _ _ => ?_) | ((with_reducible refine LetW.i64 ?_ ?_ ?_); (· omega); (· omega)) | ((with_reducible refine Ite.decide (fun _ => ?_) (fun _ => ?_)) <;> first | (exfalso; omega) | skip) | (with_reducible refine Ite.bool (fun _ => ?_) (fun _ => ?_)) | (with_reducible refine And.intro ?_ ?_) | omega | simp (maxSteps := 1000000) only [go_sem, reduceCtorEq, Nat.reduceLT, Nat.reduceLeDiff, reduceIte, ↓reduceIte, Nat.reduceEqDiff, Nat.reduceAdd, Nat.reduceMul, Nat.reduceSub, Int.reduceLE, Int.reduceLT, Int.reduceNeg, Int.reduceToNat, hO, hlk, hne, hne1, hp0, hK, hV, eq_true hks, Nat.add_eq_left, Nat.left_eq_add, List.length_map])
        refine ⟨j + 1, ?_, by omega, by omega⟩
        rw [hsn, hins]
        have h0 : p1 (t + 100) (kg.length + 100 + 1 + 1) 0 = 0 := p1_ne (by omega)
        have h1 : p1 (t + 100) (kg.length + 100 + 1 + 1) 1 = 1 := p1_ne (by omega)
        have hkk : kgKs (kg.set t (s.o.getD 0 0, (kg.getD t (0, [])).2 ++ [s])) = kgKs kg := congrArg (List.map kB) (kgK_set kg t _ _ (ixOf_some hx))
        refine Ent.famR2 (p1 (t + 100) (kg.length + 100 + 1 + 1)) (by simp [kgRs_len]) rfl (Nat.zero_le _) (fun i hi => by omega) (by decide) ?_ ?_ (kgI_noid _) ?_ ?_
        · simp only [go_sem, reduceCtorEq, reduceIte, Nat.reduceEqDiff, Nat.reduceLT, Nat.reduceLeDiff, Int.natCast_succ, h0, h1, List.length_set]
          exact ⟨by omega, by omega⟩
        · simp only [go_sem, reduceCtorEq, reduceIte, Nat.reduceEqDiff, Nat.reduceLT, Nat.reduceLeDiff, Int.natCast_succ, subP, kgKs_ren, kgKs_below, h0, h1, hkk, List.length_set]
          rw [ren_famN_set htl, below_famN _ _ _ (Nat.le_refl _)]
          exact ⟨rfl, rfl⟩
        · intro i hi
          rw [kgRs_len, List.length_set] at hi
          by_cases e : i = t
          · subst e
            rw [p1_at, lk_eq]
            have hgd : kg.getD i (0, []) = kg[i] := getD_lt htl
            simp only [kgRs, List.map_set, List.getElem_set_self, hgd]
            simp [sws, Sw.av]
          · rw [p1_ne (by omega)]
            repeat rw [lk_ne (by omega)]
            rw [lk_put, if_neg (by omega), lk_del, if_neg (by omega), lk_fam (kgI_get kg (by rw [kgRs_len]; exact hi))]
            simp [kgRs, List.getElem_set, if_neg (show ¬ t = i from fun h => e h.symm)]
        · refine p1_inj ?_
          simp
      | none =>
        rw [hx] at hgO
        have hO : getO (kgKs kg) (famN 100 kg.length) (.int .u8 ((s.o.getD 0 0).toNat : Int)) .nilS = .nilS := getO_none hgO
        have hki : keyIdx (kgKs kg) (.int .u8 ((s.o.getD 0 0).toNat : Int)) = none := (keyIdx_map eqKeyB _ _).trans hx
        have hK : updKs (kgKs kg) (.int .u8 ((s.o.getD 0 0).toNat : Int)) = kgKs kg ++ [.int .u8 ((s.o.getD 0 0).toNat : Int)] := by unfold updKs; rw [hki]
        have hV : ∀ v, updVs (kgKs kg) (famN 100 kg.length) (.int .u8 ((s.o.getD 0 0).toNat : Int)) v = famN 100 kg.length ++ [v] := fun v => by unfold updVs; rw [hki]
        have hins : kgIns kg s = kg ++ [(s.o.getD 0 0, [s])] := by unfold kgIns; rw [hx]
        (repeat' first | (with_reducible refine Asm.intro fun _ => ?_) | ((with_reducible refine Chk.intro ?_ ?_); (· first | omega | (with_reducible refine Chk.intro ?_ ?_ <;> omega) | (simp; done) | (simp; omega))) | (with_reducible refine AnyI.i64 fun _ _ => ?_) | ((with_reducible refine LetW.i64 ?_ ?_ ?_); (· omega); (· omega)) | ((with_reducible refine Ite.decide (fun _ => ?_) (fun _ => ?_)) <;> first | (exfalso; omega) | skip) | (with_reducible refine Ite.bool (fun _ => ?_) (fun _ => ?_)) | (with_reducible refine And.intro ?_ ?_) | omega | simp (maxSteps := 1000000) only [go_sem, reduceCtorEq, Nat.reduceLT, Nat.reduceLeDiff, reduceIte, ↓reduceIte, Nat.reduceEqDiff, Nat.reduceAdd, Nat.reduceMul, Nat.reduceSub, Int.reduceLE, Int.reduceLT, Int.reduceNeg, Int.reduceToNat, elemA, hel, hp0])
        refine VcDraw.lex [10, 11, 12] [(0, [1, 2]), (1, [1, 2]), (2, [1, 2]), (3, [1, 2]), (4, [1]), (5, [1]), (6, [1]), (7, [1]), (8, [1])] (by kernel_rfl) (by kernel_rfl) ?_
        (repeat' first | (with_reducible refine Asm.intro fun _ => ?_) | ((with_reducible refine Chk.intro ?_ ?_); (· first | omega | (with_reducible refine Chk.intro ?_ ?_ <;> omega) | (simp; done) | (simp; omega))) | (with_reducible refine AnyI.i64 fun _ _ => ?_) | ((with_reducible refine LetW.i64 ?_ ?_ ?_); (· omega); (· omega)) | ((with_reducible refine Ite.decide (fun _ => ?_) (fun _ => ?_)) <;> first | (exfalso; omega) | skip) | (with_reducible refine Ite.bool (fun _ => ?_) (fun _ => ?_)) | (with_reducible refine And.intro ?_ ?_) | omega | simp (maxSteps := 1000000) only [go_sem, reduceCtorEq, Nat.reduceLT, Nat.reduceLeDiff, reduceIte, ↓reduceIte, Nat.reduceEqDiff, Nat.reduceAdd, Nat.reduceMul, Nat.reduceSub, Int.reduceLE, Int.reduceLT, Int.reduceNeg, Int.reduceToNat, hO, hp0, hK, hV, eq_true hks, Nat.add_eq_left, Nat.left_eq_add, List.length_map])
        refine ⟨j + 1, ?_, by omega, by omega⟩
        rw [hsn, hins]
        have h0 : p1 (kg.length + 100) (kg.length + 100 + 1 + 1 + 1) 0 = 0 := p1_ne (by omega)
        have h1 : p1 (kg.length + 100) (kg.length + 100 + 1 + 1 + 1) 1 = 1 := p1_ne (by omega)
        have hll : (kg ++ [(s.o.getD 0 0, [s])]).length = kg.length + 1 := by simp
        have hkk : kgKs (kg ++ [(s.o.getD 0 0, [s])]) = kgKs kg ++ [.int .u8 ((s.o.getD 0 0).toNat : Int)] := by simp [kgKs, kgK, kB]
        refine Ent.famR2 (p1 (kg.length + 100) (kg.length + 100 + 1 + 1 + 1)) (by simp [kgRs_len]) rfl (Nat.zero_le _) (fun i hi => by omega) (by decide) ?_ ?_ (kgI_noid _) ?_ ?_
        · simp only [go_sem, reduceCtorEq, reduceIte, Nat.reduceEqDiff, Nat.reduceLT, Nat.reduceLeDiff, Int.natCast_succ, h0, h1, hll]
          exact ⟨by omega, by omega⟩
        · simp only [go_sem, reduceCtorEq, reduceIte, Nat.reduceEqDiff, Nat.reduceLT, Nat.reduceLeDiff, Int.natCast_succ, subP, h0, h1, hll]
          rw [kgKs_ren, kgKs_below, ren_famN_snoc, below_famN _ _ _ (Nat.le_refl _), hkk]
          exact ⟨rfl, rfl, rfl⟩
        · intro i hi
          rw [kgRs_len, hll] at hi
          by_cases e : i = kg.length
          · subst e
            rw [p1_at, lk_eq]
            simp [kgRs, sws, Sw.av]
          · rw [p1_ne (by omega)]
            repeat rw [lk_ne (by omega)]
            rw [lk_put, if_neg (by omega), lk_del, if_neg (by omega), lk_fam (kgI_get kg (by rw [kgRs_len]; omega))]
            have hlt2 : i < kg.length := by omega
            simp only [kgRs, List.map_append, List.map_cons, List.map_nil]
            rw [List.getElem_append_left (by simp; omega)]
        · refine p1_inj ?_
          simp
    · have ej : j = 2 := by omega
      subst ej
      have et : [(⟨m.f, m.t, m.c⟩ : Sw), ⟨m.t, m.f, m.c⟩].take 2 = [⟨m.f, m.t, m.c⟩, ⟨m.t, m.f, m.c⟩] := rfl
      rw [et, ← hst]
      (repeat' first | (with_reducible refine Asm.intro fun _ => ?_) | ((with_reducible refine Chk.intro ?_ ?_); (· first | omega | (with_reducible refine Chk.intro ?_ ?_ <;> omega) | (simp; done) | (simp; omega))) | (with_reducible refine AnyI.i64 fun _ _ => ?_) | ((with_reducible refine LetW.i64 ?_ ?_ ?_); (· omega); (· omega)) | ((with_reducible refine Ite.decide (fun _ => ?_) (fun _ => ?_)) <;> first | (exfalso; omega) | skip) | (with_reducible refine Ite.bool (fun _ => ?_) (fun _ => ?_)) | (with_reducible refine And.intro ?_ ?_) | omega | simp (maxSteps := 1000000) only [go_sem, reduceCtorEq, Nat.reduceLT, Nat.reduceLeDiff, reduceIte, ↓reduceIte, Nat.reduceEqDiff, Nat.reduceAdd, Nat.reduceMul, Nat.reduceSub, Int.reduceLE, Int.reduceLT, Int.reduceNeg, Int.reduceToNat])
      refine ⟨i + 1, ?_, by omega, by omega⟩
      refine Ent.famR1 id (by simp [kgRs_len]) rfl (Nat.zero_le _) (fun i hi => rfl) (by decide) ?_ ?_ (kgI_noid _) ?_ (fun i j _ _ e => e)
      · simp only [go_sem, reduceCtorEq, reduceIte, Nat.reduceEqDiff, Nat.reduceLT, Nat.reduceLeDiff, Int.natCast_succ, mxs, id]
        omega
      · simp only [go_sem, reduceCtorEq, reduceIte, Nat.reduceEqDiff, Nat.reduceLT, Nat.reduceLeDiff, Int.natCast_succ, subP, kgKs_ren, kgKs_below, id]
        rw [ren_famN_low (fun i hi => rfl), below_famN _ _ _ (Nat.le_refl _)]
        exact ⟨rfl, rfl⟩
      · intro j hj
        simp only [id, lk]
        repeat rw [if_neg (by omega)]
        exact lk_fam (kgI_get _ hj)
  · have e : i = l.length := by omega
    subst e
    rw [List.take_length] at *
    generalize grp [] (swL l) = kg at *
    (repeat' first | (with_reducible refine Asm.intro fun _ => ?_) | ((with_reducible refine Chk.intro ?_ ?_); (· first | omega | (with_reducible refine Chk.intro ?_ ?_ <;> omega) | (simp; done) | (simp; omega))) | (with_reducible refine AnyI.i64 fun _ _ => ?_) | ((with_reducible refine LetW.i64 ?_ ?_ ?_); (· omega); (· omega)) | ((with_reducible refine Ite.decide (fun _ => ?_) (fun _ => ?_)) <;> first | (exfalso; omega) | skip) | (with_reducible refine Ite.bool (fun _ => ?_) (fun _ => ?_)) | (with_reducible refine And.intro ?_ ?_) | omega | simp (maxSteps := 1000000) only [go_sem, reduceCtorEq, Nat.reduceLT, Nat.reduceLeDiff, reduceIte, ↓reduceIte, Nat.reduceEqDiff, Nat.reduceAdd, Nat.reduceMul, Nat.reduceSub, Int.reduceLE, Int.reduceLT, Int.reduceNeg, Int.reduceToNat, List.length_map, mxs])
    refine Ret.ro ?_
    simp only [go_sem, reduceCtorEq, reduceIte, Nat.reduceEqDiff, Nat.reduceLT, Nat.reduceLeDiff, Int.natCast_succ, outOk, argOk]
    refine argOkN_map lk_eq ?_ ?_
    · exact allOk_get rfl fun j h1 h2 => by simp [kgKs, kB, argOkN]
    · refine allOk_get (by simp [famN, kgVs]) fun j h1 h2 => ?_
      have hjl : j < kg.length := by simpa [famN] using h1
      have e1 : (famN 100 kg.length)[j] = .own (j + 100) := by simp [famN]
      have e2 : (kgVs kg)[j] = .ro (sws kg[j].2) := by simp [kgVs]
      rw [e1, e2]
      refine argOkN_row (e := 129) ?_ (noIdR_ok _)
      rw [lk_ne (by omega), lk_fam (kgI_get kg (by rw [kgRs_len]; exact hjl))]
      simp [kgRs]
end Go.Fv.W

namespace Go.Fv.W
open Go Go.Proofs
set_option linter.unusedSimpArgs false
set_option linter.unusedVariables false
set_option linter.unnecessarySimpa false
set_option maxRecDepth 8000

def wordsErr (l : List Mx) (ws : List (List UInt8)) : Int := if ws.any (fun s => decide (200 < s.length)) then 4 else mixErr l
theorem checkWords_ok (l : List Mx) (ws : List (List UInt8)) (hw : ws.length ≤ 2) : FnOk Tryd.prog 42 [.ro (mxs l), .ro (.strs ws)] (.int .i64 (wordsErr l ws)) [] := by
  have k := checkMixes_ok l
  have hany : ∀ i, (∀ j, j < i → ¬ 200 < (ws.getD j []).length) → i < ws.length → 200 < (ws.getD i []).length → wordsErr l ws = 4 := by
    intro i _ hi h
    unfold wordsErr
    rw [if_pos]
    rw [List.any_eq_true]
    exact ⟨ws.getD i [], by rw [getD_lt hi]; exact List.getElem_mem hi, by simpa using h⟩
  have hnone : (∀ j, j < ws.length → ¬ 200 < (ws.getD j []).length) → wordsErr l ws = mixErr l := by
    intro h
    unfold wordsErr
    rw [if_neg]
    intro ha
    obtain ⟨s, hs, hl⟩ := List.any_eq_true.1 ha
    obtain ⟨j, hj, rfl⟩ := List.mem_iff_getElem.1 hs
    refine h j hj ?_
    rw [getD_lt hj]; simpa using hl
  generalize wordsErr l ws = e at *
  refine FnOk.of_vc Tryd.func42 rfl (by decide) (by simp [Tryd.f42]) [.tmp 4] rfl fun w0 T0 _ => ?_
  simp only [Tryd.f42, argEnv]
  (repeat' first | (with_reducible refine Asm.intro fun _ => ?_) | ((with_reducible refine Chk.intro ?_ ?_); (· first | omega | (with_reducible refine Chk.intro ?_ ?_ <;> omega) | (simp; done) | (simp; omega))) | (with_reducible refine AnyI.i64 fun _ _ => ?_) | ((with_reducible refine LetW.i64 ?_ ?_ ?_); (· omega); (· omega)) | ((with_reducible refine Ite.decide (fun _ => ?_) (fun _ => ?_)) <;> first | (exfalso; omega) | skip) | (with_reducible refine Ite.bool (fun _ => ?_) (fun _ => ?_)) | (with_reducible refine And.intro ?_ ?_) | omega | simp (maxSteps := 1000000) only [go_sem, reduceCtorEq, Nat.reduceLT, Nat.reduceLeDiff, reduceIte, ↓reduceIte, Nat.reduceEqDiff, Nat.reduceAdd, Nat.reduceMul, Nat.reduceSub, Int.reduceLE, Int.reduceLT, Int.reduceNeg, Int.reduceToNat])
  refine VcLoop.intro (fun i : Nat => ⟨19, [(9, .int .i64 i), (8, .int .i64 ws.length), (7, .ro (.strs ws)), (0, .ro (mxs l))], [], 0⟩) (fun i => i ≤ ws.length ∧ ∀ j, j < i → ¬ 200 < (ws.getD j []).length) (fun i => ws.length - i) 0 ?_ ⟨Nat.zero_le _, fun j hj => by omega⟩ fun i hi => ?_
  · refine Ent.auto0 rfl ?_ ?_ <;> simp only [go_sem, reduceCtorEq, reduceIte, Nat.reduceEqDiff, Nat.reduceLT, Nat.reduceLeDiff, Int.natCast_succ]
  by_cases hlt : i < ws.length
  · generalize hx : ws.getD i [] = x at *
    (repeat' first | (with_reducible refine Asm.intro fun _ => ?_) | ((with_reducible refine Chk.intro ?_ ?_); (· first | omega | (with_reducible refine Chk.intro ?_ ?_ <;> omega) | (simp; done) | (simp; omega))) | (with_reducible refine AnyI.i64 fun _ _ => ?_) | ((with_reducible refine LetW.i64 ?_ ?_ ?_); (· omega); (· omega)) | ((with_reducible refine Ite.decide (fun _ => ?_) (fun _ => ?_)) <;> first | (exfalso; omega) | skip) | (with_reducible refine Ite.bool (fun _ => ?_) (fun _ => ?_)) | (with_reducible refine And.intro ?_ ?_) | omega | simp (maxSteps := 1000000) only [go_sem, reduceCtorEq, Nat.reduceLT, Nat.reduceLeDiff, reduceIte, ↓reduceIte, Nat.reduceEqDiff, Nat.reduceAdd, Nat.reduceMul, Nat.reduceSub, Int.reduceLE, Int.reduceLT, Int.reduceNeg, Int.reduceToNat, elemA, hx])
    · rename_i h
      rw [hany i hi.2 hlt (by rw [hx]; omega)]
      refine Ret.auto 0 ?_ rfl ?_ <;> simp only [go_sem, reduceCtorEq, reduceIte, Nat.reduceEqDiff, Nat.reduceLT, Nat.reduceLeDiff, Int.natCast_succ, Post]
    · rename_i h
      refine ⟨i + 1, Ent.auto0 rfl ?_ ?_, ⟨by omega, fun j hj => ?_⟩, by omega⟩
      · simp only [go_sem, reduceCtorEq, reduceIte, Nat.reduceEqDiff, Nat.reduceLT, Nat.reduceLeDiff, Int.natCast_succ]
      · simp only [go_sem, reduceCtorEq, reduceIte, Nat.reduceEqDiff, Nat.reduceLT, Nat.reduceLeDiff, Int.natCast_succ]
      · by_cases e : j = i
        · subst e; rw [hx]; omega
        · exact hi.2 j (by omega)
  · have e : i = ws.length := by omega
    subst e
    rw [hnone hi.2]
    (repeat' first | (with_reducible refine Asm.intro fun _ => ?_) | ((with_reducible refine Chk.intro ?_ ?_); (· first | omega | (with_reducible refine Chk.intro ?_ ?_ <;> omega) | (simp; done) | (simp; omega))) | (with_reducible refine AnyI.i64 fun _ _ => ?_) | ((with_reducible refine LetW.i64 ?_ ?_ ?_); (· omega); (· omega)) | ((with_reducible refine Ite.decide (fun _ => ?_) (fun _ => ?_)) <;> first | (exfalso; omega) | skip) | (with_reducible refine Ite.bool (fun _ => ?_) (fun _ => ?_)) | (with_reducible refine And.intro ?_ ?_) | omega | simp (maxSteps := 1000000) only [go_sem, reduceCtorEq, Nat.reduceLT, Nat.reduceLeDiff, reduceIte, ↓reduceIte, Nat.reduceEqDiff, Nat.reduceAdd, Nat.reduceMul, Nat.reduceSub, Int.reduceLE, Int.reduceLT, Int.reduceNeg, Int.reduceToNat])
    refine VcCall.fr (FnFr.of_ok k rfl rfl) (by simp only [noIdR_ok, argOkL, argOk, allOk, argOkN, List.drop_zero, lk, reduceIte, reduceCtorEq, Nat.reduceEqDiff, Option.some.injEq, Item.row.injEq, Item.box.injEq, AV.ro.injEq, exists_eq_left, exists_and_left, exists_eq_left', exists_eq_right, and_assoc, and_true, true_and, List.cons.injEq, exists_eq', exists_eq]) 0 rfl (by simp [rowsB]) ?_
    (repeat' first | (with_reducible refine Asm.intro fun _ => ?_) | ((with_reducible refine Chk.intro ?_ ?_); (· first | omega | (with_reducible refine Chk.intro ?_ ?_ <;> omega) | (simp; done) | (simp; omega))) | (with_reducible refine AnyI.i64 fun _ _ => ?_) | ((with_reducible refine LetW.i64 ?_ ?_ ?_); (· omega); (· omega)) | ((with_reducible refine Ite.decide (fun _ => ?_) (fun _ => ?_)) <;> first | (exfalso; omega) | skip) | (with_reducible refine Ite.bool (fun _ => ?_) (fun _ => ?_)) | (with_reducible refine And.intro ?_ ?_) | omega | simp (maxSteps := 1000000) only [go_sem, reduceCtorEq, Nat.reduceLT, Nat.reduceLeDiff, reduceIte, ↓reduceIte, Nat.reduceEqDiff, Nat.reduceAdd, Nat.reduceMul, Nat.reduceSub, Int.reduceLE, Int.reduceLT, Int.reduceNeg, Int.reduceToNat])
    refine Ret.auto 0 ?_ rfl ?_ <;> simp only [go_sem, reduceCtorEq, reduceIte, Nat.reduceEqDiff, Nat.reduceLT, Nat.reduceLeDiff, Int.natCast_succ, Post]
theorem wordsErr_two (l : List Mx) (a b : List UInt8) : wordsErr l [a, b] = if 200 < a.length ∨ 200 < b.length then 4 else mixErr l := by
  unfold wordsErr
  by_cases h1 : 200 < a.length
  · simp [h1]
  · by_cases h2 : 200 < b.length <;> simp [h1, h2]
def distErr (l : List Mx) (a b : List UInt8) : Int := if 200 < a.length ∨ 200 < b.length then 4 else mixErr l
def distOut (l : List Mx) (a b : List UInt8) : Int := if distErr l a b = 0 then dist (swL l) a b else 0
theorem distErr_zero {l : List Mx} {a b : List UInt8} (h : distErr l a b = 0) : a.length ≤ 200 ∧ b.length ≤ 200 ∧ mixErr l = 0 := by
  unfold distErr at h
  split at h
  · omega
  · rename_i h1; exact ⟨by omega, by omega, h⟩
theorem mix_good {l : List Mx} (h : mixErr l = 0) : GoodSw (swL l) ∧ (swL l).length ≤ 400 ∧ (∀ m, m ∈ l → m.f ≠ [] ∧ m.t ≠ []) := by
  obtain ⟨h1, h2⟩ := mixErr_zero h
  exact ⟨good_swL h2, by rw [swL_len]; omega, fun m hm => ⟨part_ne (h2 m hm).1, part_ne (h2 m hm).2.1⟩⟩
theorem tab_first (sw : List Sw) (a b : List UInt8) : (tab sw a b 0).getD 0 0 = dist sw a b := by
  rw [tab_get (by simp [Nat.mul_pos_iff_of_pos_left]; try omega) (Nat.le_refl _)]
  have := cellD_at sw a b (i := 0) (j := 0) (by omega)
  simpa using this

set_option maxHeartbeats 4000000 in
theorem distance_ok (l : List Mx) (a b : List UInt8) : FnOk Tryd.prog 13 [.str a, .str b, .ro (mxs l)] (.tup [.int .i64 (distOut l a b), .int .i64 (distErr l a b)]) [] := by
  have k := checkWords_ok l [a, b] (Nat.le_refl _)
  rw [wordsErr_two] at k
  have hz := distErr_zero (l := l) (a := a) (b := b)
  have hdo : distOut l a b = if distErr l a b = 0 then dist (swL l) a b else 0 := rfl
  have hde : distErr l a b = if 200 < a.length ∨ 200 < b.length then 4 else mixErr l := rfl
  rw [← hde] at k
  generalize distErr l a b = e at *
  refine FnOk.of_vc Tryd.func13 rfl (by decide) (by simp [Tryd.f13]) [.tmp 6, .tmp 7] rfl fun w0 T0 _ => ?_
  simp only [Tryd.f13, argEnv]
  (repeat' first | (with_reducible refine Asm.intro fun _ => ?_) | ((with_reducible refine Chk.intro ?_ ?_); (· first | omega | (with_reducible refine Chk.intro ?_ ?_ <;> omega) | (simp; done) | (simp; omega))) | (with_reducible refine AnyI.i64 fun _ _ => ?_) | ((with_reducible refine LetW.i64 ?_ ?_ ?_); (· omega); (· omega)) | ((with_reducible refine Ite.decide (fun _ => ?_) (fun _ => ?_)) <;> first | (exfalso; omega) | skip) | (with_reducible refine Ite.bool (fun _ => ?_) (fun _ => ?_)) | (with_reducible refine And.intro ?_ ?_) | omega | simp (maxSteps := 1000000) only [go_sem, reduceCtorEq, Nat.reduceLT, Nat.reduceLeDiff, reduceIte, ↓reduceIte, Nat.reduceEqDiff, Nat.reduceAdd, Nat.reduceMul, Nat.reduceSub, Int.reduceLE, Int.reduceLT, Int.reduceNeg, Int.reduceToNat])
  refine VcCall.fr (FnFr.of_ok k rfl rfl) (by simp only [noIdR_ok, argOkL, argOk, allOk, argOkN, List.drop_zero, lk, reduceIte, reduceCtorEq, Nat.reduceEqDiff, Option.some.injEq, Item.row.injEq, Item.box.injEq, AV.ro.injEq, exists_eq_left, exists_and_left, exists_eq_left', exists_eq_right, and_assoc, and_true, true_and, List.cons.injEq, exists_eq', exists_eq]) 0 rfl (by simp [rowsB]) ?_
  by_cases he : e = 0
  · obtain ⟨h1, h2, h3⟩ := hz he
    obtain ⟨g1, g2, g3⟩ := mix_good h3
    have hl := (mixErr_zero h3).1
    have k1 := swaps_ok l g3 (by omega)
    have k2 := table_ok (swL l) g1 (by omega) a b (by omega) (by omega)
    have htl := tab_len (swL l) a b 0
    have ht0 := tab_first (swL l) a b
    have hpos : 0 < (a.length + 1) * (b.length + 1) := Nat.mul_pos (by omega) (by omega)
    rw [if_pos he] at hdo
    subst he
    rw [hdo]
    (repeat' first | (with_reducible refine Asm.intro fun _ => ?_) | ((with_reducible refine Chk.intro ?_ ?_); (· first | omega | (with_reducible refine Chk.intro ?_ ?_ <;> omega) | (simp; done) | (simp; omega))) | (with_reducible refine AnyI.i64 fun _ _ => ?_) | ((with_reducible refine LetW.i64 ?_ ?_ ?_); (· omega); (· omega)) | ((with_reducible refine Ite.decide (fun _ => ?_) (fun _ => ?_)) <;> first | (exfalso; omega) | skip) | (with_reducible refine Ite.bool (fun _ => ?_) (fun _ => ?_)) | (with_reducible refine And.intro ?_ ?_) | omega | simp (maxSteps := 1000000) only [go_sem, reduceCtorEq, Nat.reduceLT, Nat.reduceLeDiff, reduceIte, ↓reduceIte, Nat.reduceEqDiff, Nat.reduceAdd, Nat.reduceMul, Nat.reduceSub, Int.reduceLE, Int.reduceLT, Int.reduceNeg, Int.reduceToNat])
    refine VcCall.ros (.mp (kgKs (grp [] (swL l))) (kgVs (grp [] (swL l)))) k1 (by simp only [noIdR_ok, argOkL, argOk, allOk, argOkN, List.drop_zero, lk, reduceIte, reduceCtorEq, Nat.reduceEqDiff, Option.some.injEq, Item.row.injEq, Item.box.injEq, AV.ro.injEq, exists_eq_left, exists_and_left, exists_eq_left', exists_eq_right, and_assoc, and_true, true_and, List.cons.injEq, exists_eq', exists_eq]) (by simp [outOk, argOk, argOkN]) rfl ?_
    (repeat' first | (with_reducible refine Asm.intro fun _ => ?_) | ((with_reducible refine Chk.intro ?_ ?_); (· first | omega | (with_reducible refine Chk.intro ?_ ?_ <;> omega) | (simp; done) | (simp; omega))) | (with_reducible refine AnyI.i64 fun _ _ => ?_) | ((with_reducible refine LetW.i64 ?_ ?_ ?_); (· omega); (· omega)) | ((with_reducible refine Ite.decide (fun _ => ?_) (fun _ => ?_)) <;> first | (exfalso; omega) | skip) | (with_reducible refine Ite.bool (fun _ => ?_) (fun _ => ?_)) | (with_reducible refine And.intro ?_ ?_) | omega | simp (maxSteps := 1000000) only [go_sem, reduceCtorEq, Nat.reduceLT, Nat.reduceLeDiff, reduceIte, ↓reduceIte, Nat.reduceEqDiff, Nat.reduceAdd, Nat.reduceMul, Nat.reduceSub, Int.reduceLE, Int.reduceLT, Int.reduceNeg, Int.reduceToNat])
    refine VcCall.fr (FnFr.of_ok k2 rfl rfl) (by simp only [noIdR_ok, argOkL, argOk, allOk, argOkN, List.drop_zero, lk, reduceIte, reduceCtorEq, Nat.reduceEqDiff, Option.some.injEq, Item.row.injEq, Item.box.injEq, AV.ro.injEq, exists_eq_left, exists_and_left, exists_eq_left', exists_eq_right, and_assoc, and_true, true_and, List.cons.injEq, exists_eq', exists_eq]) 1 rfl (by simp [rowsB, Item.below]) ?_
    (repeat' first | (with_reducible refine Asm.intro fun _ => ?_) | ((with_reducible refine Chk.intro ?_ ?_); (· first | omega | (with_reducible refine Chk.intro ?_ ?_ <;> omega) | (simp; done) | (simp; omega))) | (with_reducible refine AnyI.i64 fun _ _ => ?_) | ((with_reducible refine LetW.i64 ?_ ?_ ?_); (· omega); (· omega)) | ((with_reducible refine Ite.decide (fun _ => ?_) (fun _ => ?_)) <;> first | (exfalso; omega) | skip) | (with_reducible refine Ite.bool (fun _ => ?_) (fun _ => ?_)) | (with_reducible refine And.intro ?_ ?_) | omega | simp (maxSteps := 1000000) only [go_sem, reduceCtorEq, Nat.reduceLT, Nat.reduceLeDiff, reduceIte, ↓reduceIte, Nat.reduceEqDiff, Nat.reduceAdd, Nat.reduceMul, Nat.reduceSub, Int.reduceLE, Int.reduceLT, Int.reduceNeg, Int.reduceToNat, htl, elemA, ht0, Int.toNat_zero])
    refine Ret.auto 0 ?_ rfl ?_ <;> simp only [go_sem, reduceCtorEq, reduceIte, Nat.reduceEqDiff, Nat.reduceLT, Nat.reduceLeDiff, Int.natCast_succ, Post]
  · rw [if_neg he] at hdo
    rw [hdo]
    (repeat' first | (with_reducible refine Asm.intro fun _ => ?_) | ((with_reducible refine Chk.intro ?_ ?_); (· first | omega | (with_reducible refine Chk.intro ?_ ?_ <;> omega) | (simp; done) | (simp; omega))) | (with_reducible refine AnyI.i64 fun _ _ => ?_) | ((with_reducible refine LetW.i64 ?_ ?_ ?_); (· omega); (· omega)) | ((with_reducible refine Ite.decide (fun _ => ?_) (fun _ => ?_)) <;> first | (exfalso; omega) | skip) | (with_reducible refine Ite.bool (fun _ => ?_) (fun _ => ?_)) | (with_reducible refine And.intro ?_ ?_) | omega | simp (maxSteps := 1000000) only [go_sem, reduceCtorEq, Nat.reduceLT, Nat.reduceLeDiff, reduceIte, ↓reduceIte, Nat.reduceEqDiff, Nat.reduceAdd, Nat.reduceMul, Nat.reduceSub, Int.reduceLE, Int.reduceLT, Int.reduceNeg, Int.reduceToNat, he])
    refine Ret.auto 0 ?_ rfl ?_ <;> simp only [go_sem, reduceCtorEq, reduceIte, Nat.reduceEqDiff, Nat.reduceLT, Nat.reduceLeDiff, Int.natCast_succ, Post]
end Go.Fv.W

namespace Go.Fv.W
open Go Go.Proofs
set_option linter.unusedSimpArgs false
set_option linter.unusedVariables false
set_option linter.unnecessarySimpa false
set_option maxRecDepth 8000

def Sl.av (s : Sl) : List AV := [.int .i64 s.at_, .str s.o, .str s.n, .int .i64 s.c]
def Sl.zero : Sl := ⟨0, [], [], 0⟩
def sls (l : List Sl) : RowV := .objs 4 (l.map Sl.av)
instance : FNoId Sl.av := ⟨fun _ => rfl⟩
instance {l : List Sl} : RowNoId (sls l) := inferInstanceAs (RowNoId (.objs 4 (l.map Sl.av)))
theorem sls_snoc (l : List Sl) (i : Nat) (x y : List UInt8) (c : Int) : l.map Sl.av ++ [[.int .i64 i, .str x, .str y, .int .i64 c]] = (l ++ [(⟨i, x, y, c⟩ : Sl)]).map Sl.av := by simp [Sl.av]

set_option maxHeartbeats 4000000 in
theorem rest_ok (sw : List Sw) (a b : List UInt8) (ha : a.length ≤ 2000) (hb : b.length ≤ 2000) (i j : Nat) (hi : i ≤ a.length) (hj : j ≤ b.length) (m n : Nat) (hm : m ≤ (a.drop i).length) (hn : n ≤ (b.drop j).length) :
    FnFr Tryd.prog 46 [.int .i64 m, .int .i64 n, .cell [.ro (.ints .i64 (tab sw a b 0))], .cell [.int .i64 i], .cell [.int .i64 ((b.length : Int) + 1)], .cell [.int .i64 j]] (.int .i64 (dist sw ((a.drop i).drop m) ((b.drop j).drop n))) [] := by
  refine FnFr.of_ok ?_ rfl rfl
  rw [List.length_drop] at hm hn
  rw [List.drop_drop, List.drop_drop]
  have hlen := tab_len sw a b 0
  have hQ : (i + m) * (b.length + 1) + (b.length + 1) ≤ (a.length + 1) * (b.length + 1) := by
    rw [← Nat.succ_mul]; exact Nat.mul_le_mul_right _ (by omega)
  have hN : (a.length + 1) * (b.length + 1) ≤ 2001 * 2001 := Nat.mul_le_mul (by omega) (by omega)
  have hv : (tab sw a b 0).getD ((i + m) * (b.length + 1) + j + n) 0 = dist sw (a.drop (i + m)) (b.drop (j + n)) := by
    rw [tab_get (by omega) (Nat.zero_le _), Nat.add_assoc]
    exact cellD_at sw a b (by omega)
  have mul : ((i : Int) + (m : Int)) * ((b.length : Int) + 1) = (((i + m) * (b.length + 1) : Nat) : Int) := by simp
  generalize (i + m) * (b.length + 1) = Q at *
  generalize (a.length + 1) * (b.length + 1) = N at *
  have tn : ((Q : Int) + j + n).toNat = Q + j + n := by omega
  refine FnOk.of_vc Tryd.func46 rfl (by decide) (by simp [Tryd.f46]) [.tmp 8] rfl fun w0 T0 _ => ?_
  simp only [Tryd.f46, argEnv]
  (repeat' first | (with_reducible refine Asm.intro fun _ => ?_) | ((with_reducible refine Chk.intro ?_ ?_); (· first | omega | (with_reducible refine Chk.intro ?_ ?_ <;> omega) | (simp; done) | (simp; omega))) | (with_reducible refine AnyI.i64 fun _ _ => ?_) | ((with_reducible refine LetW.i64 ?_ ?_ ?_); (· omega); (· omega)) | ((with_reducible refine Ite.decide (fun _ => ?_) (fun _ => ?_)) <;> first | (exfalso; omega) | skip) | (with_reducible refine Ite.bool (fun _ => ?_) (fun _ => ?_)) | (with_reducible refine And.intro ?_ ?_) | omega | simp (maxSteps := 1000000) only [go_sem, reduceCtorEq, Nat.reduceLT, Nat.reduceLeDiff, reduceIte, ↓reduceIte, Nat.reduceEqDiff, Nat.reduceAdd, Nat.reduceMul, Nat.reduceSub, Int.reduceLE, Int.reduceLT, Int.reduceNeg, Int.reduceToNat, mul, hlen, tn, hv, elemA])
  refine Ret.auto 0 ?_ rfl ?_ <;> simp only [go_sem, reduceCtorEq, reduceIte, Nat.reduceEqDiff, Nat.reduceLT, Nat.reduceLeDiff, Int.natCast_succ, Post]

def scrErr := distErr
def scrOut (l : List Mx) (a b : List UInt8) : List Sl := if distErr l a b = 0 then script (swL l) 0 a b else []

set_option maxHeartbeats 8000000 in
theorem script_ok (l : List Mx) (a b : List UInt8) : FnOk Tryd.prog 14 [.str a, .str b, .ro (mxs l)] (.tup [.own 0, .int .i64 (distErr l a b)]) [(0, .row 36 (sls (scrOut l a b)))] := by
  have k := checkWords_ok l [a, b] (Nat.le_refl _)
  rw [wordsErr_two] at k
  have hz := distErr_zero (l := l) (a := a) (b := b)
  have hdo : scrOut l a b = if distErr l a b = 0 then script (swL l) 0 a b else [] := rfl
  have hde : distErr l a b = if 200 < a.length ∨ 200 < b.length then 4 else mixErr l := rfl
  rw [← hde] at k
  generalize distErr l a b = e at *
  refine FnOk.of_vc Tryd.func14 rfl (by decide) (by simp [Tryd.f14]) [.tmp 6, .tmp 7] rfl fun w0 T0 _ => ?_
  simp only [Tryd.f14, argEnv]
  (repeat' first | (with_reducible refine Asm.intro fun _ => ?_) | ((with_reducible refine Chk.intro ?_ ?_); (· first | omega | (with_reducible refine Chk.intro ?_ ?_ <;> omega) | (simp; done) | (simp; omega))) | (with_reducible refine AnyI.i64 fun _ _ => ?_) | ((with_reducible refine LetW.i64 ?_ ?_ ?_); (· omega); (· omega)) | ((with_reducible refine Ite.decide (fun _ => ?_) (fun _ => ?_)) <;> first | (exfalso; omega) | skip) | (with_reducible refine Ite.bool (fun _ => ?_) (fun _ => ?_)) | (with_reducible refine And.intro ?_ ?_) | omega | simp (maxSteps := 1000000) only [go_sem, reduceCtorEq, Nat.reduceLT, Nat.reduceLeDiff, reduceIte, ↓reduceIte, Nat.reduceEqDiff, Nat.reduceAdd, Nat.reduceMul, Nat.reduceSub, Int.reduceLE, Int.reduceLT, Int.reduceNeg, Int.reduceToNat])
  refine VcCall.fr (FnFr.of_ok k rfl rfl) (by simp only [noIdR_ok, argOkL, argOk, allOk, argOkN, List.drop_zero, lk, reduceIte, reduceCtorEq, Nat.reduceEqDiff, Option.some.injEq, Item.row.injEq, Item.box.injEq, AV.ro.injEq, exists_eq_left, exists_and_left, exists_eq_left', exists_eq_right, and_assoc, and_true, true_and, List.cons.injEq, exists_eq', exists_eq]) 0 rfl (by simp [rowsB]) ?_
  by_cases he : e = 0
  · obtain ⟨h1, h2, h3⟩ := hz he
    obtain ⟨g1, g2, g3⟩ := mix_good h3
    have hl := (mixErr_zero h3).1
    have k1 := swaps_ok l g3 (by omega)
    have k2 := table_ok (swL l) g1 (by omega) a b (by omega) (by omega)
    rw [if_pos he] at hdo
    subst he
    rw [hdo]
    generalize swL l = sw at *
    (repeat' first | (with_reducible refine Asm.intro fun _ => ?_) | ((with_reducible refine Chk.intro ?_ ?_); (· first | omega | (with_reducible refine Chk.intro ?_ ?_ <;> omega) | (simp; done) | (simp; omega))) | (with_reducible refine AnyI.i64 fun _ _ => ?_) | ((with_reducible refine LetW.i64 ?_ ?_ ?_); (· omega); (· omega)) | ((with_reducible refine Ite.decide (fun _ => ?_) (fun _ => ?_)) <;> first | (exfalso; omega) | skip) | (with_reducible refine Ite.bool (fun _ => ?_) (fun _ => ?_)) | (with_reducible refine And.intro ?_ ?_) | omega | simp (maxSteps := 1000000) only [go_sem, reduceCtorEq, Nat.reduceLT, Nat.reduceLeDiff, reduceIte, ↓reduceIte, Nat.reduceEqDiff, Nat.reduceAdd, Nat.reduceMul, Nat.reduceSub, Int.reduceLE, Int.reduceLT, Int.reduceNeg, Int.reduceToNat])
    refine VcCall.ros (.mp (kgKs (grp [] sw)) (kgVs (grp [] sw))) k1 (by simp only [noIdR_ok, argOkL, argOk, allOk, argOkN, List.drop_zero, lk, reduceIte, reduceCtorEq, Nat.reduceEqDiff, Option.some.injEq, Item.row.injEq, Item.box.injEq, AV.ro.injEq, exists_eq_left, exists_and_left, exists_eq_left', exists_eq_right, and_assoc, and_true, true_and, List.cons.injEq, exists_eq', exists_eq]) (by simp [outOk, argOk, argOkN]) rfl ?_
    (repeat' first | (with_reducible refine Asm.intro fun _ => ?_) | ((with_reducible refine Chk.intro ?_ ?_); (· first | omega | (with_reducible refine Chk.intro ?_ ?_ <;> omega) | (simp; done) | (simp; omega))) | (with_reducible refine AnyI.i64 fun _ _ => ?_) | ((with_reducible refine LetW.i64 ?_ ?_ ?_); (· omega); (· omega)) | ((with_reducible refine Ite.decide (fun _ => ?_) (fun _ => ?_)) <;> first | (exfalso; omega) | skip) | (with_reducible refine Ite.bool (fun _ => ?_) (fun _ => ?_)) | (with_reducible refine And.intro ?_ ?_) | omega | simp (maxSteps := 1000000) only [go_sem, reduceCtorEq, Nat.reduceLT, Nat.reduceLeDiff, reduceIte, ↓reduceIte, Nat.reduceEqDiff, Nat.reduceAdd, Nat.reduceMul, Nat.reduceSub, Int.reduceLE, Int.reduceLT, Int.reduceNeg, Int.reduceToNat])
    refine VcCall.fr (FnFr.of_ok k2 rfl rfl) (by simp only [noIdR_ok, argOkL, argOk, allOk, argOkN, List.drop_zero, lk, reduceIte, reduceCtorEq, Nat.reduceEqDiff, Option.some.injEq, Item.row.injEq, Item.box.injEq, AV.ro.injEq, exists_eq_left, exists_and_left, exists_eq_left', exists_eq_right, and_assoc, and_true, true_and, List.cons.injEq, exists_eq', exists_eq]) 1 rfl (by simp [rowsB, Item.below]) ?_
    (repeat' first | (with_reducible refine Asm.intro fun _ => ?_) | ((with_reducible refine Chk.intro ?_ ?_); (· first | omega | (with_reducible refine Chk.intro ?_ ?_ <;> omega) | (simp; done) | (simp; omega))) | (with_reducible refine AnyI.i64 fun _ _ => ?_) | ((with_reducible refine LetW.i64 ?_ ?_ ?_); (· omega); (· omega)) | ((with_reducible refine Ite.decide (fun _ => ?_) (fun _ => ?_)) <;> first | (exfalso; omega) | skip) | (with_reducible refine Ite.bool (fun _ => ?_) (fun _ => ?_)) | (with_reducible refine And.intro ?_ ?_) | omega | simp (maxSteps := 1000000) only [go_sem, reduceCtorEq, Nat.reduceLT, Nat.reduceLeDiff, reduceIte, ↓reduceIte, Nat.reduceEqDiff, Nat.reduceAdd, Nat.reduceMul, Nat.reduceSub, Int.reduceLE, Int.reduceLT, Int.reduceNeg, Int.reduceToNat])
    refine VcLoop.intro (fun x : Nat × Nat × List Sl => ⟨100, [(10, .ptr 1 0), (11, .ptr 2 0), (13, .ptr 3 0), (14, .ptr 4 0), (12, .own 5), (9, .mp (kgKs (grp [] sw)) (kgVs (grp [] sw))), (0, .str a), (1, .str b)], [(0, .row 3 (.ints .i64 (tab sw a b 0))), (1, .box 60 [.own 0]), (2, .box 3 [.int .i64 ((b.length : Int) + 1)]), (3, .box 3 [.int .i64 x.1]), (4, .box 3 [.int .i64 x.2.1]), (5, .row 36 (sls x.2.2))], 6⟩)
      (fun x => x.1 ≤ a.length ∧ x.2.1 ≤ b.length ∧ x.2.2.length ≤ x.1 + x.2.1 ∧ x.2.2 ++ script sw x.1 (a.drop x.1) (b.drop x.2.1) = script sw 0 a b) (fun x => a.length - x.1 + (b.length - x.2.1)) (0, 0, []) ?_ ⟨Nat.zero_le _, Nat.zero_le _, Nat.le_refl _, rfl⟩ fun x hx => ?_
    · refine Ent.auto2 rfl ?_ ?_ <;> simp only [go_sem, reduceCtorEq, reduceIte, Nat.reduceEqDiff, Nat.reduceLT, Nat.reduceLeDiff, Int.natCast_succ, mkRen2, sls, List.map_nil, Int.natCast_zero]
    obtain ⟨i, j, out⟩ := x
    dsimp only at hx
    by_cases hend : i < a.length ∨ j < b.length
    · have hne : ¬ (a.drop i = [] ∧ b.drop j = []) := by
        rintro ⟨e1, e2⟩
        simp at e1 e2; omega
      have kst := step_ok sw g1 (by omega) (a.drop i) (b.drop j) (by simp; omega) (by simp; omega) hne 46 _ _ _ _ (fun m n hm hn => rest_ok sw a b (by omega) (by omega) i j hx.1 hx.2.1 m n hm hn)
      have hpb := pick_bd g1 hne
      have hps := pick_same g1 hne
      have hse := script_eq g1 (i := i) hne
      have hsa : List.take (a.length - i) (a.drop i) = a.drop i := List.take_of_length_le (by simp)
      have hsb : List.take (b.length - j) (b.drop j) = b.drop j := List.take_of_length_le (by simp)
      have hhd : ∀ l : List UInt8, l.headD 0 = l.getD 0 0 := fun l => by cases l <;> rfl
      have hgx : (a.drop i).headD 0 = a.getD i 0 := by rw [hhd]; simp [List.getD]
      have hgy : (b.drop j).headD 0 = b.getD j 0 := by rw [hhd]; simp [List.getD]
      have hxx := hx.2.2.2
      rw [hgx, hgy] at hps
      rw [hse] at hxx
      simp only [List.length_drop] at hpb
      generalize pick sw (a.drop i) (b.drop j) = p at *
      obtain ⟨pa, pb, pc⟩ := p
      dsimp only at hpb hps hxx kst
      clear hse
      rw [List.drop_drop, List.drop_drop, ← List.append_assoc] at hxx
      (repeat' first | (with_reducible refine Asm.intro fun _ => ?_) | ((with_reducible refine Chk.intro ?_ ?_); (· first | omega | (with_reducible refine Chk.intro ?_ ?_ <;> omega) | (simp; done) | (simp; omega))) | (with_reducible refine AnyI.i64 fun _ _ => ?_) | ((with_reducible refine LetW.i64 ?_ ?_ ?_); (· omega); (· omega)) | ((with_reducible refine Ite.decide (fun _ => ?_) (fun _ => ?_)) <;> first | (exfalso; omega) | skip) | (with_reducible refine Ite.bool (fun _ => ?_) (fun _ => ?_)) | (with_reducible refine And.intro ?_ ?_) | omega | simp (maxSteps := 1000000) only [go_sem, reduceCtorEq, Nat.reduceLT, Nat.reduceLeDiff, reduceIte, ↓reduceIte, Nat.reduceEqDiff, Nat.reduceAdd, Nat.reduceMul, Nat.reduceSub, Int.reduceLE, Int.reduceLT, Int.reduceNeg, Int.reduceToNat])
      refine VcDraw.lex [] [] (by kernel_rfl) (by kernel_rfl) ?_
      (repeat' first | (with_reducible refine Asm.intro fun _ => ?_) | ((with_reducible refine Chk.intro ?_ ?_); (· first | omega | (with_reducible refine Chk.intro ?_ ?_ <;> omega) | (simp; done) | (simp; omega))) | (with_reducible refine AnyI.i64 fun _ _ => ?_) | ((with_reducible refine LetW.i64 ?_ ?_ ?_); (· omega); (· omega)) | ((with_reducible refine Ite.decide (fun _ => ?_) (fun _ => ?_)) <;> first | (exfalso; omega) | skip) | (with_reducible refine Ite.bool (fun _ => ?_) (fun _ => ?_)) | (with_reducible refine And.intro ?_ ?_) | omega | simp (maxSteps := 1000000) only [go_sem, reduceCtorEq, Nat.reduceLT, Nat.reduceLeDiff, reduceIte, ↓reduceIte, Nat.reduceEqDiff, Nat.reduceAdd, Nat.reduceMul, Nat.reduceSub, Int.reduceLE, Int.reduceLT, Int.reduceNeg, Int.reduceToNat, hsa, hsb, Int.toNat_natCast])
      refine QV.intro (.tup [.int .i64 pa, .int .i64 pb, .int .i64 pc]) ?_ ?_
      · (repeat' first | (with_reducible refine Asm.intro fun _ => ?_) | ((with_reducible refine Chk.intro ?_ ?_); (· first | omega | (with_reducible refine Chk.intro ?_ ?_ <;> omega) | (simp; done) | (simp; omega))) | (with_reducible refine AnyI.i64 fun _ _ => ?_) | ((with_reducible refine LetW.i64 ?_ ?_ ?_); (· omega); (· omega)) | ((with_reducible refine Ite.decide (fun _ => ?_) (fun _ => ?_)) <;> first | (exfalso; omega) | skip) | (with_reducible refine Ite.bool (fun _ => ?_) (fun _ => ?_)) | (with_reducible refine And.intro ?_ ?_) | omega | simp (maxSteps := 1000000) only [go_sem, reduceCtorEq, Nat.reduceLT, Nat.reduceLeDiff, reduceIte, ↓reduceIte, Nat.reduceEqDiff, Nat.reduceAdd, Nat.reduceMul, Nat.reduceSub, Int.reduceLE, Int.reduceLT, Int.reduceNeg, Int.reduceToNat])
        refine VcCall.fr (FnFr.of_ok kst rfl rfl) (by simp only [noIdR_ok, argOkL, argOk, allOk, argOkN, List.drop_zero, lk, reduceIte, reduceCtorEq, Nat.reduceEqDiff, Option.some.injEq, Item.row.injEq, Item.box.injEq, AV.ro.injEq, exists_eq_left, exists_and_left, exists_eq_left', exists_eq_right, and_assoc, and_true, true_and, List.cons.injEq, exists_eq', exists_eq]) 0 rfl (by simp [rowsB]) ?_
        (repeat' first | (with_reducible refine Asm.intro fun _ => ?_) | ((with_reducible refine Chk.intro ?_ ?_); (· first | omega | (with_reducible refine Chk.intro ?_ ?_ <;> omega) | (simp; done) | (simp; omega))) | (with_reducible refine AnyI.i64 fun _ _ => ?_) | ((with_reducible refine LetW.i64 ?_ ?_ ?_); (· omega); (· omega)) | ((with_reducible refine Ite.decide (fun _ => ?_) (fun _ => ?_)) <;> first | (exfalso; omega) | skip) | (with_reducible refine Ite.bool (fun _ => ?_) (fun _ => ?_)) | (with_reducible refine And.intro ?_ ?_) | omega | simp (maxSteps := 1000000) only [go_sem, reduceCtorEq, Nat.reduceLT, Nat.reduceLeDiff, reduceIte, ↓reduceIte, Nat.reduceEqDiff, Nat.reduceAdd, Nat.reduceMul, Nat.reduceSub, Int.reduceLE, Int.reduceLT, Int.reduceNeg, Int.reduceToNat])
      (repeat' first | (with_reducible refine Asm.intro fun _ => ?_) | ((with_reducible refine Chk.intro ?_ ?_); (· first | omega | (with_reducible refine Chk.intro ?_ ?_ <;> omega) | (simp; done) | (simp; omega))) | (with_reducible refine AnyI.i64 fun _ _ => ?_) | ((with_reducible refine LetW.i64 ?_ ?_ ?_); (· omega); (· omega)) | ((with_reducible refine Ite.decide (fun _ => ?_) (fun _ => ?_)) <;> first | (exfalso; omega) | skip) | (with_reducible refine Ite.bool (fun _ => ?_) (fun _ => ?_)) | (with_reducible refine And.intro ?_ ?_) | omega | simp (maxSteps := 1000000) only [go_sem, reduceCtorEq, Nat.reduceLT, Nat.reduceLeDiff, reduceIte, ↓reduceIte, Nat.reduceEqDiff, Nat.reduceAdd, Nat.reduceMul, Nat.reduceSub, Int.reduceLE, Int.reduceLT, Int.reduceNeg, Int.reduceToNat])
      refine VcDraw.lex [] [] (by kernel_rfl) (by kernel_rfl) ?_
      by_cases hsame : pa = 1 ∧ pb = 1 ∧ a.getD i 0 = b.getD j 0
      · obtain ⟨e1, e2, e3⟩ := hsame
        rw [if_pos (hps.2 ⟨e1, e2, e3⟩), List.append_nil] at hxx
        subst e1; subst e2
        have hil : (i : Int) < (a.length : Int) := by omega
        have hjl : (j : Int) < (b.length : Int) := by omega
        have hcd : decide (((a.getD i 0).toNat : Int) = ((b.getD j 0).toNat : Int)) = true := decide_eq_true (by rw [e3])
        (repeat' first | (with_reducible refine Asm.intro fun _ => ?_) | ((with_reducible refine Chk.intro ?_ ?_); (· first | omega | (with_reducible refine Chk.intro ?_ ?_ <;> omega) | (simp; done) | (simp; omega))) | (with_reducible refine AnyI.i64 fun _ _ => ?_) | ((with_reducible refine LetW.i64 ?_ ?_ ?_); (· omega); (· omega)) | ((with_reducible refine Ite.decide (fun _ => ?_) (fun _ => ?_)) <;> first | (exfalso; omega) | skip) | (with_reducible refine Ite.bool (fun _ => ?_) (fun _ => ?_)) | (with_reducible refine And.intro ?_ ?_) | omega | simp (maxSteps := 1000000) only [go_sem, reduceCtorEq, Nat.reduceLT, Nat.reduceLeDiff, reduceIte, ↓reduceIte, Nat.reduceEqDiff, Nat.reduceAdd, Nat.reduceMul, Nat.reduceSub, Int.reduceLE, Int.reduceLT, Int.reduceNeg, Int.reduceToNat, hcd, Int.natCast_one, Int.toNat_natCast, e3])
        refine VcDraw.lex [6, 7] [(3, [1]), (4, [1]), (5, [1])] (by kernel_rfl) (by kernel_rfl) ?_
        (repeat' first | (with_reducible refine Asm.intro fun _ => ?_) | ((with_reducible refine Chk.intro ?_ ?_); (· first | omega | (with_reducible refine Chk.intro ?_ ?_ <;> omega) | (simp; done) | (simp; omega))) | (with_reducible refine AnyI.i64 fun _ _ => ?_) | ((with_reducible refine LetW.i64 ?_ ?_ ?_); (· omega); (· omega)) | ((with_reducible refine Ite.decide (fun _ => ?_) (fun _ => ?_)) <;> first | (exfalso; omega) | skip) | (with_reducible refine Ite.bool (fun _ => ?_) (fun _ => ?_)) | (with_reducible refine And.intro ?_ ?_) | omega | simp (maxSteps := 1000000) only [go_sem, reduceCtorEq, Nat.reduceLT, Nat.reduceLeDiff, reduceIte, ↓reduceIte, Nat.reduceEqDiff, Nat.reduceAdd, Nat.reduceMul, Nat.reduceSub, Int.reduceLE, Int.reduceLT, Int.reduceNeg, Int.reduceToNat, Int.natCast_one])
        refine ⟨(i + 1, j + 1, out), Ent.auto2 rfl ?_ ?_, ⟨by dsimp only; omega, by dsimp only; omega, by dsimp only; omega, hxx⟩, by dsimp only; omega⟩ <;> simp only [go_sem, reduceCtorEq, reduceIte, Nat.reduceEqDiff, Nat.reduceLT, Nat.reduceLeDiff, Int.natCast_succ, mkRen2, sls]
      · rw [if_neg (fun h => hsame (hps.1 h))] at hxx
        have hcd : ¬ ((pa : Int) = 1 ∧ (pb : Int) = 1 ∧ ((a.getD i 0).toNat : Int) = ((b.getD j 0).toNat : Int)) := by
          rintro ⟨e1, e2, e3⟩
          exact hsame ⟨by omega, by omega, UInt8.toNat_inj.1 (by omega)⟩
        have tna : ((i : Int) + pa).toNat = i + pa := by omega
        have tnb : ((j : Int) + pb).toNat = j + pb := by omega
        have sla : List.take (i + pa - i) (a.drop i) = (a.drop i).take pa := by rw [Nat.add_sub_cancel_left]
        have slb : List.take (j + pb - j) (b.drop j) = (b.drop j).take pb := by rw [Nat.add_sub_cancel_left]
        have hsn := sls_snoc out i ((a.drop i).take pa) ((b.drop j).take pb) pc
        by_cases h11 : pa = 1 ∧ pb = 1
        case' pos =>
          obtain ⟨e1, e2⟩ := h11
          have tna1 : ((i : Int) + 1).toNat = i + 1 := by omega
          have tnb1 : ((j : Int) + 1).toNat = j + 1 := by omega
          subst e1; subst e2
          rw [← tna1] at sla
          rw [← tnb1] at slb
          have hil : (i : Int) < (a.length : Int) := by omega
          have hjl : (j : Int) < (b.length : Int) := by omega
          have hcf : decide (((a.getD i 0).toNat : Int) = ((b.getD j 0).toNat : Int)) = false := decide_eq_false fun e => hcd ⟨rfl, rfl, e⟩
          (repeat' first | (with_reducible refine Asm.intro fun _ => ?_) | ((with_reducible refine Chk.intro ?_ ?_); (· first | omega | (with_reducible refine Chk.intro ?_ ?_ <;> omega) | (simp; done) | (simp; omega))) | (with_reducible refine AnyI.i64 fun _ _ => ?_) | ((with_reducible refine LetW.i64 ?_ ?_ ?_); (· omega); (· omega)) | ((with_reducible refine Ite.decide (fun _ => ?_) (fun _ => ?_)) <;> first | (exfalso; omega) | skip) | (with_reducible refine Ite.bool (fun _ => ?_) (fun _ => ?_)) | (with_reducible refine And.intro ?_ ?_) | omega | simp (maxSteps := 1000000) only [go_sem, reduceCtorEq, Nat.reduceLT, Nat.reduceLeDiff, reduceIte, ↓reduceIte, Nat.reduceEqDiff, Nat.reduceAdd, Nat.reduceMul, Nat.reduceSub, Int.reduceLE, Int.reduceLT, Int.reduceNeg, Int.reduceToNat, hcf, Int.natCast_one, Int.toNat_natCast])
        case' neg =>
          have hcf : decide (¬ (pa : Int) = 1) = true ∨ (decide (¬ (pa : Int) = 1) = false ∧ decide (¬ (pb : Int) = 1) = true) := by
            by_cases h : pa = 1
            · right; exact ⟨by simp [h], by simp; omega⟩
            · left; simp; omega
          rcases hcf with hcf | ⟨hcf, hcf2⟩
          case' inl => (repeat' first | (with_reducible refine Asm.intro fun _ => ?_) | ((with_reducible refine Chk.intro ?_ ?_); (· first | omega | (with_reducible refine Chk.intro ?_ ?_ <;> omega) | (simp; done) | (simp; omega))) | (with_reducible refine AnyI.i64 fun _ _ => ?_) | ((with_reducible refine LetW.i64 ?_ ?_ ?_); (· omega); (· omega)) | ((with_reducible refine Ite.decide (fun _ => ?_) (fun _ => ?_)) <;> first | (exfalso; omega) | skip) | (with_reducible refine Ite.bool (fun _ => ?_) (fun _ => ?_)) | (with_reducible refine And.intro ?_ ?_) | omega | simp (maxSteps := 1000000) only [go_sem, reduceCtorEq, Nat.reduceLT, Nat.reduceLeDiff, reduceIte, ↓reduceIte, Nat.reduceEqDiff, Nat.reduceAdd, Nat.reduceMul, Nat.reduceSub, Int.reduceLE, Int.reduceLT, Int.reduceNeg, Int.reduceToNat, hcf])
          case' inr => (repeat' first | (with_reducible refine Asm.intro fun _ => ?_) | ((with_reducible refine Chk.intro ?_ ?_); (· first | omega | (with_reducible refine Chk.intro ?_ ?_ <;> omega) | (simp; done) | (simp; omega))) | (with_reducible refine AnyI.i64 fun _ _ => ?_) | ((with_reducible refine LetW.i64 ?_ ?_ ?_); (· omega); (· omega)) | ((with_reducible refine Ite.decide (fun _ => ?_) (fun _ => ?_)) <;> first | (exfalso; omega) | skip) | (with_reducible refine Ite.bool (fun _ => ?_) (fun _ => ?_)) | (with_reducible refine And.intro ?_ ?_) | omega | simp (maxSteps := 1000000) only [go_sem, reduceCtorEq, Nat.reduceLT, Nat.reduceLeDiff, reduceIte, ↓reduceIte, Nat.reduceEqDiff, Nat.reduceAdd, Nat.reduceMul, Nat.reduceSub, Int.reduceLE, Int.reduceLT, Int.reduceNeg, Int.reduceToNat, hcf, hcf2])
        all_goals
          refine VcDraw.lex [16, 17] [(0, [1])] (by kernel_rfl) (by kernel_rfl) ?_
          (repeat' first | (with_reducible refine Asm.intro fun _ => ?_) | ((with_reducible refine Chk.intro ?_ ?_); (· first | omega | (with_reducible refine Chk.intro ?_ ?_ <;> omega) | (simp; done) | (simp; omega))) | (with_reducible refine AnyI.i64 fun _ _ => ?_) | ((with_reducible refine LetW.i64 ?_ ?_ ?_); (· omega); (· omega)) | ((with_reducible refine Ite.decide (fun _ => ?_) (fun _ => ?_)) <;> first | (exfalso; omega) | skip) | (with_reducible refine Ite.bool (fun _ => ?_) (fun _ => ?_)) | (with_reducible refine And.intro ?_ ?_) | omega | simp (maxSteps := 1000000) only [go_sem, reduceCtorEq, Nat.reduceLT, Nat.reduceLeDiff, reduceIte, ↓reduceIte, Nat.reduceEqDiff, Nat.reduceAdd, Nat.reduceMul, Nat.reduceSub, Int.reduceLE, Int.reduceLT, Int.reduceNeg, Int.reduceToNat, sls, tna, tnb, sla, slb, Int.toNat_natCast, Int.natCast_one, List.length_map, hsn])
          refine VcDraw.lex [6, 7] [(3, [1]), (4, [1]), (5, [1])] (by kernel_rfl) (by kernel_rfl) ?_
          (repeat' first | (with_reducible refine Asm.intro fun _ => ?_) | ((with_reducible refine Chk.intro ?_ ?_); (· first | omega | (with_reducible refine Chk.intro ?_ ?_ <;> omega) | (simp; done) | (simp; omega))) | (with_reducible refine AnyI.i64 fun _ _ => ?_) | ((with_reducible refine LetW.i64 ?_ ?_ ?_); (· omega); (· omega)) | ((with_reducible refine Ite.decide (fun _ => ?_) (fun _ => ?_)) <;> first | (exfalso; omega) | skip) | (with_reducible refine Ite.bool (fun _ => ?_) (fun _ => ?_)) | (with_reducible refine And.intro ?_ ?_) | omega | simp (maxSteps := 1000000) only [go_sem, reduceCtorEq, Nat.reduceLT, Nat.reduceLeDiff, reduceIte, ↓reduceIte, Nat.reduceEqDiff, Nat.reduceAdd, Nat.reduceMul, Nat.reduceSub, Int.reduceLE, Int.reduceLT, Int.reduceNeg, Int.reduceToNat, Int.natCast_one])
          refine ⟨(i + _, j + _, out ++ [⟨i, (a.drop i).take _, (b.drop j).take _, pc⟩]), Ent.auto2 rfl ?_ ?_, ⟨?_, ?_, ?_, hxx⟩, ?_⟩
          · simp only [go_sem, reduceCtorEq, reduceIte, Nat.reduceEqDiff, Nat.reduceLT, Nat.reduceLeDiff, Int.natCast_succ, mkRen2, sls]
          · simp only [go_sem, reduceCtorEq, reduceIte, Nat.reduceEqDiff, Nat.reduceLT, Nat.reduceLeDiff, Int.natCast_succ, mkRen2, sls, Int.natCast_add, Int.natCast_one]
          · dsimp only; omega
          · dsimp only; omega
          · simp; omega
          · dsimp only; omega
    · have ei : i = a.length := by omega
      have ej : j = b.length := by omega
      have hxx := hx.2.2.2
      subst ei; subst ej
      rw [List.drop_length, List.drop_length, script_nil, List.append_nil] at hxx
      (repeat' first | (with_reducible refine Asm.intro fun _ => ?_) | ((with_reducible refine Chk.intro ?_ ?_); (· first | omega | (with_reducible refine Chk.intro ?_ ?_ <;> omega) | (simp; done) | (simp; omega))) | (with_reducible refine AnyI.i64 fun _ _ => ?_) | ((with_reducible refine LetW.i64 ?_ ?_ ?_); (· omega); (· omega)) | ((with_reducible refine Ite.decide (fun _ => ?_) (fun _ => ?_)) <;> first | (exfalso; omega) | skip) | (with_reducible refine Ite.bool (fun _ => ?_) (fun _ => ?_)) | (with_reducible refine And.intro ?_ ?_) | omega | simp (maxSteps := 1000000) only [go_sem, reduceCtorEq, Nat.reduceLT, Nat.reduceLeDiff, reduceIte, ↓reduceIte, Nat.reduceEqDiff, Nat.reduceAdd, Nat.reduceMul, Nat.reduceSub, Int.reduceLE, Int.reduceLT, Int.reduceNeg, Int.reduceToNat])
      refine Ret.auto 1 ?_ rfl ?_ <;> simp only [go_sem, reduceCtorEq, reduceIte, Nat.reduceEqDiff, Nat.reduceLT, Nat.reduceLeDiff, Int.natCast_succ, Post, sls, hxx]
  · rw [if_neg he] at hdo
    rw [hdo]
    (repeat' first | (with_reducible refine Asm.intro fun _ => ?_) | ((with_reducible refine Chk.intro ?_ ?_); (· first | omega | (with_reducible refine Chk.intro ?_ ?_ <;> omega) | (simp; done) | (simp; omega))) | (with_reducible refine AnyI.i64 fun _ _ => ?_) | ((with_reducible refine LetW.i64 ?_ ?_ ?_); (· omega); (· omega)) | ((with_reducible refine Ite.decide (fun _ => ?_) (fun _ => ?_)) <;> first | (exfalso; omega) | skip) | (with_reducible refine Ite.bool (fun _ => ?_) (fun _ => ?_)) | (with_reducible refine And.intro ?_ ?_) | omega | simp (maxSteps := 1000000) only [go_sem, reduceCtorEq, Nat.reduceLT, Nat.reduceLeDiff, reduceIte, ↓reduceIte, Nat.reduceEqDiff, Nat.reduceAdd, Nat.reduceMul, Nat.reduceSub, Int.reduceLE, Int.reduceLT, Int.reduceNeg, Int.reduceToNat, he])
    refine Ret.auto 1 ?_ rfl ?_ <;> simp only [go_sem, reduceCtorEq, reduceIte, Nat.reduceEqDiff, Nat.reduceLT, Nat.reduceLeDiff, Int.natCast_succ, Post, sls, List.map_nil, zrow, List.replicate_zero]
end Go.Fv.W
