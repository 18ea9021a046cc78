/-
  A part of the proof of the claim: walks over the program's functions and the plain laws that these need. No condition of its own.
-/
import Derived.Test.YthhdmejmdjhbkaaGreatDoorYTopCorrCardPart1
import Derived.Test.YthhdmejmdjhbkaaGreatDoorYTopCorrCardPart5
import Derived.Test.YthhdmejmdjhbkaaGreatDoorYTopCorrCardPart2
namespace Go.Fv.Y
open Go Go.Proofs
set_option linter.unusedSimpArgs false
set_option linter.unusedVariables false
set_option linter.unnecessarySimpa false
set_option maxRecDepth 8000

def kgRs (kg : KG) : List RowV := kg.map fun p => sws p.2
def kgI (kg : KG) : List Item := (kgRs kg).map (Item.row 123)
theorem kgRs_len (kg : KG) : (kgRs kg).length = kg.length := by simp [kgRs]

theorem put_out {b n : Nat} {L : List Item} (h : L.length = n) {q : Nat} (hq : n + b ≤ q) (x : Item) : put (famI b L) q x = famI b L := by
  have : ∀ (L : List Item) (b : Nat), L.length + b ≤ q → put (famI b L) q x = famI b L := by
    intro L
    induction L with
    | nil => intro b _; rfl
    | cons y L ih =>
      intro b hb
      simp only [List.length_cons] at hb
      simp only [famI, put]
      rw [if_neg (by omega), ih (b + 1) (by omega)]
  exact this L b (by omega)
theorem kgI_len (kg : KG) : (kgI kg).length = kg.length := by simp [kgI, kgRs]
theorem kgI_noid (kg : KG) : ∀ r, r ∈ kgRs kg → noIdR r = true := by
  intro r hr
  obtain ⟨p, _, rfl⟩ := List.mem_map.1 hr
  exact noIdR_ok _
theorem kgI_get (kg : KG) {j : Nat} (h : j < (kgRs kg).length) : (kgI kg)[j]? = some (.row 123 (kgRs kg)[j]) := by simp [kgI, h]
theorem below_famN (b n N : Nat) (h : n + b ≤ N) : belowL N (famN b n) = true := by
  have : ∀ (f : Nat → AV) (l : List Nat), (∀ i, i ∈ l → Fv.below N (f i) = true) → belowL N (l.map f) = true := by
    intro f l
    induction l with
    | nil => intro _; rfl
    | cons x l ih => intro hf; simp only [List.map_cons, belowL, hf x (.head _), Bool.true_and]; exact ih fun i hi => hf i (.tail _ hi)
  refine this _ _ fun i hi => ?_
  have := List.mem_range.1 hi
  simp [Fv.below]; omega
theorem ren_famN (p : Nat → Nat) (b n : Nat) : renL p (famN b n) = (List.range n).map fun i => .own (p (i + b)) := by
  unfold famN
  have : ∀ l : List Nat, renL p (l.map fun i => .own (i + b)) = l.map fun i => .own (p (i + b)) := by
    intro l
    induction l with
    | nil => rfl
    | cons x l ih => simp only [List.map_cons, renL, ren, ih]
  exact this _
theorem ren_famN_low {p : Nat → Nat} {b n : Nat} (h : ∀ i, i < n → p (i + b) = i + b) : renL p (famN b n) = famN b n := by
  rw [ren_famN]
  exact List.map_congr_left fun i hi => by rw [h i (List.mem_range.1 hi)]
theorem kgKs_ren (p : Nat → Nat) (kg : KG) : renL p (kgKs kg) = kgKs kg := renL_kmap p (fun _ => rfl) _
theorem kgKs_below (n : Nat) (kg : KG) : belowL n (kgKs kg) = true := belowL_kmap n (fun _ => rfl) _

theorem ren_famN_set {b n t K : Nat} (h : t < n) : renL (p1 (t + b) K) (famN b n) = (famN b n).set t (.own K) := by
  rw [ren_famN]
  refine List.ext_getElem (by simp [famN]) fun i h1 h2 => ?_
  simp only [List.getElem_map, List.getElem_range, List.getElem_set]
  split
  · rename_i e; subst e; rw [p1_at]
  · rename_i e
    rw [p1_ne (by omega)]; simp [famN]
theorem ren_famN_snoc {b n K : Nat} : renL (p1 (n + b) K) (famN b (n + 1)) = famN b n ++ [.own K] := by
  rw [ren_famN, List.range_succ, List.map_append]
  simp only [List.map_cons, List.map_nil, p1_at]
  congr 1
  exact List.map_congr_left fun i hi => by rw [p1_ne (by have := List.mem_range.1 hi; omega)]

set_option maxHeartbeats 8000000 in
theorem swaps_ok (l : List Mx) (hp : ∀ m, m ∈ l → m.f ≠ [] ∧ m.t ≠ []) (hl : l.length ≤ 1000) : FnOk Tryz.prog 34 [.ro (mxs l)] (.mp (kgKs (grp [] (swL l))) (kgVs (grp [] (swL l)))) [] := by
  refine FnOk.of_vc Tryz.func34 rfl (by decide) (by simp [Tryz.f34]) [.tmp 2] rfl fun w0 T0 _ => ?_
  simp only [Tryz.f34, argEnv]
  (repeat' first | with_reducible (first | intro _ | refine rc ?_ | refine rl ?_ | refine rh ?_ | refine ru ?_ | refine rt ?_ | refine rf ?_ | refine rs ?_ | refine And.intro ?_ ?_) | omega | simp (maxSteps := 1000000) only [go_sem, simprocAttr, ↓reduceIte, List.length_map, mxs])
  refine VcLoop.intro (fun i : Nat => ⟨50, [(11, .int .i64 i), (10, .int .i64 l.length), (9, .ro (mxs l)), (3, .own 0)], (0, .map (kgKs (grp [] (swL (l.take i)))) (famN 100 (grp [] (swL (l.take i))).length)) :: famI 100 (kgI (grp [] (swL (l.take i)))), (grp [] (swL (l.take i))).length + 100⟩) (fun i => i ≤ l.length) (fun i => l.length - i) 0 ?_ (Nat.zero_le _) fun i hi => ?_
  · refine Ent.famR1 id (by simp [kgRs_len]) rfl (Nat.zero_le _) (fun i hi => rfl) (by decide) ?_ ?_ (kgI_noid _) ?_ (fun i j _ _ e => e)
    · simp only [go_sem, reduceCtorEq, reduceIte, Nat.reduceEqDiff, Nat.reduceLT, Nat.reduceLeDiff, Int.natCast_succ, id]
      simp [mxs]
    · simp [subP, lk, Item.ren, Item.below, kgKs, kgK, grp, swL, famN, renL, belowL]
    · intro j hj; simp [kgRs, swL, grp] at hj
  have hgk := grp_is (swL (l.take i))
  have hsl := swL_len (l.take i)
  by_cases hlt : i < l.length
  · have he := mx_elem l hlt
    have hst := swL_take l hlt Mx.zero
    have hpm := hp (l.getD i Mx.zero) (by rw [getD_lt hlt]; exact List.getElem_mem _)
    generalize l.getD i Mx.zero = m at *
    generalize swL (l.take i) = q at *
    have hp0 := fun x => put_out (kgI_len (grp [] q)) (Nat.le_refl ((grp [] q).length + 100)) x
    have hp1 := fun x => put_out (kgI_len (grp [] q)) (Nat.le_add_right ((grp [] q).length + 100) 1) x
    (repeat' first | with_reducible (first | intro _ | refine rc ?_ | refine rl ?_ | refine rh ?_ | refine ru ?_ | refine rt ?_ | refine rf ?_ | refine rs ?_ | refine And.intro ?_ ?_) | omega | simp (maxSteps := 1000000) only [go_sem, simprocAttr, ↓reduceIte, elemA, he, List.length_map, mxs, hp0, hp1])
    refine VcLoop.intro (fun j : Nat => ⟨50, [(31, .int .i64 j), (30, .int .i64 2), (29, .own 1), (11, .int .i64 i), (10, .int .i64 l.length), (9, .ro (mxs l)), (3, .own 0)], (0, .map (kgKs (grp [] (q ++ [⟨m.f, m.t, m.c⟩, ⟨m.t, m.f, m.c⟩].take j))) (famN 100 (grp [] (q ++ [⟨m.f, m.t, m.c⟩, ⟨m.t, m.f, m.c⟩].take j)).length)) :: (1, .row 123 (.objs 3 [[.str m.f, .str m.t, .int .i64 m.c], [.str m.t, .str m.f, .int .i64 m.c]])) :: famI 100 (kgI (grp [] (q ++ [⟨m.f, m.t, m.c⟩, ⟨m.t, m.f, m.c⟩].take j))), (grp [] (q ++ [⟨m.f, m.t, m.c⟩, ⟨m.t, m.f, m.c⟩].take j)).length + 100⟩) (fun j => j ≤ 2) (fun j => 2 - j) 0 ?_ (Nat.zero_le _) fun j hj => ?_
    · rw [List.take_zero, List.append_nil]
      generalize grp [] q = kg at *
      refine Ent.famR2 (p1 1 (kg.length + 100 + 1)) (by simp [kgRs_len]) rfl (Nat.zero_le _) (fun i hi => by omega) (by decide) ?_ ?_ (kgI_noid _) ?_ ?_
      · simp only [go_sem, reduceCtorEq, reduceIte, Nat.reduceEqDiff, Nat.reduceLT, Nat.reduceLeDiff, Int.natCast_succ, mxs, p1]
        first | exact ⟨rfl, by omega, by omega⟩ | exact ⟨by omega, by omega⟩ | omega
      · simp only [go_sem, reduceCtorEq, reduceIte, Nat.reduceEqDiff, Nat.reduceLT, Nat.reduceLeDiff, Int.natCast_succ, subP, kgKs_ren, kgKs_below, p1_at, p1_ne (show (0 : Nat) ≠ 1 by decide)]
        rw [ren_famN_low (fun i hi => p1_ne (by omega)), below_famN _ _ _ (Nat.le_refl _)]
        exact ⟨rfl, rfl⟩
      · intro j hj
        rw [p1_ne (by omega)]
        rw [kgRs_len] at hj
        repeat rw [lk_ne (by omega)]
        exact lk_fam (kgI_get kg (by rw [kgRs_len]; exact hj))
      · exact p1_inj (by omega)
    have hg0 := grp_all ([⟨m.f, m.t, m.c⟩, ⟨m.t, m.f, m.c⟩].take j) _ _ hgk
    have hjj : j < 2 → ∃ s : Sw, [⟨m.f, m.t, m.c⟩, ⟨m.t, m.f, m.c⟩].take (j + 1) = [⟨m.f, m.t, m.c⟩, ⟨m.t, m.f, m.c⟩].take j ++ [s] ∧ s.o ≠ [] ∧ [[AV.str m.f, .str m.t, .int .i64 m.c], [.str m.t, .str m.f, .int .i64 m.c]].getD j [] = [.str s.o, .str s.n, .int .i64 s.c] := by
      intro h
      rcases (by omega : j = 0 ∨ j = 1) with rfl | rfl
      · exact ⟨⟨m.f, m.t, m.c⟩, rfl, hpm.1, rfl⟩
      · exact ⟨⟨m.t, m.f, m.c⟩, rfl, hpm.2, rfl⟩
    by_cases hj2 : j < 2
    · obtain ⟨s, hts, hso, hel⟩ := hjj hj2
      have hlen : (q ++ ([⟨m.f, m.t, m.c⟩, ⟨m.t, m.f, m.c⟩] : List Sw).take j).length ≤ 3000 := by simp; simp at hsl; omega
      have hgj := grp_is (q ++ ([⟨m.f, m.t, m.c⟩, ⟨m.t, m.f, m.c⟩] : List Sw).take j)
      have hsn : grp [] (q ++ ([⟨m.f, m.t, m.c⟩, ⟨m.t, m.f, m.c⟩] : List Sw).take (j + 1)) = kgIns (grp [] (q ++ ([⟨m.f, m.t, m.c⟩, ⟨m.t, m.f, m.c⟩] : List Sw).take j)) s := by rw [hts, ← List.append_assoc, grp_snoc]
      clear hp0 hp1 hgk hg0 hjj hst
      generalize q ++ ([⟨m.f, m.t, m.c⟩, ⟨m.t, m.f, m.c⟩] : List Sw).take j = qj at *
      generalize grp [] qj = kg at *
      have hp0 := fun x => put_out (kgI_len kg) (Nat.le_refl (kg.length + 100)) x
      have hgO := getV_own kg 100 (s.o.getD 0 0)
      have hks : KeysT Tryz.prog 5 (kgKs kg) := KeysT_map (fun c => .int Tryz.underlying5 _) _
      have hso2 : 0 < s.o.length := by cases ho : s.o with
        | nil => exact absurd ho hso
        | cons => simp
      have hkB : AV.int .u8 ((s.o.getD 0 0).toNat : Int) = kB (s.o.getD 0 0) := rfl
      cases hx : ixOf (kgK kg) (s.o.getD 0 0) with
      | some t =>
        rw [hx] at hgO
        have htl := ixOf_lt hx
        rw [kgK_len] at htl
        have hO : getO (kgKs kg) (famN 100 kg.length) (.int .u8 ((s.o.getD 0 0).toNat : Int)) .nilS = .own (t + 100) := getO_some hgO
        have hlk : lk (famI 100 (kgI kg)) (t + 100) = some (.row 123 (.objs 3 ((kgRs kg)[t]'(by rw [kgRs_len]; exact htl) |> fun _ => (kg[t].2.map Sw.av)))) := by
          rw [lk_fam (kgI_get kg (by rw [kgRs_len]; exact htl))]
          simp [kgRs, sws]
        have hne : (kg.length = t) = False := eq_false (by omega)
        have hne1 : (kg.length + 1 = t) = False := eq_false (by omega)
        have hne2 : (kg.length + 2 = t) = False := eq_false (by omega)
        obtain ⟨_, hund⟩ := hgj.some _ _ hx
        have hul := under_len qj (s.o.getD 0 0)
        rw [← hund] at hul
        have hki : keyIdx (kgKs kg) (.int .u8 ((s.o.getD 0 0).toNat : Int)) = some t := (keyIdx_map eqKeyB _ _).trans hx
        have hK : updKs (kgKs kg) (.int .u8 ((s.o.getD 0 0).toNat : Int)) = kgKs kg := by unfold updKs; rw [hki]
        have hV : ∀ v, updVs (kgKs kg) (famN 100 kg.length) (.int .u8 ((s.o.getD 0 0).toNat : Int)) v = (famN 100 kg.length).set t v := fun v => by unfold updVs; rw [hki]
        have hins : kgIns kg s = kg.set t (s.o.getD 0 0, (kg.getD t (0, [])).2 ++ [s]) := by unfold kgIns; rw [hx]
        (repeat' first | with_reducible (first | intro _ | refine rc ?_ | refine rl ?_ | refine rh ?_ | refine ru ?_ | refine rt ?_ | refine rf ?_ | refine rs ?_ | refine And.intro ?_ ?_) | omega | simp (maxSteps := 1000000) only [go_sem, simprocAttr, ↓reduceIte, elemA, hel, hp0])
        refine VcDraw.lex [10, 11, 12] [(0, [1, 2]), (1, [1, 2]), (2, [1, 2]), (3, [1, 2]), (4, [1]), (5, [1]), (6, [1]), (7, [1]), (8, [1])] (by kernel_rfl) (by kernel_rfl) ?_
        (repeat' first | with_reducible (first | intro _ | refine rc ?_ | refine rl ?_ | refine rh ?_ | refine ru ?_ | refine rt ?_ | refine rf ?_ | refine rs ?_ | refine And.intro ?_ ?_) | omega | simp (maxSteps := 1000000) only [go_sem, simprocAttr, ↓reduceIte, hO, hlk, hne, hne1, hp0, hK, hV, eq_true hks, Nat.add_eq_left, Nat.left_eq_add, List.length_map])
        refine ⟨j + 1, ?_, by omega, by omega⟩
        rw [hsn, hins]
        have h0 : p1 (t + 100) (kg.length + 100 + 1 + 1) 0 = 0 := p1_ne (by omega)
        have h1 : p1 (t + 100) (kg.length + 100 + 1 + 1) 1 = 1 := p1_ne (by omega)
        have hkk : kgKs (kg.set t (s.o.getD 0 0, (kg.getD t (0, [])).2 ++ [s])) = kgKs kg := congrArg (List.map kB) (kgK_set kg t _ _ (ixOf_some hx))
        refine Ent.famR2 (p1 (t + 100) (kg.length + 100 + 1 + 1)) (by simp [kgRs_len]) rfl (Nat.zero_le _) (fun i hi => by omega) (by decide) ?_ ?_ (kgI_noid _) ?_ ?_
        · simp only [go_sem, reduceCtorEq, reduceIte, Nat.reduceEqDiff, Nat.reduceLT, Nat.reduceLeDiff, Int.natCast_succ, h0, h1, List.length_set]
          exact ⟨by omega, by omega⟩
        · simp only [go_sem, reduceCtorEq, reduceIte, Nat.reduceEqDiff, Nat.reduceLT, Nat.reduceLeDiff, Int.natCast_succ, subP, kgKs_ren, kgKs_below, h0, h1, hkk, List.length_set]
          rw [ren_famN_set htl, below_famN _ _ _ (Nat.le_refl _)]
          exact ⟨rfl, rfl⟩
        · intro i hi
          rw [kgRs_len, List.length_set] at hi
          by_cases e : i = t
          · subst e
            rw [p1_at, lk_eq]
            have hgd : kg.getD i (0, []) = kg[i] := getD_lt htl
            simp only [kgRs, List.map_set, List.getElem_set_self, hgd]
            simp [sws, Sw.av]
          · rw [p1_ne (by omega)]
            repeat rw [lk_ne (by omega)]
            rw [lk_put, if_neg (by omega), lk_del, if_neg (by omega), lk_fam (kgI_get kg (by rw [kgRs_len]; exact hi))]
            simp [kgRs, List.getElem_set, if_neg (show ¬ t = i from fun h => e h.symm)]
        · refine p1_inj ?_
          simp
      | none =>
        rw [hx] at hgO
        have hO : getO (kgKs kg) (famN 100 kg.length) (.int .u8 ((s.o.getD 0 0).toNat : Int)) .nilS = .nilS := getO_none hgO
        have hki : keyIdx (kgKs kg) (.int .u8 ((s.o.getD 0 0).toNat : Int)) = none := (keyIdx_map eqKeyB _ _).trans hx
        have hK : updKs (kgKs kg) (.int .u8 ((s.o.getD 0 0).toNat : Int)) = kgKs kg ++ [.int .u8 ((s.o.getD 0 0).toNat : Int)] := by unfold updKs; rw [hki]
        have hV : ∀ v, updVs (kgKs kg) (famN 100 kg.length) (.int .u8 ((s.o.getD 0 0).toNat : Int)) v = famN 100 kg.length ++ [v] := fun v => by unfold updVs; rw [hki]
        have hins : kgIns kg s = kg ++ [(s.o.getD 0 0, [s])] := by unfold kgIns; rw [hx]
        (repeat' first | with_reducible (first | intro _ | refine rc ?_ | refine rl ?_ | refine rh ?_ | refine ru ?_ | refine rt ?_ | refine rf ?_ | refine rs ?_ | refine And.intro ?_ ?_) | omega | simp (maxSteps := 1000000) only [go_sem, simprocAttr, ↓reduceIte, elemA, hel, hp0])
        refine VcDraw.lex [10, 11, 12] [(0, [1, 2]), (1, [1, 2]), (2, [1, 2]), (3, [1, 2]), (4, [1]), (5, [1]), (6, [1]), (7, [1]), (8, [1])] (by kernel_rfl) (by kernel_rfl) ?_
        (repeat' first | with_reducible (first | intro _ | refine rc ?_ | refine rl ?_ | refine rh ?_ | refine ru ?_ | refine rt ?_ | refine rf ?_ | refine rs ?_ | refine And.intro ?_ ?_) | omega | simp (maxSteps := 1000000) only [go_sem, simprocAttr, ↓reduceIte, hO, hp0, hK, hV, eq_true hks, Nat.add_eq_left, Nat.left_eq_add, List.length_map])
        refine ⟨j + 1, ?_, by omega, by omega⟩
        rw [hsn, hins]
        have h0 : p1 (kg.length + 100) (kg.length + 100 + 1 + 1 + 1) 0 = 0 := p1_ne (by omega)
        have h1 : p1 (kg.length + 100) (kg.length + 100 + 1 + 1 + 1) 1 = 1 := p1_ne (by omega)
        have hll : (kg ++ [(s.o.getD 0 0, [s])]).length = kg.length + 1 := by simp
        have hkk : kgKs (kg ++ [(s.o.getD 0 0, [s])]) = kgKs kg ++ [.int .u8 ((s.o.getD 0 0).toNat : Int)] := by simp [kgKs, kgK, kB]
        refine Ent.famR2 (p1 (kg.length + 100) (kg.length + 100 + 1 + 1 + 1)) (by simp [kgRs_len]) rfl (Nat.zero_le _) (fun i hi => by omega) (by decide) ?_ ?_ (kgI_noid _) ?_ ?_
        · simp only [go_sem, reduceCtorEq, reduceIte, Nat.reduceEqDiff, Nat.reduceLT, Nat.reduceLeDiff, Int.natCast_succ, h0, h1, hll]
          exact ⟨by omega, by omega⟩
        · simp only [go_sem, reduceCtorEq, reduceIte, Nat.reduceEqDiff, Nat.reduceLT, Nat.reduceLeDiff, Int.natCast_succ, subP, h0, h1, hll]
          rw [kgKs_ren, kgKs_below, ren_famN_snoc, below_famN _ _ _ (Nat.le_refl _), hkk]
          exact ⟨rfl, rfl, rfl⟩
        · intro i hi
          rw [kgRs_len, hll] at hi
          by_cases e : i = kg.length
          · subst e
            rw [p1_at, lk_eq]
            simp [kgRs, sws, Sw.av]
          · rw [p1_ne (by omega)]
            repeat rw [lk_ne (by omega)]
            rw [lk_put, if_neg (by omega), lk_del, if_neg (by omega), lk_fam (kgI_get kg (by rw [kgRs_len]; omega))]
            have hlt2 : i < kg.length := by omega
            simp only [kgRs, List.map_append, List.map_cons, List.map_nil]
            rw [List.getElem_append_left (by simp; omega)]
        · refine p1_inj ?_
          simp
    · have ej : j = 2 := by omega
      subst ej
      have et : [(⟨m.f, m.t, m.c⟩ : Sw), ⟨m.t, m.f, m.c⟩].take 2 = [⟨m.f, m.t, m.c⟩, ⟨m.t, m.f, m.c⟩] := rfl
      rw [et, ← hst]
      (repeat' first | with_reducible (first | intro _ | refine rc ?_ | refine rl ?_ | refine rh ?_ | refine ru ?_ | refine rt ?_ | refine rf ?_ | refine rs ?_ | refine And.intro ?_ ?_) | omega | simp (maxSteps := 1000000) only [go_sem, simprocAttr, ↓reduceIte])
      refine ⟨i + 1, ?_, by omega, by omega⟩
      refine Ent.famR1 id (by simp [kgRs_len]) rfl (Nat.zero_le _) (fun i hi => rfl) (by decide) ?_ ?_ (kgI_noid _) ?_ (fun i j _ _ e => e)
      · simp only [go_sem, reduceCtorEq, reduceIte, Nat.reduceEqDiff, Nat.reduceLT, Nat.reduceLeDiff, Int.natCast_succ, mxs, id]
        omega
      · simp only [go_sem, reduceCtorEq, reduceIte, Nat.reduceEqDiff, Nat.reduceLT, Nat.reduceLeDiff, Int.natCast_succ, subP, kgKs_ren, kgKs_below, id]
        rw [ren_famN_low (fun i hi => rfl), below_famN _ _ _ (Nat.le_refl _)]
        exact ⟨rfl, rfl⟩
      · intro j hj
        simp only [id, lk]
        repeat rw [if_neg (by omega)]
        exact lk_fam (kgI_get _ hj)
  · have e : i = l.length := by omega
    subst e
    rw [List.take_length] at *
    generalize grp [] (swL l) = kg at *
    (repeat' first | with_reducible (first | intro _ | refine rc ?_ | refine rl ?_ | refine rh ?_ | refine ru ?_ | refine rt ?_ | refine rf ?_ | refine rs ?_ | refine And.intro ?_ ?_) | omega | simp (maxSteps := 1000000) only [go_sem, simprocAttr, ↓reduceIte, List.length_map, mxs])
    refine Ret.ro ?_
    simp only [go_sem, reduceCtorEq, reduceIte, Nat.reduceEqDiff, Nat.reduceLT, Nat.reduceLeDiff, Int.natCast_succ, outOk, argOk]
    refine argOkN_map lk_eq ?_ ?_
    · exact allOk_get rfl fun j h1 h2 => by simp [kgKs, kB, argOkN]
    · refine allOk_get (by simp [famN, kgVs]) fun j h1 h2 => ?_
      have hjl : j < kg.length := by simpa [famN] using h1
      have e1 : (famN 100 kg.length)[j] = .own (j + 100) := by simp [famN]
      have e2 : (kgVs kg)[j] = .ro (sws kg[j].2) := by simp [kgVs]
      rw [e1, e2]
      refine argOkN_row (e := 123) ?_ (noIdR_ok _)
      rw [lk_ne (by omega), lk_fam (kgI_get kg (by rw [kgRs_len]; exact hjl))]
      simp [kgRs]
end Go.Fv.Y

namespace Go.Fv.Y
open Go Go.Proofs
set_option linter.unusedSimpArgs false
set_option linter.unusedVariables false
set_option linter.unnecessarySimpa false
set_option maxRecDepth 8000

def wordsErr (l : List Mx) (ws : List (List UInt8)) : Int := if ws.any (fun s => decide (200 < s.length)) then 4 else mixErr l
theorem checkWords_ok (l : List Mx) (ws : List (List UInt8)) (hw : ws.length ≤ 2) : FnOk Tryz.prog 68 [.ro (mxs l), .ro (.strs ws)] (.int .i64 (wordsErr l ws)) [] := by
  have k := checkMixes_ok l
  have hany : ∀ i, (∀ j, j < i → ¬ 200 < (ws.getD j []).length) → i < ws.length → 200 < (ws.getD i []).length → wordsErr l ws = 4 := by
    intro i _ hi h
    unfold wordsErr
    rw [if_pos]
    rw [List.any_eq_true]
    exact ⟨ws.getD i [], by rw [getD_lt hi]; exact List.getElem_mem hi, by simpa using h⟩
  have hnone : (∀ j, j < ws.length → ¬ 200 < (ws.getD j []).length) → wordsErr l ws = mixErr l := by
    intro h
    unfold wordsErr
    rw [if_neg]
    intro ha
    obtain ⟨s, hs, hl⟩ := List.any_eq_true.1 ha
    obtain ⟨j, hj, rfl⟩ := List.mem_iff_getElem.1 hs
    refine h j hj ?_
    rw [getD_lt hj]; simpa using hl
  generalize wordsErr l ws = e at *
  refine FnOk.of_vc Tryz.func68 rfl (by decide) (by simp [Tryz.f68]) [.tmp 4] rfl fun w0 T0 _ => ?_
  simp only [Tryz.f68, argEnv]
  (repeat' first | with_reducible (first | intro _ | refine rc ?_ | refine rl ?_ | refine rh ?_ | refine ru ?_ | refine rt ?_ | refine rf ?_ | refine rs ?_ | refine And.intro ?_ ?_) | omega | simp (maxSteps := 1000000) only [go_sem, simprocAttr, ↓reduceIte])
  refine VcLoop.intro (fun i : Nat => ⟨19, [(9, .int .i64 i), (8, .int .i64 ws.length), (7, .ro (.strs ws)), (0, .ro (mxs l))], [], 0⟩) (fun i => i ≤ ws.length ∧ ∀ j, j < i → ¬ 200 < (ws.getD j []).length) (fun i => ws.length - i) 0 ?_ ⟨Nat.zero_le _, fun j hj => by omega⟩ fun i hi => ?_
  · refine Ent.auto0 rfl ?_ ?_ <;> simp only [go_sem, reduceCtorEq, reduceIte, Nat.reduceEqDiff, Nat.reduceLT, Nat.reduceLeDiff, Int.natCast_succ]
  by_cases hlt : i < ws.length
  · generalize hx : ws.getD i [] = x at *
    (repeat' first | with_reducible (first | intro _ | refine rc ?_ | refine rl ?_ | refine rh ?_ | refine ru ?_ | refine rt ?_ | refine rf ?_ | refine rs ?_ | refine And.intro ?_ ?_) | omega | simp (maxSteps := 1000000) only [go_sem, simprocAttr, ↓reduceIte, elemA, hx])
    · rename_i h
      rw [hany i hi.2 hlt (by rw [hx]; omega)]
      refine Ret.auto 0 ?_ rfl ?_ <;> simp only [go_sem, reduceCtorEq, reduceIte, Nat.reduceEqDiff, Nat.reduceLT, Nat.reduceLeDiff, Int.natCast_succ, Post]
    · rename_i h
      refine ⟨i + 1, Ent.auto0 rfl ?_ ?_, ⟨by omega, fun j hj => ?_⟩, by omega⟩
      · simp only [go_sem, reduceCtorEq, reduceIte, Nat.reduceEqDiff, Nat.reduceLT, Nat.reduceLeDiff, Int.natCast_succ]
      · simp only [go_sem, reduceCtorEq, reduceIte, Nat.reduceEqDiff, Nat.reduceLT, Nat.reduceLeDiff, Int.natCast_succ]
      · by_cases e : j = i
        · subst e; rw [hx]; omega
        · exact hi.2 j (by omega)
  · have e : i = ws.length := by omega
    subst e
    rw [hnone hi.2]
    (repeat' first | with_reducible (first | intro _ | refine rc ?_ | refine rl ?_ | refine rh ?_ | refine ru ?_ | refine rt ?_ | refine rf ?_ | refine rs ?_ | refine And.intro ?_ ?_) | omega | simp (maxSteps := 1000000) only [go_sem, simprocAttr, ↓reduceIte])
    refine VcCall.k k ?_
    (repeat' first | with_reducible (first | intro _ | refine rc ?_ | refine rl ?_ | refine rh ?_ | refine ru ?_ | refine rt ?_ | refine rf ?_ | refine rs ?_ | refine And.intro ?_ ?_) | omega | simp (maxSteps := 1000000) only [go_sem, simprocAttr, ↓reduceIte])
    refine Ret.auto 0 ?_ rfl ?_ <;> simp only [go_sem, reduceCtorEq, reduceIte, Nat.reduceEqDiff, Nat.reduceLT, Nat.reduceLeDiff, Int.natCast_succ, Post]
theorem mix_good {l : List Mx} (h : mixErr l = 0) : GoodSw (swL l) ∧ (swL l).length ≤ 400 ∧ (∀ m, m ∈ l → m.f ≠ [] ∧ m.t ≠ []) := by
  obtain ⟨h1, h2⟩ := mixErr_zero h
  exact ⟨good_swL h2, by rw [swL_len]; omega, fun m hm => ⟨part_ne (h2 m hm).1, part_ne (h2 m hm).2.1⟩⟩
theorem tab_first (sw : List Sw) (a b : List UInt8) : (tab sw a b 0).getD 0 0 = dist sw a b := by
  rw [tab_get (by simp [Nat.mul_pos_iff_of_pos_left]; try omega) (Nat.le_refl _)]
  have := cellD_at sw a b (i := 0) (j := 0) (by omega)
  simpa using this

end Go.Fv.Y

namespace Go.Fv.Y
open Go Go.Proofs
set_option linter.unusedSimpArgs false
set_option linter.unusedVariables false
set_option linter.unnecessarySimpa false
set_option maxRecDepth 8000

def St.av (s : St) : List AV := [.int .i64 s.a, .int .i64 s.b, .int .i64 s.c]
def St.zero : St := ⟨0, 0, 0⟩
def sts (l : List St) : RowV := .objs 3 (l.map St.av)
instance : FNoId St.av := ⟨fun _ => rfl⟩
instance {l : List St} : RowNoId (sts l) := inferInstanceAs (RowNoId (.objs 3 (l.map St.av)))
/-- What a swap gives at two places. -/
def one (x y : List UInt8) (s : Sw) : List St := if fits x y s = true then [⟨s.o.length, s.n.length, s.c⟩] else []
def two (x y : List UInt8) (m : Mx) : List St := one x y ⟨m.f, m.t, m.c⟩ ++ one x y ⟨m.t, m.f, m.c⟩
end Go.Fv.Y

/- The table of the reference, row by row, in plain words. -/
namespace Go.Fv.Y
open Go
set_option linter.unusedSimpArgs false
set_option linter.unusedVariables false
set_option linter.unnecessarySimpa false

/-- A row from column c on. -/
def rowF (sw : List Sw) (a b : List UInt8) (q c : Nat) : List Int := (List.range (b.length + 1)).map fun j => if c ≤ j then dist sw (a.drop q) (b.drop j) else 0
def costL (sw : List Sw) (a b : List UInt8) (r : Nat) : List (List AV) := (List.range (a.length + 1)).map fun q => if r ≤ q then [.ro (.ints .i64 (rowF sw a b q 0))] else [.nilS]
theorem costL_noid (sw : List Sw) (a b : List UInt8) (r : Nat) : (costL sw a b r).all noIdL = true := by
  rw [List.all_eq_true]
  intro x hx
  obtain ⟨q, _, rfl⟩ := List.mem_map.1 hx
  split <;> rfl
end Go.Fv.Y

namespace Go.Fv.Y
open Go Go.Proofs
set_option linter.unusedSimpArgs false
set_option linter.unusedVariables false
set_option linter.unnecessarySimpa false
set_option maxRecDepth 8000

def Sl.av (s : Sl) : List AV := [.int .i64 s.at_, .str s.o, .str s.n, .int .i64 s.c]
def Sl.zero : Sl := ⟨0, [], [], 0⟩
def sls (l : List Sl) : RowV := .objs 4 (l.map Sl.av)
instance : FNoId Sl.av := ⟨fun _ => rfl⟩
instance {l : List Sl} : RowNoId (sls l) := inferInstanceAs (RowNoId (.objs 4 (l.map Sl.av)))
end Go.Fv.Y

namespace Go.Fv.Y
open Go Go.Proofs
set_option linter.unusedSimpArgs false
set_option linter.unusedVariables false
set_option linter.unnecessarySimpa false
set_option maxRecDepth 8000

instance {sw : List Sw} {a b : List UInt8} {r : Nat} : LNoId (costL sw a b r) := ⟨costL_noid sw a b r⟩
end Go.Fv.Y

/- The walks of near and Near, of the program and of the reference. -/
namespace Go.Fv.Y
open Go Go.Proofs
set_option linter.unusedSimpArgs false
set_option linter.unusedVariables false
set_option linter.unnecessarySimpa false
set_option maxRecDepth 8000

theorem isWd_l40 {s : Bytes} (h : isWd s = true) : s.length ≤ 40 := by
  unfold isWd at h
  simp only [Bool.and_eq_true, decide_eq_true_eq] at h
  exact h.1.1.1.2
theorem gs_snoc (l : List Gs) (t : Bytes) (d c : Int) : (l ++ [(⟨t, d, c⟩ : Gs)]).map Gs.av = l.map Gs.av ++ [[.str t, .int .i64 d, .int .i64 c]] := by simp [Gs.av]
theorem gs_ok {D : List Wd} (hg : GoodD D) {sw : List Sw} (hsw : GoodSw sw) {w : Bytes} (hw : w.length ≤ 1000) {most : Int} {ws : List Bytes} (hws : ∀ x, x ∈ ws → x ∈ wsD D) : ∀ x, x ∈ gsAll D sw w most ws → GsOk x := fun x hx => by
  obtain ⟨h1, h2, h3, _⟩ := mem_gsAll hx
  have h4 := hws _ h1
  have hl := isWd_l40 (ws_isWd hg h4)
  have hb := dist_bd hsw _ w x.t (Nat.le_refl _)
  obtain ⟨y, hy, e⟩ := List.mem_map.1 (ws_mem.1 h4)
  have hc := cntD_mem hg.nd hy
  have hyb := (hg.wd y hy).2
  rw [e] at hc
  exact ⟨by omega, by omega, by omega⟩
set_option maxHeartbeats 8000000 in
theorem near_ok (D : List Wd) (hg : GoodD D) (hl : D.length < 40) (sw : List Sw) (hsw : GoodSw sw) (hswl : sw.length ≤ 4000) (w : Bytes) (hw : w.length ≤ 1000) (most : Int) :
    FnOk Tryz.prog 38 [.cell [.mp (dKs D) (dVs D), .ro (.strs (wsD D))], .str w, .mp (kgKs (grp [] sw)) (kgVs (grp [] sw)), .int .i64 most] (.own 0) [(0, .row 65 (gsR (nearL D sw w most)))] := by
  have hwl := ws_len D
  have hst := gsAll_stab D sw w most (ws_lt hg)
  have hgl := gsAll_len D sw w most (wsD D)
  have kS := sortStable_io 81 near1_ok (gsAll D sw w most (wsD D)) (by omega) hst
  have h40 : ∀ x, x ∈ wsD D → x.length ≤ 40 := fun x hx => isWd_l40 (ws_isWd hg hx)
  have htk : ∀ i, i < D.length → gsAll D sw w most ((wsD D).take (i + 1)) = gsAll D sw w most ((wsD D).take i) ++ gsOf D sw w most ((wsD D).getD i []) := fun i hi => gsAll_take D sw w most (by omega)
  have hgi : ∀ i, i ≤ D.length → (gsAll D sw w most ((wsD D).take i)).length ≤ 40 := fun i hi => by
    have := gsAll_len D sw w most ((wsD D).take i)
    rw [List.length_take] at this; omega
  have hall : gsAll D sw w most ((wsD D).take D.length) = gsAll D sw w most (wsD D) := by rw [← hwl, List.take_length]
  have e4 := isI_d D
  have e5 : KeysT Tryz.prog 9 (dKs D) := keysT_d (by kernel_rfl) _
  have e1 := getI_d D
  have hga0 : gsAll D sw w most [] = [] := rfl
  unfold nearL
  refine FnOk.of_vc Tryz.func38 rfl (by decide) (by simp [Tryz.f38]) [.tmp 8] rfl fun w0 T0 _ => ?_
  simp only [Tryz.f38, argEnv]
  generalize hws : wsD D = ws at *
  (repeat' first | with_reducible (first | intro _ | refine rc ?_ | refine rl ?_ | refine rh ?_ | refine ru ?_ | refine rt ?_ | refine rf ?_ | refine rs ?_ | refine And.intro ?_ ?_) | omega | simp (maxSteps := 1000000) only [go_sem, simprocAttr, ↓reduceIte])
  refine VcLoop.intro (fun i : Nat => ⟨47, [(18, .int .i64 i), (17, .int .i64 D.length), (16, .ro (.strs ws)), (9, .own 0), (0, .cell [.mp (dKs D) (dVs D), .ro (.strs ws)]), (1, .str w), (2, .mp (kgKs (grp [] sw)) (kgVs (grp [] sw))), (3, .int .i64 most)], [(0, .row 65 (gsR (gsAll D sw w most (ws.take i))))], 1⟩) (fun i => i ≤ D.length) (fun i => D.length - i) 0 ?_ (Nat.zero_le _) fun i hi => ?_
  · refine Ent.auto0 rfl ?_ ?_ <;> simp only [go_sem, reduceCtorEq, reduceIte, Nat.reduceEqDiff, Nat.reduceLT, Nat.reduceLeDiff, Int.natCast_succ, hwl, gsR, List.take_zero, hga0, List.map_nil]
  by_cases hlt : i < D.length
  · have hxl := h40 (ws.getD i []) (by rw [getD_lt (by omega)]; exact List.getElem_mem _)
    have kT := table_ok sw hsw hswl w (ws.getD i []) (by omega) (by omega)
    have htl := tab_len sw w (ws.getD i []) 0
    have ht0 := tab_first sw w (ws.getD i [])
    have hpos : 0 < (w.length + 1) * ((ws.getD i []).length + 1) := Nat.mul_pos (by omega) (by omega)
    have hst := htk i hlt
    have hgl1 := hgi i (by omega)
    unfold gsOf at hst
    generalize hx : ws.getD i [] = x at *
    have e1 := e1 x
    generalize hG : gsAll D sw w most (ws.take i) = G at *
    generalize hG2 : gsAll D sw w most (ws.take (i + 1)) = G2 at *
    generalize tab sw w x 0 = tb at *
    generalize dist sw w x = dd at *
    (repeat' first | with_reducible (first | intro _ | refine rc ?_ | refine rl ?_ | refine rh ?_ | refine ru ?_ | refine rt ?_ | refine rf ?_ | refine rs ?_ | refine And.intro ?_ ?_) | omega | simp (maxSteps := 1000000) only [go_sem, simprocAttr, ↓reduceIte, hwl, hx])
    refine VcCall.fr (FnFr.of_ok kT rfl rfl) (by simp only [noIdR_ok, argOkL, argOk, allOk, argOkN, List.drop_zero, lk, reduceIte, reduceCtorEq, Nat.reduceEqDiff, Option.some.injEq, Item.row.injEq, Item.box.injEq, AV.ro.injEq, exists_eq_left, exists_and_left, exists_eq_left', exists_eq_right, and_assoc, and_true, true_and, List.cons.injEq, exists_eq', exists_eq]) 1 rfl (by simp [rowsB, Item.below]) ?_
    by_cases hd : dd ≤ most
    · rw [if_pos hd] at hst
      have hm : G2.map Gs.av = G.map Gs.av ++ [[.str x, .int .i64 dd, .int .i64 (cntD D x)]] := by rw [hst, gs_snoc]
      (repeat' first | with_reducible (first | intro _ | refine rc ?_ | refine rl ?_ | refine rh ?_ | refine ru ?_ | refine rt ?_ | refine rf ?_ | refine rs ?_ | refine And.intro ?_ ?_) | omega | simp (maxSteps := 1000000) only [go_sem, simprocAttr, ↓reduceIte, htl, elemA, ht0, Int.toNat_zero, hd, e1, e4, e5, gsR, List.length_map])
      refine ⟨i + 1, Ent.auto0 rfl ?_ ?_, by omega, by omega⟩ <;> simp only [go_sem, reduceCtorEq, reduceIte, Nat.reduceEqDiff, Nat.reduceLT, Nat.reduceLeDiff, Int.natCast_succ, gsR, hG2, hm]
    · rw [if_neg hd, List.append_nil] at hst
      (repeat' first | with_reducible (first | intro _ | refine rc ?_ | refine rl ?_ | refine rh ?_ | refine ru ?_ | refine rt ?_ | refine rf ?_ | refine rs ?_ | refine And.intro ?_ ?_) | omega | simp (maxSteps := 1000000) only [go_sem, simprocAttr, ↓reduceIte, htl, elemA, ht0, Int.toNat_zero, hd, gsR, List.length_map])
      refine ⟨i + 1, Ent.auto0 rfl ?_ ?_, by omega, by omega⟩ <;> simp only [go_sem, reduceCtorEq, reduceIte, Nat.reduceEqDiff, Nat.reduceLT, Nat.reduceLeDiff, Int.natCast_succ, gsR, hG2, hst]
  · have e : i = D.length := by omega
    subst e
    rw [hall]
    (repeat' first | with_reducible (first | intro _ | refine rc ?_ | refine rl ?_ | refine rh ?_ | refine ru ?_ | refine rt ?_ | refine rf ?_ | refine rs ?_ | refine And.intro ?_ ?_) | omega | simp (maxSteps := 1000000) only [go_sem, simprocAttr, ↓reduceIte, hwl])
    refine VcCall.io [0] kS (by decide) (by simp [renL, ren, ioN]) rfl (by simp [subOk, ioN, lk, Item.ren, Item.below, gsR, renR_ok, belowR_ok]) covG1 1 (by decide) rfl (by simp [rowsB, Item.below, gsR, belowR_ok]) ?_
    (repeat' first | with_reducible (first | intro _ | refine rc ?_ | refine rl ?_ | refine rh ?_ | refine ru ?_ | refine rt ?_ | refine rf ?_ | refine rs ?_ | refine And.intro ?_ ?_) | omega | simp (maxSteps := 1000000) only [go_sem, simprocAttr, ↓reduceIte, S.ioS, ioRows, ioN, delL, Item.ren, gsR, renR_ok, List.length_cons, List.length_nil, List.getElem?_cons_zero, List.getElem?_cons_succ, List.getElem?_nil, List.cons_append, List.nil_append, Nat.reduceAdd, Nat.sub_self, Nat.add_zero, List.filter])
    refine Ret.auto 1 ?_ rfl ?_ <;> simp only [go_sem, reduceCtorEq, reduceIte, Nat.reduceEqDiff, Nat.reduceLT, Nat.reduceLeDiff, Int.natCast_succ, Post, gsR]
end Go.Fv.Y

/- Near and its reference. -/
namespace Go.Fv.Y
open Go Go.Proofs
set_option linter.unusedSimpArgs false
set_option linter.unusedVariables false
set_option linter.unnecessarySimpa false
set_option maxRecDepth 8000

theorem badMost_ok (most : Int) : FnOk Tryz.prog 33 [.int .i64 most] (.bool (decide (most < 0 ∨ 10000 < most))) [] := by
  refine FnOk.of_vc Tryz.func33 rfl (by decide) (by simp [Tryz.f33]) [.tmp 2] rfl fun w0 T0 _ => ?_
  simp only [Tryz.f33, argEnv]
  (repeat' first | with_reducible (first | intro _ | refine rc ?_ | refine rl ?_ | refine rh ?_ | refine ru ?_ | refine rt ?_ | refine rf ?_ | refine rs ?_ | refine And.intro ?_ ?_) | omega | simp (maxSteps := 1000000) only [go_sem, simprocAttr, ↓reduceIte])
  refine Ret.auto 0 ?_ rfl ?_ <;> simp only [go_sem, reduceCtorEq, reduceIte, Nat.reduceEqDiff, Nat.reduceLT, Nat.reduceLeDiff, Int.natCast_succ, Post]
def nearOut (D : List Wd) (l : List Mx) (w : Bytes) (most : Int) : List Gs := if nearErr l w most = 0 then nearL D (swL l) w most else []
theorem nearErr_zero {l : List Mx} {w : Bytes} {most : Int} (h : nearErr l w most = 0) : ¬ (most < 0 ∨ 10000 < most) ∧ ¬ 200 < w.length ∧ mixErr l = 0 := by
  unfold nearErr at h
  by_cases h1 : most < 0 ∨ 10000 < most
  · rw [if_pos h1] at h; exact absurd h (by decide)
  rw [if_neg h1] at h
  by_cases h2 : 200 < w.length
  · rw [if_pos h2] at h; exact absurd h (by decide)
  rw [if_neg h2] at h
  exact ⟨h1, h2, h⟩
set_option maxHeartbeats 4000000 in
theorem nearW_ok (D : List Wd) (hg : GoodD D) (hl : D.length < 40) (l : List Mx) (w : Bytes) (most : Int) (E : Int) (hE : nearErr l w most = E) (O : List Gs) (hO : nearOut D l w most = O) :
    FnOk Tryz.prog 23 [.cell [.mp (dKs D) (dVs D), .ro (.strs (wsD D))], .str w, .ro (mxs l), .int .i64 most] (.tup [.own 0, .int .i64 E]) [(0, .row 65 (gsR O))] := by
  have kb := badMost_ok most
  have kc := checkWords_ok l [w] (by simp)
  have hw1 : wordsErr l [w] = if 200 < w.length then 4 else mixErr l := by unfold wordsErr; by_cases h : 200 < w.length <;> simp [h]
  rw [hw1] at kc
  unfold nearOut at hO
  rw [hE] at hO
  refine FnOk.of_vc Tryz.func23 rfl (by decide) (by simp [Tryz.f23]) [.tmp 8, .tmp 9] rfl fun w0 T0 _ => ?_
  simp only [Tryz.f23, argEnv]
  by_cases h1 : most < 0 ∨ 10000 < most
  · have e3 : E = 3 := by rw [← hE]; unfold nearErr; rw [if_pos h1]
    subst e3
    rw [if_neg (by decide)] at hO
    subst hO
    rw [decide_eq_true h1] at kb
    (repeat' first | with_reducible (first | intro _ | refine rc ?_ | refine rl ?_ | refine rh ?_ | refine ru ?_ | refine rt ?_ | refine rf ?_ | refine rs ?_ | refine And.intro ?_ ?_) | omega | simp (maxSteps := 1000000) only [go_sem, simprocAttr, ↓reduceIte])
    refine VcCall.k (kb) ?_
    (repeat' first | with_reducible (first | intro _ | refine rc ?_ | refine rl ?_ | refine rh ?_ | refine ru ?_ | refine rt ?_ | refine rf ?_ | refine rs ?_ | refine And.intro ?_ ?_) | omega | simp (maxSteps := 1000000) only [go_sem, simprocAttr, ↓reduceIte])
    refine Ret.auto 1 ?_ rfl ?_ <;> simp only [go_sem, reduceCtorEq, reduceIte, Nat.reduceEqDiff, Nat.reduceLT, Nat.reduceLeDiff, Int.natCast_succ, Post, gsR, List.map_nil]
  rw [decide_eq_false h1] at kb
  have hE2 : (if 200 < w.length then 4 else mixErr l) = E := by rw [← hE]; unfold nearErr; rw [if_neg h1]
  rw [hE2] at kc
  by_cases h0 : E = 0
  · subst h0
    rw [if_pos rfl] at hO
    obtain ⟨_, h2, h3⟩ := nearErr_zero hE
    obtain ⟨g1, g2, g3⟩ := mix_good h3
    have hml := (mixErr_zero h3).1
    have k1 := swaps_ok l g3 (by omega)
    have k2 := near_ok D hg hl (swL l) g1 (by omega) w (by omega) most
    rw [hO] at k2
    (repeat' first | with_reducible (first | intro _ | refine rc ?_ | refine rl ?_ | refine rh ?_ | refine ru ?_ | refine rt ?_ | refine rf ?_ | refine rs ?_ | refine And.intro ?_ ?_) | omega | simp (maxSteps := 1000000) only [go_sem, simprocAttr, ↓reduceIte])
    refine VcCall.k (kb) ?_
    (repeat' first | with_reducible (first | intro _ | refine rc ?_ | refine rl ?_ | refine rh ?_ | refine ru ?_ | refine rt ?_ | refine rf ?_ | refine rs ?_ | refine And.intro ?_ ?_) | omega | simp (maxSteps := 1000000) only [go_sem, simprocAttr, ↓reduceIte])
    refine VcCall.k kc ?_
    (repeat' first | with_reducible (first | intro _ | refine rc ?_ | refine rl ?_ | refine rh ?_ | refine ru ?_ | refine rt ?_ | refine rf ?_ | refine rs ?_ | refine And.intro ?_ ?_) | omega | simp (maxSteps := 1000000) only [go_sem, simprocAttr, ↓reduceIte])
    refine VcCall.ros (.mp (kgKs (grp [] (swL l))) (kgVs (grp [] (swL l)))) k1 (by simp only [noIdR_ok, argOkL, argOk, allOk, argOkN, List.drop_zero, lk, reduceIte, reduceCtorEq, Nat.reduceEqDiff, Option.some.injEq, Item.row.injEq, Item.box.injEq, AV.ro.injEq, exists_eq_left, exists_and_left, exists_eq_left', exists_eq_right, and_assoc, and_true, true_and, List.cons.injEq, exists_eq', exists_eq]) (by simp [outOk, argOk, argOkN]) rfl ?_
    (repeat' first | with_reducible (first | intro _ | refine rc ?_ | refine rl ?_ | refine rh ?_ | refine ru ?_ | refine rt ?_ | refine rf ?_ | refine rs ?_ | refine And.intro ?_ ?_) | omega | simp (maxSteps := 1000000) only [go_sem, simprocAttr, ↓reduceIte])
    refine VcCall.fr (FnFr.of_ok k2 rfl (by simp [noRoRows, noRoItem, noRoRow, noRoL, noRo, gsR, Gs.av])) (by simp only [noIdR_ok, argOkL, argOk, allOk, argOkN, List.drop_zero, lk, reduceIte, reduceCtorEq, Nat.reduceEqDiff, Option.some.injEq, Item.row.injEq, Item.box.injEq, AV.ro.injEq, exists_eq_left, exists_and_left, exists_eq_left', exists_eq_right, and_assoc, and_true, true_and, List.cons.injEq, exists_eq', exists_eq]) 1 rfl (by simp [rowsB, Item.below, gsR, belowR_ok]) ?_
    (repeat' first | with_reducible (first | intro _ | refine rc ?_ | refine rl ?_ | refine rh ?_ | refine ru ?_ | refine rt ?_ | refine rf ?_ | refine rs ?_ | refine And.intro ?_ ?_) | omega | simp (maxSteps := 1000000) only [go_sem, simprocAttr, ↓reduceIte, gsR])
    refine Ret.auto 1 ?_ rfl ?_ <;> simp only [go_sem, reduceCtorEq, reduceIte, Nat.reduceEqDiff, Nat.reduceLT, Nat.reduceLeDiff, Int.natCast_succ, Post, gsR]
  · rw [if_neg h0] at hO
    subst hO
    (repeat' first | with_reducible (first | intro _ | refine rc ?_ | refine rl ?_ | refine rh ?_ | refine ru ?_ | refine rt ?_ | refine rf ?_ | refine rs ?_ | refine And.intro ?_ ?_) | omega | simp (maxSteps := 1000000) only [go_sem, simprocAttr, ↓reduceIte])
    refine VcCall.k (kb) ?_
    (repeat' first | with_reducible (first | intro _ | refine rc ?_ | refine rl ?_ | refine rh ?_ | refine ru ?_ | refine rt ?_ | refine rf ?_ | refine rs ?_ | refine And.intro ?_ ?_) | omega | simp (maxSteps := 1000000) only [go_sem, simprocAttr, ↓reduceIte])
    refine VcCall.k kc ?_
    (repeat' first | with_reducible (first | intro _ | refine rc ?_ | refine rl ?_ | refine rh ?_ | refine ru ?_ | refine rt ?_ | refine rf ?_ | refine rs ?_ | refine And.intro ?_ ?_) | omega | simp (maxSteps := 1000000) only [go_sem, simprocAttr, ↓reduceIte, h0])
    refine Ret.auto 1 ?_ rfl ?_ <;> simp only [go_sem, reduceCtorEq, reduceIte, Nat.reduceEqDiff, Nat.reduceLT, Nat.reduceLeDiff, Int.natCast_succ, Post, gsR, List.map_nil]
end Go.Fv.Y

/- Best, of the program and of the reference. -/
namespace Go.Fv.Y
open Go Go.Proofs
set_option linter.unusedSimpArgs false
set_option linter.unusedVariables false
set_option linter.unnecessarySimpa false
set_option maxRecDepth 8000

def gOr (o : Option Gs) : Gs := match o with | some g => g | none => Gs.zero
theorem bestG_two (x y : Gs) (r : List Gs) : bestG (x :: y :: r) = if x.d < y.d ∨ 2 * y.c ≤ x.c then some x else none := rfl
def gsBd (L : List Gs) : Prop := ∀ x, x ∈ L → GsOk x
set_option maxHeartbeats 4000000 in
theorem best_ok (L : List Gs) (hb : gsBd L) (g : Gs) (hg : gOr (bestG L) = g) (o : Bool) (ho : (bestG L).isSome = o) : FnOk Tryz.prog 37 [.ro (gsR L)] (.tup [.agg [.str g.t, .int .i64 g.d, .int .i64 g.c], .bool o]) [] := by
  refine FnOk.of_vc Tryz.func37 rfl (by decide) (by simp [Tryz.f37]) [.cell 2 65, .tmp 3] rfl fun w0 T0 _ => ?_
  simp only [Tryz.f37, argEnv]
  match L, hb, hg, ho with
  | [], hb, hg, ho =>
    subst hg ho
    (repeat' first | with_reducible (first | intro _ | refine rc ?_ | refine rl ?_ | refine rh ?_ | refine ru ?_ | refine rt ?_ | refine rf ?_ | refine rs ?_ | refine And.intro ?_ ?_) | omega | simp (maxSteps := 1000000) only [go_sem, simprocAttr, ↓reduceIte, gsR, List.map_nil, List.length_nil])
    refine Ret.auto 0 ?_ rfl ?_ <;> simp only [go_sem, reduceCtorEq, reduceIte, Nat.reduceEqDiff, Nat.reduceLT, Nat.reduceLeDiff, Int.natCast_succ, Post, gOr, bestG, Gs.zero, Option.isSome]
  | [x], hb, hg, ho =>
    subst hg ho
    (repeat' first | with_reducible (first | intro _ | refine rc ?_ | refine rl ?_ | refine rh ?_ | refine ru ?_ | refine rt ?_ | refine rf ?_ | refine rs ?_ | refine And.intro ?_ ?_) | omega | simp (maxSteps := 1000000) only [go_sem, simprocAttr, ↓reduceIte, gsR, List.map_cons, List.map_nil, List.length_cons, List.length_nil])
    refine VcDraw.lex [] [] (by kernel_rfl) (by kernel_rfl) ?_
    (repeat' first | with_reducible (first | intro _ | refine rc ?_ | refine rl ?_ | refine rh ?_ | refine ru ?_ | refine rt ?_ | refine rf ?_ | refine rs ?_ | refine And.intro ?_ ?_) | omega | simp (maxSteps := 1000000) only [go_sem, simprocAttr, ↓reduceIte, gsR, elemA, List.map_cons, List.map_nil, List.length_cons, List.length_nil, List.getD_cons_zero, List.getD_cons_succ, List.getD_nil, List.drop_nil, Gs.av])
    refine QV.intro (.int .i64 0) ?_ ?_
    · (repeat' first | with_reducible (first | intro _ | refine rc ?_ | refine rl ?_ | refine rh ?_ | refine ru ?_ | refine rt ?_ | refine rf ?_ | refine rs ?_ | refine And.intro ?_ ?_) | omega | simp (maxSteps := 1000000) only [go_sem, simprocAttr, ↓reduceIte, gsR, elemA, List.map_cons, List.map_nil, List.length_cons, List.length_nil, List.getD_cons_zero, List.getD_cons_succ, List.getD_nil, List.drop_nil, Gs.av])
    (repeat' first | with_reducible (first | intro _ | refine rc ?_ | refine rl ?_ | refine rh ?_ | refine ru ?_ | refine rt ?_ | refine rf ?_ | refine rs ?_ | refine And.intro ?_ ?_) | omega | simp (maxSteps := 1000000) only [go_sem, simprocAttr, ↓reduceIte, gsR, elemA, List.map_cons, List.map_nil, List.length_cons, List.length_nil, List.getD_cons_zero, List.getD_cons_succ, List.getD_nil, List.drop_nil, Gs.av])
    refine QV.intro (.int .i64 0) ?_ ?_
    · (repeat' first | with_reducible (first | intro _ | refine rc ?_ | refine rl ?_ | refine rh ?_ | refine ru ?_ | refine rt ?_ | refine rf ?_ | refine rs ?_ | refine And.intro ?_ ?_) | omega | simp (maxSteps := 1000000) only [go_sem, simprocAttr, ↓reduceIte, gsR, elemA, List.map_cons, List.map_nil, List.length_cons, List.length_nil, List.getD_cons_zero, List.getD_cons_succ, List.getD_nil, List.drop_nil, Gs.av])
    (repeat' first | with_reducible (first | intro _ | refine rc ?_ | refine rl ?_ | refine rh ?_ | refine ru ?_ | refine rt ?_ | refine rf ?_ | refine rs ?_ | refine And.intro ?_ ?_) | omega | simp (maxSteps := 1000000) only [go_sem, simprocAttr, ↓reduceIte, gsR, elemA, List.map_cons, List.map_nil, List.length_cons, List.length_nil, List.getD_cons_zero, List.getD_cons_succ, List.getD_nil, List.drop_nil, Gs.av])
    refine Ret.auto 0 ?_ rfl ?_ <;> simp only [go_sem, reduceCtorEq, reduceIte, Nat.reduceEqDiff, Nat.reduceLT, Nat.reduceLeDiff, Int.natCast_succ, Post, gOr, bestG, Option.isSome]
  | x :: y :: r, hb, hg, ho =>
    have hne : ¬ ((r.length + 1 + 1 : Nat) : Int) = 1 := by omega
    have hx := hb x List.mem_cons_self
    have hy := hb y (List.mem_cons_of_mem _ List.mem_cons_self)
    unfold GsOk at hx hy
    rw [bestG_two] at hg ho
    by_cases h1 : x.d < y.d
    · rw [if_pos (Or.inl h1)] at hg ho
      subst hg ho
      (repeat' first | with_reducible (first | intro _ | refine rc ?_ | refine rl ?_ | refine rh ?_ | refine ru ?_ | refine rt ?_ | refine rf ?_ | refine rs ?_ | refine And.intro ?_ ?_) | omega | simp (maxSteps := 1000000) only [go_sem, simprocAttr, ↓reduceIte, gsR, List.map_cons, List.length_cons, List.length_map])
      refine VcDraw.lex [] [] (by kernel_rfl) (by kernel_rfl) ?_
      (repeat' first | with_reducible (first | intro _ | refine rc ?_ | refine rl ?_ | refine rh ?_ | refine ru ?_ | refine rt ?_ | refine rf ?_ | refine rs ?_ | refine And.intro ?_ ?_) | omega | simp (maxSteps := 1000000) only [go_sem, simprocAttr, ↓reduceIte, gsR, elemA, List.map_cons, List.length_cons, List.length_map, List.getD_cons_zero, List.getD_cons_succ, Gs.av, h1, hne, Bool.or_true, Bool.or_false])
      refine Ret.auto 0 ?_ rfl ?_ <;> simp only [go_sem, reduceCtorEq, reduceIte, Nat.reduceEqDiff, Nat.reduceLT, Nat.reduceLeDiff, Int.natCast_succ, Post, gOr, Option.isSome]
    by_cases h2 : 2 * y.c ≤ x.c
    · rw [if_pos (Or.inr h2)] at hg ho
      subst hg ho
      (repeat' first | with_reducible (first | intro _ | refine rc ?_ | refine rl ?_ | refine rh ?_ | refine ru ?_ | refine rt ?_ | refine rf ?_ | refine rs ?_ | refine And.intro ?_ ?_) | omega | simp (maxSteps := 1000000) only [go_sem, simprocAttr, ↓reduceIte, gsR, List.map_cons, List.length_cons, List.length_map])
      refine VcDraw.lex [] [] (by kernel_rfl) (by kernel_rfl) ?_
      (repeat' first | with_reducible (first | intro _ | refine rc ?_ | refine rl ?_ | refine rh ?_ | refine ru ?_ | refine rt ?_ | refine rf ?_ | refine rs ?_ | refine And.intro ?_ ?_) | omega | simp (maxSteps := 1000000) only [go_sem, simprocAttr, ↓reduceIte, gsR, elemA, List.map_cons, List.length_cons, List.length_map, List.getD_cons_zero, List.getD_cons_succ, Gs.av, h1, h2, hne, Bool.or_true, Bool.or_false])
      refine Ret.auto 0 ?_ rfl ?_ <;> simp only [go_sem, reduceCtorEq, reduceIte, Nat.reduceEqDiff, Nat.reduceLT, Nat.reduceLeDiff, Int.natCast_succ, Post, gOr, Option.isSome]
    · rw [if_neg (fun h => h.elim h1 h2)] at hg ho
      subst hg ho
      (repeat' first | with_reducible (first | intro _ | refine rc ?_ | refine rl ?_ | refine rh ?_ | refine ru ?_ | refine rt ?_ | refine rf ?_ | refine rs ?_ | refine And.intro ?_ ?_) | omega | simp (maxSteps := 1000000) only [go_sem, simprocAttr, ↓reduceIte, gsR, List.map_cons, List.length_cons, List.length_map])
      refine VcDraw.lex [] [] (by kernel_rfl) (by kernel_rfl) ?_
      (repeat' first | with_reducible (first | intro _ | refine rc ?_ | refine rl ?_ | refine rh ?_ | refine ru ?_ | refine rt ?_ | refine rf ?_ | refine rs ?_ | refine And.intro ?_ ?_) | omega | simp (maxSteps := 1000000) only [go_sem, simprocAttr, ↓reduceIte, gsR, elemA, List.map_cons, List.length_cons, List.length_map, List.getD_cons_zero, List.getD_cons_succ, Gs.av, h1, h2, hne, Bool.or_true, Bool.or_false])
      refine Ret.auto 0 ?_ rfl ?_ <;> simp only [go_sem, reduceCtorEq, reduceIte, Nat.reduceEqDiff, Nat.reduceLT, Nat.reduceLeDiff, Int.natCast_succ, Post, gOr, Gs.zero, Option.isSome]
end Go.Fv.Y

/- Best, of the program and of the reference: the methods. -/
namespace Go.Fv.Y
open Go Go.Proofs
set_option linter.unusedSimpArgs false
set_option linter.unusedVariables false
set_option linter.unnecessarySimpa false
set_option maxRecDepth 8000

structure BO where
  t : Bytes
  d : Int
  e : Int
def bestOut (O : List Gs) (E : Int) : BO := if E = 0 then (match bestG O with | none => ⟨[], 0, 10⟩ | some g => ⟨g.t, g.d, 0⟩) else ⟨[], 0, E⟩
theorem near_bd {D : List Wd} (hg : GoodD D) {l : List Mx} {w : Bytes} {most : Int} : gsBd (nearOut D l w most) := fun x hx => by
  unfold nearOut at hx
  split at hx
  · rename_i h0
    obtain ⟨_, h2, h3⟩ := nearErr_zero h0
    obtain ⟨g1, _, _⟩ := mix_good h3
    unfold nearL at hx
    exact gs_ok hg g1 (by omega) (fun x hx => hx) x ((sortG_perm _).mem_iff.1 hx)
  · cases hx
set_option maxHeartbeats 4000000 in
theorem bestW_ok (D : List Wd) (hg : GoodD D) (hl : D.length < 40) (l : List Mx) (w : Bytes) (most : Int) (b : BO) (hb : bestOut (nearOut D l w most) (nearErr l w most) = b) :
    FnOk Tryz.prog 17 [.cell [.mp (dKs D) (dVs D), .ro (.strs (wsD D))], .str w, .ro (mxs l), .int .i64 most] (.tup [.str b.t, .int .i64 b.d, .int .i64 b.e]) [] := by
  have kN := nearW_ok D hg hl l w most _ rfl _ rfl
  have kB := best_ok (nearOut D l w most) (near_bd hg) _ rfl _ rfl
  generalize nearErr l w most = E at *
  generalize nearOut D l w most = O at *
  unfold bestOut at hb
  refine FnOk.of_vc Tryz.func17 rfl (by decide) (by simp [Tryz.f17]) [.tmp 8, .tmp 9, .tmp 10] rfl fun w0 T0 _ => ?_
  simp only [Tryz.f17, argEnv]
  (repeat' first | with_reducible (first | intro _ | refine rc ?_ | refine rl ?_ | refine rh ?_ | refine ru ?_ | refine rt ?_ | refine rf ?_ | refine rs ?_ | refine And.intro ?_ ?_) | omega | simp (maxSteps := 1000000) only [go_sem, simprocAttr, ↓reduceIte])
  refine VcCall.ro (.tup [.ro (gsR O), .int .i64 E]) (FnFr.of_ok kN rfl (by simp [noRoRows, noRoItem, noRoRow, noRoL, noRo, gsR, Gs.av])) (by simp only [noIdR_ok, argOkL, argOk, allOk, argOkN, List.drop_zero, lk, reduceIte, reduceCtorEq, Nat.reduceEqDiff, Option.some.injEq, Item.row.injEq, Item.box.injEq, AV.ro.injEq, exists_eq_left, exists_and_left, exists_eq_left', exists_eq_right, and_assoc, and_true, true_and, List.cons.injEq, exists_eq', exists_eq]) (by simp [outOk, argOkL, allOk, argOk, argOkN, lk, noIdR_ok, gsR]) rfl ?_
  by_cases h0 : E = 0
  · subst h0
    rw [if_pos rfl] at hb
    cases hG : bestG O with
    | none =>
      rw [hG] at hb kB
      subst hb
      (repeat' first | with_reducible (first | intro _ | refine rc ?_ | refine rl ?_ | refine rh ?_ | refine ru ?_ | refine rt ?_ | refine rf ?_ | refine rs ?_ | refine And.intro ?_ ?_) | omega | simp (maxSteps := 1000000) only [go_sem, simprocAttr, ↓reduceIte])
      refine VcCall.k (kB) ?_
      (repeat' first | with_reducible (first | intro _ | refine rc ?_ | refine rl ?_ | refine rh ?_ | refine ru ?_ | refine rt ?_ | refine rf ?_ | refine rs ?_ | refine And.intro ?_ ?_) | omega | simp (maxSteps := 1000000) only [go_sem, simprocAttr, ↓reduceIte, gOr, Gs.zero, Option.isSome])
      refine Ret.auto 0 ?_ rfl ?_ <;> simp only [go_sem, reduceCtorEq, reduceIte, Nat.reduceEqDiff, Nat.reduceLT, Nat.reduceLeDiff, Int.natCast_succ, Post]
    | some g =>
      rw [hG] at hb kB
      subst hb
      (repeat' first | with_reducible (first | intro _ | refine rc ?_ | refine rl ?_ | refine rh ?_ | refine ru ?_ | refine rt ?_ | refine rf ?_ | refine rs ?_ | refine And.intro ?_ ?_) | omega | simp (maxSteps := 1000000) only [go_sem, simprocAttr, ↓reduceIte])
      refine VcCall.k (kB) ?_
      (repeat' first | with_reducible (first | intro _ | refine rc ?_ | refine rl ?_ | refine rh ?_ | refine ru ?_ | refine rt ?_ | refine rf ?_ | refine rs ?_ | refine And.intro ?_ ?_) | omega | simp (maxSteps := 1000000) only [go_sem, simprocAttr, ↓reduceIte, gOr, Option.isSome])
      refine VcDraw.lex [] [] (by kernel_rfl) (by kernel_rfl) ?_
      (repeat' first | with_reducible (first | intro _ | refine rc ?_ | refine rl ?_ | refine rh ?_ | refine ru ?_ | refine rt ?_ | refine rf ?_ | refine rs ?_ | refine And.intro ?_ ?_) | omega | simp (maxSteps := 1000000) only [go_sem, simprocAttr, ↓reduceIte])
      refine Ret.auto 0 ?_ rfl ?_ <;> simp only [go_sem, reduceCtorEq, reduceIte, Nat.reduceEqDiff, Nat.reduceLT, Nat.reduceLeDiff, Int.natCast_succ, Post]
  · rw [if_neg h0] at hb
    subst hb
    (repeat' first | with_reducible (first | intro _ | refine rc ?_ | refine rl ?_ | refine rh ?_ | refine ru ?_ | refine rt ?_ | refine rf ?_ | refine rs ?_ | refine And.intro ?_ ?_) | omega | simp (maxSteps := 1000000) only [go_sem, simprocAttr, ↓reduceIte, h0])
    refine Ret.auto 0 ?_ rfl ?_ <;> simp only [go_sem, reduceCtorEq, reduceIte, Nat.reduceEqDiff, Nat.reduceLT, Nat.reduceLeDiff, Int.natCast_succ, Post]
end Go.Fv.Y
