/-
  A part of the proof of the claim: walks over the program's functions and the plain laws that these need. No condition of its own.
-/
import Derived.Test.YtmdaiceacfgkpaaGreatDoorYCorrectsCardPart2
import Derived.Test.YtmdaiceacfgkpaaGreatDoorYCorrectsCardPart6
namespace Go.Fv.Y
open Go Go.Proofs
set_option linter.unusedSimpArgs false
set_option linter.unusedVariables false
set_option linter.unnecessarySimpa false
set_option maxRecDepth 8000

def kgRs (kg : KG) : List RowV := kg.map fun p => sws p.2
def kgI (kg : KG) : List Item := (kgRs kg).map (Item.row 134)
theorem kgRs_len (kg : KG) : (kgRs kg).length = kg.length := by simp [kgRs]

theorem put_out {b n : Nat} {L : List Item} (h : L.length = n) {q : Nat} (hq : n + b ≤ q) (x : Item) : put (famI b L) q x = famI b L := by
  have : ∀ (L : List Item) (b : Nat), L.length + b ≤ q → put (famI b L) q x = famI b L := by
    intro L
    induction L with
    | nil => intro b _; rfl
    | cons y L ih =>
      intro b hb
      simp only [List.length_cons] at hb
      simp only [famI, put]
      rw [if_neg (by omega), ih (b + 1) (by omega)]
  exact this L b (by omega)
theorem kgI_len (kg : KG) : (kgI kg).length = kg.length := by simp [kgI, kgRs]
theorem kgI_noid (kg : KG) : ∀ r, r ∈ kgRs kg → noIdR r = true := by
  intro r hr
  obtain ⟨p, _, rfl⟩ := List.mem_map.1 hr
  exact noIdR_ok _
theorem kgI_get (kg : KG) {j : Nat} (h : j < (kgRs kg).length) : (kgI kg)[j]? = some (.row 134 (kgRs kg)[j]) := by simp [kgI, h]
theorem below_famN (b n N : Nat) (h : n + b ≤ N) : belowL N (famN b n) = true := by
  have : ∀ (f : Nat → AV) (l : List Nat), (∀ i, i ∈ l → Fv.below N (f i) = true) → belowL N (l.map f) = true := by
    intro f l
    induction l with
    | nil => intro _; rfl
    | cons x l ih => intro hf; simp only [List.map_cons, belowL, hf x (.head _), Bool.true_and]; exact ih fun i hi => hf i (.tail _ hi)
  refine this _ _ fun i hi => ?_
  have := List.mem_range.1 hi
  simp [Fv.below]; omega
theorem ren_famN (p : Nat → Nat) (b n : Nat) : renL p (famN b n) = (List.range n).map fun i => .own (p (i + b)) := by
  unfold famN
  have : ∀ l : List Nat, renL p (l.map fun i => .own (i + b)) = l.map fun i => .own (p (i + b)) := by
    intro l
    induction l with
    | nil => rfl
    | cons x l ih => simp only [List.map_cons, renL, ren, ih]
  exact this _
theorem ren_famN_low {p : Nat → Nat} {b n : Nat} (h : ∀ i, i < n → p (i + b) = i + b) : renL p (famN b n) = famN b n := by
  rw [ren_famN]
  exact List.map_congr_left fun i hi => by rw [h i (List.mem_range.1 hi)]
theorem kgKs_ren (p : Nat → Nat) (kg : KG) : renL p (kgKs kg) = kgKs kg := renL_kmap p (fun _ => rfl) _
theorem kgKs_below (n : Nat) (kg : KG) : belowL n (kgKs kg) = true := belowL_kmap n (fun _ => rfl) _

theorem ren_famN_set {b n t K : Nat} (h : t < n) : renL (p1 (t + b) K) (famN b n) = (famN b n).set t (.own K) := by
  rw [ren_famN]
  refine List.ext_getElem (by simp [famN]) fun i h1 h2 => ?_
  simp only [List.getElem_map, List.getElem_range, List.getElem_set]
  split
  · rename_i e; subst e; rw [p1_at]
  · rename_i e
    rw [p1_ne (by omega)]; simp [famN]
theorem ren_famN_snoc {b n K : Nat} : renL (p1 (n + b) K) (famN b (n + 1)) = famN b n ++ [.own K] := by
  rw [ren_famN, List.range_succ, List.map_append]
  simp only [List.map_cons, List.map_nil, p1_at]
  congr 1
  exact List.map_congr_left fun i hi => by rw [p1_ne (by have := List.mem_range.1 hi; omega)]

set_option maxHeartbeats 8000000 in
theorem swaps_ok (l : List Mx) (hp : ∀ m, m ∈ l → m.f ≠ [] ∧ m.t ≠ []) (hl : l.length ≤ 1000) : FnOk Tryz.prog 51 [.ro (mxs l)] (.mp (kgKs (grp [] (swL l))) (kgVs (grp [] (swL l)))) [] := by
  refine FnOk.of_vc Tryz.func51 rfl (by decide) (by simp [Tryz.f51]) [.tmp 2] rfl fun w0 T0 _ => ?_
  simp only [Tryz.f51, argEnv]
  (repeat' first | with_reducible (first | intro _ | refine rc ?_ | refine rl ?_ | refine rh ?_ | refine rt ?_ | refine rf ?_ | refine rs ?_ | refine And.intro ?_ ?_) | omega | simp (maxSteps := 1000000) only [go_sem, simprocAttr, ↓reduceIte, List.length_map, mxs])
  refine VcLoop.intro (fun i : Nat => ⟨50, [(11, .int .i64 i), (10, .int .i64 l.length), (9, .ro (mxs l)), (3, .own 0)], (0, .map (kgKs (grp [] (swL (l.take i)))) (famN 100 (grp [] (swL (l.take i))).length)) :: famI 100 (kgI (grp [] (swL (l.take i)))), (grp [] (swL (l.take i))).length + 100⟩) (fun i => i ≤ l.length) (fun i => l.length - i) 0 ?_ (Nat.zero_le _) fun i hi => ?_
  · refine Ent.famR1 id (by simp [kgRs_len]) rfl (Nat.zero_le _) (fun i hi => rfl) (by decide) ?_ ?_ (kgI_noid _) ?_ (fun i j _ _ e => e)
    · simp only [go_sem, reduceCtorEq, reduceIte, Nat.reduceEqDiff, Nat.reduceLT, Nat.reduceLeDiff, Int.natCast_succ, id]
      simp [mxs]
    · simp [subP, lk, Item.ren, Item.below, kgKs, kgK, grp, swL, famN, renL, belowL]
    · intro j hj; simp [kgRs, swL, grp] at hj
  have hgk := grp_is (swL (l.take i))
  have hsl := swL_len (l.take i)
  by_cases hlt : i < l.length
  · have he := mx_elem l hlt
    have hst := swL_take l hlt Mx.zero
    have hpm := hp (l.getD i Mx.zero) (by rw [getD_lt hlt]; exact List.getElem_mem _)
    generalize l.getD i Mx.zero = m at *
    generalize swL (l.take i) = q at *
    have hp0 := fun x => put_out (kgI_len (grp [] q)) (Nat.le_refl ((grp [] q).length + 100)) x
    have hp1 := fun x => put_out (kgI_len (grp [] q)) (Nat.le_add_right ((grp [] q).length + 100) 1) x
    (repeat' first | with_reducible (first | intro _ | refine rc ?_ | refine rl ?_ | refine rh ?_ | refine rt ?_ | refine rf ?_ | refine rs ?_ | refine And.intro ?_ ?_) | omega | simp (maxSteps := 1000000) only [go_sem, simprocAttr, ↓reduceIte, elemA, he, List.length_map, mxs, hp0, hp1])
    refine VcLoop.intro (fun j : Nat => ⟨50, [(31, .int .i64 j), (30, .int .i64 2), (29, .own 1), (11, .int .i64 i), (10, .int .i64 l.length), (9, .ro (mxs l)), (3, .own 0)], (0, .map (kgKs (grp [] (q ++ [⟨m.f, m.t, m.c⟩, ⟨m.t, m.f, m.c⟩].take j))) (famN 100 (grp [] (q ++ [⟨m.f, m.t, m.c⟩, ⟨m.t, m.f, m.c⟩].take j)).length)) :: (1, .row 134 (.objs 3 [[.str m.f, .str m.t, .int .i64 m.c], [.str m.t, .str m.f, .int .i64 m.c]])) :: famI 100 (kgI (grp [] (q ++ [⟨m.f, m.t, m.c⟩, ⟨m.t, m.f, m.c⟩].take j))), (grp [] (q ++ [⟨m.f, m.t, m.c⟩, ⟨m.t, m.f, m.c⟩].take j)).length + 100⟩) (fun j => j ≤ 2) (fun j => 2 - j) 0 ?_ (Nat.zero_le _) fun j hj => ?_
    · rw [List.take_zero, List.append_nil]
      generalize grp [] q = kg at *
      refine Ent.famR2 (p1 1 (kg.length + 100 + 1)) (by simp [kgRs_len]) rfl (Nat.zero_le _) (fun i hi => by omega) (by decide) ?_ ?_ (kgI_noid _) ?_ ?_
      · simp only [go_sem, reduceCtorEq, reduceIte, Nat.reduceEqDiff, Nat.reduceLT, Nat.reduceLeDiff, Int.natCast_succ, mxs, p1]
        first | exact ⟨rfl, by omega, by omega⟩ | exact ⟨by omega, by omega⟩ | omega
      · simp only [go_sem, reduceCtorEq, reduceIte, Nat.reduceEqDiff, Nat.reduceLT, Nat.reduceLeDiff, Int.natCast_succ, subP, kgKs_ren, kgKs_below, p1_at, p1_ne (show (0 : Nat) ≠ 1 by decide)]
        rw [ren_famN_low (fun i hi => p1_ne (by omega)), below_famN _ _ _ (Nat.le_refl _)]
        exact ⟨rfl, rfl⟩
      · intro j hj
        rw [p1_ne (by omega)]
        rw [kgRs_len] at hj
        repeat rw [lk_ne (by omega)]
        exact lk_fam (kgI_get kg (by rw [kgRs_len]; exact hj))
      · exact p1_inj (by omega)
    have hg0 := grp_all ([⟨m.f, m.t, m.c⟩, ⟨m.t, m.f, m.c⟩].take j) _ _ hgk
    have hjj : j < 2 → ∃ s : Sw, [⟨m.f, m.t, m.c⟩, ⟨m.t, m.f, m.c⟩].take (j + 1) = [⟨m.f, m.t, m.c⟩, ⟨m.t, m.f, m.c⟩].take j ++ [s] ∧ s.o ≠ [] ∧ [[AV.str m.f, .str m.t, .int .i64 m.c], [.str m.t, .str m.f, .int .i64 m.c]].getD j [] = [.str s.o, .str s.n, .int .i64 s.c] := by
      intro h
      rcases (by omega : j = 0 ∨ j = 1) with rfl | rfl
      · exact ⟨⟨m.f, m.t, m.c⟩, rfl, hpm.1, rfl⟩
      · exact ⟨⟨m.t, m.f, m.c⟩, rfl, hpm.2, rfl⟩
    by_cases hj2 : j < 2
    · obtain ⟨s, hts, hso, hel⟩ := hjj hj2
      have hlen : (q ++ ([⟨m.f, m.t, m.c⟩, ⟨m.t, m.f, m.c⟩] : List Sw).take j).length ≤ 3000 := by simp; simp at hsl; omega
      have hgj := grp_is (q ++ ([⟨m.f, m.t, m.c⟩, ⟨m.t, m.f, m.c⟩] : List Sw).take j)
      have hsn : grp [] (q ++ ([⟨m.f, m.t, m.c⟩, ⟨m.t, m.f, m.c⟩] : List Sw).take (j + 1)) = kgIns (grp [] (q ++ ([⟨m.f, m.t, m.c⟩, ⟨m.t, m.f, m.c⟩] : List Sw).take j)) s := by rw [hts, ← List.append_assoc, grp_snoc]
      clear hp0 hp1 hgk hg0 hjj hst
      generalize q ++ ([⟨m.f, m.t, m.c⟩, ⟨m.t, m.f, m.c⟩] : List Sw).take j = qj at *
      generalize grp [] qj = kg at *
      have hp0 := fun x => put_out (kgI_len kg) (Nat.le_refl (kg.length + 100)) x
      have hgO := getV_own kg 100 (s.o.getD 0 0)
      have hks : KeysT Tryz.prog 5 (kgKs kg) := KeysT_map (fun c => .int Tryz.underlying5 _) _
      have hso2 : 0 < s.o.length := by cases ho : s.o with
        | nil => exact absurd ho hso
        | cons => simp
      have hkB : AV.int .u8 ((s.o.getD 0 0).toNat : Int) = kB (s.o.getD 0 0) := rfl
      cases hx : ixOf (kgK kg) (s.o.getD 0 0) with
      | some t =>
        rw [hx] at hgO
        have htl := ixOf_lt hx
        rw [kgK_len] at htl
        have hO : getO (kgKs kg) (famN 100 kg.length) (.int .u8 ((s.o.getD 0 0).toNat : Int)) .nilS = .own (t + 100) := getO_some hgO
        have hlk : lk (famI 100 (kgI kg)) (t + 100) = some (.row 134 (.objs 3 ((kgRs kg)[t]'(by rw [kgRs_len]; exact htl) |> fun _ => (kg[t].2.map Sw.av)))) := by
          rw [lk_fam (kgI_get kg (by rw [kgRs_len]; exact htl))]
          simp [kgRs, sws]
        have hne : (kg.length = t) = False := eq_false (by omega)
        have hne1 : (kg.length + 1 = t) = False := eq_false (by omega)
        have hne2 : (kg.length + 2 = t) = False := eq_false (by omega)
        obtain ⟨_, hund⟩ := hgj.some _ _ hx
        have hul := under_len qj (s.o.getD 0 0)
        rw [← hund] at hul
        have hki : keyIdx (kgKs kg) (.int .u8 ((s.o.getD 0 0).toNat : Int)) = some t := (keyIdx_map eqKeyB _ _).trans hx
        have hK : updKs (kgKs kg) (.int .u8 ((s.o.getD 0 0).toNat : Int)) = kgKs kg := by unfold updKs; rw [hki]
        have hV : ∀ v, updVs (kgKs kg) (famN 100 kg.length) (.int .u8 ((s.o.getD 0 0).toNat : Int)) v = (famN 100 kg.length).set t v := fun v => by unfold updVs; rw [hki]
        have hins : kgIns kg s = kg.set t (s.o.getD 0 0, (kg.getD t (0, [])).2 ++ [s]) := by unfold kgIns; rw [hx]
        (repeat' first | with_reducible (first | intro _ | refine rc ?_ | refine rl ?_ | refine rh ?_ | refine rt ?_ | refine rf ?_ | refine rs ?_ | refine And.intro ?_ ?_) | omega | simp (maxSteps := 1000000) only [go_sem, simprocAttr, ↓reduceIte, elemA, hel, hp0])
        refine VcDraw.lex [10, 11, 12] [(0, [1, 2]), (1, [1, 2]), (2, [1, 2]), (3, [1, 2]), (4, [1]), (5, [1]), (6, [1]), (7, [1]), (8, [1])] (by kernel_rfl) (by kernel_rfl) ?_
        (repeat' first | with_reducible (first | intro _ | refine rc ?_ | refine rl ?_ | refine rh ?_ | refine rt ?_ | refine rf ?_ | refine rs ?_ | refine And.intro ?_ ?_) | omega | simp (maxSteps := 1000000) only [go_sem, simprocAttr, ↓reduceIte, hO, hlk, hne, hne1, hp0, hK, hV, eq_true hks, Nat.add_eq_left, Nat.left_eq_add, List.length_map])
        refine ⟨j + 1, ?_, by omega, by omega⟩
        rw [hsn, hins]
        have h0 : p1 (t + 100) (kg.length + 100 + 1 + 1) 0 = 0 := p1_ne (by omega)
        have h1 : p1 (t + 100) (kg.length + 100 + 1 + 1) 1 = 1 := p1_ne (by omega)
        have hkk : kgKs (kg.set t (s.o.getD 0 0, (kg.getD t (0, [])).2 ++ [s])) = kgKs kg := congrArg (List.map kB) (kgK_set kg t _ _ (ixOf_some hx))
        refine Ent.famR2 (p1 (t + 100) (kg.length + 100 + 1 + 1)) (by simp [kgRs_len]) rfl (Nat.zero_le _) (fun i hi => by omega) (by decide) ?_ ?_ (kgI_noid _) ?_ ?_
        · simp only [go_sem, reduceCtorEq, reduceIte, Nat.reduceEqDiff, Nat.reduceLT, Nat.reduceLeDiff, Int.natCast_succ, h0, h1, List.length_set]
          exact ⟨by omega, by omega⟩
        · simp only [go_sem, reduceCtorEq, reduceIte, Nat.reduceEqDiff, Nat.reduceLT, Nat.reduceLeDiff, Int.natCast_succ, subP, kgKs_ren, kgKs_below, h0, h1, hkk, List.length_set]
          rw [ren_famN_set htl, below_famN _ _ _ (Nat.le_refl _)]
          exact ⟨rfl, rfl⟩
        · intro i hi
          rw [kgRs_len, List.length_set] at hi
          by_cases e : i = t
          · subst e
            rw [p1_at, lk_eq]
            have hgd : kg.getD i (0, []) = kg[i] := getD_lt htl
            simp only [kgRs, List.map_set, List.getElem_set_self, hgd]
            simp [sws, Sw.av]
          · rw [p1_ne (by omega)]
            repeat rw [lk_ne (by omega)]
            rw [lk_put, if_neg (by omega), lk_del, if_neg (by omega), lk_fam (kgI_get kg (by rw [kgRs_len]; exact hi))]
            simp [kgRs, List.getElem_set, if_neg (show ¬ t = i from fun h => e h.symm)]
        · refine p1_inj ?_
          simp
      | none =>
        rw [hx] at hgO
        have hO : getO (kgKs kg) (famN 100 kg.length) (.int .u8 ((s.o.getD 0 0).toNat : Int)) .nilS = .nilS := getO_none hgO
        have hki : keyIdx (kgKs kg) (.int .u8 ((s.o.getD 0 0).toNat : Int)) = none := (keyIdx_map eqKeyB _ _).trans hx
        have hK : updKs (kgKs kg) (.int .u8 ((s.o.getD 0 0).toNat : Int)) = kgKs kg ++ [.int .u8 ((s.o.getD 0 0).toNat : Int)] := by unfold updKs; rw [hki]
        have hV : ∀ v, updVs (kgKs kg) (famN 100 kg.length) (.int .u8 ((s.o.getD 0 0).toNat : Int)) v = famN 100 kg.length ++ [v] := fun v => by unfold updVs; rw [hki]
        have hins : kgIns kg s = kg ++ [(s.o.getD 0 0, [s])] := by unfold kgIns; rw [hx]
        (repeat' first | with_reducible (first | intro _ | refine rc ?_ | refine rl ?_ | refine rh ?_ | refine rt ?_ | refine rf ?_ | refine rs ?_ | refine And.intro ?_ ?_) | omega | simp (maxSteps := 1000000) only [go_sem, simprocAttr, ↓reduceIte, elemA, hel, hp0])
        refine VcDraw.lex [10, 11, 12] [(0, [1, 2]), (1, [1, 2]), (2, [1, 2]), (3, [1, 2]), (4, [1]), (5, [1]), (6, [1]), (7, [1]), (8, [1])] (by kernel_rfl) (by kernel_rfl) ?_
        (repeat' first | with_reducible (first | intro _ | refine rc ?_ | refine rl ?_ | refine rh ?_ | refine rt ?_ | refine rf ?_ | refine rs ?_ | refine And.intro ?_ ?_) | omega | simp (maxSteps := 1000000) only [go_sem, simprocAttr, ↓reduceIte, hO, hp0, hK, hV, eq_true hks, Nat.add_eq_left, Nat.left_eq_add, List.length_map])
        refine ⟨j + 1, ?_, by omega, by omega⟩
        rw [hsn, hins]
        have h0 : p1 (kg.length + 100) (kg.length + 100 + 1 + 1 + 1) 0 = 0 := p1_ne (by omega)
        have h1 : p1 (kg.length + 100) (kg.length + 100 + 1 + 1 + 1) 1 = 1 := p1_ne (by omega)
        have hll : (kg ++ [(s.o.getD 0 0, [s])]).length = kg.length + 1 := by simp
        have hkk : kgKs (kg ++ [(s.o.getD 0 0, [s])]) = kgKs kg ++ [.int .u8 ((s.o.getD 0 0).toNat : Int)] := by simp [kgKs, kgK, kB]
        refine Ent.famR2 (p1 (kg.length + 100) (kg.length + 100 + 1 + 1 + 1)) (by simp [kgRs_len]) rfl (Nat.zero_le _) (fun i hi => by omega) (by decide) ?_ ?_ (kgI_noid _) ?_ ?_
        · simp only [go_sem, reduceCtorEq, reduceIte, Nat.reduceEqDiff, Nat.reduceLT, Nat.reduceLeDiff, Int.natCast_succ, h0, h1, hll]
          exact ⟨by omega, by omega⟩
        · simp only [go_sem, reduceCtorEq, reduceIte, Nat.reduceEqDiff, Nat.reduceLT, Nat.reduceLeDiff, Int.natCast_succ, subP, h0, h1, hll]
          rw [kgKs_ren, kgKs_below, ren_famN_snoc, below_famN _ _ _ (Nat.le_refl _), hkk]
          exact ⟨rfl, rfl, rfl⟩
        · intro i hi
          rw [kgRs_len, hll] at hi
          by_cases e : i = kg.length
          · subst e
            rw [p1_at, lk_eq]
            simp [kgRs, sws, Sw.av]
          · rw [p1_ne (by omega)]
            repeat rw [lk_ne (by omega)]
            rw [lk_put, if_neg (by omega), lk_del, if_neg (by omega), lk_fam (kgI_get kg (by rw [kgRs_len]; omega))]
            have hlt2 : i < kg.length := by omega
            simp only [kgRs, List.map_append, List.map_cons, List.map_nil]
            rw [List.getElem_append_left (by simp; omega)]
        · refine p1_inj ?_
          simp
    · have ej : j = 2 := by omega
      subst ej
      have et : [(⟨m.f, m.t, m.c⟩ : Sw), ⟨m.t, m.f, m.c⟩].take 2 = [⟨m.f, m.t, m.c⟩, ⟨m.t, m.f, m.c⟩] := rfl
      rw [et, ← hst]
      (repeat' first | with_reducible (first | intro _ | refine rc ?_ | refine rl ?_ | refine rh ?_ | refine rt ?_ | refine rf ?_ | refine rs ?_ | refine And.intro ?_ ?_) | omega | simp (maxSteps := 1000000) only [go_sem, simprocAttr, ↓reduceIte])
      refine ⟨i + 1, ?_, by omega, by omega⟩
      refine Ent.famR1 id (by simp [kgRs_len]) rfl (Nat.zero_le _) (fun i hi => rfl) (by decide) ?_ ?_ (kgI_noid _) ?_ (fun i j _ _ e => e)
      · simp only [go_sem, reduceCtorEq, reduceIte, Nat.reduceEqDiff, Nat.reduceLT, Nat.reduceLeDiff, Int.natCast_succ, mxs, id]
        omega
      · simp only [go_sem, reduceCtorEq, reduceIte, Nat.reduceEqDiff, Nat.reduceLT, Nat.reduceLeDiff, Int.natCast_succ, subP, kgKs_ren, kgKs_below, id]
        rw [ren_famN_low (fun i hi => rfl), below_famN _ _ _ (Nat.le_refl _)]
        exact ⟨rfl, rfl⟩
      · intro j hj
        simp only [id, lk]
        repeat rw [if_neg (by omega)]
        exact lk_fam (kgI_get _ hj)
  · have e : i = l.length := by omega
    subst e
    rw [List.take_length] at *
    generalize grp [] (swL l) = kg at *
    (repeat' first | with_reducible (first | intro _ | refine rc ?_ | refine rl ?_ | refine rh ?_ | refine rt ?_ | refine rf ?_ | refine rs ?_ | refine And.intro ?_ ?_) | omega | simp (maxSteps := 1000000) only [go_sem, simprocAttr, ↓reduceIte, List.length_map, mxs])
    refine Ret.ro ?_
    simp only [go_sem, reduceCtorEq, reduceIte, Nat.reduceEqDiff, Nat.reduceLT, Nat.reduceLeDiff, Int.natCast_succ, outOk, argOk]
    refine argOkN_map lk_eq ?_ ?_
    · exact allOk_get rfl fun j h1 h2 => by simp [kgKs, kB, argOkN]
    · refine allOk_get (by simp [famN, kgVs]) fun j h1 h2 => ?_
      have hjl : j < kg.length := by simpa [famN] using h1
      have e1 : (famN 100 kg.length)[j] = .own (j + 100) := by simp [famN]
      have e2 : (kgVs kg)[j] = .ro (sws kg[j].2) := by simp [kgVs]
      rw [e1, e2]
      refine argOkN_row (e := 134) ?_ (noIdR_ok _)
      rw [lk_ne (by omega), lk_fam (kgI_get kg (by rw [kgRs_len]; exact hjl))]
      simp [kgRs]
end Go.Fv.Y

namespace Go.Fv.Y
open Go Go.Proofs
set_option linter.unusedSimpArgs false
set_option linter.unusedVariables false
set_option linter.unnecessarySimpa false
set_option maxRecDepth 8000

def wordsErr (l : List Mx) (ws : List (List UInt8)) : Int := if ws.any (fun s => decide (200 < s.length)) then 4 else mixErr l
theorem checkWords_ok (l : List Mx) (ws : List (List UInt8)) (hw : ws.length ≤ 2) : FnOk Tryz.prog 49 [.ro (mxs l), .ro (.strs ws)] (.int .i64 (wordsErr l ws)) [] := by
  have k := checkMixes_ok l
  have hany : ∀ i, (∀ j, j < i → ¬ 200 < (ws.getD j []).length) → i < ws.length → 200 < (ws.getD i []).length → wordsErr l ws = 4 := by
    intro i _ hi h
    unfold wordsErr
    rw [if_pos]
    rw [List.any_eq_true]
    exact ⟨ws.getD i [], by rw [getD_lt hi]; exact List.getElem_mem hi, by simpa using h⟩
  have hnone : (∀ j, j < ws.length → ¬ 200 < (ws.getD j []).length) → wordsErr l ws = mixErr l := by
    intro h
    unfold wordsErr
    rw [if_neg]
    intro ha
    obtain ⟨s, hs, hl⟩ := List.any_eq_true.1 ha
    obtain ⟨j, hj, rfl⟩ := List.mem_iff_getElem.1 hs
    refine h j hj ?_
    rw [getD_lt hj]; simpa using hl
  generalize wordsErr l ws = e at *
  refine FnOk.of_vc Tryz.func49 rfl (by decide) (by simp [Tryz.f49]) [.tmp 4] rfl fun w0 T0 _ => ?_
  simp only [Tryz.f49, argEnv]
  (repeat' first | with_reducible (first | intro _ | refine rc ?_ | refine rl ?_ | refine rh ?_ | refine rt ?_ | refine rf ?_ | refine rs ?_ | refine And.intro ?_ ?_) | omega | simp (maxSteps := 1000000) only [go_sem, simprocAttr, ↓reduceIte])
  refine VcLoop.intro (fun i : Nat => ⟨19, [(9, .int .i64 i), (8, .int .i64 ws.length), (7, .ro (.strs ws)), (0, .ro (mxs l))], [], 0⟩) (fun i => i ≤ ws.length ∧ ∀ j, j < i → ¬ 200 < (ws.getD j []).length) (fun i => ws.length - i) 0 ?_ ⟨Nat.zero_le _, fun j hj => by omega⟩ fun i hi => ?_
  · refine Ent.auto0 rfl ?_ ?_ <;> simp only [go_sem, reduceCtorEq, reduceIte, Nat.reduceEqDiff, Nat.reduceLT, Nat.reduceLeDiff, Int.natCast_succ]
  by_cases hlt : i < ws.length
  · generalize hx : ws.getD i [] = x at *
    (repeat' first | with_reducible (first | intro _ | refine rc ?_ | refine rl ?_ | refine rh ?_ | refine rt ?_ | refine rf ?_ | refine rs ?_ | refine And.intro ?_ ?_) | omega | simp (maxSteps := 1000000) only [go_sem, simprocAttr, ↓reduceIte, elemA, hx])
    · rename_i h
      rw [hany i hi.2 hlt (by rw [hx]; omega)]
      refine Ret.auto 0 ?_ rfl ?_ <;> simp only [go_sem, reduceCtorEq, reduceIte, Nat.reduceEqDiff, Nat.reduceLT, Nat.reduceLeDiff, Int.natCast_succ, Post]
    · rename_i h
      refine ⟨i + 1, Ent.auto0 rfl ?_ ?_, ⟨by omega, fun j hj => ?_⟩, by omega⟩
      · simp only [go_sem, reduceCtorEq, reduceIte, Nat.reduceEqDiff, Nat.reduceLT, Nat.reduceLeDiff, Int.natCast_succ]
      · simp only [go_sem, reduceCtorEq, reduceIte, Nat.reduceEqDiff, Nat.reduceLT, Nat.reduceLeDiff, Int.natCast_succ]
      · by_cases e : j = i
        · subst e; rw [hx]; omega
        · exact hi.2 j (by omega)
  · have e : i = ws.length := by omega
    subst e
    rw [hnone hi.2]
    (repeat' first | with_reducible (first | intro _ | refine rc ?_ | refine rl ?_ | refine rh ?_ | refine rt ?_ | refine rf ?_ | refine rs ?_ | refine And.intro ?_ ?_) | omega | simp (maxSteps := 1000000) only [go_sem, simprocAttr, ↓reduceIte])
    refine VcCall.k k ?_
    (repeat' first | with_reducible (first | intro _ | refine rc ?_ | refine rl ?_ | refine rh ?_ | refine rt ?_ | refine rf ?_ | refine rs ?_ | refine And.intro ?_ ?_) | omega | simp (maxSteps := 1000000) only [go_sem, simprocAttr, ↓reduceIte])
    refine Ret.auto 0 ?_ rfl ?_ <;> simp only [go_sem, reduceCtorEq, reduceIte, Nat.reduceEqDiff, Nat.reduceLT, Nat.reduceLeDiff, Int.natCast_succ, Post]
theorem mix_good {l : List Mx} (h : mixErr l = 0) : GoodSw (swL l) ∧ (swL l).length ≤ 400 ∧ (∀ m, m ∈ l → m.f ≠ [] ∧ m.t ≠ []) := by
  obtain ⟨h1, h2⟩ := mixErr_zero h
  exact ⟨good_swL h2, by rw [swL_len]; omega, fun m hm => ⟨part_ne (h2 m hm).1, part_ne (h2 m hm).2.1⟩⟩
theorem tab_first (sw : List Sw) (a b : List UInt8) : (tab sw a b 0).getD 0 0 = dist sw a b := by
  rw [tab_get (by simp [Nat.mul_pos_iff_of_pos_left]; try omega) (Nat.le_refl _)]
  have := cellD_at sw a b (i := 0) (j := 0) (by omega)
  simpa using this

end Go.Fv.Y

namespace Go.Fv.Y
open Go Go.Proofs
set_option linter.unusedSimpArgs false
set_option linter.unusedVariables false
set_option linter.unnecessarySimpa false
set_option maxRecDepth 8000

def St.av (s : St) : List AV := [.int .i64 s.a, .int .i64 s.b, .int .i64 s.c]
def St.zero : St := ⟨0, 0, 0⟩
def sts (l : List St) : RowV := .objs 3 (l.map St.av)
instance : FNoId St.av := ⟨fun _ => rfl⟩
instance {l : List St} : RowNoId (sts l) := inferInstanceAs (RowNoId (.objs 3 (l.map St.av)))
theorem st_elem (l : List St) {i : Nat} (h : i < l.length) : (l.map St.av).getD i [] = [.int .i64 (l.getD i St.zero).a, .int .i64 (l.getD i St.zero).b, .int .i64 (l.getD i St.zero).c] := by
  rw [getD_lt (by simpa using h), getD_lt h, List.getElem_map]; rfl
theorem sts_snoc (l : List St) (a b : Nat) (c : Int) : l.map St.av ++ [[.int .i64 a, .int .i64 b, .int .i64 c]] = (l ++ [(⟨a, b, c⟩ : St)]).map St.av := by simp [St.av]
/-- What a swap gives at two places. -/
def one (x y : List UInt8) (s : Sw) : List St := if fits x y s = true then [⟨s.o.length, s.n.length, s.c⟩] else []
def two (x y : List UInt8) (m : Mx) : List St := one x y ⟨m.f, m.t, m.c⟩ ++ one x y ⟨m.t, m.f, m.c⟩
theorem swSteps_flat (x y : List UInt8) (l : List Mx) : swSteps (swL l) x y = l.flatMap (two x y) := by
  induction l with
  | nil => rfl
  | cons m l ih =>
    have e : swL (m :: l) = ⟨m.f, m.t, m.c⟩ :: ⟨m.t, m.f, m.c⟩ :: swL l := rfl
    have hc : ∀ (s : Sw) (q : List Sw), swSteps (s :: q) x y = one x y s ++ swSteps q x y := by
      intro s q
      unfold swSteps one
      by_cases h : fits x y s = true
      · have h' : (s.o.isPrefixOf x && s.n.isPrefixOf y) = true := h
        simp only [List.filter_cons, h', h, if_true]; rfl
      · have h' : ¬ (s.o.isPrefixOf x && s.n.isPrefixOf y) = true := h
        simp only [List.filter_cons, if_neg h', if_neg h]; rfl
    rw [e, hc, hc, ih, List.flatMap_cons, ← List.append_assoc]; rfl
theorem two_len (x y : List UInt8) (m : Mx) : (two x y m).length ≤ 2 := by
  unfold two one
  split <;> split <;> simp
theorem flat_len (x y : List UInt8) : ∀ l : List Mx, (l.flatMap (two x y)).length ≤ 2 * l.length
  | [] => by simp
  | m :: l => by
    rw [List.flatMap_cons, List.length_append]
    have h1 := two_len x y m
    have h2 := flat_len x y l
    rw [List.length_cons]; omega

set_option maxHeartbeats 16000000 in
theorem steps_ok (l : List Mx) (hl : l.length ≤ 1000) (a b : List UInt8) (i j : Nat) (hi : i ≤ a.length) (hj : j ≤ b.length) :
    FnOk Tryz.prog 93 [.str a, .str b, .int .i64 i, .int .i64 j, .ro (mxs l)] (.own 0) [(0, .row 140 (sts (steps (swL l) (a.drop i) (b.drop j))))] := by
  have hxne : a.drop i ≠ [] ↔ i < a.length := by simp
  have hyne : b.drop j ≠ [] ↔ j < b.length := by simp
  have hhd : ∀ l : List UInt8, l.headD 0 = l.getD 0 0 := fun l => by cases l <;> rfl
  have hgx : (a.drop i).headD 0 = a.getD i 0 := by rw [hhd]; simp [List.getD]
  have hgy : (b.drop j).headD 0 = b.getD j 0 := by rw [hhd]; simp [List.getD]
  have hst : steps (swL l) (a.drop i) (b.drop j) = (if i < a.length ∧ j < b.length ∧ a.getD i 0 = b.getD j 0 then [(⟨1, 1, 0⟩ : St)] else []) ++ l.flatMap (two (a.drop i) (b.drop j)) ++ (if i < a.length ∧ j < b.length then [⟨1, 1, 100⟩] else []) ++ (if i < a.length then [⟨1, 0, 100⟩] else []) ++ (if j < b.length then [⟨0, 1, 100⟩] else []) := by
    unfold steps
    rw [swSteps_flat]
    simp only [hxne, hyne, hgx, hgy]
  have hsa : List.take (a.length - i) (a.drop i) = a.drop i := List.take_of_length_le (by simp)
  have hsb : List.take (b.length - j) (b.drop j) = b.drop j := List.take_of_length_le (by simp)
  rw [hst]
  refine FnOk.of_vc Tryz.func93 rfl (by decide) (by simp [Tryz.f93]) [.tmp 10] rfl fun w0 T0 _ => ?_
  simp only [Tryz.f93, argEnv]
  (repeat' first | with_reducible (first | intro _ | refine rc ?_ | refine rl ?_ | refine rh ?_ | refine rt ?_ | refine rf ?_ | refine rs ?_ | refine And.intro ?_ ?_) | omega | simp (maxSteps := 1000000) only [go_sem, simprocAttr, ↓reduceIte])
  refine VcDraw.lex [] [] (by kernel_rfl) (by kernel_rfl) ?_
  generalize hE : (if i < a.length ∧ j < b.length ∧ a.getD i 0 = b.getD j 0 then [(⟨1, 1, 0⟩ : St)] else []) = E at *
  (repeat' first | with_reducible (first | intro _ | refine rc ?_ | refine rl ?_ | refine rh ?_ | refine rt ?_ | refine rf ?_ | refine rs ?_ | refine And.intro ?_ ?_) | omega | simp (maxSteps := 1000000) only [go_sem, simprocAttr, ↓reduceIte, Int.toNat_natCast])
  case' refine_1 =>
    rename_i hc _
    rw [if_pos ⟨by omega, by omega, UInt8.toNat_inj.1 (by omega)⟩] at hE
  case' refine_2 =>
    rename_i hc _
    rw [if_neg (fun h => hc ⟨⟨by omega, by omega⟩, by rw [h.2.2]⟩)] at hE
  all_goals
    have hEl : E.length ≤ 1 := by rw [← hE]; simp
    refine VcLoop.intro (fun k : Nat => ⟨118, [(41, .int .i64 k), (40, .int .i64 l.length), (39, .ro (mxs l)), (11, .own 0), (0, .str a), (1, .str b), (2, .int .i64 i), (3, .int .i64 j)], [(0, .row 140 (sts (E ++ (l.take k).flatMap (two (a.drop i) (b.drop j)))))], 1⟩) (fun k => k ≤ l.length) (fun k => l.length - k) 0 ?_ (Nat.zero_le _) fun k hk => ?_
    · refine Ent.auto0 rfl ?_ ?_ <;> simp only [go_sem, reduceCtorEq, reduceIte, Nat.reduceEqDiff, Nat.reduceLT, Nat.reduceLeDiff, Int.natCast_succ, mxs, List.take_zero, List.flatMap_nil, sts, List.length_map, St.av, zrow, List.replicate_zero, ← hE]
      all_goals rfl
    have hfl := flat_len (a.drop i) (b.drop j) (l.take k)
    by_cases hlt : k < l.length
    · have he := mx_elem l hlt
      have htk : (l.take (k + 1)).flatMap (two (a.drop i) (b.drop j)) = (l.take k).flatMap (two (a.drop i) (b.drop j)) ++ two (a.drop i) (b.drop j) (l.getD k Mx.zero) := by
        rw [List.take_succ_eq_append_getElem hlt, List.flatMap_append, getD_lt hlt]; simp
      generalize l.getD k Mx.zero = m at *
      (repeat' first | with_reducible (first | intro _ | refine rc ?_ | refine rl ?_ | refine rh ?_ | refine rt ?_ | refine rf ?_ | refine rs ?_ | refine And.intro ?_ ?_) | omega | simp (maxSteps := 1000000) only [go_sem, simprocAttr, ↓reduceIte, elemA, he, mxs, List.length_map])
      obtain ⟨part, hp0, hp1q, hp2q⟩ : ∃ part : Nat → List St, part 0 = [] ∧ part 1 = one (a.drop i) (b.drop j) ⟨m.f, m.t, m.c⟩ ∧ part 2 = one (a.drop i) (b.drop j) ⟨m.f, m.t, m.c⟩ ++ one (a.drop i) (b.drop j) ⟨m.t, m.f, m.c⟩ := ⟨fun q => if q = 0 then [] else if q = 1 then one (a.drop i) (b.drop j) ⟨m.f, m.t, m.c⟩ else one (a.drop i) (b.drop j) ⟨m.f, m.t, m.c⟩ ++ one (a.drop i) (b.drop j) ⟨m.t, m.f, m.c⟩, rfl, rfl, rfl⟩
      have htwo : two (a.drop i) (b.drop j) m = part 2 := hp2q.symm
      have hpl : (part 1).length ≤ 2 := by rw [hp1q]; unfold one; split <;> simp
      have hpl0 : (part 0).length ≤ 2 := by rw [hp0]; simp
      have hGl : (E ++ (l.take k).flatMap (two (a.drop i) (b.drop j))).length ≤ 3000 := by simp at hfl ⊢; omega
      rw [htwo] at htk
      generalize hG : E ++ (l.take k).flatMap (two (a.drop i) (b.drop j)) = G at *
      refine VcLoop.intro (fun q : Nat => ⟨118, [(56, .int .i64 q), (55, .agg [.str m.f, .str m.t, .str m.t, .str m.f]), (13, .ptr 1 0), (41, .int .i64 k), (40, .int .i64 l.length), (39, .ro (mxs l)), (11, .own 0), (0, .str a), (1, .str b), (2, .int .i64 i), (3, .int .i64 j)], [(0, .row 140 (sts (G ++ part q))), (1, .box 54 [.str m.f, .str m.t, .int .i64 m.c])], 2⟩) (fun q => q ≤ 2) (fun q => 2 - q) 0 ?_ (Nat.zero_le _) fun q hq => ?_
      · refine Ent.auto0 rfl ?_ ?_ <;> simp only [go_sem, reduceCtorEq, reduceIte, Nat.reduceEqDiff, Nat.reduceLT, Nat.reduceLeDiff, Int.natCast_succ, mxs, hp0, List.append_nil, Int.natCast_zero]
      rcases (by omega : q = 0 ∨ q = 1 ∨ q = 2) with rfl | rfl | rfl
      · have k1 := hasPrefix_ok (a.drop i) m.f
        have k2 := hasPrefix_ok (b.drop j) m.t
        have hone : one (a.drop i) (b.drop j) ⟨m.f, m.t, m.c⟩ = if (m.f.isPrefixOf (a.drop i) && m.t.isPrefixOf (b.drop j)) = true then [⟨m.f.length, m.t.length, m.c⟩] else [] := rfl
        (repeat' first | with_reducible (first | intro _ | refine rc ?_ | refine rl ?_ | refine rh ?_ | refine rt ?_ | refine rf ?_ | refine rs ?_ | refine And.intro ?_ ?_) | omega | simp (maxSteps := 1000000) only [go_sem, simprocAttr, ↓reduceIte, Int.cast_ofNat_Int, Int.natCast_zero, Int.natCast_one, Int.toNat_zero, Int.toNat_one, Int.reduceToNat, List.getD_cons_zero, List.getD_cons_succ])
        refine VcDraw.lex [] [] (by kernel_rfl) (by kernel_rfl) ?_
        (repeat' first | with_reducible (first | intro _ | refine rc ?_ | refine rl ?_ | refine rh ?_ | refine rt ?_ | refine rf ?_ | refine rs ?_ | refine And.intro ?_ ?_) | omega | simp (maxSteps := 1000000) only [go_sem, simprocAttr, ↓reduceIte, hsa, hsb, Int.toNat_natCast])
        refine QV.intro (.bool (m.f.isPrefixOf (a.drop i))) ?_ ?_
        · (repeat' first | with_reducible (first | intro _ | refine rc ?_ | refine rl ?_ | refine rh ?_ | refine rt ?_ | refine rf ?_ | refine rs ?_ | refine And.intro ?_ ?_) | omega | simp (maxSteps := 1000000) only [go_sem, simprocAttr, ↓reduceIte])
          refine VcCall.k k1 ?_
          (repeat' first | with_reducible (first | intro _ | refine rc ?_ | refine rl ?_ | refine rh ?_ | refine rt ?_ | refine rf ?_ | refine rs ?_ | refine And.intro ?_ ?_) | omega | simp (maxSteps := 1000000) only [go_sem, simprocAttr, ↓reduceIte])
        cases hp1 : m.f.isPrefixOf (a.drop i) with
        | false =>
          rw [hp1, Bool.false_and] at hone
          (repeat' first | with_reducible (first | intro _ | refine rc ?_ | refine rl ?_ | refine rh ?_ | refine rt ?_ | refine rf ?_ | refine rs ?_ | refine And.intro ?_ ?_) | omega | simp (maxSteps := 1000000) only [go_sem, simprocAttr, ↓reduceIte, hsa, hsb, Int.toNat_natCast])
          refine QV.intro (.bool false) ?_ ?_
          · (repeat' first | with_reducible (first | intro _ | refine rc ?_ | refine rl ?_ | refine rh ?_ | refine rt ?_ | refine rf ?_ | refine rs ?_ | refine And.intro ?_ ?_) | omega | simp (maxSteps := 1000000) only [go_sem, simprocAttr, ↓reduceIte])
          (repeat' first | with_reducible (first | intro _ | refine rc ?_ | refine rl ?_ | refine rh ?_ | refine rt ?_ | refine rf ?_ | refine rs ?_ | refine And.intro ?_ ?_) | omega | simp (maxSteps := 1000000) only [go_sem, simprocAttr, ↓reduceIte])
          refine ⟨1, Ent.auto0 rfl ?_ ?_, by omega, by omega⟩ <;> simp only [go_sem, reduceCtorEq, reduceIte, Nat.reduceEqDiff, Nat.reduceLT, Nat.reduceLeDiff, Int.natCast_succ, mxs, hp0, hp1q, hone, List.append_nil, Bool.false_eq_true, if_false]
          all_goals rfl
        | true =>
          have hl1 := prefix_len hp1
          rw [hp1, Bool.true_and] at hone
          (repeat' first | with_reducible (first | intro _ | refine rc ?_ | refine rl ?_ | refine rh ?_ | refine rt ?_ | refine rf ?_ | refine rs ?_ | refine And.intro ?_ ?_) | omega | simp (maxSteps := 1000000) only [go_sem, simprocAttr, ↓reduceIte, hsa, hsb, Int.toNat_natCast])
          refine QV.intro (.bool (m.t.isPrefixOf (b.drop j))) ?_ ?_
          · (repeat' first | with_reducible (first | intro _ | refine rc ?_ | refine rl ?_ | refine rh ?_ | refine rt ?_ | refine rf ?_ | refine rs ?_ | refine And.intro ?_ ?_) | omega | simp (maxSteps := 1000000) only [go_sem, simprocAttr, ↓reduceIte, hsa, hsb, Int.toNat_natCast])
            refine VcCall.k k2 ?_
            (repeat' first | with_reducible (first | intro _ | refine rc ?_ | refine rl ?_ | refine rh ?_ | refine rt ?_ | refine rf ?_ | refine rs ?_ | refine And.intro ?_ ?_) | omega | simp (maxSteps := 1000000) only [go_sem, simprocAttr, ↓reduceIte])
          cases hp2 : m.t.isPrefixOf (b.drop j) with
          | false =>
            rw [hp2] at hone
            (repeat' first | with_reducible (first | intro _ | refine rc ?_ | refine rl ?_ | refine rh ?_ | refine rt ?_ | refine rf ?_ | refine rs ?_ | refine And.intro ?_ ?_) | omega | simp (maxSteps := 1000000) only [go_sem, simprocAttr, ↓reduceIte])
            refine ⟨1, Ent.auto0 rfl ?_ ?_, by omega, by omega⟩ <;> simp only [go_sem, reduceCtorEq, reduceIte, Nat.reduceEqDiff, Nat.reduceLT, Nat.reduceLeDiff, Int.natCast_succ, mxs, hp0, hp1q, hone, List.append_nil, Bool.false_eq_true, if_false]
            all_goals rfl
          | true =>
            rw [hp2] at hone
            simp only [if_true] at hone
            have hsn := sts_snoc (G ++ part 0) m.f.length m.t.length m.c
            (repeat' first | with_reducible (first | intro _ | refine rc ?_ | refine rl ?_ | refine rh ?_ | refine rt ?_ | refine rf ?_ | refine rs ?_ | refine And.intro ?_ ?_) | omega | simp (maxSteps := 1000000) only [go_sem, simprocAttr, ↓reduceIte, sts, hsn, List.length_map, Int.toNat_zero, Int.toNat_one, List.drop_zero])
            refine ⟨1, Ent.auto0 rfl ?_ ?_, by omega, by omega⟩ <;> simp only [go_sem, reduceCtorEq, reduceIte, Nat.reduceEqDiff, Nat.reduceLT, Nat.reduceLeDiff, Int.natCast_succ, mxs, sts, hp0, hp1q, hone, List.append_nil, List.append_assoc]
            all_goals rfl
      · have k1 := hasPrefix_ok (a.drop i) m.t
        have k2 := hasPrefix_ok (b.drop j) m.f
        have hone : one (a.drop i) (b.drop j) ⟨m.t, m.f, m.c⟩ = if (m.t.isPrefixOf (a.drop i) && m.f.isPrefixOf (b.drop j)) = true then [⟨m.t.length, m.f.length, m.c⟩] else [] := rfl
        (repeat' first | with_reducible (first | intro _ | refine rc ?_ | refine rl ?_ | refine rh ?_ | refine rt ?_ | refine rf ?_ | refine rs ?_ | refine And.intro ?_ ?_) | omega | simp (maxSteps := 1000000) only [go_sem, simprocAttr, ↓reduceIte, Int.cast_ofNat_Int, Int.natCast_zero, Int.natCast_one, Int.toNat_zero, Int.toNat_one, Int.reduceToNat, List.getD_cons_zero, List.getD_cons_succ])
        refine VcDraw.lex [] [] (by kernel_rfl) (by kernel_rfl) ?_
        (repeat' first | with_reducible (first | intro _ | refine rc ?_ | refine rl ?_ | refine rh ?_ | refine rt ?_ | refine rf ?_ | refine rs ?_ | refine And.intro ?_ ?_) | omega | simp (maxSteps := 1000000) only [go_sem, simprocAttr, ↓reduceIte, hsa, hsb, Int.toNat_natCast])
        refine QV.intro (.bool (m.t.isPrefixOf (a.drop i))) ?_ ?_
        · (repeat' first | with_reducible (first | intro _ | refine rc ?_ | refine rl ?_ | refine rh ?_ | refine rt ?_ | refine rf ?_ | refine rs ?_ | refine And.intro ?_ ?_) | omega | simp (maxSteps := 1000000) only [go_sem, simprocAttr, ↓reduceIte])
          refine VcCall.k k1 ?_
          (repeat' first | with_reducible (first | intro _ | refine rc ?_ | refine rl ?_ | refine rh ?_ | refine rt ?_ | refine rf ?_ | refine rs ?_ | refine And.intro ?_ ?_) | omega | simp (maxSteps := 1000000) only [go_sem, simprocAttr, ↓reduceIte])
        cases hp1 : m.t.isPrefixOf (a.drop i) with
        | false =>
          rw [hp1, Bool.false_and] at hone
          (repeat' first | with_reducible (first | intro _ | refine rc ?_ | refine rl ?_ | refine rh ?_ | refine rt ?_ | refine rf ?_ | refine rs ?_ | refine And.intro ?_ ?_) | omega | simp (maxSteps := 1000000) only [go_sem, simprocAttr, ↓reduceIte, hsa, hsb, Int.toNat_natCast])
          refine QV.intro (.bool false) ?_ ?_
          · (repeat' first | with_reducible (first | intro _ | refine rc ?_ | refine rl ?_ | refine rh ?_ | refine rt ?_ | refine rf ?_ | refine rs ?_ | refine And.intro ?_ ?_) | omega | simp (maxSteps := 1000000) only [go_sem, simprocAttr, ↓reduceIte])
          (repeat' first | with_reducible (first | intro _ | refine rc ?_ | refine rl ?_ | refine rh ?_ | refine rt ?_ | refine rf ?_ | refine rs ?_ | refine And.intro ?_ ?_) | omega | simp (maxSteps := 1000000) only [go_sem, simprocAttr, ↓reduceIte])
          refine ⟨2, Ent.auto0 rfl ?_ ?_, by omega, by omega⟩ <;> simp only [go_sem, reduceCtorEq, reduceIte, Nat.reduceEqDiff, Nat.reduceLT, Nat.reduceLeDiff, Int.natCast_succ, mxs, hp1q, hp2q, hone, List.append_nil, Bool.false_eq_true, if_false]
          all_goals rfl
        | true =>
          have hl1 := prefix_len hp1
          rw [hp1, Bool.true_and] at hone
          (repeat' first | with_reducible (first | intro _ | refine rc ?_ | refine rl ?_ | refine rh ?_ | refine rt ?_ | refine rf ?_ | refine rs ?_ | refine And.intro ?_ ?_) | omega | simp (maxSteps := 1000000) only [go_sem, simprocAttr, ↓reduceIte, hsa, hsb, Int.toNat_natCast])
          refine QV.intro (.bool (m.f.isPrefixOf (b.drop j))) ?_ ?_
          · (repeat' first | with_reducible (first | intro _ | refine rc ?_ | refine rl ?_ | refine rh ?_ | refine rt ?_ | refine rf ?_ | refine rs ?_ | refine And.intro ?_ ?_) | omega | simp (maxSteps := 1000000) only [go_sem, simprocAttr, ↓reduceIte, hsa, hsb, Int.toNat_natCast])
            refine VcCall.k k2 ?_
            (repeat' first | with_reducible (first | intro _ | refine rc ?_ | refine rl ?_ | refine rh ?_ | refine rt ?_ | refine rf ?_ | refine rs ?_ | refine And.intro ?_ ?_) | omega | simp (maxSteps := 1000000) only [go_sem, simprocAttr, ↓reduceIte])
          cases hp2 : m.f.isPrefixOf (b.drop j) with
          | false =>
            rw [hp2] at hone
            (repeat' first | with_reducible (first | intro _ | refine rc ?_ | refine rl ?_ | refine rh ?_ | refine rt ?_ | refine rf ?_ | refine rs ?_ | refine And.intro ?_ ?_) | omega | simp (maxSteps := 1000000) only [go_sem, simprocAttr, ↓reduceIte])
            refine ⟨2, Ent.auto0 rfl ?_ ?_, by omega, by omega⟩ <;> simp only [go_sem, reduceCtorEq, reduceIte, Nat.reduceEqDiff, Nat.reduceLT, Nat.reduceLeDiff, Int.natCast_succ, mxs, hp1q, hp2q, hone, List.append_nil, Bool.false_eq_true, if_false]
            all_goals rfl
          | true =>
            rw [hp2] at hone
            simp only [if_true] at hone
            have hsn := sts_snoc (G ++ part 1) m.t.length m.f.length m.c
            (repeat' first | with_reducible (first | intro _ | refine rc ?_ | refine rl ?_ | refine rh ?_ | refine rt ?_ | refine rf ?_ | refine rs ?_ | refine And.intro ?_ ?_) | omega | simp (maxSteps := 1000000) only [go_sem, simprocAttr, ↓reduceIte, sts, hsn, List.length_map, Int.toNat_zero, Int.toNat_one, List.drop_zero])
            refine ⟨2, Ent.auto0 rfl ?_ ?_, by omega, by omega⟩ <;> simp only [go_sem, reduceCtorEq, reduceIte, Nat.reduceEqDiff, Nat.reduceLT, Nat.reduceLeDiff, Int.natCast_succ, mxs, sts, hp1q, hp2q, hone, List.append_nil, List.append_assoc]
            all_goals rfl
      · (repeat' first | with_reducible (first | intro _ | refine rc ?_ | refine rl ?_ | refine rh ?_ | refine rt ?_ | refine rf ?_ | refine rs ?_ | refine And.intro ?_ ?_) | omega | simp (maxSteps := 1000000) only [go_sem, simprocAttr, ↓reduceIte, Int.cast_ofNat_Int])
        refine ⟨k + 1, Ent.auto0 rfl ?_ ?_, by omega, by omega⟩ <;> simp only [go_sem, reduceCtorEq, reduceIte, Nat.reduceEqDiff, Nat.reduceLT, Nat.reduceLeDiff, Int.natCast_succ, mxs, htk, ← hG, List.append_assoc]
    · have ek : k = l.length := by omega
      subst ek
      rw [List.take_length] at *
      clear hst
      have hGl : (E ++ l.flatMap (two (a.drop i) (b.drop j))).length ≤ 3000 := by simp at hfl ⊢; omega
      generalize E ++ l.flatMap (two (a.drop i) (b.drop j)) = G at *
      (repeat' first | with_reducible (first | intro _ | refine rc ?_ | refine rl ?_ | refine rh ?_ | refine rt ?_ | refine rf ?_ | refine rs ?_ | refine And.intro ?_ ?_) | omega | simp (maxSteps := 1000000) only [go_sem, simprocAttr, ↓reduceIte, mxs, List.length_map, sts])
      all_goals
        by_cases hi2 : i < a.length <;> by_cases hj2 : j < b.length <;> first
          | (exfalso; omega)
          | (refine Ret.auto 1 ?_ rfl ?_ <;> simp only [go_sem, reduceCtorEq, reduceIte, Nat.reduceEqDiff, Nat.reduceLT, Nat.reduceLeDiff, Int.natCast_succ, Post, hi2, hj2, List.map_append, St.av, List.append_assoc, Int.natCast_zero, Int.natCast_one, if_true, if_false])
        all_goals rfl
end Go.Fv.Y

/- The table of the reference, row by row, in plain words. -/
namespace Go.Fv.Y
open Go
set_option linter.unusedSimpArgs false
set_option linter.unusedVariables false
set_option linter.unnecessarySimpa false

/-- A row from column c on. -/
def rowF (sw : List Sw) (a b : List UInt8) (q c : Nat) : List Int := (List.range (b.length + 1)).map fun j => if c ≤ j then dist sw (a.drop q) (b.drop j) else 0
def costL (sw : List Sw) (a b : List UInt8) (r : Nat) : List (List AV) := (List.range (a.length + 1)).map fun q => if r ≤ q then [.ro (.ints .i64 (rowF sw a b q 0))] else [.nilS]
theorem rowF_len (sw : List Sw) (a b : List UInt8) (q c : Nat) : (rowF sw a b q c).length = b.length + 1 := by simp [rowF]
theorem rowF_get {sw : List Sw} {a b : List UInt8} {q c j : Nat} (h : j < b.length + 1) (hc : c ≤ j) : (rowF sw a b q c).getD j 0 = dist sw (a.drop q) (b.drop j) := by
  rw [getD_lt (by rw [rowF_len]; exact h)]; simp [rowF, hc]
theorem rowF_all (sw : List Sw) (a b : List UInt8) (q : Nat) : rowF sw a b q (b.length + 1) = List.replicate (b.length + 1) 0 := by
  refine List.ext_getElem (by simp [rowF]) fun i h1 h2 => ?_
  simp only [rowF, List.length_map, List.length_range] at h1
  simp [rowF]; omega
theorem rowF_set {sw : List Sw} {a b : List UInt8} {q c : Nat} {v : Int} (hv : v = dist sw (a.drop q) (b.drop c)) : (rowF sw a b q (c + 1)).set c v = rowF sw a b q c := by
  refine List.ext_getElem (by simp [rowF]) fun i h1 h2 => ?_
  rw [List.getElem_set]
  split
  · rename_i e; subst e; simp [rowF, hv]
  · rename_i e
    simp only [rowF, List.getElem_map, List.getElem_range]
    by_cases h : c ≤ i
    · rw [if_pos (by omega), if_pos h]
    · rw [if_neg (by omega), if_neg h]
theorem rowF_zero {sw : List Sw} {a b : List UInt8} {q c : Nat} (hv : dist sw (a.drop q) (b.drop c) = 0) : rowF sw a b q (c + 1) = rowF sw a b q c := by
  refine List.ext_getElem (by simp [rowF]) fun i h1 h2 => ?_
  simp only [rowF, List.getElem_map, List.getElem_range]
  by_cases h : c + 1 ≤ i
  · rw [if_pos h, if_pos (by omega)]
  · rw [if_neg h]
    by_cases e : c = i
    · subst e; rw [if_pos (Nat.le_refl _), hv]
    · rw [if_neg (by omega)]
theorem costL_len (sw : List Sw) (a b : List UInt8) (r : Nat) : (costL sw a b r).length = a.length + 1 := by simp [costL]
theorem costL_get {sw : List Sw} {a b : List UInt8} {r q : Nat} (h : q < a.length + 1) (hr : r ≤ q) : (costL sw a b r).getD q [] = [.ro (.ints .i64 (rowF sw a b q 0))] := by
  rw [getD_lt (by rw [costL_len]; exact h)]; simp [costL, hr]
theorem costL_all (sw : List Sw) (a b : List UInt8) : costL sw a b (a.length + 1) = List.replicate (a.length + 1) [.nilS] := by
  refine List.ext_getElem (by simp [costL]) fun i h1 h2 => ?_
  simp only [costL, List.length_map, List.length_range] at h1
  simp [costL]; omega
theorem costL_set {sw : List Sw} {a b : List UInt8} {r : Nat} : (costL sw a b (r + 1)).set r [.ro (.ints .i64 (rowF sw a b r 0))] = costL sw a b r := by
  refine List.ext_getElem (by simp [costL]) fun i h1 h2 => ?_
  rw [List.getElem_set]
  split
  · rename_i e; subst e; simp [costL]
  · rename_i e
    simp only [costL, List.getElem_map, List.getElem_range]
    by_cases h : r ≤ i
    · rw [if_pos (by omega), if_pos h]
    · rw [if_neg (by omega), if_neg h]
theorem costL_noid (sw : List Sw) (a b : List UInt8) (r : Nat) : (costL sw a b r).all noIdL = true := by
  rw [List.all_eq_true]
  intro x hx
  obtain ⟨q, _, rfl⟩ := List.mem_map.1 hx
  split <;> rfl
theorem fzL_costL (sw : List Sw) (a b : List UInt8) (r i k : Nat) (q : RowV) : ((costL sw a b r).set i [.own k]).map (fzL k q) = (costL sw a b r).set i [.ro q] := by
  rw [List.map_set, fzLL_noId _ (costL_noid sw a b r)]
  simp [fzL, fz]

def mfold : Int → List Int → Int
  | b, [] => b
  | b, v :: l => mfold (if b < 0 ∨ v < b then v else b) l
theorem mfold_pos : ∀ (l : List Int) (b : Int), 0 ≤ b → (∀ v, v ∈ l → 0 ≤ v) → mfold b l = minL (b :: l)
  | [], b, _, _ => rfl
  | v :: l, b, hb, hl => by
    have hv := hl v (.head _)
    have e : (if b < 0 ∨ v < b then v else b) = min b v := by split <;> omega
    rw [mfold, e, mfold_pos l _ (by omega) fun u hu => hl u (.tail _ hu)]
    cases l with
    | nil => rfl
    | cons u l => simp only [minL]; omega
theorem mfold_neg {l : List Int} (hl : ∀ v, v ∈ l → 0 ≤ v) (hne : l ≠ []) : mfold (-1) l = minL l := by
  cases l with
  | nil => exact absurd rfl hne
  | cons v l =>
    rw [mfold, if_pos (by omega), mfold_pos l v (hl v (.head _)) fun u hu => hl u (.tail _ hu)]
def valS (sw : List Sw) (x y : List UInt8) (s : St) : Int := s.c + dist sw (x.drop s.a) (y.drop s.b)
theorem mfold_dist {sw : List Sw} (hg : GoodSw sw) {x y : List UInt8} (h : ¬ (x = [] ∧ y = [])) : mfold (-1) ((steps sw x y).map (valS sw x y)) = dist sw x y := by
  rw [mfold_neg ?_ (by simpa using steps_ne h), dist_eq hg h]
  · rfl
  · intro v hv
    obtain ⟨s, hs, rfl⟩ := List.mem_map.1 hv
    have := step_bd hg hs
    have := dist_bd hg _ (x.drop s.a) (y.drop s.b) (Nat.le_refl _)
    unfold valS; omega
theorem mfold_step (f : St → Int) (l : List St) {k : Nat} (h : k < l.length) (b : Int) : mfold b ((l.drop k).map f) = mfold (if b < 0 ∨ f (l.getD k St.zero) < b then f (l.getD k St.zero) else b) ((l.drop (k + 1)).map f) := by
  rw [List.drop_eq_getElem_cons h, getD_lt h]; rfl
end Go.Fv.Y

namespace Go.Fv.Y
open Go Go.Proofs
set_option linter.unusedSimpArgs false
set_option linter.unusedVariables false
set_option linter.unnecessarySimpa false
set_option maxRecDepth 8000

def Sl.av (s : Sl) : List AV := [.int .i64 s.at_, .str s.o, .str s.n, .int .i64 s.c]
def Sl.zero : Sl := ⟨0, [], [], 0⟩
def sls (l : List Sl) : RowV := .objs 4 (l.map Sl.av)
instance : FNoId Sl.av := ⟨fun _ => rfl⟩
instance {l : List Sl} : RowNoId (sls l) := inferInstanceAs (RowNoId (.objs 4 (l.map Sl.av)))
theorem sls_snoc (l : List Sl) (i : Nat) (x y : List UInt8) (c : Int) : l.map Sl.av ++ [[.int .i64 i, .str x, .str y, .int .i64 c]] = (l ++ [(⟨i, x, y, c⟩ : Sl)]).map Sl.av := by simp [Sl.av]

end Go.Fv.Y
