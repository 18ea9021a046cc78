/-
  A part of the proof of the claim: walks over the program's functions and the plain laws that these need. No condition of its own.
-/
import Derived.Test.YthhdmejmdjhbkaaGreatDoorYTopCorrCardPart7
import Derived.Test.YthhdmejmdjhbkaaGreatDoorYTopCorrCardPart8
import Derived.Test.YthhdmejmdjhbkaaGreatDoorYTopCorrCardPart1
import Derived.Test.YthhdmejmdjhbkaaGreatDoorFvPart10
import Derived.Test.YthhdmejmdjhbkaaGreatDoorYTopCorrCardPart2
import Derived.Lib.CountLaws
import Derived.Lib.SplitLaws
import Derived.Lib.MakeNoZero
/- Correct of the program. -/
namespace Go.Fv.Y
open Go Go.Proofs
set_option linter.unusedSimpArgs false
set_option linter.unusedVariables false
set_option linter.unnecessarySimpa false
set_option maxRecDepth 8000

def kKs (kw : List Bytes) : List AV := kw.map .str
def kVs (f : Bytes → Bytes) (kw : List Bytes) : List AV := kw.map fun w => .str (f w)
theorem kIdx (kw : List Bytes) (x : Bytes) : (keyIdx (kKs kw) (.str x)).isSome = decide (x ∈ kw) := by
  unfold kKs
  rw [keyIdx_strs]
  cases h : ixOf kw x with
  | none => rw [decide_eq_false (ixOf_none.1 h)]; rfl
  | some j =>
    have : x ∈ kw := Classical.byContradiction fun h2 => by rw [ixOf_none.2 h2] at h; cases h
    rw [decide_eq_true this]; rfl
theorem kGet (f : Bytes → Bytes) {kw : List Bytes} {x : Bytes} (h : x ∈ kw) : getS (kKs kw) (kVs f kw) (.str x) = f x := by
  unfold getS getV kKs kVs
  rw [keyIdx_strs]
  induction kw with
  | nil => cases h
  | cons w l ih =>
    rw [ixOf]
    by_cases hw : w = x
    · rw [if_pos hw]; subst hw; rfl
    · rw [if_neg hw]
      have := ih (by
        rcases List.mem_cons.1 h with h | h
        · exact absurd h.symm hw
        · exact h)
      cases hx : ixOf l x with
      | none => rw [hx] at this; exact this
      | some j => rw [hx] at this; simpa using this
theorem kUpd {kw : List Bytes} {x : Bytes} (h : x ∉ kw) : updKs (kKs kw) (.str x) = kKs (kw ++ [x]) := by
  unfold kKs; rw [updKs_strs]; unfold insE; rw [if_neg h]
theorem kUpdV (f : Bytes → Bytes) {kw : List Bytes} {x : Bytes} (h : x ∉ kw) : updVs (kKs kw) (kVs f kw) (.str x) (.str (f x)) = kVs f (kw ++ [x]) := by
  unfold updVs kKs
  rw [keyIdx_strs, ixOf_none.2 h]
  simp [kVs]
theorem kIsS (f : Bytes → Bytes) (kw : List Bytes) : (kVs f kw).all isS = true := by simp [kVs, isS]
theorem ren_kKs (p : Nat → Nat) (l : List Bytes) : renL p (kKs l) = kKs l := renL_kmap p (fun _ => rfl) _
theorem ren_kVs (p : Nat → Nat) (f : Bytes → Bytes) (l : List Bytes) : renL p (kVs f l) = kVs f l := renL_kmap p (fun _ => rfl) _
theorem below_kKs (n : Nat) (l : List Bytes) : belowL n (kKs l) = true := belowL_kmap n (fun _ => rfl) _
theorem below_kVs (n : Nat) (f : Bytes → Bytes) (l : List Bytes) : belowL n (kVs f l) = true := belowL_kmap n (fun _ => rfl) _
theorem mk_kKs (l : List Bytes) (y : List AV) : mkL (kKs l) y = [] := mkL_kmap (fun _ => rfl) _ _
theorem mk_kVs (f : Bytes → Bytes) (l : List Bytes) (y : List AV) : mkL (kVs f l) y = [] := mkL_kmap (fun _ => rfl) _ _
theorem keysT_k {P : Program} {kt : TypeId} (h : P.underlying kt = some .string) (l : List Bytes) : KeysT P kt (kKs l) := KeysT_map (fun n => KeyT.str h n) _
structure CI where
  i : Nat
  kw : List Bytes
  u : Bool
set_option maxHeartbeats 32000000 in
theorem correct_ok (s : Bytes) (hs : s.length ≤ 2000) (D : List Wd) (hg : GoodD D) (hl : D.length < 40) (l : List Mx) (most : Int) (E : Int) (hE : corrErr l most = E) (C : CS) (hC : (if E = 0 then csAll (corrW D (swL l) most) (toks s [] []) else ⟨[], [], 0⟩) = C) :
    FnOk Tryz.prog 11 [.str s, .cell [.mp (dKs D) (dVs D), .ro (.strs (wsD D))], .ro (mxs l), .int .i64 most] (.tup [.str C.b, .own 0, .int .i64 E]) [(0, .row 49 (fxR C.f))] := by
  have ke := checkMixes_ok l
  have kb := badMost_ok most
  have kt := split_ok s (by omega)
  have htk := tokOk s
  have hln := toks_len _ s [] [] (Nat.le_refl _)
  have htx := toks_text _ s [] [] (Nat.le_refl _)
  simp only [List.length_nil] at hln
  have htx2 : (textOf (toks s [] [])).length = s.length := by rw [htx]; simp [textOf]
  refine FnOk.of_vc Tryz.func11 rfl (by decide) (by simp [Tryz.f11]) [.tmp 8, .tmp 9, .tmp 10] rfl fun w0 T0 _ => ?_
  simp only [Tryz.f11, argEnv]
  unfold corrErr at hE
  rcases (Classical.em (mixErr l = 0)).symm with hm | hm
  · rw [if_neg hm] at hE
    subst hE
    rw [if_neg hm] at hC
    subst hC
    (repeat' first | with_reducible (first | intro _ | refine rc ?_ | refine rl ?_ | refine rh ?_ | refine ru ?_ | refine rt ?_ | refine rf ?_ | refine rs ?_ | refine And.intro ?_ ?_) | omega | simp (maxSteps := 1000000) only [go_sem, simprocAttr, ↓reduceIte])
    refine VcCall.k (ke) ?_
    (repeat' first | with_reducible (first | intro _ | refine rc ?_ | refine rl ?_ | refine rh ?_ | refine ru ?_ | refine rt ?_ | refine rf ?_ | refine rs ?_ | refine And.intro ?_ ?_) | omega | simp (maxSteps := 1000000) only [go_sem, simprocAttr, ↓reduceIte, hm])
    refine Ret.auto 1 ?_ rfl ?_ <;> simp only [go_sem, reduceCtorEq, reduceIte, Nat.reduceEqDiff, Nat.reduceLT, Nat.reduceLeDiff, Int.natCast_succ, Post, fxR, List.map_nil]
  rw [if_pos hm] at hE
  rw [hm] at ke
  rcases Classical.em (most < 0 ∨ 10000 < most) with hb | hb
  · rw [if_pos hb] at hE
    subst hE
    rw [if_neg (by decide)] at hC
    subst hC
    rw [decide_eq_true hb] at kb
    (repeat' first | with_reducible (first | intro _ | refine rc ?_ | refine rl ?_ | refine rh ?_ | refine ru ?_ | refine rt ?_ | refine rf ?_ | refine rs ?_ | refine And.intro ?_ ?_) | omega | simp (maxSteps := 1000000) only [go_sem, simprocAttr, ↓reduceIte])
    refine VcCall.k (ke) ?_
    (repeat' first | with_reducible (first | intro _ | refine rc ?_ | refine rl ?_ | refine rh ?_ | refine ru ?_ | refine rt ?_ | refine rf ?_ | refine rs ?_ | refine And.intro ?_ ?_) | omega | simp (maxSteps := 1000000) only [go_sem, simprocAttr, ↓reduceIte])
    refine VcCall.k (kb) ?_
    (repeat' first | with_reducible (first | intro _ | refine rc ?_ | refine rl ?_ | refine rh ?_ | refine ru ?_ | refine rt ?_ | refine rf ?_ | refine rs ?_ | refine And.intro ?_ ?_) | omega | simp (maxSteps := 1000000) only [go_sem, simprocAttr, ↓reduceIte])
    refine Ret.auto 1 ?_ rfl ?_ <;> simp only [go_sem, reduceCtorEq, reduceIte, Nat.reduceEqDiff, Nat.reduceLT, Nat.reduceLeDiff, Int.natCast_succ, Post, fxR, List.map_nil]
  rw [if_neg hb] at hE
  subst hE
  rw [if_pos rfl] at hC
  rw [decide_eq_false hb] at kb
  obtain ⟨g1, g2, g3⟩ := mix_good hm
  have hml := (mixErr_zero hm).1
  have kS := swaps_ok l g3 (by omega)
  have kc := fun w hw => corr1_ok D hg hl (swL l) g1 (by omega) most w hw
  have hbd := piece_bd hg (swL l) most htk
  have hcs := cs_ok hbd
  have hpne : ∀ t, t ∈ toks s [] [] → pieceOf (corrW D (swL l) most) t ≠ [] := fun t ht => by
    unfold pieceOf
    split
    · rename_i h; exact (corrW_bd hg (swL l) most ((htk t ht).2 h)).1
    · exact (htk t ht).1
  generalize corrW D (swL l) most = f at *
  generalize wsD D = ws at *
  generalize toks s [] [] = T at *
  generalize grp [] (swL l) = gr at *
  subst hC
  (repeat' first | with_reducible (first | intro _ | refine rc ?_ | refine rl ?_ | refine rh ?_ | refine ru ?_ | refine rt ?_ | refine rf ?_ | refine rs ?_ | refine And.intro ?_ ?_) | omega | simp (maxSteps := 1000000) only [go_sem, simprocAttr, ↓reduceIte])
  refine VcCall.k (ke) ?_
  (repeat' first | with_reducible (first | intro _ | refine rc ?_ | refine rl ?_ | refine rh ?_ | refine ru ?_ | refine rt ?_ | refine rf ?_ | refine rs ?_ | refine And.intro ?_ ?_) | omega | simp (maxSteps := 1000000) only [go_sem, simprocAttr, ↓reduceIte])
  refine VcCall.k (kb) ?_
  (repeat' first | with_reducible (first | intro _ | refine rc ?_ | refine rl ?_ | refine rh ?_ | refine ru ?_ | refine rt ?_ | refine rf ?_ | refine rs ?_ | refine And.intro ?_ ?_) | omega | simp (maxSteps := 1000000) only [go_sem, simprocAttr, ↓reduceIte])
  refine VcCall.ros (.mp (kgKs gr) (kgVs gr)) kS (by simp only [noIdR_ok, argOkL, argOk, allOk, argOkN, List.drop_zero, lk, reduceIte, reduceCtorEq, Nat.reduceEqDiff, Option.some.injEq, Item.row.injEq, Item.box.injEq, AV.ro.injEq, exists_eq_left, exists_and_left, exists_eq_left', exists_eq_right, and_assoc, and_true, true_and, List.cons.injEq, exists_eq', exists_eq]) (by simp [outOk, argOk, argOkN]) rfl ?_
  (repeat' first | with_reducible (first | intro _ | refine rc ?_ | refine rl ?_ | refine rh ?_ | refine ru ?_ | refine rt ?_ | refine rf ?_ | refine rs ?_ | refine And.intro ?_ ?_) | omega | simp (maxSteps := 1000000) only [go_sem, simprocAttr, ↓reduceIte])
  refine VcCall.ro (.ro (tkR T)) (FnFr.of_ok kt rfl (by simp [noRoRows, noRoItem, noRoRow, noRoL, noRo, tkR, tkAv])) (by simp only [noIdR_ok, argOkL, argOk, allOk, argOkN, List.drop_zero, lk, reduceIte, reduceCtorEq, Nat.reduceEqDiff, Option.some.injEq, Item.row.injEq, Item.box.injEq, AV.ro.injEq, exists_eq_left, exists_and_left, exists_eq_left', exists_eq_right, and_assoc, and_true, true_and, List.cons.injEq, exists_eq', exists_eq]) (by simp [outOk, argOkL, allOk, argOk, argOkN, lk, noIdR_ok, tkR]) rfl ?_
  (repeat' first | with_reducible (first | intro _ | refine rc ?_ | refine rl ?_ | refine rh ?_ | refine ru ?_ | refine rt ?_ | refine rf ?_ | refine rs ?_ | refine And.intro ?_ ?_) | omega | simp (maxSteps := 1000000) only [go_sem, simprocAttr, ↓reduceIte, tkR, List.length_map])
  have e5 : ∀ kw : List Bytes, KeysT Tryz.prog 9 (kKs kw) := fun kw => keysT_k (by kernel_rfl) _
  have hk0 : kKs [] = [] := rfl
  have hv0 : kVs f [] = [] := rfl
  have hmx := hcs T.length (Nat.le_refl _)
  refine VcLoop.intro (fun x : CI => ⟨90, [(44, .int .i64 x.i), (43, .int .i64 T.length), (42, .ro (tkR T)), (17, .int .i64 (csAll f (T.take x.i)).at_), (16, .own 5), (15, .ptr 4 0), (14, .fn 35 [.ptr 0 0, .ptr 2 0, .ptr 1 0]), (13, .own 3)], [(0, .box 28 [.cell [.mp (dKs D) (dVs D), .ro (.strs ws)]]), (1, .box 3 [.int .i64 most]), (2, .box 77 [.mp (kgKs gr) (kgVs gr)]), (3, .map (kKs x.kw) (kVs f x.kw)), (5, .row 49 (fxR (csAll f (T.take x.i)).f))] ++ (bif x.u then [(4, .box 88 [.ptr 4 0, .own 6]), (6, .row 5 (.ints .u8 (byteInts (csAll f (T.take x.i)).b)))] else [(4, .box 88 [.raw (.pointer none), .nilS])]), bif x.u then 7 else 6⟩) (fun x => x.i ≤ T.length ∧ x.kw.length ≤ x.i ∧ (x.u = true → 0 < (csAll f (T.take x.i)).b.length) ∧ (x.u = false → x.i = 0)) (fun x => T.length - x.i) ⟨0, [], false⟩ ?_ ⟨Nat.zero_le _, Nat.le_refl _, fun h => by (cases h), fun _ => rfl⟩ fun x hx => ?_
  · refine Ent.auto0 rfl ?_ ?_
    · simp only [go_sem, reduceCtorEq, reduceIte, Nat.reduceEqDiff, Nat.reduceLT, Nat.reduceLeDiff, Int.natCast_succ, tkR, cond_false, List.cons_append, List.nil_append]
      all_goals first | rfl | exact ⟨rfl, rfl⟩
    · simp only [go_sem, reduceCtorEq, reduceIte, Nat.reduceEqDiff, Nat.reduceLT, Nat.reduceLeDiff, Int.natCast_succ, tkR, fxR, cond_false, List.cons_append, List.nil_append, hk0, hv0]
      all_goals first | rfl | exact ⟨rfl, rfl⟩
  obtain ⟨i, kw, u⟩ := x
  obtain ⟨hi, hkw, hu1, hu2⟩ := hx
  dsimp only at hi hkw hu1 hu2 ⊢
  obtain ⟨c1, c2, c3⟩ := hcs i hi
  have hk4 := kIsS f kw
  have hk5 := e5 kw
  by_cases hlt : i < T.length
  · have hel := tk_elem T hlt
    have hst := csAll_take f hlt
    have hmem : T.getD i ([], false) ∈ T := by rw [getD_lt hlt]; exact List.getElem_mem hlt
    obtain ⟨t1, t2⟩ := htk _ hmem
    have hpb := hbd _ hmem
    have hpn := hpne _ hmem
    have htl : (T.getD i ([], false)).1.length ≤ s.length := by
      have h1 : textOf (T.take (i + 1)) = textOf (T.take i) ++ (T.getD i ([], false)).1 := by
        rw [List.take_succ_eq_append_getElem hlt, textOf_app, getD_lt hlt]; simp [textOf]
      have h2 := textOf_le T (i + 1)
      rw [h1, List.length_append] at h2
      omega
    unfold CS.step at hst
    generalize hX : csAll f (T.take i) = X at *
    generalize hY : csAll f (T.take (i + 1)) = Y at *
    generalize T.getD i ([], false) = z at *
    obtain ⟨z1, z2⟩ := z
    unfold pieceOf at hst hpb hpn
    dsimp only at hel hst t1 t2 hpb hpn htl
    have hYb := congrArg CS.b hst
    have hYf := congrArg CS.f hst
    have hYa : (Y.at_ : Int) = (X.at_ : Int) + (z1.length : Int) := by rw [congrArg CS.at_ hst]; simp
    dsimp only at hYb hYf
    have hX0 : i = 0 → X.b = [] ∧ X.f = [] ∧ X.at_ = 0 := fun h => by subst h; rw [← hX]; exact ⟨rfl, rfl, rfl⟩
    clear hst hX
    by_cases hu : u = false
    · subst hu
      obtain rfl := hu2 rfl
      obtain ⟨hx1, hx2, hx3⟩ := hX0 rfl
      obtain rfl : kw = [] := List.eq_nil_of_length_eq_zero (by omega)
      simp only [cond_true, cond_false, List.cons_append, List.nil_append]
      cases z2 with
      | false =>
        simp only [Bool.false_eq_true, if_false, if_true] at hYb hYf hpn hpb
        have hbuf : byteInts Y.b = byteInts z1 := by rw [hYb, hx1, List.nil_append]
        have kw2 := writeFresh_io z1 (by omega)
        have hinv : 0 + 1 ≤ T.length ∧ (([] : List Bytes)).length ≤ 0 + 1 ∧ (true = true → 0 < (csAll f (List.take (0 + 1) T)).b.length) ∧ (true = false → 0 + 1 = 0) := ⟨by omega, by simp, fun _ => by rw [hY, hYb, List.length_append]; have := List.length_pos_iff.2 hpn; omega, fun h => by (cases h)⟩
        (repeat' first | with_reducible (first | intro _ | refine rc ?_ | refine rl ?_ | refine rh ?_ | refine ru ?_ | refine rt ?_ | refine rf ?_ | refine rs ?_ | refine And.intro ?_ ?_) | omega | simp (maxSteps := 1000000) only [go_sem, simprocAttr, ↓reduceIte, elemA, hel, tkR, List.length_map, cond_true, cond_false, List.cons_append, List.nil_append, kIdx, hk4, hk5])
        refine VcCall.io [4] kw2 (by decide) (by simp [renL, ren, ioN]) rfl (by simp [subOk, ioN, lk, Item.ren, Item.below, ren, renL, belowL, Fv.below, renR_ok, belowR_ok]) covB1 2 (by decide) rfl (by simp [rowsB, Item.below, Fv.below, belowL, belowR_ok]) ?_
        (repeat' first | with_reducible (first | intro _ | refine rc ?_ | refine rl ?_ | refine rh ?_ | refine ru ?_ | refine rt ?_ | refine rf ?_ | refine rs ?_ | refine And.intro ?_ ?_) | omega | simp (maxSteps := 1000000) only [go_sem, simprocAttr, ↓reduceIte, S.ioS, ioRows, ioN, delL, Item.ren, ren, renL, renR_ok, ren_kKs, ren_kVs, fxR, List.length_cons, List.length_nil, List.getElem?_cons_zero, List.getElem?_cons_succ, List.getElem?_nil, List.cons_append, List.nil_append, Nat.reduceAdd, Nat.sub_self, Nat.add_zero, List.filter])
        refine ⟨⟨0 + 1, [], true⟩, Ent.auto0 rfl ?_ ?_, hinv, by dsimp only; omega⟩ <;> simp only [go_sem, reduceCtorEq, reduceIte, Nat.reduceEqDiff, Nat.reduceLT, Nat.reduceLeDiff, Int.natCast_succ, tkR, fxR, cond_true, List.cons_append, List.nil_append, hY, hYa, hbuf, hYf, ren_kKs, ren_kVs, below_kKs, below_kVs, mk_kKs, mk_kVs]
        all_goals first | rfl | omega
      | true =>
        have kc := kc z1 (t2 rfl)
        simp only [if_true] at hYb hYf hpb hpn
        have hkn : z1 ∉ ([] : List Bytes) := by simp
        have e2 : updKs (kKs []) (.str z1) = kKs [z1] := kUpd hkn
        have e3 : updVs (kKs []) (kVs f []) (.str z1) (.str (f z1)) = kVs f [z1] := kUpdV f hkn
        have hg1 := kGet f (kw := [z1]) (x := z1) (by simp)
        have hk4b := kIsS f [z1]
        have hk5b := e5 [z1]
        generalize hfz : f z1 = p at *
        have hbuf : byteInts Y.b = byteInts p := by rw [hYb, hx1, List.nil_append]
        have kw2 := writeFresh_io p (by omega)
        have hinv : 0 + 1 ≤ T.length ∧ ([z1]).length ≤ 0 + 1 ∧ (true = true → 0 < (csAll f (List.take (0 + 1) T)).b.length) ∧ (true = false → 0 + 1 = 0) := ⟨by omega, by simp, fun _ => by rw [hY, hYb, List.length_append]; have := List.length_pos_iff.2 hpn; omega, fun h => by (cases h)⟩
        by_cases hp : p = z1
        · subst hp
          rw [if_pos rfl] at hYf
          (repeat' first | with_reducible (first | intro _ | refine rc ?_ | refine rl ?_ | refine rh ?_ | refine ru ?_ | refine rt ?_ | refine rf ?_ | refine rs ?_ | refine And.intro ?_ ?_) | omega | simp (maxSteps := 1000000) only [go_sem, simprocAttr, ↓reduceIte, elemA, hel, tkR, List.length_map, cond_true, cond_false, List.cons_append, List.nil_append, kIdx, hk4, hk5, hkn])
          refine VcCall.k (kc) ?_
          (repeat' first | with_reducible (first | intro _ | refine rc ?_ | refine rl ?_ | refine rh ?_ | refine ru ?_ | refine rt ?_ | refine rf ?_ | refine rs ?_ | refine And.intro ?_ ?_) | omega | simp (maxSteps := 1000000) only [go_sem, simprocAttr, ↓reduceIte, elemA, hel, tkR, List.length_map, cond_true, cond_false, List.cons_append, List.nil_append, kIdx, hk4, hk5, e2, e3, hg1, hk4b, hk5b, fxR])
          refine VcCall.io [4] kw2 (by decide) (by simp [renL, ren, ioN]) rfl (by simp [subOk, ioN, lk, Item.ren, Item.below, ren, renL, belowL, Fv.below, renR_ok, belowR_ok]) covB1 2 (by decide) rfl (by simp [rowsB, Item.below, Fv.below, belowL, belowR_ok]) ?_
          (repeat' first | with_reducible (first | intro _ | refine rc ?_ | refine rl ?_ | refine rh ?_ | refine ru ?_ | refine rt ?_ | refine rf ?_ | refine rs ?_ | refine And.intro ?_ ?_) | omega | simp (maxSteps := 1000000) only [go_sem, simprocAttr, ↓reduceIte, S.ioS, ioRows, ioN, delL, Item.ren, ren, renL, renR_ok, ren_kKs, ren_kVs, fxR, List.length_cons, List.length_nil, List.getElem?_cons_zero, List.getElem?_cons_succ, List.getElem?_nil, List.cons_append, List.nil_append, Nat.reduceAdd, Nat.sub_self, Nat.add_zero, List.filter])
          refine ⟨⟨0 + 1, [p], true⟩, Ent.auto0 rfl ?_ ?_, hinv, by dsimp only; omega⟩ <;> simp only [go_sem, reduceCtorEq, reduceIte, Nat.reduceEqDiff, Nat.reduceLT, Nat.reduceLeDiff, Int.natCast_succ, tkR, fxR, cond_true, List.cons_append, List.nil_append, hY, hYa, hbuf, hYf, ren_kKs, ren_kVs, below_kKs, below_kVs, mk_kKs, mk_kVs]
          all_goals first | rfl | omega
        · rw [if_neg hp] at hYf
          have hYm : Y.f.map Fx.av = X.f.map Fx.av ++ [[.int .i64 X.at_, .str z1, .str p]] := by rw [hYf, fx_snoc]
          (repeat' first | with_reducible (first | intro _ | refine rc ?_ | refine rl ?_ | refine rh ?_ | refine ru ?_ | refine rt ?_ | refine rf ?_ | refine rs ?_ | refine And.intro ?_ ?_) | omega | simp (maxSteps := 1000000) only [go_sem, simprocAttr, ↓reduceIte, elemA, hel, tkR, List.length_map, cond_true, cond_false, List.cons_append, List.nil_append, kIdx, hk4, hk5, hkn])
          refine VcCall.k (kc) ?_
          (repeat' first | with_reducible (first | intro _ | refine rc ?_ | refine rl ?_ | refine rh ?_ | refine ru ?_ | refine rt ?_ | refine rf ?_ | refine rs ?_ | refine And.intro ?_ ?_) | omega | simp (maxSteps := 1000000) only [go_sem, simprocAttr, ↓reduceIte, elemA, hel, tkR, List.length_map, cond_true, cond_false, List.cons_append, List.nil_append, kIdx, hk4, hk5, e2, e3, hg1, hk4b, hk5b, hp, fxR])
          refine VcCall.io [4] kw2 (by decide) (by simp [renL, ren, ioN]) rfl (by simp [subOk, ioN, lk, Item.ren, Item.below, ren, renL, belowL, Fv.below, renR_ok, belowR_ok]) covB1 2 (by decide) rfl (by simp [rowsB, Item.below, Fv.below, belowL, belowR_ok]) ?_
          (repeat' first | with_reducible (first | intro _ | refine rc ?_ | refine rl ?_ | refine rh ?_ | refine ru ?_ | refine rt ?_ | refine rf ?_ | refine rs ?_ | refine And.intro ?_ ?_) | omega | simp (maxSteps := 1000000) only [go_sem, simprocAttr, ↓reduceIte, S.ioS, ioRows, ioN, delL, Item.ren, ren, renL, renR_ok, ren_kKs, ren_kVs, fxR, List.length_cons, List.length_nil, List.getElem?_cons_zero, List.getElem?_cons_succ, List.getElem?_nil, List.cons_append, List.nil_append, Nat.reduceAdd, Nat.sub_self, Nat.add_zero, List.filter, hp])
          refine ⟨⟨0 + 1, [z1], true⟩, Ent.auto0 rfl ?_ ?_, hinv, by dsimp only; omega⟩ <;> simp only [go_sem, reduceCtorEq, reduceIte, Nat.reduceEqDiff, Nat.reduceLT, Nat.reduceLeDiff, Int.natCast_succ, tkR, fxR, cond_true, List.cons_append, List.nil_append, hY, hYa, hbuf, hYm, ren_kKs, ren_kVs, below_kKs, below_kVs, mk_kKs, mk_kVs]
          all_goals first | rfl | omega
    · rw [Bool.not_eq_false] at hu
      subst hu
      have hbp := hu1 rfl
      simp only [cond_true, cond_false, List.cons_append, List.nil_append]
      cases z2 with
      | false =>
        simp only [Bool.false_eq_true, if_false, if_true] at hYb hYf hpn hpb
        have hbuf : byteInts Y.b = byteInts (X.b ++ z1) := by rw [hYb]
        have kw2 := writeUsed_io X.b z1 (by omega) (by omega)
        have hinv : i + 1 ≤ T.length ∧ (kw).length ≤ i + 1 ∧ (true = true → 0 < (csAll f (List.take (i + 1) T)).b.length) ∧ (true = false → i + 1 = 0) := ⟨by omega, by omega, fun _ => by rw [hY, hYb, List.length_append]; have := List.length_pos_iff.2 hpn; omega, fun h => by (cases h)⟩
        (repeat' first | with_reducible (first | intro _ | refine rc ?_ | refine rl ?_ | refine rh ?_ | refine ru ?_ | refine rt ?_ | refine rf ?_ | refine rs ?_ | refine And.intro ?_ ?_) | omega | simp (maxSteps := 1000000) only [go_sem, simprocAttr, ↓reduceIte, elemA, hel, tkR, List.length_map, cond_true, cond_false, List.cons_append, List.nil_append, kIdx, hk4, hk5])
        refine VcCall.io [4, 6] kw2 (by decide) (by simp [renL, ren, ioN]) rfl (by simp [subOk, ioN, lk, Item.ren, Item.below, ren, renL, belowL, Fv.below, renR_ok, belowR_ok]) covB2 3 (by decide) rfl (by simp [rowsB, Item.below, Fv.below, belowL, belowR_ok]) ?_
        (repeat' first | with_reducible (first | intro _ | refine rc ?_ | refine rl ?_ | refine rh ?_ | refine ru ?_ | refine rt ?_ | refine rf ?_ | refine rs ?_ | refine And.intro ?_ ?_) | omega | simp (maxSteps := 1000000) only [go_sem, simprocAttr, ↓reduceIte, S.ioS, ioRows, ioN, delL, Item.ren, ren, renL, renR_ok, ren_kKs, ren_kVs, fxR, List.length_cons, List.length_nil, List.getElem?_cons_zero, List.getElem?_cons_succ, List.getElem?_nil, List.cons_append, List.nil_append, Nat.reduceAdd, Nat.sub_self, Nat.add_zero, List.filter])
        refine ⟨⟨i + 1, kw, true⟩, Ent.auto0 rfl ?_ ?_, hinv, by dsimp only; omega⟩ <;> simp only [go_sem, reduceCtorEq, reduceIte, Nat.reduceEqDiff, Nat.reduceLT, Nat.reduceLeDiff, Int.natCast_succ, tkR, fxR, cond_true, List.cons_append, List.nil_append, hY, hYa, hbuf, hYf, ren_kKs, ren_kVs, below_kKs, below_kVs, mk_kKs, mk_kVs]
        all_goals first | rfl | omega
      | true =>
        have kc := kc z1 (t2 rfl)
        simp only [if_true] at hYb hYf hpb hpn
        by_cases hkn : z1 ∈ kw
        · have hg1 := kGet f hkn
          generalize hfz : f z1 = p at *
          have hbuf : byteInts Y.b = byteInts (X.b ++ p) := by rw [hYb]
          have kw2 := writeUsed_io X.b p (by omega) (by omega)
          have hinv : i + 1 ≤ T.length ∧ (kw).length ≤ i + 1 ∧ (true = true → 0 < (csAll f (List.take (i + 1) T)).b.length) ∧ (true = false → i + 1 = 0) := ⟨by omega, by omega, fun _ => by rw [hY, hYb, List.length_append]; have := List.length_pos_iff.2 hpn; omega, fun h => by (cases h)⟩
          by_cases hp : p = z1
          · subst hp
            rw [if_pos rfl] at hYf
            (repeat' first | with_reducible (first | intro _ | refine rc ?_ | refine rl ?_ | refine rh ?_ | refine ru ?_ | refine rt ?_ | refine rf ?_ | refine rs ?_ | refine And.intro ?_ ?_) | omega | simp (maxSteps := 1000000) only [go_sem, simprocAttr, ↓reduceIte, elemA, hel, tkR, List.length_map, cond_true, cond_false, List.cons_append, List.nil_append, kIdx, hk4, hk5, hkn, hg1, fxR])
            refine VcCall.io [4, 6] kw2 (by decide) (by simp [renL, ren, ioN]) rfl (by simp [subOk, ioN, lk, Item.ren, Item.below, ren, renL, belowL, Fv.below, renR_ok, belowR_ok]) covB2 3 (by decide) rfl (by simp [rowsB, Item.below, Fv.below, belowL, belowR_ok]) ?_
            (repeat' first | with_reducible (first | intro _ | refine rc ?_ | refine rl ?_ | refine rh ?_ | refine ru ?_ | refine rt ?_ | refine rf ?_ | refine rs ?_ | refine And.intro ?_ ?_) | omega | simp (maxSteps := 1000000) only [go_sem, simprocAttr, ↓reduceIte, S.ioS, ioRows, ioN, delL, Item.ren, ren, renL, renR_ok, ren_kKs, ren_kVs, fxR, List.length_cons, List.length_nil, List.getElem?_cons_zero, List.getElem?_cons_succ, List.getElem?_nil, List.cons_append, List.nil_append, Nat.reduceAdd, Nat.sub_self, Nat.add_zero, List.filter])
            refine ⟨⟨i + 1, kw, true⟩, Ent.auto0 rfl ?_ ?_, hinv, by dsimp only; omega⟩ <;> simp only [go_sem, reduceCtorEq, reduceIte, Nat.reduceEqDiff, Nat.reduceLT, Nat.reduceLeDiff, Int.natCast_succ, tkR, fxR, cond_true, List.cons_append, List.nil_append, hY, hYa, hbuf, hYf, ren_kKs, ren_kVs, below_kKs, below_kVs, mk_kKs, mk_kVs]
            all_goals first | rfl | omega
          · rw [if_neg hp] at hYf
            have hYm : Y.f.map Fx.av = X.f.map Fx.av ++ [[.int .i64 X.at_, .str z1, .str p]] := by rw [hYf, fx_snoc]
            (repeat' first | with_reducible (first | intro _ | refine rc ?_ | refine rl ?_ | refine rh ?_ | refine ru ?_ | refine rt ?_ | refine rf ?_ | refine rs ?_ | refine And.intro ?_ ?_) | omega | simp (maxSteps := 1000000) only [go_sem, simprocAttr, ↓reduceIte, elemA, hel, tkR, List.length_map, cond_true, cond_false, List.cons_append, List.nil_append, kIdx, hk4, hk5, hkn, hg1, hp, fxR])
            refine VcCall.io [4, 6] kw2 (by decide) (by simp [renL, ren, ioN]) rfl (by simp [subOk, ioN, lk, Item.ren, Item.below, ren, renL, belowL, Fv.below, renR_ok, belowR_ok]) covB2 3 (by decide) rfl (by simp [rowsB, Item.below, Fv.below, belowL, belowR_ok]) ?_
            (repeat' first | with_reducible (first | intro _ | refine rc ?_ | refine rl ?_ | refine rh ?_ | refine ru ?_ | refine rt ?_ | refine rf ?_ | refine rs ?_ | refine And.intro ?_ ?_) | omega | simp (maxSteps := 1000000) only [go_sem, simprocAttr, ↓reduceIte, S.ioS, ioRows, ioN, delL, Item.ren, ren, renL, renR_ok, ren_kKs, ren_kVs, fxR, List.length_cons, List.length_nil, List.getElem?_cons_zero, List.getElem?_cons_succ, List.getElem?_nil, List.cons_append, List.nil_append, Nat.reduceAdd, Nat.sub_self, Nat.add_zero, List.filter, hp])
            refine ⟨⟨i + 1, kw, true⟩, Ent.auto0 rfl ?_ ?_, hinv, by dsimp only; omega⟩ <;> simp only [go_sem, reduceCtorEq, reduceIte, Nat.reduceEqDiff, Nat.reduceLT, Nat.reduceLeDiff, Int.natCast_succ, tkR, fxR, cond_true, List.cons_append, List.nil_append, hY, hYa, hbuf, hYm, ren_kKs, ren_kVs, below_kKs, below_kVs, mk_kKs, mk_kVs]
            all_goals first | rfl | omega
        · have e2 := kUpd hkn
          have e3 := kUpdV f hkn
          have hg1 := kGet f (kw := (kw ++ [z1])) (x := z1) (by simp)
          have hk4b := kIsS f (kw ++ [z1])
          have hk5b := e5 (kw ++ [z1])
          generalize hfz : f z1 = p at *
          have hbuf : byteInts Y.b = byteInts (X.b ++ p) := by rw [hYb]
          have kw2 := writeUsed_io X.b p (by omega) (by omega)
          have hinv : i + 1 ≤ T.length ∧ ((kw ++ [z1])).length ≤ i + 1 ∧ (true = true → 0 < (csAll f (List.take (i + 1) T)).b.length) ∧ (true = false → i + 1 = 0) := ⟨by omega, by rw [List.length_append]; show _ + 1 ≤ _; omega, fun _ => by rw [hY, hYb, List.length_append]; have := List.length_pos_iff.2 hpn; omega, fun h => by (cases h)⟩
          by_cases hp : p = z1
          · subst hp
            rw [if_pos rfl] at hYf
            (repeat' first | with_reducible (first | intro _ | refine rc ?_ | refine rl ?_ | refine rh ?_ | refine ru ?_ | refine rt ?_ | refine rf ?_ | refine rs ?_ | refine And.intro ?_ ?_) | omega | simp (maxSteps := 1000000) only [go_sem, simprocAttr, ↓reduceIte, elemA, hel, tkR, List.length_map, cond_true, cond_false, List.cons_append, List.nil_append, kIdx, hk4, hk5, hkn])
            refine VcCall.k (kc) ?_
            (repeat' first | with_reducible (first | intro _ | refine rc ?_ | refine rl ?_ | refine rh ?_ | refine ru ?_ | refine rt ?_ | refine rf ?_ | refine rs ?_ | refine And.intro ?_ ?_) | omega | simp (maxSteps := 1000000) only [go_sem, simprocAttr, ↓reduceIte, elemA, hel, tkR, List.length_map, cond_true, cond_false, List.cons_append, List.nil_append, kIdx, hk4, hk5, e2, e3, hg1, hk4b, hk5b, fxR])
            refine VcCall.io [4, 6] kw2 (by decide) (by simp [renL, ren, ioN]) rfl (by simp [subOk, ioN, lk, Item.ren, Item.below, ren, renL, belowL, Fv.below, renR_ok, belowR_ok]) covB2 3 (by decide) rfl (by simp [rowsB, Item.below, Fv.below, belowL, belowR_ok]) ?_
            (repeat' first | with_reducible (first | intro _ | refine rc ?_ | refine rl ?_ | refine rh ?_ | refine ru ?_ | refine rt ?_ | refine rf ?_ | refine rs ?_ | refine And.intro ?_ ?_) | omega | simp (maxSteps := 1000000) only [go_sem, simprocAttr, ↓reduceIte, S.ioS, ioRows, ioN, delL, Item.ren, ren, renL, renR_ok, ren_kKs, ren_kVs, fxR, List.length_cons, List.length_nil, List.getElem?_cons_zero, List.getElem?_cons_succ, List.getElem?_nil, List.cons_append, List.nil_append, Nat.reduceAdd, Nat.sub_self, Nat.add_zero, List.filter])
            refine ⟨⟨i + 1, (kw ++ [p]), true⟩, Ent.auto0 rfl ?_ ?_, hinv, by dsimp only; omega⟩ <;> simp only [go_sem, reduceCtorEq, reduceIte, Nat.reduceEqDiff, Nat.reduceLT, Nat.reduceLeDiff, Int.natCast_succ, tkR, fxR, cond_true, List.cons_append, List.nil_append, hY, hYa, hbuf, hYf, ren_kKs, ren_kVs, below_kKs, below_kVs, mk_kKs, mk_kVs]
            all_goals first | rfl | omega
          · rw [if_neg hp] at hYf
            have hYm : Y.f.map Fx.av = X.f.map Fx.av ++ [[.int .i64 X.at_, .str z1, .str p]] := by rw [hYf, fx_snoc]
            (repeat' first | with_reducible (first | intro _ | refine rc ?_ | refine rl ?_ | refine rh ?_ | refine ru ?_ | refine rt ?_ | refine rf ?_ | refine rs ?_ | refine And.intro ?_ ?_) | omega | simp (maxSteps := 1000000) only [go_sem, simprocAttr, ↓reduceIte, elemA, hel, tkR, List.length_map, cond_true, cond_false, List.cons_append, List.nil_append, kIdx, hk4, hk5, hkn])
            refine VcCall.k (kc) ?_
            (repeat' first | with_reducible (first | intro _ | refine rc ?_ | refine rl ?_ | refine rh ?_ | refine ru ?_ | refine rt ?_ | refine rf ?_ | refine rs ?_ | refine And.intro ?_ ?_) | omega | simp (maxSteps := 1000000) only [go_sem, simprocAttr, ↓reduceIte, elemA, hel, tkR, List.length_map, cond_true, cond_false, List.cons_append, List.nil_append, kIdx, hk4, hk5, e2, e3, hg1, hk4b, hk5b, hp, fxR])
            refine VcCall.io [4, 6] kw2 (by decide) (by simp [renL, ren, ioN]) rfl (by simp [subOk, ioN, lk, Item.ren, Item.below, ren, renL, belowL, Fv.below, renR_ok, belowR_ok]) covB2 3 (by decide) rfl (by simp [rowsB, Item.below, Fv.below, belowL, belowR_ok]) ?_
            (repeat' first | with_reducible (first | intro _ | refine rc ?_ | refine rl ?_ | refine rh ?_ | refine ru ?_ | refine rt ?_ | refine rf ?_ | refine rs ?_ | refine And.intro ?_ ?_) | omega | simp (maxSteps := 1000000) only [go_sem, simprocAttr, ↓reduceIte, S.ioS, ioRows, ioN, delL, Item.ren, ren, renL, renR_ok, ren_kKs, ren_kVs, fxR, List.length_cons, List.length_nil, List.getElem?_cons_zero, List.getElem?_cons_succ, List.getElem?_nil, List.cons_append, List.nil_append, Nat.reduceAdd, Nat.sub_self, Nat.add_zero, List.filter, hp])
            refine ⟨⟨i + 1, (kw ++ [z1]), true⟩, Ent.auto0 rfl ?_ ?_, hinv, by dsimp only; omega⟩ <;> simp only [go_sem, reduceCtorEq, reduceIte, Nat.reduceEqDiff, Nat.reduceLT, Nat.reduceLeDiff, Int.natCast_succ, tkR, fxR, cond_true, List.cons_append, List.nil_append, hY, hYa, hbuf, hYm, ren_kKs, ren_kVs, below_kKs, below_kVs, mk_kKs, mk_kVs]
            all_goals first | rfl | omega
  · have e : i = T.length := by omega
    subst e
    rw [List.take_length] at *
    generalize hXe : csAll f T = X at *
    cases u with
    | false =>
      have hT0 : T = [] := List.eq_nil_of_length_eq_zero (hu2 rfl)
      subst hT0
      have hXe : (⟨[], [], 0⟩ : CS) = X := hXe
      subst hXe
      have kst := stringFresh_io
      simp only [cond_true, cond_false, List.cons_append, List.nil_append]
      (repeat' first | with_reducible (first | intro _ | refine rc ?_ | refine rl ?_ | refine rh ?_ | refine ru ?_ | refine rt ?_ | refine rf ?_ | refine rs ?_ | refine And.intro ?_ ?_) | omega | simp (maxSteps := 1000000) only [go_sem, simprocAttr, ↓reduceIte, tkR, List.length_map, List.length_nil, List.map_nil])
      refine VcCall.io [4] kst (by decide) (by simp [renL, ren, ioN]) rfl (by simp [subOk, ioN, lk, Item.ren, Item.below, ren, renL, belowL, Fv.below, renR_ok, belowR_ok]) covB1 1 (by decide) rfl (by simp [rowsB]) ?_
      (repeat' first | with_reducible (first | intro _ | refine rc ?_ | refine rl ?_ | refine rh ?_ | refine ru ?_ | refine rt ?_ | refine rf ?_ | refine rs ?_ | refine And.intro ?_ ?_) | omega | simp (maxSteps := 1000000) only [go_sem, simprocAttr, ↓reduceIte, S.ioS, ioRows, ioN, delL, Item.ren, ren, renL, renR_ok, ren_kKs, ren_kVs, List.length_cons, List.length_nil, List.getElem?_cons_zero, List.getElem?_cons_succ, List.getElem?_nil, List.cons_append, List.nil_append, Nat.reduceAdd, Nat.sub_self, Nat.add_zero, List.filter])
      refine Ret.auto 1 ?_ rfl ?_ <;> simp only [go_sem, reduceCtorEq, reduceIte, Nat.reduceEqDiff, Nat.reduceLT, Nat.reduceLeDiff, Int.natCast_succ, Post, fxR, List.map_nil, ren_kKs, ren_kVs, below_kKs, below_kVs, mk_kKs, mk_kVs]
    | true =>
      have kst := stringUsed_io X.b (hu1 rfl)
      simp only [cond_true, cond_false, List.cons_append, List.nil_append]
      (repeat' first | with_reducible (first | intro _ | refine rc ?_ | refine rl ?_ | refine rh ?_ | refine ru ?_ | refine rt ?_ | refine rf ?_ | refine rs ?_ | refine And.intro ?_ ?_) | omega | simp (maxSteps := 1000000) only [go_sem, simprocAttr, ↓reduceIte, tkR, List.length_map])
      refine VcCall.io [4, 6] kst (by decide) (by simp [renL, ren, ioN]) rfl (by simp [subOk, ioN, lk, Item.ren, Item.below, ren, renL, belowL, Fv.below, renR_ok, belowR_ok]) covB2 2 (by decide) rfl (by simp [rowsB]) ?_
      (repeat' first | with_reducible (first | intro _ | refine rc ?_ | refine rl ?_ | refine rh ?_ | refine ru ?_ | refine rt ?_ | refine rf ?_ | refine rs ?_ | refine And.intro ?_ ?_) | omega | simp (maxSteps := 1000000) only [go_sem, simprocAttr, ↓reduceIte, S.ioS, ioRows, ioN, delL, Item.ren, ren, renL, renR_ok, ren_kKs, ren_kVs, List.length_cons, List.length_nil, List.getElem?_cons_zero, List.getElem?_cons_succ, List.getElem?_nil, List.cons_append, List.nil_append, Nat.reduceAdd, Nat.sub_self, Nat.add_zero, List.filter])
      refine Ret.auto 1 ?_ rfl ?_ <;> simp only [go_sem, reduceCtorEq, reduceIte, Nat.reduceEqDiff, Nat.reduceLT, Nat.reduceLeDiff, Int.natCast_succ, Post, fxR, ren_kKs, ren_kVs, below_kKs, below_kVs, mk_kKs, mk_kVs]
end Go.Fv.Y

/- strings.ContainsFunc of a string: great letters. -/
namespace Go.Fv.Y
open Go Go.Proofs
set_option linter.unusedSimpArgs false
set_option linter.unusedVariables false
set_option linter.unnecessarySimpa false
set_option maxRecDepth 8000

theorem isUp_ok (r : Int) : FnOk Tryz.prog 14 [.int .i32 r] (.bool (isUpR r)) [] := by
  refine FnOk.of_vc Tryz.func14 rfl (by decide) (by simp [Tryz.f14]) [.tmp 2] rfl fun w0 T0 _ => ?_
  simp only [Tryz.f14, argEnv]
  (repeat' first | with_reducible (first | intro _ | refine rc ?_ | refine rl ?_ | refine rh ?_ | refine ru ?_ | refine rt ?_ | refine rf ?_ | refine rs ?_ | refine And.intro ?_ ?_) | omega | simp (maxSteps := 1000000) only [go_sem, simprocAttr, ↓reduceIte])
  refine Ret.auto 0 ?_ rfl ?_ <;> simp only [go_sem, reduceCtorEq, reduceIte, Nat.reduceEqDiff, Nat.reduceLT, Nat.reduceLeDiff, Int.natCast_succ, Post, isUpR]
set_option maxHeartbeats 1000000 in
theorem indexFn_ok (l : List UInt8) (hl : l.length ≤ 1000000000) :
    FnOk Tryz.prog 92 [.str l, .fn 14 [], .bool true] (.int .i64 (upI l 0)) [] := by
  refine FnOk.of_vc Tryz.func92 rfl (by decide) (by simp [Tryz.f92]) [.tmp 6] rfl fun w0 T0 _ => ?_
  simp only [Tryz.f92, argEnv]
  (repeat' first | with_reducible (first | intro _ | refine rc ?_ | refine rl ?_ | refine rh ?_ | refine ru ?_ | refine rt ?_ | refine rf ?_ | refine rs ?_ | refine And.intro ?_ ?_) | omega | simp (maxSteps := 1000000) only [go_sem, simprocAttr, ↓reduceIte])
  refine VcLoop.intro (fun p : Nat => ⟨21, [(0, .str l), (1, .fn 14 []), (2, .bool true), (10, .ptr 0 0)], [(0, .siter l p)], 1⟩) (fun p => p ≤ l.length ∧ upI l p = upI l 0) (fun p => l.length - p) 0 ?_ ⟨Nat.zero_le _, rfl⟩ fun p hI => ?_
  · refine Ent.auto0 rfl ?_ ?_ <;> simp only [go_sem, reduceCtorEq, reduceIte, Nat.reduceEqDiff, Nat.reduceLT, Nat.reduceLeDiff, Int.natCast_succ]
  obtain ⟨hp, hI⟩ := hI
  (repeat' first | with_reducible (first | intro _ | refine rc ?_ | refine rl ?_ | refine rh ?_ | refine ru ?_ | refine rt ?_ | refine rf ?_ | refine rs ?_ | refine And.intro ?_ ?_) | omega | simp (maxSteps := 1000000) only [go_sem, simprocAttr, ↓reduceIte])
  · have hlt : p < l.length := by omega
    have h1 := upI_lt hlt
    have hr := @rune_i32 l p
    obtain ⟨hw1, hw2, _⟩ := rune_cases hlt
    have k := isUp_ok (runeAt l p)
    refine VcCall.k (k) ?_
    (repeat' first | with_reducible (first | intro _ | refine rc ?_ | refine rl ?_ | refine rh ?_ | refine ru ?_ | refine rt ?_ | refine rf ?_ | refine rs ?_ | refine And.intro ?_ ?_) | omega | simp (maxSteps := 1000000) only [go_sem, simprocAttr, ↓reduceIte])
    · rename_i h2
      rw [if_pos h2] at h1
      refine Ret.auto 0 ?_ rfl ?_ <;> simp only [go_sem, reduceCtorEq, reduceIte, Nat.reduceEqDiff, Nat.reduceLT, Nat.reduceLeDiff, Int.natCast_succ, Post]
      rw [← hI, h1]
    · rename_i h2
      rw [if_neg h2] at h1
      refine ⟨p + wideAt l p, Ent.auto0 rfl ?_ ?_, ⟨by omega, by rw [← h1]; exact hI⟩, by omega⟩ <;> simp only [go_sem, reduceCtorEq, reduceIte, Nat.reduceEqDiff, Nat.reduceLT, Nat.reduceLeDiff, Int.natCast_succ]
  · have h1 := @upI_ge l p (by omega)
    refine Ret.auto 0 ?_ rfl ?_ <;> simp only [go_sem, reduceCtorEq, reduceIte, Nat.reduceEqDiff, Nat.reduceLT, Nat.reduceLeDiff, Int.natCast_succ, Post]
    rw [← hI, h1]
theorem indexFn2_ok (l : List UInt8) (hl : l.length ≤ 1000000000) :
    FnOk Tryz.prog 47 [.str l, .fn 14 []] (.int .i64 (upI l 0)) [] := by
  have k := indexFn_ok l hl
  refine FnOk.of_vc Tryz.func47 rfl (by decide) (by simp [Tryz.f47]) [.tmp 4] rfl fun w0 T0 _ => ?_
  simp only [Tryz.f47, argEnv]
  (repeat' first | with_reducible (first | intro _ | refine rc ?_ | refine rl ?_ | refine rh ?_ | refine ru ?_ | refine rt ?_ | refine rf ?_ | refine rs ?_ | refine And.intro ?_ ?_) | omega | simp (maxSteps := 1000000) only [go_sem, simprocAttr, ↓reduceIte])
  refine VcCall.k (k) ?_
  (repeat' first | with_reducible (first | intro _ | refine rc ?_ | refine rl ?_ | refine rh ?_ | refine ru ?_ | refine rt ?_ | refine rf ?_ | refine rs ?_ | refine And.intro ?_ ?_) | omega | simp (maxSteps := 1000000) only [go_sem, simprocAttr, ↓reduceIte])
  refine Ret.auto 0 ?_ rfl ?_ <;> simp only [go_sem, reduceCtorEq, reduceIte, Nat.reduceEqDiff, Nat.reduceLT, Nat.reduceLeDiff, Int.natCast_succ, Post]
theorem contFn_ok (l : List UInt8) (hl : l.length ≤ 1000000000) :
    FnOk Tryz.prog 13 [.str l, .fn 14 []] (.bool (decide (0 ≤ upI l 0))) [] := by
  have k := indexFn2_ok l hl
  refine FnOk.of_vc Tryz.func13 rfl (by decide) (by simp [Tryz.f13]) [.tmp 4] rfl fun w0 T0 _ => ?_
  simp only [Tryz.f13, argEnv]
  (repeat' first | with_reducible (first | intro _ | refine rc ?_ | refine rl ?_ | refine rh ?_ | refine ru ?_ | refine rt ?_ | refine rf ?_ | refine rs ?_ | refine And.intro ?_ ?_) | omega | simp (maxSteps := 1000000) only [go_sem, simprocAttr, ↓reduceIte])
  refine VcCall.k (k) ?_
  (repeat' first | with_reducible (first | intro _ | refine rc ?_ | refine rl ?_ | refine rh ?_ | refine ru ?_ | refine rt ?_ | refine rf ?_ | refine rs ?_ | refine And.intro ?_ ?_) | omega | simp (maxSteps := 1000000) only [go_sem, simprocAttr, ↓reduceIte])
  refine Ret.auto 0 ?_ rfl ?_ <;> simp only [go_sem, reduceCtorEq, reduceIte, Nat.reduceEqDiff, Nat.reduceLT, Nat.reduceLeDiff, Int.natCast_succ, Post]
end Go.Fv.Y

/- strings.Count at any substring but the empty one. -/
namespace Go.Fv.Y
open Go Go.Proofs
set_option linter.unusedSimpArgs false
set_option linter.unusedVariables false
set_option linter.unnecessarySimpa false
set_option maxRecDepth 8000

theorem count2_ok (s t : List UInt8) (hs : s.length ≤ 1048576) (ht : 2 ≤ t.length) : FnOk Tryz.prog 43 [.str s, .str t] (.int .i64 ((Lib.count s t : Nat) : Int)) [] := by
  refine ⟨⟨_, Tryz.func43, by kernel_rfl, by kernel_rfl⟩, fun w T vals hg hv => ?_⟩
  obtain ⟨m, t0, _, hm⟩ := hg.int (g := 0) (k := .i64) (by kernel_rfl)
  cases hv with
  | cons _ _ _ _ h1 hv => cases hv with
    | cons _ _ _ _ h2 hv =>
      cases hv
      cases h1 with
      | str _ e1 => cases h2 with
        | str _ e2 =>
          have L := Tryz.lays138
          refine (Any.strings_Count { L with } ⟨s.toArray⟩ ⟨t.toArray⟩ m w ?_ ?_ ?_).mono ?_
          · show s.toArray.size < 4294967281
            simp; omega
          · simp [World.cell?, Tryz.lays138_ren, hm]
          · show 2 ≤ t.toArray.size
            simp; omega
          · rintro e w' ⟨rfl, rfl⟩
            have hc := Lib.count_le s t
            refine ⟨_, rfl, BelowD.refl _ _, fun _ => undef, 0, ?_, ?_, ?_⟩
            · have e1 : IntKind.i64.min = -9223372036854775808 := by decide
              have e2 : IntKind.i64.max = 9223372036854775807 := by decide
              exact .int .i64 _ ⟨by rw [e1]; omega, by rw [e2]; omega⟩
            · intro i it h; cases h
            · intro i j it jt b h; cases h
theorem countN_ok (s t : List UInt8) (hs : s.length ≤ 1048576) (ht : 1 ≤ t.length) : FnOk Tryz.prog 43 [.str s, .str t] (.int .i64 ((Lib.count s t : Nat) : Int)) [] := by
  match t, ht with
  | [c], _ => rw [Lib.count_one]; exact count_ok s c
  | a :: b :: r, _ => exact count2_ok s _ hs (by simp)
end Go.Fv.Y

/- strings.Builder: Grow at a fresh builder. -/
namespace Go.Fv.Y
open Go Go.Proofs Go.RowKit
set_option linter.unusedSimpArgs false
set_option linter.unusedVariables false
set_option linter.unnecessarySimpa false
set_option maxRecDepth 8000

theorem ntG : Tryz.f89.ntmps = 30 := rfl
theorem sizeBy : (Tryz.prog.info? 5).map (·.size) = some 1 := by kernel_rfl
set_option maxHeartbeats 2000000 in
set_option maxRecDepth 1000000 in
theorem growFresh (b n : Nat) (w : World) (hbk : w.heap[b]? = some (.cells #[.pointer (some ⟨b, 0, none⟩), .slice none 0 0] 88 (0, 0))) (hn : n ≤ 281474976710656) :
    Calls Tryz.prog 89 #[.pointer (some ⟨b, 0, none⟩), .int .i64 n] w fun e w' => e = .returned (.tuple #[]) ∧ ∃ cs : Array Value, n ≤ cs.size ∧ cs.size ≤ maxLen ∧
      w' = ((w.setCell ⟨b, 1, none⟩ (.slice (some ⟨w.heap.size, 0, none⟩) 0 cs.size)).alloc (.cells cs 5)).drew.drew.drew := by
  obtain ⟨cs, hrun, hle, hmax⟩ := Lib.run_makeNoZero (P := Tryz.prog) w.drew #[3] 86 5 Tryz.underlying86 n hn
  have hw : IntKind.i64.wrap (IntKind.i64.wrap 0 + (n : Int)) = n := by
    rw [IntKind.wrap_i64, IntKind.wrap_i64]
    omega
  have hcall : (callFunc 127 #[.int .i64 (IntKind.i64.wrap (IntKind.i64.wrap 0 + (n : Int)))]).run Tryz.prog w.drew = .ok (.value (.slice (some ⟨w.drew.heap.size, 0, none⟩) n cs.size)) (w.drew.drew.drew.alloc (.cells cs 5)) := by
    rw [hw, run_callFunc_extern Tryz.func127 (by kernel_rfl) (by kernel_rfl) (by kernel_rfl) (e := Extern.BytealgMakeNoZero.makeNoZero #[3] #[86]) (by kernel_rfl), hrun]
    rfl
  have hlt : b < w.heap.size := by
    rcases Nat.lt_or_ge b w.heap.size with h' | h'
    · exact h'
    · simp [Array.getElem?_eq_none h'] at hbk
  have c1 : w.drew.cell? ⟨b, 1, none⟩ = some (.slice none 0 0) := by
    have : w.drew.heap[b]? = _ := hbk
    rw [Lib.cell_of_heap this]; rfl
  have c2 : (w.alloc (.cells cs 5)).cell? ⟨b, 1, none⟩ = some (.slice none 0 0) := by
    have : (w.alloc (.cells cs 5)).heap[b]? = _ := (Lib.alloc_old w _ b hlt).trans hbk
    rw [Lib.cell_of_heap this]; rfl
  have f2 : (w.alloc (.cells cs 5)).frozen? ⟨b, 1, none⟩ = false := by
    exact Lib.frozen_of_heap ((Lib.alloc_old w _ b hlt).trans hbk) 1
  have hcopy : ∀ W : World, (Builtin.copy_ #[86, 86] 3 #[.slice (some ⟨w.heap.size, 0, none⟩) 0 cs.size, .slice none 0 0]).run Tryz.prog W = .ok (goInt 0) W :=
    fun W => run_copy_none W 86 86 3 5 _ _ 0 cs.size 0 0 Tryz.underlying86 sizeBy rfl
  clear hw
  have t70 := Tryz.underlying85
  have t72 := Tryz.underlying88
  have a72 := Tryz.isAgg88
  have z72 := Tryz.sizeOf88
  have a70 := Tryz.isAgg85
  have z70 := Tryz.sizeOf85
  have t37 := Tryz.underlying86
  have a37 := Tryz.isAgg86
  have z37 := Tryz.sizeOf86
  have t3 := Tryz.underlying3
  have a3 := Tryz.isAgg3
  have z3 := Tryz.sizeOf3
  have t5 := Tryz.underlying5
  have a5 := Tryz.isAgg5
  have z5 := Tryz.sizeOf5
  have hf := Tryz.func89
  have mixed : Tryz.prog.follows .mixedOrders = true := by kernel_rfl
  have u70 := run_underlying t70
  have u72 := run_underlying t72
  have u37 := run_underlying t37
  have u3 := run_underlying t3
  have u5 := run_underlying t5
  have hm1 := hmax
  have hnt := ntG
  generalize Tryz.prog = P at *
  go_enter hf, hnt
  go_wp2
  go_region_o
  all_goals (go_wp2; go_end0; exact ⟨rfl, cs, hle, hm1 (by unfold maxLen; omega), rfl⟩)
end Go.Fv.Y

/- strings.Builder: Grow of a fresh builder, for a caller. -/
namespace Go.Fv.Y
open Go Go.Proofs Go.RowKit
set_option linter.unusedSimpArgs false
set_option linter.unusedVariables false
set_option linter.unnecessarySimpa false
set_option maxRecDepth 8000

theorem setCell1 (w : World) (g : Nat) (a b v : Value) (t : TypeId) (h : w.heap[g]? = some (.cells #[a, b] t (0, 0))) : (w.setCell ⟨g, 1, none⟩ v).heap[g]? = some (.cells #[a, v] t (0, 0)) := by
  unfold World.setCell
  simp [h, Array.getElem?_modify]
theorem setCell1_other (w : World) (g k : Nat) (v : Value) (h : k ≠ g) : (w.setCell ⟨g, 1, none⟩ v).heap[k]? = w.heap[k]? := by
  unfold World.setCell
  simp only [Array.getElem?_modify]
  rw [if_neg (fun e => h e.symm)]
theorem grow_io (n : Nat) (hn : n ≤ 281474976710656) : FnIO Tryz.prog 89 [.ptr 0 0, .int .i64 n] [(0, .box 88 [.ptr 0 0, .nilS])] 1 (.tup []) [(0, .box 88 [.ptr 0 0, .own 1]), (1, .row 5 (.ints .u8 []))] := by
  refine ⟨⟨_, Tryz.func89, by kernel_rfl, by kernel_rfl⟩, fun w T g m0 vals ⟨hrow, _, hd⟩ hgl hng hv => ?_⟩
  obtain ⟨_, g0, vs, hm, hO, hl, hh⟩ := hrow 0 _ rfl
  cases hv with
  | cons _ v0 _ vs0 h0 hvs =>
  cases hvs with
  | cons _ v1 _ vs1 h1 hvs =>
  cases hvs
  cases h1
  cases h0 with
  | ptr _ _ gp hi hg =>
  have hg : blk (m0 0) = some gp := hg
  rw [hm] at hg
  cases hg
  cases hl with
  | cons _ a _ _ ha _ hl =>
  cases ha with
  | ptr _ _ ga _ hga =>
  have hga : blk (m0 0) = some ga := hga
  rw [hm] at hga
  cases hga
  cases hl with
  | cons _ b _ _ hb _ hl =>
  cases hb
  cases hl
  have hh' : w.heap[g0]? = some (.cells #[.pointer (some ⟨g0, 0, none⟩), .slice none 0 0] 88 (0, 0)) := hh
  have hlt : g0 < w.heap.size := (Array.getElem?_eq_some_iff.1 hh').1
  refine (growFresh g0 n w hh' hn).mono ?_
  rintro e w' ⟨rfl, cs, hc1, hc2, rfl⟩
  have hsz : (w.setCell ⟨g0, 1, none⟩ (.slice (some ⟨w.heap.size, 0, none⟩) 0 cs.size)).heap.size = w.heap.size := by simp [World.setCell]
  have hat : ∀ k, k < w.heap.size → (((w.setCell ⟨g0, 1, none⟩ (.slice (some ⟨w.heap.size, 0, none⟩) 0 cs.size)).alloc (.cells cs 5)).drew.drew.drew).heap[k]? = (w.setCell ⟨g0, 1, none⟩ (.slice (some ⟨w.heap.size, 0, none⟩) 0 cs.size)).heap[k]? :=
    fun k hk => Below.heap_alloc _ _ k (by rw [hsz]; exact hk)
  have hnew : (((w.setCell ⟨g0, 1, none⟩ (.slice (some ⟨w.heap.size, 0, none⟩) 0 cs.size)).alloc (.cells cs 5)).drew.drew.drew).heap[w.heap.size]? = some (.cells cs 5) := by
    have := heap_alloc_new (w.setCell ⟨g0, 1, none⟩ (.slice (some ⟨w.heap.size, 0, none⟩) 0 cs.size)) (.cells cs 5)
    rw [hsz] at this
    exact this
  have hm0 : Fv.upd m0 1 (.slice (some ⟨w.heap.size, 0, none⟩) 0 cs.size) 0 = m0 0 := by rfl
  have hm1 : Fv.upd m0 1 (.slice (some ⟨w.heap.size, 0, none⟩) 0 cs.size) 1 = .slice (some ⟨w.heap.size, 0, none⟩) 0 cs.size := by rfl
  refine ⟨_, rfl, ⟨rfl, rfl, rfl, ?_, ?_, fun k hk hn => ?_⟩, Fv.upd m0 1 (.slice (some ⟨w.heap.size, 0, none⟩) 0 cs.size), 2, fun i hi => ?_, by decide, .tup [] [] .nil, fun i it hi => ?_, fun i j it jt b hi hj h1 h2 => ?_⟩
  · show w.heap.size ≤ ((w.setCell _ _).heap.push _).size
    rw [Array.size_push, hsz]; exact Nat.le_succ _
  · show w.drawn ≤ w.drawn + 1 + 1 + 1
    omega
  · rw [hat k hk]; exact setCell1_other w g0 k _ fun e => hn (e ▸ hO)
  · obtain rfl : i = 0 := by omega
    exact hm0
  · rcases lk2 hi with ⟨rfl, rfl⟩ | ⟨rfl, rfl⟩
    · refine ⟨by decide, g0, [.pointer (some ⟨g0, 0, none⟩), .slice (some ⟨w.heap.size, 0, none⟩) 0 cs.size], by rw [hm0, hm], .inr ⟨hO, .inr hO⟩, ?_, ?_⟩
      · exact .cons _ _ _ _ (.ptr 0 0 g0 (show 0 < 2 by decide) (by show blk (Fv.upd m0 1 (.slice (some ⟨w.heap.size, 0, none⟩) 0 cs.size) 0) = some g0; rw [hm0, hm]; rfl)) rfl (.cons _ _ _ _ (.own 1 (show 1 < 2 by decide) rfl) rfl .nil)
      · rw [hat g0 hlt]
        exact setCell1 w g0 _ _ _ _ hh'
    · refine ⟨by decide, 0, [], .ints _ _ (fun x hx => by cases hx), rfl, ?_, fun b hb => ?_⟩
      · rw [hm1]
        exact ⟨by simp, .inr ⟨_, _, cs, (0, 0), rfl, .inl rfl, hnew, Nat.zero_le _, hc2, (Nat.mul_one _).symm, rfl⟩⟩
      · rw [hm1] at hb
        cases hb
        exact .inl (Nat.le_refl _)
  · have hne : g0 ≠ w.heap.size := by omega
    rcases lk2 hi with ⟨rfl, rfl⟩ | ⟨rfl, rfl⟩ <;> rcases lk2 hj with ⟨rfl, rfl⟩ | ⟨rfl, rfl⟩
    · rfl
    · rw [hm0, hm] at h1; rw [hm1] at h2; cases h1; cases h2; exact absurd rfl hne
    · rw [hm0, hm] at h2; rw [hm1] at h1; cases h1; cases h2; exact absurd rfl hne
    · rfl
set_option maxHeartbeats 4000000 in
theorem Grow_io (n : Nat) (h0 : 1 ≤ n) (hn : n ≤ 281474976710656) : FnIO Tryz.prog 44 [.ptr 0 0, .int .i64 n] [(0, .box 88 [.raw (.pointer none), .nilS])] 1 (.tup []) [(0, .box 88 [.ptr 0 0, .own 1]), (1, .row 5 (.ints .u8 []))] := by
  have k := copyFresh_io
  have k2 := grow_io n hn
  refine FnIO.of_vc Tryz.func44 rfl (by decide) (by simp [Tryz.f44]) covB1 [] rfl fun w0 T0 _ => ?_
  simp only [Tryz.f44, argEnv]
  (repeat' first | with_reducible (first | intro _ | refine rc ?_ | refine rl ?_ | refine rh ?_ | refine ru ?_ | refine rt ?_ | refine rf ?_ | refine rs ?_ | refine And.intro ?_ ?_) | omega | simp (maxSteps := 1000000) only [go_sem, simprocAttr, ↓reduceIte])
  refine VcCall.io [0] k (by decide) (by simp [renL, ren, ioN]) rfl (by simp [subOk, ioN, lk, Item.ren, Item.below, ren, renL, belowL, Fv.below]) covB1 1 (by decide) rfl (by simp [rowsB, Item.below, Fv.below, belowL]) ?_
  (repeat' first | with_reducible (first | intro _ | refine rc ?_ | refine rl ?_ | refine rh ?_ | refine ru ?_ | refine rt ?_ | refine rf ?_ | refine rs ?_ | refine And.intro ?_ ?_) | omega | simp (maxSteps := 1000000) only [go_sem, simprocAttr, ↓reduceIte, S.ioS, ioRows, ioN, delL, Item.ren, ren, renL, List.length_cons, List.length_nil, List.getElem?_cons_zero, List.getElem?_cons_succ, List.getElem?_nil, List.cons_append, List.nil_append, Nat.reduceAdd, Nat.sub_self, Nat.add_zero, List.filter, zrow])
  refine VcDraw.lex [] [] (by kernel_rfl) (by kernel_rfl) ?_
  (repeat' first | with_reducible (first | intro _ | refine rc ?_ | refine rl ?_ | refine rh ?_ | refine ru ?_ | refine rt ?_ | refine rf ?_ | refine rs ?_ | refine And.intro ?_ ?_) | omega | simp (maxSteps := 1000000) only [go_sem, simprocAttr, ↓reduceIte])
  refine QV.intro (.int .i64 0) ?_ ?_
  · (repeat' first | with_reducible (first | intro _ | refine rc ?_ | refine rl ?_ | refine rh ?_ | refine ru ?_ | refine rt ?_ | refine rf ?_ | refine rs ?_ | refine And.intro ?_ ?_) | omega | simp (maxSteps := 1000000) only [go_sem, simprocAttr, ↓reduceIte])
  (repeat' first | with_reducible (first | intro _ | refine rc ?_ | refine rl ?_ | refine rh ?_ | refine ru ?_ | refine rt ?_ | refine rf ?_ | refine rs ?_ | refine And.intro ?_ ?_) | omega | simp (maxSteps := 1000000) only [go_sem, simprocAttr, ↓reduceIte])
  refine VcCall.io [0] k2 (by decide) (by simp [renL, ren, ioN]) rfl (by simp [subOk, ioN, lk, Item.ren, Item.below, ren, renL, belowL, Fv.below]) covB1 2 (by decide) rfl (by simp [rowsB, Item.below, Fv.below, belowL, belowR_ok]) ?_
  (repeat' first | with_reducible (first | intro _ | refine rc ?_ | refine rl ?_ | refine rh ?_ | refine ru ?_ | refine rt ?_ | refine rf ?_ | refine rs ?_ | refine And.intro ?_ ?_) | omega | simp (maxSteps := 1000000) only [go_sem, simprocAttr, ↓reduceIte, S.ioS, ioRows, ioN, delL, Item.ren, ren, renL, renR_ok, List.length_cons, List.length_nil, List.getElem?_cons_zero, List.getElem?_cons_succ, List.getElem?_nil, List.cons_append, List.nil_append, Nat.reduceAdd, Nat.sub_self, Nat.add_zero, List.filter, zrow])
  refine RetK.of [(1, 1)] 2 (by decide) (by decide) ?_ rfl ?_ <;> simp only [go_sem, reduceCtorEq, reduceIte, Nat.reduceEqDiff, Nat.reduceLT, Nat.reduceLeDiff, Int.natCast_succ, renR_ok, belowR_ok]
end Go.Fv.Y

/- strings.Replace, of one place. -/
namespace Go.Fv.Y
open Go Go.Proofs
set_option linter.unusedSimpArgs false
set_option linter.unusedVariables false
set_option linter.unnecessarySimpa false
set_option maxRecDepth 8000

/-- A string with the first place of `f` written anew. -/
def replL (s f t : List UInt8) : List UInt8 := if Lib.index s f = -1 then s else s.take (Lib.index s f).toNat ++ (t ++ s.drop ((Lib.index s f).toNat + f.length))
theorem index_room {s f : List UInt8} (hf : f ≠ []) (h : ¬ Lib.index s f = -1) : (Lib.index s f).toNat + f.length ≤ s.length ∧ 0 ≤ Lib.index s f := by
  have h0 := Lib.index_ge s f
  refine ⟨?_, by omega⟩
  rcases Lib.indexB_cases ⟨s.toArray⟩ ⟨f.toArray⟩ with e | ⟨i, e, hi⟩
  · exact absurd e h
  · have e : Lib.index s f = (i : Int) := e
    have hi : i + f.length ≤ s.length := hi
    rw [e]; simpa using hi
theorem replL_len (s f t : List UInt8) (hf : f ≠ []) : (replL s f t).length ≤ s.length + t.length := by
  unfold replL
  split
  · omega
  · rename_i h
    have := index_room hf h
    simp only [List.length_append, List.length_take, List.length_drop]; omega
theorem count_pos {s f : List UInt8} (hf : f ≠ []) : Lib.count s f = 0 ↔ Lib.index s f = -1 := by
  constructor
  · intro h
    rcases Classical.em (Lib.index s f = -1) with e | e
    · exact e
    · have h1 := index_room hf e
      have := Lib.count_hit (i := (Lib.index s f).toNat) hf (by omega : Lib.index s f = _)
      omega
  · exact Lib.count_miss
structure RP where
  j : Nat
  b : List UInt8
  st : Nat
set_option maxHeartbeats 8000000 in
theorem replace_ok (s f t : List UInt8) (hs : s.length ≤ 100000) (hf : f ≠ []) (hfl : f.length ≤ 10) (ht : t ≠ []) (htl : t.length ≤ 10) (hne : f ≠ t) : FnOk Tryz.prog 12 [.str s, .str f, .str t, .int .i64 1] (.str (replL s f t)) [] := by
  have k1 := countN_ok s f (by omega) (List.length_pos_iff.2 hf)
  have hc0 := @count_pos s f hf
  have hcl := Lib.count_le s f
  have hfp : 0 < f.length := List.length_pos_iff.2 hf
  have htp : 0 < t.length := List.length_pos_iff.2 ht
  refine FnOk.of_vc Tryz.func12 rfl (by decide) (by simp [Tryz.f12]) [.tmp 8] rfl fun w0 T0 _ => ?_
  simp only [Tryz.f12, argEnv]
  (repeat' first | with_reducible (first | intro _ | refine rc ?_ | refine rl ?_ | refine rh ?_ | refine ru ?_ | refine rt ?_ | refine rf ?_ | refine rs ?_ | refine And.intro ?_ ?_) | omega | simp (maxSteps := 1000000) only [go_sem, simprocAttr, ↓reduceIte, hne])
  refine VcCall.k (k1) ?_
  by_cases h0 : Lib.index s f = -1
  · have hz : Lib.count s f = 0 := hc0.2 h0
    have hr : replL s f t = s := by unfold replL; rw [if_pos h0]
    rw [hz]
    (repeat' first | with_reducible (first | intro _ | refine rc ?_ | refine rl ?_ | refine rh ?_ | refine ru ?_ | refine rt ?_ | refine rf ?_ | refine rs ?_ | refine And.intro ?_ ?_) | omega | simp (maxSteps := 1000000) only [go_sem, simprocAttr, ↓reduceIte])
    refine Ret.auto 0 ?_ rfl ?_ <;> simp only [go_sem, reduceCtorEq, reduceIte, Nat.reduceEqDiff, Nat.reduceLT, Nat.reduceLeDiff, Int.natCast_succ, Post, hr]
  have hz : ¬ Lib.count s f = 0 := fun e => h0 (hc0.1 e)
  obtain ⟨hi1, hi2⟩ := index_room hf h0
  have ki := index_ok s f (by omega)
  obtain ⟨i, hi⟩ : ∃ i : Nat, Lib.index s f = i := ⟨(Lib.index s f).toNat, by omega⟩
  have hr : replL s f t = s.take i ++ (t ++ s.drop (i + f.length)) := by unfold replL; rw [if_neg h0, hi]; rfl
  rw [hi] at ki hi1 hi2 h0
  simp only [Int.toNat_natCast] at hi1
  generalize Lib.count s f = C at *
  have hn : ((s.length : Int) + 1 * ((t.length : Int) - (f.length : Int))) = ((s.length + t.length - f.length : Nat) : Int) := by omega
  have kg := Grow_io (s.length + t.length - f.length) (by omega) (by omega)
  (repeat' first | with_reducible (first | intro _ | refine rc ?_ | refine rl ?_ | refine rh ?_ | refine ru ?_ | refine rt ?_ | refine rf ?_ | refine rs ?_ | refine And.intro ?_ ?_) | omega | simp (maxSteps := 1000000) only [go_sem, simprocAttr, ↓reduceIte, hn])
  refine VcCall.io [0] kg (by decide) (by simp [renL, ren, ioN]) rfl (by simp [subOk, ioN, lk, Item.ren, Item.below, ren, renL, belowL, Fv.below]) covB1 2 (by decide) rfl (by simp [rowsB, Item.below, Fv.below, belowL, belowR_ok]) ?_
  (repeat' first | with_reducible (first | intro _ | refine rc ?_ | refine rl ?_ | refine rh ?_ | refine ru ?_ | refine rt ?_ | refine rf ?_ | refine rs ?_ | refine And.intro ?_ ?_) | omega | simp (maxSteps := 1000000) only [go_sem, simprocAttr, ↓reduceIte, S.ioS, ioRows, ioN, delL, Item.ren, ren, renL, renR_ok, List.length_cons, List.length_nil, List.getElem?_cons_zero, List.getElem?_cons_succ, List.getElem?_nil, List.cons_append, List.nil_append, Nat.reduceAdd, Nat.sub_self, Nat.add_zero, List.filter, zrow])
  refine VcLoop.intro (fun x : RP => ⟨104, [(0, .str s), (1, .str f), (2, .str t), (10, .ptr 0 0), (11, .int .i64 x.st), (52, .int .i64 1), (53, .int .i64 x.j)], [(0, .box 88 [.ptr 0 0, .own 1]), (1, .row 5 (.ints .u8 (byteInts x.b)))], 2⟩) (fun x => (x.j = 0 ∧ x.b = [] ∧ x.st = 0) ∨ (x.j = 1 ∧ x.b = s.take i ++ t ∧ x.st = i + f.length)) (fun x => 1 - x.j) ⟨0, [], 0⟩ ?_ (.inl ⟨rfl, rfl, rfl⟩) fun x hx => ?_
  · refine Ent.auto0 rfl ?_ ?_ <;> simp only [go_sem, reduceCtorEq, reduceIte, Nat.reduceEqDiff, Nat.reduceLT, Nat.reduceLeDiff, Int.natCast_succ, byteInts, List.map_nil]
  obtain ⟨j, b, st⟩ := x
  dsimp only at hx ⊢
  rcases hx with ⟨rfl, rfl, rfl⟩ | ⟨rfl, rfl, rfl⟩
  · have kw1 := writeUsed_io [] (s.take i) (by simp) (by simp; omega)
    have kw2 := writeUsed_io ([] ++ s.take i) t (by simp; omega) (by omega)
    (repeat' first | with_reducible (first | intro _ | refine rc ?_ | refine rl ?_ | refine rh ?_ | refine ru ?_ | refine rt ?_ | refine rf ?_ | refine rs ?_ | refine And.intro ?_ ?_) | omega | simp (maxSteps := 1000000) only [go_sem, simprocAttr, ↓reduceIte, List.drop_zero, Nat.sub_zero, List.take_length, Int.zero_add, Int.toNat_natCast])
    refine VcCall.fr (args' := [.str s, .str f]) (FnFr.of_ok ki rfl rfl) (by simp only [noIdR_ok, argOkL, argOk, allOk, argOkN, List.drop_zero, lk, reduceIte, reduceCtorEq, Nat.reduceEqDiff, Option.some.injEq, Item.row.injEq, Item.box.injEq, AV.ro.injEq, exists_eq_left, exists_and_left, exists_eq_left', exists_eq_right, and_assoc, and_true, true_and, List.cons.injEq, exists_eq', exists_eq]) 0 rfl (by simp [rowsB, Item.below, Fv.below, belowL, belowR_ok]) ?_
    (repeat' first | with_reducible (first | intro _ | refine rc ?_ | refine rl ?_ | refine rh ?_ | refine ru ?_ | refine rt ?_ | refine rf ?_ | refine rs ?_ | refine And.intro ?_ ?_) | omega | simp (maxSteps := 1000000) only [go_sem, simprocAttr, ↓reduceIte, List.drop_zero, Nat.sub_zero, List.take_length, Int.zero_add, Int.toNat_natCast])
    refine VcCall.io [0, 1] kw1 (by decide) (by simp [renL, ren, ioN]) rfl (by simp [subOk, ioN, lk, Item.ren, Item.below, ren, renL, belowL, Fv.below, renR_ok, belowR_ok]) covB2 3 (by decide) rfl (by simp [rowsB, Item.below, Fv.below, belowL, belowR_ok]) ?_
    (repeat' first | with_reducible (first | intro _ | refine rc ?_ | refine rl ?_ | refine rh ?_ | refine ru ?_ | refine rt ?_ | refine rf ?_ | refine rs ?_ | refine And.intro ?_ ?_) | omega | simp (maxSteps := 1000000) only [go_sem, simprocAttr, ↓reduceIte, S.ioS, ioRows, ioN, delL, Item.ren, ren, renL, renR_ok, List.length_cons, List.length_nil, List.getElem?_cons_zero, List.getElem?_cons_succ, List.getElem?_nil, List.cons_append, List.nil_append, Nat.reduceAdd, Nat.sub_self, Nat.add_zero, List.filter, zrow])
    refine VcCall.io [0, 2] kw2 (by decide) (by simp [renL, ren, ioN]) rfl (by simp [subOk, ioN, lk, Item.ren, Item.below, ren, renL, belowL, Fv.below, renR_ok, belowR_ok]) covB2 3 (by decide) rfl (by simp [rowsB, Item.below, Fv.below, belowL, belowR_ok]) ?_
    (repeat' first | with_reducible (first | intro _ | refine rc ?_ | refine rl ?_ | refine rh ?_ | refine ru ?_ | refine rt ?_ | refine rf ?_ | refine rs ?_ | refine And.intro ?_ ?_) | omega | simp (maxSteps := 1000000) only [go_sem, simprocAttr, ↓reduceIte, S.ioS, ioRows, ioN, delL, Item.ren, ren, renL, renR_ok, List.length_cons, List.length_nil, List.getElem?_cons_zero, List.getElem?_cons_succ, List.getElem?_nil, List.cons_append, List.nil_append, Nat.reduceAdd, Nat.sub_self, Nat.add_zero, List.filter, zrow])
    refine ⟨⟨1, s.take i ++ t, i + f.length⟩, Ent.auto0 rfl ?_ ?_, .inr ⟨rfl, rfl, rfl⟩, by simp⟩ <;> simp only [go_sem, reduceCtorEq, reduceIte, Nat.reduceEqDiff, Nat.reduceLT, Nat.reduceLeDiff, Int.natCast_succ, renR_ok, List.nil_append, Int.natCast_add, Int.zero_add, Int.cast_ofNat_Int]
  · have kw1 := writeUsed_io (s.take i ++ t) (s.drop (i + f.length)) (by simp; omega) (by simp; omega)
    have ks := stringUsed_io (s.take i ++ t ++ s.drop (i + f.length)) (by simp; omega)
    have hdr : List.take (s.length - (i + f.length)) (List.drop (i + f.length) s) = List.drop (i + f.length) s := List.take_of_length_le (by simp)
    (repeat' first | with_reducible (first | intro _ | refine rc ?_ | refine rl ?_ | refine rh ?_ | refine ru ?_ | refine rt ?_ | refine rf ?_ | refine rs ?_ | refine And.intro ?_ ?_) | omega | simp (maxSteps := 1000000) only [go_sem, simprocAttr, ↓reduceIte, hdr])
    refine VcCall.io [0, 1] kw1 (by decide) (by simp [renL, ren, ioN]) rfl (by simp [subOk, ioN, lk, Item.ren, Item.below, ren, renL, belowL, Fv.below, renR_ok, belowR_ok]) covB2 3 (by decide) rfl (by simp [rowsB, Item.below, Fv.below, belowL, belowR_ok]) ?_
    (repeat' first | with_reducible (first | intro _ | refine rc ?_ | refine rl ?_ | refine rh ?_ | refine ru ?_ | refine rt ?_ | refine rf ?_ | refine rs ?_ | refine And.intro ?_ ?_) | omega | simp (maxSteps := 1000000) only [go_sem, simprocAttr, ↓reduceIte, S.ioS, ioRows, ioN, delL, Item.ren, ren, renL, renR_ok, List.length_cons, List.length_nil, List.getElem?_cons_zero, List.getElem?_cons_succ, List.getElem?_nil, List.cons_append, List.nil_append, Nat.reduceAdd, Nat.sub_self, Nat.add_zero, List.filter, zrow])
    refine VcCall.io [0, 2] ks (by decide) (by simp [renL, ren, ioN]) rfl (by simp [subOk, ioN, lk, Item.ren, Item.below, ren, renL, belowL, Fv.below, renR_ok, belowR_ok]) covB2 2 (by decide) rfl (by simp [rowsB, Item.below, Fv.below, belowL, belowR_ok]) ?_
    (repeat' first | with_reducible (first | intro _ | refine rc ?_ | refine rl ?_ | refine rh ?_ | refine ru ?_ | refine rt ?_ | refine rf ?_ | refine rs ?_ | refine And.intro ?_ ?_) | omega | simp (maxSteps := 1000000) only [go_sem, simprocAttr, ↓reduceIte, S.ioS, ioRows, ioN, delL, Item.ren, ren, renL, renR_ok, List.length_cons, List.length_nil, List.getElem?_cons_zero, List.getElem?_cons_succ, List.getElem?_nil, List.cons_append, List.nil_append, Nat.reduceAdd, Nat.sub_self, Nat.add_zero, List.filter, zrow])
    refine Ret.auto 0 ?_ rfl ?_ <;> simp only [go_sem, reduceCtorEq, reduceIte, Nat.reduceEqDiff, Nat.reduceLT, Nat.reduceLeDiff, Int.natCast_succ, Post, hr, List.append_assoc]
end Go.Fv.Y
