/-
  A part of the proof of the claim: walks over the program's functions and the plain laws that these need. No condition of its own.
-/
import Derived.Test.YtpnlkjeedfmhfaaGreatDoorZBatchesCardPart10
/- SplitOf: the walk. -/
namespace Go.Fv.Z
open Go Go.Proofs
set_option linter.unusedSimpArgs false
set_option linter.unusedVariables false
set_option linter.unnecessarySimpa false
set_option maxRecDepth 8000

def stRowsR (l : List Sh) (w : Wy) (st : St) : List (Nat × Item) := match st.last with
  | some d => [(0, .box 4 [.bool true]), (1, .box 29 [.own 4]), (2, .box 22 [.ro (shs l)]), (3, .box 25 w.av), (4, .row 43 (.objs 2 (st.F.map Dc.av ++ [[.str d.kind, .own 5]]))), (5, .row 3 (.ints .i64 d.pages)), (6, .row 3 (.ints .i64 st.left))]
  | none => [(0, .box 4 [.bool false]), (1, .box 29 [.own 4]), (2, .box 22 [.ro (shs l)]), (3, .box 25 w.av), (4, .row 43 (dcs st.F)), (6, .row 3 (.ints .i64 st.left))]
def clRowsR (b : Bool) (l : List Sh) (w : Wy) (F : List Dc) (left : List Int) : List (Nat × Item) := [(0, .box 4 [.bool b]), (1, .box 29 [.own 4]), (2, .box 22 [.ro (shs l)]), (3, .box 25 w.av), (4, .row 43 (dcs F)), (6, .row 3 (.ints .i64 left))]
def reEnv (i : Nat) (l : List Sh) : List (Nat × AV) := [(15, .int .i64 i), (14, .int .i64 l.length), (13, .ro (shs l)), (9, .fn 31 [.ptr 0 0, .ptr 1 0, .ptr 2 0, .ptr 3 0]), (7, .own 6), (8, .ptr 0 0), (6, .ptr 1 0), (2, .ptr 2 0), (3, .ptr 3 0)]
def onRowsR (l : List Sh) (w : Wy) (d : Dc) (F : List Dc) (left : List Int) : List (Nat × Item) := [(0, .box 4 [.bool true]), (1, .box 29 [.own 4]), (2, .box 22 [.ro (shs l)]), (3, .box 25 w.av), (4, .row 43 (.objs 2 (F.map Dc.av ++ [[.str d.kind, .own 5]]))), (5, .row 3 (.ints .i64 d.pages)), (6, .row 3 (.ints .i64 left))]
def opRowsR (l : List Sh) (w : Wy) (d : Dc) (F : List Dc) (left : List Int) : List (Nat × Item) := [(0, .box 4 [.bool (stayB w.most d.pages.length)]), (1, .box 29 [.own 4]), (2, .box 22 [.ro (shs l)]), (3, .box 25 w.av), (4, .row 43 (.objs 2 (F.map Dc.av ++ [[.str d.kind, .own 5]]))), (5, .row 3 (.ints .i64 d.pages)), (6, .row 3 (.ints .i64 left))]
theorem Ent.fzD {w0 : World} {T0 : Bs} (b : Bool) (i : Nat) (l : List Sh) (w : Wy) (d : Dc) (F : List Dc) (left : List Int) : Ent w0 T0 0 ⟨67, reEnv i l, [(0, .box 4 [.bool b]), (1, .box 29 [.own 4]), (2, .box 22 [.ro (shs l)]), (3, .box 25 w.av), (4, .row 43 (.objs 2 (F.map Dc.av ++ [[.str d.kind, .own 5]]))), (5, .row 3 (.ints .i64 d.pages)), (6, .row 3 (.ints .i64 left))], 7⟩ ⟨67, reEnv i l, clRowsR b l w (F ++ [d]) left, 7⟩ := by
  have h := Ent.fz (w0 := w0) (T0 := T0) (b0 := 0) 5 (s := ⟨67, reEnv i l, [(0, .box 4 [.bool b]), (1, .box 29 [.own 4]), (2, .box 22 [.ro (shs l)]), (3, .box 25 w.av), (4, .row 43 (.objs 2 (F.map Dc.av ++ [[.str d.kind, .own 5]]))), (5, .row 3 (.ints .i64 d.pages)), (6, .row 3 (.ints .i64 left))], 7⟩) (e := 3) (r := .ints .i64 d.pages) rfl rfl (Nat.zero_le _)
  have e : (⟨67, reEnv i l, [(0, .box 4 [.bool b]), (1, .box 29 [.own 4]), (2, .box 22 [.ro (shs l)]), (3, .box 25 w.av), (4, .row 43 (.objs 2 (F.map Dc.av ++ [[.str d.kind, .own 5]]))), (5, .row 3 (.ints .i64 d.pages)), (6, .row 3 (.ints .i64 left))], 7⟩ : S).fz 5 (.ints .i64 d.pages) = ⟨67, reEnv i l, clRowsR b l w (F ++ [d]) left, 7⟩ := by
    simp only [S.fz, clRowsR, fzRows, reduceIte, Nat.reduceEqDiff, fzI, reduceCtorEq]
    rw [dcs_fz]
    rfl
  rw [e] at h
  exact h
theorem Ent.closeR {w0 : World} {T0 : Bs} (i : Nat) (l : List Sh) (w : Wy) (st : St) : ∃ b, Ent w0 T0 0 ⟨67, reEnv i l, stRowsR l w st, 7⟩ ⟨67, reEnv i l, clRowsR b l w st.docs st.left, 7⟩ := by
  obtain ⟨F, last, left⟩ := st
  cases last with
  | none => exact ⟨false, by simp only [stRowsR, clRowsR, St.docs, Option.toList, List.append_nil]; exact Ent.refl _⟩
  | some d => exact ⟨true, Ent.fzD true i l w d F left⟩
theorem Ent.addR {w0 : World} {T0 : Bs} (i : Nat) (l : List Sh) (w : Wy) (d : Dc) (F : List Dc) (left : List Int) : Ent w0 T0 0 ⟨67, reEnv i l, opRowsR l w d F left, 7⟩ ⟨67, reEnv i l, stRowsR l w (addD w.most d F left), 7⟩ := by
  unfold addD
  by_cases h : stayB w.most d.pages.length = true
  · rw [if_pos h]
    unfold opRowsR stRowsR
    rw [h]
    exact Ent.refl _
  · rw [if_neg h]
    rw [Bool.not_eq_true] at h
    unfold opRowsR
    rw [h]
    exact Ent.fzD false i l w d F left
set_option maxHeartbeats 8000000 in
theorem splitOf_ok (l : List Sh) (hl : l.length ≤ 1000) (hok : ∀ i, i < l.length → shErr (l.getD i Sh.zero) = 0) (w : Wy) (hw : WOk w) :
    FnOk Tryz.prog 11 [.ro (shs l), .agg w.av] (.tup [.own 0, .own 1]) [(0, .row 43 (dcs (spN l w l.length).docs)), (1, .row 3 (.ints .i64 (spN l w l.length).left))] := by
  obtain ⟨hm0, hm1, hb0, hb1, hk0, hk1⟩ := hw
  unfold Wy.av
  refine FnOk.of_vc Tryz.func11 rfl (by decide) (by simp [Tryz.f11]) [.tmp 4, .tmp 5] rfl fun w0 T0 _ => ?_
  simp only [Tryz.f11, argEnv]
  (repeat' first | with_reducible (first | refine Asm.intro fun _ => ?_ | refine Chk.g ?_ | refine AnyI.i64 fun _ _ => ?_ | refine LetW.g ?_ | refine LetW.h ?_ | refine Ite.t fun _ => ?_ | refine Ite.f fun _ => ?_ | refine Ite.decide (fun _ => ?_) fun _ => ?_ | refine Ite.bool (fun _ => ?_) fun _ => ?_ | refine And.intro ?_ ?_) | omega | simp (maxSteps := 1000000) only [go_sem, reduceCtorEq, Nat.reduceLT, Nat.reduceLeDiff, reduceIte, ↓reduceIte, Nat.reduceEqDiff, Nat.reduceAdd, Nat.reduceMul, Nat.reduceSub, Int.reduceLE, Int.reduceLT, Int.reduceNeg, Int.reduceToNat])
  refine VcLoop.run (fun i : Nat => ⟨67, reEnv i l, stRowsR l w (spN l w i), 7⟩) (fun i => i ≤ l.length) (fun i => l.length - i) 0 ?_ (Nat.zero_le _) fun i hi => ?_
  · unfold reEnv stRowsR spN Wy.av
    refine Ent.trans (Ent.nilBox (P := Tryz.prog) 4 0 43 e43 rfl rfl) (Ent.auto0 rfl ?_ ?_) <;> simp only [go_sem, reduceCtorEq, reduceIte, Nat.reduceEqDiff, Nat.reduceLT, Nat.reduceLeDiff, Int.natCast_succ, zrow, put, List.set_cons_zero, List.set_cons_succ, Nat.zero_mul, List.range_zero, List.map_nil, List.replicate_zero]
  by_cases hlt : i < l.length
  · have hsh := hok i hlt
    have hel := sh_elem l hlt
    have hst : spN l w (i + 1) = spStep (l.getD i Sh.zero) w (spN l w i) i := rfl
    have hinv := spN_inv l w i
    generalize spN l w i = st at *
    have hte := shErr_text0 hsh
    have knew := fun F (hF : F.length ≤ 1000) => refNew_ok w l F i hlt hte hk0 hF
    generalize l.getD i Sh.zero = s at *
    obtain ⟨W, H, hW0, hH0, hW1, hW2, hH1, hH2, hWH, hp⟩ := sh_dims hsh
    have kk := refKindOf_ok s hte w.rules
    have kb := refBegins_ok s w.sep
    have d1 := hinv.docs
    have d2 := hinv.left
    unfold Sh.av at kk kb
    unfold spStep at hst
    have hcl : ∀ k, st.close.add w.most i k = addD w.most ⟨k, [(i : Int)]⟩ st.docs st.left := fun _ => rfl
    rw [hcl] at hst
    by_cases hsep : sepHit s w
    · rw [if_pos hsep] at hst
      obtain ⟨hs1, hs2⟩ := hsep
      rw [hs2] at kb
      obtain ⟨b, hen⟩ := Ent.closeR (w0 := w0) (T0 := T0) i l w st
      refine VcRun.ent hen (VcRun.of ?_)
      have kn := knew st.docs (by omega)
      generalize st.docs = F at *
      generalize kindS s w.rules = kd at *
      unfold clRowsR reEnv Wy.av
      (repeat' first | with_reducible (first | refine Asm.intro fun _ => ?_ | refine Chk.g ?_ | refine AnyI.i64 fun _ _ => ?_ | refine LetW.g ?_ | refine LetW.h ?_ | refine Ite.t fun _ => ?_ | refine Ite.f fun _ => ?_ | refine Ite.decide (fun _ => ?_) fun _ => ?_ | refine Ite.bool (fun _ => ?_) fun _ => ?_ | refine And.intro ?_ ?_) | omega | simp (maxSteps := 1000000) only [go_sem, reduceCtorEq, Nat.reduceLT, Nat.reduceLeDiff, reduceIte, ↓reduceIte, Nat.reduceEqDiff, Nat.reduceAdd, Nat.reduceMul, Nat.reduceSub, Int.reduceLE, Int.reduceLT, Int.reduceNeg, Int.reduceToNat, elemA, hel, hs1])
      refine VcCall.fr (FnFr.of_ok (kb) rfl rfl) (by simp only [noIdR_ok, argOkL, argOk, allOk, argOkN, List.drop_zero, lk, reduceIte, reduceCtorEq, Nat.reduceEqDiff, Option.some.injEq, Item.row.injEq, Item.box.injEq, AV.ro.injEq, exists_eq_left, exists_and_left, exists_eq_left', exists_eq_right, and_assoc, and_true, true_and, List.cons.injEq, exists_eq', exists_eq]) 0 rfl (by simp [rowsB]) ?_
      by_cases hkp : w.keep = true
      · rw [if_pos hkp] at hst
        (repeat' first | with_reducible (first | refine Asm.intro fun _ => ?_ | refine Chk.g ?_ | refine AnyI.i64 fun _ _ => ?_ | refine LetW.g ?_ | refine LetW.h ?_ | refine Ite.t fun _ => ?_ | refine Ite.f fun _ => ?_ | refine Ite.decide (fun _ => ?_) fun _ => ?_ | refine Ite.bool (fun _ => ?_) fun _ => ?_ | refine And.intro ?_ ?_) | omega | simp (maxSteps := 1000000) only [go_sem, reduceCtorEq, Nat.reduceLT, Nat.reduceLeDiff, reduceIte, ↓reduceIte, Nat.reduceEqDiff, Nat.reduceAdd, Nat.reduceMul, Nat.reduceSub, Int.reduceLE, Int.reduceLT, Int.reduceNeg, Int.reduceToNat, hkp])
        refine VcCall.io [0, 1, 2, 3, 4] kn (by decide) (by simp [renL, ren, ioN]) rfl (by simp [subOk, ioN, lk, Item.ren, Item.below, ren, renL, belowL, Fv.below, renR_ok, belowR_ok, Wy.av, hkp]) covS5 7 (by decide) rfl ⟨⟨by decide, rfl⟩, ⟨by decide, rfl⟩, ⟨by decide, rfl⟩, ⟨by decide, rfl⟩, ⟨by decide, below_dl (by decide)⟩, ⟨by decide, rfl⟩, trivial⟩ ?_
        (repeat' first | with_reducible (first | refine Asm.intro fun _ => ?_ | refine Chk.g ?_ | refine AnyI.i64 fun _ _ => ?_ | refine LetW.g ?_ | refine LetW.h ?_ | refine Ite.t fun _ => ?_ | refine Ite.f fun _ => ?_ | refine Ite.decide (fun _ => ?_) fun _ => ?_ | refine Ite.bool (fun _ => ?_) fun _ => ?_ | refine And.intro ?_ ?_) | omega | simp (maxSteps := 1000000) only [go_sem, reduceCtorEq, Nat.reduceLT, Nat.reduceLeDiff, reduceIte, ↓reduceIte, Nat.reduceEqDiff, Nat.reduceAdd, Nat.reduceMul, Nat.reduceSub, Int.reduceLE, Int.reduceLT, Int.reduceNeg, Int.reduceToNat, S.ioS, ioRows, ioN, delL, Item.ren, ren, renL, ren_dl, List.map_nil, List.length_cons, List.length_nil, List.getElem?_cons_zero, List.getElem?_cons_succ, List.getElem?_nil, List.cons_append, List.nil_append, Nat.reduceAdd, Nat.sub_self, Nat.add_zero, List.filter, Wy.av])
        refine ⟨i + 1, ?_, by omega, by omega⟩
        rw [hst]
        refine Ent.trans (Ent.of [(4, 8), (5, 9)] (s' := ⟨67, reEnv (i + 1) l, opRowsR l w ⟨kd, [(i : Int)]⟩ F st.left, 7⟩) rfl (Nat.zero_le _) (by simp) ?_ ?_) (Ent.addR (i + 1) l w ⟨kd, [(i : Int)]⟩ F st.left)
        · unfold reEnv
          simp only [go_sem, reduceCtorEq, reduceIte, Nat.reduceEqDiff, Nat.reduceLT, Nat.reduceLeDiff, Int.natCast_succ]
        · unfold opRowsR
          simp only [go_sem, reduceCtorEq, reduceIte, Nat.reduceEqDiff, Nat.reduceLT, Nat.reduceLeDiff, Int.natCast_succ, hkp]
          exact ⟨⟨by simp [Wy.av, renL, ren, hkp], rfl⟩, by rw [ren_dl]; rfl, below_dl (by decide)⟩
      · rw [if_neg hkp] at hst
        rw [Bool.not_eq_true] at hkp
        (repeat' first | with_reducible (first | refine Asm.intro fun _ => ?_ | refine Chk.g ?_ | refine AnyI.i64 fun _ _ => ?_ | refine LetW.g ?_ | refine LetW.h ?_ | refine Ite.t fun _ => ?_ | refine Ite.f fun _ => ?_ | refine Ite.decide (fun _ => ?_) fun _ => ?_ | refine Ite.bool (fun _ => ?_) fun _ => ?_ | refine And.intro ?_ ?_) | omega | simp (maxSteps := 1000000) only [go_sem, reduceCtorEq, Nat.reduceLT, Nat.reduceLeDiff, reduceIte, ↓reduceIte, Nat.reduceEqDiff, Nat.reduceAdd, Nat.reduceMul, Nat.reduceSub, Int.reduceLE, Int.reduceLT, Int.reduceNeg, Int.reduceToNat, hkp])
        refine ⟨i + 1, ?_, by omega, by omega⟩
        rw [hst]
        show Ent w0 T0 0 _ ⟨67, _, clRowsR false l w F (st.left ++ [(i : Int)]), 7⟩
        unfold clRowsR Wy.av
        refine Ent.auto0 rfl ?_ ?_ <;> simp only [go_sem, reduceCtorEq, reduceIte, Nat.reduceEqDiff, Nat.reduceLT, Nat.reduceLeDiff, Int.natCast_succ, hkp]
    · rw [if_neg hsep] at hst
      have hsp : w.sep = [] ∨ (w.sep ≠ [] ∧ begB s.codes w.sep = false) := by
        unfold sepHit at hsep
        by_cases h : w.sep = []
        · exact .inl h
        · exact .inr ⟨h, by cases hh : begB s.codes w.sep with | false => rfl | true => exact absurd ⟨h, hh⟩ hsep⟩
      have hbS : blankS s w = blankB s.p W H w.margin.toNat w.blank := by unfold blankS; rw [hW0, hH0]; rfl
      have kB := fun h0 => refBlank_ok W H hW1 hW2 hH1 hH2 hWH s.p hp w.margin.toNat (by omega) w.blank h0 hb1
      rw [← hbS, Int.toNat_of_nonneg hm0, ← hW0, ← hH0] at kB
      by_cases hbl : blankHit s w
      · rw [if_pos hbl] at hst
        obtain ⟨hb, hb2⟩ := hbl
        have kB := kB hb
        rw [hb2] at kB
        obtain ⟨F, last, left⟩ := st
        have d2 : left.length ≤ i := d2
        generalize kindS s w.rules = kd at *
        cases last with
        | none =>
          refine VcRun.ent (s' := ⟨67, reEnv i l, clRowsR false l w F left, 7⟩) (Ent.refl _) (VcRun.of ?_)
          unfold clRowsR reEnv Wy.av
          rcases hsp with hs1 | ⟨hs1, hs2⟩
          rotate_left
          focus
            rw [hs2] at kb
            (repeat' first | with_reducible (first | refine Asm.intro fun _ => ?_ | refine Chk.g ?_ | refine AnyI.i64 fun _ _ => ?_ | refine LetW.g ?_ | refine LetW.h ?_ | refine Ite.t fun _ => ?_ | refine Ite.f fun _ => ?_ | refine Ite.decide (fun _ => ?_) fun _ => ?_ | refine Ite.bool (fun _ => ?_) fun _ => ?_ | refine And.intro ?_ ?_) | omega | simp (maxSteps := 1000000) only [go_sem, reduceCtorEq, Nat.reduceLT, Nat.reduceLeDiff, reduceIte, ↓reduceIte, Nat.reduceEqDiff, Nat.reduceAdd, Nat.reduceMul, Nat.reduceSub, Int.reduceLE, Int.reduceLT, Int.reduceNeg, Int.reduceToNat, elemA, hel, hs1, hb])
            refine VcCall.fr (FnFr.of_ok (kb) rfl rfl) (by simp only [noIdR_ok, argOkL, argOk, allOk, argOkN, List.drop_zero, lk, reduceIte, reduceCtorEq, Nat.reduceEqDiff, Option.some.injEq, Item.row.injEq, Item.box.injEq, AV.ro.injEq, exists_eq_left, exists_and_left, exists_eq_left', exists_eq_right, and_assoc, and_true, true_and, List.cons.injEq, exists_eq', exists_eq]) 0 rfl (by simp [rowsB]) ?_
            (repeat' first | with_reducible (first | refine Asm.intro fun _ => ?_ | refine Chk.g ?_ | refine AnyI.i64 fun _ _ => ?_ | refine LetW.g ?_ | refine LetW.h ?_ | refine Ite.t fun _ => ?_ | refine Ite.f fun _ => ?_ | refine Ite.decide (fun _ => ?_) fun _ => ?_ | refine Ite.bool (fun _ => ?_) fun _ => ?_ | refine And.intro ?_ ?_) | omega | simp (maxSteps := 1000000) only [go_sem, reduceCtorEq, Nat.reduceLT, Nat.reduceLeDiff, reduceIte, ↓reduceIte, Nat.reduceEqDiff, Nat.reduceAdd, Nat.reduceMul, Nat.reduceSub, Int.reduceLE, Int.reduceLT, Int.reduceNeg, Int.reduceToNat, hs1, hb])
          rotate_left
          focus
            (repeat' first | with_reducible (first | refine Asm.intro fun _ => ?_ | refine Chk.g ?_ | refine AnyI.i64 fun _ _ => ?_ | refine LetW.g ?_ | refine LetW.h ?_ | refine Ite.t fun _ => ?_ | refine Ite.f fun _ => ?_ | refine Ite.decide (fun _ => ?_) fun _ => ?_ | refine Ite.bool (fun _ => ?_) fun _ => ?_ | refine And.intro ?_ ?_) | omega | simp (maxSteps := 1000000) only [go_sem, reduceCtorEq, Nat.reduceLT, Nat.reduceLeDiff, reduceIte, ↓reduceIte, Nat.reduceEqDiff, Nat.reduceAdd, Nat.reduceMul, Nat.reduceSub, Int.reduceLE, Int.reduceLT, Int.reduceNeg, Int.reduceToNat, elemA, hel, hs1, hb])
          all_goals
            refine VcCall.fr (FnFr.of_ok (kB) rfl rfl) (by simp only [noIdR_ok, argOkL, argOk, allOk, argOkN, List.drop_zero, lk, reduceIte, reduceCtorEq, Nat.reduceEqDiff, Option.some.injEq, Item.row.injEq, Item.box.injEq, AV.ro.injEq, exists_eq_left, exists_and_left, exists_eq_left', exists_eq_right, and_assoc, and_true, true_and, List.cons.injEq, exists_eq', exists_eq]) 0 rfl (by simp [rowsB]) ?_
            (repeat' first | with_reducible (first | refine Asm.intro fun _ => ?_ | refine Chk.g ?_ | refine AnyI.i64 fun _ _ => ?_ | refine LetW.g ?_ | refine LetW.h ?_ | refine Ite.t fun _ => ?_ | refine Ite.f fun _ => ?_ | refine Ite.decide (fun _ => ?_) fun _ => ?_ | refine Ite.bool (fun _ => ?_) fun _ => ?_ | refine And.intro ?_ ?_) | omega | simp (maxSteps := 1000000) only [go_sem, reduceCtorEq, Nat.reduceLT, Nat.reduceLeDiff, reduceIte, ↓reduceIte, Nat.reduceEqDiff, Nat.reduceAdd, Nat.reduceMul, Nat.reduceSub, Int.reduceLE, Int.reduceLT, Int.reduceNeg, Int.reduceToNat])
            refine ⟨i + 1, ?_, by omega, by omega⟩
            rw [hst]
            show Ent w0 T0 0 _ ⟨67, _, clRowsR false l w F (left ++ [(i : Int)]), 7⟩
            unfold clRowsR Wy.av
            refine Ent.auto0 rfl ?_ ?_ <;> simp only [go_sem, reduceCtorEq, reduceIte, Nat.reduceEqDiff, Nat.reduceLT, Nat.reduceLeDiff, Int.natCast_succ, hs1]
        | some d =>
          refine VcRun.ent (s' := ⟨67, reEnv i l, onRowsR l w d F left, 7⟩) (Ent.refl _) (VcRun.of ?_)
          unfold onRowsR reEnv Wy.av
          rcases hsp with hs1 | ⟨hs1, hs2⟩
          rotate_left
          focus
            rw [hs2] at kb
            (repeat' first | with_reducible (first | refine Asm.intro fun _ => ?_ | refine Chk.g ?_ | refine AnyI.i64 fun _ _ => ?_ | refine LetW.g ?_ | refine LetW.h ?_ | refine Ite.t fun _ => ?_ | refine Ite.f fun _ => ?_ | refine Ite.decide (fun _ => ?_) fun _ => ?_ | refine Ite.bool (fun _ => ?_) fun _ => ?_ | refine And.intro ?_ ?_) | omega | simp (maxSteps := 1000000) only [go_sem, reduceCtorEq, Nat.reduceLT, Nat.reduceLeDiff, reduceIte, ↓reduceIte, Nat.reduceEqDiff, Nat.reduceAdd, Nat.reduceMul, Nat.reduceSub, Int.reduceLE, Int.reduceLT, Int.reduceNeg, Int.reduceToNat, elemA, hel, hs1, hb])
            refine VcCall.fr (FnFr.of_ok (kb) rfl rfl) (by simp only [noIdR_ok, argOkL, argOk, allOk, argOkN, List.drop_zero, lk, reduceIte, reduceCtorEq, Nat.reduceEqDiff, Option.some.injEq, Item.row.injEq, Item.box.injEq, AV.ro.injEq, exists_eq_left, exists_and_left, exists_eq_left', exists_eq_right, and_assoc, and_true, true_and, List.cons.injEq, exists_eq', exists_eq]) 0 rfl (by simp [rowsB]) ?_
            (repeat' first | with_reducible (first | refine Asm.intro fun _ => ?_ | refine Chk.g ?_ | refine AnyI.i64 fun _ _ => ?_ | refine LetW.g ?_ | refine LetW.h ?_ | refine Ite.t fun _ => ?_ | refine Ite.f fun _ => ?_ | refine Ite.decide (fun _ => ?_) fun _ => ?_ | refine Ite.bool (fun _ => ?_) fun _ => ?_ | refine And.intro ?_ ?_) | omega | simp (maxSteps := 1000000) only [go_sem, reduceCtorEq, Nat.reduceLT, Nat.reduceLeDiff, reduceIte, ↓reduceIte, Nat.reduceEqDiff, Nat.reduceAdd, Nat.reduceMul, Nat.reduceSub, Int.reduceLE, Int.reduceLT, Int.reduceNeg, Int.reduceToNat, hs1, hb])
          rotate_left
          focus
            (repeat' first | with_reducible (first | refine Asm.intro fun _ => ?_ | refine Chk.g ?_ | refine AnyI.i64 fun _ _ => ?_ | refine LetW.g ?_ | refine LetW.h ?_ | refine Ite.t fun _ => ?_ | refine Ite.f fun _ => ?_ | refine Ite.decide (fun _ => ?_) fun _ => ?_ | refine Ite.bool (fun _ => ?_) fun _ => ?_ | refine And.intro ?_ ?_) | omega | simp (maxSteps := 1000000) only [go_sem, reduceCtorEq, Nat.reduceLT, Nat.reduceLeDiff, reduceIte, ↓reduceIte, Nat.reduceEqDiff, Nat.reduceAdd, Nat.reduceMul, Nat.reduceSub, Int.reduceLE, Int.reduceLT, Int.reduceNeg, Int.reduceToNat, elemA, hel, hs1, hb])
          all_goals
            refine VcCall.fr (FnFr.of_ok (kB) rfl rfl) (by simp only [noIdR_ok, argOkL, argOk, allOk, argOkN, List.drop_zero, lk, reduceIte, reduceCtorEq, Nat.reduceEqDiff, Option.some.injEq, Item.row.injEq, Item.box.injEq, AV.ro.injEq, exists_eq_left, exists_and_left, exists_eq_left', exists_eq_right, and_assoc, and_true, true_and, List.cons.injEq, exists_eq', exists_eq]) 0 rfl (by simp [rowsB]) ?_
            (repeat' first | with_reducible (first | refine Asm.intro fun _ => ?_ | refine Chk.g ?_ | refine AnyI.i64 fun _ _ => ?_ | refine LetW.g ?_ | refine LetW.h ?_ | refine Ite.t fun _ => ?_ | refine Ite.f fun _ => ?_ | refine Ite.decide (fun _ => ?_) fun _ => ?_ | refine Ite.bool (fun _ => ?_) fun _ => ?_ | refine And.intro ?_ ?_) | omega | simp (maxSteps := 1000000) only [go_sem, reduceCtorEq, Nat.reduceLT, Nat.reduceLeDiff, reduceIte, ↓reduceIte, Nat.reduceEqDiff, Nat.reduceAdd, Nat.reduceMul, Nat.reduceSub, Int.reduceLE, Int.reduceLT, Int.reduceNeg, Int.reduceToNat])
            refine ⟨i + 1, ?_, by omega, by omega⟩
            rw [hst]
            refine Ent.of [(6, 9)] (s' := ⟨67, _, onRowsR l w d F (left ++ [(i : Int)]), 7⟩) rfl (Nat.zero_le _) (by simp) ?_ ?_
            · simp only [go_sem, reduceCtorEq, reduceIte, Nat.reduceEqDiff, Nat.reduceLT, Nat.reduceLeDiff, Int.natCast_succ]
            · unfold onRowsR Wy.av
              simp only [go_sem, reduceCtorEq, reduceIte, Nat.reduceEqDiff, Nat.reduceLT, Nat.reduceLeDiff, Int.natCast_succ, hs1]
              exact ⟨by rw [ren_dl]; rfl, below_dl (by decide)⟩
      · rw [if_neg hbl] at hst
        have hbk : w.blank < 0 ∨ (0 ≤ w.blank ∧ blankS s w = false) := by
          unfold blankHit at hbl
          by_cases h : 0 ≤ w.blank
          · exact .inr ⟨h, by cases hh : blankS s w with | false => rfl | true => exact absurd ⟨h, hh⟩ hbl⟩
          · exact .inl (by omega)
        by_cases hk : kindS s w.rules ≠ []
        · rw [if_pos hk] at hst
          obtain ⟨b, hen⟩ := Ent.closeR (w0 := w0) (T0 := T0) i l w st
          refine VcRun.ent hen (VcRun.of ?_)
          have kn := knew st.docs (by omega)
          generalize kindS s w.rules = kd at *
          generalize st.docs = F at *
          unfold clRowsR reEnv Wy.av
          rcases hbk with hb | ⟨hb, hb2⟩
          · have hb' : (0 ≤ w.blank) = False := eq_false (by omega)
            rcases hsp with hs1 | ⟨hs1, hs2⟩
            rotate_left
            focus
              rw [hs2] at kb
              (repeat' first | with_reducible (first | refine Asm.intro fun _ => ?_ | refine Chk.g ?_ | refine AnyI.i64 fun _ _ => ?_ | refine LetW.g ?_ | refine LetW.h ?_ | refine Ite.t fun _ => ?_ | refine Ite.f fun _ => ?_ | refine Ite.decide (fun _ => ?_) fun _ => ?_ | refine Ite.bool (fun _ => ?_) fun _ => ?_ | refine And.intro ?_ ?_) | omega | simp (maxSteps := 1000000) only [go_sem, reduceCtorEq, Nat.reduceLT, Nat.reduceLeDiff, reduceIte, ↓reduceIte, Nat.reduceEqDiff, Nat.reduceAdd, Nat.reduceMul, Nat.reduceSub, Int.reduceLE, Int.reduceLT, Int.reduceNeg, Int.reduceToNat, elemA, hel, hs1, hb'])
              refine VcCall.fr (FnFr.of_ok (kb) rfl rfl) (by simp only [noIdR_ok, argOkL, argOk, allOk, argOkN, List.drop_zero, lk, reduceIte, reduceCtorEq, Nat.reduceEqDiff, Option.some.injEq, Item.row.injEq, Item.box.injEq, AV.ro.injEq, exists_eq_left, exists_and_left, exists_eq_left', exists_eq_right, and_assoc, and_true, true_and, List.cons.injEq, exists_eq', exists_eq]) 0 rfl (by simp [rowsB]) ?_
              (repeat' first | with_reducible (first | refine Asm.intro fun _ => ?_ | refine Chk.g ?_ | refine AnyI.i64 fun _ _ => ?_ | refine LetW.g ?_ | refine LetW.h ?_ | refine Ite.t fun _ => ?_ | refine Ite.f fun _ => ?_ | refine Ite.decide (fun _ => ?_) fun _ => ?_ | refine Ite.bool (fun _ => ?_) fun _ => ?_ | refine And.intro ?_ ?_) | omega | simp (maxSteps := 1000000) only [go_sem, reduceCtorEq, Nat.reduceLT, Nat.reduceLeDiff, reduceIte, ↓reduceIte, Nat.reduceEqDiff, Nat.reduceAdd, Nat.reduceMul, Nat.reduceSub, Int.reduceLE, Int.reduceLT, Int.reduceNeg, Int.reduceToNat, hs1, hb'])
            rotate_left
            focus
              (repeat' first | with_reducible (first | refine Asm.intro fun _ => ?_ | refine Chk.g ?_ | refine AnyI.i64 fun _ _ => ?_ | refine LetW.g ?_ | refine LetW.h ?_ | refine Ite.t fun _ => ?_ | refine Ite.f fun _ => ?_ | refine Ite.decide (fun _ => ?_) fun _ => ?_ | refine Ite.bool (fun _ => ?_) fun _ => ?_ | refine And.intro ?_ ?_) | omega | simp (maxSteps := 1000000) only [go_sem, reduceCtorEq, Nat.reduceLT, Nat.reduceLeDiff, reduceIte, ↓reduceIte, Nat.reduceEqDiff, Nat.reduceAdd, Nat.reduceMul, Nat.reduceSub, Int.reduceLE, Int.reduceLT, Int.reduceNeg, Int.reduceToNat, elemA, hel, hs1, hb'])
            all_goals
              refine VcCall.fr (FnFr.of_ok (kk) rfl rfl) (by simp only [noIdR_ok, argOkL, argOk, allOk, argOkN, List.drop_zero, lk, reduceIte, reduceCtorEq, Nat.reduceEqDiff, Option.some.injEq, Item.row.injEq, Item.box.injEq, AV.ro.injEq, exists_eq_left, exists_and_left, exists_eq_left', exists_eq_right, and_assoc, and_true, true_and, List.cons.injEq, exists_eq', exists_eq]) 0 rfl (by simp [rowsB]) ?_
              (repeat' first | with_reducible (first | refine Asm.intro fun _ => ?_ | refine Chk.g ?_ | refine AnyI.i64 fun _ _ => ?_ | refine LetW.g ?_ | refine LetW.h ?_ | refine Ite.t fun _ => ?_ | refine Ite.f fun _ => ?_ | refine Ite.decide (fun _ => ?_) fun _ => ?_ | refine Ite.bool (fun _ => ?_) fun _ => ?_ | refine And.intro ?_ ?_) | omega | simp (maxSteps := 1000000) only [go_sem, reduceCtorEq, Nat.reduceLT, Nat.reduceLeDiff, reduceIte, ↓reduceIte, Nat.reduceEqDiff, Nat.reduceAdd, Nat.reduceMul, Nat.reduceSub, Int.reduceLE, Int.reduceLT, Int.reduceNeg, Int.reduceToNat, hk])
              refine VcCall.io [0, 1, 2, 3, 4] kn (by decide) (by simp [renL, ren, ioN]) rfl (by simp [subOk, ioN, lk, Item.ren, Item.below, ren, renL, belowL, Fv.below, renR_ok, belowR_ok, Wy.av, hs1]) covS5 7 (by decide) rfl ⟨⟨by decide, rfl⟩, ⟨by decide, rfl⟩, ⟨by decide, rfl⟩, ⟨by decide, rfl⟩, ⟨by decide, below_dl (by decide)⟩, ⟨by decide, rfl⟩, trivial⟩ ?_
              (repeat' first | with_reducible (first | refine Asm.intro fun _ => ?_ | refine Chk.g ?_ | refine AnyI.i64 fun _ _ => ?_ | refine LetW.g ?_ | refine LetW.h ?_ | refine Ite.t fun _ => ?_ | refine Ite.f fun _ => ?_ | refine Ite.decide (fun _ => ?_) fun _ => ?_ | refine Ite.bool (fun _ => ?_) fun _ => ?_ | refine And.intro ?_ ?_) | omega | simp (maxSteps := 1000000) only [go_sem, reduceCtorEq, Nat.reduceLT, Nat.reduceLeDiff, reduceIte, ↓reduceIte, Nat.reduceEqDiff, Nat.reduceAdd, Nat.reduceMul, Nat.reduceSub, Int.reduceLE, Int.reduceLT, Int.reduceNeg, Int.reduceToNat, S.ioS, ioRows, ioN, delL, Item.ren, ren, renL, ren_dl, List.map_nil, List.length_cons, List.length_nil, List.getElem?_cons_zero, List.getElem?_cons_succ, List.getElem?_nil, List.cons_append, List.nil_append, Nat.reduceAdd, Nat.sub_self, Nat.add_zero, List.filter, Wy.av])
              refine ⟨i + 1, ?_, by omega, by omega⟩
              rw [hst]
              refine Ent.trans (Ent.of [(4, 8), (5, 9)] (s' := ⟨67, reEnv (i + 1) l, opRowsR l w ⟨kd, [(i : Int)]⟩ F st.left, 7⟩) rfl (Nat.zero_le _) (by simp) ?_ ?_) (Ent.addR (i + 1) l w ⟨kd, [(i : Int)]⟩ F st.left)
              · unfold reEnv
                simp only [go_sem, reduceCtorEq, reduceIte, Nat.reduceEqDiff, Nat.reduceLT, Nat.reduceLeDiff, Int.natCast_succ]
              · unfold opRowsR
                simp only [go_sem, reduceCtorEq, reduceIte, Nat.reduceEqDiff, Nat.reduceLT, Nat.reduceLeDiff, Int.natCast_succ, hs1]
                exact ⟨⟨by simp [Wy.av, renL, ren, hs1], rfl⟩, by rw [ren_dl]; rfl, below_dl (by decide)⟩
          · have kB := kB hb
            rw [hb2] at kB
            rcases hsp with hs1 | ⟨hs1, hs2⟩
            rotate_left
            focus
              rw [hs2] at kb
              (repeat' first | with_reducible (first | refine Asm.intro fun _ => ?_ | refine Chk.g ?_ | refine AnyI.i64 fun _ _ => ?_ | refine LetW.g ?_ | refine LetW.h ?_ | refine Ite.t fun _ => ?_ | refine Ite.f fun _ => ?_ | refine Ite.decide (fun _ => ?_) fun _ => ?_ | refine Ite.bool (fun _ => ?_) fun _ => ?_ | refine And.intro ?_ ?_) | omega | simp (maxSteps := 1000000) only [go_sem, reduceCtorEq, Nat.reduceLT, Nat.reduceLeDiff, reduceIte, ↓reduceIte, Nat.reduceEqDiff, Nat.reduceAdd, Nat.reduceMul, Nat.reduceSub, Int.reduceLE, Int.reduceLT, Int.reduceNeg, Int.reduceToNat, elemA, hel, hs1, hb])
              refine VcCall.fr (FnFr.of_ok (kb) rfl rfl) (by simp only [noIdR_ok, argOkL, argOk, allOk, argOkN, List.drop_zero, lk, reduceIte, reduceCtorEq, Nat.reduceEqDiff, Option.some.injEq, Item.row.injEq, Item.box.injEq, AV.ro.injEq, exists_eq_left, exists_and_left, exists_eq_left', exists_eq_right, and_assoc, and_true, true_and, List.cons.injEq, exists_eq', exists_eq]) 0 rfl (by simp [rowsB]) ?_
              (repeat' first | with_reducible (first | refine Asm.intro fun _ => ?_ | refine Chk.g ?_ | refine AnyI.i64 fun _ _ => ?_ | refine LetW.g ?_ | refine LetW.h ?_ | refine Ite.t fun _ => ?_ | refine Ite.f fun _ => ?_ | refine Ite.decide (fun _ => ?_) fun _ => ?_ | refine Ite.bool (fun _ => ?_) fun _ => ?_ | refine And.intro ?_ ?_) | omega | simp (maxSteps := 1000000) only [go_sem, reduceCtorEq, Nat.reduceLT, Nat.reduceLeDiff, reduceIte, ↓reduceIte, Nat.reduceEqDiff, Nat.reduceAdd, Nat.reduceMul, Nat.reduceSub, Int.reduceLE, Int.reduceLT, Int.reduceNeg, Int.reduceToNat, hs1, hb])
            rotate_left
            focus
              (repeat' first | with_reducible (first | refine Asm.intro fun _ => ?_ | refine Chk.g ?_ | refine AnyI.i64 fun _ _ => ?_ | refine LetW.g ?_ | refine LetW.h ?_ | refine Ite.t fun _ => ?_ | refine Ite.f fun _ => ?_ | refine Ite.decide (fun _ => ?_) fun _ => ?_ | refine Ite.bool (fun _ => ?_) fun _ => ?_ | refine And.intro ?_ ?_) | omega | simp (maxSteps := 1000000) only [go_sem, reduceCtorEq, Nat.reduceLT, Nat.reduceLeDiff, reduceIte, ↓reduceIte, Nat.reduceEqDiff, Nat.reduceAdd, Nat.reduceMul, Nat.reduceSub, Int.reduceLE, Int.reduceLT, Int.reduceNeg, Int.reduceToNat, elemA, hel, hs1, hb])
            all_goals
              refine VcCall.fr (FnFr.of_ok (kB) rfl rfl) (by simp only [noIdR_ok, argOkL, argOk, allOk, argOkN, List.drop_zero, lk, reduceIte, reduceCtorEq, Nat.reduceEqDiff, Option.some.injEq, Item.row.injEq, Item.box.injEq, AV.ro.injEq, exists_eq_left, exists_and_left, exists_eq_left', exists_eq_right, and_assoc, and_true, true_and, List.cons.injEq, exists_eq', exists_eq]) 0 rfl (by simp [rowsB]) ?_
              (repeat' first | with_reducible (first | refine Asm.intro fun _ => ?_ | refine Chk.g ?_ | refine AnyI.i64 fun _ _ => ?_ | refine LetW.g ?_ | refine LetW.h ?_ | refine Ite.t fun _ => ?_ | refine Ite.f fun _ => ?_ | refine Ite.decide (fun _ => ?_) fun _ => ?_ | refine Ite.bool (fun _ => ?_) fun _ => ?_ | refine And.intro ?_ ?_) | omega | simp (maxSteps := 1000000) only [go_sem, reduceCtorEq, Nat.reduceLT, Nat.reduceLeDiff, reduceIte, ↓reduceIte, Nat.reduceEqDiff, Nat.reduceAdd, Nat.reduceMul, Nat.reduceSub, Int.reduceLE, Int.reduceLT, Int.reduceNeg, Int.reduceToNat])
              refine VcCall.fr (FnFr.of_ok (kk) rfl rfl) (by simp only [noIdR_ok, argOkL, argOk, allOk, argOkN, List.drop_zero, lk, reduceIte, reduceCtorEq, Nat.reduceEqDiff, Option.some.injEq, Item.row.injEq, Item.box.injEq, AV.ro.injEq, exists_eq_left, exists_and_left, exists_eq_left', exists_eq_right, and_assoc, and_true, true_and, List.cons.injEq, exists_eq', exists_eq]) 0 rfl (by simp [rowsB]) ?_
              (repeat' first | with_reducible (first | refine Asm.intro fun _ => ?_ | refine Chk.g ?_ | refine AnyI.i64 fun _ _ => ?_ | refine LetW.g ?_ | refine LetW.h ?_ | refine Ite.t fun _ => ?_ | refine Ite.f fun _ => ?_ | refine Ite.decide (fun _ => ?_) fun _ => ?_ | refine Ite.bool (fun _ => ?_) fun _ => ?_ | refine And.intro ?_ ?_) | omega | simp (maxSteps := 1000000) only [go_sem, reduceCtorEq, Nat.reduceLT, Nat.reduceLeDiff, reduceIte, ↓reduceIte, Nat.reduceEqDiff, Nat.reduceAdd, Nat.reduceMul, Nat.reduceSub, Int.reduceLE, Int.reduceLT, Int.reduceNeg, Int.reduceToNat, hk])
              refine VcCall.io [0, 1, 2, 3, 4] kn (by decide) (by simp [renL, ren, ioN]) rfl (by simp [subOk, ioN, lk, Item.ren, Item.below, ren, renL, belowL, Fv.below, renR_ok, belowR_ok, Wy.av, hs1]) covS5 7 (by decide) rfl ⟨⟨by decide, rfl⟩, ⟨by decide, rfl⟩, ⟨by decide, rfl⟩, ⟨by decide, rfl⟩, ⟨by decide, below_dl (by decide)⟩, ⟨by decide, rfl⟩, trivial⟩ ?_
              (repeat' first | with_reducible (first | refine Asm.intro fun _ => ?_ | refine Chk.g ?_ | refine AnyI.i64 fun _ _ => ?_ | refine LetW.g ?_ | refine LetW.h ?_ | refine Ite.t fun _ => ?_ | refine Ite.f fun _ => ?_ | refine Ite.decide (fun _ => ?_) fun _ => ?_ | refine Ite.bool (fun _ => ?_) fun _ => ?_ | refine And.intro ?_ ?_) | omega | simp (maxSteps := 1000000) only [go_sem, reduceCtorEq, Nat.reduceLT, Nat.reduceLeDiff, reduceIte, ↓reduceIte, Nat.reduceEqDiff, Nat.reduceAdd, Nat.reduceMul, Nat.reduceSub, Int.reduceLE, Int.reduceLT, Int.reduceNeg, Int.reduceToNat, S.ioS, ioRows, ioN, delL, Item.ren, ren, renL, ren_dl, List.map_nil, List.length_cons, List.length_nil, List.getElem?_cons_zero, List.getElem?_cons_succ, List.getElem?_nil, List.cons_append, List.nil_append, Nat.reduceAdd, Nat.sub_self, Nat.add_zero, List.filter, Wy.av])
              refine ⟨i + 1, ?_, by omega, by omega⟩
              rw [hst]
              refine Ent.trans (Ent.of [(4, 8), (5, 9)] (s' := ⟨67, reEnv (i + 1) l, opRowsR l w ⟨kd, [(i : Int)]⟩ F st.left, 7⟩) rfl (Nat.zero_le _) (by simp) ?_ ?_) (Ent.addR (i + 1) l w ⟨kd, [(i : Int)]⟩ F st.left)
              · unfold reEnv
                simp only [go_sem, reduceCtorEq, reduceIte, Nat.reduceEqDiff, Nat.reduceLT, Nat.reduceLeDiff, Int.natCast_succ]
              · unfold opRowsR
                simp only [go_sem, reduceCtorEq, reduceIte, Nat.reduceEqDiff, Nat.reduceLT, Nat.reduceLeDiff, Int.natCast_succ, hs1]
                exact ⟨⟨by simp [Wy.av, renL, ren, hs1], rfl⟩, by rw [ren_dl]; rfl, below_dl (by decide)⟩
        · rw [if_neg hk] at hst
          have hk : kindS s w.rules = [] := Classical.not_not.1 hk
          obtain ⟨F, last, left⟩ := st
          have d2 : left.length ≤ i := d2
          rw [hk] at hst kk
          cases last with
          | none =>
            have d1 : F.length ≤ i := by simpa [St.docs] using d1
            have kn := knew F (by omega)
            rw [hk] at kn
            refine VcRun.ent (s' := ⟨67, reEnv i l, clRowsR false l w F left, 7⟩) (Ent.refl _) (VcRun.of ?_)
            unfold clRowsR reEnv Wy.av
            rcases hbk with hb | ⟨hb, hb2⟩
            · have hb' : (0 ≤ w.blank) = False := eq_false (by omega)
              rcases hsp with hs1 | ⟨hs1, hs2⟩
              rotate_left
              focus
                rw [hs2] at kb
                (repeat' first | with_reducible (first | refine Asm.intro fun _ => ?_ | refine Chk.g ?_ | refine AnyI.i64 fun _ _ => ?_ | refine LetW.g ?_ | refine LetW.h ?_ | refine Ite.t fun _ => ?_ | refine Ite.f fun _ => ?_ | refine Ite.decide (fun _ => ?_) fun _ => ?_ | refine Ite.bool (fun _ => ?_) fun _ => ?_ | refine And.intro ?_ ?_) | omega | simp (maxSteps := 1000000) only [go_sem, reduceCtorEq, Nat.reduceLT, Nat.reduceLeDiff, reduceIte, ↓reduceIte, Nat.reduceEqDiff, Nat.reduceAdd, Nat.reduceMul, Nat.reduceSub, Int.reduceLE, Int.reduceLT, Int.reduceNeg, Int.reduceToNat, elemA, hel, hs1, hb'])
                refine VcCall.fr (FnFr.of_ok (kb) rfl rfl) (by simp only [noIdR_ok, argOkL, argOk, allOk, argOkN, List.drop_zero, lk, reduceIte, reduceCtorEq, Nat.reduceEqDiff, Option.some.injEq, Item.row.injEq, Item.box.injEq, AV.ro.injEq, exists_eq_left, exists_and_left, exists_eq_left', exists_eq_right, and_assoc, and_true, true_and, List.cons.injEq, exists_eq', exists_eq]) 0 rfl (by simp [rowsB]) ?_
                (repeat' first | with_reducible (first | refine Asm.intro fun _ => ?_ | refine Chk.g ?_ | refine AnyI.i64 fun _ _ => ?_ | refine LetW.g ?_ | refine LetW.h ?_ | refine Ite.t fun _ => ?_ | refine Ite.f fun _ => ?_ | refine Ite.decide (fun _ => ?_) fun _ => ?_ | refine Ite.bool (fun _ => ?_) fun _ => ?_ | refine And.intro ?_ ?_) | omega | simp (maxSteps := 1000000) only [go_sem, reduceCtorEq, Nat.reduceLT, Nat.reduceLeDiff, reduceIte, ↓reduceIte, Nat.reduceEqDiff, Nat.reduceAdd, Nat.reduceMul, Nat.reduceSub, Int.reduceLE, Int.reduceLT, Int.reduceNeg, Int.reduceToNat, hs1, hb'])
              rotate_left
              focus
                (repeat' first | with_reducible (first | refine Asm.intro fun _ => ?_ | refine Chk.g ?_ | refine AnyI.i64 fun _ _ => ?_ | refine LetW.g ?_ | refine LetW.h ?_ | refine Ite.t fun _ => ?_ | refine Ite.f fun _ => ?_ | refine Ite.decide (fun _ => ?_) fun _ => ?_ | refine Ite.bool (fun _ => ?_) fun _ => ?_ | refine And.intro ?_ ?_) | omega | simp (maxSteps := 1000000) only [go_sem, reduceCtorEq, Nat.reduceLT, Nat.reduceLeDiff, reduceIte, ↓reduceIte, Nat.reduceEqDiff, Nat.reduceAdd, Nat.reduceMul, Nat.reduceSub, Int.reduceLE, Int.reduceLT, Int.reduceNeg, Int.reduceToNat, elemA, hel, hs1, hb'])
              all_goals
                refine VcCall.fr (FnFr.of_ok (kk) rfl rfl) (by simp only [noIdR_ok, argOkL, argOk, allOk, argOkN, List.drop_zero, lk, reduceIte, reduceCtorEq, Nat.reduceEqDiff, Option.some.injEq, Item.row.injEq, Item.box.injEq, AV.ro.injEq, exists_eq_left, exists_and_left, exists_eq_left', exists_eq_right, and_assoc, and_true, true_and, List.cons.injEq, exists_eq', exists_eq]) 0 rfl (by simp [rowsB]) ?_
                (repeat' first | with_reducible (first | refine Asm.intro fun _ => ?_ | refine Chk.g ?_ | refine AnyI.i64 fun _ _ => ?_ | refine LetW.g ?_ | refine LetW.h ?_ | refine Ite.t fun _ => ?_ | refine Ite.f fun _ => ?_ | refine Ite.decide (fun _ => ?_) fun _ => ?_ | refine Ite.bool (fun _ => ?_) fun _ => ?_ | refine And.intro ?_ ?_) | omega | simp (maxSteps := 1000000) only [go_sem, reduceCtorEq, Nat.reduceLT, Nat.reduceLeDiff, reduceIte, ↓reduceIte, Nat.reduceEqDiff, Nat.reduceAdd, Nat.reduceMul, Nat.reduceSub, Int.reduceLE, Int.reduceLT, Int.reduceNeg, Int.reduceToNat])
                refine VcCall.io [0, 1, 2, 3, 4] kn (by decide) (by simp [renL, ren, ioN]) rfl (by simp [subOk, ioN, lk, Item.ren, Item.below, ren, renL, belowL, Fv.below, renR_ok, belowR_ok, Wy.av, hs1]) covS5 7 (by decide) rfl ⟨⟨by decide, rfl⟩, ⟨by decide, rfl⟩, ⟨by decide, rfl⟩, ⟨by decide, rfl⟩, ⟨by decide, below_dl (by decide)⟩, ⟨by decide, rfl⟩, trivial⟩ ?_
                (repeat' first | with_reducible (first | refine Asm.intro fun _ => ?_ | refine Chk.g ?_ | refine AnyI.i64 fun _ _ => ?_ | refine LetW.g ?_ | refine LetW.h ?_ | refine Ite.t fun _ => ?_ | refine Ite.f fun _ => ?_ | refine Ite.decide (fun _ => ?_) fun _ => ?_ | refine Ite.bool (fun _ => ?_) fun _ => ?_ | refine And.intro ?_ ?_) | omega | simp (maxSteps := 1000000) only [go_sem, reduceCtorEq, Nat.reduceLT, Nat.reduceLeDiff, reduceIte, ↓reduceIte, Nat.reduceEqDiff, Nat.reduceAdd, Nat.reduceMul, Nat.reduceSub, Int.reduceLE, Int.reduceLT, Int.reduceNeg, Int.reduceToNat, S.ioS, ioRows, ioN, delL, Item.ren, ren, renL, ren_dl, List.map_nil, List.length_cons, List.length_nil, List.getElem?_cons_zero, List.getElem?_cons_succ, List.getElem?_nil, List.cons_append, List.nil_append, Nat.reduceAdd, Nat.sub_self, Nat.add_zero, List.filter, Wy.av])
                refine ⟨i + 1, ?_, by omega, by omega⟩
                rw [hst]
                refine Ent.trans (Ent.of [(4, 8), (5, 9)] (s' := ⟨67, reEnv (i + 1) l, opRowsR l w ⟨[], [(i : Int)]⟩ F left, 7⟩) rfl (Nat.zero_le _) (by simp) ?_ ?_) (Ent.addR (i + 1) l w ⟨[], [(i : Int)]⟩ F left)
                · unfold reEnv
                  simp only [go_sem, reduceCtorEq, reduceIte, Nat.reduceEqDiff, Nat.reduceLT, Nat.reduceLeDiff, Int.natCast_succ]
                · unfold opRowsR
                  simp only [go_sem, reduceCtorEq, reduceIte, Nat.reduceEqDiff, Nat.reduceLT, Nat.reduceLeDiff, Int.natCast_succ, hs1]
                  exact ⟨⟨by simp [Wy.av, renL, ren, hs1], rfl⟩, by rw [ren_dl]; rfl, below_dl (by decide)⟩
            · have kB := kB hb
              rw [hb2] at kB
              rcases hsp with hs1 | ⟨hs1, hs2⟩
              rotate_left
              focus
                rw [hs2] at kb
                (repeat' first | with_reducible (first | refine Asm.intro fun _ => ?_ | refine Chk.g ?_ | refine AnyI.i64 fun _ _ => ?_ | refine LetW.g ?_ | refine LetW.h ?_ | refine Ite.t fun _ => ?_ | refine Ite.f fun _ => ?_ | refine Ite.decide (fun _ => ?_) fun _ => ?_ | refine Ite.bool (fun _ => ?_) fun _ => ?_ | refine And.intro ?_ ?_) | omega | simp (maxSteps := 1000000) only [go_sem, reduceCtorEq, Nat.reduceLT, Nat.reduceLeDiff, reduceIte, ↓reduceIte, Nat.reduceEqDiff, Nat.reduceAdd, Nat.reduceMul, Nat.reduceSub, Int.reduceLE, Int.reduceLT, Int.reduceNeg, Int.reduceToNat, elemA, hel, hs1, hb])
                refine VcCall.fr (FnFr.of_ok (kb) rfl rfl) (by simp only [noIdR_ok, argOkL, argOk, allOk, argOkN, List.drop_zero, lk, reduceIte, reduceCtorEq, Nat.reduceEqDiff, Option.some.injEq, Item.row.injEq, Item.box.injEq, AV.ro.injEq, exists_eq_left, exists_and_left, exists_eq_left', exists_eq_right, and_assoc, and_true, true_and, List.cons.injEq, exists_eq', exists_eq]) 0 rfl (by simp [rowsB]) ?_
                (repeat' first | with_reducible (first | refine Asm.intro fun _ => ?_ | refine Chk.g ?_ | refine AnyI.i64 fun _ _ => ?_ | refine LetW.g ?_ | refine LetW.h ?_ | refine Ite.t fun _ => ?_ | refine Ite.f fun _ => ?_ | refine Ite.decide (fun _ => ?_) fun _ => ?_ | refine Ite.bool (fun _ => ?_) fun _ => ?_ | refine And.intro ?_ ?_) | omega | simp (maxSteps := 1000000) only [go_sem, reduceCtorEq, Nat.reduceLT, Nat.reduceLeDiff, reduceIte, ↓reduceIte, Nat.reduceEqDiff, Nat.reduceAdd, Nat.reduceMul, Nat.reduceSub, Int.reduceLE, Int.reduceLT, Int.reduceNeg, Int.reduceToNat, hs1, hb])
              rotate_left
              focus
                (repeat' first | with_reducible (first | refine Asm.intro fun _ => ?_ | refine Chk.g ?_ | refine AnyI.i64 fun _ _ => ?_ | refine LetW.g ?_ | refine LetW.h ?_ | refine Ite.t fun _ => ?_ | refine Ite.f fun _ => ?_ | refine Ite.decide (fun _ => ?_) fun _ => ?_ | refine Ite.bool (fun _ => ?_) fun _ => ?_ | refine And.intro ?_ ?_) | omega | simp (maxSteps := 1000000) only [go_sem, reduceCtorEq, Nat.reduceLT, Nat.reduceLeDiff, reduceIte, ↓reduceIte, Nat.reduceEqDiff, Nat.reduceAdd, Nat.reduceMul, Nat.reduceSub, Int.reduceLE, Int.reduceLT, Int.reduceNeg, Int.reduceToNat, elemA, hel, hs1, hb])
              all_goals
                refine VcCall.fr (FnFr.of_ok (kB) rfl rfl) (by simp only [noIdR_ok, argOkL, argOk, allOk, argOkN, List.drop_zero, lk, reduceIte, reduceCtorEq, Nat.reduceEqDiff, Option.some.injEq, Item.row.injEq, Item.box.injEq, AV.ro.injEq, exists_eq_left, exists_and_left, exists_eq_left', exists_eq_right, and_assoc, and_true, true_and, List.cons.injEq, exists_eq', exists_eq]) 0 rfl (by simp [rowsB]) ?_
                (repeat' first | with_reducible (first | refine Asm.intro fun _ => ?_ | refine Chk.g ?_ | refine AnyI.i64 fun _ _ => ?_ | refine LetW.g ?_ | refine LetW.h ?_ | refine Ite.t fun _ => ?_ | refine Ite.f fun _ => ?_ | refine Ite.decide (fun _ => ?_) fun _ => ?_ | refine Ite.bool (fun _ => ?_) fun _ => ?_ | refine And.intro ?_ ?_) | omega | simp (maxSteps := 1000000) only [go_sem, reduceCtorEq, Nat.reduceLT, Nat.reduceLeDiff, reduceIte, ↓reduceIte, Nat.reduceEqDiff, Nat.reduceAdd, Nat.reduceMul, Nat.reduceSub, Int.reduceLE, Int.reduceLT, Int.reduceNeg, Int.reduceToNat])
                refine VcCall.fr (FnFr.of_ok (kk) rfl rfl) (by simp only [noIdR_ok, argOkL, argOk, allOk, argOkN, List.drop_zero, lk, reduceIte, reduceCtorEq, Nat.reduceEqDiff, Option.some.injEq, Item.row.injEq, Item.box.injEq, AV.ro.injEq, exists_eq_left, exists_and_left, exists_eq_left', exists_eq_right, and_assoc, and_true, true_and, List.cons.injEq, exists_eq', exists_eq]) 0 rfl (by simp [rowsB]) ?_
                (repeat' first | with_reducible (first | refine Asm.intro fun _ => ?_ | refine Chk.g ?_ | refine AnyI.i64 fun _ _ => ?_ | refine LetW.g ?_ | refine LetW.h ?_ | refine Ite.t fun _ => ?_ | refine Ite.f fun _ => ?_ | refine Ite.decide (fun _ => ?_) fun _ => ?_ | refine Ite.bool (fun _ => ?_) fun _ => ?_ | refine And.intro ?_ ?_) | omega | simp (maxSteps := 1000000) only [go_sem, reduceCtorEq, Nat.reduceLT, Nat.reduceLeDiff, reduceIte, ↓reduceIte, Nat.reduceEqDiff, Nat.reduceAdd, Nat.reduceMul, Nat.reduceSub, Int.reduceLE, Int.reduceLT, Int.reduceNeg, Int.reduceToNat])
                refine VcCall.io [0, 1, 2, 3, 4] kn (by decide) (by simp [renL, ren, ioN]) rfl (by simp [subOk, ioN, lk, Item.ren, Item.below, ren, renL, belowL, Fv.below, renR_ok, belowR_ok, Wy.av, hs1]) covS5 7 (by decide) rfl ⟨⟨by decide, rfl⟩, ⟨by decide, rfl⟩, ⟨by decide, rfl⟩, ⟨by decide, rfl⟩, ⟨by decide, below_dl (by decide)⟩, ⟨by decide, rfl⟩, trivial⟩ ?_
                (repeat' first | with_reducible (first | refine Asm.intro fun _ => ?_ | refine Chk.g ?_ | refine AnyI.i64 fun _ _ => ?_ | refine LetW.g ?_ | refine LetW.h ?_ | refine Ite.t fun _ => ?_ | refine Ite.f fun _ => ?_ | refine Ite.decide (fun _ => ?_) fun _ => ?_ | refine Ite.bool (fun _ => ?_) fun _ => ?_ | refine And.intro ?_ ?_) | omega | simp (maxSteps := 1000000) only [go_sem, reduceCtorEq, Nat.reduceLT, Nat.reduceLeDiff, reduceIte, ↓reduceIte, Nat.reduceEqDiff, Nat.reduceAdd, Nat.reduceMul, Nat.reduceSub, Int.reduceLE, Int.reduceLT, Int.reduceNeg, Int.reduceToNat, S.ioS, ioRows, ioN, delL, Item.ren, ren, renL, ren_dl, List.map_nil, List.length_cons, List.length_nil, List.getElem?_cons_zero, List.getElem?_cons_succ, List.getElem?_nil, List.cons_append, List.nil_append, Nat.reduceAdd, Nat.sub_self, Nat.add_zero, List.filter, Wy.av])
                refine ⟨i + 1, ?_, by omega, by omega⟩
                rw [hst]
                refine Ent.trans (Ent.of [(4, 8), (5, 9)] (s' := ⟨67, reEnv (i + 1) l, opRowsR l w ⟨[], [(i : Int)]⟩ F left, 7⟩) rfl (Nat.zero_le _) (by simp) ?_ ?_) (Ent.addR (i + 1) l w ⟨[], [(i : Int)]⟩ F left)
                · unfold reEnv
                  simp only [go_sem, reduceCtorEq, reduceIte, Nat.reduceEqDiff, Nat.reduceLT, Nat.reduceLeDiff, Int.natCast_succ]
                · unfold opRowsR
                  simp only [go_sem, reduceCtorEq, reduceIte, Nat.reduceEqDiff, Nat.reduceLT, Nat.reduceLeDiff, Int.natCast_succ, hs1]
                  exact ⟨⟨by simp [Wy.av, renL, ren, hs1], rfl⟩, by rw [ren_dl]; rfl, below_dl (by decide)⟩
          | some d =>
            have d1 : F.length + 1 ≤ i := by simpa [St.docs] using d1
            obtain ⟨d3, d4⟩ := hinv.last d rfl
            have e2 : ∀ x : Int, (d.pages ++ [x]).length = d.pages.length + 1 := fun x => by simp
            have kn := refOld_ok w l F i d.kind d.pages hk0 d4 (by omega) (by omega)
            refine VcRun.ent (s' := ⟨67, reEnv i l, onRowsR l w d F left, 7⟩) (Ent.refl _) (VcRun.of ?_)
            unfold onRowsR reEnv Wy.av
            rcases hbk with hb | ⟨hb, hb2⟩
            · have hb' : (0 ≤ w.blank) = False := eq_false (by omega)
              rcases hsp with hs1 | ⟨hs1, hs2⟩
              rotate_left
              focus
                rw [hs2] at kb
                (repeat' first | with_reducible (first | refine Asm.intro fun _ => ?_ | refine Chk.g ?_ | refine AnyI.i64 fun _ _ => ?_ | refine LetW.g ?_ | refine LetW.h ?_ | refine Ite.t fun _ => ?_ | refine Ite.f fun _ => ?_ | refine Ite.decide (fun _ => ?_) fun _ => ?_ | refine Ite.bool (fun _ => ?_) fun _ => ?_ | refine And.intro ?_ ?_) | omega | simp (maxSteps := 1000000) only [go_sem, reduceCtorEq, Nat.reduceLT, Nat.reduceLeDiff, reduceIte, ↓reduceIte, Nat.reduceEqDiff, Nat.reduceAdd, Nat.reduceMul, Nat.reduceSub, Int.reduceLE, Int.reduceLT, Int.reduceNeg, Int.reduceToNat, elemA, hel, hs1, hb'])
                refine VcCall.fr (FnFr.of_ok (kb) rfl rfl) (by simp only [noIdR_ok, argOkL, argOk, allOk, argOkN, List.drop_zero, lk, reduceIte, reduceCtorEq, Nat.reduceEqDiff, Option.some.injEq, Item.row.injEq, Item.box.injEq, AV.ro.injEq, exists_eq_left, exists_and_left, exists_eq_left', exists_eq_right, and_assoc, and_true, true_and, List.cons.injEq, exists_eq', exists_eq]) 0 rfl (by simp [rowsB]) ?_
                (repeat' first | with_reducible (first | refine Asm.intro fun _ => ?_ | refine Chk.g ?_ | refine AnyI.i64 fun _ _ => ?_ | refine LetW.g ?_ | refine LetW.h ?_ | refine Ite.t fun _ => ?_ | refine Ite.f fun _ => ?_ | refine Ite.decide (fun _ => ?_) fun _ => ?_ | refine Ite.bool (fun _ => ?_) fun _ => ?_ | refine And.intro ?_ ?_) | omega | simp (maxSteps := 1000000) only [go_sem, reduceCtorEq, Nat.reduceLT, Nat.reduceLeDiff, reduceIte, ↓reduceIte, Nat.reduceEqDiff, Nat.reduceAdd, Nat.reduceMul, Nat.reduceSub, Int.reduceLE, Int.reduceLT, Int.reduceNeg, Int.reduceToNat, hs1, hb'])
              rotate_left
              focus
                (repeat' first | with_reducible (first | refine Asm.intro fun _ => ?_ | refine Chk.g ?_ | refine AnyI.i64 fun _ _ => ?_ | refine LetW.g ?_ | refine LetW.h ?_ | refine Ite.t fun _ => ?_ | refine Ite.f fun _ => ?_ | refine Ite.decide (fun _ => ?_) fun _ => ?_ | refine Ite.bool (fun _ => ?_) fun _ => ?_ | refine And.intro ?_ ?_) | omega | simp (maxSteps := 1000000) only [go_sem, reduceCtorEq, Nat.reduceLT, Nat.reduceLeDiff, reduceIte, ↓reduceIte, Nat.reduceEqDiff, Nat.reduceAdd, Nat.reduceMul, Nat.reduceSub, Int.reduceLE, Int.reduceLT, Int.reduceNeg, Int.reduceToNat, elemA, hel, hs1, hb'])
              all_goals
                refine VcCall.fr (FnFr.of_ok (kk) rfl rfl) (by simp only [noIdR_ok, argOkL, argOk, allOk, argOkN, List.drop_zero, lk, reduceIte, reduceCtorEq, Nat.reduceEqDiff, Option.some.injEq, Item.row.injEq, Item.box.injEq, AV.ro.injEq, exists_eq_left, exists_and_left, exists_eq_left', exists_eq_right, and_assoc, and_true, true_and, List.cons.injEq, exists_eq', exists_eq]) 0 rfl (by simp [rowsB]) ?_
                (repeat' first | with_reducible (first | refine Asm.intro fun _ => ?_ | refine Chk.g ?_ | refine AnyI.i64 fun _ _ => ?_ | refine LetW.g ?_ | refine LetW.h ?_ | refine Ite.t fun _ => ?_ | refine Ite.f fun _ => ?_ | refine Ite.decide (fun _ => ?_) fun _ => ?_ | refine Ite.bool (fun _ => ?_) fun _ => ?_ | refine And.intro ?_ ?_) | omega | simp (maxSteps := 1000000) only [go_sem, reduceCtorEq, Nat.reduceLT, Nat.reduceLeDiff, reduceIte, ↓reduceIte, Nat.reduceEqDiff, Nat.reduceAdd, Nat.reduceMul, Nat.reduceSub, Int.reduceLE, Int.reduceLT, Int.reduceNeg, Int.reduceToNat])
                refine VcCall.io [0, 1, 2, 3, 4, 5] kn (by decide) (by simp [renL, ren, ioN]) rfl (by simp [subOk, ioN, lk, Item.ren, Item.below, ren, renL, belowL, Fv.below, ren_dl, below_dl, Wy.av, hs1]) covS6 8 (by decide) rfl ⟨⟨by decide, rfl⟩, ⟨by decide, rfl⟩, ⟨by decide, rfl⟩, ⟨by decide, rfl⟩, ⟨by decide, below_dl (by decide)⟩, ⟨by decide, rfl⟩, trivial⟩ ?_
                (repeat' first | with_reducible (first | refine Asm.intro fun _ => ?_ | refine Chk.g ?_ | refine AnyI.i64 fun _ _ => ?_ | refine LetW.g ?_ | refine LetW.h ?_ | refine Ite.t fun _ => ?_ | refine Ite.f fun _ => ?_ | refine Ite.decide (fun _ => ?_) fun _ => ?_ | refine Ite.bool (fun _ => ?_) fun _ => ?_ | refine And.intro ?_ ?_) | omega | simp (maxSteps := 1000000) only [go_sem, reduceCtorEq, Nat.reduceLT, Nat.reduceLeDiff, reduceIte, ↓reduceIte, Nat.reduceEqDiff, Nat.reduceAdd, Nat.reduceMul, Nat.reduceSub, Int.reduceLE, Int.reduceLT, Int.reduceNeg, Int.reduceToNat, S.ioS, ioRows, ioN, delL, Item.ren, ren, renL, ren_dl, List.map_nil, List.length_cons, List.length_nil, List.getElem?_cons_zero, List.getElem?_cons_succ, List.getElem?_nil, List.cons_append, List.nil_append, Nat.reduceAdd, Nat.sub_self, Nat.add_zero, List.filter, Wy.av])
                refine ⟨i + 1, ?_, by omega, by omega⟩
                rw [hst]
                refine Ent.trans (Ent.of [(4, 8), (5, 9)] (s' := ⟨67, reEnv (i + 1) l, opRowsR l w ⟨d.kind, d.pages ++ [(i : Int)]⟩ F left, 7⟩) rfl (Nat.zero_le _) (by simp) ?_ ?_) (Ent.addR (i + 1) l w ⟨d.kind, d.pages ++ [(i : Int)]⟩ F left)
                · unfold reEnv
                  simp only [go_sem, reduceCtorEq, reduceIte, Nat.reduceEqDiff, Nat.reduceLT, Nat.reduceLeDiff, Int.natCast_succ]
                · unfold opRowsR
                  simp only [go_sem, reduceCtorEq, reduceIte, Nat.reduceEqDiff, Nat.reduceLT, Nat.reduceLeDiff, Int.natCast_succ, hs1, e2]
                  exact ⟨⟨by simp [Wy.av, renL, ren, hs1], rfl⟩, by rw [ren_dl]; rfl, below_dl (by decide)⟩
            · have kB := kB hb
              rw [hb2] at kB
              rcases hsp with hs1 | ⟨hs1, hs2⟩
              rotate_left
              focus
                rw [hs2] at kb
                (repeat' first | with_reducible (first | refine Asm.intro fun _ => ?_ | refine Chk.g ?_ | refine AnyI.i64 fun _ _ => ?_ | refine LetW.g ?_ | refine LetW.h ?_ | refine Ite.t fun _ => ?_ | refine Ite.f fun _ => ?_ | refine Ite.decide (fun _ => ?_) fun _ => ?_ | refine Ite.bool (fun _ => ?_) fun _ => ?_ | refine And.intro ?_ ?_) | omega | simp (maxSteps := 1000000) only [go_sem, reduceCtorEq, Nat.reduceLT, Nat.reduceLeDiff, reduceIte, ↓reduceIte, Nat.reduceEqDiff, Nat.reduceAdd, Nat.reduceMul, Nat.reduceSub, Int.reduceLE, Int.reduceLT, Int.reduceNeg, Int.reduceToNat, elemA, hel, hs1, hb])
                refine VcCall.fr (FnFr.of_ok (kb) rfl rfl) (by simp only [noIdR_ok, argOkL, argOk, allOk, argOkN, List.drop_zero, lk, reduceIte, reduceCtorEq, Nat.reduceEqDiff, Option.some.injEq, Item.row.injEq, Item.box.injEq, AV.ro.injEq, exists_eq_left, exists_and_left, exists_eq_left', exists_eq_right, and_assoc, and_true, true_and, List.cons.injEq, exists_eq', exists_eq]) 0 rfl (by simp [rowsB]) ?_
                (repeat' first | with_reducible (first | refine Asm.intro fun _ => ?_ | refine Chk.g ?_ | refine AnyI.i64 fun _ _ => ?_ | refine LetW.g ?_ | refine LetW.h ?_ | refine Ite.t fun _ => ?_ | refine Ite.f fun _ => ?_ | refine Ite.decide (fun _ => ?_) fun _ => ?_ | refine Ite.bool (fun _ => ?_) fun _ => ?_ | refine And.intro ?_ ?_) | omega | simp (maxSteps := 1000000) only [go_sem, reduceCtorEq, Nat.reduceLT, Nat.reduceLeDiff, reduceIte, ↓reduceIte, Nat.reduceEqDiff, Nat.reduceAdd, Nat.reduceMul, Nat.reduceSub, Int.reduceLE, Int.reduceLT, Int.reduceNeg, Int.reduceToNat, hs1, hb])
              rotate_left
              focus
                (repeat' first | with_reducible (first | refine Asm.intro fun _ => ?_ | refine Chk.g ?_ | refine AnyI.i64 fun _ _ => ?_ | refine LetW.g ?_ | refine LetW.h ?_ | refine Ite.t fun _ => ?_ | refine Ite.f fun _ => ?_ | refine Ite.decide (fun _ => ?_) fun _ => ?_ | refine Ite.bool (fun _ => ?_) fun _ => ?_ | refine And.intro ?_ ?_) | omega | simp (maxSteps := 1000000) only [go_sem, reduceCtorEq, Nat.reduceLT, Nat.reduceLeDiff, reduceIte, ↓reduceIte, Nat.reduceEqDiff, Nat.reduceAdd, Nat.reduceMul, Nat.reduceSub, Int.reduceLE, Int.reduceLT, Int.reduceNeg, Int.reduceToNat, elemA, hel, hs1, hb])
              all_goals
                refine VcCall.fr (FnFr.of_ok (kB) rfl rfl) (by simp only [noIdR_ok, argOkL, argOk, allOk, argOkN, List.drop_zero, lk, reduceIte, reduceCtorEq, Nat.reduceEqDiff, Option.some.injEq, Item.row.injEq, Item.box.injEq, AV.ro.injEq, exists_eq_left, exists_and_left, exists_eq_left', exists_eq_right, and_assoc, and_true, true_and, List.cons.injEq, exists_eq', exists_eq]) 0 rfl (by simp [rowsB]) ?_
                (repeat' first | with_reducible (first | refine Asm.intro fun _ => ?_ | refine Chk.g ?_ | refine AnyI.i64 fun _ _ => ?_ | refine LetW.g ?_ | refine LetW.h ?_ | refine Ite.t fun _ => ?_ | refine Ite.f fun _ => ?_ | refine Ite.decide (fun _ => ?_) fun _ => ?_ | refine Ite.bool (fun _ => ?_) fun _ => ?_ | refine And.intro ?_ ?_) | omega | simp (maxSteps := 1000000) only [go_sem, reduceCtorEq, Nat.reduceLT, Nat.reduceLeDiff, reduceIte, ↓reduceIte, Nat.reduceEqDiff, Nat.reduceAdd, Nat.reduceMul, Nat.reduceSub, Int.reduceLE, Int.reduceLT, Int.reduceNeg, Int.reduceToNat])
                refine VcCall.fr (FnFr.of_ok (kk) rfl rfl) (by simp only [noIdR_ok, argOkL, argOk, allOk, argOkN, List.drop_zero, lk, reduceIte, reduceCtorEq, Nat.reduceEqDiff, Option.some.injEq, Item.row.injEq, Item.box.injEq, AV.ro.injEq, exists_eq_left, exists_and_left, exists_eq_left', exists_eq_right, and_assoc, and_true, true_and, List.cons.injEq, exists_eq', exists_eq]) 0 rfl (by simp [rowsB]) ?_
                (repeat' first | with_reducible (first | refine Asm.intro fun _ => ?_ | refine Chk.g ?_ | refine AnyI.i64 fun _ _ => ?_ | refine LetW.g ?_ | refine LetW.h ?_ | refine Ite.t fun _ => ?_ | refine Ite.f fun _ => ?_ | refine Ite.decide (fun _ => ?_) fun _ => ?_ | refine Ite.bool (fun _ => ?_) fun _ => ?_ | refine And.intro ?_ ?_) | omega | simp (maxSteps := 1000000) only [go_sem, reduceCtorEq, Nat.reduceLT, Nat.reduceLeDiff, reduceIte, ↓reduceIte, Nat.reduceEqDiff, Nat.reduceAdd, Nat.reduceMul, Nat.reduceSub, Int.reduceLE, Int.reduceLT, Int.reduceNeg, Int.reduceToNat])
                refine VcCall.io [0, 1, 2, 3, 4, 5] kn (by decide) (by simp [renL, ren, ioN]) rfl (by simp [subOk, ioN, lk, Item.ren, Item.below, ren, renL, belowL, Fv.below, ren_dl, below_dl, Wy.av, hs1]) covS6 8 (by decide) rfl ⟨⟨by decide, rfl⟩, ⟨by decide, rfl⟩, ⟨by decide, rfl⟩, ⟨by decide, rfl⟩, ⟨by decide, below_dl (by decide)⟩, ⟨by decide, rfl⟩, trivial⟩ ?_
                (repeat' first | with_reducible (first | refine Asm.intro fun _ => ?_ | refine Chk.g ?_ | refine AnyI.i64 fun _ _ => ?_ | refine LetW.g ?_ | refine LetW.h ?_ | refine Ite.t fun _ => ?_ | refine Ite.f fun _ => ?_ | refine Ite.decide (fun _ => ?_) fun _ => ?_ | refine Ite.bool (fun _ => ?_) fun _ => ?_ | refine And.intro ?_ ?_) | omega | simp (maxSteps := 1000000) only [go_sem, reduceCtorEq, Nat.reduceLT, Nat.reduceLeDiff, reduceIte, ↓reduceIte, Nat.reduceEqDiff, Nat.reduceAdd, Nat.reduceMul, Nat.reduceSub, Int.reduceLE, Int.reduceLT, Int.reduceNeg, Int.reduceToNat, S.ioS, ioRows, ioN, delL, Item.ren, ren, renL, ren_dl, List.map_nil, List.length_cons, List.length_nil, List.getElem?_cons_zero, List.getElem?_cons_succ, List.getElem?_nil, List.cons_append, List.nil_append, Nat.reduceAdd, Nat.sub_self, Nat.add_zero, List.filter, Wy.av])
                refine ⟨i + 1, ?_, by omega, by omega⟩
                rw [hst]
                refine Ent.trans (Ent.of [(4, 8), (5, 9)] (s' := ⟨67, reEnv (i + 1) l, opRowsR l w ⟨d.kind, d.pages ++ [(i : Int)]⟩ F left, 7⟩) rfl (Nat.zero_le _) (by simp) ?_ ?_) (Ent.addR (i + 1) l w ⟨d.kind, d.pages ++ [(i : Int)]⟩ F left)
                · unfold reEnv
                  simp only [go_sem, reduceCtorEq, reduceIte, Nat.reduceEqDiff, Nat.reduceLT, Nat.reduceLeDiff, Int.natCast_succ]
                · unfold opRowsR
                  simp only [go_sem, reduceCtorEq, reduceIte, Nat.reduceEqDiff, Nat.reduceLT, Nat.reduceLeDiff, Int.natCast_succ, hs1, e2]
                  exact ⟨⟨by simp [Wy.av, renL, ren, hs1], rfl⟩, by rw [ren_dl]; rfl, below_dl (by decide)⟩
  · have e : i = l.length := by omega
    subst e
    obtain ⟨b, hen⟩ := Ent.closeR (w0 := w0) (T0 := T0) l.length l w (spN l w l.length)
    refine VcRun.ent hen (VcRun.of ?_)
    generalize (spN l w l.length).docs = F at *
    generalize (spN l w l.length).left = left at *
    unfold clRowsR reEnv Wy.av
    (repeat' first | with_reducible (first | refine Asm.intro fun _ => ?_ | refine Chk.g ?_ | refine AnyI.i64 fun _ _ => ?_ | refine LetW.g ?_ | refine LetW.h ?_ | refine Ite.t fun _ => ?_ | refine Ite.f fun _ => ?_ | refine Ite.decide (fun _ => ?_) fun _ => ?_ | refine Ite.bool (fun _ => ?_) fun _ => ?_ | refine And.intro ?_ ?_) | omega | simp (maxSteps := 1000000) only [go_sem, reduceCtorEq, Nat.reduceLT, Nat.reduceLeDiff, reduceIte, ↓reduceIte, Nat.reduceEqDiff, Nat.reduceAdd, Nat.reduceMul, Nat.reduceSub, Int.reduceLE, Int.reduceLT, Int.reduceNeg, Int.reduceToNat])
    refine Ret.auto 2 ?_ rfl ?_ <;> simp only [go_sem, reduceCtorEq, reduceIte, Nat.reduceEqDiff, Nat.reduceLT, Nat.reduceLeDiff, Int.natCast_succ, Post]
end Go.Fv.Z
