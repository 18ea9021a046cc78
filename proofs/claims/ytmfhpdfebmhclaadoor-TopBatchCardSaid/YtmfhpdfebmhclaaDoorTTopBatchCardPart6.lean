/-
  A part of the proof of the claim: walks over the program's functions and the plain laws that these need. No condition of its own.
-/
import Derived.Test.YtmfhpdfebmhclaaDoorTTopBatchCardPart5
/- Split: the walk. -/
namespace Go.Fv.T
open Go Go.Proofs
set_option linter.unusedSimpArgs false
set_option linter.unusedVariables false
set_option linter.unnecessarySimpa false
set_option maxRecDepth 8000

theorem shErr_text0 {s : Sh} (h : shErr s = 0) : s.text.length ≤ 1048576 := by
  have := firstErr_zero h (if 1048576 < s.text.length then 4 else 0) (by simp)
  split at this
  · cases this
  · omega
theorem shsErr_zero {l : List Sh} (h : shsErr l = 0) : l.length ≤ 1000 ∧ ∀ i, i < l.length → shErr (l.getD i Sh.zero) = 0 := by
  unfold shsErr at h
  split at h
  · cases h
  · refine ⟨by omega, fun i hi => firstErr_zero h _ (List.mem_map.2 ⟨_, List.getElem_mem hi, ?_⟩)⟩
    rw [getD_lt hi]
structure WOk (w : Wy) : Prop where
  m0 : 0 ≤ w.margin
  m1 : w.margin ≤ 4000
  b0 : -1 ≤ w.blank
  b1 : w.blank ≤ 1000
  k0 : 0 ≤ w.most
  k1 : w.most ≤ 1000
theorem spErr_zero {w : Wy} (h : spErr w = 0) : codeOk w.sep = true ∧ WOk w ∧ rusErr w.rules = 0 := by
  have h1 := firstErr_zero h _ (List.mem_cons_self)
  have h2 := firstErr_zero h _ (List.mem_cons_of_mem _ (List.mem_cons_self))
  have h3 := firstErr_zero h _ (List.mem_cons_of_mem _ (List.mem_cons_of_mem _ (List.mem_cons_self)))
  split at h1
  · rename_i hc
    split at h2
    · cases h2
    · exact ⟨hc, ⟨by omega, by omega, by omega, by omega, by omega, by omega⟩, h3⟩
  · cases h1
/-- The documents are data; the flag says something. -/
def clRows (b : Bool) (w : Wy) (F : List Dc) (left : List Int) : List (Nat × Item) := [(0, .box 4 [.bool b]), (1, .box 45 [.own 3]), (2, .box 50 w.av), (3, .row 52 (dcs F)), (5, .row 3 (.ints .i64 left))]
def spEnv (i : Nat) (l : List Sh) : List (Nat × AV) := [(64, .int .i64 i), (63, .int .i64 l.length), (62, .ro (shs l)), (12, .fn 28 [.ptr 0 0, .ptr 1 0, .ptr 2 0]), (10, .own 5), (11, .ptr 0 0), (9, .ptr 1 0), (3, .ptr 2 0)]
theorem dcs_fz (F : List Dc) (k : List UInt8) (ps : List Int) (n : Nat) : fzR n (.ints .i64 ps) (.objs 2 (F.map Dc.av ++ [[.str k, .own n]])) = dcs (F ++ [⟨k, ps⟩]) := by
  simp only [fzR, List.map_append, List.map_cons, List.map_nil, dcs]
  congr 1
  congr 1
  · rw [List.map_map]
    exact List.map_congr_left fun d _ => rfl
  · simp [fzL, fz, Dc.av]
theorem Ent.closeD {w0 : World} {T0 : Bs} (i : Nat) (l : List Sh) (w : Wy) (st : St) : ∃ b, Ent w0 T0 0 ⟨117, spEnv i l, stRows w st, 6⟩ ⟨117, spEnv i l, clRows b w st.docs st.left, 6⟩ := by
  obtain ⟨F, last, left⟩ := st
  cases last with
  | none => exact ⟨false, by simp only [stRows, clRows, St.docs, Option.toList, List.append_nil]; exact Ent.refl _⟩
  | some d =>
    refine ⟨true, ?_⟩
    have h := Ent.fz (w0 := w0) (T0 := T0) (b0 := 0) 4 (s := ⟨117, spEnv i l, stRows w ⟨F, some d, left⟩, 6⟩) (e := 3) (r := .ints .i64 d.pages) rfl rfl (Nat.zero_le _)
    have e : (⟨117, spEnv i l, stRows w ⟨F, some d, left⟩, 6⟩ : S).fz 4 (.ints .i64 d.pages) = ⟨117, spEnv i l, clRows true w (F ++ [d]) left, 6⟩ := by
      simp only [S.fz, stRows, clRows, fzRows, reduceIte, Nat.reduceEqDiff, fzI, reduceCtorEq]
      rw [dcs_fz]
      rfl
    rw [e] at h
    exact h
/-- The rows while a document is open. -/
def onRows (w : Wy) (d : Dc) (F : List Dc) (left : List Int) : List (Nat × Item) := [(0, .box 4 [.bool true]), (1, .box 45 [.own 3]), (2, .box 50 w.av), (3, .row 52 (.objs 2 (F.map Dc.av ++ [[.str d.kind, .own 4]]))), (4, .row 3 (.ints .i64 d.pages)), (5, .row 3 (.ints .i64 left))]
/-- The rows after a sheet came in. -/
def opRows (w : Wy) (d : Dc) (F : List Dc) (left : List Int) : List (Nat × Item) := [(0, .box 4 [.bool (stayB w.most d.pages.length)]), (1, .box 45 [.own 3]), (2, .box 50 w.av), (3, .row 52 (.objs 2 (F.map Dc.av ++ [[.str d.kind, .own 4]]))), (4, .row 3 (.ints .i64 d.pages)), (5, .row 3 (.ints .i64 left))]
theorem Ent.addE {w0 : World} {T0 : Bs} (i : Nat) (l : List Sh) (w : Wy) (d : Dc) (F : List Dc) (left : List Int) : Ent w0 T0 0 ⟨117, spEnv i l, opRows w d F left, 6⟩ ⟨117, spEnv i l, stRows w (addD w.most d F left), 6⟩ := by
  unfold addD
  by_cases h : stayB w.most d.pages.length = true
  · rw [if_pos h]
    unfold opRows stRows
    rw [h]
    exact Ent.refl _
  · rw [if_neg h]
    rw [Bool.not_eq_true] at h
    unfold opRows
    rw [h]
    have h := Ent.fz (w0 := w0) (T0 := T0) (b0 := 0) 4 (s := ⟨117, spEnv i l, [(0, .box 4 [.bool false]), (1, .box 45 [.own 3]), (2, .box 50 w.av), (3, .row 52 (.objs 2 (F.map Dc.av ++ [[.str d.kind, .own 4]]))), (4, .row 3 (.ints .i64 d.pages)), (5, .row 3 (.ints .i64 left))], 6⟩) (e := 3) (r := .ints .i64 d.pages) rfl rfl (Nat.zero_le _)
    have e : (⟨117, spEnv i l, [(0, .box 4 [.bool false]), (1, .box 45 [.own 3]), (2, .box 50 w.av), (3, .row 52 (.objs 2 (F.map Dc.av ++ [[.str d.kind, .own 4]]))), (4, .row 3 (.ints .i64 d.pages)), (5, .row 3 (.ints .i64 left))], 6⟩ : S).fz 4 (.ints .i64 d.pages) = ⟨117, spEnv i l, stRows w ⟨F ++ [d], none, left⟩, 6⟩ := by
      simp only [S.fz, stRows, fzRows, reduceIte, Nat.reduceEqDiff, fzI, reduceCtorEq]
      rw [dcs_fz]
      rfl
    rw [e] at h
    exact h
set_option maxHeartbeats 8000000 in
theorem splitLoop (l : List Sh) (hl : l.length ≤ 1000) (hok : ∀ i, i < l.length → shErr (l.getD i Sh.zero) = 0) (w : Wy) (hw : WOk w) (hc : codeOk w.sep = true) (he : spErr w = 0) (hs : shsErr l = 0) (hr : rusErr w.rules = 0) (hW : RuSmall w.rules) :
    FnOk Tryd.prog 13 [.ro (shs l), .agg w.av] (.tup [.own 0, .own 1, .int .i64 0]) [(0, .row 52 (dcs (spN l w l.length).docs)), (1, .row 3 (.ints .i64 (spN l w l.length).left))] := by
  have k1 := checkSheets_ok l
  have k2 := isCode_ok w.sep
  have k3 := checkRules_ok w.rules hW
  rw [hs] at k1
  rw [hc] at k2
  rw [hr] at k3
  obtain ⟨hm0, hm1, hb0, hb1, hk0, hk1⟩ := hw
  unfold Wy.av
  refine FnOk.of_vc Tryd.func13 rfl (by decide) (by simp [Tryd.f13]) [.tmp 4, .tmp 5, .tmp 6] rfl fun w0 T0 _ => ?_
  simp only [Tryd.f13, argEnv]
  (repeat' first | with_reducible (first | refine Asm.intro fun _ => ?_ | refine Chk.g ?_ | refine AnyI.i64 fun _ _ => ?_ | refine LetW.g ?_ | refine LetW.h ?_ | refine Ite.t fun _ => ?_ | refine Ite.f fun _ => ?_ | refine Ite.decide (fun _ => ?_) fun _ => ?_ | refine Ite.bool (fun _ => ?_) fun _ => ?_ | refine And.intro ?_ ?_) | omega | simp (maxSteps := 1000000) only [go_sem, reduceCtorEq, Nat.reduceLT, Nat.reduceLeDiff, reduceIte, ↓reduceIte, Nat.reduceEqDiff, Nat.reduceAdd, Nat.reduceMul, Nat.reduceSub, Int.reduceLE, Int.reduceLT, Int.reduceNeg, Int.reduceToNat])
  refine VcCall.fr (FnFr.of_ok (k1) rfl rfl) (by simp only [noIdR_ok, argOkL, argOk, allOk, argOkN, List.drop_zero, lk, reduceIte, reduceCtorEq, Nat.reduceEqDiff, Option.some.injEq, Item.row.injEq, Item.box.injEq, AV.ro.injEq, exists_eq_left, exists_and_left, exists_eq_left', exists_eq_right, and_assoc, and_true, true_and, List.cons.injEq, exists_eq', exists_eq]) 0 rfl (by simp [rowsB]) ?_
  (repeat' first | with_reducible (first | refine Asm.intro fun _ => ?_ | refine Chk.g ?_ | refine AnyI.i64 fun _ _ => ?_ | refine LetW.g ?_ | refine LetW.h ?_ | refine Ite.t fun _ => ?_ | refine Ite.f fun _ => ?_ | refine Ite.decide (fun _ => ?_) fun _ => ?_ | refine Ite.bool (fun _ => ?_) fun _ => ?_ | refine And.intro ?_ ?_) | omega | simp (maxSteps := 1000000) only [go_sem, reduceCtorEq, Nat.reduceLT, Nat.reduceLeDiff, reduceIte, ↓reduceIte, Nat.reduceEqDiff, Nat.reduceAdd, Nat.reduceMul, Nat.reduceSub, Int.reduceLE, Int.reduceLT, Int.reduceNeg, Int.reduceToNat])
  refine VcCall.fr (FnFr.of_ok (k2) rfl rfl) (by simp only [noIdR_ok, argOkL, argOk, allOk, argOkN, List.drop_zero, lk, reduceIte, reduceCtorEq, Nat.reduceEqDiff, Option.some.injEq, Item.row.injEq, Item.box.injEq, AV.ro.injEq, exists_eq_left, exists_and_left, exists_eq_left', exists_eq_right, and_assoc, and_true, true_and, List.cons.injEq, exists_eq', exists_eq]) 0 rfl (by simp [rowsB]) ?_
  (repeat' first | with_reducible (first | refine Asm.intro fun _ => ?_ | refine Chk.g ?_ | refine AnyI.i64 fun _ _ => ?_ | refine LetW.g ?_ | refine LetW.h ?_ | refine Ite.t fun _ => ?_ | refine Ite.f fun _ => ?_ | refine Ite.decide (fun _ => ?_) fun _ => ?_ | refine Ite.bool (fun _ => ?_) fun _ => ?_ | refine And.intro ?_ ?_) | omega | simp (maxSteps := 1000000) only [go_sem, reduceCtorEq, Nat.reduceLT, Nat.reduceLeDiff, reduceIte, ↓reduceIte, Nat.reduceEqDiff, Nat.reduceAdd, Nat.reduceMul, Nat.reduceSub, Int.reduceLE, Int.reduceLT, Int.reduceNeg, Int.reduceToNat])
  refine VcCall.fr (FnFr.of_ok (k3) rfl rfl) (by simp only [noIdR_ok, argOkL, argOk, allOk, argOkN, List.drop_zero, lk, reduceIte, reduceCtorEq, Nat.reduceEqDiff, Option.some.injEq, Item.row.injEq, Item.box.injEq, AV.ro.injEq, exists_eq_left, exists_and_left, exists_eq_left', exists_eq_right, and_assoc, and_true, true_and, List.cons.injEq, exists_eq', exists_eq]) 0 rfl (by simp [rowsB]) ?_
  (repeat' first | with_reducible (first | refine Asm.intro fun _ => ?_ | refine Chk.g ?_ | refine AnyI.i64 fun _ _ => ?_ | refine LetW.g ?_ | refine LetW.h ?_ | refine Ite.t fun _ => ?_ | refine Ite.f fun _ => ?_ | refine Ite.decide (fun _ => ?_) fun _ => ?_ | refine Ite.bool (fun _ => ?_) fun _ => ?_ | refine And.intro ?_ ?_) | omega | simp (maxSteps := 1000000) only [go_sem, reduceCtorEq, Nat.reduceLT, Nat.reduceLeDiff, reduceIte, ↓reduceIte, Nat.reduceEqDiff, Nat.reduceAdd, Nat.reduceMul, Nat.reduceSub, Int.reduceLE, Int.reduceLT, Int.reduceNeg, Int.reduceToNat])
  refine VcLoop.run (fun i : Nat => ⟨117, spEnv i l, stRows w (spN l w i), 6⟩) (fun i => i ≤ l.length) (fun i => l.length - i) 0 ?_ (Nat.zero_le _) fun i hi => ?_
  · unfold spEnv stRows spN Wy.av
    refine Ent.trans (Ent.nilBox (P := Tryd.prog) 3 0 52 e52 rfl rfl) (Ent.auto0 rfl ?_ ?_) <;> simp only [go_sem, reduceCtorEq, reduceIte, Nat.reduceEqDiff, Nat.reduceLT, Nat.reduceLeDiff, Int.natCast_succ, zrow, put, List.set_cons_zero, List.set_cons_succ, Nat.zero_mul, List.range_zero, List.map_nil, List.replicate_zero]
  by_cases hlt : i < l.length
  · have hsh := hok i hlt
    have hel := sh_elem l hlt
    have hst : spN l w (i + 1) = spStep (l.getD i Sh.zero) w (spN l w i) i := rfl
    have hinv := spN_inv l w i
    generalize spN l w i = st at *
    generalize l.getD i Sh.zero = s at *
    have ht := shErr_text0 hsh
    obtain ⟨W, H, hW0, hH0, hW1, hW2, hH1, hH2, hWH, hp⟩ := sh_dims hsh
    have kk := kind_ok s ht w.rules
    have kb := begins_ok s w.sep
    have d1 := hinv.docs
    have d2 := hinv.left
    unfold Sh.av at kk kb
    unfold spStep at hst
    have hcl : ∀ k, st.close.add w.most i k = addD w.most ⟨k, [(i : Int)]⟩ st.docs st.left := fun _ => rfl
    rw [hcl] at hst
    by_cases hsep : sepHit s w
    · rw [if_pos hsep] at hst
      obtain ⟨hs1, hs2⟩ := hsep
      rw [hs2] at kb
      obtain ⟨b, hen⟩ := Ent.closeD (w0 := w0) (T0 := T0) i l w st
      refine VcRun.ent hen (VcRun.of ?_)
      unfold clRows spEnv Wy.av
      (repeat' first | with_reducible (first | refine Asm.intro fun _ => ?_ | refine Chk.g ?_ | refine AnyI.i64 fun _ _ => ?_ | refine LetW.g ?_ | refine LetW.h ?_ | refine Ite.t fun _ => ?_ | refine Ite.f fun _ => ?_ | refine Ite.decide (fun _ => ?_) fun _ => ?_ | refine Ite.bool (fun _ => ?_) fun _ => ?_ | refine And.intro ?_ ?_) | omega | simp (maxSteps := 1000000) only [go_sem, reduceCtorEq, Nat.reduceLT, Nat.reduceLeDiff, reduceIte, ↓reduceIte, Nat.reduceEqDiff, Nat.reduceAdd, Nat.reduceMul, Nat.reduceSub, Int.reduceLE, Int.reduceLT, Int.reduceNeg, Int.reduceToNat, elemA, hel])
      refine VcCall.fr (FnFr.of_ok (kk) rfl rfl) (by simp only [noIdR_ok, argOkL, argOk, allOk, argOkN, List.drop_zero, lk, reduceIte, reduceCtorEq, Nat.reduceEqDiff, Option.some.injEq, Item.row.injEq, Item.box.injEq, AV.ro.injEq, exists_eq_left, exists_and_left, exists_eq_left', exists_eq_right, and_assoc, and_true, true_and, List.cons.injEq, exists_eq', exists_eq]) 0 rfl (by simp [rowsB]) ?_
      (repeat' first | with_reducible (first | refine Asm.intro fun _ => ?_ | refine Chk.g ?_ | refine AnyI.i64 fun _ _ => ?_ | refine LetW.g ?_ | refine LetW.h ?_ | refine Ite.t fun _ => ?_ | refine Ite.f fun _ => ?_ | refine Ite.decide (fun _ => ?_) fun _ => ?_ | refine Ite.bool (fun _ => ?_) fun _ => ?_ | refine And.intro ?_ ?_) | omega | simp (maxSteps := 1000000) only [go_sem, reduceCtorEq, Nat.reduceLT, Nat.reduceLeDiff, reduceIte, ↓reduceIte, Nat.reduceEqDiff, Nat.reduceAdd, Nat.reduceMul, Nat.reduceSub, Int.reduceLE, Int.reduceLT, Int.reduceNeg, Int.reduceToNat, hs1])
      refine VcCall.fr (FnFr.of_ok (kb) rfl rfl) (by simp only [noIdR_ok, argOkL, argOk, allOk, argOkN, List.drop_zero, lk, reduceIte, reduceCtorEq, Nat.reduceEqDiff, Option.some.injEq, Item.row.injEq, Item.box.injEq, AV.ro.injEq, exists_eq_left, exists_and_left, exists_eq_left', exists_eq_right, and_assoc, and_true, true_and, List.cons.injEq, exists_eq', exists_eq]) 0 rfl (by simp [rowsB]) ?_
      generalize st.docs = F at *
      generalize kindS s w.rules = kd at *
      by_cases hkp : w.keep = true
      · rw [if_pos hkp] at hst
        (repeat' first | with_reducible (first | refine Asm.intro fun _ => ?_ | refine Chk.g ?_ | refine AnyI.i64 fun _ _ => ?_ | refine LetW.g ?_ | refine LetW.h ?_ | refine Ite.t fun _ => ?_ | refine Ite.f fun _ => ?_ | refine Ite.decide (fun _ => ?_) fun _ => ?_ | refine Ite.bool (fun _ => ?_) fun _ => ?_ | refine And.intro ?_ ?_) | omega | simp (maxSteps := 1000000) only [go_sem, reduceCtorEq, Nat.reduceLT, Nat.reduceLeDiff, reduceIte, ↓reduceIte, Nat.reduceEqDiff, Nat.reduceAdd, Nat.reduceMul, Nat.reduceSub, Int.reduceLE, Int.reduceLT, Int.reduceNeg, Int.reduceToNat, hkp])
        refine VcCall.io [0, 1, 2, 3] (addNew_ok w F i kd (by omega)) (by decide) (by simp [renL, ren, ioN]) rfl (by simp [subOk, ioN, lk, Item.ren, Item.below, ren, renL, belowL, Fv.below, renR_ok, belowR_ok, Wy.av, hkp]) covS4 6 (by decide) rfl ⟨⟨by decide, rfl⟩, ⟨by decide, rfl⟩, ⟨by decide, rfl⟩, ⟨by decide, below_dl (by decide)⟩, ⟨by decide, rfl⟩, trivial⟩ ?_
        (repeat' first | with_reducible (first | refine Asm.intro fun _ => ?_ | refine Chk.g ?_ | refine AnyI.i64 fun _ _ => ?_ | refine LetW.g ?_ | refine LetW.h ?_ | refine Ite.t fun _ => ?_ | refine Ite.f fun _ => ?_ | refine Ite.decide (fun _ => ?_) fun _ => ?_ | refine Ite.bool (fun _ => ?_) fun _ => ?_ | refine And.intro ?_ ?_) | omega | simp (maxSteps := 1000000) only [go_sem, reduceCtorEq, Nat.reduceLT, Nat.reduceLeDiff, reduceIte, ↓reduceIte, Nat.reduceEqDiff, Nat.reduceAdd, Nat.reduceMul, Nat.reduceSub, Int.reduceLE, Int.reduceLT, Int.reduceNeg, Int.reduceToNat, S.ioS, ioRows, ioN, delL, Item.ren, ren, renL, ren_dl, List.map_nil, List.length_cons, List.length_nil, List.getElem?_cons_zero, List.getElem?_cons_succ, List.getElem?_nil, List.cons_append, List.nil_append, Nat.reduceAdd, Nat.sub_self, Nat.add_zero, List.filter, Wy.av])
        refine ⟨i + 1, ?_, by omega, by omega⟩
        rw [hst]
        refine Ent.trans (Ent.of [(3, 7), (4, 8)] (s' := ⟨117, spEnv (i + 1) l, opRows w ⟨kd, [(i : Int)]⟩ F st.left, 6⟩) rfl (Nat.zero_le _) (by simp) ?_ ?_) (Ent.addE (i + 1) l w ⟨kd, [(i : Int)]⟩ F st.left)
        · unfold spEnv
          simp only [go_sem, reduceCtorEq, reduceIte, Nat.reduceEqDiff, Nat.reduceLT, Nat.reduceLeDiff, Int.natCast_succ]
        · unfold opRows
          simp only [go_sem, reduceCtorEq, reduceIte, Nat.reduceEqDiff, Nat.reduceLT, Nat.reduceLeDiff, Int.natCast_succ]
          exact ⟨⟨by simp [Wy.av, renL, ren, hs1], rfl⟩, by rw [ren_dl]; rfl, below_dl (by decide)⟩
      · rw [if_neg hkp] at hst
        rw [Bool.not_eq_true] at hkp
        (repeat' first | with_reducible (first | refine Asm.intro fun _ => ?_ | refine Chk.g ?_ | refine AnyI.i64 fun _ _ => ?_ | refine LetW.g ?_ | refine LetW.h ?_ | refine Ite.t fun _ => ?_ | refine Ite.f fun _ => ?_ | refine Ite.decide (fun _ => ?_) fun _ => ?_ | refine Ite.bool (fun _ => ?_) fun _ => ?_ | refine And.intro ?_ ?_) | omega | simp (maxSteps := 1000000) only [go_sem, reduceCtorEq, Nat.reduceLT, Nat.reduceLeDiff, reduceIte, ↓reduceIte, Nat.reduceEqDiff, Nat.reduceAdd, Nat.reduceMul, Nat.reduceSub, Int.reduceLE, Int.reduceLT, Int.reduceNeg, Int.reduceToNat, hkp])
        refine ⟨i + 1, ?_, by omega, by omega⟩
        rw [hst]
        unfold stRows Wy.av
        refine Ent.auto0 rfl ?_ ?_ <;> simp only [go_sem, reduceCtorEq, reduceIte, Nat.reduceEqDiff, Nat.reduceLT, Nat.reduceLeDiff, Int.natCast_succ, hkp]
    · rw [if_neg hsep] at hst
      have hsp : w.sep = [] ∨ (w.sep ≠ [] ∧ begB s.codes w.sep = false) := by
        unfold sepHit at hsep
        by_cases h : w.sep = []
        · exact .inl h
        · exact .inr ⟨h, by cases hh : begB s.codes w.sep with | false => rfl | true => exact absurd ⟨h, hh⟩ hsep⟩
      have hbS : blankS s w = blankB s.p W H w.margin.toNat w.blank := by unfold blankS; rw [hW0, hH0]; rfl
      have kB := fun h0 => isBlank_ok W H hW1 hW2 hH1 hH2 hWH s.p hp w.margin.toNat (by omega) w.blank h0 hb1
      rw [← hbS, Int.toNat_of_nonneg hm0, ← hW0, ← hH0] at kB
      by_cases hbl : blankHit s w
      · rw [if_pos hbl] at hst
        obtain ⟨hb, hb2⟩ := hbl
        have kB := kB hb
        rw [hb2] at kB
        obtain ⟨F, last, left⟩ := st
        have d2 : left.length ≤ i := d2
        generalize kindS s w.rules = kd at *
        cases last with
        | none =>
          refine VcRun.ent (s' := ⟨117, spEnv i l, clRows false w F left, 6⟩) (Ent.refl _) (VcRun.of ?_)
          unfold clRows spEnv Wy.av
          (repeat' first | with_reducible (first | refine Asm.intro fun _ => ?_ | refine Chk.g ?_ | refine AnyI.i64 fun _ _ => ?_ | refine LetW.g ?_ | refine LetW.h ?_ | refine Ite.t fun _ => ?_ | refine Ite.f fun _ => ?_ | refine Ite.decide (fun _ => ?_) fun _ => ?_ | refine Ite.bool (fun _ => ?_) fun _ => ?_ | refine And.intro ?_ ?_) | omega | simp (maxSteps := 1000000) only [go_sem, reduceCtorEq, Nat.reduceLT, Nat.reduceLeDiff, reduceIte, ↓reduceIte, Nat.reduceEqDiff, Nat.reduceAdd, Nat.reduceMul, Nat.reduceSub, Int.reduceLE, Int.reduceLT, Int.reduceNeg, Int.reduceToNat, elemA, hel])
          refine VcCall.fr (FnFr.of_ok (kk) rfl rfl) (by simp only [noIdR_ok, argOkL, argOk, allOk, argOkN, List.drop_zero, lk, reduceIte, reduceCtorEq, Nat.reduceEqDiff, Option.some.injEq, Item.row.injEq, Item.box.injEq, AV.ro.injEq, exists_eq_left, exists_and_left, exists_eq_left', exists_eq_right, and_assoc, and_true, true_and, List.cons.injEq, exists_eq', exists_eq]) 0 rfl (by simp [rowsB]) ?_
          rcases hsp with hs1 | ⟨hs1, hs2⟩
          rotate_left
          focus
            rw [hs2] at kb
            (repeat' first | with_reducible (first | refine Asm.intro fun _ => ?_ | refine Chk.g ?_ | refine AnyI.i64 fun _ _ => ?_ | refine LetW.g ?_ | refine LetW.h ?_ | refine Ite.t fun _ => ?_ | refine Ite.f fun _ => ?_ | refine Ite.decide (fun _ => ?_) fun _ => ?_ | refine Ite.bool (fun _ => ?_) fun _ => ?_ | refine And.intro ?_ ?_) | omega | simp (maxSteps := 1000000) only [go_sem, reduceCtorEq, Nat.reduceLT, Nat.reduceLeDiff, reduceIte, ↓reduceIte, Nat.reduceEqDiff, Nat.reduceAdd, Nat.reduceMul, Nat.reduceSub, Int.reduceLE, Int.reduceLT, Int.reduceNeg, Int.reduceToNat, hs1, hb])
            refine VcCall.fr (FnFr.of_ok (kb) rfl rfl) (by simp only [noIdR_ok, argOkL, argOk, allOk, argOkN, List.drop_zero, lk, reduceIte, reduceCtorEq, Nat.reduceEqDiff, Option.some.injEq, Item.row.injEq, Item.box.injEq, AV.ro.injEq, exists_eq_left, exists_and_left, exists_eq_left', exists_eq_right, and_assoc, and_true, true_and, List.cons.injEq, exists_eq', exists_eq]) 0 rfl (by simp [rowsB]) ?_
            (repeat' first | with_reducible (first | refine Asm.intro fun _ => ?_ | refine Chk.g ?_ | refine AnyI.i64 fun _ _ => ?_ | refine LetW.g ?_ | refine LetW.h ?_ | refine Ite.t fun _ => ?_ | refine Ite.f fun _ => ?_ | refine Ite.decide (fun _ => ?_) fun _ => ?_ | refine Ite.bool (fun _ => ?_) fun _ => ?_ | refine And.intro ?_ ?_) | omega | simp (maxSteps := 1000000) only [go_sem, reduceCtorEq, Nat.reduceLT, Nat.reduceLeDiff, reduceIte, ↓reduceIte, Nat.reduceEqDiff, Nat.reduceAdd, Nat.reduceMul, Nat.reduceSub, Int.reduceLE, Int.reduceLT, Int.reduceNeg, Int.reduceToNat, hs1, hb])
          rotate_left
          focus
            (repeat' first | with_reducible (first | refine Asm.intro fun _ => ?_ | refine Chk.g ?_ | refine AnyI.i64 fun _ _ => ?_ | refine LetW.g ?_ | refine LetW.h ?_ | refine Ite.t fun _ => ?_ | refine Ite.f fun _ => ?_ | refine Ite.decide (fun _ => ?_) fun _ => ?_ | refine Ite.bool (fun _ => ?_) fun _ => ?_ | refine And.intro ?_ ?_) | omega | simp (maxSteps := 1000000) only [go_sem, reduceCtorEq, Nat.reduceLT, Nat.reduceLeDiff, reduceIte, ↓reduceIte, Nat.reduceEqDiff, Nat.reduceAdd, Nat.reduceMul, Nat.reduceSub, Int.reduceLE, Int.reduceLT, Int.reduceNeg, Int.reduceToNat, hs1, hb])
          all_goals
            refine VcCall.fr (FnFr.of_ok (kB) rfl rfl) (by simp only [noIdR_ok, argOkL, argOk, allOk, argOkN, List.drop_zero, lk, reduceIte, reduceCtorEq, Nat.reduceEqDiff, Option.some.injEq, Item.row.injEq, Item.box.injEq, AV.ro.injEq, exists_eq_left, exists_and_left, exists_eq_left', exists_eq_right, and_assoc, and_true, true_and, List.cons.injEq, exists_eq', exists_eq]) 0 rfl (by simp [rowsB]) ?_
            (repeat' first | with_reducible (first | refine Asm.intro fun _ => ?_ | refine Chk.g ?_ | refine AnyI.i64 fun _ _ => ?_ | refine LetW.g ?_ | refine LetW.h ?_ | refine Ite.t fun _ => ?_ | refine Ite.f fun _ => ?_ | refine Ite.decide (fun _ => ?_) fun _ => ?_ | refine Ite.bool (fun _ => ?_) fun _ => ?_ | refine And.intro ?_ ?_) | omega | simp (maxSteps := 1000000) only [go_sem, reduceCtorEq, Nat.reduceLT, Nat.reduceLeDiff, reduceIte, ↓reduceIte, Nat.reduceEqDiff, Nat.reduceAdd, Nat.reduceMul, Nat.reduceSub, Int.reduceLE, Int.reduceLT, Int.reduceNeg, Int.reduceToNat])
            refine ⟨i + 1, ?_, by omega, by omega⟩
            rw [hst]
            show Ent w0 T0 0 _ ⟨117, _, clRows false w F (left ++ [(i : Int)]), 6⟩
            unfold clRows Wy.av
            refine Ent.auto0 rfl ?_ ?_ <;> simp only [go_sem, reduceCtorEq, reduceIte, Nat.reduceEqDiff, Nat.reduceLT, Nat.reduceLeDiff, Int.natCast_succ, hs1]
        | some d =>
          refine VcRun.ent (s' := ⟨117, spEnv i l, onRows w d F left, 6⟩) (Ent.refl _) (VcRun.of ?_)
          unfold onRows spEnv Wy.av
          (repeat' first | with_reducible (first | refine Asm.intro fun _ => ?_ | refine Chk.g ?_ | refine AnyI.i64 fun _ _ => ?_ | refine LetW.g ?_ | refine LetW.h ?_ | refine Ite.t fun _ => ?_ | refine Ite.f fun _ => ?_ | refine Ite.decide (fun _ => ?_) fun _ => ?_ | refine Ite.bool (fun _ => ?_) fun _ => ?_ | refine And.intro ?_ ?_) | omega | simp (maxSteps := 1000000) only [go_sem, reduceCtorEq, Nat.reduceLT, Nat.reduceLeDiff, reduceIte, ↓reduceIte, Nat.reduceEqDiff, Nat.reduceAdd, Nat.reduceMul, Nat.reduceSub, Int.reduceLE, Int.reduceLT, Int.reduceNeg, Int.reduceToNat, elemA, hel])
          refine VcCall.fr (FnFr.of_ok (kk) rfl rfl) (by simp only [noIdR_ok, argOkL, argOk, allOk, argOkN, List.drop_zero, lk, reduceIte, reduceCtorEq, Nat.reduceEqDiff, Option.some.injEq, Item.row.injEq, Item.box.injEq, AV.ro.injEq, exists_eq_left, exists_and_left, exists_eq_left', exists_eq_right, and_assoc, and_true, true_and, List.cons.injEq, exists_eq', exists_eq]) 0 rfl (by simp [rowsB]) ?_
          rcases hsp with hs1 | ⟨hs1, hs2⟩
          rotate_left
          focus
            rw [hs2] at kb
            (repeat' first | with_reducible (first | refine Asm.intro fun _ => ?_ | refine Chk.g ?_ | refine AnyI.i64 fun _ _ => ?_ | refine LetW.g ?_ | refine LetW.h ?_ | refine Ite.t fun _ => ?_ | refine Ite.f fun _ => ?_ | refine Ite.decide (fun _ => ?_) fun _ => ?_ | refine Ite.bool (fun _ => ?_) fun _ => ?_ | refine And.intro ?_ ?_) | omega | simp (maxSteps := 1000000) only [go_sem, reduceCtorEq, Nat.reduceLT, Nat.reduceLeDiff, reduceIte, ↓reduceIte, Nat.reduceEqDiff, Nat.reduceAdd, Nat.reduceMul, Nat.reduceSub, Int.reduceLE, Int.reduceLT, Int.reduceNeg, Int.reduceToNat, hs1, hb])
            refine VcCall.fr (FnFr.of_ok (kb) rfl rfl) (by simp only [noIdR_ok, argOkL, argOk, allOk, argOkN, List.drop_zero, lk, reduceIte, reduceCtorEq, Nat.reduceEqDiff, Option.some.injEq, Item.row.injEq, Item.box.injEq, AV.ro.injEq, exists_eq_left, exists_and_left, exists_eq_left', exists_eq_right, and_assoc, and_true, true_and, List.cons.injEq, exists_eq', exists_eq]) 0 rfl (by simp [rowsB]) ?_
            (repeat' first | with_reducible (first | refine Asm.intro fun _ => ?_ | refine Chk.g ?_ | refine AnyI.i64 fun _ _ => ?_ | refine LetW.g ?_ | refine LetW.h ?_ | refine Ite.t fun _ => ?_ | refine Ite.f fun _ => ?_ | refine Ite.decide (fun _ => ?_) fun _ => ?_ | refine Ite.bool (fun _ => ?_) fun _ => ?_ | refine And.intro ?_ ?_) | omega | simp (maxSteps := 1000000) only [go_sem, reduceCtorEq, Nat.reduceLT, Nat.reduceLeDiff, reduceIte, ↓reduceIte, Nat.reduceEqDiff, Nat.reduceAdd, Nat.reduceMul, Nat.reduceSub, Int.reduceLE, Int.reduceLT, Int.reduceNeg, Int.reduceToNat, hs1, hb])
          rotate_left
          focus
            (repeat' first | with_reducible (first | refine Asm.intro fun _ => ?_ | refine Chk.g ?_ | refine AnyI.i64 fun _ _ => ?_ | refine LetW.g ?_ | refine LetW.h ?_ | refine Ite.t fun _ => ?_ | refine Ite.f fun _ => ?_ | refine Ite.decide (fun _ => ?_) fun _ => ?_ | refine Ite.bool (fun _ => ?_) fun _ => ?_ | refine And.intro ?_ ?_) | omega | simp (maxSteps := 1000000) only [go_sem, reduceCtorEq, Nat.reduceLT, Nat.reduceLeDiff, reduceIte, ↓reduceIte, Nat.reduceEqDiff, Nat.reduceAdd, Nat.reduceMul, Nat.reduceSub, Int.reduceLE, Int.reduceLT, Int.reduceNeg, Int.reduceToNat, hs1, hb])
          all_goals
            refine VcCall.fr (FnFr.of_ok (kB) rfl rfl) (by simp only [noIdR_ok, argOkL, argOk, allOk, argOkN, List.drop_zero, lk, reduceIte, reduceCtorEq, Nat.reduceEqDiff, Option.some.injEq, Item.row.injEq, Item.box.injEq, AV.ro.injEq, exists_eq_left, exists_and_left, exists_eq_left', exists_eq_right, and_assoc, and_true, true_and, List.cons.injEq, exists_eq', exists_eq]) 0 rfl (by simp [rowsB]) ?_
            (repeat' first | with_reducible (first | refine Asm.intro fun _ => ?_ | refine Chk.g ?_ | refine AnyI.i64 fun _ _ => ?_ | refine LetW.g ?_ | refine LetW.h ?_ | refine Ite.t fun _ => ?_ | refine Ite.f fun _ => ?_ | refine Ite.decide (fun _ => ?_) fun _ => ?_ | refine Ite.bool (fun _ => ?_) fun _ => ?_ | refine And.intro ?_ ?_) | omega | simp (maxSteps := 1000000) only [go_sem, reduceCtorEq, Nat.reduceLT, Nat.reduceLeDiff, reduceIte, ↓reduceIte, Nat.reduceEqDiff, Nat.reduceAdd, Nat.reduceMul, Nat.reduceSub, Int.reduceLE, Int.reduceLT, Int.reduceNeg, Int.reduceToNat])
            refine ⟨i + 1, ?_, by omega, by omega⟩
            rw [hst]
            refine Ent.of [(5, 8)] (s' := ⟨117, _, onRows w d F (left ++ [(i : Int)]), 6⟩) rfl (Nat.zero_le _) (by simp) ?_ ?_
            · simp only [go_sem, reduceCtorEq, reduceIte, Nat.reduceEqDiff, Nat.reduceLT, Nat.reduceLeDiff, Int.natCast_succ]
            · unfold onRows Wy.av
              simp only [go_sem, reduceCtorEq, reduceIte, Nat.reduceEqDiff, Nat.reduceLT, Nat.reduceLeDiff, Int.natCast_succ, hs1]
              exact ⟨by rw [ren_dl]; rfl, below_dl (by decide)⟩
      · rw [if_neg hbl] at hst
        have hbk : w.blank < 0 ∨ (0 ≤ w.blank ∧ blankS s w = false) := by
          unfold blankHit at hbl
          by_cases h : 0 ≤ w.blank
          · exact .inr ⟨h, by cases hh : blankS s w with | false => rfl | true => exact absurd ⟨h, hh⟩ hbl⟩
          · exact .inl (by omega)
        by_cases hk : kindS s w.rules ≠ []
        · rw [if_pos hk] at hst
          obtain ⟨b, hen⟩ := Ent.closeD (w0 := w0) (T0 := T0) i l w st
          refine VcRun.ent hen (VcRun.of ?_)
          generalize kindS s w.rules = kd at *
          generalize st.docs = F at *
          unfold clRows spEnv Wy.av
          rcases hbk with hb | ⟨hb, hb2⟩
          · have hb' : (0 ≤ w.blank) = False := eq_false (by omega)
            (repeat' first | with_reducible (first | refine Asm.intro fun _ => ?_ | refine Chk.g ?_ | refine AnyI.i64 fun _ _ => ?_ | refine LetW.g ?_ | refine LetW.h ?_ | refine Ite.t fun _ => ?_ | refine Ite.f fun _ => ?_ | refine Ite.decide (fun _ => ?_) fun _ => ?_ | refine Ite.bool (fun _ => ?_) fun _ => ?_ | refine And.intro ?_ ?_) | omega | simp (maxSteps := 1000000) only [go_sem, reduceCtorEq, Nat.reduceLT, Nat.reduceLeDiff, reduceIte, ↓reduceIte, Nat.reduceEqDiff, Nat.reduceAdd, Nat.reduceMul, Nat.reduceSub, Int.reduceLE, Int.reduceLT, Int.reduceNeg, Int.reduceToNat, elemA, hel])
            refine VcCall.fr (FnFr.of_ok (kk) rfl rfl) (by simp only [noIdR_ok, argOkL, argOk, allOk, argOkN, List.drop_zero, lk, reduceIte, reduceCtorEq, Nat.reduceEqDiff, Option.some.injEq, Item.row.injEq, Item.box.injEq, AV.ro.injEq, exists_eq_left, exists_and_left, exists_eq_left', exists_eq_right, and_assoc, and_true, true_and, List.cons.injEq, exists_eq', exists_eq]) 0 rfl (by simp [rowsB]) ?_
            rcases hsp with hs1 | ⟨hs1, hs2⟩
            rotate_left
            focus
              rw [hs2] at kb
              (repeat' first | with_reducible (first | refine Asm.intro fun _ => ?_ | refine Chk.g ?_ | refine AnyI.i64 fun _ _ => ?_ | refine LetW.g ?_ | refine LetW.h ?_ | refine Ite.t fun _ => ?_ | refine Ite.f fun _ => ?_ | refine Ite.decide (fun _ => ?_) fun _ => ?_ | refine Ite.bool (fun _ => ?_) fun _ => ?_ | refine And.intro ?_ ?_) | omega | simp (maxSteps := 1000000) only [go_sem, reduceCtorEq, Nat.reduceLT, Nat.reduceLeDiff, reduceIte, ↓reduceIte, Nat.reduceEqDiff, Nat.reduceAdd, Nat.reduceMul, Nat.reduceSub, Int.reduceLE, Int.reduceLT, Int.reduceNeg, Int.reduceToNat, hs1, hb', hk])
              refine VcCall.fr (FnFr.of_ok (kb) rfl rfl) (by simp only [noIdR_ok, argOkL, argOk, allOk, argOkN, List.drop_zero, lk, reduceIte, reduceCtorEq, Nat.reduceEqDiff, Option.some.injEq, Item.row.injEq, Item.box.injEq, AV.ro.injEq, exists_eq_left, exists_and_left, exists_eq_left', exists_eq_right, and_assoc, and_true, true_and, List.cons.injEq, exists_eq', exists_eq]) 0 rfl (by simp [rowsB]) ?_
              (repeat' first | with_reducible (first | refine Asm.intro fun _ => ?_ | refine Chk.g ?_ | refine AnyI.i64 fun _ _ => ?_ | refine LetW.g ?_ | refine LetW.h ?_ | refine Ite.t fun _ => ?_ | refine Ite.f fun _ => ?_ | refine Ite.decide (fun _ => ?_) fun _ => ?_ | refine Ite.bool (fun _ => ?_) fun _ => ?_ | refine And.intro ?_ ?_) | omega | simp (maxSteps := 1000000) only [go_sem, reduceCtorEq, Nat.reduceLT, Nat.reduceLeDiff, reduceIte, ↓reduceIte, Nat.reduceEqDiff, Nat.reduceAdd, Nat.reduceMul, Nat.reduceSub, Int.reduceLE, Int.reduceLT, Int.reduceNeg, Int.reduceToNat, hs1, hb', hk])
            rotate_left
            focus
              (repeat' first | with_reducible (first | refine Asm.intro fun _ => ?_ | refine Chk.g ?_ | refine AnyI.i64 fun _ _ => ?_ | refine LetW.g ?_ | refine LetW.h ?_ | refine Ite.t fun _ => ?_ | refine Ite.f fun _ => ?_ | refine Ite.decide (fun _ => ?_) fun _ => ?_ | refine Ite.bool (fun _ => ?_) fun _ => ?_ | refine And.intro ?_ ?_) | omega | simp (maxSteps := 1000000) only [go_sem, reduceCtorEq, Nat.reduceLT, Nat.reduceLeDiff, reduceIte, ↓reduceIte, Nat.reduceEqDiff, Nat.reduceAdd, Nat.reduceMul, Nat.reduceSub, Int.reduceLE, Int.reduceLT, Int.reduceNeg, Int.reduceToNat, hs1, hb', hk])
            all_goals
              refine VcCall.io [0, 1, 2, 3] (addNew_ok w F i kd (by omega)) (by decide) (by simp [renL, ren, ioN]) rfl (by simp [subOk, ioN, lk, Item.ren, Item.below, ren, renL, belowL, Fv.below, renR_ok, belowR_ok, Wy.av, hs1]) covS4 6 (by decide) rfl ⟨⟨by decide, rfl⟩, ⟨by decide, rfl⟩, ⟨by decide, rfl⟩, ⟨by decide, below_dl (by decide)⟩, ⟨by decide, rfl⟩, trivial⟩ ?_
              (repeat' first | with_reducible (first | refine Asm.intro fun _ => ?_ | refine Chk.g ?_ | refine AnyI.i64 fun _ _ => ?_ | refine LetW.g ?_ | refine LetW.h ?_ | refine Ite.t fun _ => ?_ | refine Ite.f fun _ => ?_ | refine Ite.decide (fun _ => ?_) fun _ => ?_ | refine Ite.bool (fun _ => ?_) fun _ => ?_ | refine And.intro ?_ ?_) | omega | simp (maxSteps := 1000000) only [go_sem, reduceCtorEq, Nat.reduceLT, Nat.reduceLeDiff, reduceIte, ↓reduceIte, Nat.reduceEqDiff, Nat.reduceAdd, Nat.reduceMul, Nat.reduceSub, Int.reduceLE, Int.reduceLT, Int.reduceNeg, Int.reduceToNat, S.ioS, ioRows, ioN, delL, Item.ren, ren, renL, ren_dl, List.map_nil, List.length_cons, List.length_nil, List.getElem?_cons_zero, List.getElem?_cons_succ, List.getElem?_nil, List.cons_append, List.nil_append, Nat.reduceAdd, Nat.sub_self, Nat.add_zero, List.filter, Wy.av])
              refine ⟨i + 1, ?_, by omega, by omega⟩
              rw [hst]
              refine Ent.trans (Ent.of [(3, 7), (4, 8)] (s' := ⟨117, spEnv (i + 1) l, opRows w ⟨kd, [(i : Int)]⟩ F st.left, 6⟩) rfl (Nat.zero_le _) (by simp) ?_ ?_) (Ent.addE (i + 1) l w ⟨kd, [(i : Int)]⟩ F st.left)
              · unfold spEnv
                simp only [go_sem, reduceCtorEq, reduceIte, Nat.reduceEqDiff, Nat.reduceLT, Nat.reduceLeDiff, Int.natCast_succ, hs1]
              · unfold opRows
                simp only [go_sem, reduceCtorEq, reduceIte, Nat.reduceEqDiff, Nat.reduceLT, Nat.reduceLeDiff, Int.natCast_succ, hs1]
                exact ⟨⟨by simp [Wy.av, renL, ren, hs1], rfl⟩, by rw [ren_dl]; rfl, below_dl (by decide)⟩
          · have kB := kB hb
            rw [hb2] at kB
            (repeat' first | with_reducible (first | refine Asm.intro fun _ => ?_ | refine Chk.g ?_ | refine AnyI.i64 fun _ _ => ?_ | refine LetW.g ?_ | refine LetW.h ?_ | refine Ite.t fun _ => ?_ | refine Ite.f fun _ => ?_ | refine Ite.decide (fun _ => ?_) fun _ => ?_ | refine Ite.bool (fun _ => ?_) fun _ => ?_ | refine And.intro ?_ ?_) | omega | simp (maxSteps := 1000000) only [go_sem, reduceCtorEq, Nat.reduceLT, Nat.reduceLeDiff, reduceIte, ↓reduceIte, Nat.reduceEqDiff, Nat.reduceAdd, Nat.reduceMul, Nat.reduceSub, Int.reduceLE, Int.reduceLT, Int.reduceNeg, Int.reduceToNat, elemA, hel])
            refine VcCall.fr (FnFr.of_ok (kk) rfl rfl) (by simp only [noIdR_ok, argOkL, argOk, allOk, argOkN, List.drop_zero, lk, reduceIte, reduceCtorEq, Nat.reduceEqDiff, Option.some.injEq, Item.row.injEq, Item.box.injEq, AV.ro.injEq, exists_eq_left, exists_and_left, exists_eq_left', exists_eq_right, and_assoc, and_true, true_and, List.cons.injEq, exists_eq', exists_eq]) 0 rfl (by simp [rowsB]) ?_
            rcases hsp with hs1 | ⟨hs1, hs2⟩
            rotate_left
            focus
              rw [hs2] at kb
              (repeat' first | with_reducible (first | refine Asm.intro fun _ => ?_ | refine Chk.g ?_ | refine AnyI.i64 fun _ _ => ?_ | refine LetW.g ?_ | refine LetW.h ?_ | refine Ite.t fun _ => ?_ | refine Ite.f fun _ => ?_ | refine Ite.decide (fun _ => ?_) fun _ => ?_ | refine Ite.bool (fun _ => ?_) fun _ => ?_ | refine And.intro ?_ ?_) | omega | simp (maxSteps := 1000000) only [go_sem, reduceCtorEq, Nat.reduceLT, Nat.reduceLeDiff, reduceIte, ↓reduceIte, Nat.reduceEqDiff, Nat.reduceAdd, Nat.reduceMul, Nat.reduceSub, Int.reduceLE, Int.reduceLT, Int.reduceNeg, Int.reduceToNat, hs1, hb, hk])
              refine VcCall.fr (FnFr.of_ok (kb) rfl rfl) (by simp only [noIdR_ok, argOkL, argOk, allOk, argOkN, List.drop_zero, lk, reduceIte, reduceCtorEq, Nat.reduceEqDiff, Option.some.injEq, Item.row.injEq, Item.box.injEq, AV.ro.injEq, exists_eq_left, exists_and_left, exists_eq_left', exists_eq_right, and_assoc, and_true, true_and, List.cons.injEq, exists_eq', exists_eq]) 0 rfl (by simp [rowsB]) ?_
              (repeat' first | with_reducible (first | refine Asm.intro fun _ => ?_ | refine Chk.g ?_ | refine AnyI.i64 fun _ _ => ?_ | refine LetW.g ?_ | refine LetW.h ?_ | refine Ite.t fun _ => ?_ | refine Ite.f fun _ => ?_ | refine Ite.decide (fun _ => ?_) fun _ => ?_ | refine Ite.bool (fun _ => ?_) fun _ => ?_ | refine And.intro ?_ ?_) | omega | simp (maxSteps := 1000000) only [go_sem, reduceCtorEq, Nat.reduceLT, Nat.reduceLeDiff, reduceIte, ↓reduceIte, Nat.reduceEqDiff, Nat.reduceAdd, Nat.reduceMul, Nat.reduceSub, Int.reduceLE, Int.reduceLT, Int.reduceNeg, Int.reduceToNat, hs1, hb, hk])
            rotate_left
            focus
              (repeat' first | with_reducible (first | refine Asm.intro fun _ => ?_ | refine Chk.g ?_ | refine AnyI.i64 fun _ _ => ?_ | refine LetW.g ?_ | refine LetW.h ?_ | refine Ite.t fun _ => ?_ | refine Ite.f fun _ => ?_ | refine Ite.decide (fun _ => ?_) fun _ => ?_ | refine Ite.bool (fun _ => ?_) fun _ => ?_ | refine And.intro ?_ ?_) | omega | simp (maxSteps := 1000000) only [go_sem, reduceCtorEq, Nat.reduceLT, Nat.reduceLeDiff, reduceIte, ↓reduceIte, Nat.reduceEqDiff, Nat.reduceAdd, Nat.reduceMul, Nat.reduceSub, Int.reduceLE, Int.reduceLT, Int.reduceNeg, Int.reduceToNat, hs1, hb, hk])
            all_goals
              refine VcCall.fr (FnFr.of_ok (kB) rfl rfl) (by simp only [noIdR_ok, argOkL, argOk, allOk, argOkN, List.drop_zero, lk, reduceIte, reduceCtorEq, Nat.reduceEqDiff, Option.some.injEq, Item.row.injEq, Item.box.injEq, AV.ro.injEq, exists_eq_left, exists_and_left, exists_eq_left', exists_eq_right, and_assoc, and_true, true_and, List.cons.injEq, exists_eq', exists_eq]) 0 rfl (by simp [rowsB]) ?_
              (repeat' first | with_reducible (first | refine Asm.intro fun _ => ?_ | refine Chk.g ?_ | refine AnyI.i64 fun _ _ => ?_ | refine LetW.g ?_ | refine LetW.h ?_ | refine Ite.t fun _ => ?_ | refine Ite.f fun _ => ?_ | refine Ite.decide (fun _ => ?_) fun _ => ?_ | refine Ite.bool (fun _ => ?_) fun _ => ?_ | refine And.intro ?_ ?_) | omega | simp (maxSteps := 1000000) only [go_sem, reduceCtorEq, Nat.reduceLT, Nat.reduceLeDiff, reduceIte, ↓reduceIte, Nat.reduceEqDiff, Nat.reduceAdd, Nat.reduceMul, Nat.reduceSub, Int.reduceLE, Int.reduceLT, Int.reduceNeg, Int.reduceToNat, hk])
              refine VcCall.io [0, 1, 2, 3] (addNew_ok w F i kd (by omega)) (by decide) (by simp [renL, ren, ioN]) rfl (by simp [subOk, ioN, lk, Item.ren, Item.below, ren, renL, belowL, Fv.below, renR_ok, belowR_ok, Wy.av, hs1]) covS4 6 (by decide) rfl ⟨⟨by decide, rfl⟩, ⟨by decide, rfl⟩, ⟨by decide, rfl⟩, ⟨by decide, below_dl (by decide)⟩, ⟨by decide, rfl⟩, trivial⟩ ?_
              (repeat' first | with_reducible (first | refine Asm.intro fun _ => ?_ | refine Chk.g ?_ | refine AnyI.i64 fun _ _ => ?_ | refine LetW.g ?_ | refine LetW.h ?_ | refine Ite.t fun _ => ?_ | refine Ite.f fun _ => ?_ | refine Ite.decide (fun _ => ?_) fun _ => ?_ | refine Ite.bool (fun _ => ?_) fun _ => ?_ | refine And.intro ?_ ?_) | omega | simp (maxSteps := 1000000) only [go_sem, reduceCtorEq, Nat.reduceLT, Nat.reduceLeDiff, reduceIte, ↓reduceIte, Nat.reduceEqDiff, Nat.reduceAdd, Nat.reduceMul, Nat.reduceSub, Int.reduceLE, Int.reduceLT, Int.reduceNeg, Int.reduceToNat, S.ioS, ioRows, ioN, delL, Item.ren, ren, renL, ren_dl, List.map_nil, List.length_cons, List.length_nil, List.getElem?_cons_zero, List.getElem?_cons_succ, List.getElem?_nil, List.cons_append, List.nil_append, Nat.reduceAdd, Nat.sub_self, Nat.add_zero, List.filter, Wy.av])
              refine ⟨i + 1, ?_, by omega, by omega⟩
              rw [hst]
              refine Ent.trans (Ent.of [(3, 7), (4, 8)] (s' := ⟨117, spEnv (i + 1) l, opRows w ⟨kd, [(i : Int)]⟩ F st.left, 6⟩) rfl (Nat.zero_le _) (by simp) ?_ ?_) (Ent.addE (i + 1) l w ⟨kd, [(i : Int)]⟩ F st.left)
              · unfold spEnv
                simp only [go_sem, reduceCtorEq, reduceIte, Nat.reduceEqDiff, Nat.reduceLT, Nat.reduceLeDiff, Int.natCast_succ, hs1]
              · unfold opRows
                simp only [go_sem, reduceCtorEq, reduceIte, Nat.reduceEqDiff, Nat.reduceLT, Nat.reduceLeDiff, Int.natCast_succ, hs1]
                exact ⟨⟨by simp [Wy.av, renL, ren, hs1], rfl⟩, by rw [ren_dl]; rfl, below_dl (by decide)⟩
        · rw [if_neg hk] at hst
          have hk : kindS s w.rules = [] := Classical.not_not.1 hk
          obtain ⟨F, last, left⟩ := st
          have d2 : left.length ≤ i := d2
          rw [hk] at hst kk
          have e1 : ¬ (([] : List UInt8) ≠ []) := fun h => h rfl
          cases last with
          | none =>
            have d1 : F.length ≤ i := by simpa [St.docs] using d1
            refine VcRun.ent (s' := ⟨117, spEnv i l, clRows false w F left, 6⟩) (Ent.refl _) (VcRun.of ?_)
            unfold clRows spEnv Wy.av
            rcases hbk with hb | ⟨hb, hb2⟩
            · have hb' : (0 ≤ w.blank) = False := eq_false (by omega)
              (repeat' first | with_reducible (first | refine Asm.intro fun _ => ?_ | refine Chk.g ?_ | refine AnyI.i64 fun _ _ => ?_ | refine LetW.g ?_ | refine LetW.h ?_ | refine Ite.t fun _ => ?_ | refine Ite.f fun _ => ?_ | refine Ite.decide (fun _ => ?_) fun _ => ?_ | refine Ite.bool (fun _ => ?_) fun _ => ?_ | refine And.intro ?_ ?_) | omega | simp (maxSteps := 1000000) only [go_sem, reduceCtorEq, Nat.reduceLT, Nat.reduceLeDiff, reduceIte, ↓reduceIte, Nat.reduceEqDiff, Nat.reduceAdd, Nat.reduceMul, Nat.reduceSub, Int.reduceLE, Int.reduceLT, Int.reduceNeg, Int.reduceToNat, elemA, hel])
              refine VcCall.fr (FnFr.of_ok (kk) rfl rfl) (by simp only [noIdR_ok, argOkL, argOk, allOk, argOkN, List.drop_zero, lk, reduceIte, reduceCtorEq, Nat.reduceEqDiff, Option.some.injEq, Item.row.injEq, Item.box.injEq, AV.ro.injEq, exists_eq_left, exists_and_left, exists_eq_left', exists_eq_right, and_assoc, and_true, true_and, List.cons.injEq, exists_eq', exists_eq]) 0 rfl (by simp [rowsB]) ?_
              rcases hsp with hs1 | ⟨hs1, hs2⟩
              rotate_left
              focus
                rw [hs2] at kb
                (repeat' first | with_reducible (first | refine Asm.intro fun _ => ?_ | refine Chk.g ?_ | refine AnyI.i64 fun _ _ => ?_ | refine LetW.g ?_ | refine LetW.h ?_ | refine Ite.t fun _ => ?_ | refine Ite.f fun _ => ?_ | refine Ite.decide (fun _ => ?_) fun _ => ?_ | refine Ite.bool (fun _ => ?_) fun _ => ?_ | refine And.intro ?_ ?_) | omega | simp (maxSteps := 1000000) only [go_sem, reduceCtorEq, Nat.reduceLT, Nat.reduceLeDiff, reduceIte, ↓reduceIte, Nat.reduceEqDiff, Nat.reduceAdd, Nat.reduceMul, Nat.reduceSub, Int.reduceLE, Int.reduceLT, Int.reduceNeg, Int.reduceToNat, hs1, hb'])
                refine VcCall.fr (FnFr.of_ok (kb) rfl rfl) (by simp only [noIdR_ok, argOkL, argOk, allOk, argOkN, List.drop_zero, lk, reduceIte, reduceCtorEq, Nat.reduceEqDiff, Option.some.injEq, Item.row.injEq, Item.box.injEq, AV.ro.injEq, exists_eq_left, exists_and_left, exists_eq_left', exists_eq_right, and_assoc, and_true, true_and, List.cons.injEq, exists_eq', exists_eq]) 0 rfl (by simp [rowsB]) ?_
                (repeat' first | with_reducible (first | refine Asm.intro fun _ => ?_ | refine Chk.g ?_ | refine AnyI.i64 fun _ _ => ?_ | refine LetW.g ?_ | refine LetW.h ?_ | refine Ite.t fun _ => ?_ | refine Ite.f fun _ => ?_ | refine Ite.decide (fun _ => ?_) fun _ => ?_ | refine Ite.bool (fun _ => ?_) fun _ => ?_ | refine And.intro ?_ ?_) | omega | simp (maxSteps := 1000000) only [go_sem, reduceCtorEq, Nat.reduceLT, Nat.reduceLeDiff, reduceIte, ↓reduceIte, Nat.reduceEqDiff, Nat.reduceAdd, Nat.reduceMul, Nat.reduceSub, Int.reduceLE, Int.reduceLT, Int.reduceNeg, Int.reduceToNat, hs1, hb'])
              rotate_left
              focus
                (repeat' first | with_reducible (first | refine Asm.intro fun _ => ?_ | refine Chk.g ?_ | refine AnyI.i64 fun _ _ => ?_ | refine LetW.g ?_ | refine LetW.h ?_ | refine Ite.t fun _ => ?_ | refine Ite.f fun _ => ?_ | refine Ite.decide (fun _ => ?_) fun _ => ?_ | refine Ite.bool (fun _ => ?_) fun _ => ?_ | refine And.intro ?_ ?_) | omega | simp (maxSteps := 1000000) only [go_sem, reduceCtorEq, Nat.reduceLT, Nat.reduceLeDiff, reduceIte, ↓reduceIte, Nat.reduceEqDiff, Nat.reduceAdd, Nat.reduceMul, Nat.reduceSub, Int.reduceLE, Int.reduceLT, Int.reduceNeg, Int.reduceToNat, hs1, hb'])
              all_goals
                refine VcCall.io [0, 1, 2, 3] (addNew_ok w F i [] (by omega)) (by decide) (by simp [renL, ren, ioN]) rfl (by simp [subOk, ioN, lk, Item.ren, Item.below, ren, renL, belowL, Fv.below, renR_ok, belowR_ok, Wy.av, hs1]) covS4 6 (by decide) rfl ⟨⟨by decide, rfl⟩, ⟨by decide, rfl⟩, ⟨by decide, rfl⟩, ⟨by decide, below_dl (by decide)⟩, ⟨by decide, rfl⟩, trivial⟩ ?_
                (repeat' first | with_reducible (first | refine Asm.intro fun _ => ?_ | refine Chk.g ?_ | refine AnyI.i64 fun _ _ => ?_ | refine LetW.g ?_ | refine LetW.h ?_ | refine Ite.t fun _ => ?_ | refine Ite.f fun _ => ?_ | refine Ite.decide (fun _ => ?_) fun _ => ?_ | refine Ite.bool (fun _ => ?_) fun _ => ?_ | refine And.intro ?_ ?_) | omega | simp (maxSteps := 1000000) only [go_sem, reduceCtorEq, Nat.reduceLT, Nat.reduceLeDiff, reduceIte, ↓reduceIte, Nat.reduceEqDiff, Nat.reduceAdd, Nat.reduceMul, Nat.reduceSub, Int.reduceLE, Int.reduceLT, Int.reduceNeg, Int.reduceToNat, S.ioS, ioRows, ioN, delL, Item.ren, ren, renL, ren_dl, List.map_nil, List.length_cons, List.length_nil, List.getElem?_cons_zero, List.getElem?_cons_succ, List.getElem?_nil, List.cons_append, List.nil_append, Nat.reduceAdd, Nat.sub_self, Nat.add_zero, List.filter, Wy.av])
                refine ⟨i + 1, ?_, by omega, by omega⟩
                rw [hst]
                refine Ent.trans (Ent.of [(3, 7), (4, 8)] (s' := ⟨117, spEnv (i + 1) l, opRows w ⟨[], [(i : Int)]⟩ F left, 6⟩) rfl (Nat.zero_le _) (by simp) ?_ ?_) (Ent.addE (i + 1) l w ⟨[], [(i : Int)]⟩ F left)
                · unfold spEnv
                  simp only [go_sem, reduceCtorEq, reduceIte, Nat.reduceEqDiff, Nat.reduceLT, Nat.reduceLeDiff, Int.natCast_succ, hs1]
                · unfold opRows
                  simp only [go_sem, reduceCtorEq, reduceIte, Nat.reduceEqDiff, Nat.reduceLT, Nat.reduceLeDiff, Int.natCast_succ, hs1]
                  exact ⟨⟨by simp [Wy.av, renL, ren, hs1], rfl⟩, by rw [ren_dl]; rfl, below_dl (by decide)⟩
            · have kB := kB hb
              rw [hb2] at kB
              (repeat' first | with_reducible (first | refine Asm.intro fun _ => ?_ | refine Chk.g ?_ | refine AnyI.i64 fun _ _ => ?_ | refine LetW.g ?_ | refine LetW.h ?_ | refine Ite.t fun _ => ?_ | refine Ite.f fun _ => ?_ | refine Ite.decide (fun _ => ?_) fun _ => ?_ | refine Ite.bool (fun _ => ?_) fun _ => ?_ | refine And.intro ?_ ?_) | omega | simp (maxSteps := 1000000) only [go_sem, reduceCtorEq, Nat.reduceLT, Nat.reduceLeDiff, reduceIte, ↓reduceIte, Nat.reduceEqDiff, Nat.reduceAdd, Nat.reduceMul, Nat.reduceSub, Int.reduceLE, Int.reduceLT, Int.reduceNeg, Int.reduceToNat, elemA, hel])
              refine VcCall.fr (FnFr.of_ok (kk) rfl rfl) (by simp only [noIdR_ok, argOkL, argOk, allOk, argOkN, List.drop_zero, lk, reduceIte, reduceCtorEq, Nat.reduceEqDiff, Option.some.injEq, Item.row.injEq, Item.box.injEq, AV.ro.injEq, exists_eq_left, exists_and_left, exists_eq_left', exists_eq_right, and_assoc, and_true, true_and, List.cons.injEq, exists_eq', exists_eq]) 0 rfl (by simp [rowsB]) ?_
              rcases hsp with hs1 | ⟨hs1, hs2⟩
              rotate_left
              focus
                rw [hs2] at kb
                (repeat' first | with_reducible (first | refine Asm.intro fun _ => ?_ | refine Chk.g ?_ | refine AnyI.i64 fun _ _ => ?_ | refine LetW.g ?_ | refine LetW.h ?_ | refine Ite.t fun _ => ?_ | refine Ite.f fun _ => ?_ | refine Ite.decide (fun _ => ?_) fun _ => ?_ | refine Ite.bool (fun _ => ?_) fun _ => ?_ | refine And.intro ?_ ?_) | omega | simp (maxSteps := 1000000) only [go_sem, reduceCtorEq, Nat.reduceLT, Nat.reduceLeDiff, reduceIte, ↓reduceIte, Nat.reduceEqDiff, Nat.reduceAdd, Nat.reduceMul, Nat.reduceSub, Int.reduceLE, Int.reduceLT, Int.reduceNeg, Int.reduceToNat, hs1, hb])
                refine VcCall.fr (FnFr.of_ok (kb) rfl rfl) (by simp only [noIdR_ok, argOkL, argOk, allOk, argOkN, List.drop_zero, lk, reduceIte, reduceCtorEq, Nat.reduceEqDiff, Option.some.injEq, Item.row.injEq, Item.box.injEq, AV.ro.injEq, exists_eq_left, exists_and_left, exists_eq_left', exists_eq_right, and_assoc, and_true, true_and, List.cons.injEq, exists_eq', exists_eq]) 0 rfl (by simp [rowsB]) ?_
                (repeat' first | with_reducible (first | refine Asm.intro fun _ => ?_ | refine Chk.g ?_ | refine AnyI.i64 fun _ _ => ?_ | refine LetW.g ?_ | refine LetW.h ?_ | refine Ite.t fun _ => ?_ | refine Ite.f fun _ => ?_ | refine Ite.decide (fun _ => ?_) fun _ => ?_ | refine Ite.bool (fun _ => ?_) fun _ => ?_ | refine And.intro ?_ ?_) | omega | simp (maxSteps := 1000000) only [go_sem, reduceCtorEq, Nat.reduceLT, Nat.reduceLeDiff, reduceIte, ↓reduceIte, Nat.reduceEqDiff, Nat.reduceAdd, Nat.reduceMul, Nat.reduceSub, Int.reduceLE, Int.reduceLT, Int.reduceNeg, Int.reduceToNat, hs1, hb])
              rotate_left
              focus
                (repeat' first | with_reducible (first | refine Asm.intro fun _ => ?_ | refine Chk.g ?_ | refine AnyI.i64 fun _ _ => ?_ | refine LetW.g ?_ | refine LetW.h ?_ | refine Ite.t fun _ => ?_ | refine Ite.f fun _ => ?_ | refine Ite.decide (fun _ => ?_) fun _ => ?_ | refine Ite.bool (fun _ => ?_) fun _ => ?_ | refine And.intro ?_ ?_) | omega | simp (maxSteps := 1000000) only [go_sem, reduceCtorEq, Nat.reduceLT, Nat.reduceLeDiff, reduceIte, ↓reduceIte, Nat.reduceEqDiff, Nat.reduceAdd, Nat.reduceMul, Nat.reduceSub, Int.reduceLE, Int.reduceLT, Int.reduceNeg, Int.reduceToNat, hs1, hb])
              all_goals
                refine VcCall.fr (FnFr.of_ok (kB) rfl rfl) (by simp only [noIdR_ok, argOkL, argOk, allOk, argOkN, List.drop_zero, lk, reduceIte, reduceCtorEq, Nat.reduceEqDiff, Option.some.injEq, Item.row.injEq, Item.box.injEq, AV.ro.injEq, exists_eq_left, exists_and_left, exists_eq_left', exists_eq_right, and_assoc, and_true, true_and, List.cons.injEq, exists_eq', exists_eq]) 0 rfl (by simp [rowsB]) ?_
                (repeat' first | with_reducible (first | refine Asm.intro fun _ => ?_ | refine Chk.g ?_ | refine AnyI.i64 fun _ _ => ?_ | refine LetW.g ?_ | refine LetW.h ?_ | refine Ite.t fun _ => ?_ | refine Ite.f fun _ => ?_ | refine Ite.decide (fun _ => ?_) fun _ => ?_ | refine Ite.bool (fun _ => ?_) fun _ => ?_ | refine And.intro ?_ ?_) | omega | simp (maxSteps := 1000000) only [go_sem, reduceCtorEq, Nat.reduceLT, Nat.reduceLeDiff, reduceIte, ↓reduceIte, Nat.reduceEqDiff, Nat.reduceAdd, Nat.reduceMul, Nat.reduceSub, Int.reduceLE, Int.reduceLT, Int.reduceNeg, Int.reduceToNat])
                refine VcCall.io [0, 1, 2, 3] (addNew_ok w F i [] (by omega)) (by decide) (by simp [renL, ren, ioN]) rfl (by simp [subOk, ioN, lk, Item.ren, Item.below, ren, renL, belowL, Fv.below, renR_ok, belowR_ok, Wy.av, hs1]) covS4 6 (by decide) rfl ⟨⟨by decide, rfl⟩, ⟨by decide, rfl⟩, ⟨by decide, rfl⟩, ⟨by decide, below_dl (by decide)⟩, ⟨by decide, rfl⟩, trivial⟩ ?_
                (repeat' first | with_reducible (first | refine Asm.intro fun _ => ?_ | refine Chk.g ?_ | refine AnyI.i64 fun _ _ => ?_ | refine LetW.g ?_ | refine LetW.h ?_ | refine Ite.t fun _ => ?_ | refine Ite.f fun _ => ?_ | refine Ite.decide (fun _ => ?_) fun _ => ?_ | refine Ite.bool (fun _ => ?_) fun _ => ?_ | refine And.intro ?_ ?_) | omega | simp (maxSteps := 1000000) only [go_sem, reduceCtorEq, Nat.reduceLT, Nat.reduceLeDiff, reduceIte, ↓reduceIte, Nat.reduceEqDiff, Nat.reduceAdd, Nat.reduceMul, Nat.reduceSub, Int.reduceLE, Int.reduceLT, Int.reduceNeg, Int.reduceToNat, S.ioS, ioRows, ioN, delL, Item.ren, ren, renL, ren_dl, List.map_nil, List.length_cons, List.length_nil, List.getElem?_cons_zero, List.getElem?_cons_succ, List.getElem?_nil, List.cons_append, List.nil_append, Nat.reduceAdd, Nat.sub_self, Nat.add_zero, List.filter, Wy.av])
                refine ⟨i + 1, ?_, by omega, by omega⟩
                rw [hst]
                refine Ent.trans (Ent.of [(3, 7), (4, 8)] (s' := ⟨117, spEnv (i + 1) l, opRows w ⟨[], [(i : Int)]⟩ F left, 6⟩) rfl (Nat.zero_le _) (by simp) ?_ ?_) (Ent.addE (i + 1) l w ⟨[], [(i : Int)]⟩ F left)
                · unfold spEnv
                  simp only [go_sem, reduceCtorEq, reduceIte, Nat.reduceEqDiff, Nat.reduceLT, Nat.reduceLeDiff, Int.natCast_succ, hs1]
                · unfold opRows
                  simp only [go_sem, reduceCtorEq, reduceIte, Nat.reduceEqDiff, Nat.reduceLT, Nat.reduceLeDiff, Int.natCast_succ, hs1]
                  exact ⟨⟨by simp [Wy.av, renL, ren, hs1], rfl⟩, by rw [ren_dl]; rfl, below_dl (by decide)⟩
          | some d =>
            have d1 : F.length + 1 ≤ i := by simpa [St.docs] using d1
            have d3 := (hinv.last d rfl).1
            have e2 : ∀ x : Int, (d.pages ++ [x]).length = d.pages.length + 1 := fun x => by simp
            refine VcRun.ent (s' := ⟨117, spEnv i l, onRows w d F left, 6⟩) (Ent.refl _) (VcRun.of ?_)
            unfold onRows spEnv Wy.av
            rcases hbk with hb | ⟨hb, hb2⟩
            · have hb' : (0 ≤ w.blank) = False := eq_false (by omega)
              (repeat' first | with_reducible (first | refine Asm.intro fun _ => ?_ | refine Chk.g ?_ | refine AnyI.i64 fun _ _ => ?_ | refine LetW.g ?_ | refine LetW.h ?_ | refine Ite.t fun _ => ?_ | refine Ite.f fun _ => ?_ | refine Ite.decide (fun _ => ?_) fun _ => ?_ | refine Ite.bool (fun _ => ?_) fun _ => ?_ | refine And.intro ?_ ?_) | omega | simp (maxSteps := 1000000) only [go_sem, reduceCtorEq, Nat.reduceLT, Nat.reduceLeDiff, reduceIte, ↓reduceIte, Nat.reduceEqDiff, Nat.reduceAdd, Nat.reduceMul, Nat.reduceSub, Int.reduceLE, Int.reduceLT, Int.reduceNeg, Int.reduceToNat, elemA, hel])
              refine VcCall.fr (FnFr.of_ok (kk) rfl rfl) (by simp only [noIdR_ok, argOkL, argOk, allOk, argOkN, List.drop_zero, lk, reduceIte, reduceCtorEq, Nat.reduceEqDiff, Option.some.injEq, Item.row.injEq, Item.box.injEq, AV.ro.injEq, exists_eq_left, exists_and_left, exists_eq_left', exists_eq_right, and_assoc, and_true, true_and, List.cons.injEq, exists_eq', exists_eq]) 0 rfl (by simp [rowsB]) ?_
              rcases hsp with hs1 | ⟨hs1, hs2⟩
              rotate_left
              focus
                rw [hs2] at kb
                (repeat' first | with_reducible (first | refine Asm.intro fun _ => ?_ | refine Chk.g ?_ | refine AnyI.i64 fun _ _ => ?_ | refine LetW.g ?_ | refine LetW.h ?_ | refine Ite.t fun _ => ?_ | refine Ite.f fun _ => ?_ | refine Ite.decide (fun _ => ?_) fun _ => ?_ | refine Ite.bool (fun _ => ?_) fun _ => ?_ | refine And.intro ?_ ?_) | omega | simp (maxSteps := 1000000) only [go_sem, reduceCtorEq, Nat.reduceLT, Nat.reduceLeDiff, reduceIte, ↓reduceIte, Nat.reduceEqDiff, Nat.reduceAdd, Nat.reduceMul, Nat.reduceSub, Int.reduceLE, Int.reduceLT, Int.reduceNeg, Int.reduceToNat, hs1, hb'])
                refine VcCall.fr (FnFr.of_ok (kb) rfl rfl) (by simp only [noIdR_ok, argOkL, argOk, allOk, argOkN, List.drop_zero, lk, reduceIte, reduceCtorEq, Nat.reduceEqDiff, Option.some.injEq, Item.row.injEq, Item.box.injEq, AV.ro.injEq, exists_eq_left, exists_and_left, exists_eq_left', exists_eq_right, and_assoc, and_true, true_and, List.cons.injEq, exists_eq', exists_eq]) 0 rfl (by simp [rowsB]) ?_
                (repeat' first | with_reducible (first | refine Asm.intro fun _ => ?_ | refine Chk.g ?_ | refine AnyI.i64 fun _ _ => ?_ | refine LetW.g ?_ | refine LetW.h ?_ | refine Ite.t fun _ => ?_ | refine Ite.f fun _ => ?_ | refine Ite.decide (fun _ => ?_) fun _ => ?_ | refine Ite.bool (fun _ => ?_) fun _ => ?_ | refine And.intro ?_ ?_) | omega | simp (maxSteps := 1000000) only [go_sem, reduceCtorEq, Nat.reduceLT, Nat.reduceLeDiff, reduceIte, ↓reduceIte, Nat.reduceEqDiff, Nat.reduceAdd, Nat.reduceMul, Nat.reduceSub, Int.reduceLE, Int.reduceLT, Int.reduceNeg, Int.reduceToNat, hs1, hb'])
              rotate_left
              focus
                (repeat' first | with_reducible (first | refine Asm.intro fun _ => ?_ | refine Chk.g ?_ | refine AnyI.i64 fun _ _ => ?_ | refine LetW.g ?_ | refine LetW.h ?_ | refine Ite.t fun _ => ?_ | refine Ite.f fun _ => ?_ | refine Ite.decide (fun _ => ?_) fun _ => ?_ | refine Ite.bool (fun _ => ?_) fun _ => ?_ | refine And.intro ?_ ?_) | omega | simp (maxSteps := 1000000) only [go_sem, reduceCtorEq, Nat.reduceLT, Nat.reduceLeDiff, reduceIte, ↓reduceIte, Nat.reduceEqDiff, Nat.reduceAdd, Nat.reduceMul, Nat.reduceSub, Int.reduceLE, Int.reduceLT, Int.reduceNeg, Int.reduceToNat, hs1, hb'])
              all_goals
                refine VcCall.io [0, 1, 2, 3, 4] (addOld_ok w F i [] d.kind d.pages (by omega) (by omega)) (by decide) (by simp [renL, ren, ioN]) rfl (by simp [subOk, ioN, lk, Item.ren, Item.below, ren, renL, belowL, Fv.below, ren_dl, below_dl, Wy.av, hs1]) covS5 7 (by decide) rfl ⟨⟨by decide, rfl⟩, ⟨by decide, rfl⟩, ⟨by decide, rfl⟩, ⟨by decide, below_dl (by decide)⟩, ⟨by decide, rfl⟩, trivial⟩ ?_
                (repeat' first | with_reducible (first | refine Asm.intro fun _ => ?_ | refine Chk.g ?_ | refine AnyI.i64 fun _ _ => ?_ | refine LetW.g ?_ | refine LetW.h ?_ | refine Ite.t fun _ => ?_ | refine Ite.f fun _ => ?_ | refine Ite.decide (fun _ => ?_) fun _ => ?_ | refine Ite.bool (fun _ => ?_) fun _ => ?_ | refine And.intro ?_ ?_) | omega | simp (maxSteps := 1000000) only [go_sem, reduceCtorEq, Nat.reduceLT, Nat.reduceLeDiff, reduceIte, ↓reduceIte, Nat.reduceEqDiff, Nat.reduceAdd, Nat.reduceMul, Nat.reduceSub, Int.reduceLE, Int.reduceLT, Int.reduceNeg, Int.reduceToNat, S.ioS, ioRows, ioN, delL, Item.ren, ren, renL, ren_dl, List.map_nil, List.length_cons, List.length_nil, List.getElem?_cons_zero, List.getElem?_cons_succ, List.getElem?_nil, List.cons_append, List.nil_append, Nat.reduceAdd, Nat.sub_self, Nat.add_zero, List.filter, Wy.av])
                refine ⟨i + 1, ?_, by omega, by omega⟩
                rw [hst]
                refine Ent.trans (Ent.of [(3, 7), (4, 8)] (s' := ⟨117, spEnv (i + 1) l, opRows w ⟨d.kind, d.pages ++ [(i : Int)]⟩ F left, 6⟩) rfl (Nat.zero_le _) (by simp) ?_ ?_) (Ent.addE (i + 1) l w ⟨d.kind, d.pages ++ [(i : Int)]⟩ F left)
                · unfold spEnv
                  simp only [go_sem, reduceCtorEq, reduceIte, Nat.reduceEqDiff, Nat.reduceLT, Nat.reduceLeDiff, Int.natCast_succ, hs1, e2]
                · unfold opRows
                  simp only [go_sem, reduceCtorEq, reduceIte, Nat.reduceEqDiff, Nat.reduceLT, Nat.reduceLeDiff, Int.natCast_succ, hs1, e2]
                  exact ⟨⟨by simp [Wy.av, renL, ren, hs1], rfl⟩, by rw [ren_dl]; rfl, below_dl (by decide)⟩
            · have kB := kB hb
              rw [hb2] at kB
              (repeat' first | with_reducible (first | refine Asm.intro fun _ => ?_ | refine Chk.g ?_ | refine AnyI.i64 fun _ _ => ?_ | refine LetW.g ?_ | refine LetW.h ?_ | refine Ite.t fun _ => ?_ | refine Ite.f fun _ => ?_ | refine Ite.decide (fun _ => ?_) fun _ => ?_ | refine Ite.bool (fun _ => ?_) fun _ => ?_ | refine And.intro ?_ ?_) | omega | simp (maxSteps := 1000000) only [go_sem, reduceCtorEq, Nat.reduceLT, Nat.reduceLeDiff, reduceIte, ↓reduceIte, Nat.reduceEqDiff, Nat.reduceAdd, Nat.reduceMul, Nat.reduceSub, Int.reduceLE, Int.reduceLT, Int.reduceNeg, Int.reduceToNat, elemA, hel])
              refine VcCall.fr (FnFr.of_ok (kk) rfl rfl) (by simp only [noIdR_ok, argOkL, argOk, allOk, argOkN, List.drop_zero, lk, reduceIte, reduceCtorEq, Nat.reduceEqDiff, Option.some.injEq, Item.row.injEq, Item.box.injEq, AV.ro.injEq, exists_eq_left, exists_and_left, exists_eq_left', exists_eq_right, and_assoc, and_true, true_and, List.cons.injEq, exists_eq', exists_eq]) 0 rfl (by simp [rowsB]) ?_
              rcases hsp with hs1 | ⟨hs1, hs2⟩
              rotate_left
              focus
                rw [hs2] at kb
                (repeat' first | with_reducible (first | refine Asm.intro fun _ => ?_ | refine Chk.g ?_ | refine AnyI.i64 fun _ _ => ?_ | refine LetW.g ?_ | refine LetW.h ?_ | refine Ite.t fun _ => ?_ | refine Ite.f fun _ => ?_ | refine Ite.decide (fun _ => ?_) fun _ => ?_ | refine Ite.bool (fun _ => ?_) fun _ => ?_ | refine And.intro ?_ ?_) | omega | simp (maxSteps := 1000000) only [go_sem, reduceCtorEq, Nat.reduceLT, Nat.reduceLeDiff, reduceIte, ↓reduceIte, Nat.reduceEqDiff, Nat.reduceAdd, Nat.reduceMul, Nat.reduceSub, Int.reduceLE, Int.reduceLT, Int.reduceNeg, Int.reduceToNat, hs1, hb])
                refine VcCall.fr (FnFr.of_ok (kb) rfl rfl) (by simp only [noIdR_ok, argOkL, argOk, allOk, argOkN, List.drop_zero, lk, reduceIte, reduceCtorEq, Nat.reduceEqDiff, Option.some.injEq, Item.row.injEq, Item.box.injEq, AV.ro.injEq, exists_eq_left, exists_and_left, exists_eq_left', exists_eq_right, and_assoc, and_true, true_and, List.cons.injEq, exists_eq', exists_eq]) 0 rfl (by simp [rowsB]) ?_
                (repeat' first | with_reducible (first | refine Asm.intro fun _ => ?_ | refine Chk.g ?_ | refine AnyI.i64 fun _ _ => ?_ | refine LetW.g ?_ | refine LetW.h ?_ | refine Ite.t fun _ => ?_ | refine Ite.f fun _ => ?_ | refine Ite.decide (fun _ => ?_) fun _ => ?_ | refine Ite.bool (fun _ => ?_) fun _ => ?_ | refine And.intro ?_ ?_) | omega | simp (maxSteps := 1000000) only [go_sem, reduceCtorEq, Nat.reduceLT, Nat.reduceLeDiff, reduceIte, ↓reduceIte, Nat.reduceEqDiff, Nat.reduceAdd, Nat.reduceMul, Nat.reduceSub, Int.reduceLE, Int.reduceLT, Int.reduceNeg, Int.reduceToNat, hs1, hb])
              rotate_left
              focus
                (repeat' first | with_reducible (first | refine Asm.intro fun _ => ?_ | refine Chk.g ?_ | refine AnyI.i64 fun _ _ => ?_ | refine LetW.g ?_ | refine LetW.h ?_ | refine Ite.t fun _ => ?_ | refine Ite.f fun _ => ?_ | refine Ite.decide (fun _ => ?_) fun _ => ?_ | refine Ite.bool (fun _ => ?_) fun _ => ?_ | refine And.intro ?_ ?_) | omega | simp (maxSteps := 1000000) only [go_sem, reduceCtorEq, Nat.reduceLT, Nat.reduceLeDiff, reduceIte, ↓reduceIte, Nat.reduceEqDiff, Nat.reduceAdd, Nat.reduceMul, Nat.reduceSub, Int.reduceLE, Int.reduceLT, Int.reduceNeg, Int.reduceToNat, hs1, hb])
              all_goals
                refine VcCall.fr (FnFr.of_ok (kB) rfl rfl) (by simp only [noIdR_ok, argOkL, argOk, allOk, argOkN, List.drop_zero, lk, reduceIte, reduceCtorEq, Nat.reduceEqDiff, Option.some.injEq, Item.row.injEq, Item.box.injEq, AV.ro.injEq, exists_eq_left, exists_and_left, exists_eq_left', exists_eq_right, and_assoc, and_true, true_and, List.cons.injEq, exists_eq', exists_eq]) 0 rfl (by simp [rowsB]) ?_
                (repeat' first | with_reducible (first | refine Asm.intro fun _ => ?_ | refine Chk.g ?_ | refine AnyI.i64 fun _ _ => ?_ | refine LetW.g ?_ | refine LetW.h ?_ | refine Ite.t fun _ => ?_ | refine Ite.f fun _ => ?_ | refine Ite.decide (fun _ => ?_) fun _ => ?_ | refine Ite.bool (fun _ => ?_) fun _ => ?_ | refine And.intro ?_ ?_) | omega | simp (maxSteps := 1000000) only [go_sem, reduceCtorEq, Nat.reduceLT, Nat.reduceLeDiff, reduceIte, ↓reduceIte, Nat.reduceEqDiff, Nat.reduceAdd, Nat.reduceMul, Nat.reduceSub, Int.reduceLE, Int.reduceLT, Int.reduceNeg, Int.reduceToNat])
                refine VcCall.io [0, 1, 2, 3, 4] (addOld_ok w F i [] d.kind d.pages (by omega) (by omega)) (by decide) (by simp [renL, ren, ioN]) rfl (by simp [subOk, ioN, lk, Item.ren, Item.below, ren, renL, belowL, Fv.below, ren_dl, below_dl, Wy.av, hs1]) covS5 7 (by decide) rfl ⟨⟨by decide, rfl⟩, ⟨by decide, rfl⟩, ⟨by decide, rfl⟩, ⟨by decide, below_dl (by decide)⟩, ⟨by decide, rfl⟩, trivial⟩ ?_
                (repeat' first | with_reducible (first | refine Asm.intro fun _ => ?_ | refine Chk.g ?_ | refine AnyI.i64 fun _ _ => ?_ | refine LetW.g ?_ | refine LetW.h ?_ | refine Ite.t fun _ => ?_ | refine Ite.f fun _ => ?_ | refine Ite.decide (fun _ => ?_) fun _ => ?_ | refine Ite.bool (fun _ => ?_) fun _ => ?_ | refine And.intro ?_ ?_) | omega | simp (maxSteps := 1000000) only [go_sem, reduceCtorEq, Nat.reduceLT, Nat.reduceLeDiff, reduceIte, ↓reduceIte, Nat.reduceEqDiff, Nat.reduceAdd, Nat.reduceMul, Nat.reduceSub, Int.reduceLE, Int.reduceLT, Int.reduceNeg, Int.reduceToNat, S.ioS, ioRows, ioN, delL, Item.ren, ren, renL, ren_dl, List.map_nil, List.length_cons, List.length_nil, List.getElem?_cons_zero, List.getElem?_cons_succ, List.getElem?_nil, List.cons_append, List.nil_append, Nat.reduceAdd, Nat.sub_self, Nat.add_zero, List.filter, Wy.av])
                refine ⟨i + 1, ?_, by omega, by omega⟩
                rw [hst]
                refine Ent.trans (Ent.of [(3, 7), (4, 8)] (s' := ⟨117, spEnv (i + 1) l, opRows w ⟨d.kind, d.pages ++ [(i : Int)]⟩ F left, 6⟩) rfl (Nat.zero_le _) (by simp) ?_ ?_) (Ent.addE (i + 1) l w ⟨d.kind, d.pages ++ [(i : Int)]⟩ F left)
                · unfold spEnv
                  simp only [go_sem, reduceCtorEq, reduceIte, Nat.reduceEqDiff, Nat.reduceLT, Nat.reduceLeDiff, Int.natCast_succ, hs1, e2]
                · unfold opRows
                  simp only [go_sem, reduceCtorEq, reduceIte, Nat.reduceEqDiff, Nat.reduceLT, Nat.reduceLeDiff, Int.natCast_succ, hs1, e2]
                  exact ⟨⟨by simp [Wy.av, renL, ren, hs1], rfl⟩, by rw [ren_dl]; rfl, below_dl (by decide)⟩
  · have e : i = l.length := by omega
    subst e
    obtain ⟨b, hen⟩ := Ent.closeD (w0 := w0) (T0 := T0) l.length l w (spN l w l.length)
    refine VcRun.ent hen (VcRun.of ?_)
    generalize (spN l w l.length).docs = F at *
    generalize (spN l w l.length).left = left at *
    unfold clRows spEnv Wy.av
    (repeat' first | with_reducible (first | refine Asm.intro fun _ => ?_ | refine Chk.g ?_ | refine AnyI.i64 fun _ _ => ?_ | refine LetW.g ?_ | refine LetW.h ?_ | refine Ite.t fun _ => ?_ | refine Ite.f fun _ => ?_ | refine Ite.decide (fun _ => ?_) fun _ => ?_ | refine Ite.bool (fun _ => ?_) fun _ => ?_ | refine And.intro ?_ ?_) | omega | simp (maxSteps := 1000000) only [go_sem, reduceCtorEq, Nat.reduceLT, Nat.reduceLeDiff, reduceIte, ↓reduceIte, Nat.reduceEqDiff, Nat.reduceAdd, Nat.reduceMul, Nat.reduceSub, Int.reduceLE, Int.reduceLT, Int.reduceNeg, Int.reduceToNat])
    refine Ret.auto 2 ?_ rfl ?_ <;> simp only [go_sem, reduceCtorEq, reduceIte, Nat.reduceEqDiff, Nat.reduceLT, Nat.reduceLeDiff, Int.natCast_succ, Post]
end Go.Fv.T
