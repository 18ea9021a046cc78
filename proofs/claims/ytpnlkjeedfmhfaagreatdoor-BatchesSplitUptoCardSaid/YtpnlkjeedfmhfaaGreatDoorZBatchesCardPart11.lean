/-
  A part of the proof of the claim: walks over the program's functions and the plain laws that these need. No condition of its own.
-/
import Derived.Test.YtpnlkjeedfmhfaaGreatDoorZBatchesCardPart10
import Derived.Test.YtpnlkjeedfmhfaaGreatDoorFvPart10
/- Split with its errors. -/
namespace Go.Fv.Z
open Go Go.Proofs
set_option linter.unusedSimpArgs false
set_option linter.unusedVariables false
set_option linter.unnecessarySimpa false
set_option maxRecDepth 8000

def splE (l : List Sh) (w : Wy) : Int := firstErr [shsErr l, spErr w]
def splD (l : List Sh) (w : Wy) : List Dc := if splE l w = 0 then (spN l w l.length).docs else []
def splL (l : List Sh) (w : Wy) : List Int := if splE l w = 0 then (spN l w l.length).left else []
theorem splitErr_ok (l : List Sh) (w : Wy) (hW : RuSmall w.rules) (h : splE l w ≠ 0) :
    FnOk Tryz.prog 7 [.ro (shs l), .agg w.av] (.tup [.own 0, .own 1, .int .i64 (splE l w)]) [(0, .row 43 (dcs [])), (1, .row 3 (.ints .i64 []))] := by
  have k1 := checkSheets_ok l
  have k2 := isCode_ok w.sep
  have k3 := checkRules_ok w.rules hW
  have hE : splE l w = if shsErr l = 0 then (if codeOk w.sep = true then (if w.margin < 0 ∨ 4000 < w.margin ∨ w.blank < -1 ∨ 1000 < w.blank ∨ w.most < 0 ∨ 1000 < w.most then 3 else rusErr w.rules) else 2) else shsErr l := by
    unfold splE spErr
    simp only [firstErr]
    (repeat' split) <;> simp_all
  rw [hE] at h ⊢
  clear hE
  unfold Wy.av
  generalize shsErr l = a at *
  generalize rusErr w.rules = c at *
  generalize codeOk w.sep = q at *
  refine FnOk.of_vc Tryz.func7 rfl (by decide) (by simp [Tryz.f7]) [.tmp 4, .tmp 5, .tmp 6] rfl fun w0 T0 _ => ?_
  simp only [Tryz.f7, argEnv]
  (repeat' first | with_reducible (first | refine Asm.intro fun _ => ?_ | refine Chk.g ?_ | refine AnyI.i64 fun _ _ => ?_ | refine LetW.g ?_ | refine LetW.h ?_ | refine Ite.t fun _ => ?_ | refine Ite.f fun _ => ?_ | refine Ite.decide (fun _ => ?_) fun _ => ?_ | refine Ite.bool (fun _ => ?_) fun _ => ?_ | refine And.intro ?_ ?_) | omega | simp (maxSteps := 1000000) only [go_sem, reduceCtorEq, Nat.reduceLT, Nat.reduceLeDiff, reduceIte, ↓reduceIte, Nat.reduceEqDiff, Nat.reduceAdd, Nat.reduceMul, Nat.reduceSub, Int.reduceLE, Int.reduceLT, Int.reduceNeg, Int.reduceToNat])
  refine VcCall.fr (FnFr.of_ok (k1) rfl rfl) (by simp only [noIdR_ok, argOkL, argOk, allOk, argOkN, List.drop_zero, lk, reduceIte, reduceCtorEq, Nat.reduceEqDiff, Option.some.injEq, Item.row.injEq, Item.box.injEq, AV.ro.injEq, exists_eq_left, exists_and_left, exists_eq_left', exists_eq_right, and_assoc, and_true, true_and, List.cons.injEq, exists_eq', exists_eq]) 0 rfl (by simp [rowsB]) ?_
  by_cases ha : a = 0
  · rw [if_pos ha] at h ⊢
    subst ha
    (repeat' first | with_reducible (first | refine Asm.intro fun _ => ?_ | refine Chk.g ?_ | refine AnyI.i64 fun _ _ => ?_ | refine LetW.g ?_ | refine LetW.h ?_ | refine Ite.t fun _ => ?_ | refine Ite.f fun _ => ?_ | refine Ite.decide (fun _ => ?_) fun _ => ?_ | refine Ite.bool (fun _ => ?_) fun _ => ?_ | refine And.intro ?_ ?_) | omega | simp (maxSteps := 1000000) only [go_sem, reduceCtorEq, Nat.reduceLT, Nat.reduceLeDiff, reduceIte, ↓reduceIte, Nat.reduceEqDiff, Nat.reduceAdd, Nat.reduceMul, Nat.reduceSub, Int.reduceLE, Int.reduceLT, Int.reduceNeg, Int.reduceToNat])
    refine VcCall.fr (FnFr.of_ok (k2) rfl rfl) (by simp only [noIdR_ok, argOkL, argOk, allOk, argOkN, List.drop_zero, lk, reduceIte, reduceCtorEq, Nat.reduceEqDiff, Option.some.injEq, Item.row.injEq, Item.box.injEq, AV.ro.injEq, exists_eq_left, exists_and_left, exists_eq_left', exists_eq_right, and_assoc, and_true, true_and, List.cons.injEq, exists_eq', exists_eq]) 0 rfl (by simp [rowsB]) ?_
    cases q with
    | false =>
      (repeat' first | with_reducible (first | refine Asm.intro fun _ => ?_ | refine Chk.g ?_ | refine AnyI.i64 fun _ _ => ?_ | refine LetW.g ?_ | refine LetW.h ?_ | refine Ite.t fun _ => ?_ | refine Ite.f fun _ => ?_ | refine Ite.decide (fun _ => ?_) fun _ => ?_ | refine Ite.bool (fun _ => ?_) fun _ => ?_ | refine And.intro ?_ ?_) | omega | simp (maxSteps := 1000000) only [go_sem, reduceCtorEq, Nat.reduceLT, Nat.reduceLeDiff, reduceIte, ↓reduceIte, Nat.reduceEqDiff, Nat.reduceAdd, Nat.reduceMul, Nat.reduceSub, Int.reduceLE, Int.reduceLT, Int.reduceNeg, Int.reduceToNat])
      refine Ret.auto 2 ?_ rfl ?_ <;> simp only [go_sem, reduceCtorEq, reduceIte, Nat.reduceEqDiff, Nat.reduceLT, Nat.reduceLeDiff, Int.natCast_succ, Post, List.map_nil, zrow, List.range_zero, List.replicate_zero, Bool.false_eq_true]
    | true =>
      rw [if_pos rfl] at h ⊢
      by_cases hr : w.margin < 0 ∨ 4000 < w.margin ∨ w.blank < -1 ∨ 1000 < w.blank ∨ w.most < 0 ∨ 1000 < w.most
      · rw [if_pos hr] at h ⊢
        have hr' : (((((w.margin < 0 ∨ 4000 < w.margin) ∨ w.blank < -1) ∨ 1000 < w.blank) ∨ w.most < 0) ∨ 1000 < w.most) := by omega
        (repeat' first | with_reducible (first | refine Asm.intro fun _ => ?_ | refine Chk.g ?_ | refine AnyI.i64 fun _ _ => ?_ | refine LetW.g ?_ | refine LetW.h ?_ | refine Ite.t fun _ => ?_ | refine Ite.f fun _ => ?_ | refine Ite.decide (fun _ => ?_) fun _ => ?_ | refine Ite.bool (fun _ => ?_) fun _ => ?_ | refine And.intro ?_ ?_) | omega | simp (maxSteps := 1000000) only [go_sem, reduceCtorEq, Nat.reduceLT, Nat.reduceLeDiff, reduceIte, ↓reduceIte, Nat.reduceEqDiff, Nat.reduceAdd, Nat.reduceMul, Nat.reduceSub, Int.reduceLE, Int.reduceLT, Int.reduceNeg, Int.reduceToNat])
        all_goals (refine Ret.auto 2 ?_ rfl ?_ <;> simp only [go_sem, reduceCtorEq, reduceIte, Nat.reduceEqDiff, Nat.reduceLT, Nat.reduceLeDiff, Int.natCast_succ, Post, List.map_nil, zrow, List.range_zero, List.replicate_zero])
      · rw [if_neg hr] at h ⊢
        (repeat' first | with_reducible (first | refine Asm.intro fun _ => ?_ | refine Chk.g ?_ | refine AnyI.i64 fun _ _ => ?_ | refine LetW.g ?_ | refine LetW.h ?_ | refine Ite.t fun _ => ?_ | refine Ite.f fun _ => ?_ | refine Ite.decide (fun _ => ?_) fun _ => ?_ | refine Ite.bool (fun _ => ?_) fun _ => ?_ | refine And.intro ?_ ?_) | omega | simp (maxSteps := 1000000) only [go_sem, reduceCtorEq, Nat.reduceLT, Nat.reduceLeDiff, reduceIte, ↓reduceIte, Nat.reduceEqDiff, Nat.reduceAdd, Nat.reduceMul, Nat.reduceSub, Int.reduceLE, Int.reduceLT, Int.reduceNeg, Int.reduceToNat])
        refine VcCall.fr (FnFr.of_ok (k3) rfl rfl) (by simp only [noIdR_ok, argOkL, argOk, allOk, argOkN, List.drop_zero, lk, reduceIte, reduceCtorEq, Nat.reduceEqDiff, Option.some.injEq, Item.row.injEq, Item.box.injEq, AV.ro.injEq, exists_eq_left, exists_and_left, exists_eq_left', exists_eq_right, and_assoc, and_true, true_and, List.cons.injEq, exists_eq', exists_eq]) 0 rfl (by simp [rowsB]) ?_
        (repeat' first | with_reducible (first | refine Asm.intro fun _ => ?_ | refine Chk.g ?_ | refine AnyI.i64 fun _ _ => ?_ | refine LetW.g ?_ | refine LetW.h ?_ | refine Ite.t fun _ => ?_ | refine Ite.f fun _ => ?_ | refine Ite.decide (fun _ => ?_) fun _ => ?_ | refine Ite.bool (fun _ => ?_) fun _ => ?_ | refine And.intro ?_ ?_) | omega | simp (maxSteps := 1000000) only [go_sem, reduceCtorEq, Nat.reduceLT, Nat.reduceLeDiff, reduceIte, ↓reduceIte, Nat.reduceEqDiff, Nat.reduceAdd, Nat.reduceMul, Nat.reduceSub, Int.reduceLE, Int.reduceLT, Int.reduceNeg, Int.reduceToNat, h])
        refine Ret.auto 2 ?_ rfl ?_ <;> simp only [go_sem, reduceCtorEq, reduceIte, Nat.reduceEqDiff, Nat.reduceLT, Nat.reduceLeDiff, Int.natCast_succ, Post, List.map_nil, zrow, List.range_zero, List.replicate_zero]
  · rw [if_neg ha] at h ⊢
    (repeat' first | with_reducible (first | refine Asm.intro fun _ => ?_ | refine Chk.g ?_ | refine AnyI.i64 fun _ _ => ?_ | refine LetW.g ?_ | refine LetW.h ?_ | refine Ite.t fun _ => ?_ | refine Ite.f fun _ => ?_ | refine Ite.decide (fun _ => ?_) fun _ => ?_ | refine Ite.bool (fun _ => ?_) fun _ => ?_ | refine And.intro ?_ ?_) | omega | simp (maxSteps := 1000000) only [go_sem, reduceCtorEq, Nat.reduceLT, Nat.reduceLeDiff, reduceIte, ↓reduceIte, Nat.reduceEqDiff, Nat.reduceAdd, Nat.reduceMul, Nat.reduceSub, Int.reduceLE, Int.reduceLT, Int.reduceNeg, Int.reduceToNat, ha])
    refine Ret.auto 2 ?_ rfl ?_ <;> simp only [go_sem, reduceCtorEq, reduceIte, Nat.reduceEqDiff, Nat.reduceLT, Nat.reduceLeDiff, Int.natCast_succ, Post, List.map_nil, zrow, List.range_zero, List.replicate_zero]
theorem splitF_ok (l : List Sh) (w : Wy) (hW : RuSmall w.rules) :
    FnOk Tryz.prog 7 [.ro (shs l), .agg w.av] (.tup [.own 0, .own 1, .int .i64 (splE l w)]) [(0, .row 43 (dcs (splD l w))), (1, .row 3 (.ints .i64 (splL l w)))] := by
  by_cases h : splE l w = 0
  · unfold splD splL
    rw [if_pos h, if_pos h, h]
    have h1 := firstErr_zero h _ (List.mem_cons_self)
    have h2 := firstErr_zero h _ (List.mem_cons_of_mem _ (List.mem_cons_self))
    obtain ⟨q1, q2⟩ := shsErr_zero h1
    obtain ⟨q3, q4, q5⟩ := spErr_zero h2
    exact splitLoop l q1 q2 w q4 q3 h2 h1 q5 hW
  · unfold splD splL
    rw [if_neg h, if_neg h]
    exact splitErr_ok l w hW h
end Go.Fv.Z

/- Split: each sheet is in just one document, or left out. -/
namespace Go.Fv.Z
open Go Go.Proofs
set_option linter.unusedSimpArgs false
set_option linter.unusedVariables false
set_option maxRecDepth 8000

def rangeI (n : Nat) : List Int := (List.range n).map fun k : Nat => (k : Int)
theorem rangeI_succ (n : Nat) : rangeI (n + 1) = rangeI n ++ [(n : Int)] := by simp [rangeI, List.range_succ]
theorem rangeI_len (n : Nat) : (rangeI n).length = n := by simp [rangeI]
theorem rangeI_get {n i : Nat} (h : i < n) : (rangeI n).getD i 0 = i := by simp [rangeI, List.getD_eq_getElem?_getD, h]
theorem rangeI_asc (n : Nat) : (rangeI n).Pairwise fun a b : Int => a ≤ b := by
  unfold rangeI
  rw [List.pairwise_map]
  exact List.pairwise_lt_range.imp fun h => by omega
def flatP (D : List Dc) : List Int := (D.map Dc.pages).flatten
theorem flatP_snoc (D : List Dc) (d : Dc) : flatP (D ++ [d]) = flatP D ++ d.pages := by simp [flatP]
structure POk (D : List Dc) (left : List Int) (n : Nat) : Prop where
  perm : List.Perm (left ++ flatP D) (rangeI n)
  doc : ∀ d, d ∈ D → d.pages ≠ [] ∧ (d.pages.Pairwise fun a b : Int => a ≤ b) ∧ ∀ x, x ∈ d.pages → x < n
theorem addD_docs (most : Int) (d : Dc) (F : List Dc) (left : List Int) : (addD most d F left).docs = F ++ [d] ∧ (addD most d F left).left = left := by
  unfold addD
  split
  · exact ⟨rfl, rfl⟩
  · exact ⟨by simp [St.docs], rfl⟩
theorem POk.left {D : List Dc} {left : List Int} {n : Nat} (h : POk D left n) : POk D (left ++ [(n : Int)]) (n + 1) := by
  refine ⟨?_, fun d hd => ⟨(h.doc d hd).1, (h.doc d hd).2.1, fun x hx => by have := (h.doc d hd).2.2 x hx; omega⟩⟩
  rw [rangeI_succ, List.append_assoc]
  refine List.Perm.trans (List.Perm.append_left left (List.perm_append_comm (l₁ := [(n : Int)]))) ?_
  rw [← List.append_assoc]
  exact h.perm.append_right _
theorem POk.new {D : List Dc} {left : List Int} {n : Nat} (h : POk D left n) (k : List UInt8) : POk (D ++ [⟨k, [(n : Int)]⟩]) left (n + 1) := by
  refine ⟨?_, fun d hd => ?_⟩
  · rw [rangeI_succ, flatP_snoc, ← List.append_assoc]
    exact h.perm.append_right _
  · rcases List.mem_append.1 hd with hd | hd
    · exact ⟨(h.doc d hd).1, (h.doc d hd).2.1, fun x hx => by have := (h.doc d hd).2.2 x hx; omega⟩
    · rw [List.mem_singleton] at hd
      subst hd
      exact ⟨by simp, by simp, fun x hx => by simp at hx; omega⟩
theorem POk.old {D : List Dc} {d0 : Dc} {left : List Int} {n : Nat} (h : POk (D ++ [d0]) left n) : POk (D ++ [⟨d0.kind, d0.pages ++ [(n : Int)]⟩]) left (n + 1) := by
  refine ⟨?_, fun d hd => ?_⟩
  · have hp := h.perm
    rw [flatP_snoc] at hp ⊢
    rw [rangeI_succ, ← List.append_assoc, ← List.append_assoc]
    rw [← List.append_assoc] at hp
    exact hp.append_right _
  · rcases List.mem_append.1 hd with hd | hd
    · have := h.doc d (List.mem_append_left _ hd)
      exact ⟨this.1, this.2.1, fun x hx => by have := this.2.2 x hx; omega⟩
    · rw [List.mem_singleton] at hd
      subst hd
      have := h.doc d0 (by simp)
      refine ⟨by simp, ?_, fun x hx => ?_⟩
      · rw [List.pairwise_append]
        exact ⟨this.2.1, by simp, fun a ha b hb => by rw [List.mem_singleton] at hb; subst hb; have := this.2.2 a ha; omega⟩
      · rcases List.mem_append.1 hx with hx | hx
        · have := this.2.2 x hx; omega
        · simp at hx; omega
theorem POk.add {st : St} {most : Int} {n : Nat} (h : POk st.docs st.left n) (k : List UInt8) : POk (st.add most n k).docs (st.add most n k).left (n + 1) := by
  obtain ⟨F, last, left⟩ := st
  cases last with
  | none =>
    have e := addD_docs most ⟨k, [(n : Int)]⟩ F left
    show POk (addD most ⟨k, [(n : Int)]⟩ F left).docs (addD most ⟨k, [(n : Int)]⟩ F left).left (n + 1)
    rw [e.1, e.2]
    have h : POk F left n := by simpa [St.docs] using h
    exact h.new k
  | some d =>
    have e := addD_docs most ⟨d.kind, d.pages ++ [(n : Int)]⟩ F left
    show POk (addD most ⟨d.kind, d.pages ++ [(n : Int)]⟩ F left).docs (addD most ⟨d.kind, d.pages ++ [(n : Int)]⟩ F left).left (n + 1)
    rw [e.1, e.2]
    exact POk.old h
theorem St.close_docs (st : St) : st.close.docs = st.docs := by simp [St.close, St.docs]
theorem spN_ok (l : List Sh) (w : Wy) : ∀ n, POk (spN l w n).docs (spN l w n).left n
  | 0 => ⟨List.Perm.refl _, fun d hd => by simp [spN, St.docs] at hd⟩
  | n + 1 => by
    have ih := spN_ok l w n
    have ihc : POk (spN l w n).close.docs (spN l w n).close.left n := by rw [St.close_docs]; exact ih
    show POk (spStep (l.getD n Sh.zero) w (spN l w n) n).docs (spStep (l.getD n Sh.zero) w (spN l w n) n).left (n + 1)
    unfold spStep
    split
    · split
      · exact ihc.add _
      · have : (⟨(spN l w n).docs, none, (spN l w n).left ++ [(n : Int)]⟩ : St).docs = (spN l w n).docs := by simp [St.docs]
        rw [this]
        exact ih.left
    · split
      · exact ih.left
      · split
        · exact ihc.add _
        · exact ih.add _
theorem sort_range {l : List Int} {n : Nat} (h : List.Perm l (rangeI n)) : Go.Fv.sortI l = rangeI n := by
  unfold Go.Fv.sortI
  have h1 := List.pairwise_mergeSort (le := fun x y : Int => decide (x ≤ y)) (fun a b c h1 h2 => by simp at *; omega) (fun a b => by simp; omega) l
  refine List.Perm.eq_of_pairwise (le := fun a b : Int => a ≤ b) (fun a b _ _ h1 h2 => by omega) (h1.imp fun h => by simpa using h) (rangeI_asc n) ((List.mergeSort_perm l _).trans h)
theorem asc_get {l : List Int} (h : l.Pairwise fun a b : Int => a ≤ b) : ∀ i, i + 1 < l.length → l.getD i 0 ≤ l.getD (i + 1) 0 := by
  intro i hi
  have := List.pairwise_iff_getElem.1 h i (i + 1) (by omega) hi (by omega)
  simpa [List.getD_eq_getElem?_getD, hi, show i < l.length by omega] using this
end Go.Fv.Z
