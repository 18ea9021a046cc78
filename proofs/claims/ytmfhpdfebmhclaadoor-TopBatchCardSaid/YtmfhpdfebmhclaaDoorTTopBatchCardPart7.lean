/-
  A part of the proof of the claim: walks over the program's functions and the plain laws that these need. No condition of its own.
-/
import Derived.Test.YtmfhpdfebmhclaaDoorTTopBatchCardPart6
import Derived.Test.YtmfhpdfebmhclaaDoorTTopBatchCardPart4
import Derived.Test.YtmfhpdfebmhclaaDoorFvPart9
import Derived.Test.YtmfhpdfebmhclaaDoorTTopBatchCardPart1
import Derived.Test.YtmfhpdfebmhclaaDoorTTopBatchCardPart5
import Derived.Test.YtmfhpdfebmhclaaDoorTTopBatchCardPart2
import Derived.Test.YtmfhpdfebmhclaaDoorTTopBatchCardPart3
import Derived.Test.YtmfhpdfebmhclaaDoorFvPart10
import Derived.Shelf.SlicesE.DeleteFunc
import Derived.WalkKit
/- Split with its errors. -/
namespace Go.Fv.T
open Go Go.Proofs
set_option linter.unusedSimpArgs false
set_option linter.unusedVariables false
set_option linter.unnecessarySimpa false
set_option maxRecDepth 8000

def splE (l : List Sh) (w : Wy) : Int := firstErr [shsErr l, spErr w]
def splD (l : List Sh) (w : Wy) : List Dc := if splE l w = 0 then (spN l w l.length).docs else []
def splL (l : List Sh) (w : Wy) : List Int := if splE l w = 0 then (spN l w l.length).left else []
theorem splitErr_ok (l : List Sh) (w : Wy) (hW : RuSmall w.rules) (h : splE l w ≠ 0) :
    FnOk Tryd.prog 13 [.ro (shs l), .agg w.av] (.tup [.own 0, .own 1, .int .i64 (splE l w)]) [(0, .row 52 (dcs [])), (1, .row 3 (.ints .i64 []))] := by
  have k1 := checkSheets_ok l
  have k2 := isCode_ok w.sep
  have k3 := checkRules_ok w.rules hW
  have hE : splE l w = if shsErr l = 0 then (if codeOk w.sep = true then (if w.margin < 0 ∨ 4000 < w.margin ∨ w.blank < -1 ∨ 1000 < w.blank ∨ w.most < 0 ∨ 1000 < w.most then 3 else rusErr w.rules) else 2) else shsErr l := by
    unfold splE spErr
    simp only [firstErr]
    (repeat' split) <;> simp_all
  rw [hE] at h ⊢
  clear hE
  unfold Wy.av
  generalize shsErr l = a at *
  generalize rusErr w.rules = c at *
  generalize codeOk w.sep = q at *
  refine FnOk.of_vc Tryd.func13 rfl (by decide) (by simp [Tryd.f13]) [.tmp 4, .tmp 5, .tmp 6] rfl fun w0 T0 _ => ?_
  simp only [Tryd.f13, argEnv]
  (repeat' first | with_reducible (first | refine Asm.intro fun _ => ?_ | refine Chk.g ?_ | refine AnyI.i64 fun _ _ => ?_ | refine LetW.g ?_ | refine LetW.h ?_ | refine Ite.t fun _ => ?_ | refine Ite.f fun _ => ?_ | refine Ite.decide (fun _ => ?_) fun _ => ?_ | refine Ite.bool (fun _ => ?_) fun _ => ?_ | refine And.intro ?_ ?_) | omega | simp (maxSteps := 1000000) only [go_sem, reduceCtorEq, Nat.reduceLT, Nat.reduceLeDiff, reduceIte, ↓reduceIte, Nat.reduceEqDiff, Nat.reduceAdd, Nat.reduceMul, Nat.reduceSub, Int.reduceLE, Int.reduceLT, Int.reduceNeg, Int.reduceToNat])
  refine VcCall.fr (FnFr.of_ok (k1) rfl rfl) (by simp only [noIdR_ok, argOkL, argOk, allOk, argOkN, List.drop_zero, lk, reduceIte, reduceCtorEq, Nat.reduceEqDiff, Option.some.injEq, Item.row.injEq, Item.box.injEq, AV.ro.injEq, exists_eq_left, exists_and_left, exists_eq_left', exists_eq_right, and_assoc, and_true, true_and, List.cons.injEq, exists_eq', exists_eq]) 0 rfl (by simp [rowsB]) ?_
  by_cases ha : a = 0
  · rw [if_pos ha] at h ⊢
    subst ha
    (repeat' first | with_reducible (first | refine Asm.intro fun _ => ?_ | refine Chk.g ?_ | refine AnyI.i64 fun _ _ => ?_ | refine LetW.g ?_ | refine LetW.h ?_ | refine Ite.t fun _ => ?_ | refine Ite.f fun _ => ?_ | refine Ite.decide (fun _ => ?_) fun _ => ?_ | refine Ite.bool (fun _ => ?_) fun _ => ?_ | refine And.intro ?_ ?_) | omega | simp (maxSteps := 1000000) only [go_sem, reduceCtorEq, Nat.reduceLT, Nat.reduceLeDiff, reduceIte, ↓reduceIte, Nat.reduceEqDiff, Nat.reduceAdd, Nat.reduceMul, Nat.reduceSub, Int.reduceLE, Int.reduceLT, Int.reduceNeg, Int.reduceToNat])
    refine VcCall.fr (FnFr.of_ok (k2) rfl rfl) (by simp only [noIdR_ok, argOkL, argOk, allOk, argOkN, List.drop_zero, lk, reduceIte, reduceCtorEq, Nat.reduceEqDiff, Option.some.injEq, Item.row.injEq, Item.box.injEq, AV.ro.injEq, exists_eq_left, exists_and_left, exists_eq_left', exists_eq_right, and_assoc, and_true, true_and, List.cons.injEq, exists_eq', exists_eq]) 0 rfl (by simp [rowsB]) ?_
    cases q with
    | false =>
      (repeat' first | with_reducible (first | refine Asm.intro fun _ => ?_ | refine Chk.g ?_ | refine AnyI.i64 fun _ _ => ?_ | refine LetW.g ?_ | refine LetW.h ?_ | refine Ite.t fun _ => ?_ | refine Ite.f fun _ => ?_ | refine Ite.decide (fun _ => ?_) fun _ => ?_ | refine Ite.bool (fun _ => ?_) fun _ => ?_ | refine And.intro ?_ ?_) | omega | simp (maxSteps := 1000000) only [go_sem, reduceCtorEq, Nat.reduceLT, Nat.reduceLeDiff, reduceIte, ↓reduceIte, Nat.reduceEqDiff, Nat.reduceAdd, Nat.reduceMul, Nat.reduceSub, Int.reduceLE, Int.reduceLT, Int.reduceNeg, Int.reduceToNat])
      refine Ret.auto 2 ?_ rfl ?_ <;> simp only [go_sem, reduceCtorEq, reduceIte, Nat.reduceEqDiff, Nat.reduceLT, Nat.reduceLeDiff, Int.natCast_succ, Post, List.map_nil, zrow, List.range_zero, List.replicate_zero, Bool.false_eq_true]
    | true =>
      rw [if_pos rfl] at h ⊢
      by_cases hr : w.margin < 0 ∨ 4000 < w.margin ∨ w.blank < -1 ∨ 1000 < w.blank ∨ w.most < 0 ∨ 1000 < w.most
      · rw [if_pos hr] at h ⊢
        have hr' : (((((w.margin < 0 ∨ 4000 < w.margin) ∨ w.blank < -1) ∨ 1000 < w.blank) ∨ w.most < 0) ∨ 1000 < w.most) := by omega
        (repeat' first | with_reducible (first | refine Asm.intro fun _ => ?_ | refine Chk.g ?_ | refine AnyI.i64 fun _ _ => ?_ | refine LetW.g ?_ | refine LetW.h ?_ | refine Ite.t fun _ => ?_ | refine Ite.f fun _ => ?_ | refine Ite.decide (fun _ => ?_) fun _ => ?_ | refine Ite.bool (fun _ => ?_) fun _ => ?_ | refine And.intro ?_ ?_) | omega | simp (maxSteps := 1000000) only [go_sem, reduceCtorEq, Nat.reduceLT, Nat.reduceLeDiff, reduceIte, ↓reduceIte, Nat.reduceEqDiff, Nat.reduceAdd, Nat.reduceMul, Nat.reduceSub, Int.reduceLE, Int.reduceLT, Int.reduceNeg, Int.reduceToNat])
        all_goals (refine Ret.auto 2 ?_ rfl ?_ <;> simp only [go_sem, reduceCtorEq, reduceIte, Nat.reduceEqDiff, Nat.reduceLT, Nat.reduceLeDiff, Int.natCast_succ, Post, List.map_nil, zrow, List.range_zero, List.replicate_zero])
      · rw [if_neg hr] at h ⊢
        (repeat' first | with_reducible (first | refine Asm.intro fun _ => ?_ | refine Chk.g ?_ | refine AnyI.i64 fun _ _ => ?_ | refine LetW.g ?_ | refine LetW.h ?_ | refine Ite.t fun _ => ?_ | refine Ite.f fun _ => ?_ | refine Ite.decide (fun _ => ?_) fun _ => ?_ | refine Ite.bool (fun _ => ?_) fun _ => ?_ | refine And.intro ?_ ?_) | omega | simp (maxSteps := 1000000) only [go_sem, reduceCtorEq, Nat.reduceLT, Nat.reduceLeDiff, reduceIte, ↓reduceIte, Nat.reduceEqDiff, Nat.reduceAdd, Nat.reduceMul, Nat.reduceSub, Int.reduceLE, Int.reduceLT, Int.reduceNeg, Int.reduceToNat])
        refine VcCall.fr (FnFr.of_ok (k3) rfl rfl) (by simp only [noIdR_ok, argOkL, argOk, allOk, argOkN, List.drop_zero, lk, reduceIte, reduceCtorEq, Nat.reduceEqDiff, Option.some.injEq, Item.row.injEq, Item.box.injEq, AV.ro.injEq, exists_eq_left, exists_and_left, exists_eq_left', exists_eq_right, and_assoc, and_true, true_and, List.cons.injEq, exists_eq', exists_eq]) 0 rfl (by simp [rowsB]) ?_
        (repeat' first | with_reducible (first | refine Asm.intro fun _ => ?_ | refine Chk.g ?_ | refine AnyI.i64 fun _ _ => ?_ | refine LetW.g ?_ | refine LetW.h ?_ | refine Ite.t fun _ => ?_ | refine Ite.f fun _ => ?_ | refine Ite.decide (fun _ => ?_) fun _ => ?_ | refine Ite.bool (fun _ => ?_) fun _ => ?_ | refine And.intro ?_ ?_) | omega | simp (maxSteps := 1000000) only [go_sem, reduceCtorEq, Nat.reduceLT, Nat.reduceLeDiff, reduceIte, ↓reduceIte, Nat.reduceEqDiff, Nat.reduceAdd, Nat.reduceMul, Nat.reduceSub, Int.reduceLE, Int.reduceLT, Int.reduceNeg, Int.reduceToNat, h])
        refine Ret.auto 2 ?_ rfl ?_ <;> simp only [go_sem, reduceCtorEq, reduceIte, Nat.reduceEqDiff, Nat.reduceLT, Nat.reduceLeDiff, Int.natCast_succ, Post, List.map_nil, zrow, List.range_zero, List.replicate_zero]
  · rw [if_neg ha] at h ⊢
    (repeat' first | with_reducible (first | refine Asm.intro fun _ => ?_ | refine Chk.g ?_ | refine AnyI.i64 fun _ _ => ?_ | refine LetW.g ?_ | refine LetW.h ?_ | refine Ite.t fun _ => ?_ | refine Ite.f fun _ => ?_ | refine Ite.decide (fun _ => ?_) fun _ => ?_ | refine Ite.bool (fun _ => ?_) fun _ => ?_ | refine And.intro ?_ ?_) | omega | simp (maxSteps := 1000000) only [go_sem, reduceCtorEq, Nat.reduceLT, Nat.reduceLeDiff, reduceIte, ↓reduceIte, Nat.reduceEqDiff, Nat.reduceAdd, Nat.reduceMul, Nat.reduceSub, Int.reduceLE, Int.reduceLT, Int.reduceNeg, Int.reduceToNat, ha])
    refine Ret.auto 2 ?_ rfl ?_ <;> simp only [go_sem, reduceCtorEq, reduceIte, Nat.reduceEqDiff, Nat.reduceLT, Nat.reduceLeDiff, Int.natCast_succ, Post, List.map_nil, zrow, List.range_zero, List.replicate_zero]
theorem splitF_ok (l : List Sh) (w : Wy) (hW : RuSmall w.rules) :
    FnOk Tryd.prog 13 [.ro (shs l), .agg w.av] (.tup [.own 0, .own 1, .int .i64 (splE l w)]) [(0, .row 52 (dcs (splD l w))), (1, .row 3 (.ints .i64 (splL l w)))] := by
  by_cases h : splE l w = 0
  · unfold splD splL
    rw [if_pos h, if_pos h, h]
    have h1 := firstErr_zero h _ (List.mem_cons_self)
    have h2 := firstErr_zero h _ (List.mem_cons_of_mem _ (List.mem_cons_self))
    obtain ⟨q1, q2⟩ := shsErr_zero h1
    obtain ⟨q3, q4, q5⟩ := spErr_zero h2
    exact splitLoop l q1 q2 w q4 q3 h2 h1 q5 hW
  · unfold splD splL
    rw [if_neg h, if_neg h]
    exact splitErr_ok l w hW h
end Go.Fv.T

/- A batch with separators between: what Split makes of it, in plain words. -/
namespace Go.Fv.T
open Go Go.Proofs
set_option linter.unusedSimpArgs false
set_option linter.unusedVariables false
set_option maxRecDepth 8000

def onePg : List Bool := (List.replicate 16 false).set 5 true
def pageS : Sh := ⟨4, 4, onePg, [[112, 97, 103, 101]], [97, 32, 112, 97, 103, 101]⟩
def sepS : Sh := ⟨4, 4, onePg, [[120], [83, 69, 80, 45, 49]], []⟩
def bw (keep : Bool) : Wy := ⟨[83, 69, 80], keep, 0, -1, 0, []⟩
structure BSt where
  L : List Sh
  F : List (List Int)
  cur : Option (List Int)
def BSt.want (b : BSt) : List (List Int) := b.F ++ b.cur.toList
def BSt.page (b : BSt) : BSt := ⟨b.L ++ [pageS], b.F, some (b.cur.getD [] ++ [(b.L.length : Int)])⟩
def BSt.sep (keep : Bool) (b : BSt) : BSt := if keep = true then ⟨b.L ++ [sepS], b.want, some [(b.L.length : Int)]⟩ else ⟨b.L ++ [sepS], b.want, none⟩
def BSt.pages (b : BSt) : Nat → BSt
  | 0 => b
  | n + 1 => (b.pages n).page
def BSt.step (keep : Bool) (b : BSt) (i n : Nat) : BSt := BSt.pages (if 0 < i then b.sep keep else b) n
def BSt.run (keep : Bool) (ns : List Nat) : Nat → BSt
  | 0 => ⟨[], [], none⟩
  | i + 1 => (BSt.run keep ns i).step keep i (ns.getD i 0)
/-- What Split holds. -/
structure BInv (keep : Bool) (b : BSt) : Prop where
  f : (spN b.L (bw keep) b.L.length).F = b.F.map (Dc.mk [])
  l : (spN b.L (bw keep) b.L.length).last = b.cur.map (Dc.mk [])
  e : keep = true → (spN b.L (bw keep) b.L.length).left = []
  m : ∀ s, s ∈ b.L → s = pageS ∨ s = sepS
theorem spN_app (l m : List Sh) (w : Wy) : ∀ n, n ≤ l.length → spN (l ++ m) w n = spN l w n
  | 0, _ => rfl
  | n + 1, h => by
    have ih := spN_app l m w n (by omega)
    show spStep ((l ++ m).getD n Sh.zero) w (spN (l ++ m) w n) n = spStep (l.getD n Sh.zero) w (spN l w n) n
    rw [ih]
    congr 1
    simp [List.getD_eq_getElem?_getD, List.getElem?_append_left (show n < l.length by omega)]
theorem spN_snoc (l : List Sh) (s : Sh) (w : Wy) : spN (l ++ [s]) w (l ++ [s]).length = spStep s w (spN l w l.length) l.length := by
  rw [List.length_append, List.length_singleton]
  show spStep ((l ++ [s]).getD l.length Sh.zero) w (spN (l ++ [s]) w l.length) l.length = _
  rw [spN_app l [s] w l.length (Nat.le_refl _)]
  congr 1
  simp [List.getD_eq_getElem?_getD]
theorem add0 (d : Dc) (F : List Dc) (left : List Int) : addD 0 d F left = ⟨F, some d, left⟩ := by
  unfold addD
  rw [if_pos (by unfold stayB; simp)]
theorem page_step (keep : Bool) (st : St) (i : Int) : spStep pageS (bw keep) st i = st.add 0 i [] := by
  have h1 : ¬ sepHit pageS (bw keep) := by
    intro h
    have h2 : begB pageS.codes [83, 69, 80] = true := h.2
    exact absurd h2 (by decide)
  have h2 : ¬ blankHit pageS (bw keep) := fun h => absurd h.1 (by show ¬ (0 : Int) ≤ -1; decide)
  have h3 : kindS pageS (bw keep).rules = [] := rfl
  unfold spStep
  rw [if_neg h1, if_neg h2, h3, if_neg (by simp)]
  rfl
theorem sep_step (keep : Bool) (st : St) (i : Int) : spStep sepS (bw keep) st i = if keep = true then st.close.add 0 i [] else ⟨st.docs, none, st.left ++ [i]⟩ := by
  have h1 : sepHit sepS (bw keep) := ⟨by show [83, 69, 80] ≠ []; decide, by show begB sepS.codes [83, 69, 80] = true; decide⟩
  have h3 : kindS sepS (bw keep).rules = [] := rfl
  unfold spStep
  rw [if_pos h1, h3]
  rfl
theorem BInv.page {keep : Bool} {b : BSt} (h : BInv keep b) : BInv keep b.page := by
  have hs := spN_snoc b.L pageS (bw keep)
  rw [page_step] at hs
  have hf := h.f
  have hl := h.l
  have he := h.e
  generalize spN b.L (bw keep) b.L.length = st at *
  obtain ⟨F, last, left⟩ := st
  obtain ⟨L, G, cur⟩ := b
  dsimp only at hf hl
  subst hf hl
  have key : St.add 0 ⟨G.map (Dc.mk []), cur.map (Dc.mk []), left⟩ (L.length : Int) [] = ⟨G.map (Dc.mk []), some ⟨[], cur.getD [] ++ [(L.length : Int)]⟩, left⟩ := by
    cases cur with
    | none => exact add0 _ _ _
    | some c => exact add0 _ _ _
  rw [key] at hs
  refine ⟨?_, ?_, fun hk => ?_, fun s hm => ?_⟩
  · show (spN (L ++ [pageS]) (bw keep) (L ++ [pageS]).length).F = _
    rw [hs]; rfl
  · show (spN (L ++ [pageS]) (bw keep) (L ++ [pageS]).length).last = _
    rw [hs]; rfl
  · show (spN (L ++ [pageS]) (bw keep) (L ++ [pageS]).length).left = _
    rw [hs]; exact he hk
  · rcases List.mem_append.1 hm with hm | hm
    · exact h.m s hm
    · exact .inl (List.mem_singleton.1 hm)
theorem BInv.sep {keep : Bool} {b : BSt} (h : BInv keep b) : BInv keep (b.sep keep) := by
  have hs := spN_snoc b.L sepS (bw keep)
  rw [sep_step] at hs
  have hf := h.f
  have hl := h.l
  have he := h.e
  have hm := h.m
  generalize spN b.L (bw keep) b.L.length = st at *
  obtain ⟨F, last, left⟩ := st
  obtain ⟨L, G, cur⟩ := b
  dsimp only at hf hl
  subst hf hl
  have hd : (⟨G.map (Dc.mk []), cur.map (Dc.mk []), left⟩ : St).docs = (G ++ cur.toList).map (Dc.mk []) := by
    unfold St.docs
    cases cur <;> simp
  have hm' : ∀ s, s ∈ L ++ [sepS] → s = pageS ∨ s = sepS := fun s hq => by
    rcases List.mem_append.1 hq with hq | hq
    · exact hm s hq
    · exact .inr (List.mem_singleton.1 hq)
  cases keep with
  | true =>
    rw [if_pos rfl] at hs
    have key : (⟨G.map (Dc.mk []), cur.map (Dc.mk []), left⟩ : St).close.add 0 (L.length : Int) [] = ⟨(G ++ cur.toList).map (Dc.mk []), some ⟨[], [(L.length : Int)]⟩, left⟩ := by
      rw [← hd]
      exact add0 _ _ _
    rw [key] at hs
    refine ⟨?_, ?_, fun hk => ?_, hm'⟩
    · show (spN (L ++ [sepS]) (bw true) (L ++ [sepS]).length).F = _
      rw [hs]; rfl
    · show (spN (L ++ [sepS]) (bw true) (L ++ [sepS]).length).last = _
      rw [hs]; rfl
    · show (spN (L ++ [sepS]) (bw true) (L ++ [sepS]).length).left = _
      rw [hs]; exact he rfl
  | false =>
    rw [if_neg Bool.false_ne_true, hd] at hs
    refine ⟨?_, ?_, fun hk => absurd hk Bool.false_ne_true, hm'⟩
    · show (spN (L ++ [sepS]) (bw false) (L ++ [sepS]).length).F = _
      rw [hs]; rfl
    · show (spN (L ++ [sepS]) (bw false) (L ++ [sepS]).length).last = _
      rw [hs]; rfl
theorem BInv.pages {keep : Bool} {b : BSt} (h : BInv keep b) : ∀ n, BInv keep (b.pages n)
  | 0 => h
  | n + 1 => (h.pages n).page
theorem BInv.run (keep : Bool) (ns : List Nat) : ∀ i, BInv keep (BSt.run keep ns i)
  | 0 => ⟨rfl, rfl, fun _ => rfl, fun s hs => by cases hs⟩
  | i + 1 => by
    have ih := BInv.run keep ns i
    show BInv keep ((BSt.run keep ns i).step keep i (ns.getD i 0))
    unfold BSt.step
    split
    · exact ih.sep.pages _
    · exact ih.pages _
theorem BSt.pages_L (b : BSt) : ∀ n, (b.pages n).L.length = b.L.length + n
  | 0 => rfl
  | n + 1 => by
    show ((b.pages n).page).L.length = _
    unfold BSt.page
    rw [List.length_append, BSt.pages_L b n]; rfl
theorem BSt.sep_L (keep : Bool) (b : BSt) : (b.sep keep).L.length = b.L.length + 1 := by
  unfold BSt.sep
  split <;> simp
theorem BSt.run_L (keep : Bool) (ns : List Nat) (h : ∀ i, ns.getD i 0 ≤ 7) : ∀ i, (BSt.run keep ns i).L.length ≤ 8 * i
  | 0 => Nat.le_refl _
  | i + 1 => by
    have ih := BSt.run_L keep ns h i
    have hn := h i
    show ((BSt.run keep ns i).step keep i (ns.getD i 0)).L.length ≤ _
    unfold BSt.step
    rw [BSt.pages_L]
    split
    · rw [BSt.sep_L]; omega
    · omega
theorem BInv.err {keep : Bool} {b : BSt} (h : BInv keep b) (hl : b.L.length ≤ 1000) : splE b.L (bw keep) = 0 := by
  have h1 : shsErr b.L = 0 := by
    unfold shsErr
    rw [if_neg (by omega)]
    have : ∀ l : List Int, (∀ x, x ∈ l → x = 0) → firstErr l = 0 := by
      intro l
      induction l with
      | nil => intro _; rfl
      | cons x l ih => intro hx; simp only [firstErr]; rw [if_pos (hx x (List.mem_cons_self))]; exact ih fun y hy => hx y (List.mem_cons_of_mem _ hy)
    refine this _ fun x hx => ?_
    obtain ⟨s, hs, rfl⟩ := List.mem_map.1 hx
    rcases h.m s hs with rfl | rfl
    · decide
    · decide
  unfold splE
  rw [h1]
  cases keep <;> decide
theorem BInv.docs {keep : Bool} {b : BSt} (h : BInv keep b) (hl : b.L.length ≤ 1000) : splD b.L (bw keep) = b.want.map (Dc.mk []) ∧ (keep = true → splL b.L (bw keep) = []) := by
  unfold splD splL
  rw [if_pos (h.err hl), if_pos (h.err hl)]
  refine ⟨?_, h.e⟩
  unfold St.docs BSt.want
  rw [h.f, h.l]
  cases b.cur <;> simp
end Go.Fv.T

/- What the law asks of the documents. -/
namespace Go.Fv.T
open Go Go.Proofs
set_option linter.unusedSimpArgs false
set_option linter.unusedVariables false
set_option linter.unnecessarySimpa false
set_option maxRecDepth 8000

set_option maxHeartbeats 1000000 in
theorem eqInts_ok (a b : List Int) : FnOk Tryd.prog 14 [.ro (.ints .i64 a), .ro (.ints .i64 b)] (.bool (decide (a = b))) [] := by
  refine FnOk.of_vc Tryd.func14 rfl (by decide) (by simp [Tryd.f14]) [.tmp 4] rfl fun w0 T0 _ => ?_
  simp only [Tryd.f14, argEnv]
  simp (maxSteps := 1000000) only [go_sem, reduceCtorEq, Nat.reduceLT, Nat.reduceLeDiff, reduceIte, ↓reduceIte, Nat.reduceEqDiff, Nat.reduceAdd, Nat.reduceMul, Nat.reduceSub, Int.reduceLE, Int.reduceLT, Int.reduceNeg, Int.reduceToNat]
  refine Asm.intro fun _ => Asm.intro fun _ => Ite.decide (fun h => ?_) fun h => ?_
  · simp (maxSteps := 1000000) only [go_sem, reduceCtorEq, Nat.reduceLT, Nat.reduceLeDiff, reduceIte, ↓reduceIte, Nat.reduceEqDiff, Nat.reduceAdd, Nat.reduceMul, Nat.reduceSub, Int.reduceLE, Int.reduceLT, Int.reduceNeg, Int.reduceToNat]
    refine Ret.auto 0 ?_ rfl (by simp [subOk])
    have : a ≠ b := by intro e; subst e; exact h rfl
    simp only [go_sem, reduceCtorEq, reduceIte, Nat.reduceEqDiff, Nat.reduceLT, Nat.reduceLeDiff, Int.natCast_succ, Post, this, decide_false, decide_true]
  have hl : a.length = b.length := by omega
  simp (maxSteps := 1000000) only [go_sem, reduceCtorEq, Nat.reduceLT, Nat.reduceLeDiff, reduceIte, ↓reduceIte, Nat.reduceEqDiff, Nat.reduceAdd, Nat.reduceMul, Nat.reduceSub, Int.reduceLE, Int.reduceLT, Int.reduceNeg, Int.reduceToNat]
  refine Asm.intro fun _ => VcLoop.intro (fun i : Nat => ⟨26, [(0, .ro (.ints .i64 a)), (1, .ro (.ints .i64 b)), (12, .int .i64 a.length), (13, .int .i64 i)], [], 0⟩) (fun i => i ≤ a.length ∧ ∀ j, j < i → a.getD j 0 = b.getD j 0) (fun i => a.length - i) 0 ?_ ⟨by omega, fun j hj => by omega⟩ fun i hi => ?_
  · refine Ent.auto0 rfl ?_ ?_ <;> simp only [go_sem, reduceCtorEq, reduceIte, Nat.reduceEqDiff, Nat.reduceLT, Nat.reduceLeDiff, Int.natCast_succ]
  simp (maxSteps := 1000000) only [go_sem, reduceCtorEq, Nat.reduceLT, Nat.reduceLeDiff, reduceIte, ↓reduceIte, Nat.reduceEqDiff, Nat.reduceAdd, Nat.reduceMul, Nat.reduceSub, Int.reduceLE, Int.reduceLT, Int.reduceNeg, Int.reduceToNat]
  refine Ite.decide (fun h1 => ?_) (fun h1 => ?_)
  · simp (maxSteps := 1000000) only [go_sem, reduceCtorEq, Nat.reduceLT, Nat.reduceLeDiff, reduceIte, ↓reduceIte, Nat.reduceEqDiff, Nat.reduceAdd, Nat.reduceMul, Nat.reduceSub, Int.reduceLE, Int.reduceLT, Int.reduceNeg, Int.reduceToNat]
    refine VcDraw.lex [] [] (by kernel_rfl) (by kernel_rfl) ?_
    simp (maxSteps := 1000000) only [go_sem, reduceCtorEq, Nat.reduceLT, Nat.reduceLeDiff, reduceIte, ↓reduceIte, Nat.reduceEqDiff, Nat.reduceAdd, Nat.reduceMul, Nat.reduceSub, Int.reduceLE, Int.reduceLT, Int.reduceNeg, Int.reduceToNat]
    (repeat' first | (with_reducible refine Asm.intro fun _ => ?_) | ((with_reducible refine Chk.intro ?_ ?_); (· first | omega | (with_reducible refine Chk.intro ?_ ?_ <;> omega) | (simp; done) | (simp; omega))) | ((with_reducible refine LetW.i64 ?_ ?_ ?_); (· omega); (· omega)) | ((with_reducible refine Ite.decide (fun _ => ?_) (fun _ => ?_)) <;> first | (exfalso; omega) | simp (maxSteps := 1000000) only [go_sem, reduceCtorEq, Nat.reduceLT, Nat.reduceLeDiff, reduceIte, ↓reduceIte, Nat.reduceEqDiff, Nat.reduceAdd, Nat.reduceMul, Nat.reduceSub, Int.reduceLE, Int.reduceLT, Int.reduceNeg, Int.reduceToNat]) | ((with_reducible refine Ite.bool (fun _ => ?_) (fun _ => ?_)) <;> simp (maxSteps := 1000000) only [go_sem, reduceCtorEq, Nat.reduceLT, Nat.reduceLeDiff, reduceIte, ↓reduceIte, Nat.reduceEqDiff, Nat.reduceAdd, Nat.reduceMul, Nat.reduceSub, Int.reduceLE, Int.reduceLT, Int.reduceNeg, Int.reduceToNat]) | (with_reducible refine And.intro ?_ ?_))
    · rename_i h2
      refine Ret.auto 0 ?_ rfl (by simp [subOk])
      have : a ≠ b := by intro e; subst e; exact h2 rfl
      simp only [go_sem, reduceCtorEq, reduceIte, Nat.reduceEqDiff, Nat.reduceLT, Nat.reduceLeDiff, Int.natCast_succ, Post, this]
    · rename_i h2
      refine ⟨i + 1, Ent.auto0 rfl ?_ ?_, ⟨by omega, fun j hj => ?_⟩, by omega⟩
      · simp only [go_sem, reduceCtorEq, reduceIte, Nat.reduceEqDiff, Nat.reduceLT, Nat.reduceLeDiff, Int.natCast_succ]
        all_goals omega
      · simp only [go_sem, reduceCtorEq, reduceIte, Nat.reduceEqDiff, Nat.reduceLT, Nat.reduceLeDiff, Int.natCast_succ]
      · by_cases e : j = i
        · subst e; exact Decidable.of_not_not h2
        · exact hi.2 j (by omega)
  · simp (maxSteps := 1000000) only [go_sem, reduceCtorEq, Nat.reduceLT, Nat.reduceLeDiff, reduceIte, ↓reduceIte, Nat.reduceEqDiff, Nat.reduceAdd, Nat.reduceMul, Nat.reduceSub, Int.reduceLE, Int.reduceLT, Int.reduceNeg, Int.reduceToNat]
    refine Ret.auto 0 ?_ rfl (by simp [subOk])
    have : a = b := eq_of_getD 0 hl fun j hj => hi.2 j (by omega)
    simp only [go_sem, reduceCtorEq, reduceIte, Nat.reduceEqDiff, Nat.reduceLT, Nat.reduceLeDiff, Int.natCast_succ, Post, this, decide_false, decide_true]

end Go.Fv.T

namespace Go.Fv.T
open Go Go.Proofs
set_option linter.unusedSimpArgs false
set_option linter.unusedVariables false
set_option maxRecDepth 8000
end Go.Fv.T

namespace Go.Fv.T
open Go Go.Proofs
set_option linter.unusedSimpArgs false
set_option linter.unusedVariables false
set_option maxRecDepth 8000
end Go.Fv.T

namespace Go.Fv.T
open Go Go.Proofs
set_option linter.unusedSimpArgs false
set_option linter.unusedVariables false
set_option maxRecDepth 8000

end Go.Fv.T

/- Prints of pages, and how far they are apart. -/
namespace Go.Fv.T
open Go Go.Proofs
set_option linter.unusedSimpArgs false
set_option linter.unusedVariables false
set_option linter.unnecessarySimpa false
set_option maxRecDepth 8000

def apAt (a b : List UInt8) (i : Nat) : Nat := ((List.range i).filter fun j => decide (a.getD j 0 ≠ b.getD j 0)).length
def apN (a b : List UInt8) : Nat := apAt a b a.length
end Go.Fv.T

/- slices.IndexFunc and ContainsFunc of integers. -/
namespace Go.Fv.T
open Go Go.Proofs
set_option linter.unusedSimpArgs false
set_option linter.unusedVariables false
set_option maxRecDepth 8000
end Go.Fv.T

/- Groups of prints, in plain words. -/
namespace Go.Fv.T
open Go Go.Proofs
set_option linter.unusedSimpArgs false
set_option linter.unusedVariables false
set_option linter.unnecessarySimpa false
set_option maxRecDepth 8000

def gAv (g : List Int) : List AV := [.ro (.ints .i64 g)]
instance : FNoId gAv := ⟨fun _ => rfl⟩
theorem g_elem (l : List (List Int)) {i : Nat} (h : i < l.length) : (l.map gAv).getD i [] = [.ro (.ints .i64 (l.getD i []))] := by
  simp [List.getD_eq_getElem?_getD, h, gAv]
def near (l : List (List UInt8)) (most : Int) (s : List UInt8) (g : List Int) : Bool := decide ((apN (l.getD (g.getD 0 0).toNat []) s : Int) ≤ most)
def cpStep (l : List (List UInt8)) (most : Int) (G : List (List Int)) (i : Nat) : List (List Int) :=
  if firstAt (near l most (l.getD i [])) G 0 < 0 then G ++ [[(i : Int)]] else G.set (firstAt (near l most (l.getD i [])) G 0).toNat (G.getD (firstAt (near l most (l.getD i [])) G 0).toNat [] ++ [(i : Int)])
theorem firstAt_bd {α : Type} (q : α → Bool) : ∀ (l : List α) (i : Nat), firstAt q l i = -1 ∨ ((i : Int) ≤ firstAt q l i ∧ firstAt q l i < i + l.length)
  | [], i => .inl rfl
  | x :: l, i => by
    simp only [firstAt]
    split
    · exact .inr ⟨by omega, by rw [List.length_cons]; omega⟩
    · rcases firstAt_bd q l (i + 1) with h | ⟨h1, h2⟩
      · exact .inl h
      · refine .inr ⟨by omega, ?_⟩
        rw [List.length_cons]; omega
def GOk (G : List (List Int)) (i : Nat) : Prop := ∀ g, g ∈ G → 0 < g.length ∧ g.length ≤ i ∧ ∀ x, x ∈ g → 0 ≤ x ∧ x < i
theorem GOk.step {G : List (List Int)} {i : Nat} (h : GOk G i) (l : List (List UInt8)) (most : Int) : GOk (cpStep l most G i) (i + 1) := by
  intro g hg
  unfold cpStep at hg
  split at hg
  · rcases List.mem_append.1 hg with hg | hg
    · obtain ⟨h1, h2, h3⟩ := h g hg
      exact ⟨h1, by omega, fun x hx => by have := h3 x hx; omega⟩
    · rw [List.mem_singleton] at hg; subst hg
      exact ⟨by simp, by simp, fun x hx => by rw [List.mem_singleton] at hx; subst hx; omega⟩
  · rename_i h0
    rcases firstAt_bd (near l most (l.getD i [])) G 0 with hb | ⟨hb1, hb2⟩
    · rw [hb] at h0; omega
    · generalize firstAt (near l most (l.getD i [])) G 0 = k at *
      obtain ⟨j, rfl⟩ : ∃ j : Nat, k = j := ⟨k.toNat, by omega⟩
      rw [Int.toNat_natCast] at hg
      have hj : j < G.length := by omega
      rcases List.mem_or_eq_of_mem_set hg with hg | hg
      · obtain ⟨h1, h2, h3⟩ := h g hg
        exact ⟨h1, by omega, fun x hx => by have := h3 x hx; omega⟩
      · subst hg
        obtain ⟨h1, h2, h3⟩ := h (G.getD j []) (by rw [getD_lt hj]; exact List.getElem_mem hj)
        refine ⟨by simp, by rw [List.length_append]; simp only [List.length_cons, List.length_nil]; omega, fun x hx => ?_⟩
        rcases List.mem_append.1 hx with hx | hx
        · have := h3 x hx; omega
        · rw [List.mem_singleton] at hx; subst hx; omega
end Go.Fv.T

/- slices.DeleteFunc of rows of rows, by the contract of the shelf, as a contract that writes the caller's memory. -/
namespace Go.Proofs
open Go.Shelf
end Go.Proofs
namespace Go.Fv.T
open Go Go.Proofs Go.RowKit Go.Sort
set_option linter.unusedSimpArgs false
set_option linter.unusedVariables false
set_option linter.unnecessarySimpa false
set_option maxRecDepth 8000

def SlV : Type := { v : Value // ∃ a n c, v = .slice a n c }
def SlV.nl : SlV := ⟨.slice none 0 0, none, 0, 0, rfl⟩
instance : Inhabited SlV := ⟨SlV.nl⟩
def SlV.enc (x : SlV) : Value := x.1
theorem SlV.one : OneCell SlV.enc := fun ⟨_, _, _, _, h⟩ => by subst h; rfl
end Go.Fv.T

/- Copies and its reference: the loop. -/
namespace Go.Fv.T
open Go Go.Proofs
set_option linter.unusedSimpArgs false
set_option linter.unusedVariables false
set_option linter.unnecessarySimpa false
set_option maxRecDepth 8000

theorem getD_set_ne {G : List (List Int)} {x : List Int} {j k : Nat} (h : k ≠ j) : (G.set k x).getD j [] = G.getD j [] := by
  simp [List.getD_eq_getElem?_getD, List.getElem?_set_ne h]
end Go.Fv.T

/- Copies. -/
namespace Go.Fv.T
open Go Go.Proofs
set_option linter.unusedSimpArgs false
set_option linter.unusedVariables false
set_option linter.unnecessarySimpa false
set_option maxRecDepth 8000

end Go.Fv.T

/- Pages, as data; Apart. -/
namespace Go.Fv.T
open Go Go.Proofs
set_option linter.unusedSimpArgs false
set_option linter.unusedVariables false
set_option linter.unnecessarySimpa false
set_option maxRecDepth 8000

structure Pg where
  W : Int
  H : Int
  p : List Bool
def Pg.av (s : Pg) : List AV := [.int .i64 s.W, .int .i64 s.H, .ro (.bools s.p)]
def Pg.zero : Pg := ⟨0, 0, []⟩
instance : FNoId Pg.av := ⟨fun _ => rfl⟩
end Go.Fv.T

/- The page that bedtop makes of a raw one. -/
namespace Go.Fv.T
open Go Go.Proofs
set_option linter.unusedSimpArgs false
set_option linter.unusedVariables false
set_option linter.unnecessarySimpa false
set_option maxRecDepth 8000

theorem landedT_ok : FnOk Tryd.prog 5 [] (.bool true) [] := by
  refine FnOk.of_vc Tryd.func5 rfl (by decide) (by simp [Tryd.f5]) [.tmp 0] rfl fun w0 T0 _ => ?_
  simp only [Tryd.f5, argEnv]
  simp (maxSteps := 1000000) only [go_sem, reduceCtorEq, Nat.reduceLT, Nat.reduceLeDiff, reduceIte, ↓reduceIte, Nat.reduceEqDiff, Nat.reduceAdd, Nat.reduceMul, Nat.reduceSub, Int.reduceLE, Int.reduceLT, Int.reduceNeg, Int.reduceToNat]
  refine VcCall.fr (args' := [.str [97]]) (FnFr.of_ok isName_a rfl rfl) (by simp [argOkL, allOk, argOkN]) 0 rfl (by simp [rowsB]) ?_
  simp (maxSteps := 1000000) only [go_sem, reduceCtorEq, Nat.reduceLT, Nat.reduceLeDiff, reduceIte, ↓reduceIte, Nat.reduceEqDiff, Nat.reduceAdd, Nat.reduceMul, Nat.reduceSub, Int.reduceLE, Int.reduceLT, Int.reduceNeg, Int.reduceToNat]
  refine Ret.auto 0 ?_ rfl ?_ <;> simp only [go_sem, reduceCtorEq, reduceIte, Nat.reduceEqDiff, Nat.reduceLT, Nat.reduceLeDiff, Int.natCast_succ, Post]
end Go.Fv.T

/- The law TopBatch. -/
namespace Go.Fv.T
open Go Go.Proofs
set_option linter.unusedSimpArgs false
set_option linter.unusedVariables false
set_option linter.unnecessarySimpa false
set_option maxRecDepth 8000

def nsOf (S : List Int) : List Nat := (S.take 12).map fun a => (bitsI .and .i64 a 7).toNat
theorem bitsI_and7 (a : Int) : 0 ≤ bitsI .and .i64 a 7 ∧ bitsI .and .i64 a 7 ≤ 7 := by
  obtain ⟨h1, h2, h3⟩ := (show 1 ≤ fitN a 7 ∧ fitN a 7 ≤ 8 ∧ 1 + bitsI .and .i64 a 7 = ((fitN a 7 : Nat) : Int) from fitN_bd a 7 (by decide))
  omega
abbrev wantR (W : List (List Int)) : RowV := .objs 1 (W.map gAv)
theorem BSt.page_W (b : BSt) : b.page.want.length ≤ b.want.length + 1 ∧ (b.cur ≠ none → b.page.want.length = b.want.length) := by
  obtain ⟨L, F, cur⟩ := b
  cases cur <;> simp [BSt.page, BSt.want]
theorem BSt.pages_W (b : BSt) : ∀ n, (b.pages n).want.length ≤ b.want.length + 1 ∧ (b.cur ≠ none ∨ 0 < n → (b.pages n).cur ≠ none) ∧ (b.cur ≠ none → (b.pages n).want.length = b.want.length)
  | 0 => ⟨Nat.le_succ _, fun h => h.elim id fun h => absurd h (by omega), fun _ => rfl⟩
  | n + 1 => by
    obtain ⟨h1, h2, h3⟩ := BSt.pages_W b n
    have hp := BSt.page_W (b.pages n)
    refine ⟨?_, fun _ => by show ((b.pages n).page).cur ≠ none; simp [BSt.page], fun h => ?_⟩
    · show ((b.pages n).page).want.length ≤ _
      by_cases hc : (b.pages n).cur = none
      · have : n = 0 := by
          refine Classical.byContradiction fun hn => h2 (.inr (by omega)) hc
        subst this
        exact hp.1
      · rw [hp.2 hc]; exact h1
    · show ((b.pages n).page).want.length = _
      rw [hp.2 (h2 (.inl h)), h3 h]
theorem BSt.pages_F (b : BSt) : ∀ n, (b.pages n).F = b.F
  | 0 => rfl
  | n + 1 => BSt.pages_F b n
theorem BSt.sep_W (keep : Bool) (b : BSt) : (b.sep keep).want.length ≤ b.want.length + 1 := by
  obtain ⟨L, F, cur⟩ := b
  unfold BSt.sep
  split <;> simp [BSt.want] <;> omega
theorem BSt.run_W (keep : Bool) (ns : List Nat) : ∀ i, (BSt.run keep ns i).want.length ≤ 2 * i
  | 0 => Nat.le_refl _
  | i + 1 => by
    have ih := BSt.run_W keep ns i
    show ((BSt.run keep ns i).step keep i (ns.getD i 0)).want.length ≤ _
    unfold BSt.step
    have h1 := (BSt.pages_W (if 0 < i then (BSt.run keep ns i).sep keep else BSt.run keep ns i) (ns.getD i 0)).1
    split at h1
    · rename_i h
      rw [if_pos h]
      have := BSt.sep_W keep (BSt.run keep ns i)
      omega
    · rename_i h
      rw [if_neg h]
      omega
def inEnv (i n j : Nat) (T : List Int) (keep : Bool) : List (Nat × AV) := [(63, .int .i64 j), (62, .int .i64 n), (29, .int .i64 i), (28, .int .i64 T.length), (27, .ro (.ints .i64 T)), (1, .bool keep), (5, .ptr 0 0), (6, .own 1), (7, .own 2), (999999, .dead)]
def inRows (b : BSt) : List (Nat × Item) := match b.cur with
  | some c => [(0, .box 28 [.int .i64 4, .int .i64 4, .ro (.bools onePg)]), (1, .row 43 (shs b.L)), (2, .row 23 (.objs 1 (b.F.map gAv ++ [[.own 3]]))), (3, .row 3 (.ints .i64 c))]
  | none => [(0, .box 28 [.int .i64 4, .int .i64 4, .ro (.bools onePg)]), (1, .row 43 (shs b.L)), (2, .row 23 (.objs 1 (b.F.map gAv ++ [[.nilS]])))]
theorem ren_gl (p : Nat → Nat) (l : List (List Int)) (x : List AV) : renR p (.objs 1 (l.map gAv ++ [x])) = .objs 1 (l.map gAv ++ [renL p x]) := by
  simp only [renR, List.map_append, List.map_cons, List.map_nil]
  rw [lall_ren p (l.map gAv) (by simp [List.all_eq_true, gAv, noIdL, noId])]
theorem below_gl {N : Nat} {l : List (List Int)} {x : List AV} (h : belowL N x = true) : belowR N (.objs 1 (l.map gAv ++ [x])) = true := by
  simp only [belowR, List.all_append, Bool.and_eq_true]
  refine ⟨?_, by simp [h]⟩
  rw [List.all_eq_true]
  intro y hy
  obtain ⟨d, _, rfl⟩ := List.mem_map.1 hy
  rfl
theorem gl_get {α : Type} {f : α → List AV} {F : List α} {x : List AV} : (F.map f ++ [x]).getD F.length [] = x := by simp [List.getD_eq_getElem?_getD]
theorem gl_set {α : Type} {f : α → List AV} {F : List α} {x y : List AV} : (F.map f ++ [x]).set F.length y = F.map f ++ [y] := by
  rw [List.set_append_right _ _ (by simp)]; simp
def BSt.CL (b : BSt) : Prop := (b.cur.getD []).length ≤ b.L.length
theorem BSt.CL.page {b : BSt} (h : b.CL) : b.page.CL := by
  obtain ⟨L, F, cur⟩ := b
  simp only [BSt.CL, BSt.page, Option.getD_some, List.length_append, List.length_cons, List.length_nil] at *
  omega
theorem BSt.CL.pages {b : BSt} (h : b.CL) : ∀ n, (b.pages n).CL
  | 0 => h
  | n + 1 => (BSt.CL.pages h n).page
theorem BSt.CL.sep (keep : Bool) (b : BSt) : (b.sep keep).CL := by
  obtain ⟨L, F, cur⟩ := b
  cases keep <;> simp [BSt.CL, BSt.sep]
set_option maxHeartbeats 8000000 in
theorem topBatch_ok (S : List Int) (keep : Bool) : FnOk Tryd.prog 4 [.ro (.ints .i64 S), .bool keep] (.bool true) [] := by
  have hl12 : (S.take 12).length = min S.length 12 := by simp [Nat.min_comm]
  have hmin : min (S.length : Int) 12 = ((min S.length 12 : Nat) : Int) := by omega
  have hsub : List.take (min S.length 12 - 0) S = S.take 12 := by
    rw [Nat.sub_zero]
    rcases Nat.le_total S.length 12 with h | h
    · rw [Nat.min_eq_left h, List.take_of_length_le (Nat.le_refl _), List.take_of_length_le h]
    · rw [Nat.min_eq_right h]
  refine FnOk.of_vc Tryd.func4 rfl (by decide) (by simp [Tryd.f4]) [.tmp 4] rfl fun w0 T0 _ => ?_
  simp only [Tryd.f4, argEnv]
  (repeat' first | with_reducible (first | refine Asm.intro fun _ => ?_ | refine Chk.g ?_ | refine AnyI.i64 fun _ _ => ?_ | refine LetW.g ?_ | refine LetW.h ?_ | refine Ite.t fun _ => ?_ | refine Ite.f fun _ => ?_ | refine Ite.decide (fun _ => ?_) fun _ => ?_ | refine Ite.bool (fun _ => ?_) fun _ => ?_ | refine And.intro ?_ ?_) | omega | simp (maxSteps := 1000000) only [go_sem, reduceCtorEq, Nat.reduceLT, Nat.reduceLeDiff, reduceIte, ↓reduceIte, Nat.reduceEqDiff, Nat.reduceAdd, Nat.reduceMul, Nat.reduceSub, Int.reduceLE, Int.reduceLT, Int.reduceNeg, Int.reduceToNat])
  refine VcCall.fr (FnFr.of_ok landedT_ok rfl rfl) (by simp only [noIdR_ok, argOkL, argOk, allOk, argOkN, List.drop_zero, lk, reduceIte, reduceCtorEq, Nat.reduceEqDiff, Option.some.injEq, Item.row.injEq, Item.box.injEq, AV.ro.injEq, exists_eq_left, exists_and_left, exists_eq_left', exists_eq_right, and_assoc, and_true, true_and, List.cons.injEq, exists_eq', exists_eq]) 0 rfl (by simp [rowsB]) ?_
  (repeat' first | with_reducible (first | refine Asm.intro fun _ => ?_ | refine Chk.g ?_ | refine AnyI.i64 fun _ _ => ?_ | refine LetW.g ?_ | refine LetW.h ?_ | refine Ite.t fun _ => ?_ | refine Ite.f fun _ => ?_ | refine Ite.decide (fun _ => ?_) fun _ => ?_ | refine Ite.bool (fun _ => ?_) fun _ => ?_ | refine And.intro ?_ ?_) | omega | simp (maxSteps := 1000000) only [go_sem, reduceCtorEq, Nat.reduceLT, Nat.reduceLeDiff, reduceIte, ↓reduceIte, Nat.reduceEqDiff, Nat.reduceAdd, Nat.reduceMul, Nat.reduceSub, Int.reduceLE, Int.reduceLT, Int.reduceNeg, Int.reduceToNat, minmax, hmin, Int.toNat_natCast, hsub])
  have hT : ∀ i, i < (S.take 12).length → (nsOf S).getD i 0 = (bitsI .and .i64 ((S.take 12).getD i 0) 7).toNat := fun i hi => by
    unfold nsOf
    rw [getD_lt (by rw [List.length_map]; exact hi), List.getElem_map, getD_lt hi]
  have hn7 : ∀ i, (nsOf S).getD i 0 ≤ 7 := fun i => by
    by_cases hi : i < (S.take 12).length
    · rw [hT i hi]
      have := bitsI_and7 ((S.take 12).getD i 0)
      omega
    · have : (nsOf S).getD i 0 = 0 := by
        rw [List.getD_eq_getElem?_getD, List.getElem?_eq_none (by unfold nsOf; rw [List.length_map]; omega)]; rfl
      omega
  have hT12 : (S.take 12).length ≤ 12 := by omega
  generalize nsOf S = ns at *
  generalize S.take 12 = T at *
  refine VcLoop.run (fun i : Nat => ⟨133, [(29, .int .i64 i), (28, .int .i64 T.length), (27, .ro (.ints .i64 T)), (1, .bool keep), (5, .ptr 0 0), (6, .own 1), (7, .own 2), (999999, .dead)], [(0, .box 28 [.int .i64 4, .int .i64 4, .ro (.bools onePg)]), (1, .row 43 (shs (BSt.run keep ns i).L)), (2, .row 23 (wantR (BSt.run keep ns i).want))], 3⟩) (fun i => i ≤ T.length) (fun i => T.length - i) 0 ?_ (Nat.zero_le _) fun i hi => ?_
  · refine Ent.trans (Ent.fz 0 (e := 4) (r := .bools onePg) rfl rfl (Nat.zero_le _)) (Ent.auto0 rfl ?_ ?_) <;> simp only [go_sem, reduceCtorEq, reduceIte, Nat.reduceEqDiff, Nat.reduceLT, Nat.reduceLeDiff, Int.natCast_succ, BSt.run, BSt.want, wantR, List.map_nil, Option.toList, List.append_nil]

  by_cases hlt : i < T.length
  · have hrun : BSt.run keep ns (i + 1) = (BSt.run keep ns i).step keep i (ns.getD i 0) := rfl
    rw [hT i hlt] at hrun
    have hbd := bitsI_and7 (T.getD i 0)
    have hinv := BInv.run keep ns i
    have hbL := BSt.run_L keep ns hn7 i
    have hbW := BSt.run_W keep ns i
    generalize hx : bitsI .and .i64 (T.getD i 0) 7 = x at *
    obtain ⟨n, rfl⟩ : ∃ n : Nat, x = n := ⟨x.toNat, by omega⟩
    rw [Int.toNat_natCast] at hrun
    generalize hbdef : BSt.run keep ns i = b at *
    have hb0 : i = 0 → b = ⟨[], [], none⟩ := fun h => by rw [← hbdef]; subst h; rfl
    clear hbdef
    have hLb : b.L.length ≤ 96 := by omega
    have hWb : b.want.length ≤ 24 := by omega
    have hend : BSt.run keep ns (i + 1) = (if 0 < i then b.sep keep else b).pages n := hrun
    have hsL := BSt.sep_L keep b
    have hsF : (b.sep keep).F = b.want := by unfold BSt.sep; split <;> rfl
    generalize hWd : b.want = Wt at *
    refine VcRun.of ?_
    by_cases h0 : 0 < i
    cases keep
    case' pos.true =>
      rw [if_pos h0] at hend
      have hF1 : (b.sep true).F.length ≤ 24 := by rw [hsF]; exact hWb
      (repeat' first | with_reducible (first | refine Asm.intro fun _ => ?_ | refine Chk.g ?_ | refine AnyI.i64 fun _ _ => ?_ | refine LetW.g ?_ | refine LetW.h ?_ | refine Ite.t fun _ => ?_ | refine Ite.f fun _ => ?_ | refine Ite.decide (fun _ => ?_) fun _ => ?_ | refine Ite.bool (fun _ => ?_) fun _ => ?_ | refine And.intro ?_ ?_) | omega | simp (maxSteps := 1000000) only [go_sem, reduceCtorEq, Nat.reduceLT, Nat.reduceLeDiff, reduceIte, ↓reduceIte, Nat.reduceEqDiff, Nat.reduceAdd, Nat.reduceMul, Nat.reduceSub, Int.reduceLE, Int.reduceLT, Int.reduceNeg, Int.reduceToNat, hx, List.length_map, Bool.or_true])
      case' pos.true.refine_1 =>
        obtain rfl : n = 0 := by omega
        refine ⟨i + 1, ?_, by omega, by omega⟩
        rw [hend]
        refine Ent.trans (Ent.fz 6 (e := 9) (r := .strs [[120], [83, 69, 80, 45, 49]]) rfl rfl (Nat.zero_le _)) (Ent.trans (Ent.fz 3 (e := 3) (r := .ints .i64 [(b.L.length : Int)]) rfl rfl (Nat.zero_le _)) (Ent.of [(1, 8), (2, 5)] rfl (Nat.zero_le _) (by simp) ?_ ?_))
        · simp only [go_sem, reduceCtorEq, reduceIte, Nat.reduceEqDiff, Nat.reduceLT, Nat.reduceLeDiff, Int.natCast_succ]
        · simp only [go_sem, reduceCtorEq, reduceIte, Nat.reduceEqDiff, Nat.reduceLT, Nat.reduceLeDiff, Int.natCast_succ, BSt.pages, BSt.sep, BSt.want]
          rw [show b.F ++ b.cur.toList = Wt from hWd]
          refine ⟨?_, ?_⟩ <;> simp only [List.map_append, List.map_map] <;> rfl
      refine VcLoop.run (fun j : Nat => ⟨133, inEnv i n j T true, inRows ((b.sep true).pages j), 4⟩) (fun j => j ≤ n) (fun j => n - j) 0 (by
        refine Ent.trans (Ent.fz 6 (e := 9) (r := .strs [[120], [83, 69, 80, 45, 49]]) rfl rfl (Nat.zero_le _)) (Ent.of [(1, 8), (2, 5)] (s' := ⟨133, inEnv i n 0 T true, inRows (b.sep true), 4⟩) rfl (Nat.zero_le _) (by simp) ?_ ?_)
        · unfold inEnv
          simp only [go_sem, reduceCtorEq, reduceIte, Nat.reduceEqDiff, Nat.reduceLT, Nat.reduceLeDiff, Int.natCast_succ]
        · unfold inRows BSt.sep
          simp only [go_sem, reduceCtorEq, reduceIte, Nat.reduceEqDiff, Nat.reduceLT, Nat.reduceLeDiff, Int.natCast_succ, hWd]
          refine ⟨?_, ?_, below_gl (by decide)⟩
          · rw [List.map_append, List.map_append, List.map_map]
            rfl
          · rw [ren_gl, List.map_append, List.map_map]
            rfl) (Nat.zero_le _) fun j hj => ?_
      have hL1 : (b.sep true).L.length ≤ 97 := by omega
      have hC1 := BSt.CL.sep true b
      generalize b.sep true = b1 at *
    case' pos.false =>
      rw [if_pos h0] at hend
      have hF1 : (b.sep false).F.length ≤ 24 := by rw [hsF]; exact hWb
      (repeat' first | with_reducible (first | refine Asm.intro fun _ => ?_ | refine Chk.g ?_ | refine AnyI.i64 fun _ _ => ?_ | refine LetW.g ?_ | refine LetW.h ?_ | refine Ite.t fun _ => ?_ | refine Ite.f fun _ => ?_ | refine Ite.decide (fun _ => ?_) fun _ => ?_ | refine Ite.bool (fun _ => ?_) fun _ => ?_ | refine And.intro ?_ ?_) | omega | simp (maxSteps := 1000000) only [go_sem, reduceCtorEq, Nat.reduceLT, Nat.reduceLeDiff, reduceIte, ↓reduceIte, Nat.reduceEqDiff, Nat.reduceAdd, Nat.reduceMul, Nat.reduceSub, Int.reduceLE, Int.reduceLT, Int.reduceNeg, Int.reduceToNat, hx, List.length_map, Bool.or_true])
      case' pos.false.refine_1 =>
        obtain rfl : n = 0 := by omega
        refine ⟨i + 1, ?_, by omega, by omega⟩
        rw [hend]
        refine Ent.trans (Ent.fz 3 (e := 9) (r := .strs [[120], [83, 69, 80, 45, 49]]) rfl rfl (Nat.zero_le _)) (Ent.of [(1, 5)] rfl (Nat.zero_le _) (by simp) ?_ ?_)
        · simp only [go_sem, reduceCtorEq, reduceIte, Nat.reduceEqDiff, Nat.reduceLT, Nat.reduceLeDiff, Int.natCast_succ]
        · simp only [go_sem, reduceCtorEq, reduceIte, Nat.reduceEqDiff, Nat.reduceLT, Nat.reduceLeDiff, Int.natCast_succ, BSt.pages, BSt.sep, BSt.want]
          rw [show b.F ++ b.cur.toList = Wt from hWd]
          refine ⟨?_, ?_⟩ <;> simp only [List.map_append, List.map_map] <;> rfl
      refine VcLoop.run (fun j : Nat => ⟨133, inEnv i n j T false, inRows ((b.sep false).pages j), 4⟩) (fun j => j ≤ n) (fun j => n - j) 0 (by
        refine Ent.trans (Ent.fz 3 (e := 9) (r := .strs [[120], [83, 69, 80, 45, 49]]) rfl rfl (Nat.zero_le _)) (Ent.of [(1, 5), (2, 7)] (s' := ⟨133, inEnv i n 0 T false, inRows (b.sep false), 4⟩) rfl (Nat.zero_le _) (by simp) ?_ ?_)
        · unfold inEnv
          simp only [go_sem, reduceCtorEq, reduceIte, Nat.reduceEqDiff, Nat.reduceLT, Nat.reduceLeDiff, Int.natCast_succ]
        · unfold inRows BSt.sep
          simp only [go_sem, reduceCtorEq, reduceIte, Nat.reduceEqDiff, Nat.reduceLT, Nat.reduceLeDiff, Int.natCast_succ, hWd]
          refine ⟨?_, ?_⟩
          · rw [List.map_append, List.map_append, List.map_map]
            rfl
          · rw [List.map_append, List.map_map]
            rfl) (Nat.zero_le _) fun j hj => ?_
      have hL1 : (b.sep false).L.length ≤ 97 := by omega
      have hC1 := BSt.CL.sep false b
      generalize b.sep false = b1 at *
    case' neg =>
      rw [if_neg h0] at hend
      obtain rfl : i = 0 := by omega
      have hb := hb0 rfl
      subst hb
      (repeat' first | with_reducible (first | refine Asm.intro fun _ => ?_ | refine Chk.g ?_ | refine AnyI.i64 fun _ _ => ?_ | refine LetW.g ?_ | refine LetW.h ?_ | refine Ite.t fun _ => ?_ | refine Ite.f fun _ => ?_ | refine Ite.decide (fun _ => ?_) fun _ => ?_ | refine Ite.bool (fun _ => ?_) fun _ => ?_ | refine And.intro ?_ ?_) | omega | simp (maxSteps := 1000000) only [go_sem, reduceCtorEq, Nat.reduceLT, Nat.reduceLeDiff, reduceIte, ↓reduceIte, Nat.reduceEqDiff, Nat.reduceAdd, Nat.reduceMul, Nat.reduceSub, Int.reduceLE, Int.reduceLT, Int.reduceNeg, Int.reduceToNat, hx, List.length_map, Bool.true_or])
      case' neg.refine_1 =>
        obtain rfl : n = 0 := by omega
        subst hWd
        refine ⟨0 + 1, ?_, by omega, by omega⟩
        rw [hend]
        refine Ent.auto0 rfl ?_ ?_ <;> simp only [go_sem, reduceCtorEq, reduceIte, Nat.reduceEqDiff, Nat.reduceLT, Nat.reduceLeDiff, Int.natCast_succ, BSt.pages, BSt.want, Option.toList, List.append_nil]

      subst hWd
      refine VcLoop.run (fun j : Nat => ⟨133, inEnv 0 n j T keep, inRows ((⟨[], [], none⟩ : BSt).pages j), 4⟩) (fun j => j ≤ n) (fun j => n - j) 0 (by
        unfold inEnv inRows
        refine Ent.auto0 rfl ?_ ?_ <;> simp only [go_sem, reduceCtorEq, reduceIte, Nat.reduceEqDiff, Nat.reduceLT, Nat.reduceLeDiff, Int.natCast_succ, BSt.pages, BSt.want, Option.toList, List.append_nil]) (Nat.zero_le _) fun j hj => ?_
      have hL1 : (⟨[], [], none⟩ : BSt).L.length ≤ 97 := by simp
      have hF1 : (⟨[], [], none⟩ : BSt).F.length ≤ 24 := by simp
      have hC1 : (⟨[], [], none⟩ : BSt).CL := Nat.le_refl _
      generalize (⟨[], [], none⟩ : BSt) = b1 at *
    all_goals
      have hp := BSt.pages_L b1 j
      have hpF := BSt.pages_F b1 j
      have hpC := BSt.CL.pages hC1 j
      have hpN := (BSt.pages_W b1 j).2.1
      have hsucc : b1.pages (j + 1) = (b1.pages j).page := rfl
      by_cases hjn : j < n
      · generalize b1.pages j = b2 at *
        obtain ⟨L2, F2, cur2⟩ := b2
        dsimp only at hp hpF
        refine VcRun.of ?_
        have e1 := last_idx F2.length
        have hF2 : F2.length ≤ 24 := by rw [hpF]; exact hF1
        have hL2 : L2.length ≤ 104 := by omega
        cases cur2 with
        | none =>
          unfold inRows inEnv
          (repeat' first | with_reducible (first | refine Asm.intro fun _ => ?_ | refine Chk.g ?_ | refine AnyI.i64 fun _ _ => ?_ | refine LetW.g ?_ | refine LetW.h ?_ | refine Ite.t fun _ => ?_ | refine Ite.f fun _ => ?_ | refine Ite.decide (fun _ => ?_) fun _ => ?_ | refine Ite.bool (fun _ => ?_) fun _ => ?_ | refine And.intro ?_ ?_) | omega | simp (maxSteps := 1000000) only [go_sem, reduceCtorEq, Nat.reduceLT, Nat.reduceLeDiff, reduceIte, ↓reduceIte, Nat.reduceEqDiff, Nat.reduceAdd, Nat.reduceMul, Nat.reduceSub, Int.reduceLE, Int.reduceLT, Int.reduceNeg, Int.reduceToNat, List.length_map, e1, gl_get, gl_set])
          refine ⟨j + 1, ?_, by omega, by omega⟩
          rw [hsucc]
          unfold BSt.page
          dsimp only [Option.getD]
          refine Ent.trans (Ent.fz 7 (e := 9) (r := .strs [[112, 97, 103, 101]]) rfl rfl (Nat.zero_le _)) (Ent.of [(1, 9), (3, 6)] rfl (Nat.zero_le _) (by simp) ?_ ?_)
          · simp only [go_sem, reduceCtorEq, reduceIte, Nat.reduceEqDiff, Nat.reduceLT, Nat.reduceLeDiff, Int.natCast_succ]
          · simp only [go_sem, reduceCtorEq, reduceIte, Nat.reduceEqDiff, Nat.reduceLT, Nat.reduceLeDiff, Int.natCast_succ, List.nil_append]
            refine ⟨?_, ?_, below_gl (by decide)⟩
            · rw [List.map_append, List.map_append, List.map_map]
              rfl
            · rw [ren_gl, List.map_append, List.map_map]
              rfl
        | some c =>
          have hc : c.length ≤ L2.length := hpC
          unfold inRows inEnv
          (repeat' first | with_reducible (first | refine Asm.intro fun _ => ?_ | refine Chk.g ?_ | refine AnyI.i64 fun _ _ => ?_ | refine LetW.g ?_ | refine LetW.h ?_ | refine Ite.t fun _ => ?_ | refine Ite.f fun _ => ?_ | refine Ite.decide (fun _ => ?_) fun _ => ?_ | refine Ite.bool (fun _ => ?_) fun _ => ?_ | refine And.intro ?_ ?_) | omega | simp (maxSteps := 1000000) only [go_sem, reduceCtorEq, Nat.reduceLT, Nat.reduceLeDiff, reduceIte, ↓reduceIte, Nat.reduceEqDiff, Nat.reduceAdd, Nat.reduceMul, Nat.reduceSub, Int.reduceLE, Int.reduceLT, Int.reduceNeg, Int.reduceToNat, List.length_map, e1, gl_get, gl_set])
          refine ⟨j + 1, ?_, by omega, by omega⟩
          rw [hsucc]
          unfold BSt.page
          dsimp only [Option.getD]
          refine Ent.trans (Ent.fz 6 (e := 9) (r := .strs [[112, 97, 103, 101]]) rfl rfl (Nat.zero_le _)) (Ent.of [(1, 8), (3, 5)] rfl (Nat.zero_le _) (by simp) ?_ ?_)
          · simp only [go_sem, reduceCtorEq, reduceIte, Nat.reduceEqDiff, Nat.reduceLT, Nat.reduceLeDiff, Int.natCast_succ]
          · simp only [go_sem, reduceCtorEq, reduceIte, Nat.reduceEqDiff, Nat.reduceLT, Nat.reduceLeDiff, Int.natCast_succ]
            refine ⟨?_, ?_, below_gl (by decide)⟩
            · rw [List.map_append, List.map_append, List.map_map]
              rfl
            · rw [ren_gl, List.map_append, List.map_map]
              rfl
      · have hjn' : j = n := by omega
        subst hjn'
        refine VcRun.of ?_
        have hj0 : 0 < j := by omega
        replace hpN := hpN (.inr hj0)
        generalize b1.pages j = b2 at *
        obtain ⟨L2, F2, cur2⟩ := b2
        cases cur2 with
        | none => exact absurd rfl hpN
        | some c =>
          unfold inRows inEnv
          (repeat' first | with_reducible (first | refine Asm.intro fun _ => ?_ | refine Chk.g ?_ | refine AnyI.i64 fun _ _ => ?_ | refine LetW.g ?_ | refine LetW.h ?_ | refine Ite.t fun _ => ?_ | refine Ite.f fun _ => ?_ | refine Ite.decide (fun _ => ?_) fun _ => ?_ | refine Ite.bool (fun _ => ?_) fun _ => ?_ | refine And.intro ?_ ?_) | omega | simp (maxSteps := 1000000) only [go_sem, reduceCtorEq, Nat.reduceLT, Nat.reduceLeDiff, reduceIte, ↓reduceIte, Nat.reduceEqDiff, Nat.reduceAdd, Nat.reduceMul, Nat.reduceSub, Int.reduceLE, Int.reduceLT, Int.reduceNeg, Int.reduceToNat])
          first
          | refine ⟨i + 1, ?_, by omega, by omega⟩
          | refine ⟨0 + 1, ?_, by omega, by omega⟩
          rw [hend]
          refine Ent.trans (Ent.fz 3 (e := 3) (r := .ints .i64 c) rfl rfl (Nat.zero_le _)) (Ent.auto0 rfl ?_ ?_)
          · simp only [go_sem, reduceCtorEq, reduceIte, Nat.reduceEqDiff, Nat.reduceLT, Nat.reduceLeDiff, Int.natCast_succ]
          · simp only [go_sem, reduceCtorEq, reduceIte, Nat.reduceEqDiff, Nat.reduceLT, Nat.reduceLeDiff, Int.natCast_succ, BSt.want, wantR, Option.toList, fzR_ok]
            refine ⟨?_, ?_⟩ <;> simp only [List.map_append, List.map_map] <;> rfl
  · have hiT : i = T.length := by omega
    subst hiT
    have hinv := BInv.run keep ns T.length
    have hbL := BSt.run_L keep ns hn7 T.length
    have hbW := BSt.run_W keep ns T.length
    obtain ⟨hd1, hd2⟩ := hinv.docs (by omega)
    have he1 := hinv.err (by omega)
    generalize BSt.run keep ns T.length = b at *
    have k1 := splitF_ok b.L (bw keep) (by intro r hr; cases hr)
    generalize splL b.L (bw keep) = lf at *
    rw [hd1, he1] at k1
    generalize b.want = W at *
    have hkl : (keep && decide (0 < (lf.length : Int))) = false := by
      cases keep with
      | false => rfl
      | true => rw [hd2 rfl]; rfl
    refine VcRun.ent (Ent.trans (Ent.fz 1 (e := 43) (r := shs b.L) rfl (noIdR_ok _) (Nat.zero_le _)) (Ent.fz 2 (e := 23) (r := wantR W) (by simp [Go.Fv.S.fz, fzRows, lk, fzI, wantR, fzR_ok]) (noIdR_ok _) (Nat.zero_le _))) (VcRun.of ?_)
    simp only [Go.Fv.S.fz, fzE, fzRows, fzI, Fv.fz, fzL, fzR_ok, reduceIte, Nat.reduceEqDiff]
    (repeat' first | with_reducible (first | refine Asm.intro fun _ => ?_ | refine Chk.g ?_ | refine AnyI.i64 fun _ _ => ?_ | refine LetW.g ?_ | refine LetW.h ?_ | refine Ite.t fun _ => ?_ | refine Ite.f fun _ => ?_ | refine Ite.decide (fun _ => ?_) fun _ => ?_ | refine Ite.bool (fun _ => ?_) fun _ => ?_ | refine And.intro ?_ ?_) | omega | simp (maxSteps := 1000000) only [go_sem, reduceCtorEq, Nat.reduceLT, Nat.reduceLeDiff, reduceIte, ↓reduceIte, Nat.reduceEqDiff, Nat.reduceAdd, Nat.reduceMul, Nat.reduceSub, Int.reduceLE, Int.reduceLT, Int.reduceNeg, Int.reduceToNat, List.length_map])
    dsimp only [bw, Wy.av, rus, List.map_nil] at k1
    refine VcCall.ros (.tup [.ro (dcs (W.map (Dc.mk []))), .ro (.ints .i64 lf), .int .i64 0]) k1 (by simp only [noIdR_ok, argOkL, argOk, allOk, argOkN, List.drop_zero, lk, reduceIte, reduceCtorEq, Nat.reduceEqDiff, Option.some.injEq, Item.row.injEq, Item.box.injEq, AV.ro.injEq, exists_eq_left, exists_and_left, exists_eq_left', exists_eq_right, and_assoc, and_true, true_and, List.cons.injEq, exists_eq', exists_eq]; simp [nilRow]) (by simp [outOk, argOkL, allOk, argOk, argOkN, lk, noIdR_ok]) rfl ?_
    (repeat' first | with_reducible (first | refine Asm.intro fun _ => ?_ | refine Chk.g ?_ | refine AnyI.i64 fun _ _ => ?_ | refine LetW.g ?_ | refine LetW.h ?_ | refine Ite.t fun _ => ?_ | refine Ite.f fun _ => ?_ | refine Ite.decide (fun _ => ?_) fun _ => ?_ | refine Ite.bool (fun _ => ?_) fun _ => ?_ | refine And.intro ?_ ?_) | omega | simp (maxSteps := 1000000) only [go_sem, reduceCtorEq, Nat.reduceLT, Nat.reduceLeDiff, reduceIte, ↓reduceIte, Nat.reduceEqDiff, Nat.reduceAdd, Nat.reduceMul, Nat.reduceSub, Int.reduceLE, Int.reduceLT, Int.reduceNeg, Int.reduceToNat, List.length_map, hkl])
    have hW24 : W.length ≤ 24 := by omega
    refine VcLoop.intro (fun i : Nat => ⟨133, [(114, .int .i64 i), (113, .int .i64 W.length), (112, .ro (dcs (W.map (Dc.mk [])))), (7, .ro (wantR W))], [], 0⟩) (fun i => i ≤ W.length) (fun i => W.length - i) 0 ?_ (Nat.zero_le _) fun i hi => ?_
    · refine Ent.auto0 rfl ?_ ?_ <;> simp only [go_sem, reduceCtorEq, reduceIte, Nat.reduceEqDiff, Nat.reduceLT, Nat.reduceLeDiff, Int.natCast_succ]
      all_goals simp
    by_cases hlt : i < W.length
    · have hel := dc_elem (W.map (Dc.mk [])) (i := i) (by rw [List.length_map]; exact hlt)
      have hel2 : (W.map (Dc.mk [])).getD i Dc.zero = ⟨[], W.getD i []⟩ := by
        simp [List.getD_eq_getElem?_getD, hlt]
      rw [hel2] at hel
      have hgl := g_elem W hlt
      have s1 := eqInts_ok (W.getD i []) (W.getD i [])
      rw [decide_eq_true rfl] at s1
      generalize W.getD i [] = q at *
      (repeat' first | with_reducible (first | refine Asm.intro fun _ => ?_ | refine Chk.g ?_ | refine AnyI.i64 fun _ _ => ?_ | refine LetW.g ?_ | refine LetW.h ?_ | refine Ite.t fun _ => ?_ | refine Ite.f fun _ => ?_ | refine Ite.decide (fun _ => ?_) fun _ => ?_ | refine Ite.bool (fun _ => ?_) fun _ => ?_ | refine And.intro ?_ ?_) | omega | simp (maxSteps := 1000000) only [go_sem, reduceCtorEq, Nat.reduceLT, Nat.reduceLeDiff, reduceIte, ↓reduceIte, Nat.reduceEqDiff, Nat.reduceAdd, Nat.reduceMul, Nat.reduceSub, Int.reduceLE, Int.reduceLT, Int.reduceNeg, Int.reduceToNat, elemA, hel, hgl, List.length_map])
      refine VcDraw.lex [] [] (by kernel_rfl) (by kernel_rfl) ?_
      (repeat' first | with_reducible (first | refine Asm.intro fun _ => ?_ | refine Chk.g ?_ | refine AnyI.i64 fun _ _ => ?_ | refine LetW.g ?_ | refine LetW.h ?_ | refine Ite.t fun _ => ?_ | refine Ite.f fun _ => ?_ | refine Ite.decide (fun _ => ?_) fun _ => ?_ | refine Ite.bool (fun _ => ?_) fun _ => ?_ | refine And.intro ?_ ?_) | omega | simp (maxSteps := 1000000) only [go_sem, reduceCtorEq, Nat.reduceLT, Nat.reduceLeDiff, reduceIte, ↓reduceIte, Nat.reduceEqDiff, Nat.reduceAdd, Nat.reduceMul, Nat.reduceSub, Int.reduceLE, Int.reduceLT, Int.reduceNeg, Int.reduceToNat, elemA, hel, hgl, List.length_map])
      (refine QV.intro (.bool true) ?_ ?_; focus ((repeat' first | with_reducible (first | refine Asm.intro fun _ => ?_ | refine Chk.g ?_ | refine AnyI.i64 fun _ _ => ?_ | refine LetW.g ?_ | refine LetW.h ?_ | refine Ite.t fun _ => ?_ | refine Ite.f fun _ => ?_ | refine Ite.decide (fun _ => ?_) fun _ => ?_ | refine Ite.bool (fun _ => ?_) fun _ => ?_ | refine And.intro ?_ ?_) | omega | simp (maxSteps := 1000000) only [go_sem, reduceCtorEq, Nat.reduceLT, Nat.reduceLeDiff, reduceIte, ↓reduceIte, Nat.reduceEqDiff, Nat.reduceAdd, Nat.reduceMul, Nat.reduceSub, Int.reduceLE, Int.reduceLT, Int.reduceNeg, Int.reduceToNat]); refine VcCall.fr (FnFr.of_ok (s1) rfl rfl) (by simp only [noIdR_ok, argOkL, argOk, allOk, argOkN, List.drop_zero, lk, reduceIte, reduceCtorEq, Nat.reduceEqDiff, Option.some.injEq, Item.row.injEq, Item.box.injEq, AV.ro.injEq, exists_eq_left, exists_and_left, exists_eq_left', exists_eq_right, and_assoc, and_true, true_and, List.cons.injEq, exists_eq', exists_eq]) 0 rfl (by simp [rowsB]) ?_; (repeat' first | with_reducible (first | refine Asm.intro fun _ => ?_ | refine Chk.g ?_ | refine AnyI.i64 fun _ _ => ?_ | refine LetW.g ?_ | refine LetW.h ?_ | refine Ite.t fun _ => ?_ | refine Ite.f fun _ => ?_ | refine Ite.decide (fun _ => ?_) fun _ => ?_ | refine Ite.bool (fun _ => ?_) fun _ => ?_ | refine And.intro ?_ ?_) | omega | simp (maxSteps := 1000000) only [go_sem, reduceCtorEq, Nat.reduceLT, Nat.reduceLeDiff, reduceIte, ↓reduceIte, Nat.reduceEqDiff, Nat.reduceAdd, Nat.reduceMul, Nat.reduceSub, Int.reduceLE, Int.reduceLT, Int.reduceNeg, Int.reduceToNat])))
      (repeat' first | with_reducible (first | refine Asm.intro fun _ => ?_ | refine Chk.g ?_ | refine AnyI.i64 fun _ _ => ?_ | refine LetW.g ?_ | refine LetW.h ?_ | refine Ite.t fun _ => ?_ | refine Ite.f fun _ => ?_ | refine Ite.decide (fun _ => ?_) fun _ => ?_ | refine Ite.bool (fun _ => ?_) fun _ => ?_ | refine And.intro ?_ ?_) | omega | simp (maxSteps := 1000000) only [go_sem, reduceCtorEq, Nat.reduceLT, Nat.reduceLeDiff, reduceIte, ↓reduceIte, Nat.reduceEqDiff, Nat.reduceAdd, Nat.reduceMul, Nat.reduceSub, Int.reduceLE, Int.reduceLT, Int.reduceNeg, Int.reduceToNat])
      refine ⟨i + 1, Ent.auto0 rfl ?_ ?_, by omega, by omega⟩ <;> simp only [go_sem, reduceCtorEq, reduceIte, Nat.reduceEqDiff, Nat.reduceLT, Nat.reduceLeDiff, Int.natCast_succ]
    · (repeat' first | with_reducible (first | refine Asm.intro fun _ => ?_ | refine Chk.g ?_ | refine AnyI.i64 fun _ _ => ?_ | refine LetW.g ?_ | refine LetW.h ?_ | refine Ite.t fun _ => ?_ | refine Ite.f fun _ => ?_ | refine Ite.decide (fun _ => ?_) fun _ => ?_ | refine Ite.bool (fun _ => ?_) fun _ => ?_ | refine And.intro ?_ ?_) | omega | simp (maxSteps := 1000000) only [go_sem, reduceCtorEq, Nat.reduceLT, Nat.reduceLeDiff, reduceIte, ↓reduceIte, Nat.reduceEqDiff, Nat.reduceAdd, Nat.reduceMul, Nat.reduceSub, Int.reduceLE, Int.reduceLT, Int.reduceNeg, Int.reduceToNat])
      refine Ret.auto 0 ?_ rfl ?_ <;> simp only [go_sem, reduceCtorEq, reduceIte, Nat.reduceEqDiff, Nat.reduceLT, Nat.reduceLeDiff, Int.natCast_succ, Post]
end Go.Fv.T
