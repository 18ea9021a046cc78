/-
  A part of the proof of the claim: walks over the program's functions and the plain laws that these need. No condition of its own.
-/
import Derived.Test.YtodlgmmbfbiilaaDoorGLinesCardPart3
import Derived.Test.YtodlgmmbfbiilaaDoorFvPart10
import Derived.Test.YtodlgmmbfbiilaaDoorGLinesCardPart2
import Derived.Test.YtodlgmmbfbiilaaDoorGLinesCardPart1
/- strings.Trim at any set of small letters; IsName. -/
namespace Go.Fv.G
open Go Go.Proofs
set_option linter.unusedSimpArgs false
set_option linter.unusedVariables false
set_option linter.unnecessarySimpa false
set_option maxRecDepth 8000

def endOff (p : UInt8 → Bool) (s : List UInt8) : List UInt8 := (s.reverse.dropWhile p).reverse
def inCut (cut : List UInt8) (c : UInt8) : Bool := decide (c ∈ cut)
theorem asciiAt_get (s : List UInt8) (c : UInt8) : ∀ i, i ≤ s.length → (asciiAt s i).getD c.toNat false = decide (c ∈ s.take i)
  | 0, _ => by
    have h : c.toNat < 256 := c.toNat_lt
    rw [List.take_zero]
    show (List.replicate 256 false).getD c.toNat false = _
    rw [List.getD_eq_getElem?_getD, List.getElem?_replicate, if_pos h]
    simp
  | i + 1, h => by
    have ih := asciiAt_get s c i (by omega)
    have hlen := asciiAt_len s i
    have hlt : i < s.length := by omega
    have hc := c.toNat_lt
    have htk := List.take_succ_eq_append_getElem hlt
    rw [htk]
    simp only [asciiAt, List.getD_eq_getElem?_getD] at ih ⊢
    rw [List.getElem?_set]
    have e : s[i]?.getD 0 = s[i] := by simp [hlt]
    rw [e]
    by_cases hq : s[i].toNat = c.toNat
    · have hq2 : s[i] = c := UInt8.toNat_inj.1 hq
      rw [if_pos hq, if_pos (by rw [hlen]; omega)]
      simp [hq2]
    · rw [if_neg hq, ih]
      have hq2 : ¬ c = s[i] := fun h => hq (by rw [h])
      rw [Bool.eq_iff_iff, decide_eq_true_eq, decide_eq_true_eq, List.mem_append, List.mem_singleton]
      exact ⟨.inl, fun h => h.elim id fun h => absurd h hq2⟩
theorem last_of2 {s : List UInt8} (h0 : 0 < s.length) : s = s.take (s.length - 1) ++ [s.getD (s.length - 1) 0] := by
  rw [getD_lt (by omega), List.take_append_getElem (by omega), List.take_of_length_le (by omega)]
theorem endOff_snoc (p : UInt8 → Bool) (t : List UInt8) (c : UInt8) : endOff p (t ++ [c]) = if p c = true then endOff p t else t ++ [c] := by
  unfold endOff
  rw [List.reverse_append, List.reverse_singleton, List.singleton_append, List.dropWhile_cons]
  split <;> simp_all
theorem endOff_y {p : UInt8 → Bool} {s : List UInt8} (h0 : 0 < s.length) (h : p (s.getD (s.length - 1) 0) = true) : endOff p (s.take (s.length - 1)) = endOff p s := by
  conv => rhs; rw [last_of2 h0, endOff_snoc, if_pos h]
theorem endOff_n {p : UInt8 → Bool} {s : List UInt8} (h : 0 < s.length → p (s.getD (s.length - 1) 0) = false) : endOff p s = s := by
  by_cases h0 : 0 < s.length
  · conv => lhs; rw [last_of2 h0, endOff_snoc, if_neg (by rw [h h0]; decide)]
    exact (last_of2 h0).symm
  · have : s = [] := List.eq_nil_of_length_eq_zero (by omega)
    subst this; rfl
theorem dropW_y {p : UInt8 → Bool} {s : List UInt8} (h0 : 0 < s.length) (h : p (s.getD 0 0) = true) : (s.drop 1).dropWhile p = s.dropWhile p := by
  cases s with
  | nil => simp at h0
  | cons c t =>
    have h' : p c = true := h
    rw [List.dropWhile_cons, if_pos h']; rfl
theorem dropW_n {p : UInt8 → Bool} {s : List UInt8} (h : 0 < s.length → p (s.getD 0 0) = false) : s.dropWhile p = s := by
  cases s with
  | nil => rfl
  | cons c t => rw [List.dropWhile_cons, if_neg (by have := h (by simp); rw [show (c :: t).getD 0 0 = c from rfl] at this; rw [this]; decide)]
theorem dropW_nil {p : UInt8 → Bool} : ∀ {s : List UInt8}, s.dropWhile p = [] ↔ s.all p = true
  | [] => by simp
  | c :: t => by
    rw [List.dropWhile_cons, List.all_cons]
    cases h : p c with
    | true => simpa using dropW_nil
    | false => simp
theorem trim_nil (p : UInt8 → Bool) (s : List UInt8) : (endOff p s).dropWhile p = [] ↔ s.all p = true := by
  rw [dropW_nil]
  unfold endOff
  rw [List.all_reverse, ← dropW_nil]
  have hd : (s.reverse.dropWhile p).dropWhile p = s.reverse.dropWhile p := by
    generalize s.reverse = t
    induction t with
    | nil => rfl
    | cons c t ih =>
      rw [List.dropWhile_cons]
      cases h : p c with
      | true => simpa using ih
      | false => simp [List.dropWhile_cons, h]
  rw [hd, dropW_nil, List.all_reverse]
theorem containsU_ok (tab : List Bool) (hl : tab.length = 256) (c : UInt8) : FnOk Tryd.prog 54 [.cell (tab.map .bool), .int .u8 c.toNat] (.bool (tab.getD c.toNat false)) [] := by
  have h := contains_ok tab c.toNat hl (by omega) (by have := c.toNat_lt; omega)
  rwa [Int.toNat_natCast] at h

set_option maxHeartbeats 1000000 in
theorem trimLeftA_ok (tab : List Bool) (hl : tab.length = 256) (p : UInt8 → Bool) (hp : ∀ c : UInt8, tab.getD c.toNat false = p c) (s : List UInt8) :
    FnOk Tryd.prog 34 [.str s, .cell (tab.map .bool)] (.str (s.dropWhile p)) [] := by
  refine FnOk.of_vc Tryd.func34 rfl (by decide) (by simp [Tryd.f34]) [.tmp 4] rfl fun w0 T0 _ => ?_
  simp only [Tryd.f34, argEnv]
  (repeat' first | with_reducible (first | intro _ | refine rc ?_ | refine rl ?_ | refine rh ?_ | refine ru ?_ | refine rt ?_ | refine rf ?_ | refine rs ?_ | refine And.intro ?_ ?_) | omega | simp (maxSteps := 1000000) only [go_sem, reduceCtorEq, Nat.reduceLT, Nat.reduceLeDiff, reduceIte, ↓reduceIte, Nat.reduceEqDiff, Nat.reduceAdd, Nat.reduceMul, Nat.reduceSub, Int.reduceLE, Int.reduceLT, Int.reduceNeg, Int.reduceToNat])
  refine VcLoop.intro (fun t : List UInt8 => ⟨16, [(0, .str t), (1, .cell (tab.map .bool))], [], 0⟩) (fun t => t.dropWhile p = s.dropWhile p) (fun t => t.length) s ?_ rfl fun t he => ?_
  · refine Ent.auto0 rfl ?_ ?_ <;> simp only [go_sem, reduceCtorEq, reduceIte, Nat.reduceEqDiff, Nat.reduceLT, Nat.reduceLeDiff, Int.natCast_succ]
  (repeat' first | with_reducible (first | intro _ | refine rc ?_ | refine rl ?_ | refine rh ?_ | refine ru ?_ | refine rt ?_ | refine rf ?_ | refine rs ?_ | refine And.intro ?_ ?_) | omega | simp (maxSteps := 1000000) only [go_sem, reduceCtorEq, Nat.reduceLT, Nat.reduceLeDiff, reduceIte, ↓reduceIte, Nat.reduceEqDiff, Nat.reduceAdd, Nat.reduceMul, Nat.reduceSub, Int.reduceLE, Int.reduceLT, Int.reduceNeg, Int.reduceToNat])
  · have k := containsU_ok tab hl (t.getD 0 0)
    rw [hp] at k
    refine VcCall.fr (args' := [.cell (tab.map .bool), .int .u8 (t.getD 0 0).toNat]) (FnFr.of_ok k rfl rfl) (by simp [argOkL, allOk, argOkN]) 0 rfl (by simp [rowsB]) ?_
    cases hq : p (t.getD 0 0) with
    | true =>
      (repeat' first | with_reducible (first | intro _ | refine rc ?_ | refine rl ?_ | refine rh ?_ | refine ru ?_ | refine rt ?_ | refine rf ?_ | refine rs ?_ | refine And.intro ?_ ?_) | omega | simp (maxSteps := 1000000) only [go_sem, reduceCtorEq, Nat.reduceLT, Nat.reduceLeDiff, reduceIte, ↓reduceIte, Nat.reduceEqDiff, Nat.reduceAdd, Nat.reduceMul, Nat.reduceSub, Int.reduceLE, Int.reduceLT, Int.reduceNeg, Int.reduceToNat])
      refine ⟨t.drop 1, Ent.auto0 rfl ?_ ?_, ?_, ?_⟩
      · simp only [go_sem, reduceCtorEq, reduceIte, Nat.reduceEqDiff, Nat.reduceLT, Nat.reduceLeDiff, Int.natCast_succ]
        all_goals first | rfl | exact List.take_of_length_le (by simp)
      · simp only [go_sem, reduceCtorEq, reduceIte, Nat.reduceEqDiff, Nat.reduceLT, Nat.reduceLeDiff, Int.natCast_succ]
      · rw [dropW_y (by omega) hq]; exact he
      · simp; omega
    | false =>
      have e : t = s.dropWhile p := by rw [← he, dropW_n (fun _ => hq)]
      (repeat' first | with_reducible (first | intro _ | refine rc ?_ | refine rl ?_ | refine rh ?_ | refine ru ?_ | refine rt ?_ | refine rf ?_ | refine rs ?_ | refine And.intro ?_ ?_) | omega | simp (maxSteps := 1000000) only [go_sem, reduceCtorEq, Nat.reduceLT, Nat.reduceLeDiff, reduceIte, ↓reduceIte, Nat.reduceEqDiff, Nat.reduceAdd, Nat.reduceMul, Nat.reduceSub, Int.reduceLE, Int.reduceLT, Int.reduceNeg, Int.reduceToNat])
      refine Ret.auto 0 ?_ rfl ?_ <;> simp only [go_sem, reduceCtorEq, reduceIte, Nat.reduceEqDiff, Nat.reduceLT, Nat.reduceLeDiff, Int.natCast_succ, Post, e]
  · have e : t = s.dropWhile p := by rw [← he, dropW_n (fun h => by omega)]
    refine Ret.auto 0 ?_ rfl ?_ <;> simp only [go_sem, reduceCtorEq, reduceIte, Nat.reduceEqDiff, Nat.reduceLT, Nat.reduceLeDiff, Int.natCast_succ, Post, e]
set_option maxHeartbeats 1000000 in
theorem trimRightA_ok (tab : List Bool) (hl : tab.length = 256) (p : UInt8 → Bool) (hp : ∀ c : UInt8, tab.getD c.toNat false = p c) (s : List UInt8) :
    FnOk Tryd.prog 35 [.str s, .cell (tab.map .bool)] (.str (endOff p s)) [] := by
  refine FnOk.of_vc Tryd.func35 rfl (by decide) (by simp [Tryd.f35]) [.tmp 4] rfl fun w0 T0 _ => ?_
  simp only [Tryd.f35, argEnv]
  (repeat' first | with_reducible (first | intro _ | refine rc ?_ | refine rl ?_ | refine rh ?_ | refine ru ?_ | refine rt ?_ | refine rf ?_ | refine rs ?_ | refine And.intro ?_ ?_) | omega | simp (maxSteps := 1000000) only [go_sem, reduceCtorEq, Nat.reduceLT, Nat.reduceLeDiff, reduceIte, ↓reduceIte, Nat.reduceEqDiff, Nat.reduceAdd, Nat.reduceMul, Nat.reduceSub, Int.reduceLE, Int.reduceLT, Int.reduceNeg, Int.reduceToNat])
  refine VcLoop.intro (fun t : List UInt8 => ⟨22, [(0, .str t), (1, .cell (tab.map .bool))], [], 0⟩) (fun t => endOff p t = endOff p s) (fun t => t.length) s ?_ rfl fun t he => ?_
  · refine Ent.auto0 rfl ?_ ?_ <;> simp only [go_sem, reduceCtorEq, reduceIte, Nat.reduceEqDiff, Nat.reduceLT, Nat.reduceLeDiff, Int.natCast_succ]
  have et : ((t.length : Int) - 1).toNat = t.length - 1 := by omega
  (repeat' first | with_reducible (first | intro _ | refine rc ?_ | refine rl ?_ | refine rh ?_ | refine ru ?_ | refine rt ?_ | refine rf ?_ | refine rs ?_ | refine And.intro ?_ ?_) | omega | simp (maxSteps := 1000000) only [go_sem, reduceCtorEq, Nat.reduceLT, Nat.reduceLeDiff, reduceIte, ↓reduceIte, Nat.reduceEqDiff, Nat.reduceAdd, Nat.reduceMul, Nat.reduceSub, Int.reduceLE, Int.reduceLT, Int.reduceNeg, Int.reduceToNat, et])
  · have k := containsU_ok tab hl (t.getD (t.length - 1) 0)
    rw [hp] at k
    refine VcCall.fr (args' := [.cell (tab.map .bool), .int .u8 (t.getD (t.length - 1) 0).toNat]) (FnFr.of_ok k rfl rfl) (by simp [argOkL, allOk, argOkN]) 0 rfl (by simp [rowsB]) ?_
    cases hq : p (t.getD (t.length - 1) 0) with
    | true =>
      (repeat' first | with_reducible (first | intro _ | refine rc ?_ | refine rl ?_ | refine rh ?_ | refine ru ?_ | refine rt ?_ | refine rf ?_ | refine rs ?_ | refine And.intro ?_ ?_) | omega | simp (maxSteps := 1000000) only [go_sem, reduceCtorEq, Nat.reduceLT, Nat.reduceLeDiff, reduceIte, ↓reduceIte, Nat.reduceEqDiff, Nat.reduceAdd, Nat.reduceMul, Nat.reduceSub, Int.reduceLE, Int.reduceLT, Int.reduceNeg, Int.reduceToNat, et])
      refine ⟨t.take (t.length - 1), Ent.auto0 rfl ?_ ?_, ?_, ?_⟩
      · simp only [go_sem, reduceCtorEq, reduceIte, Nat.reduceEqDiff, Nat.reduceLT, Nat.reduceLeDiff, Int.natCast_succ, et]
        all_goals rfl
      · simp only [go_sem, reduceCtorEq, reduceIte, Nat.reduceEqDiff, Nat.reduceLT, Nat.reduceLeDiff, Int.natCast_succ]
      · rw [endOff_y (by omega) hq]; exact he
      · simp; omega
    | false =>
      have e : t = endOff p s := by rw [← he, endOff_n (fun _ => hq)]
      (repeat' first | with_reducible (first | intro _ | refine rc ?_ | refine rl ?_ | refine rh ?_ | refine ru ?_ | refine rt ?_ | refine rf ?_ | refine rs ?_ | refine And.intro ?_ ?_) | omega | simp (maxSteps := 1000000) only [go_sem, reduceCtorEq, Nat.reduceLT, Nat.reduceLeDiff, reduceIte, ↓reduceIte, Nat.reduceEqDiff, Nat.reduceAdd, Nat.reduceMul, Nat.reduceSub, Int.reduceLE, Int.reduceLT, Int.reduceNeg, Int.reduceToNat])
      refine Ret.auto 0 ?_ rfl ?_ <;> simp only [go_sem, reduceCtorEq, reduceIte, Nat.reduceEqDiff, Nat.reduceLT, Nat.reduceLeDiff, Int.natCast_succ, Post, e]
  · have e : t = endOff p s := by rw [← he, endOff_n (fun h => by omega)]
    refine Ret.auto 0 ?_ rfl ?_ <;> simp only [go_sem, reduceCtorEq, reduceIte, Nat.reduceEqDiff, Nat.reduceLT, Nat.reduceLeDiff, Int.natCast_succ, Post, e]

set_option maxHeartbeats 1000000 in
theorem trimA_ok (s cut : List UInt8) (hc : ∀ i, i < cut.length → (cut.getD i 0).toNat < 128) (h2 : 2 ≤ cut.length) :
    FnOk Tryd.prog 17 [.str s, .str cut] (.str ((endOff (inCut cut) s).dropWhile (inCut cut))) [] := by
  have hlen := asciiAt_len cut cut.length
  have km := makeAscii_ok cut hc
  have hg : ∀ c : UInt8, (asciiAt cut cut.length).getD c.toNat false = inCut cut c := fun c => by
    rw [asciiAt_get cut c _ (Nat.le_refl _), List.take_length]; rfl
  have hne : ¬ cut = [] := fun e => by subst e; simp at h2
  refine FnOk.of_vc Tryd.func17 rfl (by decide) (by simp [Tryd.f17]) [.tmp 4] rfl fun w0 T0 _ => ?_
  simp only [Tryd.f17, argEnv]
  by_cases h0 : s = []
  · have e : (endOff (inCut cut) []).dropWhile (inCut cut) = [] := rfl
    (repeat' first | with_reducible (first | intro _ | refine rc ?_ | refine rl ?_ | refine rh ?_ | refine ru ?_ | refine rt ?_ | refine rf ?_ | refine rs ?_ | refine And.intro ?_ ?_) | omega | simp (maxSteps := 1000000) only [go_sem, reduceCtorEq, Nat.reduceLT, Nat.reduceLeDiff, reduceIte, ↓reduceIte, Nat.reduceEqDiff, Nat.reduceAdd, Nat.reduceMul, Nat.reduceSub, Int.reduceLE, Int.reduceLT, Int.reduceNeg, Int.reduceToNat, h0])
    refine Ret.auto 0 ?_ rfl ?_ <;> simp only [go_sem, reduceCtorEq, reduceIte, Nat.reduceEqDiff, Nat.reduceLT, Nat.reduceLeDiff, Int.natCast_succ, Post, e]
  generalize inCut cut = p at *
  (repeat' first | with_reducible (first | intro _ | refine rc ?_ | refine rl ?_ | refine rh ?_ | refine ru ?_ | refine rt ?_ | refine rf ?_ | refine rs ?_ | refine And.intro ?_ ?_) | omega | simp (maxSteps := 1000000) only [go_sem, reduceCtorEq, Nat.reduceLT, Nat.reduceLeDiff, reduceIte, ↓reduceIte, Nat.reduceEqDiff, Nat.reduceAdd, Nat.reduceMul, Nat.reduceSub, Int.reduceLE, Int.reduceLT, Int.reduceNeg, Int.reduceToNat, h0, hne])
  refine VcCall.fr (args' := [.str cut]) (FnFr.of_ok km (by simp [noRo, noRoL, noRoL_bools]) rfl) (by simp [argOkL, allOk, argOkN]) 0 (by simp [Fv.below, belowL, belowL_bools]) (by simp [rowsB]) ?_
  generalize asciiAt cut cut.length = tab at hlen hg ⊢
  simp (maxSteps := 1000000) only [go_sem, reduceCtorEq, Nat.reduceLT, Nat.reduceLeDiff, reduceIte, ↓reduceIte, Nat.reduceEqDiff, Nat.reduceAdd, Nat.reduceMul, Nat.reduceSub, Int.reduceLE, Int.reduceLT, Int.reduceNeg, Int.reduceToNat]
  have e1 : spl (List.replicate 256 (AV.bool false)) 0 (tab.map .bool) = tab.map .bool := spl_all (by simp [hlen])
  refine Chk.intro (by simp [hlen]) ?_
  rw [e1]
  refine Chk.intro (by omega) ?_
  refine VcCall.fr (args' := [.str s, .cell (tab.map .bool)]) (FnFr.of_ok (trimRightA_ok tab hlen p hg s) rfl rfl) ?_ 0 rfl (by simp [rowsB]) ?_
  · exact ⟨_, _, rfl, ⟨_, _, ⟨_, _, _, rfl, allOk_bools _ 4 _, rfl⟩, rfl, rfl⟩, rfl⟩
  simp (maxSteps := 1000000) only [go_sem, reduceCtorEq, Nat.reduceLT, Nat.reduceLeDiff, reduceIte, ↓reduceIte, Nat.reduceEqDiff, Nat.reduceAdd, Nat.reduceMul, Nat.reduceSub, Int.reduceLE, Int.reduceLT, Int.reduceNeg, Int.reduceToNat]
  refine VcCall.fr (args' := [.str (endOff p s), .cell (tab.map .bool)]) (FnFr.of_ok (trimLeftA_ok tab hlen p hg (endOff p s)) rfl rfl) ?_ 0 rfl (by simp [rowsB]) ?_
  · exact ⟨_, _, rfl, ⟨_, _, ⟨_, _, _, rfl, allOk_bools _ 4 _, rfl⟩, rfl, rfl⟩, rfl⟩
  simp (maxSteps := 1000000) only [go_sem, reduceCtorEq, Nat.reduceLT, Nat.reduceLeDiff, reduceIte, ↓reduceIte, Nat.reduceEqDiff, Nat.reduceAdd, Nat.reduceMul, Nat.reduceSub, Int.reduceLE, Int.reduceLT, Int.reduceNeg, Int.reduceToNat]
  refine Ret.auto 0 ?_ rfl ?_ <;> simp only [go_sem, reduceCtorEq, reduceIte, Nat.reduceEqDiff, Nat.reduceLT, Nat.reduceLeDiff, Int.natCast_succ, Post]

/-- A name. -/
def nameB (c : UInt8) : Bool := decide (97 ≤ c.toNat) && decide (c.toNat ≤ 122) || decide (48 ≤ c.toNat) && decide (c.toNat ≤ 57) || decide (c.toNat = 45)
def nameOk (s : List UInt8) : Bool := decide (s ≠ []) && decide (s.length ≤ 40) && (decide (97 ≤ (s.getD 0 0).toNat) && decide ((s.getD 0 0).toNat ≤ 122)) && s.all nameB
set_option maxRecDepth 20000 in
theorem cut_name : ∀ n : Nat, n < 256 → inCut cutset (UInt8.ofNat n) = nameB (UInt8.ofNat n) := by decide
theorem inCut_name : inCut cutset = nameB := funext fun c => by
  have h := cut_name c.toNat c.toNat_lt
  simpa using h
set_option maxHeartbeats 1000000 in
theorem isName_ok (s : List UInt8) : FnOk Tryd.prog 15 [.str s] (.bool (nameOk s)) [] := by
  have k := trimA_ok s cutset cut_small (by decide)
  rw [inCut_name] at k
  have ht := trim_nil nameB s
  have hcut : cutset = [97, 98, 99, 100, 101, 102, 103, 104, 105, 106, 107, 108, 109, 110, 111, 112, 113, 114, 115, 116, 117, 118, 119, 120, 121, 122, 48, 49, 50, 51, 52, 53, 54, 55, 56, 57, 45] := rfl
  unfold nameOk
  generalize endOff nameB s = t at *
  generalize t.dropWhile nameB = t at *
  generalize s.all nameB = a at *
  refine FnOk.of_vc Tryd.func15 rfl (by decide) (by simp [Tryd.f15]) [.tmp 2] rfl fun w0 T0 _ => ?_
  simp only [Tryd.f15, argEnv]
  by_cases h0 : s = []
  · (repeat' first | with_reducible (first | intro _ | refine rc ?_ | refine rl ?_ | refine rh ?_ | refine ru ?_ | refine rt ?_ | refine rf ?_ | refine rs ?_ | refine And.intro ?_ ?_) | omega | simp (maxSteps := 1000000) only [go_sem, reduceCtorEq, Nat.reduceLT, Nat.reduceLeDiff, reduceIte, ↓reduceIte, Nat.reduceEqDiff, Nat.reduceAdd, Nat.reduceMul, Nat.reduceSub, Int.reduceLE, Int.reduceLT, Int.reduceNeg, Int.reduceToNat, h0])
    refine Ret.auto 0 ?_ rfl ?_ <;> simp only [go_sem, reduceCtorEq, reduceIte, Nat.reduceEqDiff, Nat.reduceLT, Nat.reduceLeDiff, Int.natCast_succ, Post]
    all_goals simp
  · have hlp : 0 < s.length := List.length_pos_iff.2 h0
    (repeat' first | with_reducible (first | intro _ | refine rc ?_ | refine rl ?_ | refine rh ?_ | refine ru ?_ | refine rt ?_ | refine rf ?_ | refine rs ?_ | refine And.intro ?_ ?_) | omega | simp (maxSteps := 1000000) only [go_sem, reduceCtorEq, Nat.reduceLT, Nat.reduceLeDiff, reduceIte, ↓reduceIte, Nat.reduceEqDiff, Nat.reduceAdd, Nat.reduceMul, Nat.reduceSub, Int.reduceLE, Int.reduceLT, Int.reduceNeg, Int.reduceToNat, h0])
    all_goals first
      | (refine VcCall.fr (args' := [.str s, .str cutset]) (FnFr.of_ok k rfl rfl) (by simp [argOkL, allOk, argOkN, cutset]) 0 rfl (by simp [rowsB]) ?_
         (repeat' first | with_reducible (first | intro _ | refine rc ?_ | refine rl ?_ | refine rh ?_ | refine ru ?_ | refine rt ?_ | refine rf ?_ | refine rs ?_ | refine And.intro ?_ ?_) | omega | simp (maxSteps := 1000000) only [go_sem, reduceCtorEq, Nat.reduceLT, Nat.reduceLeDiff, reduceIte, ↓reduceIte, Nat.reduceEqDiff, Nat.reduceAdd, Nat.reduceMul, Nat.reduceSub, Int.reduceLE, Int.reduceLT, Int.reduceNeg, Int.reduceToNat])
         refine Ret.auto 0 ?_ rfl ?_ <;> simp only [go_sem, reduceCtorEq, reduceIte, Nat.reduceEqDiff, Nat.reduceLT, Nat.reduceLeDiff, Int.natCast_succ, Post])
      | (refine Ret.auto 0 ?_ rfl ?_ <;> simp only [go_sem, reduceCtorEq, reduceIte, Nat.reduceEqDiff, Nat.reduceLT, Nat.reduceLeDiff, Int.natCast_succ, Post])
    all_goals
      rw [Bool.eq_iff_iff]
      simp only [Bool.and_eq_true, decide_eq_true_eq, ht, Bool.false_eq_true, false_iff]
      first
        | exact ⟨fun ha => ⟨⟨⟨h0, by omega⟩, by omega, by omega⟩, ha⟩, fun h => h.2⟩
        | (intro h; omega)
end Go.Fv.G

/- Reading a number: the walk of ReadGamma. -/
namespace Go.Fv.G
open Go Go.Proofs
set_option linter.unusedSimpArgs false
set_option linter.unusedVariables false
set_option linter.unnecessarySimpa false
set_option maxRecDepth 8000

theorem inCut01 : inCut [48, 49] = is01 := funext fun c => by
  unfold inCut is01
  simp
theorem trim01 (l : Bytes) : ((endOff (inCut [48, 49]) l).dropWhile (inCut [48, 49]) = []) ↔ l.all is01 = true := by rw [inCut01]; exact trim_nil is01 l
set_option maxHeartbeats 4000000 in
theorem readG_ok (s : Bytes) (hs : s.length ≤ 300000000000000) : FnOk Tryd.prog 7 [.str s] (.tup [.int .i64 (rdN s), .int .i64 (rdL s), .int .i64 (rdE 8 s)]) [] := by
  have hle := lead_le s
  have hat := lead_at s
  have hst := lead_stop s
  refine FnOk.of_vc Tryd.func7 rfl (by decide) (by simp [Tryd.f7]) [.tmp 2, .tmp 3, .tmp 4] rfl fun w0 T0 _ => ?_
  simp only [Tryd.f7, argEnv]
  (repeat' first | with_reducible (first | intro _ | refine rc ?_ | refine rl ?_ | refine rh ?_ | refine ru ?_ | refine rt ?_ | refine rf ?_ | refine rs ?_ | refine And.intro ?_ ?_) | omega | simp (maxSteps := 1000000) only [go_sem, simprocAttr, ↓reduceIte])
  refine VcLoop.intro (fun z : Nat => ⟨62, [(5, .int .i64 z), (0, .str s)], [], 0⟩) (fun z => z ≤ leadB s) (fun z => s.length - z) 0 ?_ (Nat.zero_le _) fun z hz => ?_
  · refine Ent.auto0 rfl ?_ ?_ <;> simp only [go_sem, reduceCtorEq, reduceIte, Nat.reduceEqDiff, Nat.reduceLT, Nat.reduceLeDiff, Int.natCast_succ]
  by_cases hlt : z < leadB s
  · have e := hat z hlt
    have f1 : ((z : Int) < (s.length : Int)) = True := eq_true (by omega)
    have f2 : (((s.getD z 0).toNat : Int) = 48) = True := eq_true (by rw [e]; rfl)
    (repeat' first | with_reducible (first | intro _ | refine rc ?_ | refine rl ?_ | refine rh ?_ | refine ru ?_ | refine rt ?_ | refine rf ?_ | refine rs ?_ | refine And.intro ?_ ?_) | omega | simp (maxSteps := 1000000) only [go_sem, simprocAttr, ↓reduceIte, f1, f2])
    refine ⟨z + 1, Ent.auto0 rfl ?_ ?_, by omega, by omega⟩ <;> simp only [go_sem, reduceCtorEq, reduceIte, Nat.reduceEqDiff, Nat.reduceLT, Nat.reduceLeDiff, Int.natCast_succ]
  have hz : z = leadB s := by omega
  subst hz
  have hno : ∀ h : rdG s = none, rdN s = 0 ∧ rdL s = 0 ∧ rdE 8 s = 8 := fun h => by unfold rdN rdL rdE; rw [h]; exact ⟨rfl, rfl, rfl⟩
  have fin : leadB s < s.length → (((s.getD (leadB s) 0).toNat : Int) = 48) = False := fun c0 => eq_false fun h => hst c0 (UInt8.toNat_inj.1 (by show _ = 48; omega))
  by_cases c1 : 20 < leadB s
  · obtain ⟨r1, r2, r3⟩ := hno (rdG_none fun h => by omega)
    have f3 : (20 < (leadB s : Int)) = True := eq_true (by omega)
    by_cases c0 : leadB s < s.length
    · have f1 : ((leadB s : Int) < (s.length : Int)) = True := eq_true (by omega)
      have f2 := fin c0
      (repeat' first | with_reducible (first | intro _ | refine rc ?_ | refine rl ?_ | refine rh ?_ | refine ru ?_ | refine rt ?_ | refine rf ?_ | refine rs ?_ | refine And.intro ?_ ?_) | omega | simp (maxSteps := 1000000) only [go_sem, simprocAttr, ↓reduceIte, f1, f2, f3])
      refine Ret.auto 0 ?_ rfl ?_ <;> simp only [go_sem, reduceCtorEq, reduceIte, Nat.reduceEqDiff, Nat.reduceLT, Nat.reduceLeDiff, Int.natCast_succ, Post, r1, r2, r3]
    · have f1 : ((leadB s : Int) < (s.length : Int)) = False := eq_false (by omega)
      (repeat' first | with_reducible (first | intro _ | refine rc ?_ | refine rl ?_ | refine rh ?_ | refine ru ?_ | refine rt ?_ | refine rf ?_ | refine rs ?_ | refine And.intro ?_ ?_) | omega | simp (maxSteps := 1000000) only [go_sem, simprocAttr, ↓reduceIte, f1, f3])
      refine Ret.auto 0 ?_ rfl ?_ <;> simp only [go_sem, reduceCtorEq, reduceIte, Nat.reduceEqDiff, Nat.reduceLT, Nat.reduceLeDiff, Int.natCast_succ, Post, r1, r2, r3]
  have f3 : (20 < (leadB s : Int)) = False := eq_false (by omega)
  by_cases c2 : s.length < 2 * leadB s + 1
  · obtain ⟨r1, r2, r3⟩ := hno (rdG_none fun h => by omega)
    have f4 : ((s.length : Int) < 2 * (leadB s : Int) + 1) = True := eq_true (by omega)
    by_cases c0 : leadB s < s.length
    · have f1 : ((leadB s : Int) < (s.length : Int)) = True := eq_true (by omega)
      have f2 := fin c0
      (repeat' first | with_reducible (first | intro _ | refine rc ?_ | refine rl ?_ | refine rh ?_ | refine ru ?_ | refine rt ?_ | refine rf ?_ | refine rs ?_ | refine And.intro ?_ ?_) | omega | simp (maxSteps := 1000000) only [go_sem, simprocAttr, ↓reduceIte, f1, f2, f3, f4])
      refine Ret.auto 0 ?_ rfl ?_ <;> simp only [go_sem, reduceCtorEq, reduceIte, Nat.reduceEqDiff, Nat.reduceLT, Nat.reduceLeDiff, Int.natCast_succ, Post, r1, r2, r3]
    · have f1 : ((leadB s : Int) < (s.length : Int)) = False := eq_false (by omega)
      (repeat' first | with_reducible (first | intro _ | refine rc ?_ | refine rl ?_ | refine rh ?_ | refine ru ?_ | refine rt ?_ | refine rf ?_ | refine rs ?_ | refine And.intro ?_ ?_) | omega | simp (maxSteps := 1000000) only [go_sem, simprocAttr, ↓reduceIte, f1, f3, f4])
      refine Ret.auto 0 ?_ rfl ?_ <;> simp only [go_sem, reduceCtorEq, reduceIte, Nat.reduceEqDiff, Nat.reduceLT, Nat.reduceLeDiff, Int.natCast_succ, Post, r1, r2, r3]
  have f4 : ((s.length : Int) < 2 * (leadB s : Int) + 1) = False := eq_false (by omega)
  have c0 : leadB s < s.length := by omega
  have f1 : ((leadB s : Int) < (s.length : Int)) = True := eq_true (by omega)
  have f2 := fin c0
  obtain ⟨m1, m2⟩ := lead_mem (s := s) (by omega)
  have hcut : (2 * (leadB s : Int) + 1).toNat - leadB s = leadB s + 1 := by omega
  by_cases c3 : s.getD (leadB s) 0 = 49
  rotate_left
  · obtain ⟨r1, r2, r3⟩ := hno (rdG_none fun h => by
      have := all_at (l := (s.drop (leadB s)).take (leadB s + 1)) (p := 0) (by omega) h.2.2.1
      rw [m2] at this
      exact this.elim (hst c0) c3)
    have f5 : (((s.getD (leadB s) 0).toNat : Int) = 49) = False := eq_false fun h => c3 (UInt8.toNat_inj.1 (by show _ = 49; omega))
    (repeat' first | with_reducible (first | intro _ | refine rc ?_ | refine rl ?_ | refine rh ?_ | refine ru ?_ | refine rt ?_ | refine rf ?_ | refine rs ?_ | refine And.intro ?_ ?_) | omega | simp (maxSteps := 1000000) only [go_sem, simprocAttr, ↓reduceIte, f1, f2, f3, f4, f5, Bool.false_or, Bool.or_false])
    · rename_i h; simp at h
    · refine Ret.auto 0 ?_ rfl ?_ <;> simp only [go_sem, reduceCtorEq, reduceIte, Nat.reduceEqDiff, Nat.reduceLT, Nat.reduceLeDiff, Int.natCast_succ, Post, r1, r2, r3]
  have f5 : (((s.getD (leadB s) 0).toNat : Int) = 49) = True := eq_true (by rw [c3]; rfl)
  have kt := trimA_ok ((s.drop (leadB s)).take (leadB s + 1)) [48, 49] (by intro i hi; have : i = 0 ∨ i = 1 := (by simp at hi; omega); rcases this with rfl | rfl <;> decide) (by decide)
  have ht := trim01 ((s.drop (leadB s)).take (leadB s + 1))
  have hsome := @rdG_some s
  have hnone := @rdG_none s
  generalize (endOff (inCut [48, 49]) ((s.drop (leadB s)).take (leadB s + 1))).dropWhile (inCut [48, 49]) = tr at *
  by_cases c4 : ((s.drop (leadB s)).take (leadB s + 1)).all is01 = true
  rotate_left
  · obtain ⟨r1, r2, r3⟩ := hno (hnone fun h => c4 h.2.2.1)
    have f6 : (tr = []) = False := eq_false fun h => c4 (ht.1 h)
    (repeat' first | with_reducible (first | intro _ | refine rc ?_ | refine rl ?_ | refine rh ?_ | refine ru ?_ | refine rt ?_ | refine rf ?_ | refine rs ?_ | refine And.intro ?_ ?_) | omega | simp (maxSteps := 1000000) only [go_sem, simprocAttr, ↓reduceIte, f1, f2, f3, f4, f5, hcut, Bool.false_or, Bool.or_false])
    refine VcCall.k (kt) ?_
    (repeat' first | with_reducible (first | intro _ | refine rc ?_ | refine rl ?_ | refine rh ?_ | refine ru ?_ | refine rt ?_ | refine rf ?_ | refine rs ?_ | refine And.intro ?_ ?_) | omega | simp (maxSteps := 1000000) only [go_sem, simprocAttr, ↓reduceIte, f6])
    refine Ret.auto 0 ?_ rfl ?_ <;> simp only [go_sem, reduceCtorEq, reduceIte, Nat.reduceEqDiff, Nat.reduceLT, Nat.reduceLeDiff, Int.natCast_succ, Post, r1, r2, r3]
  have f6 : (tr = []) = True := eq_true (ht.2 c4)
  have kp := parseI_ok ((s.drop (leadB s)).take (leadB s + 1)) c4 (fun e => by rw [e] at m1; simp at m1) (by omega)
  by_cases c5 : valB ((s.drop (leadB s)).take (leadB s + 1)) ≤ 1048576
  · have hr := hsome ⟨by omega, by omega, c4, c5⟩
    have r1 : rdN s = (valB ((s.drop (leadB s)).take (leadB s + 1)) : Int) := by unfold rdN; rw [hr]
    have r2 : rdL s = 2 * (leadB s : Int) + 1 := by unfold rdL; rw [hr]; rfl
    have r3 : rdE 8 s = 0 := by unfold rdE; rw [hr]
    generalize valB ((s.drop (leadB s)).take (leadB s + 1)) = v at *
    have f7 : (1048576 < (v : Int)) = False := eq_false (by omega)
    (repeat' first | with_reducible (first | intro _ | refine rc ?_ | refine rl ?_ | refine rh ?_ | refine ru ?_ | refine rt ?_ | refine rf ?_ | refine rs ?_ | refine And.intro ?_ ?_) | omega | simp (maxSteps := 1000000) only [go_sem, simprocAttr, ↓reduceIte, f1, f2, f3, f4, f5, hcut, Bool.false_or, Bool.or_false])
    refine VcCall.k (kt) ?_
    (repeat' first | with_reducible (first | intro _ | refine rc ?_ | refine rl ?_ | refine rh ?_ | refine ru ?_ | refine rt ?_ | refine rf ?_ | refine rs ?_ | refine And.intro ?_ ?_) | omega | simp (maxSteps := 1000000) only [go_sem, simprocAttr, ↓reduceIte, f6, hcut])
    refine VcCall.k (kp) ?_
    (repeat' first | with_reducible (first | intro _ | refine rc ?_ | refine rl ?_ | refine rh ?_ | refine ru ?_ | refine rt ?_ | refine rf ?_ | refine rs ?_ | refine And.intro ?_ ?_) | omega | simp (maxSteps := 1000000) only [go_sem, simprocAttr, ↓reduceIte, f7])
    refine Ret.auto 0 ?_ rfl ?_ <;> simp only [go_sem, reduceCtorEq, reduceIte, Nat.reduceEqDiff, Nat.reduceLT, Nat.reduceLeDiff, Int.natCast_succ, Post, r1, r2, r3]
  · obtain ⟨r1, r2, r3⟩ := hno (hnone fun h => c5 h.2.2.2)
    generalize valB ((s.drop (leadB s)).take (leadB s + 1)) = v at *
    have f7 : (1048576 < (v : Int)) = True := eq_true (by omega)
    (repeat' first | with_reducible (first | intro _ | refine rc ?_ | refine rl ?_ | refine rh ?_ | refine ru ?_ | refine rt ?_ | refine rf ?_ | refine rs ?_ | refine And.intro ?_ ?_) | omega | simp (maxSteps := 1000000) only [go_sem, simprocAttr, ↓reduceIte, f1, f2, f3, f4, f5, hcut, Bool.false_or, Bool.or_false])
    refine VcCall.k (kt) ?_
    (repeat' first | with_reducible (first | intro _ | refine rc ?_ | refine rl ?_ | refine rh ?_ | refine ru ?_ | refine rt ?_ | refine rf ?_ | refine rs ?_ | refine And.intro ?_ ?_) | omega | simp (maxSteps := 1000000) only [go_sem, simprocAttr, ↓reduceIte, f6, hcut])
    refine VcCall.k (kp) ?_
    (repeat' first | with_reducible (first | intro _ | refine rc ?_ | refine rl ?_ | refine rh ?_ | refine ru ?_ | refine rt ?_ | refine rf ?_ | refine rs ?_ | refine And.intro ?_ ?_) | omega | simp (maxSteps := 1000000) only [go_sem, simprocAttr, ↓reduceIte, f7])
    refine Ret.auto 0 ?_ rfl ?_ <;> simp only [go_sem, reduceCtorEq, reduceIte, Nat.reduceEqDiff, Nat.reduceLT, Nat.reduceLeDiff, Int.natCast_succ, Post, r1, r2, r3]
end Go.Fv.G

/- The closures of shrink.readLine. -/
namespace Go.Fv.G
open Go Go.Proofs
set_option linter.unusedSimpArgs false
set_option linter.unusedVariables false
set_option linter.unnecessarySimpa false
set_option maxRecDepth 8000

theorem takeY_io (s : Bytes) (n : Nat) (code : Bytes) (hs : s.length ≤ 300000000000000) (hn : n ≤ s.length) (hc : code.length ≤ 100) (hp : code.isPrefixOf (s.drop n) = true) :
    FnIO Tryd.prog 50 [.str code, .ptr 0 0, .ptr 1 0] [(0, .box 9 [.str s]), (1, .box 3 [.int .i64 n])] 2 (.bool true) [(0, .box 9 [.str s]), (1, .box 3 [.int .i64 (n + code.length : Nat)])] := by
  have k := hasPrefix_ok (s.drop n) code
  rw [hp] at k
  refine FnIO.of_vc Tryd.func50 rfl (by decide) (by simp [Tryd.f50]) covB2 [.tmp 4] rfl fun w0 T0 _ => ?_
  simp only [Tryd.f50, argEnv]
  have htk : (s.drop n).take (s.length - n) = s.drop n := List.take_of_length_le (by rw [List.length_drop]; exact Nat.le_refl _)
  (repeat' first | with_reducible (first | intro _ | refine rc ?_ | refine rl ?_ | refine rh ?_ | refine ru ?_ | refine rt ?_ | refine rf ?_ | refine rs ?_ | refine And.intro ?_ ?_) | omega | simp (maxSteps := 1000000) only [go_sem, simprocAttr, ↓reduceIte, htk])
  refine VcCall.k (k) ?_
  (repeat' first | with_reducible (first | intro _ | refine rc ?_ | refine rl ?_ | refine rh ?_ | refine ru ?_ | refine rt ?_ | refine rf ?_ | refine rs ?_ | refine And.intro ?_ ?_) | omega | simp (maxSteps := 1000000) only [go_sem, simprocAttr, ↓reduceIte])
  refine RetK.auto 2 (Nat.le_refl 2) ?_ rfl ?_ <;> simp only [go_sem, reduceCtorEq, reduceIte, Nat.reduceEqDiff, Nat.reduceLT, Nat.reduceLeDiff, Int.natCast_succ, fromL]
  omega
theorem takeN_io (s : Bytes) (n : Nat) (code : Bytes) (hs : s.length ≤ 300000000000000) (hn : n ≤ s.length) (hp : code.isPrefixOf (s.drop n) = false) :
    FnIO Tryd.prog 50 [.str code, .ptr 0 0, .ptr 1 0] [(0, .box 9 [.str s]), (1, .box 3 [.int .i64 n])] 2 (.bool false) [(0, .box 9 [.str s]), (1, .box 3 [.int .i64 n])] := by
  have k := hasPrefix_ok (s.drop n) code
  rw [hp] at k
  refine FnIO.of_vc Tryd.func50 rfl (by decide) (by simp [Tryd.f50]) covB2 [.tmp 4] rfl fun w0 T0 _ => ?_
  simp only [Tryd.f50, argEnv]
  have htk : (s.drop n).take (s.length - n) = s.drop n := List.take_of_length_le (by rw [List.length_drop]; exact Nat.le_refl _)
  (repeat' first | with_reducible (first | intro _ | refine rc ?_ | refine rl ?_ | refine rh ?_ | refine ru ?_ | refine rt ?_ | refine rf ?_ | refine rs ?_ | refine And.intro ?_ ?_) | omega | simp (maxSteps := 1000000) only [go_sem, simprocAttr, ↓reduceIte, htk])
  refine VcCall.k (k) ?_
  (repeat' first | with_reducible (first | intro _ | refine rc ?_ | refine rl ?_ | refine rh ?_ | refine ru ?_ | refine rt ?_ | refine rf ?_ | refine rs ?_ | refine And.intro ?_ ?_) | omega | simp (maxSteps := 1000000) only [go_sem, simprocAttr, ↓reduceIte])
  refine RetK.auto 2 (Nat.le_refl 2) ?_ rfl ?_ <;> simp only [go_sem, reduceCtorEq, reduceIte, Nat.reduceEqDiff, Nat.reduceLT, Nat.reduceLeDiff, Int.natCast_succ, fromL]
theorem cut64 (s : Bytes) (n : Nat) (hn : n ≤ s.length) : (s.drop n).take (min s.length (n + 64) - n) = (s.drop n).take 64 := by
  rw [List.take_eq_take_iff, List.length_drop]; omega
theorem number_io (s : Bytes) (n : Nat) (hs : s.length ≤ 300000000000000) (hn : n ≤ s.length) :
    FnIO Tryd.prog 51 [.ptr 0 0, .ptr 1 0] [(0, .box 9 [.str s]), (1, .box 3 [.int .i64 n])] 2 (.tup [.int .i64 (rdN (s.drop n) - 1), .bool (decide (rdE 8 (s.drop n) = 0))]) [(0, .box 9 [.str s]), (1, .box 3 [.int .i64 (n + rdL (s.drop n))])] := by
  have hg : rdG ((s.drop n).take 64) = rdG (s.drop n) := rdG_take _ 64 (Nat.le_refl _)
  have e1 : rdN ((s.drop n).take 64) = rdN (s.drop n) := by unfold rdN; rw [hg]
  have e2 : rdL ((s.drop n).take 64) = rdL (s.drop n) := by unfold rdL; rw [hg]
  have e3 : rdE 8 ((s.drop n).take 64) = rdE 8 (s.drop n) := by unfold rdE; rw [hg]
  have k := readG_ok ((s.drop n).take 64) (by rw [List.length_take]; omega)
  rw [e1, e2, e3] at k
  have hb : 0 ≤ rdN (s.drop n) ∧ rdN (s.drop n) ≤ 1048576 ∧ 0 ≤ rdL (s.drop n) ∧ rdL (s.drop n) ≤ 41 := by
    unfold rdN rdL
    cases hr : rdG (s.drop n) with
    | none => dsimp only; omega
    | some x =>
      obtain ⟨m, l⟩ := x
      have h := rdG_len hr
      have h2 : m ≤ 1048576 := by
        unfold rdG at hr
        split at hr
        · rename_i hc; cases hr; exact hc.2.2.2
        · cases hr
      dsimp only; omega
  generalize rdN (s.drop n) = a at *
  generalize rdL (s.drop n) = b at *
  generalize rdE 8 (s.drop n) = c at *
  have hm : min (s.length : Int) ((n : Int) + 64) = ((min s.length (n + 64) : Nat) : Int) := by omega
  have hc := cut64 s n hn
  have hm1 : n ≤ min s.length (n + 64) := by omega
  have hm2 : min s.length (n + 64) ≤ s.length := by omega
  generalize min s.length (n + 64) = mm at *
  refine FnIO.of_vc Tryd.func51 rfl (by decide) (by simp [Tryd.f51]) covB2 [.tmp 2, .tmp 3] rfl fun w0 T0 _ => ?_
  simp only [Tryd.f51, argEnv]
  (repeat' first | with_reducible (first | intro _ | refine rc ?_ | refine rl ?_ | refine rh ?_ | refine ru ?_ | refine rt ?_ | refine rf ?_ | refine rs ?_ | refine And.intro ?_ ?_) | omega | simp (maxSteps := 1000000) only [go_sem, simprocAttr, ↓reduceIte, hm, hc])
  refine VcCall.k (k) ?_
  (repeat' first | with_reducible (first | intro _ | refine rc ?_ | refine rl ?_ | refine rh ?_ | refine ru ?_ | refine rt ?_ | refine rf ?_ | refine rs ?_ | refine And.intro ?_ ?_) | omega | simp (maxSteps := 1000000) only [go_sem, simprocAttr, ↓reduceIte])
  refine RetK.auto 2 (Nat.le_refl 2) ?_ rfl ?_ <;> simp only [go_sem, reduceCtorEq, reduceIte, Nat.reduceEqDiff, Nat.reduceLT, Nat.reduceLeDiff, Int.natCast_succ, fromL]
def IdxIO (s : Bytes) (n : Nat) (j : Int) (m : Nat) : Prop :=
  FnIO Tryd.prog 29 [.ro (.strs nearCs), .fn 50 [.ptr 0 0, .ptr 1 0]] [(0, .box 9 [.str s]), (1, .box 3 [.int .i64 n])] 2 (.int .i64 j) [(0, .box 9 [.str s]), (1, .box 3 [.int .i64 m])]
set_option maxHeartbeats 2000000 in
theorem idx_io (s : Bytes) (n : Nat) (hs : s.length ≤ 300000000000000) (hn : n ≤ s.length) (j : Nat) (hj : j ≤ 7) (hno : ∀ i, i < j → (nearCs.getD i []).isPrefixOf (s.drop n) = false) (hy : j < 7 → (nearCs.getD j []).isPrefixOf (s.drop n) = true) :
    IdxIO s n (if j < 7 then j else -1) (n + if j < 7 then (nearCs.getD j []).length else 0) := by
  unfold IdxIO
  have hnl : nearCs.length = 7 := rfl
  refine FnIO.of_vc Tryd.func29 rfl (by decide) (by simp [Tryd.f29]) covB2 [.tmp 4] rfl fun w0 T0 _ => ?_
  simp only [Tryd.f29, argEnv]
  (repeat' first | with_reducible (first | intro _ | refine rc ?_ | refine rl ?_ | refine rh ?_ | refine ru ?_ | refine rt ?_ | refine rf ?_ | refine rs ?_ | refine And.intro ?_ ?_) | omega | simp (maxSteps := 1000000) only [go_sem, simprocAttr, ↓reduceIte, hnl])
  refine VcLoop.intro (fun i : Nat => ⟨19, [(8, .int .i64 i), (7, .int .i64 7), (1, .fn 50 [.ptr 0 0, .ptr 1 0]), (0, .ro (.strs nearCs))], [(0, .box 9 [.str s]), (1, .box 3 [.int .i64 n])], 2⟩) (fun i => i ≤ j) (fun i => 8 - i) 0 ?_ (Nat.zero_le _) fun i hi => ?_
  · refine Ent.autoK 2 rfl (Nat.le_refl 2) ?_ ?_ <;> simp only [go_sem, reduceCtorEq, reduceIte, Nat.reduceEqDiff, Nat.reduceLT, Nat.reduceLeDiff, Int.natCast_succ, fromL]
  by_cases hlt : i < j
  · have kt := takeN_io s n (nearCs.getD i []) hs hn (hno i hlt)
    have f1 : ((i : Int) < 7) = True := eq_true (by omega)
    (repeat' first | with_reducible (first | intro _ | refine rc ?_ | refine rl ?_ | refine rh ?_ | refine ru ?_ | refine rt ?_ | refine rf ?_ | refine rs ?_ | refine And.intro ?_ ?_) | omega | simp (maxSteps := 1000000) only [go_sem, simprocAttr, ↓reduceIte, f1, hnl])
    refine VcCall.io [0, 1] kt (by decide) (by simp [renL, ren, ioN]) rfl (by simp [subOk, ioN, lk, Item.ren, Item.below, ren, renL, belowL, Fv.below, renR_ok, belowR_ok]) covB2 2 (by decide) rfl (by simp [rowsB, Item.below, Fv.below, belowL, belowR_ok]) ?_
    (repeat' first | with_reducible (first | intro _ | refine rc ?_ | refine rl ?_ | refine rh ?_ | refine ru ?_ | refine rt ?_ | refine rf ?_ | refine rs ?_ | refine And.intro ?_ ?_) | omega | simp (maxSteps := 1000000) only [go_sem, simprocAttr, ↓reduceIte, S.ioS, ioRows, ioN, delL, Item.ren, ren, renL, renR_ok, List.length_cons, List.length_nil, List.getElem?_cons_zero, List.getElem?_cons_succ, List.getElem?_nil, List.cons_append, List.nil_append, Nat.reduceAdd, Nat.sub_self, Nat.add_zero, List.filter])
    refine ⟨i + 1, Ent.autoK 2 rfl (Nat.le_refl 2) ?_ ?_, by omega, by omega⟩ <;> simp only [go_sem, reduceCtorEq, reduceIte, Nat.reduceEqDiff, Nat.reduceLT, Nat.reduceLeDiff, Int.natCast_succ, fromL]
  have e : i = j := by omega
  subst e
  by_cases h7 : i < 7
  · rw [if_pos h7, if_pos h7]
    have hlen : (nearCs.getD i []).length ≤ 7 := by
      have : i = 0 ∨ i = 1 ∨ i = 2 ∨ i = 3 ∨ i = 4 ∨ i = 5 ∨ i = 6 := by omega
      rcases this with rfl | rfl | rfl | rfl | rfl | rfl | rfl <;> decide
    have kt := takeY_io s n (nearCs.getD i []) hs hn (by omega) (hy h7)
    have f1 : ((i : Int) < 7) = True := eq_true (by omega)
    (repeat' first | with_reducible (first | intro _ | refine rc ?_ | refine rl ?_ | refine rh ?_ | refine ru ?_ | refine rt ?_ | refine rf ?_ | refine rs ?_ | refine And.intro ?_ ?_) | omega | simp (maxSteps := 1000000) only [go_sem, simprocAttr, ↓reduceIte, f1, hnl])
    refine VcCall.io [0, 1] kt (by decide) (by simp [renL, ren, ioN]) rfl (by simp [subOk, ioN, lk, Item.ren, Item.below, ren, renL, belowL, Fv.below, renR_ok, belowR_ok]) covB2 2 (by decide) rfl (by simp [rowsB, Item.below, Fv.below, belowL, belowR_ok]) ?_
    (repeat' first | with_reducible (first | intro _ | refine rc ?_ | refine rl ?_ | refine rh ?_ | refine ru ?_ | refine rt ?_ | refine rf ?_ | refine rs ?_ | refine And.intro ?_ ?_) | omega | simp (maxSteps := 1000000) only [go_sem, simprocAttr, ↓reduceIte, S.ioS, ioRows, ioN, delL, Item.ren, ren, renL, renR_ok, List.length_cons, List.length_nil, List.getElem?_cons_zero, List.getElem?_cons_succ, List.getElem?_nil, List.cons_append, List.nil_append, Nat.reduceAdd, Nat.sub_self, Nat.add_zero, List.filter])
    refine RetK.auto 2 (Nat.le_refl 2) ?_ rfl ?_ <;> simp only [go_sem, reduceCtorEq, reduceIte, Nat.reduceEqDiff, Nat.reduceLT, Nat.reduceLeDiff, Int.natCast_succ, fromL]
  · rw [if_neg h7, if_neg h7, Nat.add_zero]
    have f1 : ((i : Int) < 7) = False := eq_false (by omega)
    (repeat' first | with_reducible (first | intro _ | refine rc ?_ | refine rl ?_ | refine rh ?_ | refine ru ?_ | refine rt ?_ | refine rf ?_ | refine rs ?_ | refine And.intro ?_ ?_) | omega | simp (maxSteps := 1000000) only [go_sem, simprocAttr, ↓reduceIte, f1, hnl])
    refine RetK.auto 2 (Nat.le_refl 2) ?_ rfl ?_ <;> simp only [go_sem, reduceCtorEq, reduceIte, Nat.reduceEqDiff, Nat.reduceLT, Nat.reduceLeDiff, Int.natCast_succ, fromL]
/-- A part of a row set to one colour. -/
def fillB (l : List Bool) (a t : Nat) (c : Bool) : List Bool := l.take a ++ (List.replicate (t - a) c ++ l.drop t)
theorem fillB_len {l : List Bool} {a t : Nat} {c : Bool} (h1 : a ≤ t) (h2 : t ≤ l.length) : (fillB l a t c).length = l.length := by
  unfold fillB
  rw [List.length_append, List.length_append, List.length_take, List.length_replicate, List.length_drop]; omega
theorem fillB_set {l : List Bool} {a t : Nat} {c : Bool} (h1 : a ≤ t) (h2 : t < l.length) : (fillB l a t c).set t c = fillB l a (t + 1) c := by
  apply List.ext_getElem?
  intro i
  have hl := fillB_len (l := l) (c := c) h1 (by omega)
  unfold fillB at *
  rw [List.getElem?_set]
  by_cases hi : t = i
  · subst hi
    rw [if_pos rfl, if_pos (by rw [hl]; exact h2), List.getElem?_append_right (by rw [List.length_take]; omega), List.getElem?_append_left (by rw [List.length_take, List.length_replicate]; omega), List.getElem?_replicate, if_pos (by rw [List.length_take]; omega)]
  · rw [if_neg hi]
    simp only [List.getElem?_append, List.length_take, List.length_replicate, List.getElem?_take, List.getElem?_drop, List.getElem?_replicate]
    by_cases ha : i < min a l.length
    · rw [if_pos ha, if_pos ha]
    · rw [if_neg ha, if_neg ha]
      by_cases hb : i - min a l.length < t - a
      · rw [if_pos hb, if_pos hb, if_pos (by omega), if_pos (by omega)]
      · rw [if_neg hb, if_neg (by omega)]
        congr 1; omega
set_option maxHeartbeats 2000000 in
theorem fill_io (l : List Bool) (a : Nat) (v : Int) (t : Nat) (c : Bool) (hv : max v 0 = (a : Int)) (hvb : -1 ≤ v ∧ v ≤ 5000) (h1 : a ≤ t) (h2 : t ≤ l.length) (hl : l.length ≤ 4000) :
    FnIO Tryd.prog 49 [.int .i64 v, .int .i64 t, .bool c, .ptr 0 0] [(0, .box 30 [.own 1]), (1, .row 4 (.bools l))] 2 (.tup []) [(0, .box 30 [.own 1]), (1, .row 4 (.bools (fillB l a t c)))] := by
  refine FnIO.of_vc Tryd.func49 rfl (by decide) (by simp [Tryd.f49]) covB2 [] rfl fun w0 T0 _ => ?_
  simp only [Tryd.f49, argEnv]
  (repeat' first | with_reducible (first | intro _ | refine rc ?_ | refine rl ?_ | refine rh ?_ | refine ru ?_ | refine rt ?_ | refine rf ?_ | refine rs ?_ | refine And.intro ?_ ?_) | omega | simp (maxSteps := 1000000) only [go_sem, simprocAttr, ↓reduceIte, hv])
  refine VcLoop.intro (fun i : Nat => ⟨19, [(7, .int .i64 i), (3, .ptr 0 0), (2, .bool c), (1, .int .i64 t)], [(0, .box 30 [.own 1]), (1, .row 4 (.bools (fillB l a i c)))], 2⟩) (fun i => a ≤ i ∧ i ≤ t) (fun i => t - i) a ?_ ⟨Nat.le_refl _, h1⟩ fun i hi => ?_
  · have e0 : fillB l a a c = l := by unfold fillB; rw [Nat.sub_self, List.replicate_zero, List.nil_append, List.take_append_drop]
    refine Ent.autoK 2 rfl (Nat.le_refl 2) ?_ ?_ <;> simp only [go_sem, reduceCtorEq, reduceIte, Nat.reduceEqDiff, Nat.reduceLT, Nat.reduceLeDiff, Int.natCast_succ, fromL, e0]
    all_goals first | rfl | omega
  obtain ⟨hi1, hi2⟩ := hi
  have hfl := fillB_len (l := l) (c := c) hi1 (by omega)
  by_cases hlt : i < t
  · have f1 : ((i : Int) < (t : Int)) = True := eq_true (by omega)
    have hst := fillB_set (l := l) (c := c) hi1 (by omega)
    (repeat' first | with_reducible (first | intro _ | refine rc ?_ | refine rl ?_ | refine rh ?_ | refine ru ?_ | refine rt ?_ | refine rf ?_ | refine rs ?_ | refine And.intro ?_ ?_) | omega | simp (maxSteps := 1000000) only [go_sem, simprocAttr, ↓reduceIte, f1, hfl, hst])
    refine ⟨i + 1, Ent.autoK 2 rfl (Nat.le_refl 2) ?_ ?_, ⟨by omega, by omega⟩, by omega⟩ <;> simp only [go_sem, reduceCtorEq, reduceIte, Nat.reduceEqDiff, Nat.reduceLT, Nat.reduceLeDiff, Int.natCast_succ, fromL, hst]
  · have e : i = t := by omega
    subst e
    have f1 : ((i : Int) < (i : Int)) = False := eq_false (by omega)
    (repeat' first | with_reducible (first | intro _ | refine rc ?_ | refine rl ?_ | refine rh ?_ | refine ru ?_ | refine rt ?_ | refine rf ?_ | refine rs ?_ | refine And.intro ?_ ?_) | omega | simp (maxSteps := 1000000) only [go_sem, simprocAttr, ↓reduceIte, f1])
    refine RetK.auto 2 (Nat.le_refl 2) ?_ rfl ?_ <;> simp only [go_sem, reduceCtorEq, reduceIte, Nat.reduceEqDiff, Nat.reduceLT, Nat.reduceLeDiff, Int.natCast_succ, fromL]
end Go.Fv.G
