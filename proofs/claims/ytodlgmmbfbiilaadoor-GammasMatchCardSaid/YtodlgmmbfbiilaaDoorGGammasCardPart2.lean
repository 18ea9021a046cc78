/-
  A part of the proof of the claim: walks over the program's functions and the plain laws that these need. No condition of its own.
-/
import Derived.Test.YtodlgmmbfbiilaaDoorGGammasCardPart1
import Derived.Test.YtodlgmmbfbiilaaDoorFvPart9
import Derived.Test.YtodlgmmbfbiilaaDoorFvPart6
import Derived.Lib.MapLaws
import Derived.Lib.DecodeN
/- strings.Trim at any set of small letters; IsName. -/
namespace Go.Fv.G
open Go Go.Proofs
set_option linter.unusedSimpArgs false
set_option linter.unusedVariables false
set_option linter.unnecessarySimpa false
set_option maxRecDepth 8000

def endOff (p : UInt8 → Bool) (s : List UInt8) : List UInt8 := (s.reverse.dropWhile p).reverse
def inCut (cut : List UInt8) (c : UInt8) : Bool := decide (c ∈ cut)
theorem asciiAt_get (s : List UInt8) (c : UInt8) : ∀ i, i ≤ s.length → (asciiAt s i).getD c.toNat false = decide (c ∈ s.take i)
  | 0, _ => by
    have h : c.toNat < 256 := c.toNat_lt
    rw [List.take_zero]
    show (List.replicate 256 false).getD c.toNat false = _
    rw [List.getD_eq_getElem?_getD, List.getElem?_replicate, if_pos h]
    simp
  | i + 1, h => by
    have ih := asciiAt_get s c i (by omega)
    have hlen := asciiAt_len s i
    have hlt : i < s.length := by omega
    have hc := c.toNat_lt
    have htk := List.take_succ_eq_append_getElem hlt
    rw [htk]
    simp only [asciiAt, List.getD_eq_getElem?_getD] at ih ⊢
    rw [List.getElem?_set]
    have e : s[i]?.getD 0 = s[i] := by simp [hlt]
    rw [e]
    by_cases hq : s[i].toNat = c.toNat
    · have hq2 : s[i] = c := UInt8.toNat_inj.1 hq
      rw [if_pos hq, if_pos (by rw [hlen]; omega)]
      simp [hq2]
    · rw [if_neg hq, ih]
      have hq2 : ¬ c = s[i] := fun h => hq (by rw [h])
      rw [Bool.eq_iff_iff, decide_eq_true_eq, decide_eq_true_eq, List.mem_append, List.mem_singleton]
      exact ⟨.inl, fun h => h.elim id fun h => absurd h hq2⟩
theorem last_of2 {s : List UInt8} (h0 : 0 < s.length) : s = s.take (s.length - 1) ++ [s.getD (s.length - 1) 0] := by
  rw [getD_lt (by omega), List.take_append_getElem (by omega), List.take_of_length_le (by omega)]
theorem endOff_snoc (p : UInt8 → Bool) (t : List UInt8) (c : UInt8) : endOff p (t ++ [c]) = if p c = true then endOff p t else t ++ [c] := by
  unfold endOff
  rw [List.reverse_append, List.reverse_singleton, List.singleton_append, List.dropWhile_cons]
  split <;> simp_all
theorem endOff_y {p : UInt8 → Bool} {s : List UInt8} (h0 : 0 < s.length) (h : p (s.getD (s.length - 1) 0) = true) : endOff p (s.take (s.length - 1)) = endOff p s := by
  conv => rhs; rw [last_of2 h0, endOff_snoc, if_pos h]
theorem endOff_n {p : UInt8 → Bool} {s : List UInt8} (h : 0 < s.length → p (s.getD (s.length - 1) 0) = false) : endOff p s = s := by
  by_cases h0 : 0 < s.length
  · conv => lhs; rw [last_of2 h0, endOff_snoc, if_neg (by rw [h h0]; decide)]
    exact (last_of2 h0).symm
  · have : s = [] := List.eq_nil_of_length_eq_zero (by omega)
    subst this; rfl
theorem dropW_y {p : UInt8 → Bool} {s : List UInt8} (h0 : 0 < s.length) (h : p (s.getD 0 0) = true) : (s.drop 1).dropWhile p = s.dropWhile p := by
  cases s with
  | nil => simp at h0
  | cons c t =>
    have h' : p c = true := h
    rw [List.dropWhile_cons, if_pos h']; rfl
theorem dropW_n {p : UInt8 → Bool} {s : List UInt8} (h : 0 < s.length → p (s.getD 0 0) = false) : s.dropWhile p = s := by
  cases s with
  | nil => rfl
  | cons c t => rw [List.dropWhile_cons, if_neg (by have := h (by simp); rw [show (c :: t).getD 0 0 = c from rfl] at this; rw [this]; decide)]
theorem dropW_nil {p : UInt8 → Bool} : ∀ {s : List UInt8}, s.dropWhile p = [] ↔ s.all p = true
  | [] => by simp
  | c :: t => by
    rw [List.dropWhile_cons, List.all_cons]
    cases h : p c with
    | true => simpa using dropW_nil
    | false => simp
theorem trim_nil (p : UInt8 → Bool) (s : List UInt8) : (endOff p s).dropWhile p = [] ↔ s.all p = true := by
  rw [dropW_nil]
  unfold endOff
  rw [List.all_reverse, ← dropW_nil]
  have hd : (s.reverse.dropWhile p).dropWhile p = s.reverse.dropWhile p := by
    generalize s.reverse = t
    induction t with
    | nil => rfl
    | cons c t ih =>
      rw [List.dropWhile_cons]
      cases h : p c with
      | true => simpa using ih
      | false => simp [List.dropWhile_cons, h]
  rw [hd, dropW_nil, List.all_reverse]
theorem containsU_ok (tab : List Bool) (hl : tab.length = 256) (c : UInt8) : FnOk Tryd.prog 54 [.cell (tab.map .bool), .int .u8 c.toNat] (.bool (tab.getD c.toNat false)) [] := by
  have h := contains_ok tab c.toNat hl (by omega) (by have := c.toNat_lt; omega)
  rwa [Int.toNat_natCast] at h

set_option maxHeartbeats 1000000 in
theorem trimLeftA_ok (tab : List Bool) (hl : tab.length = 256) (p : UInt8 → Bool) (hp : ∀ c : UInt8, tab.getD c.toNat false = p c) (s : List UInt8) :
    FnOk Tryd.prog 34 [.str s, .cell (tab.map .bool)] (.str (s.dropWhile p)) [] := by
  refine FnOk.of_vc Tryd.func34 rfl (by decide) (by simp [Tryd.f34]) [.tmp 4] rfl fun w0 T0 _ => ?_
  simp only [Tryd.f34, argEnv]
  (repeat' first | with_reducible (first | intro _ | refine rc ?_ | refine rl ?_ | refine rh ?_ | refine ru ?_ | refine rt ?_ | refine rf ?_ | refine rs ?_ | refine And.intro ?_ ?_) | omega | simp (maxSteps := 1000000) only [go_sem, reduceCtorEq, Nat.reduceLT, Nat.reduceLeDiff, reduceIte, ↓reduceIte, Nat.reduceEqDiff, Nat.reduceAdd, Nat.reduceMul, Nat.reduceSub, Int.reduceLE, Int.reduceLT, Int.reduceNeg, Int.reduceToNat])
  refine VcLoop.intro (fun t : List UInt8 => ⟨16, [(0, .str t), (1, .cell (tab.map .bool))], [], 0⟩) (fun t => t.dropWhile p = s.dropWhile p) (fun t => t.length) s ?_ rfl fun t he => ?_
  · refine Ent.auto0 rfl ?_ ?_ <;> simp only [go_sem, reduceCtorEq, reduceIte, Nat.reduceEqDiff, Nat.reduceLT, Nat.reduceLeDiff, Int.natCast_succ]
  (repeat' first | with_reducible (first | intro _ | refine rc ?_ | refine rl ?_ | refine rh ?_ | refine ru ?_ | refine rt ?_ | refine rf ?_ | refine rs ?_ | refine And.intro ?_ ?_) | omega | simp (maxSteps := 1000000) only [go_sem, reduceCtorEq, Nat.reduceLT, Nat.reduceLeDiff, reduceIte, ↓reduceIte, Nat.reduceEqDiff, Nat.reduceAdd, Nat.reduceMul, Nat.reduceSub, Int.reduceLE, Int.reduceLT, Int.reduceNeg, Int.reduceToNat])
  · have k := containsU_ok tab hl (t.getD 0 0)
    rw [hp] at k
    refine VcCall.fr (args' := [.cell (tab.map .bool), .int .u8 (t.getD 0 0).toNat]) (FnFr.of_ok k rfl rfl) (by simp [argOkL, allOk, argOkN]) 0 rfl (by simp [rowsB]) ?_
    cases hq : p (t.getD 0 0) with
    | true =>
      (repeat' first | with_reducible (first | intro _ | refine rc ?_ | refine rl ?_ | refine rh ?_ | refine ru ?_ | refine rt ?_ | refine rf ?_ | refine rs ?_ | refine And.intro ?_ ?_) | omega | simp (maxSteps := 1000000) only [go_sem, reduceCtorEq, Nat.reduceLT, Nat.reduceLeDiff, reduceIte, ↓reduceIte, Nat.reduceEqDiff, Nat.reduceAdd, Nat.reduceMul, Nat.reduceSub, Int.reduceLE, Int.reduceLT, Int.reduceNeg, Int.reduceToNat])
      refine ⟨t.drop 1, Ent.auto0 rfl ?_ ?_, ?_, ?_⟩
      · simp only [go_sem, reduceCtorEq, reduceIte, Nat.reduceEqDiff, Nat.reduceLT, Nat.reduceLeDiff, Int.natCast_succ]
        all_goals first | rfl | exact List.take_of_length_le (by simp)
      · simp only [go_sem, reduceCtorEq, reduceIte, Nat.reduceEqDiff, Nat.reduceLT, Nat.reduceLeDiff, Int.natCast_succ]
      · rw [dropW_y (by omega) hq]; exact he
      · simp; omega
    | false =>
      have e : t = s.dropWhile p := by rw [← he, dropW_n (fun _ => hq)]
      (repeat' first | with_reducible (first | intro _ | refine rc ?_ | refine rl ?_ | refine rh ?_ | refine ru ?_ | refine rt ?_ | refine rf ?_ | refine rs ?_ | refine And.intro ?_ ?_) | omega | simp (maxSteps := 1000000) only [go_sem, reduceCtorEq, Nat.reduceLT, Nat.reduceLeDiff, reduceIte, ↓reduceIte, Nat.reduceEqDiff, Nat.reduceAdd, Nat.reduceMul, Nat.reduceSub, Int.reduceLE, Int.reduceLT, Int.reduceNeg, Int.reduceToNat])
      refine Ret.auto 0 ?_ rfl ?_ <;> simp only [go_sem, reduceCtorEq, reduceIte, Nat.reduceEqDiff, Nat.reduceLT, Nat.reduceLeDiff, Int.natCast_succ, Post, e]
  · have e : t = s.dropWhile p := by rw [← he, dropW_n (fun h => by omega)]
    refine Ret.auto 0 ?_ rfl ?_ <;> simp only [go_sem, reduceCtorEq, reduceIte, Nat.reduceEqDiff, Nat.reduceLT, Nat.reduceLeDiff, Int.natCast_succ, Post, e]
set_option maxHeartbeats 1000000 in
theorem trimRightA_ok (tab : List Bool) (hl : tab.length = 256) (p : UInt8 → Bool) (hp : ∀ c : UInt8, tab.getD c.toNat false = p c) (s : List UInt8) :
    FnOk Tryd.prog 35 [.str s, .cell (tab.map .bool)] (.str (endOff p s)) [] := by
  refine FnOk.of_vc Tryd.func35 rfl (by decide) (by simp [Tryd.f35]) [.tmp 4] rfl fun w0 T0 _ => ?_
  simp only [Tryd.f35, argEnv]
  (repeat' first | with_reducible (first | intro _ | refine rc ?_ | refine rl ?_ | refine rh ?_ | refine ru ?_ | refine rt ?_ | refine rf ?_ | refine rs ?_ | refine And.intro ?_ ?_) | omega | simp (maxSteps := 1000000) only [go_sem, reduceCtorEq, Nat.reduceLT, Nat.reduceLeDiff, reduceIte, ↓reduceIte, Nat.reduceEqDiff, Nat.reduceAdd, Nat.reduceMul, Nat.reduceSub, Int.reduceLE, Int.reduceLT, Int.reduceNeg, Int.reduceToNat])
  refine VcLoop.intro (fun t : List UInt8 => ⟨22, [(0, .str t), (1, .cell (tab.map .bool))], [], 0⟩) (fun t => endOff p t = endOff p s) (fun t => t.length) s ?_ rfl fun t he => ?_
  · refine Ent.auto0 rfl ?_ ?_ <;> simp only [go_sem, reduceCtorEq, reduceIte, Nat.reduceEqDiff, Nat.reduceLT, Nat.reduceLeDiff, Int.natCast_succ]
  have et : ((t.length : Int) - 1).toNat = t.length - 1 := by omega
  (repeat' first | with_reducible (first | intro _ | refine rc ?_ | refine rl ?_ | refine rh ?_ | refine ru ?_ | refine rt ?_ | refine rf ?_ | refine rs ?_ | refine And.intro ?_ ?_) | omega | simp (maxSteps := 1000000) only [go_sem, reduceCtorEq, Nat.reduceLT, Nat.reduceLeDiff, reduceIte, ↓reduceIte, Nat.reduceEqDiff, Nat.reduceAdd, Nat.reduceMul, Nat.reduceSub, Int.reduceLE, Int.reduceLT, Int.reduceNeg, Int.reduceToNat, et])
  · have k := containsU_ok tab hl (t.getD (t.length - 1) 0)
    rw [hp] at k
    refine VcCall.fr (args' := [.cell (tab.map .bool), .int .u8 (t.getD (t.length - 1) 0).toNat]) (FnFr.of_ok k rfl rfl) (by simp [argOkL, allOk, argOkN]) 0 rfl (by simp [rowsB]) ?_
    cases hq : p (t.getD (t.length - 1) 0) with
    | true =>
      (repeat' first | with_reducible (first | intro _ | refine rc ?_ | refine rl ?_ | refine rh ?_ | refine ru ?_ | refine rt ?_ | refine rf ?_ | refine rs ?_ | refine And.intro ?_ ?_) | omega | simp (maxSteps := 1000000) only [go_sem, reduceCtorEq, Nat.reduceLT, Nat.reduceLeDiff, reduceIte, ↓reduceIte, Nat.reduceEqDiff, Nat.reduceAdd, Nat.reduceMul, Nat.reduceSub, Int.reduceLE, Int.reduceLT, Int.reduceNeg, Int.reduceToNat, et])
      refine ⟨t.take (t.length - 1), Ent.auto0 rfl ?_ ?_, ?_, ?_⟩
      · simp only [go_sem, reduceCtorEq, reduceIte, Nat.reduceEqDiff, Nat.reduceLT, Nat.reduceLeDiff, Int.natCast_succ, et]
        all_goals rfl
      · simp only [go_sem, reduceCtorEq, reduceIte, Nat.reduceEqDiff, Nat.reduceLT, Nat.reduceLeDiff, Int.natCast_succ]
      · rw [endOff_y (by omega) hq]; exact he
      · simp; omega
    | false =>
      have e : t = endOff p s := by rw [← he, endOff_n (fun _ => hq)]
      (repeat' first | with_reducible (first | intro _ | refine rc ?_ | refine rl ?_ | refine rh ?_ | refine ru ?_ | refine rt ?_ | refine rf ?_ | refine rs ?_ | refine And.intro ?_ ?_) | omega | simp (maxSteps := 1000000) only [go_sem, reduceCtorEq, Nat.reduceLT, Nat.reduceLeDiff, reduceIte, ↓reduceIte, Nat.reduceEqDiff, Nat.reduceAdd, Nat.reduceMul, Nat.reduceSub, Int.reduceLE, Int.reduceLT, Int.reduceNeg, Int.reduceToNat])
      refine Ret.auto 0 ?_ rfl ?_ <;> simp only [go_sem, reduceCtorEq, reduceIte, Nat.reduceEqDiff, Nat.reduceLT, Nat.reduceLeDiff, Int.natCast_succ, Post, e]
  · have e : t = endOff p s := by rw [← he, endOff_n (fun h => by omega)]
    refine Ret.auto 0 ?_ rfl ?_ <;> simp only [go_sem, reduceCtorEq, reduceIte, Nat.reduceEqDiff, Nat.reduceLT, Nat.reduceLeDiff, Int.natCast_succ, Post, e]

set_option maxHeartbeats 1000000 in
theorem trimA_ok (s cut : List UInt8) (hc : ∀ i, i < cut.length → (cut.getD i 0).toNat < 128) (h2 : 2 ≤ cut.length) :
    FnOk Tryd.prog 17 [.str s, .str cut] (.str ((endOff (inCut cut) s).dropWhile (inCut cut))) [] := by
  have hlen := asciiAt_len cut cut.length
  have km := makeAscii_ok cut hc
  have hg : ∀ c : UInt8, (asciiAt cut cut.length).getD c.toNat false = inCut cut c := fun c => by
    rw [asciiAt_get cut c _ (Nat.le_refl _), List.take_length]; rfl
  have hne : ¬ cut = [] := fun e => by subst e; simp at h2
  refine FnOk.of_vc Tryd.func17 rfl (by decide) (by simp [Tryd.f17]) [.tmp 4] rfl fun w0 T0 _ => ?_
  simp only [Tryd.f17, argEnv]
  by_cases h0 : s = []
  · have e : (endOff (inCut cut) []).dropWhile (inCut cut) = [] := rfl
    (repeat' first | with_reducible (first | intro _ | refine rc ?_ | refine rl ?_ | refine rh ?_ | refine ru ?_ | refine rt ?_ | refine rf ?_ | refine rs ?_ | refine And.intro ?_ ?_) | omega | simp (maxSteps := 1000000) only [go_sem, reduceCtorEq, Nat.reduceLT, Nat.reduceLeDiff, reduceIte, ↓reduceIte, Nat.reduceEqDiff, Nat.reduceAdd, Nat.reduceMul, Nat.reduceSub, Int.reduceLE, Int.reduceLT, Int.reduceNeg, Int.reduceToNat, h0])
    refine Ret.auto 0 ?_ rfl ?_ <;> simp only [go_sem, reduceCtorEq, reduceIte, Nat.reduceEqDiff, Nat.reduceLT, Nat.reduceLeDiff, Int.natCast_succ, Post, e]
  generalize inCut cut = p at *
  (repeat' first | with_reducible (first | intro _ | refine rc ?_ | refine rl ?_ | refine rh ?_ | refine ru ?_ | refine rt ?_ | refine rf ?_ | refine rs ?_ | refine And.intro ?_ ?_) | omega | simp (maxSteps := 1000000) only [go_sem, reduceCtorEq, Nat.reduceLT, Nat.reduceLeDiff, reduceIte, ↓reduceIte, Nat.reduceEqDiff, Nat.reduceAdd, Nat.reduceMul, Nat.reduceSub, Int.reduceLE, Int.reduceLT, Int.reduceNeg, Int.reduceToNat, h0, hne])
  refine VcCall.fr (args' := [.str cut]) (FnFr.of_ok km (by simp [noRo, noRoL, noRoL_bools]) rfl) (by simp [argOkL, allOk, argOkN]) 0 (by simp [Fv.below, belowL, belowL_bools]) (by simp [rowsB]) ?_
  generalize asciiAt cut cut.length = tab at hlen hg ⊢
  simp (maxSteps := 1000000) only [go_sem, reduceCtorEq, Nat.reduceLT, Nat.reduceLeDiff, reduceIte, ↓reduceIte, Nat.reduceEqDiff, Nat.reduceAdd, Nat.reduceMul, Nat.reduceSub, Int.reduceLE, Int.reduceLT, Int.reduceNeg, Int.reduceToNat]
  have e1 : spl (List.replicate 256 (AV.bool false)) 0 (tab.map .bool) = tab.map .bool := spl_all (by simp [hlen])
  refine Chk.intro (by simp [hlen]) ?_
  rw [e1]
  refine Chk.intro (by omega) ?_
  refine VcCall.fr (args' := [.str s, .cell (tab.map .bool)]) (FnFr.of_ok (trimRightA_ok tab hlen p hg s) rfl rfl) ?_ 0 rfl (by simp [rowsB]) ?_
  · exact ⟨_, _, rfl, ⟨_, _, ⟨_, _, _, rfl, allOk_bools _ 4 _, rfl⟩, rfl, rfl⟩, rfl⟩
  simp (maxSteps := 1000000) only [go_sem, reduceCtorEq, Nat.reduceLT, Nat.reduceLeDiff, reduceIte, ↓reduceIte, Nat.reduceEqDiff, Nat.reduceAdd, Nat.reduceMul, Nat.reduceSub, Int.reduceLE, Int.reduceLT, Int.reduceNeg, Int.reduceToNat]
  refine VcCall.fr (args' := [.str (endOff p s), .cell (tab.map .bool)]) (FnFr.of_ok (trimLeftA_ok tab hlen p hg (endOff p s)) rfl rfl) ?_ 0 rfl (by simp [rowsB]) ?_
  · exact ⟨_, _, rfl, ⟨_, _, ⟨_, _, _, rfl, allOk_bools _ 4 _, rfl⟩, rfl, rfl⟩, rfl⟩
  simp (maxSteps := 1000000) only [go_sem, reduceCtorEq, Nat.reduceLT, Nat.reduceLeDiff, reduceIte, ↓reduceIte, Nat.reduceEqDiff, Nat.reduceAdd, Nat.reduceMul, Nat.reduceSub, Int.reduceLE, Int.reduceLT, Int.reduceNeg, Int.reduceToNat]
  refine Ret.auto 0 ?_ rfl ?_ <;> simp only [go_sem, reduceCtorEq, reduceIte, Nat.reduceEqDiff, Nat.reduceLT, Nat.reduceLeDiff, Int.natCast_succ, Post]

/-- A name. -/
def nameB (c : UInt8) : Bool := decide (97 ≤ c.toNat) && decide (c.toNat ≤ 122) || decide (48 ≤ c.toNat) && decide (c.toNat ≤ 57) || decide (c.toNat = 45)
def nameOk (s : List UInt8) : Bool := decide (s ≠ []) && decide (s.length ≤ 40) && (decide (97 ≤ (s.getD 0 0).toNat) && decide ((s.getD 0 0).toNat ≤ 122)) && s.all nameB
set_option maxRecDepth 20000 in
theorem cut_name : ∀ n : Nat, n < 256 → inCut cutset (UInt8.ofNat n) = nameB (UInt8.ofNat n) := by decide
theorem inCut_name : inCut cutset = nameB := funext fun c => by
  have h := cut_name c.toNat c.toNat_lt
  simpa using h
set_option maxHeartbeats 1000000 in
theorem isName_ok (s : List UInt8) : FnOk Tryd.prog 15 [.str s] (.bool (nameOk s)) [] := by
  have k := trimA_ok s cutset cut_small (by decide)
  rw [inCut_name] at k
  have ht := trim_nil nameB s
  have hcut : cutset = [97, 98, 99, 100, 101, 102, 103, 104, 105, 106, 107, 108, 109, 110, 111, 112, 113, 114, 115, 116, 117, 118, 119, 120, 121, 122, 48, 49, 50, 51, 52, 53, 54, 55, 56, 57, 45] := rfl
  unfold nameOk
  generalize endOff nameB s = t at *
  generalize t.dropWhile nameB = t at *
  generalize s.all nameB = a at *
  refine FnOk.of_vc Tryd.func15 rfl (by decide) (by simp [Tryd.f15]) [.tmp 2] rfl fun w0 T0 _ => ?_
  simp only [Tryd.f15, argEnv]
  by_cases h0 : s = []
  · (repeat' first | with_reducible (first | intro _ | refine rc ?_ | refine rl ?_ | refine rh ?_ | refine ru ?_ | refine rt ?_ | refine rf ?_ | refine rs ?_ | refine And.intro ?_ ?_) | omega | simp (maxSteps := 1000000) only [go_sem, reduceCtorEq, Nat.reduceLT, Nat.reduceLeDiff, reduceIte, ↓reduceIte, Nat.reduceEqDiff, Nat.reduceAdd, Nat.reduceMul, Nat.reduceSub, Int.reduceLE, Int.reduceLT, Int.reduceNeg, Int.reduceToNat, h0])
    refine Ret.auto 0 ?_ rfl ?_ <;> simp only [go_sem, reduceCtorEq, reduceIte, Nat.reduceEqDiff, Nat.reduceLT, Nat.reduceLeDiff, Int.natCast_succ, Post]
    all_goals simp
  · have hlp : 0 < s.length := List.length_pos_iff.2 h0
    (repeat' first | with_reducible (first | intro _ | refine rc ?_ | refine rl ?_ | refine rh ?_ | refine ru ?_ | refine rt ?_ | refine rf ?_ | refine rs ?_ | refine And.intro ?_ ?_) | omega | simp (maxSteps := 1000000) only [go_sem, reduceCtorEq, Nat.reduceLT, Nat.reduceLeDiff, reduceIte, ↓reduceIte, Nat.reduceEqDiff, Nat.reduceAdd, Nat.reduceMul, Nat.reduceSub, Int.reduceLE, Int.reduceLT, Int.reduceNeg, Int.reduceToNat, h0])
    all_goals first
      | (refine VcCall.fr (args' := [.str s, .str cutset]) (FnFr.of_ok k rfl rfl) (by simp [argOkL, allOk, argOkN, cutset]) 0 rfl (by simp [rowsB]) ?_
         (repeat' first | with_reducible (first | intro _ | refine rc ?_ | refine rl ?_ | refine rh ?_ | refine ru ?_ | refine rt ?_ | refine rf ?_ | refine rs ?_ | refine And.intro ?_ ?_) | omega | simp (maxSteps := 1000000) only [go_sem, reduceCtorEq, Nat.reduceLT, Nat.reduceLeDiff, reduceIte, ↓reduceIte, Nat.reduceEqDiff, Nat.reduceAdd, Nat.reduceMul, Nat.reduceSub, Int.reduceLE, Int.reduceLT, Int.reduceNeg, Int.reduceToNat])
         refine Ret.auto 0 ?_ rfl ?_ <;> simp only [go_sem, reduceCtorEq, reduceIte, Nat.reduceEqDiff, Nat.reduceLT, Nat.reduceLeDiff, Int.natCast_succ, Post])
      | (refine Ret.auto 0 ?_ rfl ?_ <;> simp only [go_sem, reduceCtorEq, reduceIte, Nat.reduceEqDiff, Nat.reduceLT, Nat.reduceLeDiff, Int.natCast_succ, Post])
    all_goals
      rw [Bool.eq_iff_iff]
      simp only [Bool.and_eq_true, decide_eq_true_eq, ht, Bool.false_eq_true, false_iff]
      first
        | exact ⟨fun ha => ⟨⟨⟨h0, by omega⟩, by omega, by omega⟩, ha⟩, fun h => h.2⟩
        | (intro h; omega)
end Go.Fv.G

/- Reading a number: the walk of ReadGamma. -/
namespace Go.Fv.G
open Go Go.Proofs
set_option linter.unusedSimpArgs false
set_option linter.unusedVariables false
set_option linter.unnecessarySimpa false
set_option maxRecDepth 8000

theorem inCut01 : inCut [48, 49] = is01 := funext fun c => by
  unfold inCut is01
  simp
theorem trim01 (l : Bytes) : ((endOff (inCut [48, 49]) l).dropWhile (inCut [48, 49]) = []) ↔ l.all is01 = true := by rw [inCut01]; exact trim_nil is01 l
set_option maxHeartbeats 4000000 in
theorem readG_ok (s : Bytes) (hs : s.length ≤ 300000000000000) : FnOk Tryd.prog 7 [.str s] (.tup [.int .i64 (rdN s), .int .i64 (rdL s), .int .i64 (rdE 8 s)]) [] := by
  have hle := lead_le s
  have hat := lead_at s
  have hst := lead_stop s
  refine FnOk.of_vc Tryd.func7 rfl (by decide) (by simp [Tryd.f7]) [.tmp 2, .tmp 3, .tmp 4] rfl fun w0 T0 _ => ?_
  simp only [Tryd.f7, argEnv]
  (repeat' first | with_reducible (first | intro _ | refine rc ?_ | refine rl ?_ | refine rh ?_ | refine ru ?_ | refine rt ?_ | refine rf ?_ | refine rs ?_ | refine And.intro ?_ ?_) | omega | simp (maxSteps := 1000000) only [go_sem, simprocAttr, ↓reduceIte])
  refine VcLoop.intro (fun z : Nat => ⟨62, [(5, .int .i64 z), (0, .str s)], [], 0⟩) (fun z => z ≤ leadB s) (fun z => s.length - z) 0 ?_ (Nat.zero_le _) fun z hz => ?_
  · refine Ent.auto0 rfl ?_ ?_ <;> simp only [go_sem, reduceCtorEq, reduceIte, Nat.reduceEqDiff, Nat.reduceLT, Nat.reduceLeDiff, Int.natCast_succ]
  by_cases hlt : z < leadB s
  · have e := hat z hlt
    have f1 : ((z : Int) < (s.length : Int)) = True := eq_true (by omega)
    have f2 : (((s.getD z 0).toNat : Int) = 48) = True := eq_true (by rw [e]; rfl)
    (repeat' first | with_reducible (first | intro _ | refine rc ?_ | refine rl ?_ | refine rh ?_ | refine ru ?_ | refine rt ?_ | refine rf ?_ | refine rs ?_ | refine And.intro ?_ ?_) | omega | simp (maxSteps := 1000000) only [go_sem, simprocAttr, ↓reduceIte, f1, f2])
    refine ⟨z + 1, Ent.auto0 rfl ?_ ?_, by omega, by omega⟩ <;> simp only [go_sem, reduceCtorEq, reduceIte, Nat.reduceEqDiff, Nat.reduceLT, Nat.reduceLeDiff, Int.natCast_succ]
  have hz : z = leadB s := by omega
  subst hz
  have hno : ∀ h : rdG s = none, rdN s = 0 ∧ rdL s = 0 ∧ rdE 8 s = 8 := fun h => by unfold rdN rdL rdE; rw [h]; exact ⟨rfl, rfl, rfl⟩
  have fin : leadB s < s.length → (((s.getD (leadB s) 0).toNat : Int) = 48) = False := fun c0 => eq_false fun h => hst c0 (UInt8.toNat_inj.1 (by show _ = 48; omega))
  by_cases c1 : 20 < leadB s
  · obtain ⟨r1, r2, r3⟩ := hno (rdG_none fun h => by omega)
    have f3 : (20 < (leadB s : Int)) = True := eq_true (by omega)
    by_cases c0 : leadB s < s.length
    · have f1 : ((leadB s : Int) < (s.length : Int)) = True := eq_true (by omega)
      have f2 := fin c0
      (repeat' first | with_reducible (first | intro _ | refine rc ?_ | refine rl ?_ | refine rh ?_ | refine ru ?_ | refine rt ?_ | refine rf ?_ | refine rs ?_ | refine And.intro ?_ ?_) | omega | simp (maxSteps := 1000000) only [go_sem, simprocAttr, ↓reduceIte, f1, f2, f3])
      refine Ret.auto 0 ?_ rfl ?_ <;> simp only [go_sem, reduceCtorEq, reduceIte, Nat.reduceEqDiff, Nat.reduceLT, Nat.reduceLeDiff, Int.natCast_succ, Post, r1, r2, r3]
    · have f1 : ((leadB s : Int) < (s.length : Int)) = False := eq_false (by omega)
      (repeat' first | with_reducible (first | intro _ | refine rc ?_ | refine rl ?_ | refine rh ?_ | refine ru ?_ | refine rt ?_ | refine rf ?_ | refine rs ?_ | refine And.intro ?_ ?_) | omega | simp (maxSteps := 1000000) only [go_sem, simprocAttr, ↓reduceIte, f1, f3])
      refine Ret.auto 0 ?_ rfl ?_ <;> simp only [go_sem, reduceCtorEq, reduceIte, Nat.reduceEqDiff, Nat.reduceLT, Nat.reduceLeDiff, Int.natCast_succ, Post, r1, r2, r3]
  have f3 : (20 < (leadB s : Int)) = False := eq_false (by omega)
  by_cases c2 : s.length < 2 * leadB s + 1
  · obtain ⟨r1, r2, r3⟩ := hno (rdG_none fun h => by omega)
    have f4 : ((s.length : Int) < 2 * (leadB s : Int) + 1) = True := eq_true (by omega)
    by_cases c0 : leadB s < s.length
    · have f1 : ((leadB s : Int) < (s.length : Int)) = True := eq_true (by omega)
      have f2 := fin c0
      (repeat' first | with_reducible (first | intro _ | refine rc ?_ | refine rl ?_ | refine rh ?_ | refine ru ?_ | refine rt ?_ | refine rf ?_ | refine rs ?_ | refine And.intro ?_ ?_) | omega | simp (maxSteps := 1000000) only [go_sem, simprocAttr, ↓reduceIte, f1, f2, f3, f4])
      refine Ret.auto 0 ?_ rfl ?_ <;> simp only [go_sem, reduceCtorEq, reduceIte, Nat.reduceEqDiff, Nat.reduceLT, Nat.reduceLeDiff, Int.natCast_succ, Post, r1, r2, r3]
    · have f1 : ((leadB s : Int) < (s.length : Int)) = False := eq_false (by omega)
      (repeat' first | with_reducible (first | intro _ | refine rc ?_ | refine rl ?_ | refine rh ?_ | refine ru ?_ | refine rt ?_ | refine rf ?_ | refine rs ?_ | refine And.intro ?_ ?_) | omega | simp (maxSteps := 1000000) only [go_sem, simprocAttr, ↓reduceIte, f1, f3, f4])
      refine Ret.auto 0 ?_ rfl ?_ <;> simp only [go_sem, reduceCtorEq, reduceIte, Nat.reduceEqDiff, Nat.reduceLT, Nat.reduceLeDiff, Int.natCast_succ, Post, r1, r2, r3]
  have f4 : ((s.length : Int) < 2 * (leadB s : Int) + 1) = False := eq_false (by omega)
  have c0 : leadB s < s.length := by omega
  have f1 : ((leadB s : Int) < (s.length : Int)) = True := eq_true (by omega)
  have f2 := fin c0
  obtain ⟨m1, m2⟩ := lead_mem (s := s) (by omega)
  have hcut : (2 * (leadB s : Int) + 1).toNat - leadB s = leadB s + 1 := by omega
  by_cases c3 : s.getD (leadB s) 0 = 49
  rotate_left
  · obtain ⟨r1, r2, r3⟩ := hno (rdG_none fun h => by
      have := all_at (l := (s.drop (leadB s)).take (leadB s + 1)) (p := 0) (by omega) h.2.2.1
      rw [m2] at this
      exact this.elim (hst c0) c3)
    have f5 : (((s.getD (leadB s) 0).toNat : Int) = 49) = False := eq_false fun h => c3 (UInt8.toNat_inj.1 (by show _ = 49; omega))
    (repeat' first | with_reducible (first | intro _ | refine rc ?_ | refine rl ?_ | refine rh ?_ | refine ru ?_ | refine rt ?_ | refine rf ?_ | refine rs ?_ | refine And.intro ?_ ?_) | omega | simp (maxSteps := 1000000) only [go_sem, simprocAttr, ↓reduceIte, f1, f2, f3, f4, f5, Bool.false_or, Bool.or_false])
    · rename_i h; simp at h
    · refine Ret.auto 0 ?_ rfl ?_ <;> simp only [go_sem, reduceCtorEq, reduceIte, Nat.reduceEqDiff, Nat.reduceLT, Nat.reduceLeDiff, Int.natCast_succ, Post, r1, r2, r3]
  have f5 : (((s.getD (leadB s) 0).toNat : Int) = 49) = True := eq_true (by rw [c3]; rfl)
  have kt := trimA_ok ((s.drop (leadB s)).take (leadB s + 1)) [48, 49] (by intro i hi; have : i = 0 ∨ i = 1 := (by simp at hi; omega); rcases this with rfl | rfl <;> decide) (by decide)
  have ht := trim01 ((s.drop (leadB s)).take (leadB s + 1))
  have hsome := @rdG_some s
  have hnone := @rdG_none s
  generalize (endOff (inCut [48, 49]) ((s.drop (leadB s)).take (leadB s + 1))).dropWhile (inCut [48, 49]) = tr at *
  by_cases c4 : ((s.drop (leadB s)).take (leadB s + 1)).all is01 = true
  rotate_left
  · obtain ⟨r1, r2, r3⟩ := hno (hnone fun h => c4 h.2.2.1)
    have f6 : (tr = []) = False := eq_false fun h => c4 (ht.1 h)
    (repeat' first | with_reducible (first | intro _ | refine rc ?_ | refine rl ?_ | refine rh ?_ | refine ru ?_ | refine rt ?_ | refine rf ?_ | refine rs ?_ | refine And.intro ?_ ?_) | omega | simp (maxSteps := 1000000) only [go_sem, simprocAttr, ↓reduceIte, f1, f2, f3, f4, f5, hcut, Bool.false_or, Bool.or_false])
    refine VcCall.k (kt) ?_
    (repeat' first | with_reducible (first | intro _ | refine rc ?_ | refine rl ?_ | refine rh ?_ | refine ru ?_ | refine rt ?_ | refine rf ?_ | refine rs ?_ | refine And.intro ?_ ?_) | omega | simp (maxSteps := 1000000) only [go_sem, simprocAttr, ↓reduceIte, f6])
    refine Ret.auto 0 ?_ rfl ?_ <;> simp only [go_sem, reduceCtorEq, reduceIte, Nat.reduceEqDiff, Nat.reduceLT, Nat.reduceLeDiff, Int.natCast_succ, Post, r1, r2, r3]
  have f6 : (tr = []) = True := eq_true (ht.2 c4)
  have kp := parseI_ok ((s.drop (leadB s)).take (leadB s + 1)) c4 (fun e => by rw [e] at m1; simp at m1) (by omega)
  by_cases c5 : valB ((s.drop (leadB s)).take (leadB s + 1)) ≤ 1048576
  · have hr := hsome ⟨by omega, by omega, c4, c5⟩
    have r1 : rdN s = (valB ((s.drop (leadB s)).take (leadB s + 1)) : Int) := by unfold rdN; rw [hr]
    have r2 : rdL s = 2 * (leadB s : Int) + 1 := by unfold rdL; rw [hr]; rfl
    have r3 : rdE 8 s = 0 := by unfold rdE; rw [hr]
    generalize valB ((s.drop (leadB s)).take (leadB s + 1)) = v at *
    have f7 : (1048576 < (v : Int)) = False := eq_false (by omega)
    (repeat' first | with_reducible (first | intro _ | refine rc ?_ | refine rl ?_ | refine rh ?_ | refine ru ?_ | refine rt ?_ | refine rf ?_ | refine rs ?_ | refine And.intro ?_ ?_) | omega | simp (maxSteps := 1000000) only [go_sem, simprocAttr, ↓reduceIte, f1, f2, f3, f4, f5, hcut, Bool.false_or, Bool.or_false])
    refine VcCall.k (kt) ?_
    (repeat' first | with_reducible (first | intro _ | refine rc ?_ | refine rl ?_ | refine rh ?_ | refine ru ?_ | refine rt ?_ | refine rf ?_ | refine rs ?_ | refine And.intro ?_ ?_) | omega | simp (maxSteps := 1000000) only [go_sem, simprocAttr, ↓reduceIte, f6, hcut])
    refine VcCall.k (kp) ?_
    (repeat' first | with_reducible (first | intro _ | refine rc ?_ | refine rl ?_ | refine rh ?_ | refine ru ?_ | refine rt ?_ | refine rf ?_ | refine rs ?_ | refine And.intro ?_ ?_) | omega | simp (maxSteps := 1000000) only [go_sem, simprocAttr, ↓reduceIte, f7])
    refine Ret.auto 0 ?_ rfl ?_ <;> simp only [go_sem, reduceCtorEq, reduceIte, Nat.reduceEqDiff, Nat.reduceLT, Nat.reduceLeDiff, Int.natCast_succ, Post, r1, r2, r3]
  · obtain ⟨r1, r2, r3⟩ := hno (hnone fun h => c5 h.2.2.2)
    generalize valB ((s.drop (leadB s)).take (leadB s + 1)) = v at *
    have f7 : (1048576 < (v : Int)) = True := eq_true (by omega)
    (repeat' first | with_reducible (first | intro _ | refine rc ?_ | refine rl ?_ | refine rh ?_ | refine ru ?_ | refine rt ?_ | refine rf ?_ | refine rs ?_ | refine And.intro ?_ ?_) | omega | simp (maxSteps := 1000000) only [go_sem, simprocAttr, ↓reduceIte, f1, f2, f3, f4, f5, hcut, Bool.false_or, Bool.or_false])
    refine VcCall.k (kt) ?_
    (repeat' first | with_reducible (first | intro _ | refine rc ?_ | refine rl ?_ | refine rh ?_ | refine ru ?_ | refine rt ?_ | refine rf ?_ | refine rs ?_ | refine And.intro ?_ ?_) | omega | simp (maxSteps := 1000000) only [go_sem, simprocAttr, ↓reduceIte, f6, hcut])
    refine VcCall.k (kp) ?_
    (repeat' first | with_reducible (first | intro _ | refine rc ?_ | refine rl ?_ | refine rh ?_ | refine ru ?_ | refine rt ?_ | refine rf ?_ | refine rs ?_ | refine And.intro ?_ ?_) | omega | simp (maxSteps := 1000000) only [go_sem, simprocAttr, ↓reduceIte, f7])
    refine Ret.auto 0 ?_ rfl ?_ <;> simp only [go_sem, reduceCtorEq, reduceIte, Nat.reduceEqDiff, Nat.reduceLT, Nat.reduceLeDiff, Int.natCast_succ, Post, r1, r2, r3]
end Go.Fv.G

/- Runes below 128 are bytes. -/
namespace Go.Fv.G
open Go
set_option linter.unusedSimpArgs false
set_option linter.unusedVariables false
set_option linter.unnecessarySimpa false

theorem get_lR (l : List UInt8) (j : Nat) : (⟨l.toArray⟩ : ByteArray).get! j = l.getD j 0 := by
  show (l.toArray)[j]! = _
  by_cases h : j < l.length
  · simp [h, List.getD]
  · simp [h, List.getD]; rfl
theorem rune_big {l : List UInt8} {p : Nat} (h : p < l.length) : ((l.getD p 0).toNat < 128 ∧ runeAt l p = ((l.getD p 0).toNat : Int) ∧ wideAt l p = 1) ∨ (128 ≤ (l.getD p 0).toNat ∧ 128 ≤ runeAt l p) := by
  unfold wideAt runeAt
  rw [Lib.decode_at]
  have hs : (⟨l.toArray⟩ : ByteArray).size = l.length := rfl
  simp only [get_lR, hs]
  have b0 : (l.getD p 0).toNat < 256 := (l.getD p 0).toNat_lt
  by_cases ha : (l.getD p 0).toNat < 128
  · have e : Lib.decodeN (l.length - p) (l.getD p 0).toNat (l.getD (p + 1) 0).toNat (l.getD (p + 2) 0).toNat (l.getD (p + 3) 0).toNat = ((l.getD p 0).toNat, 1) := by
      unfold Lib.decodeN; rw [if_pos ha]
    rw [e]
    exact .inl ⟨ha, rfl, rfl⟩
  refine .inr ⟨by omega, ?_⟩
  rcases Lib.decodeN_shape (l.length - p) (l.getD p 0).toNat (l.getD (p + 1) 0).toNat (l.getD (p + 2) 0).toNat (l.getD (p + 3) 0).toNat with ⟨c, e⟩ | ⟨c1, c2, c3, cv, e⟩ | ⟨c1, c2, c3, c4, cv, cs, e⟩ | ⟨c1, c2, c3, c4, c5, cv, cw, e⟩ | e
  · omega
  all_goals rw [e]; dsimp only; omega
theorem rune_bd {l : List UInt8} {p : Nat} : 0 ≤ runeAt l p ∧ runeAt l p ≤ 1114111 := by
  have := Lib.rune_le ⟨l.toArray⟩ p
  unfold runeAt; omega
end Go.Fv.G

/- Reading a number: the walk of the reference's ReadGamma. -/
namespace Go.Fv.G
open Go Go.Proofs
set_option linter.unusedSimpArgs false
set_option linter.unusedVariables false
set_option linter.unnecessarySimpa false
set_option maxRecDepth 8000

set_option maxHeartbeats 4000000 in
theorem refReadG_ok (s : Bytes) (hs : s.length ≤ 300000000000000) : FnOk Tryd.prog 9 [.str s] (.tup [.int .i64 (rdN s), .int .i64 (rdL s), .int .i64 (rdE 8 s)]) [] := by
  have hle := lead_le s
  have hat := lead_at s
  have hst := lead_stop s
  refine FnOk.of_vc Tryd.func9 rfl (by decide) (by simp [Tryd.f9]) [.tmp 2, .tmp 3, .tmp 4] rfl fun w0 T0 _ => ?_
  simp only [Tryd.f9, argEnv]
  (repeat' first | with_reducible (first | intro _ | refine rc ?_ | refine rl ?_ | refine rh ?_ | refine ru ?_ | refine rt ?_ | refine rf ?_ | refine rs ?_ | refine And.intro ?_ ?_) | omega | simp (maxSteps := 1000000) only [go_sem, simprocAttr, ↓reduceIte])
  refine VcLoop.intro (fun z : Nat => ⟨63, [(5, .int .i64 z), (0, .str s)], [], 0⟩) (fun z => z ≤ leadB s) (fun z => s.length - z) 0 ?_ (Nat.zero_le _) fun z hz => ?_
  · refine Ent.auto0 rfl ?_ ?_ <;> simp only [go_sem, reduceCtorEq, reduceIte, Nat.reduceEqDiff, Nat.reduceLT, Nat.reduceLeDiff, Int.natCast_succ]
  by_cases hlt : z < leadB s
  · have e := hat z hlt
    have f1 : ((z : Int) < (s.length : Int)) = True := eq_true (by omega)
    have f2 : (((s.getD z 0).toNat : Int) = 48) = True := eq_true (by rw [e]; rfl)
    (repeat' first | with_reducible (first | intro _ | refine rc ?_ | refine rl ?_ | refine rh ?_ | refine ru ?_ | refine rt ?_ | refine rf ?_ | refine rs ?_ | refine And.intro ?_ ?_) | omega | simp (maxSteps := 1000000) only [go_sem, simprocAttr, ↓reduceIte, f1, f2])
    refine ⟨z + 1, Ent.auto0 rfl ?_ ?_, by omega, by omega⟩ <;> simp only [go_sem, reduceCtorEq, reduceIte, Nat.reduceEqDiff, Nat.reduceLT, Nat.reduceLeDiff, Int.natCast_succ]
  have hz : z = leadB s := by omega
  subst hz
  have hno : ∀ h : rdG s = none, rdN s = 0 ∧ rdL s = 0 ∧ rdE 8 s = 8 := fun h => by unfold rdN rdL rdE; rw [h]; exact ⟨rfl, rfl, rfl⟩
  have fin : leadB s < s.length → (((s.getD (leadB s) 0).toNat : Int) = 48) = False := fun c0 => eq_false fun h => hst c0 (UInt8.toNat_inj.1 (by show _ = 48; omega))
  by_cases c1 : 20 < leadB s
  · obtain ⟨r1, r2, r3⟩ := hno (rdG_none fun h => by omega)
    have f3 : (20 < (leadB s : Int)) = True := eq_true (by omega)
    by_cases c0 : leadB s < s.length
    · have f1 : ((leadB s : Int) < (s.length : Int)) = True := eq_true (by omega)
      have f2 := fin c0
      (repeat' first | with_reducible (first | intro _ | refine rc ?_ | refine rl ?_ | refine rh ?_ | refine ru ?_ | refine rt ?_ | refine rf ?_ | refine rs ?_ | refine And.intro ?_ ?_) | omega | simp (maxSteps := 1000000) only [go_sem, simprocAttr, ↓reduceIte, f1, f2, f3])
      refine Ret.auto 0 ?_ rfl ?_ <;> simp only [go_sem, reduceCtorEq, reduceIte, Nat.reduceEqDiff, Nat.reduceLT, Nat.reduceLeDiff, Int.natCast_succ, Post, r1, r2, r3]
    · have f1 : ((leadB s : Int) < (s.length : Int)) = False := eq_false (by omega)
      (repeat' first | with_reducible (first | intro _ | refine rc ?_ | refine rl ?_ | refine rh ?_ | refine ru ?_ | refine rt ?_ | refine rf ?_ | refine rs ?_ | refine And.intro ?_ ?_) | omega | simp (maxSteps := 1000000) only [go_sem, simprocAttr, ↓reduceIte, f1, f3])
      refine Ret.auto 0 ?_ rfl ?_ <;> simp only [go_sem, reduceCtorEq, reduceIte, Nat.reduceEqDiff, Nat.reduceLT, Nat.reduceLeDiff, Int.natCast_succ, Post, r1, r2, r3]
  have f3 : (20 < (leadB s : Int)) = False := eq_false (by omega)
  by_cases c2 : s.length < 2 * leadB s + 1
  · obtain ⟨r1, r2, r3⟩ := hno (rdG_none fun h => by omega)
    have f4 : ((s.length : Int) < 2 * (leadB s : Int) + 1) = True := eq_true (by omega)
    by_cases c0 : leadB s < s.length
    · have f1 : ((leadB s : Int) < (s.length : Int)) = True := eq_true (by omega)
      have f2 := fin c0
      (repeat' first | with_reducible (first | intro _ | refine rc ?_ | refine rl ?_ | refine rh ?_ | refine ru ?_ | refine rt ?_ | refine rf ?_ | refine rs ?_ | refine And.intro ?_ ?_) | omega | simp (maxSteps := 1000000) only [go_sem, simprocAttr, ↓reduceIte, f1, f2, f3, f4])
      refine Ret.auto 0 ?_ rfl ?_ <;> simp only [go_sem, reduceCtorEq, reduceIte, Nat.reduceEqDiff, Nat.reduceLT, Nat.reduceLeDiff, Int.natCast_succ, Post, r1, r2, r3]
    · have f1 : ((leadB s : Int) < (s.length : Int)) = False := eq_false (by omega)
      (repeat' first | with_reducible (first | intro _ | refine rc ?_ | refine rl ?_ | refine rh ?_ | refine ru ?_ | refine rt ?_ | refine rf ?_ | refine rs ?_ | refine And.intro ?_ ?_) | omega | simp (maxSteps := 1000000) only [go_sem, simprocAttr, ↓reduceIte, f1, f3, f4])
      refine Ret.auto 0 ?_ rfl ?_ <;> simp only [go_sem, reduceCtorEq, reduceIte, Nat.reduceEqDiff, Nat.reduceLT, Nat.reduceLeDiff, Int.natCast_succ, Post, r1, r2, r3]
  have f4 : ((s.length : Int) < 2 * (leadB s : Int) + 1) = False := eq_false (by omega)
  have c0 : leadB s < s.length := by omega
  have f1 : ((leadB s : Int) < (s.length : Int)) = True := eq_true (by omega)
  have f2 := fin c0
  obtain ⟨m1, m2⟩ := lead_mem (s := s) (by omega)
  have hcut : (2 * (leadB s : Int) + 1).toNat - leadB s = leadB s + 1 := by omega
  have hsome := @rdG_some s
  have hnone := @rdG_none s
  have h49 : s.getD (leadB s) 0 ≠ 48 := hst c0
  (repeat' first | with_reducible (first | intro _ | refine rc ?_ | refine rl ?_ | refine rh ?_ | refine ru ?_ | refine rt ?_ | refine rf ?_ | refine rs ?_ | refine And.intro ?_ ?_) | omega | simp (maxSteps := 1000000) only [go_sem, simprocAttr, ↓reduceIte, f1, f2, f3, f4, hcut])
  generalize hx : (s.drop (leadB s)).take (leadB s + 1) = x at *
  have hxl : x.length ≤ 21 := by omega
  refine VcLoop.intro (fun p : Nat => ⟨63, [(37, .ptr 0 0), (6, .int .i64 (valB (x.take p))), (5, .int .i64 (leadB s)), (0, .str s)], [(0, .siter x p)], 1⟩) (fun p => p ≤ x.length ∧ (x.take p).all is01 = true) (fun p => x.length - p) 0 ?_ ⟨Nat.zero_le _, rfl⟩ fun p hI => ?_
  · refine Ent.auto0 rfl ?_ ?_ <;> simp only [go_sem, reduceCtorEq, reduceIte, Nat.reduceEqDiff, Nat.reduceLT, Nat.reduceLeDiff, Int.natCast_succ]
    all_goals rfl
  obtain ⟨hp, hI⟩ := hI
  have hv1 : ∀ q, q ≤ x.length → (x.take q).all is01 = true → valB (x.take q) < 2097152 := fun q hq h => by
    have h1 := valB_lt (x.take q) h
    have h2 : (2 : Nat) ^ (x.take q).length ≤ 2 ^ 21 := Nat.pow_le_pow_right (by decide) (by rw [List.length_take]; omega)
    rw [show (2 : Nat) ^ 21 = 2097152 from rfl] at h2
    omega
  have hv := hv1 p hp hI
  by_cases hlt : p < x.length
  · have ht := all_take hlt
    rw [hI, Bool.true_and, is01_n] at ht
    have hs1 := valB_take hlt
    have hnx := hv1 (p + 1) (by omega)
    have hr := rune_big hlt
    have hbd := @rune_bd x p
    have b1 : ((p : Int) < (x.length : Int)) = True := eq_true (by omega)
    by_cases hd : (x.getD p 0).toNat = 48 ∨ (x.getD p 0).toNat = 49
    · rw [decide_eq_true hd] at ht
      have hnx := hnx ht
      have hr2 : runeAt x p = ((x.getD p 0).toNat : Int) ∧ wideAt x p = 1 := by rcases hr with h | h <;> omega
      obtain ⟨e1, e2⟩ := hr2
      generalize (x.getD p 0).toNat = c at *
      generalize valB (x.take p) = v at *
      (repeat' first | with_reducible (first | intro _ | refine rc ?_ | refine rl ?_ | refine rh ?_ | refine ru ?_ | refine rt ?_ | refine rf ?_ | refine rs ?_ | refine And.intro ?_ ?_) | omega | simp (maxSteps := 1000000) only [go_sem, simprocAttr, ↓reduceIte, e1, e2])
      all_goals (refine ⟨p + 1, Ent.auto0 rfl ?_ ?_, ⟨by omega, ht⟩, by omega⟩ <;> simp only [go_sem, reduceCtorEq, reduceIte, Nat.reduceEqDiff, Nat.reduceLT, Nat.reduceLeDiff, Int.natCast_succ, hs1, e2])
      all_goals omega
    · obtain ⟨r1, r2, r3⟩ := hno (hnone fun h => hd (by
        rcases all_at hlt h.2.2.1 with e | e <;> rw [e] <;> decide))
      have hr2 : ¬ runeAt x p = 48 ∧ ¬ runeAt x p = 49 := by rcases hr with h | h <;> omega
      obtain ⟨e1, e2⟩ := hr2
      (repeat' first | with_reducible (first | intro _ | refine rc ?_ | refine rl ?_ | refine rh ?_ | refine ru ?_ | refine rt ?_ | refine rf ?_ | refine rs ?_ | refine And.intro ?_ ?_) | omega | simp (maxSteps := 1000000) only [go_sem, simprocAttr, ↓reduceIte, e1, e2])
      refine Ret.auto 0 ?_ rfl ?_ <;> simp only [go_sem, reduceCtorEq, reduceIte, Nat.reduceEqDiff, Nat.reduceLT, Nat.reduceLeDiff, Int.natCast_succ, Post, r1, r2, r3]
  · have e : p = x.length := by omega
    subst e
    rw [List.take_length] at hI
    have hx1 : 1 ≤ valB x := by
      have h0 := all_at (l := x) (p := 0) (by omega) hI
      rw [m2] at h0
      have h1 := h0.resolve_left h49
      cases x with
      | nil => simp at m1
      | cons c l => exact valB_one (by rw [m2]; exact h1)
    rw [List.take_length] at hv ⊢
    by_cases c5 : valB x ≤ 1048576
    · have hr := hsome ⟨by omega, by omega, hI, c5⟩
      have r1 : rdN s = (valB x : Int) := by unfold rdN; rw [hr]
      have r2 : rdL s = 2 * (leadB s : Int) + 1 := by unfold rdL; rw [hr]; rfl
      have r3 : rdE 8 s = 0 := by unfold rdE; rw [hr]
      generalize valB x = v at *
      (repeat' first | with_reducible (first | intro _ | refine rc ?_ | refine rl ?_ | refine rh ?_ | refine ru ?_ | refine rt ?_ | refine rf ?_ | refine rs ?_ | refine And.intro ?_ ?_) | omega | simp (maxSteps := 1000000) only [go_sem, simprocAttr, ↓reduceIte])
      all_goals first | omega | (refine Ret.auto 0 ?_ rfl ?_ <;> simp only [go_sem, reduceCtorEq, reduceIte, Nat.reduceEqDiff, Nat.reduceLT, Nat.reduceLeDiff, Int.natCast_succ, Post, r1, r2, r3])
    · obtain ⟨r1, r2, r3⟩ := hno (hnone fun h => c5 h.2.2.2)
      generalize valB x = v at *
      (repeat' first | with_reducible (first | intro _ | refine rc ?_ | refine rl ?_ | refine rh ?_ | refine ru ?_ | refine rt ?_ | refine rf ?_ | refine rs ?_ | refine And.intro ?_ ?_) | omega | simp (maxSteps := 1000000) only [go_sem, simprocAttr, ↓reduceIte])
      all_goals first | omega | (refine Ret.auto 0 ?_ rfl ?_ <;> simp only [go_sem, reduceCtorEq, reduceIte, Nat.reduceEqDiff, Nat.reduceLT, Nat.reduceLeDiff, Int.natCast_succ, Post, r1, r2, r3])
end Go.Fv.G

/- The law of Gamma and ReadGamma. -/
namespace Go.Fv.G
open Go Go.Proofs
set_option linter.unusedSimpArgs false
set_option linter.unusedVariables false
set_option linter.unnecessarySimpa false
set_option maxRecDepth 8000

theorem landedG_ok : FnOk Tryd.prog 5 [] (.bool true) [] := by
  have k := isName_ok [97]
  refine FnOk.of_vc Tryd.func5 rfl (by decide) (by simp [Tryd.f5]) [.tmp 0] rfl fun w0 T0 _ => ?_
  simp only [Tryd.f5, argEnv]
  have e : nameOk [97] = true := by decide
  rw [e] at k
  (repeat' first | with_reducible (first | intro _ | refine rc ?_ | refine rl ?_ | refine rh ?_ | refine ru ?_ | refine rt ?_ | refine rf ?_ | refine rs ?_ | refine And.intro ?_ ?_) | omega | simp (maxSteps := 1000000) only [go_sem, simprocAttr, ↓reduceIte])
  refine VcCall.k (k) ?_
  (repeat' first | with_reducible (first | intro _ | refine rc ?_ | refine rl ?_ | refine rh ?_ | refine ru ?_ | refine rt ?_ | refine rf ?_ | refine rs ?_ | refine And.intro ?_ ?_) | omega | simp (maxSteps := 1000000) only [go_sem, simprocAttr, ↓reduceIte])
  refine Ret.auto 0 ?_ rfl ?_ <;> simp only [go_sem, reduceCtorEq, reduceIte, Nat.reduceEqDiff, Nat.reduceLT, Nat.reduceLeDiff, Int.natCast_succ, Post]
set_option maxHeartbeats 4000000 in
theorem gammasMatch_ok (n : Int) (s : Bytes) (hs : s.length ≤ 140737488351232) : FnOk Tryd.prog 3 [.int .i64 n, .str s] (.bool true) [] := by
  have kg := gammaE_ok n
  have k1 := readG_ok s (by omega)
  have k2 := refReadG_ok s (by omega)
  generalize rdN s = a at *
  generalize rdL s = b at *
  generalize rdE 8 s = c at *
  by_cases h : 1 ≤ n ∧ n ≤ 1048576
  · obtain ⟨m, rfl⟩ : ∃ m : Nat, n = m := ⟨n.toNat, by omega⟩
    rw [if_pos h, if_pos h, Int.toNat_natCast] at kg
    have hlen := bin_len 20 m (by rw [show (2 : Nat) ^ (20 + 1) = 2097152 from rfl]; omega)
    have hgl := gam_len m
    have hr := rdG_gam (n := m) (by omega) (by omega) s
    have k3 := readG_ok (gamB m ++ s) (by rw [List.length_append]; omega)
    have r1 : rdN (gamB m ++ s) = m := by unfold rdN; rw [hr]
    have r2 : rdL (gamB m ++ s) = (gamB m).length := by unfold rdL; rw [hr]
    have r3 : rdE 8 (gamB m ++ s) = 0 := by unfold rdE; rw [hr]
    rw [r1, r2, r3] at k3
    have k4 := refGamma_ok m (by omega)
    have b1 : ((m : Int) < 1) = False := eq_false (by omega)
    have b2 : (1048576 < (m : Int)) = False := eq_false (by omega)
    generalize gamB m = g at *
    refine FnOk.of_vc Tryd.func3 rfl (by decide) (by simp [Tryd.f3]) [.tmp 4] rfl fun w0 T0 _ => ?_
    simp only [Tryd.f3, argEnv]
    (repeat' first | with_reducible (first | intro _ | refine rc ?_ | refine rl ?_ | refine rh ?_ | refine ru ?_ | refine rt ?_ | refine rf ?_ | refine rs ?_ | refine And.intro ?_ ?_) | omega | simp (maxSteps := 1000000) only [go_sem, simprocAttr, ↓reduceIte])
    refine VcCall.k (landedG_ok) ?_
    (repeat' first | with_reducible (first | intro _ | refine rc ?_ | refine rl ?_ | refine rh ?_ | refine ru ?_ | refine rt ?_ | refine rf ?_ | refine rs ?_ | refine And.intro ?_ ?_) | omega | simp (maxSteps := 1000000) only [go_sem, simprocAttr, ↓reduceIte])
    refine VcCall.k (kg) ?_
    (repeat' first | with_reducible (first | intro _ | refine rc ?_ | refine rl ?_ | refine rh ?_ | refine ru ?_ | refine rt ?_ | refine rf ?_ | refine rs ?_ | refine And.intro ?_ ?_) | omega | simp (maxSteps := 1000000) only [go_sem, simprocAttr, ↓reduceIte, b1, b2])
    refine VcCall.k (k3) ?_
    (repeat' first | with_reducible (first | intro _ | refine rc ?_ | refine rl ?_ | refine rh ?_ | refine ru ?_ | refine rt ?_ | refine rf ?_ | refine rs ?_ | refine And.intro ?_ ?_) | omega | simp (maxSteps := 1000000) only [go_sem, simprocAttr, ↓reduceIte])
    refine VcCall.k (k4) ?_
    (repeat' first | with_reducible (first | intro _ | refine rc ?_ | refine rl ?_ | refine rh ?_ | refine ru ?_ | refine rt ?_ | refine rf ?_ | refine rs ?_ | refine And.intro ?_ ?_) | omega | simp (maxSteps := 1000000) only [go_sem, simprocAttr, ↓reduceIte])
    refine VcCall.k (k1) ?_
    (repeat' first | with_reducible (first | intro _ | refine rc ?_ | refine rl ?_ | refine rh ?_ | refine ru ?_ | refine rt ?_ | refine rf ?_ | refine rs ?_ | refine And.intro ?_ ?_) | omega | simp (maxSteps := 1000000) only [go_sem, simprocAttr, ↓reduceIte])
    refine VcCall.k (k2) ?_
    (repeat' first | with_reducible (first | intro _ | refine rc ?_ | refine rl ?_ | refine rh ?_ | refine ru ?_ | refine rt ?_ | refine rf ?_ | refine rs ?_ | refine And.intro ?_ ?_) | omega | simp (maxSteps := 1000000) only [go_sem, simprocAttr, ↓reduceIte])
    refine Ret.auto 0 ?_ rfl ?_ <;> simp only [go_sem, reduceCtorEq, reduceIte, Nat.reduceEqDiff, Nat.reduceLT, Nat.reduceLeDiff, Int.natCast_succ, Post]
  · rw [if_neg h, if_neg h] at kg
    refine FnOk.of_vc Tryd.func3 rfl (by decide) (by simp [Tryd.f3]) [.tmp 4] rfl fun w0 T0 _ => ?_
    simp only [Tryd.f3, argEnv]
    (repeat' first | with_reducible (first | intro _ | refine rc ?_ | refine rl ?_ | refine rh ?_ | refine ru ?_ | refine rt ?_ | refine rf ?_ | refine rs ?_ | refine And.intro ?_ ?_) | omega | simp (maxSteps := 1000000) only [go_sem, simprocAttr, ↓reduceIte])
    refine VcCall.k (landedG_ok) ?_
    (repeat' first | with_reducible (first | intro _ | refine rc ?_ | refine rl ?_ | refine rh ?_ | refine ru ?_ | refine rt ?_ | refine rf ?_ | refine rs ?_ | refine And.intro ?_ ?_) | omega | simp (maxSteps := 1000000) only [go_sem, simprocAttr, ↓reduceIte])
    refine VcCall.k (kg) ?_
    (repeat' first | with_reducible (first | intro _ | refine rc ?_ | refine rl ?_ | refine rh ?_ | refine ru ?_ | refine rt ?_ | refine rf ?_ | refine rs ?_ | refine And.intro ?_ ?_) | omega | simp (maxSteps := 1000000) only [go_sem, simprocAttr, ↓reduceIte])
    refine VcCall.k (k1) ?_
    (repeat' first | with_reducible (first | intro _ | refine rc ?_ | refine rl ?_ | refine rh ?_ | refine ru ?_ | refine rt ?_ | refine rf ?_ | refine rs ?_ | refine And.intro ?_ ?_) | omega | simp (maxSteps := 1000000) only [go_sem, simprocAttr, ↓reduceIte])
    refine VcCall.k (k2) ?_
    (repeat' first | with_reducible (first | intro _ | refine rc ?_ | refine rl ?_ | refine rh ?_ | refine ru ?_ | refine rt ?_ | refine rf ?_ | refine rs ?_ | refine And.intro ?_ ?_) | omega | simp (maxSteps := 1000000) only [go_sem, simprocAttr, ↓reduceIte])
    refine Ret.auto 0 ?_ rfl ?_ <;> simp only [go_sem, reduceCtorEq, reduceIte, Nat.reduceEqDiff, Nat.reduceLT, Nat.reduceLeDiff, Int.natCast_succ, Post]
end Go.Fv.G
