/-
  A part of the proof of the claim: walks over the program's functions and the plain laws that these need. No condition of its own.
-/
import Derived.Test.YthhdmejmdjhbkaaGreatDoorYTopCorrCardPart1
import Derived.Test.YthhdmejmdjhbkaaGreatDoorFvPart5
import Derived.Shelf.Strings.Shaped
import Derived.Test.YthhdmejmdjhbkaaGreatDoorFvPart10
import Derived.Test.YthhdmejmdjhbkaaGreatDoorFvPart6
/- Near and Best: what they compute. -/
namespace Go.Fv.Y
open Go
set_option linter.unusedSimpArgs false
set_option linter.unusedVariables false
set_option linter.unnecessarySimpa false

/-- The guess that a word makes, if it is near. -/
def gsOf (D : List Wd) (sw : List Sw) (w : Bytes) (most : Int) (x : Bytes) : List Gs := if dist sw w x ≤ most then [⟨x, dist sw w x, cntD D x⟩] else []
def gsAll (D : List Wd) (sw : List Sw) (w : Bytes) (most : Int) (ws : List Bytes) : List Gs := ws.flatMap (gsOf D sw w most)
/-- What near gives. -/
def nearL (D : List Wd) (sw : List Sw) (w : Bytes) (most : Int) : List Gs := sortG (gsAll D sw w most (wsD D))
theorem gsAll_take (D : List Wd) (sw : List Sw) (w : Bytes) (most : Int) {ws : List Bytes} {i : Nat} (h : i < ws.length) : gsAll D sw w most (ws.take (i + 1)) = gsAll D sw w most (ws.take i) ++ gsOf D sw w most (ws.getD i []) := by
  unfold gsAll
  rw [List.take_succ_eq_append_getElem h, List.flatMap_append, getD_lt h]
  simp
theorem gsOf_len (D : List Wd) (sw : List Sw) (w : Bytes) (most : Int) (x : Bytes) : (gsOf D sw w most x).length ≤ 1 := by
  unfold gsOf; split <;> simp
theorem gsAll_len (D : List Wd) (sw : List Sw) (w : Bytes) (most : Int) : ∀ ws : List Bytes, (gsAll D sw w most ws).length ≤ ws.length
  | [] => Nat.le_refl _
  | x :: ws => by
    have h1 := gsAll_len D sw w most ws
    have h2 := gsOf_len D sw w most x
    unfold gsAll at *
    rw [List.flatMap_cons, List.length_append, List.length_cons]; omega
theorem mem_gsAll {D : List Wd} {sw : List Sw} {w : Bytes} {most : Int} {ws : List Bytes} {g : Gs} (h : g ∈ gsAll D sw w most ws) : g.t ∈ ws ∧ g.d = dist sw w g.t ∧ g.c = cntD D g.t ∧ g.d ≤ most := by
  unfold gsAll at h
  obtain ⟨x, hx, hg⟩ := List.mem_flatMap.1 h
  unfold gsOf at hg
  split at hg
  · rename_i hd
    rw [List.mem_singleton] at hg
    subst hg
    exact ⟨hx, rfl, rfl, hd⟩
  · cases hg
theorem gsAll_stab (D : List Wd) (sw : List Sw) (w : Bytes) (most : Int) : ∀ {ws : List Bytes}, (ws.Pairwise fun a b => a < b) → Stab (gsAll D sw w most ws)
  | [], _ => List.Pairwise.nil
  | x :: ws, h => by
    obtain ⟨h1, h2⟩ := List.pairwise_cons.1 h
    have ih := gsAll_stab D sw w most h2
    show Stab (gsOf D sw w most x ++ gsAll D sw w most ws)
    refine List.pairwise_append.2 ⟨?_, ih, fun a ha b hb _ => ?_⟩
    · unfold gsOf; split
      · exact List.pairwise_singleton _ _
      · exact List.Pairwise.nil
    · have hb' := (mem_gsAll hb).1
      have ha' : a.t = x := by
        unfold gsOf at ha
        split at ha
        · rw [List.mem_singleton] at ha; rw [ha]
        · cases ha
      rw [ha']; exact h1 _ hb'
theorem ws_lt {D : List Wd} (hg : GoodD D) : (wsD D).Pairwise fun a b => a < b := by
  have h1 : (wsD D).Pairwise fun a b => a ≤ b := sortS_le _
  have hp : (wsD D).Perm (D.map Wd.t) := List.mergeSort_perm _ _
  have h2 : (wsD D).Pairwise fun a b => a ≠ b := List.nodup_iff_pairwise_ne.1 (hp.nodup_iff.2 hg.nd)
  refine (h1.and h2).imp fun {a b} hh => ?_
  obtain ⟨h3, h4⟩ := hh
  rcases Std.Trichotomous.rel_or_eq_or_rel_swap (r := fun a b : List UInt8 => a < b) (a := a) (b := b) with h5 | h5 | h5
  · exact h5
  · exact absurd h5 h4
  · exact absurd (List.le_antisymm h3 (List.le_of_lt h5)) h4
theorem ws_mem {D : List Wd} {x : Bytes} : x ∈ wsD D ↔ x ∈ D.map Wd.t := (List.mergeSort_perm _ _ : (wsD D).Perm (D.map Wd.t)).mem_iff
theorem ws_isWd {D : List Wd} (hg : GoodD D) {x : Bytes} (h : x ∈ wsD D) : isWd x = true := by
  obtain ⟨w, hw, rfl⟩ := List.mem_map.1 (ws_mem.1 h)
  exact (hg.wd w hw).1
theorem ws_len (D : List Wd) : (wsD D).length = D.length := by
  have h : (wsD D).Perm (D.map Wd.t) := List.mergeSort_perm _ _
  rw [h.length_eq, List.length_map]
/-- What stands out. -/
def bestG : List Gs → Option Gs
  | [] => none
  | [x] => some x
  | x :: y :: _ => if x.d < y.d ∨ 2 * y.c ≤ x.c then some x else none
/-- The errors of Near. -/
def nearErr (l : List Mx) (w : Bytes) (most : Int) : Int := if most < 0 ∨ 10000 < most then 3 else if 200 < w.length then 4 else mixErr l
end Go.Fv.Y

/- A text is one word just where its tokens are that word alone; small letters. -/
namespace Go.Fv.Y
open Go
set_option linter.unusedSimpArgs false
set_option linter.unusedVariables false
set_option linter.unnecessarySimpa false

/-- Each word among the tokens is a word. -/
def WordsOk (l : List Tok) : Prop := ∀ t, t ∈ l → t.2 = true → isWd t.1 = true
theorem WordsOk.flush {l : List Tok} (h : WordsOk l) (b : Bytes) : WordsOk (flush l b) := by
  unfold Go.Fv.Y.flush
  split
  · exact h
  · intro t ht hw
    rcases List.mem_append.1 ht with h1 | h1
    · exact h t h1 hw
    · simp at h1; subst h1; cases hw
/-- A to Z made small. -/
def smallB (c : UInt8) : UInt8 := if 65 ≤ c.toNat ∧ c.toNat ≤ 90 then c + 32 else c
def smallL (s : Bytes) : Bytes := s.map smallB
end Go.Fv.Y

/- Small letters: the bytes on the way. -/
namespace Go.Fv.Y
open Go Go.Proofs
set_option linter.unusedSimpArgs false
set_option linter.unusedVariables false
set_option linter.unnecessarySimpa false
set_option maxRecDepth 8000

theorem byteInts_len (l : List UInt8) : (byteInts l).length = l.length := by simp [byteInts]
theorem bytesOf_byteInts (l : List UInt8) : bytesOf (byteInts l) = l := by
  unfold bytesOf byteInts
  rw [List.map_map]
  conv => rhs; rw [← List.map_id l]
  refine List.map_congr_left fun b _ => ?_
  simp
theorem smallB_int (c : UInt8) : ((smallB c).toNat : Int) = if 65 ≤ c.toNat ∧ c.toNat ≤ 90 then (c.toNat : Int) + 32 else c.toNat := by
  unfold smallB
  split
  · rw [UInt8.toNat_add]
    have : (32 : UInt8).toNat = 32 := rfl
    rw [this]; omega
  · rfl
end Go.Fv.Y

/- words.mapped and small letters. -/
namespace Go.Fv.Y
open Go Go.Proofs
set_option linter.unusedSimpArgs false
set_option linter.unusedVariables false
set_option linter.unnecessarySimpa false
set_option maxRecDepth 8000

def mapAt (f : UInt8 → UInt8) (s : List UInt8) (i : Nat) : List Int := byteInts ((s.take i).map f ++ s.drop i)
theorem mapAt_zero (f : UInt8 → UInt8) (s : List UInt8) : mapAt f s 0 = byteInts s := by simp [mapAt]
theorem mapAt_end (f : UInt8 → UInt8) (s : List UInt8) : bytesOf (mapAt f s s.length) = s.map f := by
  unfold mapAt
  rw [bytesOf_byteInts]; simp
theorem mapAt_len (f : UInt8 → UInt8) (s : List UInt8) (i : Nat) : (mapAt f s i).length = s.length := by
  simp [mapAt, byteInts]; omega
theorem mapAt_get (f : UInt8 → UInt8) {s : List UInt8} {i : Nat} (h : i < s.length) : (mapAt f s i).getD i 0 = ((s.getD i 0).toNat : Int) := by
  unfold mapAt byteInts
  simp only [List.getD_eq_getElem?_getD, List.getElem?_map]
  rw [List.getElem?_append_right (by simp; omega)]
  have e : i - ((s.take i).map f).length = 0 := by simp; omega
  rw [e, List.getElem?_drop]
  simp [h]
theorem mapAt_step (f : UInt8 → UInt8) {s : List UInt8} {i : Nat} (h : i < s.length) : mapAt f s (i + 1) = (mapAt f s i).set i ((f (s.getD i 0)).toNat : Int) := by
  unfold mapAt
  have e1 : s.drop i = s.getD i 0 :: s.drop (i + 1) := by rw [List.drop_eq_getElem_cons h, getD_lt h]
  have e2 : s.take (i + 1) = s.take i ++ [s.getD i 0] := by rw [List.take_succ_eq_append_getElem h, getD_lt h]
  have hl : (byteInts ((s.take i).map f)).length = i := by simp [byteInts]; omega
  rw [e1, e2]
  unfold byteInts at *
  rw [List.map_append, List.map_append, List.map_append, List.map_append, List.set_append_right _ _ (by omega), hl, Nat.sub_self]
  simp
set_option maxHeartbeats 1000000 in
theorem mapped_ok (s : List UInt8) (F : Nat) (f : UInt8 → UInt8) (hf : ∀ c : UInt8, FnFr Tryz.prog F [.int .u8 c.toNat] (.int .u8 (f c).toNat) []) : FnOk Tryz.prog 83 [.str s, .fn F []] (.str (s.map f)) [] := by
  have h0 := mapAt_zero f s
  have hz := mapAt_end f s
  refine FnOk.of_vc Tryz.func83 rfl (by decide) (by simp [Tryz.f83]) [.tmp 4] rfl fun w0 T0 _ => ?_
  simp only [Tryz.f83, argEnv]
  (repeat' first | with_reducible (first | intro _ | refine rc ?_ | refine rl ?_ | refine rh ?_ | refine ru ?_ | refine rt ?_ | refine rf ?_ | refine rs ?_ | refine And.intro ?_ ?_) | omega | simp (maxSteps := 1000000) only [go_sem, simprocAttr, ↓reduceIte, byteInts_len])
  refine VcLoop.intro (fun i : Nat => ⟨26, [(12, .int .i64 i), (11, .int .i64 s.length), (10, .own 0), (5, .own 0), (1, .fn F [])], [(0, .row 5 (.ints .u8 (mapAt f s i)))], 1⟩) (fun i => i ≤ s.length) (fun i => s.length - i) 0 ?_ (Nat.zero_le _) fun i hi => ?_
  · refine Ent.auto0 rfl ?_ ?_ <;> simp only [go_sem, reduceCtorEq, reduceIte, Nat.reduceEqDiff, Nat.reduceLT, Nat.reduceLeDiff, Int.natCast_succ, h0]
  by_cases hlt : i < s.length
  · have hg := mapAt_get f hlt
    have hst := mapAt_step f hlt
    have hl := mapAt_len f s i
    have hc2 := (s.getD i 0).toNat_lt
    have kf := hf (s.getD i 0)
    have hd2 := (f (s.getD i 0)).toNat_lt
    generalize f (s.getD i 0) = d at *
    generalize s.getD i 0 = c at *
    (repeat' first | with_reducible (first | intro _ | refine rc ?_ | refine rl ?_ | refine rh ?_ | refine ru ?_ | refine rt ?_ | refine rf ?_ | refine rs ?_ | refine And.intro ?_ ?_) | omega | simp (maxSteps := 1000000) only [go_sem, simprocAttr, ↓reduceIte, Int.toNat_natCast, hg, hl])
    refine VcCall.fr kf (by simp only [noIdR_ok, argOkL, argOk, allOk, argOkN, List.drop_zero, lk, reduceIte, reduceCtorEq, Nat.reduceEqDiff, Option.some.injEq, Item.row.injEq, Item.box.injEq, AV.ro.injEq, exists_eq_left, exists_and_left, exists_eq_left', exists_eq_right, and_assoc, and_true, true_and, List.cons.injEq, exists_eq', exists_eq]) 0 rfl (by simp [rowsB]) ?_
    (repeat' first | with_reducible (first | intro _ | refine rc ?_ | refine rl ?_ | refine rh ?_ | refine ru ?_ | refine rt ?_ | refine rf ?_ | refine rs ?_ | refine And.intro ?_ ?_) | omega | simp (maxSteps := 1000000) only [go_sem, simprocAttr, ↓reduceIte, Int.toNat_natCast, hg, hl])
    refine ⟨i + 1, Ent.auto0 rfl ?_ ?_, by omega, by omega⟩ <;> simp only [go_sem, reduceCtorEq, reduceIte, Nat.reduceEqDiff, Nat.reduceLT, Nat.reduceLeDiff, Int.natCast_succ, hst]
  · have e : i = s.length := by omega
    subst e
    (repeat' first | with_reducible (first | intro _ | refine rc ?_ | refine rl ?_ | refine rh ?_ | refine ru ?_ | refine rt ?_ | refine rf ?_ | refine rs ?_ | refine And.intro ?_ ?_) | omega | simp (maxSteps := 1000000) only [go_sem, simprocAttr, ↓reduceIte, hz])
    refine Ret.auto 0 ?_ rfl ?_ <;> simp only [go_sem, reduceCtorEq, reduceIte, Nat.reduceEqDiff, Nat.reduceLT, Nat.reduceLeDiff, Int.natCast_succ, Post]
    all_goals exact hz
theorem small1W_ok (c : UInt8) : FnOk Tryz.prog 84 [.int .u8 c.toNat] (.int .u8 (smallB c).toNat) [] := by
  have h := smallB_int c
  have hc2 := c.toNat_lt
  refine FnOk.of_vc Tryz.func84 rfl (by decide) (by simp [Tryz.f84]) [.tmp 2] rfl fun w0 T0 _ => ?_
  simp only [Tryz.f84, argEnv]
  by_cases hc : 65 ≤ c.toNat ∧ c.toNat ≤ 90
  · rw [if_pos hc] at h
    (repeat' first | with_reducible (first | intro _ | refine rc ?_ | refine rl ?_ | refine rh ?_ | refine ru ?_ | refine rt ?_ | refine rf ?_ | refine rs ?_ | refine And.intro ?_ ?_) | omega | simp (maxSteps := 1000000) only [go_sem, simprocAttr, ↓reduceIte])
    refine Ret.auto 0 ?_ rfl ?_ <;> simp only [go_sem, reduceCtorEq, reduceIte, Nat.reduceEqDiff, Nat.reduceLT, Nat.reduceLeDiff, Int.natCast_succ, Post, h]
  · rw [if_neg hc] at h
    (repeat' first | with_reducible (first | intro _ | refine rc ?_ | refine rl ?_ | refine rh ?_ | refine ru ?_ | refine rt ?_ | refine rf ?_ | refine rs ?_ | refine And.intro ?_ ?_) | omega | simp (maxSteps := 1000000) only [go_sem, simprocAttr, ↓reduceIte])
    refine Ret.auto 0 ?_ rfl ?_ <;> simp only [go_sem, reduceCtorEq, reduceIte, Nat.reduceEqDiff, Nat.reduceLT, Nat.reduceLeDiff, Int.natCast_succ, Post, h]
theorem smallW_ok (s : List UInt8) : FnOk Tryz.prog 39 [.str s] (.str (smallL s)) [] := by
  have k := mapped_ok s 84 smallB fun c => FnFr.of_ok (small1W_ok c) rfl rfl
  rw [show s.map smallB = smallL s from rfl] at k
  refine FnOk.of_vc Tryz.func39 rfl (by decide) (by simp [Tryz.f39]) [.tmp 2] rfl fun w0 T0 _ => ?_
  simp only [Tryz.f39, argEnv]
  (repeat' first | with_reducible (first | intro _ | refine rc ?_ | refine rl ?_ | refine rh ?_ | refine ru ?_ | refine rt ?_ | refine rf ?_ | refine rs ?_ | refine And.intro ?_ ?_) | omega | simp (maxSteps := 1000000) only [go_sem, simprocAttr, ↓reduceIte])
  refine VcCall.k (k) ?_
  (repeat' first | with_reducible (first | intro _ | refine rc ?_ | refine rl ?_ | refine rh ?_ | refine ru ?_ | refine rt ?_ | refine rf ?_ | refine rs ?_ | refine And.intro ?_ ?_) | omega | simp (maxSteps := 1000000) only [go_sem, simprocAttr, ↓reduceIte])
  refine Ret.auto 0 ?_ rfl ?_ <;> simp only [go_sem, reduceCtorEq, reduceIte, Nat.reduceEqDiff, Nat.reduceLT, Nat.reduceLeDiff, Int.natCast_succ, Post]
end Go.Fv.Y

/- Great letters, and words that are written like others. -/
namespace Go.Fv.Y
open Go Go.Proofs
set_option linter.unusedSimpArgs false
set_option linter.unusedVariables false
set_option linter.unnecessarySimpa false
set_option maxRecDepth 8000

def greatB (c : UInt8) : UInt8 := if 97 ≤ c.toNat ∧ c.toNat ≤ 122 then c - 32 else c
def greatL (s : Bytes) : Bytes := s.map greatB
theorem greatB_int (c : UInt8) : ((greatB c).toNat : Int) = if 97 ≤ c.toNat ∧ c.toNat ≤ 122 then (c.toNat : Int) - 32 else c.toNat := by
  unfold greatB
  split
  · rename_i h
    have : (c - 32).toNat = c.toNat - 32 := by
      rw [UInt8.toNat_sub_of_le]
      · rfl
      · show (32 : UInt8).toNat ≤ c.toNat
        have : (32 : UInt8).toNat = 32 := rfl
        omega
    rw [this]; omega
  · rfl
theorem great1_ok (c : UInt8) : FnOk Tryz.prog 125 [.int .u8 c.toNat] (.int .u8 (greatB c).toNat) [] := by
  have h := greatB_int c
  have hc2 := c.toNat_lt
  refine FnOk.of_vc Tryz.func125 rfl (by decide) (by simp [Tryz.f125]) [.tmp 2] rfl fun w0 T0 _ => ?_
  simp only [Tryz.f125, argEnv]
  by_cases hc : 97 ≤ c.toNat ∧ c.toNat ≤ 122
  · rw [if_pos hc] at h
    (repeat' first | with_reducible (first | intro _ | refine rc ?_ | refine rl ?_ | refine rh ?_ | refine ru ?_ | refine rt ?_ | refine rf ?_ | refine rs ?_ | refine And.intro ?_ ?_) | omega | simp (maxSteps := 1000000) only [go_sem, simprocAttr, ↓reduceIte])
    refine Ret.auto 0 ?_ rfl ?_ <;> simp only [go_sem, reduceCtorEq, reduceIte, Nat.reduceEqDiff, Nat.reduceLT, Nat.reduceLeDiff, Int.natCast_succ, Post, h]
  · rw [if_neg hc] at h
    (repeat' first | with_reducible (first | intro _ | refine rc ?_ | refine rl ?_ | refine rh ?_ | refine ru ?_ | refine rt ?_ | refine rf ?_ | refine rs ?_ | refine And.intro ?_ ?_) | omega | simp (maxSteps := 1000000) only [go_sem, simprocAttr, ↓reduceIte])
    refine Ret.auto 0 ?_ rfl ?_ <;> simp only [go_sem, reduceCtorEq, reduceIte, Nat.reduceEqDiff, Nat.reduceLT, Nat.reduceLeDiff, Int.natCast_succ, Post, h]
theorem great_ok (s : Bytes) : FnOk Tryz.prog 85 [.str s] (.str (greatL s)) [] := by
  have k := mapped_ok s 125 greatB fun c => FnFr.of_ok (great1_ok c) rfl rfl
  rw [show s.map greatB = greatL s from rfl] at k
  refine FnOk.of_vc Tryz.func85 rfl (by decide) (by simp [Tryz.f85]) [.tmp 2] rfl fun w0 T0 _ => ?_
  simp only [Tryz.f85, argEnv]
  (repeat' first | with_reducible (first | intro _ | refine rc ?_ | refine rl ?_ | refine rh ?_ | refine ru ?_ | refine rt ?_ | refine rf ?_ | refine rs ?_ | refine And.intro ?_ ?_) | omega | simp (maxSteps := 1000000) only [go_sem, simprocAttr, ↓reduceIte])
  refine VcCall.k (k) ?_
  (repeat' first | with_reducible (first | intro _ | refine rc ?_ | refine rl ?_ | refine rh ?_ | refine ru ?_ | refine rt ?_ | refine rf ?_ | refine rs ?_ | refine And.intro ?_ ?_) | omega | simp (maxSteps := 1000000) only [go_sem, simprocAttr, ↓reduceIte])
  refine Ret.auto 0 ?_ rfl ?_ <;> simp only [go_sem, reduceCtorEq, reduceIte, Nat.reduceEqDiff, Nat.reduceLT, Nat.reduceLeDiff, Int.natCast_succ, Post]
/-! ### Like another word -/
def isUp (c : UInt8) : Bool := decide (65 ≤ c.toNat ∧ c.toNat ≤ 90)
def isLow (c : UInt8) : Bool := decide (97 ≤ c.toNat ∧ c.toNat ≤ 122)
def ups (s : Bytes) : Nat := s.countP isUp
def lows (s : Bytes) : Nat := s.countP isLow
def recL (word like : Bytes) : Bytes := if 2 ≤ ups like + lows like ∧ lows like = 0 then greatL word else if isUp (like.getD 0 0) = true then greatL (word.take 1) ++ word.drop 1 else word
theorem countP_take (p : UInt8 → Bool) {s : Bytes} {i : Nat} (h : i < s.length) : (s.take (i + 1)).countP p = (s.take i).countP p + if p (s.getD i 0) = true then 1 else 0 := by
  rw [List.take_succ_eq_append_getElem h, List.countP_append, getD_lt h, List.countP_singleton]
theorem countP_le (p : UInt8 → Bool) (s : Bytes) (i : Nat) : (s.take i).countP p ≤ i := by
  have h1 := List.countP_le_length (p := p) (l := s.take i)
  rw [List.length_take] at h1; omega
set_option maxHeartbeats 8000000 in
theorem recased_ok (word like : Bytes) (hw : 0 < word.length) (hl : 0 < like.length) (hwl : word.length ≤ 1000000) (hll : like.length ≤ 1000000) : FnOk Tryz.prog 40 [.str word, .str like] (.str (recL word like)) [] := by
  have kg := great_ok word
  have kg1 := great_ok (word.take 1)
  have gl : (greatL (word.take 1)).length ≤ 1 := by unfold greatL; simp; omega
  refine FnOk.of_vc Tryz.func40 rfl (by decide) (by simp [Tryz.f40]) [.tmp 4] rfl fun w0 T0 _ => ?_
  simp only [Tryz.f40, argEnv]
  (repeat' first | with_reducible (first | intro _ | refine rc ?_ | refine rl ?_ | refine rh ?_ | refine ru ?_ | refine rt ?_ | refine rf ?_ | refine rs ?_ | refine And.intro ?_ ?_) | omega | simp (maxSteps := 1000000) only [go_sem, simprocAttr, ↓reduceIte])
  refine VcLoop.intro (fun i : Nat => ⟨64, [(11, .int .i64 i), (10, .int .i64 like.length), (0, .str word), (1, .str like), (5, .int .i64 ((like.take i).countP isUp + (like.take i).countP isLow : Nat)), (6, .int .i64 ((like.take i).countP isUp : Nat))], [], 0⟩) (fun i => i ≤ like.length) (fun i => like.length - i) 0 ?_ (Nat.zero_le _) fun i hi => ?_
  · refine Ent.auto0 rfl ?_ ?_ <;> simp only [go_sem, reduceCtorEq, reduceIte, Nat.reduceEqDiff, Nat.reduceLT, Nat.reduceLeDiff, Int.natCast_succ]
    all_goals exact ⟨rfl, rfl⟩
  have b1 := countP_le isUp like i
  have b2 := countP_le isLow like i
  by_cases hlt : i < like.length
  · have s1 := countP_take isUp hlt
    have s2 := countP_take isLow hlt
    generalize (like.take i).countP isUp = u at *
    generalize (like.take i).countP isLow = l at *
    generalize hu2 : (like.take (i + 1)).countP isUp = u2 at *
    generalize hl2 : (like.take (i + 1)).countP isLow = l2 at *
    unfold isUp at s1
    unfold isLow at s2
    generalize hcc : like.getD i 0 = c at *
    simp only [decide_eq_true_eq] at s1 s2
    by_cases h1 : 65 ≤ c.toNat ∧ c.toNat ≤ 90
    · rw [if_pos h1] at s1
      rw [if_neg (by omega)] at s2
      have n1 : ((u2 : Nat) : Int) = (u : Int) + 1 := by omega
      have n2 : ((u2 + l2 : Nat) : Int) = ((u + l : Nat) : Int) + 1 := by omega
      have i1 : (65 : Int) ≤ (c.toNat : Int) ∧ (c.toNat : Int) ≤ 90 := by omega
      (repeat' first | with_reducible (first | intro _ | refine rc ?_ | refine rl ?_ | refine rh ?_ | refine ru ?_ | refine rt ?_ | refine rf ?_ | refine rs ?_ | refine And.intro ?_ ?_) | omega | simp (maxSteps := 1000000) only [go_sem, simprocAttr, ↓reduceIte, i1, hcc])
      refine ⟨i + 1, Ent.auto0 rfl ?_ ?_, by omega, by omega⟩ <;> simp only [go_sem, reduceCtorEq, reduceIte, Nat.reduceEqDiff, Nat.reduceLT, Nat.reduceLeDiff, Int.natCast_succ, hu2, hl2, n1, n2]
    · rw [if_neg h1] at s1
      have i1 : ¬ ((65 : Int) ≤ (c.toNat : Int) ∧ (c.toNat : Int) ≤ 90) := by omega
      by_cases h2 : 97 ≤ c.toNat ∧ c.toNat ≤ 122
      · rw [if_pos h2] at s2
        have n1 : u2 = u := by omega
        subst n1
        have n2 : ((u2 + l2 : Nat) : Int) = ((u2 + l : Nat) : Int) + 1 := by omega
        have i2 : (97 : Int) ≤ (c.toNat : Int) ∧ (c.toNat : Int) ≤ 122 := by omega
        (repeat' first | with_reducible (first | intro _ | refine rc ?_ | refine rl ?_ | refine rh ?_ | refine ru ?_ | refine rt ?_ | refine rf ?_ | refine rs ?_ | refine And.intro ?_ ?_) | omega | simp (maxSteps := 1000000) only [go_sem, simprocAttr, ↓reduceIte, i1, i2, hcc])
        refine ⟨i + 1, Ent.auto0 rfl ?_ ?_, by omega, by omega⟩ <;> simp only [go_sem, reduceCtorEq, reduceIte, Nat.reduceEqDiff, Nat.reduceLT, Nat.reduceLeDiff, Int.natCast_succ, hu2, hl2, n2]
      · rw [if_neg h2] at s2
        have n1 : u2 = u := by omega
        have n2 : l2 = l := by omega
        subst n1 n2
        have i2 : ¬ ((97 : Int) ≤ (c.toNat : Int) ∧ (c.toNat : Int) ≤ 122) := by omega
        (repeat' first | with_reducible (first | intro _ | refine rc ?_ | refine rl ?_ | refine rh ?_ | refine ru ?_ | refine rt ?_ | refine rf ?_ | refine rs ?_ | refine And.intro ?_ ?_) | omega | simp (maxSteps := 1000000) only [go_sem, simprocAttr, ↓reduceIte, i1, i2, hcc])
        refine ⟨i + 1, Ent.auto0 rfl ?_ ?_, by omega, by omega⟩ <;> simp only [go_sem, reduceCtorEq, reduceIte, Nat.reduceEqDiff, Nat.reduceLT, Nat.reduceLeDiff, Int.natCast_succ, hu2, hl2]
  · have e : i = like.length := by omega
    subst e
    rw [List.take_length] at b1 b2 ⊢
    rw [show like.countP isUp = ups like from rfl] at b1 ⊢
    rw [show like.countP isLow = lows like from rfl] at b2 ⊢
    unfold recL
    unfold isUp
    simp only [decide_eq_true_eq]
    generalize ups like = u at *
    generalize lows like = l at *
    by_cases h1 : 2 ≤ u + l ∧ l = 0
    · rw [if_pos h1]
      have i1 : (2 : Int) ≤ ((u + l : Nat) : Int) ∧ (u : Int) = ((u + l : Nat) : Int) := by omega
      (repeat' first | with_reducible (first | intro _ | refine rc ?_ | refine rl ?_ | refine rh ?_ | refine ru ?_ | refine rt ?_ | refine rf ?_ | refine rs ?_ | refine And.intro ?_ ?_) | omega | simp (maxSteps := 1000000) only [go_sem, simprocAttr, ↓reduceIte, i1])
      refine VcCall.k (kg) ?_
      (repeat' first | with_reducible (first | intro _ | refine rc ?_ | refine rl ?_ | refine rh ?_ | refine ru ?_ | refine rt ?_ | refine rf ?_ | refine rs ?_ | refine And.intro ?_ ?_) | omega | simp (maxSteps := 1000000) only [go_sem, simprocAttr, ↓reduceIte])
      refine Ret.auto 0 ?_ rfl ?_ <;> simp only [go_sem, reduceCtorEq, reduceIte, Nat.reduceEqDiff, Nat.reduceLT, Nat.reduceLeDiff, Int.natCast_succ, Post]
    · rw [if_neg h1]
      have i1 : ¬ ((2 : Int) ≤ ((u + l : Nat) : Int) ∧ (u : Int) = ((u + l : Nat) : Int)) := by omega
      generalize hcc : like.getD 0 0 = c at *
      by_cases h2 : 65 ≤ c.toNat ∧ c.toNat ≤ 90
      · rw [if_pos h2]
        have i2 : (65 : Int) ≤ (c.toNat : Int) ∧ (c.toNat : Int) ≤ 90 := by omega
        (repeat' first | with_reducible (first | intro _ | refine rc ?_ | refine rl ?_ | refine rh ?_ | refine ru ?_ | refine rt ?_ | refine rf ?_ | refine rs ?_ | refine And.intro ?_ ?_) | omega | simp (maxSteps := 1000000) only [go_sem, simprocAttr, ↓reduceIte, i1, i2, hcc])
        refine VcDraw.lex [] [] (by kernel_rfl) (by kernel_rfl) ?_
        (repeat' first | with_reducible (first | intro _ | refine rc ?_ | refine rl ?_ | refine rh ?_ | refine ru ?_ | refine rt ?_ | refine rf ?_ | refine rs ?_ | refine And.intro ?_ ?_) | omega | simp (maxSteps := 1000000) only [go_sem, simprocAttr, ↓reduceIte])
        refine QV.intro (.str (greatL (word.take 1))) ?_ ?_
        · (repeat' first | with_reducible (first | intro _ | refine rc ?_ | refine rl ?_ | refine rh ?_ | refine ru ?_ | refine rt ?_ | refine rf ?_ | refine rs ?_ | refine And.intro ?_ ?_) | omega | simp (maxSteps := 1000000) only [go_sem, simprocAttr, ↓reduceIte])
          refine VcCall.k (kg1) ?_
          (repeat' first | with_reducible (first | intro _ | refine rc ?_ | refine rl ?_ | refine rh ?_ | refine ru ?_ | refine rt ?_ | refine rf ?_ | refine rs ?_ | refine And.intro ?_ ?_) | omega | simp (maxSteps := 1000000) only [go_sem, simprocAttr, ↓reduceIte])
        (repeat' first | with_reducible (first | intro _ | refine rc ?_ | refine rl ?_ | refine rh ?_ | refine ru ?_ | refine rt ?_ | refine rf ?_ | refine rs ?_ | refine And.intro ?_ ?_) | omega | simp (maxSteps := 1000000) only [go_sem, simprocAttr, ↓reduceIte])
        refine Ret.auto 0 ?_ rfl ?_ <;> simp only [go_sem, reduceCtorEq, reduceIte, Nat.reduceEqDiff, Nat.reduceLT, Nat.reduceLeDiff, Int.natCast_succ, Post]
        have hdt : List.take (word.length - 1) (List.drop 1 word) = List.drop 1 word := List.take_of_length_le (by rw [List.length_drop]; exact Nat.le_refl _)
        rw [hdt]
      · rw [if_neg h2]
        have i2 : ¬ ((65 : Int) ≤ (c.toNat : Int) ∧ (c.toNat : Int) ≤ 90) := by omega
        (repeat' first | with_reducible (first | intro _ | refine rc ?_ | refine rl ?_ | refine rh ?_ | refine ru ?_ | refine rt ?_ | refine rf ?_ | refine rs ?_ | refine And.intro ?_ ?_) | omega | simp (maxSteps := 1000000) only [go_sem, simprocAttr, ↓reduceIte, i1, i2, hcc])
        refine Ret.auto 0 ?_ rfl ?_ <;> simp only [go_sem, reduceCtorEq, reduceIte, Nat.reduceEqDiff, Nat.reduceLT, Nat.reduceLeDiff, Int.natCast_succ, Post]
end Go.Fv.Y

/- Letters, words, and the trims at one byte. -/
namespace Go.Fv.Y
open Go Go.Proofs
set_option linter.unusedSimpArgs false
set_option linter.unusedVariables false
set_option linter.unnecessarySimpa false
set_option maxRecDepth 8000

theorem isL_eq (c : UInt8) : isL c = decide ((97 ≤ (c.toNat : Int) ∧ (c.toNat : Int) ≤ 122 ∨ 65 ≤ (c.toNat : Int) ∧ (c.toNat : Int) ≤ 90) ∨ 128 ≤ (c.toNat : Int)) := by
  rw [Bool.eq_iff_iff]; simp only [isL, Bool.or_eq_true, Bool.and_eq_true, decide_eq_true_eq]; omega
theorem u8_39 (c : UInt8) : c = 39 ↔ (c.toNat : Int) = 39 := by
  constructor
  · rintro rfl; rfl
  · intro h; exact UInt8.toNat_inj.1 (by show c.toNat = 39; omega)
theorem inW_eq (c : UInt8) : inW c = (isL c || decide ((c.toNat : Int) = 39)) := by
  simp only [inW, u8_39]
theorem letter_ok (c : UInt8) : FnOk Tryz.prog 52 [.int .u8 c.toNat] (.bool (isL c)) [] := by
  refine FnOk.of_vc Tryz.func52 rfl (by decide) (by simp [Tryz.f52]) [.tmp 2] rfl fun w0 T0 _ => ?_
  simp only [Tryz.f52, argEnv]
  (repeat' first | with_reducible (first | intro _ | refine rc ?_ | refine rl ?_ | refine rh ?_ | refine ru ?_ | refine rt ?_ | refine rf ?_ | refine rs ?_ | refine And.intro ?_ ?_) | omega | simp (maxSteps := 1000000) only [go_sem, simprocAttr, ↓reduceIte])
  refine Ret.auto 0 ?_ rfl ?_ <;> simp only [go_sem, reduceCtorEq, reduceIte, Nat.reduceEqDiff, Nat.reduceLT, Nat.reduceLeDiff, Int.natCast_succ, Post, isL_eq]
theorem inWord_ok (c : UInt8) : FnOk Tryz.prog 49 [.int .u8 c.toNat] (.bool (inW c)) [] := by
  have k := letter_ok c
  refine FnOk.of_vc Tryz.func49 rfl (by decide) (by simp [Tryz.f49]) [.tmp 2] rfl fun w0 T0 _ => ?_
  simp only [Tryz.f49, argEnv]
  (repeat' first | with_reducible (first | intro _ | refine rc ?_ | refine rl ?_ | refine rh ?_ | refine ru ?_ | refine rt ?_ | refine rf ?_ | refine rs ?_ | refine And.intro ?_ ?_) | omega | simp (maxSteps := 1000000) only [go_sem, simprocAttr, ↓reduceIte])
  refine VcCall.k k ?_
  (repeat' first | with_reducible (first | intro _ | refine rc ?_ | refine rl ?_ | refine rh ?_ | refine ru ?_ | refine rt ?_ | refine rf ?_ | refine rs ?_ | refine And.intro ?_ ?_) | omega | simp (maxSteps := 1000000) only [go_sem, simprocAttr, ↓reduceIte])
  refine Ret.auto 0 ?_ rfl ?_ <;> simp only [go_sem, reduceCtorEq, reduceIte, Nat.reduceEqDiff, Nat.reduceLT, Nat.reduceLeDiff, Int.natCast_succ, Post, inW_eq]
theorem isWd_nil : isWd [] = false := by simp [isWd]
theorem isWd_long {s : List UInt8} (h : 40 < (s.length : Int)) : isWd s = false := by
  have : ¬ s.length ≤ 40 := by omega
  simp [isWd, this]
theorem isWd_mid {s : List UInt8} (h0 : ¬ s = []) (h1 : ¬ 40 < (s.length : Int)) : isWd s = (isL (s.getD 0 0) && isL (s.getD (s.length - 1) 0) && s.all inW) := by
  have h : s.length ≤ 40 := by omega
  have e1 : s.headD 0 = s.getD 0 0 := by cases s <;> rfl
  have e2 : s.getLastD 0 = s.getD (s.length - 1) 0 := by
    rw [List.getLastD_eq_getLast?, List.getLast?_eq_getElem?]; simp [List.getD]
  simp only [isWd, e1, e2, h0, h, ne_eq, not_false_eq_true, decide_true, Bool.true_and]
theorem all_of {s : List UInt8} (h : ∀ j, j < s.length → inW (s.getD j 0) = true) : s.all inW = true := by
  rw [List.all_eq_true]; intro x hx
  obtain ⟨j, hj, rfl⟩ := List.getElem_of_mem hx
  have := h j hj; rwa [getD_lt hj] at this
theorem all_not {s : List UInt8} {j : Nat} (hj : j < s.length) (h : inW (s.getD j 0) = false) : s.all inW = false := by
  rw [Bool.eq_false_iff]; intro ha
  rw [List.all_eq_true] at ha
  have := ha _ (List.getElem_mem hj)
  rw [getD_lt hj] at h; rw [h] at this; cases this
set_option maxHeartbeats 2000000 in
theorem isWordA_ok (s : List UInt8) : FnOk Tryz.prog 30 [.str s] (.bool (isWd s)) [] := by
  refine FnOk.of_vc Tryz.func30 rfl (by decide) (by simp [Tryz.f30]) [.tmp 2] rfl fun w0 T0 _ => ?_
  simp only [Tryz.f30, argEnv]
  by_cases h0 : s = []
  · (repeat' first | with_reducible (first | intro _ | refine rc ?_ | refine rl ?_ | refine rh ?_ | refine ru ?_ | refine rt ?_ | refine rf ?_ | refine rs ?_ | refine And.intro ?_ ?_) | omega | simp (maxSteps := 1000000) only [go_sem, simprocAttr, ↓reduceIte, h0])
    refine Ret.auto 0 ?_ rfl ?_ <;> simp only [go_sem, reduceCtorEq, reduceIte, Nat.reduceEqDiff, Nat.reduceLT, Nat.reduceLeDiff, Int.natCast_succ, Post, isWd_nil]
  · by_cases h1 : 40 < (s.length : Int)
    · (repeat' first | with_reducible (first | intro _ | refine rc ?_ | refine rl ?_ | refine rh ?_ | refine ru ?_ | refine rt ?_ | refine rf ?_ | refine rs ?_ | refine And.intro ?_ ?_) | omega | simp (maxSteps := 1000000) only [go_sem, simprocAttr, ↓reduceIte, h0, h1])
      refine Ret.auto 0 ?_ rfl ?_ <;> simp only [go_sem, reduceCtorEq, reduceIte, Nat.reduceEqDiff, Nat.reduceLT, Nat.reduceLeDiff, Int.natCast_succ, Post, isWd_long h1]
    · have hp : 0 < s.length := List.length_pos_iff.2 h0
      have hp2 : (0 : Int) < s.length := by omega
      have k := letter_ok (s.getD 0 0)
      have k2 := letter_ok (s.getD (s.length - 1) 0)
      have e := isWd_mid h0 h1
      have et : ((s.length : Int) - 1).toNat = s.length - 1 := by omega
      (repeat' first | with_reducible (first | intro _ | refine rc ?_ | refine rl ?_ | refine rh ?_ | refine ru ?_ | refine rt ?_ | refine rf ?_ | refine rs ?_ | refine And.intro ?_ ?_) | omega | simp (maxSteps := 1000000) only [go_sem, simprocAttr, ↓reduceIte, h0, h1, hp2])
      refine VcCall.k k ?_
      cases hL : isL (s.getD 0 0) with
      | false =>
        (repeat' first | with_reducible (first | intro _ | refine rc ?_ | refine rl ?_ | refine rh ?_ | refine ru ?_ | refine rt ?_ | refine rf ?_ | refine rs ?_ | refine And.intro ?_ ?_) | omega | simp (maxSteps := 1000000) only [go_sem, simprocAttr, ↓reduceIte, hL])
        refine Ret.auto 0 ?_ rfl ?_ <;> simp only [go_sem, reduceCtorEq, reduceIte, Nat.reduceEqDiff, Nat.reduceLT, Nat.reduceLeDiff, Int.natCast_succ, Post, e, hL, Bool.false_and]
      | true =>
        (repeat' first | with_reducible (first | intro _ | refine rc ?_ | refine rl ?_ | refine rh ?_ | refine ru ?_ | refine rt ?_ | refine rf ?_ | refine rs ?_ | refine And.intro ?_ ?_) | omega | simp (maxSteps := 1000000) only [go_sem, simprocAttr, ↓reduceIte, hL, et])
        refine VcCall.k k2 ?_
        cases hL2 : isL (s.getD (s.length - 1) 0) with
        | false =>
          (repeat' first | with_reducible (first | intro _ | refine rc ?_ | refine rl ?_ | refine rh ?_ | refine ru ?_ | refine rt ?_ | refine rf ?_ | refine rs ?_ | refine And.intro ?_ ?_) | omega | simp (maxSteps := 1000000) only [go_sem, simprocAttr, ↓reduceIte, hL2])
          refine Ret.auto 0 ?_ rfl ?_ <;> simp only [go_sem, reduceCtorEq, reduceIte, Nat.reduceEqDiff, Nat.reduceLT, Nat.reduceLeDiff, Int.natCast_succ, Post, e, hL, hL2, Bool.false_and, Bool.and_false]
        | true =>
          (repeat' first | with_reducible (first | intro _ | refine rc ?_ | refine rl ?_ | refine rh ?_ | refine ru ?_ | refine rt ?_ | refine rf ?_ | refine rs ?_ | refine And.intro ?_ ?_) | omega | simp (maxSteps := 1000000) only [go_sem, simprocAttr, ↓reduceIte, hL2])
          refine VcLoop.intro (fun i : Nat => ⟨37, [(28, .int .i64 i), (27, .int .i64 s.length), (0, .str s)], [], 0⟩) (fun i => i ≤ s.length ∧ ∀ j, j < i → inW (s.getD j 0) = true) (fun i => s.length - i) 0 ?_ ⟨Nat.zero_le _, fun j hj => absurd hj (Nat.not_lt_zero j)⟩ fun i hi => ?_
          · refine Ent.auto0 rfl ?_ ?_ <;> simp only [go_sem, reduceCtorEq, reduceIte, Nat.reduceEqDiff, Nat.reduceLT, Nat.reduceLeDiff, Int.natCast_succ]
          obtain ⟨hi, ha⟩ := hi
          have k3 := inWord_ok (s.getD i 0)
          (repeat' first | with_reducible (first | intro _ | refine rc ?_ | refine rl ?_ | refine rh ?_ | refine ru ?_ | refine rt ?_ | refine rf ?_ | refine rs ?_ | refine And.intro ?_ ?_) | omega | simp (maxSteps := 1000000) only [go_sem, simprocAttr, ↓reduceIte, Int.toNat_natCast])
          · refine VcCall.k k3 ?_
            cases hW : inW (s.getD i 0) with
            | false =>
              have hf := all_not (by omega) hW
              (repeat' first | with_reducible (first | intro _ | refine rc ?_ | refine rl ?_ | refine rh ?_ | refine ru ?_ | refine rt ?_ | refine rf ?_ | refine rs ?_ | refine And.intro ?_ ?_) | omega | simp (maxSteps := 1000000) only [go_sem, simprocAttr, ↓reduceIte, hW])
              refine Ret.auto 0 ?_ rfl ?_ <;> simp only [go_sem, reduceCtorEq, reduceIte, Nat.reduceEqDiff, Nat.reduceLT, Nat.reduceLeDiff, Int.natCast_succ, Post, e, hf, Bool.and_false]
            | true =>
              (repeat' first | with_reducible (first | intro _ | refine rc ?_ | refine rl ?_ | refine rh ?_ | refine ru ?_ | refine rt ?_ | refine rf ?_ | refine rs ?_ | refine And.intro ?_ ?_) | omega | simp (maxSteps := 1000000) only [go_sem, simprocAttr, ↓reduceIte, hW])
              refine ⟨i + 1, Ent.auto0 rfl ?_ ?_, ⟨by omega, fun j hj => ?_⟩, by omega⟩
              · simp only [go_sem, reduceCtorEq, reduceIte, Nat.reduceEqDiff, Nat.reduceLT, Nat.reduceLeDiff, Int.natCast_succ]
              · simp only [go_sem, reduceCtorEq, reduceIte, Nat.reduceEqDiff, Nat.reduceLT, Nat.reduceLeDiff, Int.natCast_succ]
              · by_cases hji : j = i
                · rw [hji]; exact hW
                · exact ha j (by omega)
          · have hf := all_of fun j hj => ha j (by omega)
            refine Ret.auto 0 ?_ rfl ?_ <;> simp only [go_sem, reduceCtorEq, reduceIte, Nat.reduceEqDiff, Nat.reduceLT, Nat.reduceLeDiff, Int.natCast_succ, Post, e, hL, hL2, hf, Bool.and_true]
theorem isWord_ok (s : List UInt8) (hs : s.length ≤ 1000000000000) : FnOk Tryz.prog 30 [.str s] (.bool (isWd s)) [] := isWordA_ok s
end Go.Fv.Y

/- The trims at the quote. -/
namespace Go.Fv.Y
open Go Go.Proofs
set_option linter.unusedSimpArgs false
set_option linter.unusedVariables false
set_option linter.unnecessarySimpa false
set_option maxRecDepth 8000

theorem dropQ_q {s : List UInt8} (h0 : 0 < s.length) (h : (s.getD 0 0).toNat = 39) : dropQ (s.drop 1) = dropQ s := by
  cases s with
  | nil => simp at h0
  | cons c t =>
    have hc : c = 39 := UInt8.toNat_inj.1 h
    subst hc; rfl
theorem dropQ_n {s : List UInt8} (h : 0 < s.length → ¬ ((s.getD 0 0).toNat = 39)) : dropQ s = s := by
  cases s with
  | nil => rfl
  | cons c t =>
    have hc : ¬ c = 39 := fun e => h (by simp) (by subst e; rfl)
    simp [dropQ, qu, hc]
theorem dropR_snoc (t : List UInt8) (c : UInt8) : dropR (t ++ [c]) = if c = 39 then dropR t else t ++ [c] := by
  unfold dropR
  rw [List.reverse_append, List.reverse_singleton, List.singleton_append, List.dropWhile_cons]
  by_cases h : c = 39
  · simp [qu, h]
  · simp [qu, h]
theorem last_of {s : List UInt8} (h0 : 0 < s.length) : s = s.take (s.length - 1) ++ [s.getD (s.length - 1) 0] := by
  rw [getD_lt (by omega)]
  rw [List.take_append_getElem (by omega)]
  rw [List.take_of_length_le (by omega)]
theorem dropR_q {s : List UInt8} (h0 : 0 < s.length) (h : (s.getD (s.length - 1) 0).toNat = 39) : dropR (s.take (s.length - 1)) = dropR s := by
  have hc : s.getD (s.length - 1) 0 = 39 := UInt8.toNat_inj.1 h
  conv => rhs; rw [last_of h0, dropR_snoc, if_pos hc]
theorem dropR_n {s : List UInt8} (h : 0 < s.length → ¬ ((s.getD (s.length - 1) 0).toNat = 39)) : dropR s = s := by
  by_cases h0 : 0 < s.length
  · have hc : ¬ s.getD (s.length - 1) 0 = 39 := fun e => h h0 (by rw [e]; rfl)
    conv => lhs; rw [last_of h0, dropR_snoc, if_neg hc]
    exact (last_of h0).symm
  · have : s = [] := List.eq_nil_of_length_eq_zero (by omega)
    subst this; rfl
theorem dropQ_snoc (t : List UInt8) (c : UInt8) (h : ¬ c = 39) : dropQ (t ++ [c]) = dropQ t ++ [c] := by
  induction t with
  | nil => simp [dropQ, qu, h]
  | cons d t ih =>
    by_cases hd : d = 39
    · subst hd; exact ih
    · simp [dropQ, qu, hd]
theorem dropQ_app (t : List UInt8) : dropQ (t ++ [39]) = if dropQ t = [] then [] else dropQ t ++ [39] := by
  induction t with
  | nil => simp [dropQ, qu]
  | cons d t ih =>
    by_cases hd : d = 39
    · subst hd; exact ih
    · simp [dropQ, qu, hd]
/-- Either order of the two trims. -/
theorem drop_swap : ∀ (n : Nat) (s : List UInt8), s.length ≤ n → dropQ (dropR s) = dropR (dropQ s)
  | 0, s, h => by
    have : s = [] := List.eq_nil_of_length_eq_zero (by omega)
    subst this; rfl
  | n + 1, s, h => by
    by_cases h0 : 0 < s.length
    · rw [last_of h0]
      generalize hc : s.getD (s.length - 1) 0 = c
      have hl : (s.take (s.length - 1)).length ≤ n := by simp; omega
      generalize s.take (s.length - 1) = t at hl
      rw [dropR_snoc]
      by_cases h39 : c = 39
      · subst h39
        rw [if_pos rfl, dropQ_app, drop_swap n t hl]
        by_cases hq : dropQ t = []
        · rw [if_pos hq, hq]
        · rw [if_neg hq, dropR_snoc, if_pos rfl]
      · rw [if_neg h39, dropQ_snoc t c h39, dropR_snoc, if_neg h39]
    · have : s = [] := List.eq_nil_of_length_eq_zero (by omega)
      subst this; rfl
theorem midQ_eq (s : List UInt8) : dropQ (dropR s) = midQ s := drop_swap s.length s (Nat.le_refl _)

theorem trimLeftByte_ok (s : List UInt8) (hs : s.length ≤ 1000000000000) : FnOk Tryz.prog 93 [.str s, .int .u8 39] (.str (dropQ s)) [] := by
  refine FnOk.of_vc Tryz.func93 rfl (by decide) (by simp [Tryz.f93]) [.tmp 4] rfl fun w0 T0 _ => ?_
  simp only [Tryz.f93, argEnv]
  (repeat' first | with_reducible (first | intro _ | refine rc ?_ | refine rl ?_ | refine rh ?_ | refine ru ?_ | refine rt ?_ | refine rf ?_ | refine rs ?_ | refine And.intro ?_ ?_) | omega | simp (maxSteps := 1000000) only [go_sem, simprocAttr, ↓reduceIte])
  refine VcLoop.intro (fun t : List UInt8 => ⟨17, [(0, .str t), (1, .int .u8 39)], [], 0⟩) (fun t => t.length ≤ 1000000000000 ∧ dropQ t = dropQ s) (fun t => t.length) s ?_ ⟨hs, rfl⟩ fun t ht => ?_
  · refine Ent.auto0 rfl ?_ ?_ <;> simp only [go_sem, reduceCtorEq, reduceIte, Nat.reduceEqDiff, Nat.reduceLT, Nat.reduceLeDiff, Int.natCast_succ]
  obtain ⟨hl, he⟩ := ht
  (repeat' first | with_reducible (first | intro _ | refine rc ?_ | refine rl ?_ | refine rh ?_ | refine ru ?_ | refine rt ?_ | refine rf ?_ | refine rs ?_ | refine And.intro ?_ ?_) | omega | simp (maxSteps := 1000000) only [go_sem, simprocAttr, ↓reduceIte])
  · refine ⟨t.drop 1, Ent.auto0 rfl ?_ ?_, ⟨?_, ?_⟩, ?_⟩
    · simp only [go_sem, reduceCtorEq, reduceIte, Nat.reduceEqDiff, Nat.reduceLT, Nat.reduceLeDiff, Int.natCast_succ]
      exact List.take_of_length_le (by simp)
    · simp only [go_sem, reduceCtorEq, reduceIte, Nat.reduceEqDiff, Nat.reduceLT, Nat.reduceLeDiff, Int.natCast_succ]
    · simp; omega
    · rw [dropQ_q (by omega) (by omega)]; exact he
    · simp; omega
  · have e : t = dropQ s := by rw [← he, dropQ_n (fun h => by omega)]
    refine Ret.auto 0 ?_ rfl ?_ <;> simp only [go_sem, reduceCtorEq, reduceIte, Nat.reduceEqDiff, Nat.reduceLT, Nat.reduceLeDiff, Int.natCast_succ, Post, e]
theorem trimRightByte_ok (s : List UInt8) (hs : s.length ≤ 1000000000000) : FnOk Tryz.prog 94 [.str s, .int .u8 39] (.str (dropR s)) [] := by
  refine FnOk.of_vc Tryz.func94 rfl (by decide) (by simp [Tryz.f94]) [.tmp 4] rfl fun w0 T0 _ => ?_
  simp only [Tryz.f94, argEnv]
  (repeat' first | with_reducible (first | intro _ | refine rc ?_ | refine rl ?_ | refine rh ?_ | refine ru ?_ | refine rt ?_ | refine rf ?_ | refine rs ?_ | refine And.intro ?_ ?_) | omega | simp (maxSteps := 1000000) only [go_sem, simprocAttr, ↓reduceIte])
  refine VcLoop.intro (fun t : List UInt8 => ⟨23, [(0, .str t), (1, .int .u8 39)], [], 0⟩) (fun t => t.length ≤ 1000000000000 ∧ dropR t = dropR s) (fun t => t.length) s ?_ ⟨hs, rfl⟩ fun t ht => ?_
  · refine Ent.auto0 rfl ?_ ?_ <;> simp only [go_sem, reduceCtorEq, reduceIte, Nat.reduceEqDiff, Nat.reduceLT, Nat.reduceLeDiff, Int.natCast_succ]
  obtain ⟨hl, he⟩ := ht
  have et : ((t.length : Int) - 1).toNat = t.length - 1 := by omega
  (repeat' first | with_reducible (first | intro _ | refine rc ?_ | refine rl ?_ | refine rh ?_ | refine ru ?_ | refine rt ?_ | refine rf ?_ | refine rs ?_ | refine And.intro ?_ ?_) | omega | simp (maxSteps := 1000000) only [go_sem, simprocAttr, ↓reduceIte, et])
  · refine ⟨t.take (t.length - 1), Ent.auto0 rfl ?_ ?_, ⟨?_, ?_⟩, ?_⟩
    · simp only [go_sem, reduceCtorEq, reduceIte, Nat.reduceEqDiff, Nat.reduceLT, Nat.reduceLeDiff, Int.natCast_succ, et]
      rfl
    · simp only [go_sem, reduceCtorEq, reduceIte, Nat.reduceEqDiff, Nat.reduceLT, Nat.reduceLeDiff, Int.natCast_succ]
    · simp; omega
    · rw [dropR_q (by omega) (by omega)]; exact he
    · simp; omega
  · have e : t = dropR s := by rw [← he, dropR_n (fun h => by omega)]
    refine Ret.auto 0 ?_ rfl ?_ <;> simp only [go_sem, reduceCtorEq, reduceIte, Nat.reduceEqDiff, Nat.reduceLT, Nat.reduceLeDiff, Int.natCast_succ, Post, e]
theorem dropR_len (s : List UInt8) : (dropR s).length ≤ s.length := by
  unfold dropR
  have := takeWhile_len_le qu s.reverse
  simp at this ⊢; omega
theorem trim_ok (s : List UInt8) (hs : s.length ≤ 1000000000000) : FnOk Tryz.prog 50 [.str s, .str [39]] (.str (midQ s)) [] := by
  have k := trimRightByte_ok s hs
  have k2 := trimLeftByte_ok (dropR s) (Nat.le_trans (dropR_len s) hs)
  rw [midQ_eq] at k2
  have one : ((1 : Nat) : Int) = 1 := rfl
  have q39 : ((([39] : List UInt8).getD 0 0).toNat : Int) = 39 := rfl
  have l39 : (39 : Int) < 128 := by decide
  refine FnOk.of_vc Tryz.func50 rfl (by decide) (by simp [Tryz.f50]) [.tmp 4] rfl fun w0 T0 _ => ?_
  simp only [Tryz.f50, argEnv]
  by_cases h0 : s = []
  · have e : midQ [] = [] := rfl
    (repeat' first | with_reducible (first | intro _ | refine rc ?_ | refine rl ?_ | refine rh ?_ | refine ru ?_ | refine rt ?_ | refine rf ?_ | refine rs ?_ | refine And.intro ?_ ?_) | omega | simp (maxSteps := 1000000) only [go_sem, simprocAttr, ↓reduceIte, h0])
    refine Ret.auto 0 ?_ rfl ?_ <;> simp only [go_sem, reduceCtorEq, reduceIte, Nat.reduceEqDiff, Nat.reduceLT, Nat.reduceLeDiff, Int.natCast_succ, Post, e]
  · (repeat' first | with_reducible (first | intro _ | refine rc ?_ | refine rl ?_ | refine rh ?_ | refine ru ?_ | refine rt ?_ | refine rf ?_ | refine rs ?_ | refine And.intro ?_ ?_) | omega | simp (maxSteps := 1000000) only [go_sem, simprocAttr, ↓reduceIte, h0, one, q39, l39])
    refine VcDraw.lex [] [] (by kernel_rfl) (by kernel_rfl) ?_
    (repeat' first | with_reducible (first | intro _ | refine rc ?_ | refine rl ?_ | refine rh ?_ | refine ru ?_ | refine rt ?_ | refine rf ?_ | refine rs ?_ | refine And.intro ?_ ?_) | omega | simp (maxSteps := 1000000) only [go_sem, simprocAttr, ↓reduceIte, one, q39])
    refine QV.intro (.str (dropR s)) ?_ ?_
    · (repeat' first | with_reducible (first | intro _ | refine rc ?_ | refine rl ?_ | refine rh ?_ | refine ru ?_ | refine rt ?_ | refine rf ?_ | refine rs ?_ | refine And.intro ?_ ?_) | omega | simp (maxSteps := 1000000) only [go_sem, simprocAttr, ↓reduceIte])
      refine VcCall.k k ?_
      (repeat' first | with_reducible (first | intro _ | refine rc ?_ | refine rl ?_ | refine rh ?_ | refine ru ?_ | refine rt ?_ | refine rf ?_ | refine rs ?_ | refine And.intro ?_ ?_) | omega | simp (maxSteps := 1000000) only [go_sem, simprocAttr, ↓reduceIte])
    (repeat' first | with_reducible (first | intro _ | refine rc ?_ | refine rl ?_ | refine rh ?_ | refine ru ?_ | refine rt ?_ | refine rf ?_ | refine rs ?_ | refine And.intro ?_ ?_) | omega | simp (maxSteps := 1000000) only [go_sem, simprocAttr, ↓reduceIte, one, q39])
    refine QV.intro (.str (midQ s)) ?_ ?_
    · (repeat' first | with_reducible (first | intro _ | refine rc ?_ | refine rl ?_ | refine rh ?_ | refine ru ?_ | refine rt ?_ | refine rf ?_ | refine rs ?_ | refine And.intro ?_ ?_) | omega | simp (maxSteps := 1000000) only [go_sem, simprocAttr, ↓reduceIte])
      refine VcCall.k k2 ?_
      (repeat' first | with_reducible (first | intro _ | refine rc ?_ | refine rl ?_ | refine rh ?_ | refine ru ?_ | refine rt ?_ | refine rf ?_ | refine rs ?_ | refine And.intro ?_ ?_) | omega | simp (maxSteps := 1000000) only [go_sem, simprocAttr, ↓reduceIte])
    (repeat' first | with_reducible (first | intro _ | refine rc ?_ | refine rl ?_ | refine rh ?_ | refine ru ?_ | refine rt ?_ | refine rf ?_ | refine rs ?_ | refine And.intro ?_ ?_) | omega | simp (maxSteps := 1000000) only [go_sem, simprocAttr, ↓reduceIte])
    refine Ret.auto 0 ?_ rfl ?_ <;> simp only [go_sem, reduceCtorEq, reduceIte, Nat.reduceEqDiff, Nat.reduceLT, Nat.reduceLeDiff, Int.natCast_succ, Post]
end Go.Fv.Y

/- strings.Index, strings.Count, by the contracts of the shelf. -/
namespace Go.Proofs
open Go.Shelf
def Tryz.lays143_ren : Go.Shelf.Ren := ⟨fun | 143 => 45 | 219 => 90 | 217 => 128 | 225 => 129 | 224 => 130 | 267 => 131 | 266 => 153 | 314 => 154 | n => n, fun | 9 => 9 | 3 => 3 | 4 => 4 | 5 => 5 | 46 => 121 | 146 => 187 | 51 => 161 | n => n, fun | 1 => 0 | n => n⟩
theorem Tryz.lays143 : Go.Proofs.LaysM.n143 Tryz.prog Tryz.lays143_ren := {
  mixed := by kernel_rfl
  f143 := Tryz.func45.trans (congrArg some (by kernel_rfl))
  f217 := Tryz.func128.trans (congrArg some (by kernel_rfl))
  f219 := Tryz.func90.trans (congrArg some (by kernel_rfl))
  f224 := Tryz.func130.trans (congrArg some (by kernel_rfl))
  f225 := Tryz.func129.trans (congrArg some (by kernel_rfl))
  f266 := Tryz.func153.trans (congrArg some (by kernel_rfl))
  f267 := Tryz.func131.trans (congrArg some (by kernel_rfl))
  f314 := Tryz.func154.trans (congrArg some (by kernel_rfl))
  t3 := Tryz.underlying3
  a3 := Tryz.isAgg3
  z3 := Tryz.sizeOf3
  v3 := Tryz.zeroValue3
  t4 := Tryz.underlying4
  a4 := Tryz.isAgg4
  z4 := Tryz.sizeOf4
  v4 := Tryz.zeroValue4
  t5 := Tryz.underlying5
  a5 := Tryz.isAgg5
  z5 := Tryz.sizeOf5
  v5 := Tryz.zeroValue5
  t9 := Tryz.underlying9
  a9 := Tryz.isAgg9
  z9 := Tryz.sizeOf9
  v9 := Tryz.zeroValue9
  t46 := Tryz.underlying121
  a46 := Tryz.isAgg121
  z46 := Tryz.sizeOf121
  v46 := Tryz.zeroValue121
  t51 := Tryz.underlying161
  a51 := Tryz.isAgg161
  z51 := Tryz.sizeOf161
  v51 := Tryz.zeroValue161
  t146 := Tryz.underlying187
  a146 := Tryz.isAgg187
  z146 := Tryz.sizeOf187
  v146 := Tryz.zeroValue187
  g1 := by kernel_rfl
  i3 := by kernel_rfl
  i4 := by kernel_rfl
  i5 := by kernel_rfl
  i9 := by kernel_rfl
  i46 := by kernel_rfl
  i51 := by kernel_rfl
  i146 := by kernel_rfl
  m1 := by kernel_rfl
  s1_3 := fun w h => Go.Proofs.cell_of_shapedOpen_int (zero := #[.int .i64 0]) (t := 3) h (of_decide_eq_true (by kernel_rfl)) (by kernel_rfl) rfl (by kernel_rfl) (by kernel_rfl) Tryz.underlying3 }
end Go.Proofs
namespace Go.Proofs
open Go.Shelf
def Tryz.lays138_ren : Go.Shelf.Ren := ⟨fun | 138 => 43 | 195 => 87 | 218 => 88 | 143 => 45 | 219 => 90 | 217 => 128 | 225 => 129 | 224 => 130 | 267 => 131 | 266 => 153 | 314 => 154 | n => n, fun | 9 => 9 | 3 => 3 | 4 => 4 | 5 => 5 | 0 => 0 | 46 => 121 | 146 => 187 | 51 => 161 | n => n, fun | 1 => 0 | n => n⟩
theorem Tryz.lays138 : Go.Proofs.LaysM.n138 Tryz.prog Tryz.lays138_ren := {
  mixed := by kernel_rfl
  f138 := Tryz.func43.trans (congrArg some (by kernel_rfl))
  f143 := Tryz.func45.trans (congrArg some (by kernel_rfl))
  f195 := Tryz.func87.trans (congrArg some (by kernel_rfl))
  f217 := Tryz.func128.trans (congrArg some (by kernel_rfl))
  f218 := Tryz.func88.trans (congrArg some (by kernel_rfl))
  f219 := Tryz.func90.trans (congrArg some (by kernel_rfl))
  f224 := Tryz.func130.trans (congrArg some (by kernel_rfl))
  f225 := Tryz.func129.trans (congrArg some (by kernel_rfl))
  f266 := Tryz.func153.trans (congrArg some (by kernel_rfl))
  f267 := Tryz.func131.trans (congrArg some (by kernel_rfl))
  f314 := Tryz.func154.trans (congrArg some (by kernel_rfl))
  t0 := Tryz.underlying0
  a0 := Tryz.isAgg0
  z0 := Tryz.sizeOf0
  v0 := Tryz.zeroValue0
  t3 := Tryz.underlying3
  a3 := Tryz.isAgg3
  z3 := Tryz.sizeOf3
  v3 := Tryz.zeroValue3
  t4 := Tryz.underlying4
  a4 := Tryz.isAgg4
  z4 := Tryz.sizeOf4
  v4 := Tryz.zeroValue4
  t5 := Tryz.underlying5
  a5 := Tryz.isAgg5
  z5 := Tryz.sizeOf5
  v5 := Tryz.zeroValue5
  t9 := Tryz.underlying9
  a9 := Tryz.isAgg9
  z9 := Tryz.sizeOf9
  v9 := Tryz.zeroValue9
  t46 := Tryz.underlying121
  a46 := Tryz.isAgg121
  z46 := Tryz.sizeOf121
  v46 := Tryz.zeroValue121
  t51 := Tryz.underlying161
  a51 := Tryz.isAgg161
  z51 := Tryz.sizeOf161
  v51 := Tryz.zeroValue161
  t146 := Tryz.underlying187
  a146 := Tryz.isAgg187
  z146 := Tryz.sizeOf187
  v146 := Tryz.zeroValue187
  g1 := by kernel_rfl
  i0 := by kernel_rfl
  i3 := by kernel_rfl
  i4 := by kernel_rfl
  i5 := by kernel_rfl
  i9 := by kernel_rfl
  i46 := by kernel_rfl
  i51 := by kernel_rfl
  i146 := by kernel_rfl
  m1 := by kernel_rfl
  s1_3 := fun w h => Go.Proofs.cell_of_shapedOpen_int (zero := #[.int .i64 0]) (t := 3) h (of_decide_eq_true (by kernel_rfl)) (by kernel_rfl) rfl (by kernel_rfl) (by kernel_rfl) Tryz.underlying3 }
end Go.Proofs
namespace Go.Fv.Y
open Go Go.Proofs
set_option linter.unusedSimpArgs false
set_option linter.unusedVariables false
set_option linter.unnecessarySimpa false
set_option maxRecDepth 8000

theorem index_ok (s t : List UInt8) (hs : s.length ≤ 1048576) : FnOk Tryz.prog 45 [.str s, .str t] (.int .i64 (Lib.index s t)) [] := by
  refine ⟨⟨_, Tryz.func45, by kernel_rfl, by kernel_rfl⟩, fun w T vals hg hv => ?_⟩
  obtain ⟨m, t0, _, hm⟩ := hg.int (g := 0) (k := .i64) (by kernel_rfl)
  cases hv with
  | cons _ _ _ _ h1 hv => cases hv with
    | cons _ _ _ _ h2 hv =>
      cases hv
      cases h1 with
      | str _ e1 => cases h2 with
        | str _ e2 =>
          have L := Tryz.lays143
          refine (Any.strings_Index { L with } ⟨s.toArray⟩ ⟨t.toArray⟩ m w ?_ ?_).mono ?_
          · show s.toArray.size < 4294967281
            simp; omega
          · simp [World.cell?, Tryz.lays143_ren, hm]
          · rintro e w' ⟨rfl, rfl⟩
            refine ⟨_, rfl, BelowD.refl _ _, fun _ => undef, 0, ?_, ?_, ?_⟩
            · have h1 := Lib.index_ge s t
              have h2 := Lib.index_le s t
              have e1 : IntKind.i64.min = -9223372036854775808 := by decide
              have e2 : IntKind.i64.max = 9223372036854775807 := by decide
              exact .int .i64 _ ⟨by rw [e1]; omega, by rw [e2]; omega⟩
            · intro i it h; cases h
            · intro i j it jt b h; cases h
/-- strings.Count at one byte, by the contract of the shelf. -/
theorem count_ok (s : List UInt8) (c : UInt8) : FnOk Tryz.prog 43 [.str s, .str [c]] (.int .i64 ((s.count c : Nat) : Int)) [] := by
  refine ⟨⟨_, Tryz.func43, by kernel_rfl, by kernel_rfl⟩, fun w T vals hg hv => ?_⟩
  cases hv with
  | cons _ _ _ _ h1 hv => cases hv with
    | cons _ _ _ _ h2 hv =>
      cases hv
      cases h1 with
      | str _ e1 => cases h2 with
        | str _ e2 =>
          have L := Tryz.lays138
          refine (Any.strings_Count_one { L with } ⟨s.toArray⟩ c w).mono ?_
          rintro e w' ⟨rfl, rfl⟩
          refine ⟨_, rfl, BelowD.refl _ _, fun _ => undef, 0, ?_, ?_, ?_⟩
          · have h1 : s.count c ≤ s.length := List.count_le_length
            have h3 : s.length ≤ 9223372036854775807 := e1
            have e1 : IntKind.i64.min = -9223372036854775808 := by decide
            have e2 : IntKind.i64.max = 9223372036854775807 := by decide
            exact .int .i64 _ ⟨by rw [e1]; omega, by rw [e2]; omega⟩
          · intro i it h; cases h
          · intro i j it jt b h; cases h
end Go.Fv.Y

/- The steps of the tokens, by places of the text. -/
namespace Go.Fv.Y
open Go
set_option linter.unusedSimpArgs false
set_option linter.unusedVariables false
set_option linter.unnecessarySimpa false

/-- What is from a up to b. -/
def sub (s : Bytes) (a b : Nat) : Bytes := (s.drop a).take (b - a)
theorem sub_len {s : Bytes} {a b : Nat} (h : a ≤ b) (hb : b ≤ s.length) : (sub s a b).length = b - a := by
  simp [sub]; omega
theorem sub_self (s : Bytes) (a : Nat) : sub s a a = [] := by simp [sub]
theorem sub_app {s : Bytes} {a b c : Nat} (h : a ≤ b) (h2 : b ≤ c) : sub s a b ++ sub s b c = sub s a c := by
  unfold sub
  have e : c - a = (b - a) + (c - b) := by omega
  rw [e, List.take_add, List.drop_drop]
  congr 3; omega
theorem sub_one {s : Bytes} {i : Nat} (h : i < s.length) : sub s i (i + 1) = [s.getD i 0] := by
  unfold sub
  rw [List.drop_eq_getElem_cons h, getD_lt h, show i + 1 - i = 1 by omega]; rfl
theorem sub_snoc {s : Bytes} {a i : Nat} (h0 : a ≤ i) (h : i < s.length) : sub s a i ++ [s.getD i 0] = sub s a (i + 1) := by
  rw [← sub_one h, sub_app h0 (by omega)]
/-- Where the row of letters ends. -/
theorem run_at {s : Bytes} : ∀ (n i k : Nat), k - i ≤ n → i ≤ k → k ≤ s.length → (∀ j, i ≤ j → j < k → inW (s.getD j 0) = true) → (k < s.length → inW (s.getD k 0) = false) →
    (s.drop i).takeWhile inW = sub s i k ∧ (s.drop i).dropWhile inW = s.drop k
  | 0, i, k, hn, h1, h2, h3, h4 => by
    have : i = k := by omega
    subst this
    rw [sub_self]
    by_cases h : i < s.length
    · have := h4 h
      rw [getD_lt h] at this
      rw [List.drop_eq_getElem_cons h, List.takeWhile_cons, List.dropWhile_cons, this]
      exact ⟨rfl, rfl⟩
    · rw [List.drop_of_length_le (by omega)]; exact ⟨rfl, rfl⟩
  | n + 1, i, k, hn, h1, h2, h3, h4 => by
    by_cases h : i = k
    · exact run_at 0 i k (by omega) h1 h2 h3 h4
    · have hi : i < s.length := by omega
      obtain ⟨e1, e2⟩ := run_at n (i + 1) k (by omega) (by omega) h2 (fun j hj hk => h3 j (by omega) hk) h4
      have hw := h3 i (Nat.le_refl _) (by omega)
      rw [← sub_app (s := s) (a := i) (b := i + 1) (c := k) (by omega) (by omega), sub_one hi, List.drop_eq_getElem_cons hi]
      rw [getD_lt hi] at hw ⊢
      rw [List.takeWhile_cons, List.dropWhile_cons, hw, if_pos rfl, if_pos rfl, e1, e2]
      exact ⟨rfl, rfl⟩
theorem step_other {s : Bytes} {i a : Nat} (h : i < s.length) (ha : a ≤ i) (hc : inW (s.getD i 0) = false) (out : List Tok) : toks (s.drop i) (sub s a i) out = toks (s.drop (i + 1)) (sub s a (i + 1)) out := by
  rw [← sub_snoc ha h, List.drop_eq_getElem_cons h]
  rw [getD_lt h] at hc ⊢
  rw [toks_other hc]
theorem step_row {s : Bytes} {i k a : Nat} (h : i < s.length) (ha : a ≤ i) (hk : i < k) (hkl : k ≤ s.length) (hr : ∀ j, i ≤ j → j < k → inW (s.getD j 0) = true) (he : k < s.length → inW (s.getD k 0) = false) (out : List Tok)
    (hw : isWd (midQ (sub s i k)) = false) : toks (s.drop i) (sub s a i) out = toks (s.drop k) (sub s a k) out := by
  obtain ⟨e1, e2⟩ := run_at (k - i) i k (Nat.le_refl _) (by omega) hkl hr he
  have hc := hr i (Nat.le_refl _) hk
  rw [List.drop_eq_getElem_cons h] at e1 e2 ⊢
  rw [getD_lt h] at hc
  rw [toks_row hc _ _ (by rw [e1, hw]; decide), e1, e2, sub_app ha (by omega)]
/-- The quotes ahead. -/
def preN (t : Bytes) : Nat := (preQ t).length
theorem preN_le (t : Bytes) : preN t + (midQ t).length ≤ t.length := by
  have := congrArg List.length (three t)
  simp only [List.length_append] at this
  unfold preN; omega
theorem step_word {s : Bytes} {i k a : Nat} (h : i < s.length) (ha : a ≤ i) (hk : i < k) (hkl : k ≤ s.length) (hr : ∀ j, i ≤ j → j < k → inW (s.getD j 0) = true) (he : k < s.length → inW (s.getD k 0) = false) (out : List Tok)
    (hw : isWd (midQ (sub s i k)) = true) : toks (s.drop i) (sub s a i) out = toks (s.drop k) (sub s (i + preN (sub s i k) + (midQ (sub s i k)).length) k) (flush out (sub s a (i + preN (sub s i k))) ++ [(midQ (sub s i k), true)]) := by
  obtain ⟨e1, e2⟩ := run_at (k - i) i k (Nat.le_refl _) (by omega) hkl hr he
  have hc := hr i (Nat.le_refl _) hk
  rw [List.drop_eq_getElem_cons h] at e1 e2 ⊢
  rw [getD_lt h] at hc
  rw [toks_word hc _ _ (by rw [e1, hw]), e1, e2]
  have h3 := three (sub s i k)
  have hle := preN_le (sub s i k)
  have hlen := sub_len (s := s) (a := i) (b := k) (by omega) hkl
  generalize hrow : sub s i k = row at *
  have p1 : preQ row = sub s i (i + preN row) := by
    have := congrArg (List.take (preN row)) h3
    rw [List.take_append_of_le_length (by simp [preN]), List.take_of_length_le (by simp [preN])] at this
    rw [this]; generalize preN row = q at *
    rw [← hrow]; unfold sub
    rw [List.take_take]; congr 1; omega
  have p2 : postQ (dropQ row) = sub s (i + preN row + (midQ row).length) k := by
    have := congrArg (List.drop (preN row + (midQ row).length)) h3
    rw [← List.append_assoc, List.drop_append_of_le_length (by simp [preN]), List.drop_of_length_le (by simp [preN]), List.nil_append] at this
    rw [this]; generalize preN row = q at *; generalize (midQ row).length = q2 at *
    rw [← hrow]; unfold sub
    rw [List.drop_take, List.drop_drop]; congr 1
    · omega
    · congr 1; omega
  rw [p2]
  conv => lhs; rw [p1]
  rw [sub_app ha (by omega)]

/-- Where the word is found. -/
theorem index_mid {t : Bytes} (h : midQ t ≠ []) : Lib.index t (midQ t) = preN t := by
  have h3 := three t
  have hd : t.drop (preN t) = midQ t ++ postQ (dropQ t) := by
    have := congrArg (List.drop (preN t)) h3
    rw [List.drop_append_of_le_length (by simp [preN]), List.drop_of_length_le (by simp [preN]), List.nil_append] at this
    exact this.symm
  have hle := preN_le t
  refine Lib.index_first (by omega) ?_ ?_
  · unfold Lib.occAt; rw [hd]
    rw [List.isPrefixOf_iff_prefix]; exact List.prefix_append _ _
  · intro j hj
    obtain ⟨c, m, hm⟩ : ∃ c m, midQ t = c :: m := by
      cases hq : midQ t with
      | nil => exact absurd hq h
      | cons c m => exact ⟨c, m, rfl⟩
    have hc : qu c = false := by
      have hdq : dropQ t = c :: (m ++ postQ (dropQ t)) := by
        have := mid_post (dropQ t)
        rw [← this]; show midQ t ++ _ = _; rw [hm]; simp [this]
      have := List.head?_dropWhile_not qu t
      rw [show t.dropWhile qu = dropQ t from rfl, hdq] at this
      simpa using this
    have hq : ∃ l, t.drop j = 39 :: l := by
      have hj2 : j < t.length := by omega
      refine ⟨t.drop (j + 1), ?_⟩
      rw [List.drop_eq_getElem_cons hj2]
      have hjp : j < (preQ t).length := hj
      have e : t[j] = (preQ t)[j] := by
        have hpre : preQ t <+: t := List.takeWhile_prefix _
        exact (List.IsPrefix.getElem hpre hjp).symm
      have hall : ∀ x, x ∈ preQ t → qu x = true := fun x hx => (List.all_eq_true.1 List.all_takeWhile) x hx
      have := hall _ (List.getElem_mem hjp)
      rw [e]; simp only [qu, decide_eq_true_eq] at this; rw [this]
    obtain ⟨l, hl⟩ := hq
    unfold Lib.occAt; rw [hl, hm]
    have : ¬ c = 39 := by simpa [qu] using hc
    simp [List.isPrefixOf, this]
end Go.Fv.Y

/- The reference's way to cut the quotes. -/
namespace Go.Fv.Y
open Go
set_option linter.unusedSimpArgs false
set_option linter.unusedVariables false
set_option linter.unnecessarySimpa false

end Go.Fv.Y

/- Lines put together, in plain words: the last and the first word of a text by rows of letters and by tokens. -/
namespace Go.Fv.Y
open Go
set_option linter.unusedSimpArgs false
set_option linter.unusedVariables false
set_option linter.unnecessarySimpa false

end Go.Fv.Y

/- Lines put together: the small functions of JoinLines. -/
namespace Go.Fv.Y
open Go Go.Proofs
set_option linter.unusedSimpArgs false
set_option linter.unusedVariables false
set_option linter.unnecessarySimpa false
set_option maxRecDepth 8000

end Go.Fv.Y

/- The reference's IsWord. -/
namespace Go.Fv.Y
open Go Go.Proofs
set_option linter.unusedSimpArgs false
set_option linter.unusedVariables false
set_option linter.unnecessarySimpa false
set_option maxRecDepth 8000

end Go.Fv.Y

/- strings.HasPrefix. -/
namespace Go.Fv.Y
open Go Go.Proofs
set_option linter.unusedSimpArgs false
set_option linter.unusedVariables false
set_option linter.unnecessarySimpa false
set_option maxRecDepth 8000

theorem take_prefix (s p : List UInt8) : decide ((p.length : Int) ≤ (s.length : Int) ∧ s.take p.length = p) = p.isPrefixOf s := by
  rw [Bool.eq_iff_iff, decide_eq_true_eq, List.isPrefixOf_iff_prefix]
  constructor
  · rintro ⟨_, h⟩; exact List.prefix_iff_eq_take.2 h.symm
  · intro h; exact ⟨by have := h.length_le; omega, (List.prefix_iff_eq_take.1 h).symm⟩
theorem hasPrefix0_ok (s p : List UInt8) : FnOk Tryz.prog 151 [.str s, .str p] (.bool (p.isPrefixOf s)) [] := by
  rw [← take_prefix]
  refine FnOk.of_vc Tryz.func151 rfl (by decide) (by simp [Tryz.f151]) [.tmp 4] rfl fun w0 T0 _ => ?_
  simp only [Tryz.f151, argEnv]
  (repeat' first | with_reducible (first | intro _ | refine rc ?_ | refine rl ?_ | refine rh ?_ | refine ru ?_ | refine rt ?_ | refine rf ?_ | refine rs ?_ | refine And.intro ?_ ?_) | omega | simp (maxSteps := 1000000) only [go_sem, simprocAttr, ↓reduceIte, Nat.sub_zero, List.drop_zero, Int.toNat_natCast, Int.toNat_zero])
  refine Ret.auto 0 ?_ rfl ?_ <;> simp only [go_sem, reduceCtorEq, reduceIte, Nat.reduceEqDiff, Nat.reduceLT, Nat.reduceLeDiff, Int.natCast_succ, Post]
theorem hasPrefix_ok (s p : List UInt8) : FnOk Tryz.prog 122 [.str s, .str p] (.bool (p.isPrefixOf s)) [] := by
  have k := hasPrefix0_ok s p
  refine FnOk.of_vc Tryz.func122 rfl (by decide) (by simp [Tryz.f122]) [.tmp 4] rfl fun w0 T0 _ => ?_
  simp only [Tryz.f122, argEnv]
  (repeat' first | with_reducible (first | intro _ | refine rc ?_ | refine rl ?_ | refine rh ?_ | refine ru ?_ | refine rt ?_ | refine rf ?_ | refine rs ?_ | refine And.intro ?_ ?_) | omega | simp (maxSteps := 1000000) only [go_sem, simprocAttr, ↓reduceIte])
  refine VcCall.k k ?_
  (repeat' first | with_reducible (first | intro _ | refine rc ?_ | refine rl ?_ | refine rh ?_ | refine ru ?_ | refine rt ?_ | refine rf ?_ | refine rs ?_ | refine And.intro ?_ ?_) | omega | simp (maxSteps := 1000000) only [go_sem, simprocAttr, ↓reduceIte])
  refine Ret.auto 0 ?_ rfl ?_ <;> simp only [go_sem, reduceCtorEq, reduceIte, Nat.reduceEqDiff, Nat.reduceLT, Nat.reduceLeDiff, Int.natCast_succ, Post]
end Go.Fv.Y

/- Dictionaries: the walks of Has, Count, Begin and their references. -/
namespace Go.Fv.Y
open Go Go.Proofs
set_option linter.unusedSimpArgs false
set_option linter.unusedVariables false
set_option linter.unnecessarySimpa false
set_option maxRecDepth 8000

theorem keysT_d {P : Program} {kt : TypeId} (h : P.underlying kt = some .string) (l : List Wd) : KeysT P kt (dKs l) := KeysT_map (fun n => KeyT.str h n) _
theorem hasD_ok (l : List Wd) (ws : List Bytes) (x : Bytes) : FnOk Tryz.prog 16 [.cell [.mp (dKs l) (dVs l), .ro (.strs ws)], .str x] (.bool (decide (0 < cntD l x))) [] := by
  have e1 := getI_d l x
  have e4 := isI_d l
  have e5 : KeysT Tryz.prog 9 (dKs l) := keysT_d (by kernel_rfl) _
  refine FnOk.of_vc Tryz.func16 rfl (by decide) (by simp [Tryz.f16]) [.tmp 4] rfl fun w0 T0 _ => ?_
  simp only [Tryz.f16, argEnv]
  (repeat' first | with_reducible (first | intro _ | refine rc ?_ | refine rl ?_ | refine rh ?_ | refine ru ?_ | refine rt ?_ | refine rf ?_ | refine rs ?_ | refine And.intro ?_ ?_) | omega | simp (maxSteps := 1000000) only [go_sem, simprocAttr, ↓reduceIte, e1, e4, e5])
  refine Ret.auto 0 ?_ rfl ?_ <;> simp only [go_sem, reduceCtorEq, reduceIte, Nat.reduceEqDiff, Nat.reduceLT, Nat.reduceLeDiff, Int.natCast_succ, Post]
end Go.Fv.Y

/- Lines put together: the small functions of JoinLines. -/
namespace Go.Fv.Y
open Go Go.Proofs
set_option linter.unusedSimpArgs false
set_option linter.unusedVariables false
set_option linter.unnecessarySimpa false
set_option maxRecDepth 8000

def hasW (l : List Wd) (w : Bytes) : Bool := decide (0 < cntD l w) || decide (0 < cntD l (smallL w))
theorem knows_ok (l : List Wd) (ws : List Bytes) (x : Bytes) : FnOk Tryz.prog 36 [.cell [.mp (dKs l) (dVs l), .ro (.strs ws)], .str x] (.bool (hasW l x)) [] := by
  have k1 := hasD_ok l ws x
  have k2 := smallW_ok x
  have k3 := hasD_ok l ws (smallL x)
  unfold hasW
  refine FnOk.of_vc Tryz.func36 rfl (by decide) (by simp [Tryz.f36]) [.tmp 4] rfl fun w0 T0 _ => ?_
  simp only [Tryz.f36, argEnv]
  by_cases h : 0 < cntD l x
  · rw [decide_eq_true h] at k1 ⊢
    (repeat' first | with_reducible (first | intro _ | refine rc ?_ | refine rl ?_ | refine rh ?_ | refine ru ?_ | refine rt ?_ | refine rf ?_ | refine rs ?_ | refine And.intro ?_ ?_) | omega | simp (maxSteps := 1000000) only [go_sem, simprocAttr, ↓reduceIte])
    refine VcCall.k (k1) ?_
    (repeat' first | with_reducible (first | intro _ | refine rc ?_ | refine rl ?_ | refine rh ?_ | refine ru ?_ | refine rt ?_ | refine rf ?_ | refine rs ?_ | refine And.intro ?_ ?_) | omega | simp (maxSteps := 1000000) only [go_sem, simprocAttr, ↓reduceIte])
    refine Ret.auto 0 ?_ rfl ?_ <;> simp only [go_sem, reduceCtorEq, reduceIte, Nat.reduceEqDiff, Nat.reduceLT, Nat.reduceLeDiff, Int.natCast_succ, Post, Bool.false_or, Bool.true_or, Bool.or_false, Bool.or_true]
  · rw [decide_eq_false h] at k1 ⊢
    (repeat' first | with_reducible (first | intro _ | refine rc ?_ | refine rl ?_ | refine rh ?_ | refine ru ?_ | refine rt ?_ | refine rf ?_ | refine rs ?_ | refine And.intro ?_ ?_) | omega | simp (maxSteps := 1000000) only [go_sem, simprocAttr, ↓reduceIte])
    refine VcCall.k (k1) ?_
    (repeat' first | with_reducible (first | intro _ | refine rc ?_ | refine rl ?_ | refine rh ?_ | refine ru ?_ | refine rt ?_ | refine rf ?_ | refine rs ?_ | refine And.intro ?_ ?_) | omega | simp (maxSteps := 1000000) only [go_sem, simprocAttr, ↓reduceIte])
    refine VcCall.k (k2) ?_
    (repeat' first | with_reducible (first | intro _ | refine rc ?_ | refine rl ?_ | refine rh ?_ | refine ru ?_ | refine rt ?_ | refine rf ?_ | refine rs ?_ | refine And.intro ?_ ?_) | omega | simp (maxSteps := 1000000) only [go_sem, simprocAttr, ↓reduceIte])
    refine VcCall.k (k3) ?_
    (repeat' first | with_reducible (first | intro _ | refine rc ?_ | refine rl ?_ | refine rh ?_ | refine ru ?_ | refine rt ?_ | refine rf ?_ | refine rs ?_ | refine And.intro ?_ ?_) | omega | simp (maxSteps := 1000000) only [go_sem, simprocAttr, ↓reduceIte])
    refine Ret.auto 0 ?_ rfl ?_ <;> simp only [go_sem, reduceCtorEq, reduceIte, Nat.reduceEqDiff, Nat.reduceLT, Nat.reduceLeDiff, Int.natCast_succ, Post, Bool.false_or, Bool.true_or, Bool.or_false, Bool.or_true]
end Go.Fv.Y
