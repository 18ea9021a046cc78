/-
  A part of the proof of the claim: walks over the program's functions and the plain laws that these need. No condition of its own.
-/
import Derived.Test.YtodlgmmbfbiilaaDoorGLinesCardPart3
import Derived.Test.YtodlgmmbfbiilaaDoorGLinesCardPart4
import Derived.Test.YtodlgmmbfbiilaaDoorGLinesCardPart1
import Derived.Test.YtodlgmmbfbiilaaDoorFvPart6
import Derived.Lib.MapLaws
import Derived.Lib.DecodeN
import Derived.Test.YtodlgmmbfbiilaaDoorFvPart10
import Derived.Test.YtodlgmmbfbiilaaDoorGLinesCardPart2
/- shrink.readLine: the walk. -/
namespace Go.Fv.G
open Go Go.Proofs
set_option linter.unusedSimpArgs false
set_option linter.unusedVariables false
set_option linter.unnecessarySimpa false
set_option maxRecDepth 8000

theorem code_cases (y : Bytes) : (passC.isPrefixOf y = true ∧ codeOf y = 0) ∨
    (passC.isPrefixOf y = false ∧ ∃ j, j < 7 ∧ codeOf y = j + 1 ∧ (∀ i, i < j → (nearCs.getD i []).isPrefixOf y = false) ∧ (nearCs.getD j []).isPrefixOf y = true) ∨
    (passC.isPrefixOf y = false ∧ (∀ i, i < 7 → (nearCs.getD i []).isPrefixOf y = false) ∧ ((farC.isPrefixOf y = true ∧ codeOf y = 8) ∨ (farC.isPrefixOf y = false ∧ codeOf y = 9))) := by
  unfold codeOf
  cases hp : passC.isPrefixOf y with
  | true => exact .inl ⟨rfl, rfl⟩
  | false =>
  cases h0 : (nearCs.getD 0 []).isPrefixOf y with
  | true =>
    refine .inr (.inl ⟨rfl, 0, by decide, rfl, ?_, h0⟩)
    exact fun i hi => by omega
  | false =>
  cases h1 : (nearCs.getD 1 []).isPrefixOf y with
  | true =>
    refine .inr (.inl ⟨rfl, 1, by decide, rfl, ?_, h1⟩)
    exact fun i hi => by
      have hi : i = 0 := by omega
      rcases hi with rfl
      · exact h0
  | false =>
  cases h2 : (nearCs.getD 2 []).isPrefixOf y with
  | true =>
    refine .inr (.inl ⟨rfl, 2, by decide, rfl, ?_, h2⟩)
    exact fun i hi => by
      have hi : i = 0 ∨ i = 1 := by omega
      rcases hi with rfl | rfl
      · exact h0
      · exact h1
  | false =>
  cases h3 : (nearCs.getD 3 []).isPrefixOf y with
  | true =>
    refine .inr (.inl ⟨rfl, 3, by decide, rfl, ?_, h3⟩)
    exact fun i hi => by
      have hi : i = 0 ∨ i = 1 ∨ i = 2 := by omega
      rcases hi with rfl | rfl | rfl
      · exact h0
      · exact h1
      · exact h2
  | false =>
  cases h4 : (nearCs.getD 4 []).isPrefixOf y with
  | true =>
    refine .inr (.inl ⟨rfl, 4, by decide, rfl, ?_, h4⟩)
    exact fun i hi => by
      have hi : i = 0 ∨ i = 1 ∨ i = 2 ∨ i = 3 := by omega
      rcases hi with rfl | rfl | rfl | rfl
      · exact h0
      · exact h1
      · exact h2
      · exact h3
  | false =>
  cases h5 : (nearCs.getD 5 []).isPrefixOf y with
  | true =>
    refine .inr (.inl ⟨rfl, 5, by decide, rfl, ?_, h5⟩)
    exact fun i hi => by
      have hi : i = 0 ∨ i = 1 ∨ i = 2 ∨ i = 3 ∨ i = 4 := by omega
      rcases hi with rfl | rfl | rfl | rfl | rfl
      · exact h0
      · exact h1
      · exact h2
      · exact h3
      · exact h4
  | false =>
  cases h6 : (nearCs.getD 6 []).isPrefixOf y with
  | true =>
    refine .inr (.inl ⟨rfl, 6, by decide, rfl, ?_, h6⟩)
    exact fun i hi => by
      have hi : i = 0 ∨ i = 1 ∨ i = 2 ∨ i = 3 ∨ i = 4 ∨ i = 5 := by omega
      rcases hi with rfl | rfl | rfl | rfl | rfl | rfl
      · exact h0
      · exact h1
      · exact h2
      · exact h3
      · exact h4
      · exact h5
  | false =>
  have hall : ∀ i, i < 7 → (nearCs.getD i []).isPrefixOf y = false := fun i hi => by
    have hi : i = 0 ∨ i = 1 ∨ i = 2 ∨ i = 3 ∨ i = 4 ∨ i = 5 ∨ i = 6 := by omega
    rcases hi with rfl | rfl | rfl | rfl | rfl | rfl | rfl
    · exact h0
    · exact h1
    · exact h2
    · exact h3
    · exact h4
    · exact h5
    · exact h6
  cases hf : farC.isPrefixOf y with
  | true => exact .inr (.inr ⟨rfl, hall, .inl ⟨rfl, rfl⟩⟩)
  | false => exact .inr (.inr ⟨rfl, hall, .inr ⟨rfl, rfl⟩⟩)
structure RLx where
  p : Nat
  k : Bool
  n : Nat
  R : List Bool
structure RLI (above : List Bool) (s : Bytes) (x : RLx) : Prop where
  hp : x.p ≤ above.length + 1
  hn : x.n ≤ s.length
  hR : x.R.length = x.p - 1
  hz : above.length = 0 → x.n = 0
  hq : rdGo true above s 0 false = match rdGo true above (s.drop x.n) x.p x.k with | none => none | some (l, m) => some (x.R ++ l, x.n + m)
theorem RLI.first (above : List Bool) (s : Bytes) : RLI above s ⟨0, false, 0, []⟩ := by
  refine ⟨Nat.zero_le _, Nat.zero_le _, rfl, fun _ => rfl, ?_⟩
  dsimp only
  rw [List.drop_zero]
  cases rdGo true above s 0 false with
  | none => rfl
  | some x => obtain ⟨l, m⟩ := x; dsimp only; rw [List.nil_append, Nat.zero_add]
theorem RLI.step {above : List Bool} {s : Bytes} {p n : Nat} {k : Bool} {R : List Bool} (h : RLI above s ⟨p, k, n, R⟩) (hp : p ≤ above.length) (h0 : 0 < above.length) {y : RSt} (hy : rdStep true above (s.drop n) p k = some y) :
    RLI above s ⟨y.p, y.k, n + y.n, R ++ y.px⟩ ∧ p < y.p := by
  obtain ⟨h1, h2, h3, _, h4⟩ := h
  obtain ⟨g1, g2, g3, g4⟩ := rdStep_some hp hy
  dsimp only at *
  rw [List.length_drop] at g4
  refine ⟨⟨g2, by dsimp only; omega, by dsimp only; rw [List.length_append, h3, g3]; omega, fun h => by omega, ?_⟩, g1⟩
  dsimp only
  rw [h4, rdGo_some hp hy, List.drop_drop]
  cases rdGo true above (s.drop (n + y.n)) y.p y.k with
  | none => rfl
  | some x => obtain ⟨l, m⟩ := x; dsimp only; rw [List.append_assoc, Nat.add_assoc]
theorem RLI.fail {above : List Bool} {s : Bytes} {p n : Nat} {k : Bool} {R : List Bool} (h : RLI above s ⟨p, k, n, R⟩) (hp : p ≤ above.length) (h0 : 0 < above.length) (hy : rdStep true above (s.drop n) p k = none) : rdAll true above s = none := by
  unfold rdAll
  rw [if_neg (by omega), h.hq, rdGo_none hp hy]
theorem RLI.done {above : List Bool} {s : Bytes} {p n : Nat} {k : Bool} {R : List Bool} (h : RLI above s ⟨p, k, n, R⟩) (hp : ¬ (p ≤ above.length ∧ 0 < above.length)) : rdAll true above s = some (R, n) ∧ R.length = above.length := by
  have h1 : p ≤ above.length + 1 := h.hp
  have h2 : R.length = p - 1 := h.hR
  have h3 : above.length = 0 → n = 0 := h.hz
  refine ⟨?_, by omega⟩
  unfold rdAll
  by_cases h0 : above.length = 0
  · have hR0 : R.length = 0 := by
      have h5 : p ≤ 1 := by rw [h0] at h1; exact h1
      rw [h2]; exact Nat.sub_eq_zero_of_le h5
    rw [if_pos h0, h3 h0, List.eq_nil_of_length_eq_zero hR0]
  · have h6 : ¬ p ≤ above.length := by omega
    rw [if_neg h0, h.hq, rdGo_end h6]
    dsimp only
    rw [List.append_nil, Nat.add_zero]
theorem rdG_most {s : Bytes} {m l : Nat} (h : rdG s = some (m, l)) : m ≤ 1048576 := by
  unfold rdG at h
  split at h
  · rename_i hc; cases h; exact hc.2.2.2
  · cases h
/-- A row that is read in part. -/
def rowR (w : Nat) (R : List Bool) : List Bool := R ++ List.replicate (w - R.length) false
theorem rowR_len {w : Nat} {R : List Bool} (h : R.length ≤ w) : (rowR w R).length = w := by unfold rowR; rw [List.length_append, List.length_replicate]; omega
theorem rowR_fill {w : Nat} {R : List Bool} {t : Nat} (c : Bool) (h : R.length ≤ t) (ht : t ≤ w) : fillB (rowR w R) R.length t c = rowR w (R ++ List.replicate (t - R.length) c) := by
  unfold fillB rowR
  rw [List.take_left, List.length_append, List.length_replicate, List.append_assoc]
  congr 2
  rw [List.drop_append, List.drop_replicate, List.drop_of_length_le h, List.nil_append]
  congr 1; omega
def rlOut (s : Bytes) (above : List Bool) : Option (List Bool × Nat) → AV
  | none => .tup [.nilS, .int .i64 0, .bool false]
  | some (l, n) => .tup [.own 0, .int .i64 n, .bool (decide (lineB l above = s.take n))]
def rlRows : Option (List Bool × Nat) → List (Nat × Item)
  | none => []
  | some (l, n) => [(0, .row 4 (.bools l))]
theorem rlOut_none (s : Bytes) (above : List Bool) : rlOut s above none = .tup [.nilS, .int .i64 0, .bool false] := rfl
theorem rlRows_none : rlRows none = [] := rfl
theorem rlOut_some (s : Bytes) (above l : List Bool) (n : Nat) : rlOut s above (some (l, n)) = .tup [.own 0, .int .i64 n, .bool (decide (lineB l above = s.take n))] := rfl
theorem rlRows_some (l : List Bool) (n : Nat) : rlRows (some (l, n)) = [(0, .row 4 (.bools l))] := rfl
theorem rdE_none {s : Bytes} (h : rdG s = none) : rdN s = 0 ∧ rdL s = 0 ∧ rdE 8 s = 8 := by unfold rdN rdL rdE; rw [h]; exact ⟨rfl, rfl, rfl⟩
theorem rdE_some {s : Bytes} {m l : Nat} (h : rdG s = some (m, l)) : rdN s = m ∧ rdL s = l ∧ rdE 8 s = 0 := by unfold rdN rdL rdE; rw [h]; exact ⟨rfl, rfl, rfl⟩
set_option maxHeartbeats 16000000 in
theorem readLine_ok (s : Bytes) (above : List Bool) (hs : s.length ≤ 290000000000000) (hw : above.length ≤ 4000) :
    FnOk Tryd.prog 22 [.str s, .ro (.bools above)] (rlOut s above (rdAll true above s)) (rlRows (rdAll true above s)) := by
  refine FnOk.of_vc Tryd.func22 rfl (by decide) (by simp [Tryd.f22]) [.cell 4 30, .cell 5 3, .tmp 6] rfl fun w0 T0 _ => ?_
  simp only [Tryd.f22, argEnv]
  (repeat' first | with_reducible (first | intro _ | refine rc ?_ | refine rl ?_ | refine rh ?_ | refine ru ?_ | refine rt ?_ | refine rf ?_ | refine rs ?_ | refine And.intro ?_ ?_) | omega | simp (maxSteps := 1000000) only [go_sem, simprocAttr, ↓reduceIte])
  refine VcLoop.intro (fun x : RLx => ⟨140, [(12, .int .i64 ((x.p : Int) - 1)), (11, .fn 51 [.ptr 0 0, .ptr 2 0]), (10, .fn 50 [.ptr 0 0, .ptr 2 0]), (9, .bool x.k), (8, .fn 49 [.ptr 1 0]), (7, .int .i64 above.length), (6, .bool false), (5, .ptr 2 0), (4, .ptr 1 0), (2, .ptr 0 0), (1, .ro (.bools above))], [(0, .box 9 [.str s]), (1, .box 30 [.own 3]), (2, .box 3 [.int .i64 x.n]), (3, .row 4 (.bools (rowR above.length x.R)))], 4⟩) (RLI above s) (fun x => above.length + 1 - x.p) ⟨0, false, 0, []⟩ ?_ (RLI.first above s) fun x hI => ?_
  · refine Ent.auto0 rfl ?_ ?_ <;> simp only [go_sem, reduceCtorEq, reduceIte, Nat.reduceEqDiff, Nat.reduceLT, Nat.reduceLeDiff, Int.natCast_succ, rowR]
    all_goals first | rfl | omega
  obtain ⟨p, k, n, R⟩ := x
  have hI0 := hI
  obtain ⟨hp, hn, hR, _, _⟩ := hI
  dsimp only at hp hn hR ⊢
  by_cases hlt : p ≤ above.length ∧ 0 < above.length
  rotate_left
  · obtain ⟨hrd, hRl⟩ := hI0.done hlt
    have hrow : rowR above.length R = R := by unfold rowR; rw [hRl, Nat.sub_self, List.replicate_zero, List.append_nil]
    have kl := line_ok R above (by omega) hRl.symm
    rw [hrd, hrow]
    rw [rlOut_some, rlRows_some]
    generalize lineB R above = lb at *
    by_cases h1 : (p : Int) - 1 < (above.length : Int)
    · have f1 : ((p : Int) - 1 < (above.length : Int)) = True := eq_true h1
      have f2 : (0 < (above.length : Int)) = False := eq_false (by omega)
      (repeat' first | with_reducible (first | intro _ | refine rc ?_ | refine rl ?_ | refine rh ?_ | refine ru ?_ | refine rt ?_ | refine rf ?_ | refine rs ?_ | refine And.intro ?_ ?_) | omega | simp (maxSteps := 1000000) only [go_sem, simprocAttr, ↓reduceIte, f1, f2])
      refine VcDraw.lex [9, 10] [(1, [1]), (5, [1, 2]), (7, [1, 2]), (8, [1, 2])] (by kernel_rfl) (by kernel_rfl) ?_
      (repeat' first | with_reducible (first | intro _ | refine rc ?_ | refine rl ?_ | refine rh ?_ | refine ru ?_ | refine rt ?_ | refine rf ?_ | refine rs ?_ | refine And.intro ?_ ?_) | omega | simp (maxSteps := 1000000) only [go_sem, simprocAttr, ↓reduceIte])
      (refine QV.intro (.str lb) ?_ ?_; focus ((repeat' first | with_reducible (first | intro _ | refine rc ?_ | refine rl ?_ | refine rh ?_ | refine ru ?_ | refine rt ?_ | refine rf ?_ | refine rs ?_ | refine And.intro ?_ ?_) | omega | simp (maxSteps := 1000000) only [go_sem, simprocAttr, ↓reduceIte]); refine VcCall.k (kl) ?_; (repeat' first | with_reducible (first | intro _ | refine rc ?_ | refine rl ?_ | refine rh ?_ | refine ru ?_ | refine rt ?_ | refine rf ?_ | refine rs ?_ | refine And.intro ?_ ?_) | omega | simp (maxSteps := 1000000) only [go_sem, simprocAttr, ↓reduceIte])))
      (repeat' first | with_reducible (first | intro _ | refine rc ?_ | refine rl ?_ | refine rh ?_ | refine ru ?_ | refine rt ?_ | refine rf ?_ | refine rs ?_ | refine And.intro ?_ ?_) | omega | simp (maxSteps := 1000000) only [go_sem, simprocAttr, ↓reduceIte])
      refine Ret.of [(0, 3)] 1 ?_ rfl ?_ <;> simp only [go_sem, reduceCtorEq, reduceIte, Nat.reduceEqDiff, Nat.reduceLT, Nat.reduceLeDiff, Int.natCast_succ, Post, Nat.sub_zero, renR_ok, belowR_ok]
    · have f1 : ((p : Int) - 1 < (above.length : Int)) = False := eq_false h1
      (repeat' first | with_reducible (first | intro _ | refine rc ?_ | refine rl ?_ | refine rh ?_ | refine ru ?_ | refine rt ?_ | refine rf ?_ | refine rs ?_ | refine And.intro ?_ ?_) | omega | simp (maxSteps := 1000000) only [go_sem, simprocAttr, ↓reduceIte, f1])
      refine VcDraw.lex [9, 10] [(1, [1]), (5, [1, 2]), (7, [1, 2]), (8, [1, 2])] (by kernel_rfl) (by kernel_rfl) ?_
      (repeat' first | with_reducible (first | intro _ | refine rc ?_ | refine rl ?_ | refine rh ?_ | refine ru ?_ | refine rt ?_ | refine rf ?_ | refine rs ?_ | refine And.intro ?_ ?_) | omega | simp (maxSteps := 1000000) only [go_sem, simprocAttr, ↓reduceIte])
      (refine QV.intro (.str lb) ?_ ?_; focus ((repeat' first | with_reducible (first | intro _ | refine rc ?_ | refine rl ?_ | refine rh ?_ | refine ru ?_ | refine rt ?_ | refine rf ?_ | refine rs ?_ | refine And.intro ?_ ?_) | omega | simp (maxSteps := 1000000) only [go_sem, simprocAttr, ↓reduceIte]); refine VcCall.k (kl) ?_; (repeat' first | with_reducible (first | intro _ | refine rc ?_ | refine rl ?_ | refine rh ?_ | refine ru ?_ | refine rt ?_ | refine rf ?_ | refine rs ?_ | refine And.intro ?_ ?_) | omega | simp (maxSteps := 1000000) only [go_sem, simprocAttr, ↓reduceIte])))
      (repeat' first | with_reducible (first | intro _ | refine rc ?_ | refine rl ?_ | refine rh ?_ | refine ru ?_ | refine rt ?_ | refine rf ?_ | refine rs ?_ | refine And.intro ?_ ?_) | omega | simp (maxSteps := 1000000) only [go_sem, simprocAttr, ↓reduceIte])
      refine Ret.of [(0, 3)] 1 ?_ rfl ?_ <;> simp only [go_sem, reduceCtorEq, reduceIte, Nat.reduceEqDiff, Nat.reduceLT, Nat.reduceLeDiff, Int.natCast_succ, Post, Nat.sub_zero, renR_ok, belowR_ok]
  obtain ⟨hle, h0⟩ := hlt
  have f1 : ((p : Int) - 1 < (above.length : Int)) = True := eq_true (by omega)
  have f2 : (0 < (above.length : Int)) = True := eq_true (by omega)
  have k3 := changeTo_ok above p ((p : Int) - 1) (!k) rfl (by omega) (by omega)
  obtain ⟨b1, hB1⟩ : ∃ b1, chTo above p (!k) = b1 := ⟨_, rfl⟩
  have hb1 := chTo_ge (r := above) (i := p) hle (!k)
  rw [hB1] at k3 hb1
  have hrl := rowR_len (w := above.length) (R := R) (by omega)
  have hmx : max ((p : Int) - 1) 0 = ((p - 1 : Nat) : Int) := by omega
  (repeat' first | with_reducible (first | intro _ | refine rc ?_ | refine rl ?_ | refine rh ?_ | refine ru ?_ | refine rt ?_ | refine rf ?_ | refine rs ?_ | refine And.intro ?_ ?_) | omega | simp (maxSteps := 1000000) only [go_sem, simprocAttr, ↓reduceIte, f1, f2])
  refine VcCall.k (k3) ?_
  (repeat' first | with_reducible (first | intro _ | refine rc ?_ | refine rl ?_ | refine rh ?_ | refine ru ?_ | refine rt ?_ | refine rf ?_ | refine rs ?_ | refine And.intro ?_ ?_) | omega | simp (maxSteps := 1000000) only [go_sem, simprocAttr, ↓reduceIte])
  rcases code_cases (s.drop n) with ⟨c1, c2⟩ | ⟨c1, j, c3, c2, c4, c5⟩ | ⟨c1, c4, hc⟩
  · have kt := takeY_io s n [48, 48, 48, 49] (by omega) hn (by decide) c1
    obtain ⟨b2, hB2⟩ : ∃ b2, chg above (b1 + 1) = b2 := ⟨_, rfl⟩
    have k4 := change_ok above (b1 + 1) (b1 : Int) (by omega) (by omega) hw
    rw [hB2] at k4
    have b2a : b1 ≤ b2 := by
      by_cases h : b1 < above.length
      · have := chg_ge (r := above) (i := b1 + 1) (by omega); omega
      · rw [chg_end (by omega)] at hB2; omega
    have b2b : b2 ≤ above.length := by rw [← hB2]; exact chg_le _ _
    have hst : rdStep true above (s.drop n) p k = some ⟨b2 + 1, k, List.replicate (b2 - (p - 1)) k, 4⟩ := by unfold rdStep; rw [if_pos c2, hB1, hB2]
    obtain ⟨g1, g2⟩ := hI0.step hle h0 hst
    have kf := fill_io (rowR above.length R) (p - 1) ((p : Int) - 1) b2 k hmx (by omega) (by omega) (by omega) (by omega)
    have hrf := rowR_fill (w := above.length) (R := R) (t := b2) k (by omega) b2b
    rw [hR] at hrf
    rw [hrf] at kf
    have f3 : ((b2 : Int) = (p : Int) - 1) = False := eq_false (by omega)
    refine VcCall.io [0, 2] kt (by decide) (by simp [renL, ren, ioN]) rfl (by simp [subOk, ioN, lk, Item.ren, Item.below, ren, renL, belowL, Fv.below, renR_ok, belowR_ok]) covB2 2 (by decide) rfl (by simp [rowsB, Item.below, Fv.below, belowL, belowR_ok]) ?_
    (repeat' first | with_reducible (first | intro _ | refine rc ?_ | refine rl ?_ | refine rh ?_ | refine ru ?_ | refine rt ?_ | refine rf ?_ | refine rs ?_ | refine And.intro ?_ ?_) | omega | simp (maxSteps := 1000000) only [go_sem, simprocAttr, ↓reduceIte, S.ioS, ioRows, ioN, delL, Item.ren, ren, renL, renR_ok, List.length_cons, List.length_nil, List.getElem?_cons_zero, List.getElem?_cons_succ, List.getElem?_nil, List.cons_append, List.nil_append, Nat.reduceAdd, Nat.sub_self, Nat.add_zero, List.filter])
    refine VcCall.k (k4) ?_
    (repeat' first | with_reducible (first | intro _ | refine rc ?_ | refine rl ?_ | refine rh ?_ | refine ru ?_ | refine rt ?_ | refine rf ?_ | refine rs ?_ | refine And.intro ?_ ?_) | omega | simp (maxSteps := 1000000) only [go_sem, simprocAttr, ↓reduceIte, f3])
    refine VcCall.io [1, 3] kf (by decide) (by simp [renL, ren, ioN]) rfl (by simp [subOk, ioN, lk, Item.ren, Item.below, ren, renL, belowL, Fv.below, renR_ok, belowR_ok]) covB2 2 (by decide) rfl (by simp [rowsB, Item.below, Fv.below, belowL, belowR_ok]) ?_
    (repeat' first | with_reducible (first | intro _ | refine rc ?_ | refine rl ?_ | refine rh ?_ | refine ru ?_ | refine rt ?_ | refine rf ?_ | refine rs ?_ | refine And.intro ?_ ?_) | omega | simp (maxSteps := 1000000) only [go_sem, simprocAttr, ↓reduceIte, S.ioS, ioRows, ioN, delL, Item.ren, ren, renL, renR_ok, List.length_cons, List.length_nil, List.getElem?_cons_zero, List.getElem?_cons_succ, List.getElem?_nil, List.cons_append, List.nil_append, Nat.reduceAdd, Nat.sub_self, Nat.add_zero, List.filter])
    refine ⟨⟨b2 + 1, k, n + 4, R ++ List.replicate (b2 - (p - 1)) k⟩, Ent.auto0 rfl ?_ ?_, g1, by dsimp only; omega⟩ <;> simp only [go_sem, reduceCtorEq, reduceIte, Nat.reduceEqDiff, Nat.reduceLT, Nat.reduceLeDiff, Int.natCast_succ, List.length_cons, List.length_nil, Nat.reduceAdd]
    all_goals first | rfl | omega | (refine ⟨?_, ?_⟩ <;> first | rfl | omega)
  · have kt := takeN_io s n [48, 48, 48, 49] (by omega) hn c1
    have ki := idx_io s n (by omega) hn j (by omega) c4 (fun _ => c5)
    rw [if_pos c3, if_pos c3] at ki
    unfold IdxIO at ki
    refine VcCall.io [0, 2] kt (by decide) (by simp [renL, ren, ioN]) rfl (by simp [subOk, ioN, lk, Item.ren, Item.below, ren, renL, belowL, Fv.below, renR_ok, belowR_ok]) covB2 2 (by decide) rfl (by simp [rowsB, Item.below, Fv.below, belowL, belowR_ok]) ?_
    (repeat' first | with_reducible (first | intro _ | refine rc ?_ | refine rl ?_ | refine rh ?_ | refine ru ?_ | refine rt ?_ | refine rf ?_ | refine rs ?_ | refine And.intro ?_ ?_) | omega | simp (maxSteps := 1000000) only [go_sem, simprocAttr, ↓reduceIte, S.ioS, ioRows, ioN, delL, Item.ren, ren, renL, renR_ok, List.length_cons, List.length_nil, List.getElem?_cons_zero, List.getElem?_cons_succ, List.getElem?_nil, List.cons_append, List.nil_append, Nat.reduceAdd, Nat.sub_self, Nat.add_zero, List.filter])
    refine VcCall.ro (.ro (.strs nearCs)) (FnFr.of_ok nearCodes_ok rfl (by simp [noRoRows, noRoItem, noRoRow, noRoL, noRo])) (by simp only [noIdR_ok, argOkL, argOk, allOk, argOkN, List.drop_zero, lk, reduceIte, reduceCtorEq, Nat.reduceEqDiff, Option.some.injEq, Item.row.injEq, Item.box.injEq, AV.ro.injEq, exists_eq_left, exists_and_left, exists_eq_left', exists_eq_right, and_assoc, and_true, true_and, List.cons.injEq, exists_eq', exists_eq]) (by simp [outOk, argOkL, allOk, argOk, argOkN, lk, noIdR_ok]) rfl ?_
    (repeat' first | with_reducible (first | intro _ | refine rc ?_ | refine rl ?_ | refine rh ?_ | refine ru ?_ | refine rt ?_ | refine rf ?_ | refine rs ?_ | refine And.intro ?_ ?_) | omega | simp (maxSteps := 1000000) only [go_sem, simprocAttr, ↓reduceIte, S.ioS, ioRows, ioN, delL, Item.ren, ren, renL, renR_ok, List.length_cons, List.length_nil, List.getElem?_cons_zero, List.getElem?_cons_succ, List.getElem?_nil, List.cons_append, List.nil_append, Nat.reduceAdd, Nat.sub_self, Nat.add_zero, List.filter])
    refine VcCall.io [0, 2] ki (by decide) (by simp [renL, ren, ioN]) rfl (by simp [subOk, ioN, lk, Item.ren, Item.below, ren, renL, belowL, Fv.below, renR_ok, belowR_ok]) covB2 2 (by decide) rfl (by simp [rowsB, Item.below, Fv.below, belowL, belowR_ok]) ?_
    have f3 : (0 ≤ (j : Int)) = True := eq_true (by omega)
    by_cases hok : p + 3 ≤ b1 + j ∧ b1 + j ≤ above.length + 3
    · obtain ⟨t, ht⟩ : ∃ t, t + 3 = b1 + j := ⟨b1 + j - 3, by omega⟩
      have hst : rdStep true above (s.drop n) p k = some ⟨t + 1, !k, List.replicate (t - (p - 1)) k, (nearCs.getD j []).length⟩ := by
        unfold rdStep
        rw [c2, if_neg (by omega), if_pos (by omega), hB1, if_pos (by omega), show b1 + (j + 1) - 4 = t by omega, Nat.add_sub_cancel]
      obtain ⟨g1, g2⟩ := hI0.step hle h0 hst
      have kf := fill_io (rowR above.length R) (p - 1) ((p : Int) - 1) t k hmx (by omega) (by omega) (by omega) (by omega)
      have hrf := rowR_fill (w := above.length) (R := R) (t := t) k (by omega) (by omega)
      rw [hR] at hrf
      rw [hrf] at kf
      have hv : (b1 : Int) + (j : Int) - 3 = (t : Int) := by omega
      have f4 : ((t : Int) ≤ (p : Int) - 1) = False := eq_false (by omega)
      have f5 : ((above.length : Int) < (t : Int)) = False := eq_false (by omega)
      (repeat' first | with_reducible (first | intro _ | refine rc ?_ | refine rl ?_ | refine rh ?_ | refine ru ?_ | refine rt ?_ | refine rf ?_ | refine rs ?_ | refine And.intro ?_ ?_) | omega | simp (maxSteps := 1000000) only [go_sem, simprocAttr, ↓reduceIte, f3, hv, f4, f5, S.ioS, ioRows, ioN, delL, Item.ren, ren, renL, renR_ok, List.length_cons, List.length_nil, List.getElem?_cons_zero, List.getElem?_cons_succ, List.getElem?_nil, List.cons_append, List.nil_append, Nat.reduceAdd, Nat.sub_self, Nat.add_zero, List.filter])
      refine VcCall.io [1, 3] kf (by decide) (by simp [renL, ren, ioN]) rfl (by simp [subOk, ioN, lk, Item.ren, Item.below, ren, renL, belowL, Fv.below, renR_ok, belowR_ok]) covB2 2 (by decide) rfl (by simp [rowsB, Item.below, Fv.below, belowL, belowR_ok]) ?_
      (repeat' first | with_reducible (first | intro _ | refine rc ?_ | refine rl ?_ | refine rh ?_ | refine ru ?_ | refine rt ?_ | refine rf ?_ | refine rs ?_ | refine And.intro ?_ ?_) | omega | simp (maxSteps := 1000000) only [go_sem, simprocAttr, ↓reduceIte, S.ioS, ioRows, ioN, delL, Item.ren, ren, renL, renR_ok, List.length_cons, List.length_nil, List.getElem?_cons_zero, List.getElem?_cons_succ, List.getElem?_nil, List.cons_append, List.nil_append, Nat.reduceAdd, Nat.sub_self, Nat.add_zero, List.filter])
      refine ⟨⟨t + 1, !k, n + (nearCs.getD j []).length, R ++ List.replicate (t - (p - 1)) k⟩, Ent.auto0 rfl ?_ ?_, g1, by dsimp only; omega⟩ <;> simp only [go_sem, reduceCtorEq, reduceIte, Nat.reduceEqDiff, Nat.reduceLT, Nat.reduceLeDiff, Int.natCast_succ, List.length_cons, List.length_nil, Nat.reduceAdd]
      all_goals first | rfl | omega | (refine ⟨?_, ?_⟩ <;> first | rfl | omega)
    · have hst : rdStep true above (s.drop n) p k = none := by
        unfold rdStep
        rw [c2, if_neg (by omega), if_pos (by omega), hB1, if_neg (by omega)]
      rw [hI0.fail hle h0 hst, rlOut_none, rlRows_none]
      by_cases h4 : (b1 : Int) + (j : Int) - 3 ≤ (p : Int) - 1
      · have f4 : ((b1 : Int) + (j : Int) - 3 ≤ (p : Int) - 1) = True := eq_true h4
        (repeat' first | with_reducible (first | intro _ | refine rc ?_ | refine rl ?_ | refine rh ?_ | refine ru ?_ | refine rt ?_ | refine rf ?_ | refine rs ?_ | refine And.intro ?_ ?_) | omega | simp (maxSteps := 1000000) only [go_sem, simprocAttr, ↓reduceIte, f3, f4, S.ioS, ioRows, ioN, delL, Item.ren, ren, renL, renR_ok, List.length_cons, List.length_nil, List.getElem?_cons_zero, List.getElem?_cons_succ, List.getElem?_nil, List.cons_append, List.nil_append, Nat.reduceAdd, Nat.sub_self, Nat.add_zero, List.filter])
        refine Ret.auto 0 ?_ rfl ?_ <;> simp only [go_sem, reduceCtorEq, reduceIte, Nat.reduceEqDiff, Nat.reduceLT, Nat.reduceLeDiff, Int.natCast_succ, Post]
      · have f4 : ((b1 : Int) + (j : Int) - 3 ≤ (p : Int) - 1) = False := eq_false h4
        have f5 : ((above.length : Int) < (b1 : Int) + (j : Int) - 3) = True := eq_true (by omega)
        (repeat' first | with_reducible (first | intro _ | refine rc ?_ | refine rl ?_ | refine rh ?_ | refine ru ?_ | refine rt ?_ | refine rf ?_ | refine rs ?_ | refine And.intro ?_ ?_) | omega | simp (maxSteps := 1000000) only [go_sem, simprocAttr, ↓reduceIte, f3, f4, f5, S.ioS, ioRows, ioN, delL, Item.ren, ren, renL, renR_ok, List.length_cons, List.length_nil, List.getElem?_cons_zero, List.getElem?_cons_succ, List.getElem?_nil, List.cons_append, List.nil_append, Nat.reduceAdd, Nat.sub_self, Nat.add_zero, List.filter])
        refine Ret.auto 0 ?_ rfl ?_ <;> simp only [go_sem, reduceCtorEq, reduceIte, Nat.reduceEqDiff, Nat.reduceLT, Nat.reduceLeDiff, Int.natCast_succ, Post]
  have kt := takeN_io s n [48, 48, 48, 49] (by omega) hn c1
  have ki := idx_io s n (by omega) hn 7 (by omega) c4 (fun h => absurd h (by decide))
  rw [if_neg (by decide), if_neg (by decide), Nat.add_zero] at ki
  unfold IdxIO at ki
  refine VcCall.io [0, 2] kt (by decide) (by simp [renL, ren, ioN]) rfl (by simp [subOk, ioN, lk, Item.ren, Item.below, ren, renL, belowL, Fv.below, renR_ok, belowR_ok]) covB2 2 (by decide) rfl (by simp [rowsB, Item.below, Fv.below, belowL, belowR_ok]) ?_
  (repeat' first | with_reducible (first | intro _ | refine rc ?_ | refine rl ?_ | refine rh ?_ | refine ru ?_ | refine rt ?_ | refine rf ?_ | refine rs ?_ | refine And.intro ?_ ?_) | omega | simp (maxSteps := 1000000) only [go_sem, simprocAttr, ↓reduceIte, S.ioS, ioRows, ioN, delL, Item.ren, ren, renL, renR_ok, List.length_cons, List.length_nil, List.getElem?_cons_zero, List.getElem?_cons_succ, List.getElem?_nil, List.cons_append, List.nil_append, Nat.reduceAdd, Nat.sub_self, Nat.add_zero, List.filter])
  refine VcCall.ro (.ro (.strs nearCs)) (FnFr.of_ok nearCodes_ok rfl (by simp [noRoRows, noRoItem, noRoRow, noRoL, noRo])) (by simp only [noIdR_ok, argOkL, argOk, allOk, argOkN, List.drop_zero, lk, reduceIte, reduceCtorEq, Nat.reduceEqDiff, Option.some.injEq, Item.row.injEq, Item.box.injEq, AV.ro.injEq, exists_eq_left, exists_and_left, exists_eq_left', exists_eq_right, and_assoc, and_true, true_and, List.cons.injEq, exists_eq', exists_eq]) (by simp [outOk, argOkL, allOk, argOk, argOkN, lk, noIdR_ok]) rfl ?_
  (repeat' first | with_reducible (first | intro _ | refine rc ?_ | refine rl ?_ | refine rh ?_ | refine ru ?_ | refine rt ?_ | refine rf ?_ | refine rs ?_ | refine And.intro ?_ ?_) | omega | simp (maxSteps := 1000000) only [go_sem, simprocAttr, ↓reduceIte, S.ioS, ioRows, ioN, delL, Item.ren, ren, renL, renR_ok, List.length_cons, List.length_nil, List.getElem?_cons_zero, List.getElem?_cons_succ, List.getElem?_nil, List.cons_append, List.nil_append, Nat.reduceAdd, Nat.sub_self, Nat.add_zero, List.filter])
  refine VcCall.io [0, 2] ki (by decide) (by simp [renL, ren, ioN]) rfl (by simp [subOk, ioN, lk, Item.ren, Item.below, ren, renL, belowL, Fv.below, renR_ok, belowR_ok]) covB2 2 (by decide) rfl (by simp [rowsB, Item.below, Fv.below, belowL, belowR_ok]) ?_
  (repeat' first | with_reducible (first | intro _ | refine rc ?_ | refine rl ?_ | refine rh ?_ | refine ru ?_ | refine rt ?_ | refine rf ?_ | refine rs ?_ | refine And.intro ?_ ?_) | omega | simp (maxSteps := 1000000) only [go_sem, simprocAttr, ↓reduceIte, S.ioS, ioRows, ioN, delL, Item.ren, ren, renL, renR_ok, List.length_cons, List.length_nil, List.getElem?_cons_zero, List.getElem?_cons_succ, List.getElem?_nil, List.cons_append, List.nil_append, Nat.reduceAdd, Nat.sub_self, Nat.add_zero, List.filter])
  rcases hc with ⟨c5, c2⟩ | ⟨c5, c2⟩
  rotate_left
  · have kt2 := takeN_io s n [48, 48, 49] (by omega) hn c5
    have hst : rdStep true above (s.drop n) p k = none := by
      unfold rdStep
      rw [c2, if_neg (by decide), if_neg (by decide), if_neg (by decide)]
    rw [hI0.fail hle h0 hst, rlOut_none, rlRows_none]
    refine VcCall.io [0, 2] kt2 (by decide) (by simp [renL, ren, ioN]) rfl (by simp [subOk, ioN, lk, Item.ren, Item.below, ren, renL, belowL, Fv.below, renR_ok, belowR_ok]) covB2 2 (by decide) rfl (by simp [rowsB, Item.below, Fv.below, belowL, belowR_ok]) ?_
    (repeat' first | with_reducible (first | intro _ | refine rc ?_ | refine rl ?_ | refine rh ?_ | refine ru ?_ | refine rt ?_ | refine rf ?_ | refine rs ?_ | refine And.intro ?_ ?_) | omega | simp (maxSteps := 1000000) only [go_sem, simprocAttr, ↓reduceIte, S.ioS, ioRows, ioN, delL, Item.ren, ren, renL, renR_ok, List.length_cons, List.length_nil, List.getElem?_cons_zero, List.getElem?_cons_succ, List.getElem?_nil, List.cons_append, List.nil_append, Nat.reduceAdd, Nat.sub_self, Nat.add_zero, List.filter])
    refine Ret.auto 0 ?_ rfl ?_ <;> simp only [go_sem, reduceCtorEq, reduceIte, Nat.reduceEqDiff, Nat.reduceLT, Nat.reduceLeDiff, Int.natCast_succ, Post]
  have h3 := (codeOf_len (s := s.drop n) (by omega)).2.1 c2
  rw [List.length_drop] at h3
  have kt2 := takeY_io s n [48, 48, 49] (by omega) hn (by decide) c5
  have e3 : (s.drop n).drop 3 = s.drop (n + 3) := List.drop_drop
  have hst0 : rdStep true above (s.drop n) p k = farOf true above.length (s.drop n) p k := by
    unfold rdStep
    rw [c2, if_neg (by decide), if_neg (by decide), if_pos rfl]
  have kn := number_io s (n + 3) (by omega) (by omega)
  refine VcCall.io [0, 2] kt2 (by decide) (by simp [renL, ren, ioN]) rfl (by simp [subOk, ioN, lk, Item.ren, Item.below, ren, renL, belowL, Fv.below, renR_ok, belowR_ok]) covB2 2 (by decide) rfl (by simp [rowsB, Item.below, Fv.below, belowL, belowR_ok]) ?_
  (repeat' first | with_reducible (first | intro _ | refine rc ?_ | refine rl ?_ | refine rh ?_ | refine ru ?_ | refine rt ?_ | refine rf ?_ | refine rs ?_ | refine And.intro ?_ ?_) | omega | simp (maxSteps := 1000000) only [go_sem, simprocAttr, ↓reduceIte, S.ioS, ioRows, ioN, delL, Item.ren, ren, renL, renR_ok, List.length_cons, List.length_nil, List.getElem?_cons_zero, List.getElem?_cons_succ, List.getElem?_nil, List.cons_append, List.nil_append, Nat.reduceAdd, Nat.sub_self, Nat.add_zero, List.filter])
  cases hg1 : rdG (s.drop (n + 3)) with
  | none =>
    obtain ⟨r1, r2, r3⟩ := rdE_none hg1
    rw [r1, r2, r3] at kn
    have hst : rdStep true above (s.drop n) p k = none := by rw [hst0]; unfold farOf; rw [e3, hg1]
    rw [hI0.fail hle h0 hst, rlOut_none, rlRows_none]
    refine VcCall.io [0, 2] kn (by decide) (by simp [renL, ren, ioN]) rfl (by simp [subOk, ioN, lk, Item.ren, Item.below, ren, renL, belowL, Fv.below, renR_ok, belowR_ok]) covB2 2 (by decide) rfl (by simp [rowsB, Item.below, Fv.below, belowL, belowR_ok]) ?_
    (repeat' first | with_reducible (first | intro _ | refine rc ?_ | refine rl ?_ | refine rh ?_ | refine ru ?_ | refine rt ?_ | refine rf ?_ | refine rs ?_ | refine And.intro ?_ ?_) | omega | simp (maxSteps := 1000000) only [go_sem, simprocAttr, ↓reduceIte, S.ioS, ioRows, ioN, delL, Item.ren, ren, renL, renR_ok, List.length_cons, List.length_nil, List.getElem?_cons_zero, List.getElem?_cons_succ, List.getElem?_nil, List.cons_append, List.nil_append, Nat.reduceAdd, Nat.sub_self, Nat.add_zero, List.filter])
    refine Ret.auto 0 ?_ rfl ?_ <;> simp only [go_sem, reduceCtorEq, reduceIte, Nat.reduceEqDiff, Nat.reduceLT, Nat.reduceLeDiff, Int.natCast_succ, Post]
  | some z1 =>
  obtain ⟨m1, l1⟩ := z1
  obtain ⟨r1, r2, r3⟩ := rdE_some hg1
  rw [r1, r2, r3, show ((n + 3 : Nat) : Int) + (l1 : Int) = ((n + 3 + l1 : Nat) : Int) by omega] at kn
  obtain ⟨w1, w2, w3⟩ := rdG_len hg1
  have w4 := rdG_most hg1
  rw [List.length_drop] at w1
  have kn2 := number_io s (n + 3 + l1) (by omega) (by omega)
  have e4 : (s.drop n).drop (3 + l1) = s.drop (n + 3 + l1) := by rw [List.drop_drop, Nat.add_assoc]
  have hv1 : ((p - 1 : Nat) : Int) + ((m1 : Int) - 1) = ((p - 1 + (m1 - 1) : Nat) : Int) := by omega
  refine VcCall.io [0, 2] kn (by decide) (by simp [renL, ren, ioN]) rfl (by simp [subOk, ioN, lk, Item.ren, Item.below, ren, renL, belowL, Fv.below, renR_ok, belowR_ok]) covB2 2 (by decide) rfl (by simp [rowsB, Item.below, Fv.below, belowL, belowR_ok]) ?_
  (repeat' first | with_reducible (first | intro _ | refine rc ?_ | refine rl ?_ | refine rh ?_ | refine ru ?_ | refine rt ?_ | refine rf ?_ | refine rs ?_ | refine And.intro ?_ ?_) | omega | simp (maxSteps := 1000000) only [go_sem, simprocAttr, ↓reduceIte, S.ioS, ioRows, ioN, delL, Item.ren, ren, renL, renR_ok, List.length_cons, List.length_nil, List.getElem?_cons_zero, List.getElem?_cons_succ, List.getElem?_nil, List.cons_append, List.nil_append, Nat.reduceAdd, Nat.sub_self, Nat.add_zero, List.filter])
  cases hg2 : rdG (s.drop (n + 3 + l1)) with
  | none =>
    obtain ⟨r1, r2, r3⟩ := rdE_none hg2
    rw [r1, r2, r3] at kn2
    have hst : rdStep true above (s.drop n) p k = none := by rw [hst0]; unfold farOf; rw [e3, hg1]; dsimp only; rw [e4, hg2]
    rw [hI0.fail hle h0 hst, rlOut_none, rlRows_none]
    refine VcCall.io [0, 2] kn2 (by decide) (by simp [renL, ren, ioN]) rfl (by simp [subOk, ioN, lk, Item.ren, Item.below, ren, renL, belowL, Fv.below, renR_ok, belowR_ok]) covB2 2 (by decide) rfl (by simp [rowsB, Item.below, Fv.below, belowL, belowR_ok]) ?_
    (repeat' first | with_reducible (first | intro _ | refine rc ?_ | refine rl ?_ | refine rh ?_ | refine ru ?_ | refine rt ?_ | refine rf ?_ | refine rs ?_ | refine And.intro ?_ ?_) | omega | simp (maxSteps := 1000000) only [go_sem, simprocAttr, ↓reduceIte, hmx, S.ioS, ioRows, ioN, delL, Item.ren, ren, renL, renR_ok, List.length_cons, List.length_nil, List.getElem?_cons_zero, List.getElem?_cons_succ, List.getElem?_nil, List.cons_append, List.nil_append, Nat.reduceAdd, Nat.sub_self, Nat.add_zero, List.filter])
    refine Ret.auto 0 ?_ rfl ?_ <;> simp only [go_sem, reduceCtorEq, reduceIte, Nat.reduceEqDiff, Nat.reduceLT, Nat.reduceLeDiff, Int.natCast_succ, Post]
  | some z2 =>
  obtain ⟨m2, l2⟩ := z2
  obtain ⟨r1, r2, r3⟩ := rdE_some hg2
  rw [r1, r2, r3, show ((n + 3 + l1 : Nat) : Int) + (l2 : Int) = ((n + 3 + l1 + l2 : Nat) : Int) by omega] at kn2
  obtain ⟨w5, w6, w7⟩ := rdG_len hg2
  have w8 := rdG_most hg2
  rw [List.length_drop] at w5
  obtain ⟨A1, hA1⟩ : ∃ A1, p - 1 + (m1 - 1) = A1 := ⟨_, rfl⟩
  obtain ⟨A2, hA2⟩ : ∃ A2, A1 + (m2 - 1) = A2 := ⟨_, rfl⟩
  rw [hA1] at hv1
  have hv2 : (A1 : Int) + ((m2 : Int) - 1) = (A2 : Int) := by omega
  have hstf : rdStep true above (s.drop n) p k = if (true = true → p ≤ A1) ∧ A2 ≤ above.length ∧ p ≤ A2 then some ⟨A2 + 1, k, List.replicate (m1 - 1) k ++ List.replicate (m2 - 1) (!k), 3 + l1 + l2⟩ else none := by
    rw [hst0]; unfold farOf; rw [e3, hg1]; dsimp only; rw [e4, hg2]; dsimp only; rw [hA1, hA2]
  refine VcCall.io [0, 2] kn2 (by decide) (by simp [renL, ren, ioN]) rfl (by simp [subOk, ioN, lk, Item.ren, Item.below, ren, renL, belowL, Fv.below, renR_ok, belowR_ok]) covB2 2 (by decide) rfl (by simp [rowsB, Item.below, Fv.below, belowL, belowR_ok]) ?_
  by_cases hok : p ≤ A1 ∧ A2 ≤ above.length ∧ p ≤ A2
  · have hst := hstf
    rw [if_pos ⟨fun _ => hok.1, hok.2⟩] at hst
    obtain ⟨g1, g2⟩ := hI0.step hle h0 hst
    have kf := fill_io (rowR above.length R) (p - 1) ((p : Int) - 1) A1 k hmx (by omega) (by omega) (by omega) (by omega)
    have hrf := rowR_fill (w := above.length) (R := R) (t := A1) k (by omega) (by omega)
    rw [hR, show A1 - (p - 1) = m1 - 1 by omega] at hrf
    rw [hrf] at kf
    have hRl : (R ++ List.replicate (m1 - 1) k).length = A1 := by rw [List.length_append, List.length_replicate]; omega
    have hrl2 := rowR_len (w := above.length) (R := R ++ List.replicate (m1 - 1) k) (by omega)
    have kf2 := fill_io (rowR above.length (R ++ List.replicate (m1 - 1) k)) A1 (A1 : Int) A2 (!k) (by omega) (by omega) (by omega) (by omega) (by omega)
    have hrf2 := rowR_fill (w := above.length) (R := R ++ List.replicate (m1 - 1) k) (t := A2) (!k) (by omega) (by omega)
    rw [hRl, show A2 - A1 = m2 - 1 by omega, List.append_assoc] at hrf2
    rw [hrf2] at kf2
    have f4 : ((p : Int) - 1 < (A1 : Int)) = True := eq_true (by omega)
    have f5 : ((A2 : Int) ≤ (above.length : Int)) = True := eq_true (by omega)
    have f6 : ((p : Int) - 1 < (A2 : Int)) = True := eq_true (by omega)
    (repeat' first | with_reducible (first | intro _ | refine rc ?_ | refine rl ?_ | refine rh ?_ | refine ru ?_ | refine rt ?_ | refine rf ?_ | refine rs ?_ | refine And.intro ?_ ?_) | omega | simp (maxSteps := 1000000) only [go_sem, simprocAttr, ↓reduceIte, hmx, hv1, hv2, f4, f5, f6, S.ioS, ioRows, ioN, delL, Item.ren, ren, renL, renR_ok, List.length_cons, List.length_nil, List.getElem?_cons_zero, List.getElem?_cons_succ, List.getElem?_nil, List.cons_append, List.nil_append, Nat.reduceAdd, Nat.sub_self, Nat.add_zero, List.filter])
    refine VcCall.io [1, 3] kf (by decide) (by simp [renL, ren, ioN]) rfl (by simp [subOk, ioN, lk, Item.ren, Item.below, ren, renL, belowL, Fv.below, renR_ok, belowR_ok]) covB2 2 (by decide) rfl (by simp [rowsB, Item.below, Fv.below, belowL, belowR_ok]) ?_
    (repeat' first | with_reducible (first | intro _ | refine rc ?_ | refine rl ?_ | refine rh ?_ | refine ru ?_ | refine rt ?_ | refine rf ?_ | refine rs ?_ | refine And.intro ?_ ?_) | omega | simp (maxSteps := 1000000) only [go_sem, simprocAttr, ↓reduceIte, S.ioS, ioRows, ioN, delL, Item.ren, ren, renL, renR_ok, List.length_cons, List.length_nil, List.getElem?_cons_zero, List.getElem?_cons_succ, List.getElem?_nil, List.cons_append, List.nil_append, Nat.reduceAdd, Nat.sub_self, Nat.add_zero, List.filter])
    refine VcCall.io [1, 3] kf2 (by decide) (by simp [renL, ren, ioN]) rfl (by simp [subOk, ioN, lk, Item.ren, Item.below, ren, renL, belowL, Fv.below, renR_ok, belowR_ok]) covB2 2 (by decide) rfl (by simp [rowsB, Item.below, Fv.below, belowL, belowR_ok]) ?_
    (repeat' first | with_reducible (first | intro _ | refine rc ?_ | refine rl ?_ | refine rh ?_ | refine ru ?_ | refine rt ?_ | refine rf ?_ | refine rs ?_ | refine And.intro ?_ ?_) | omega | simp (maxSteps := 1000000) only [go_sem, simprocAttr, ↓reduceIte, S.ioS, ioRows, ioN, delL, Item.ren, ren, renL, renR_ok, List.length_cons, List.length_nil, List.getElem?_cons_zero, List.getElem?_cons_succ, List.getElem?_nil, List.cons_append, List.nil_append, Nat.reduceAdd, Nat.sub_self, Nat.add_zero, List.filter])
    refine ⟨⟨A2 + 1, k, n + (3 + l1 + l2), R ++ (List.replicate (m1 - 1) k ++ List.replicate (m2 - 1) (!k))⟩, Ent.auto0 rfl ?_ ?_, g1, by dsimp only; omega⟩ <;> simp only [go_sem, reduceCtorEq, reduceIte, Nat.reduceEqDiff, Nat.reduceLT, Nat.reduceLeDiff, Int.natCast_succ, List.length_cons, List.length_nil, Nat.reduceAdd]
    all_goals first | rfl | omega | (refine ⟨?_, ?_⟩ <;> first | rfl | omega)
  · have hst := hstf
    rw [if_neg (fun h => hok ⟨h.1 rfl, h.2⟩)] at hst
    rw [hI0.fail hle h0 hst, rlOut_none, rlRows_none]
    by_cases h4 : (p : Int) - 1 < (A1 : Int)
    · have f4 : ((p : Int) - 1 < (A1 : Int)) = True := eq_true h4
      by_cases h5 : (A2 : Int) ≤ (above.length : Int)
      · have f5 : ((A2 : Int) ≤ (above.length : Int)) = True := eq_true h5
        exact absurd ⟨by omega, by omega, by omega⟩ hok
      · have f5 : ((A2 : Int) ≤ (above.length : Int)) = False := eq_false h5
        (repeat' first | with_reducible (first | intro _ | refine rc ?_ | refine rl ?_ | refine rh ?_ | refine ru ?_ | refine rt ?_ | refine rf ?_ | refine rs ?_ | refine And.intro ?_ ?_) | omega | simp (maxSteps := 1000000) only [go_sem, simprocAttr, ↓reduceIte, hmx, hv1, hv2, f4, f5, S.ioS, ioRows, ioN, delL, Item.ren, ren, renL, renR_ok, List.length_cons, List.length_nil, List.getElem?_cons_zero, List.getElem?_cons_succ, List.getElem?_nil, List.cons_append, List.nil_append, Nat.reduceAdd, Nat.sub_self, Nat.add_zero, List.filter])
        refine Ret.auto 0 ?_ rfl ?_ <;> simp only [go_sem, reduceCtorEq, reduceIte, Nat.reduceEqDiff, Nat.reduceLT, Nat.reduceLeDiff, Int.natCast_succ, Post]
    · have f4 : ((p : Int) - 1 < (A1 : Int)) = False := eq_false h4
      (repeat' first | with_reducible (first | intro _ | refine rc ?_ | refine rl ?_ | refine rh ?_ | refine ru ?_ | refine rt ?_ | refine rf ?_ | refine rs ?_ | refine And.intro ?_ ?_) | omega | simp (maxSteps := 1000000) only [go_sem, simprocAttr, ↓reduceIte, hmx, hv1, hv2, f4, S.ioS, ioRows, ioN, delL, Item.ren, ren, renL, renR_ok, List.length_cons, List.length_nil, List.getElem?_cons_zero, List.getElem?_cons_succ, List.getElem?_nil, List.cons_append, List.nil_append, Nat.reduceAdd, Nat.sub_self, Nat.add_zero, List.filter])
      refine Ret.auto 0 ?_ rfl ?_ <;> simp only [go_sem, reduceCtorEq, reduceIte, Nat.reduceEqDiff, Nat.reduceLT, Nat.reduceLeDiff, Int.natCast_succ, Post]
end Go.Fv.G

/- Runes below 128 are bytes. -/
namespace Go.Fv.G
open Go
set_option linter.unusedSimpArgs false
set_option linter.unusedVariables false
set_option linter.unnecessarySimpa false

theorem get_lR (l : List UInt8) (j : Nat) : (⟨l.toArray⟩ : ByteArray).get! j = l.getD j 0 := by
  show (l.toArray)[j]! = _
  by_cases h : j < l.length
  · simp [h, List.getD]
  · simp [h, List.getD]; rfl
theorem rune_big {l : List UInt8} {p : Nat} (h : p < l.length) : ((l.getD p 0).toNat < 128 ∧ runeAt l p = ((l.getD p 0).toNat : Int) ∧ wideAt l p = 1) ∨ (128 ≤ (l.getD p 0).toNat ∧ 128 ≤ runeAt l p) := by
  unfold wideAt runeAt
  rw [Lib.decode_at]
  have hs : (⟨l.toArray⟩ : ByteArray).size = l.length := rfl
  simp only [get_lR, hs]
  have b0 : (l.getD p 0).toNat < 256 := (l.getD p 0).toNat_lt
  by_cases ha : (l.getD p 0).toNat < 128
  · have e : Lib.decodeN (l.length - p) (l.getD p 0).toNat (l.getD (p + 1) 0).toNat (l.getD (p + 2) 0).toNat (l.getD (p + 3) 0).toNat = ((l.getD p 0).toNat, 1) := by
      unfold Lib.decodeN; rw [if_pos ha]
    rw [e]
    exact .inl ⟨ha, rfl, rfl⟩
  refine .inr ⟨by omega, ?_⟩
  rcases Lib.decodeN_shape (l.length - p) (l.getD p 0).toNat (l.getD (p + 1) 0).toNat (l.getD (p + 2) 0).toNat (l.getD (p + 3) 0).toNat with ⟨c, e⟩ | ⟨c1, c2, c3, cv, e⟩ | ⟨c1, c2, c3, c4, cv, cs, e⟩ | ⟨c1, c2, c3, c4, c5, cv, cw, e⟩ | e
  · omega
  all_goals rw [e]; dsimp only; omega
theorem rune_bd {l : List UInt8} {p : Nat} : 0 ≤ runeAt l p ∧ runeAt l p ≤ 1114111 := by
  have := Lib.rune_le ⟨l.toArray⟩ p
  unfold runeAt; omega
end Go.Fv.G

/- Reading a number: the walk of the reference's ReadGamma. -/
namespace Go.Fv.G
open Go Go.Proofs
set_option linter.unusedSimpArgs false
set_option linter.unusedVariables false
set_option linter.unnecessarySimpa false
set_option maxRecDepth 8000

set_option maxHeartbeats 4000000 in
theorem refReadG_ok (s : Bytes) (hs : s.length ≤ 300000000000000) : FnOk Tryd.prog 9 [.str s] (.tup [.int .i64 (rdN s), .int .i64 (rdL s), .int .i64 (rdE 8 s)]) [] := by
  have hle := lead_le s
  have hat := lead_at s
  have hst := lead_stop s
  refine FnOk.of_vc Tryd.func9 rfl (by decide) (by simp [Tryd.f9]) [.tmp 2, .tmp 3, .tmp 4] rfl fun w0 T0 _ => ?_
  simp only [Tryd.f9, argEnv]
  (repeat' first | with_reducible (first | intro _ | refine rc ?_ | refine rl ?_ | refine rh ?_ | refine ru ?_ | refine rt ?_ | refine rf ?_ | refine rs ?_ | refine And.intro ?_ ?_) | omega | simp (maxSteps := 1000000) only [go_sem, simprocAttr, ↓reduceIte])
  refine VcLoop.intro (fun z : Nat => ⟨63, [(5, .int .i64 z), (0, .str s)], [], 0⟩) (fun z => z ≤ leadB s) (fun z => s.length - z) 0 ?_ (Nat.zero_le _) fun z hz => ?_
  · refine Ent.auto0 rfl ?_ ?_ <;> simp only [go_sem, reduceCtorEq, reduceIte, Nat.reduceEqDiff, Nat.reduceLT, Nat.reduceLeDiff, Int.natCast_succ]
  by_cases hlt : z < leadB s
  · have e := hat z hlt
    have f1 : ((z : Int) < (s.length : Int)) = True := eq_true (by omega)
    have f2 : (((s.getD z 0).toNat : Int) = 48) = True := eq_true (by rw [e]; rfl)
    (repeat' first | with_reducible (first | intro _ | refine rc ?_ | refine rl ?_ | refine rh ?_ | refine ru ?_ | refine rt ?_ | refine rf ?_ | refine rs ?_ | refine And.intro ?_ ?_) | omega | simp (maxSteps := 1000000) only [go_sem, simprocAttr, ↓reduceIte, f1, f2])
    refine ⟨z + 1, Ent.auto0 rfl ?_ ?_, by omega, by omega⟩ <;> simp only [go_sem, reduceCtorEq, reduceIte, Nat.reduceEqDiff, Nat.reduceLT, Nat.reduceLeDiff, Int.natCast_succ]
  have hz : z = leadB s := by omega
  subst hz
  have hno : ∀ h : rdG s = none, rdN s = 0 ∧ rdL s = 0 ∧ rdE 8 s = 8 := fun h => by unfold rdN rdL rdE; rw [h]; exact ⟨rfl, rfl, rfl⟩
  have fin : leadB s < s.length → (((s.getD (leadB s) 0).toNat : Int) = 48) = False := fun c0 => eq_false fun h => hst c0 (UInt8.toNat_inj.1 (by show _ = 48; omega))
  by_cases c1 : 20 < leadB s
  · obtain ⟨r1, r2, r3⟩ := hno (rdG_none fun h => by omega)
    have f3 : (20 < (leadB s : Int)) = True := eq_true (by omega)
    by_cases c0 : leadB s < s.length
    · have f1 : ((leadB s : Int) < (s.length : Int)) = True := eq_true (by omega)
      have f2 := fin c0
      (repeat' first | with_reducible (first | intro _ | refine rc ?_ | refine rl ?_ | refine rh ?_ | refine ru ?_ | refine rt ?_ | refine rf ?_ | refine rs ?_ | refine And.intro ?_ ?_) | omega | simp (maxSteps := 1000000) only [go_sem, simprocAttr, ↓reduceIte, f1, f2, f3])
      refine Ret.auto 0 ?_ rfl ?_ <;> simp only [go_sem, reduceCtorEq, reduceIte, Nat.reduceEqDiff, Nat.reduceLT, Nat.reduceLeDiff, Int.natCast_succ, Post, r1, r2, r3]
    · have f1 : ((leadB s : Int) < (s.length : Int)) = False := eq_false (by omega)
      (repeat' first | with_reducible (first | intro _ | refine rc ?_ | refine rl ?_ | refine rh ?_ | refine ru ?_ | refine rt ?_ | refine rf ?_ | refine rs ?_ | refine And.intro ?_ ?_) | omega | simp (maxSteps := 1000000) only [go_sem, simprocAttr, ↓reduceIte, f1, f3])
      refine Ret.auto 0 ?_ rfl ?_ <;> simp only [go_sem, reduceCtorEq, reduceIte, Nat.reduceEqDiff, Nat.reduceLT, Nat.reduceLeDiff, Int.natCast_succ, Post, r1, r2, r3]
  have f3 : (20 < (leadB s : Int)) = False := eq_false (by omega)
  by_cases c2 : s.length < 2 * leadB s + 1
  · obtain ⟨r1, r2, r3⟩ := hno (rdG_none fun h => by omega)
    have f4 : ((s.length : Int) < 2 * (leadB s : Int) + 1) = True := eq_true (by omega)
    by_cases c0 : leadB s < s.length
    · have f1 : ((leadB s : Int) < (s.length : Int)) = True := eq_true (by omega)
      have f2 := fin c0
      (repeat' first | with_reducible (first | intro _ | refine rc ?_ | refine rl ?_ | refine rh ?_ | refine ru ?_ | refine rt ?_ | refine rf ?_ | refine rs ?_ | refine And.intro ?_ ?_) | omega | simp (maxSteps := 1000000) only [go_sem, simprocAttr, ↓reduceIte, f1, f2, f3, f4])
      refine Ret.auto 0 ?_ rfl ?_ <;> simp only [go_sem, reduceCtorEq, reduceIte, Nat.reduceEqDiff, Nat.reduceLT, Nat.reduceLeDiff, Int.natCast_succ, Post, r1, r2, r3]
    · have f1 : ((leadB s : Int) < (s.length : Int)) = False := eq_false (by omega)
      (repeat' first | with_reducible (first | intro _ | refine rc ?_ | refine rl ?_ | refine rh ?_ | refine ru ?_ | refine rt ?_ | refine rf ?_ | refine rs ?_ | refine And.intro ?_ ?_) | omega | simp (maxSteps := 1000000) only [go_sem, simprocAttr, ↓reduceIte, f1, f3, f4])
      refine Ret.auto 0 ?_ rfl ?_ <;> simp only [go_sem, reduceCtorEq, reduceIte, Nat.reduceEqDiff, Nat.reduceLT, Nat.reduceLeDiff, Int.natCast_succ, Post, r1, r2, r3]
  have f4 : ((s.length : Int) < 2 * (leadB s : Int) + 1) = False := eq_false (by omega)
  have c0 : leadB s < s.length := by omega
  have f1 : ((leadB s : Int) < (s.length : Int)) = True := eq_true (by omega)
  have f2 := fin c0
  obtain ⟨m1, m2⟩ := lead_mem (s := s) (by omega)
  have hcut : (2 * (leadB s : Int) + 1).toNat - leadB s = leadB s + 1 := by omega
  have hsome := @rdG_some s
  have hnone := @rdG_none s
  have h49 : s.getD (leadB s) 0 ≠ 48 := hst c0
  (repeat' first | with_reducible (first | intro _ | refine rc ?_ | refine rl ?_ | refine rh ?_ | refine ru ?_ | refine rt ?_ | refine rf ?_ | refine rs ?_ | refine And.intro ?_ ?_) | omega | simp (maxSteps := 1000000) only [go_sem, simprocAttr, ↓reduceIte, f1, f2, f3, f4, hcut])
  generalize hx : (s.drop (leadB s)).take (leadB s + 1) = x at *
  have hxl : x.length ≤ 21 := by omega
  refine VcLoop.intro (fun p : Nat => ⟨63, [(37, .ptr 0 0), (6, .int .i64 (valB (x.take p))), (5, .int .i64 (leadB s)), (0, .str s)], [(0, .siter x p)], 1⟩) (fun p => p ≤ x.length ∧ (x.take p).all is01 = true) (fun p => x.length - p) 0 ?_ ⟨Nat.zero_le _, rfl⟩ fun p hI => ?_
  · refine Ent.auto0 rfl ?_ ?_ <;> simp only [go_sem, reduceCtorEq, reduceIte, Nat.reduceEqDiff, Nat.reduceLT, Nat.reduceLeDiff, Int.natCast_succ]
    all_goals rfl
  obtain ⟨hp, hI⟩ := hI
  have hv1 : ∀ q, q ≤ x.length → (x.take q).all is01 = true → valB (x.take q) < 2097152 := fun q hq h => by
    have h1 := valB_lt (x.take q) h
    have h2 : (2 : Nat) ^ (x.take q).length ≤ 2 ^ 21 := Nat.pow_le_pow_right (by decide) (by rw [List.length_take]; omega)
    rw [show (2 : Nat) ^ 21 = 2097152 from rfl] at h2
    omega
  have hv := hv1 p hp hI
  by_cases hlt : p < x.length
  · have ht := all_take hlt
    rw [hI, Bool.true_and, is01_n] at ht
    have hs1 := valB_take hlt
    have hnx := hv1 (p + 1) (by omega)
    have hr := rune_big hlt
    have hbd := @rune_bd x p
    have b1 : ((p : Int) < (x.length : Int)) = True := eq_true (by omega)
    by_cases hd : (x.getD p 0).toNat = 48 ∨ (x.getD p 0).toNat = 49
    · rw [decide_eq_true hd] at ht
      have hnx := hnx ht
      have hr2 : runeAt x p = ((x.getD p 0).toNat : Int) ∧ wideAt x p = 1 := by rcases hr with h | h <;> omega
      obtain ⟨e1, e2⟩ := hr2
      generalize (x.getD p 0).toNat = c at *
      generalize valB (x.take p) = v at *
      (repeat' first | with_reducible (first | intro _ | refine rc ?_ | refine rl ?_ | refine rh ?_ | refine ru ?_ | refine rt ?_ | refine rf ?_ | refine rs ?_ | refine And.intro ?_ ?_) | omega | simp (maxSteps := 1000000) only [go_sem, simprocAttr, ↓reduceIte, e1, e2])
      all_goals (refine ⟨p + 1, Ent.auto0 rfl ?_ ?_, ⟨by omega, ht⟩, by omega⟩ <;> simp only [go_sem, reduceCtorEq, reduceIte, Nat.reduceEqDiff, Nat.reduceLT, Nat.reduceLeDiff, Int.natCast_succ, hs1, e2])
      all_goals omega
    · obtain ⟨r1, r2, r3⟩ := hno (hnone fun h => hd (by
        rcases all_at hlt h.2.2.1 with e | e <;> rw [e] <;> decide))
      have hr2 : ¬ runeAt x p = 48 ∧ ¬ runeAt x p = 49 := by rcases hr with h | h <;> omega
      obtain ⟨e1, e2⟩ := hr2
      (repeat' first | with_reducible (first | intro _ | refine rc ?_ | refine rl ?_ | refine rh ?_ | refine ru ?_ | refine rt ?_ | refine rf ?_ | refine rs ?_ | refine And.intro ?_ ?_) | omega | simp (maxSteps := 1000000) only [go_sem, simprocAttr, ↓reduceIte, e1, e2])
      refine Ret.auto 0 ?_ rfl ?_ <;> simp only [go_sem, reduceCtorEq, reduceIte, Nat.reduceEqDiff, Nat.reduceLT, Nat.reduceLeDiff, Int.natCast_succ, Post, r1, r2, r3]
  · have e : p = x.length := by omega
    subst e
    rw [List.take_length] at hI
    have hx1 : 1 ≤ valB x := by
      have h0 := all_at (l := x) (p := 0) (by omega) hI
      rw [m2] at h0
      have h1 := h0.resolve_left h49
      cases x with
      | nil => simp at m1
      | cons c l => exact valB_one (by rw [m2]; exact h1)
    rw [List.take_length] at hv ⊢
    by_cases c5 : valB x ≤ 1048576
    · have hr := hsome ⟨by omega, by omega, hI, c5⟩
      have r1 : rdN s = (valB x : Int) := by unfold rdN; rw [hr]
      have r2 : rdL s = 2 * (leadB s : Int) + 1 := by unfold rdL; rw [hr]; rfl
      have r3 : rdE 8 s = 0 := by unfold rdE; rw [hr]
      generalize valB x = v at *
      (repeat' first | with_reducible (first | intro _ | refine rc ?_ | refine rl ?_ | refine rh ?_ | refine ru ?_ | refine rt ?_ | refine rf ?_ | refine rs ?_ | refine And.intro ?_ ?_) | omega | simp (maxSteps := 1000000) only [go_sem, simprocAttr, ↓reduceIte])
      all_goals first | omega | (refine Ret.auto 0 ?_ rfl ?_ <;> simp only [go_sem, reduceCtorEq, reduceIte, Nat.reduceEqDiff, Nat.reduceLT, Nat.reduceLeDiff, Int.natCast_succ, Post, r1, r2, r3])
    · obtain ⟨r1, r2, r3⟩ := hno (hnone fun h => c5 h.2.2.2)
      generalize valB x = v at *
      (repeat' first | with_reducible (first | intro _ | refine rc ?_ | refine rl ?_ | refine rh ?_ | refine ru ?_ | refine rt ?_ | refine rf ?_ | refine rs ?_ | refine And.intro ?_ ?_) | omega | simp (maxSteps := 1000000) only [go_sem, simprocAttr, ↓reduceIte])
      all_goals first | omega | (refine Ret.auto 0 ?_ rfl ?_ <;> simp only [go_sem, reduceCtorEq, reduceIte, Nat.reduceEqDiff, Nat.reduceLT, Nat.reduceLeDiff, Int.natCast_succ, Post, r1, r2, r3])
end Go.Fv.G

/- The closures of the reference's ReadLine. -/
namespace Go.Fv.G
open Go Go.Proofs
set_option linter.unusedSimpArgs false
set_option linter.unusedVariables false
set_option linter.unnecessarySimpa false
set_option maxRecDepth 8000

theorem refNo_ok : FnOk Tryd.prog 26 [] (.tup [.own 0, .int .i64 0, .int .i64 8]) [(0, .row 4 (.bools []))] := by
  refine FnOk.of_vc Tryd.func26 rfl (by decide) (by simp [Tryd.f26]) [.tmp 0, .tmp 1, .tmp 2] rfl fun w0 T0 _ => ?_
  simp only [Tryd.f26, argEnv]
  (repeat' first | with_reducible (first | intro _ | refine rc ?_ | refine rl ?_ | refine rh ?_ | refine ru ?_ | refine rt ?_ | refine rf ?_ | refine rs ?_ | refine And.intro ?_ ?_) | omega | simp (maxSteps := 1000000) only [go_sem, simprocAttr, ↓reduceIte])
  refine Ret.auto 1 ?_ rfl ?_ <;> simp only [go_sem, reduceCtorEq, reduceIte, Nat.reduceEqDiff, Nat.reduceLT, Nat.reduceLeDiff, Int.natCast_succ, Post]
theorem refFill_io (R : List Bool) (t : Nat) (c : Bool) (hR : R.length ≤ 4000) (ht : t ≤ 4000) :
    FnIO Tryd.prog 27 [.int .i64 t, .bool c, .ptr 0 0] [(0, .box 30 [.own 1]), (1, .row 4 (.bools R))] 2 (.tup []) [(0, .box 30 [.own 2]), (2, .row 4 (.bools (R ++ List.replicate (t - R.length) c)))] := by
  refine FnIO.of_vc Tryd.func27 rfl (by decide) (by simp [Tryd.f27]) covB2 [] rfl fun w0 T0 _ => ?_
  simp only [Tryd.f27, argEnv]
  (repeat' first | with_reducible (first | intro _ | refine rc ?_ | refine rl ?_ | refine rh ?_ | refine ru ?_ | refine rt ?_ | refine rf ?_ | refine rs ?_ | refine And.intro ?_ ?_) | omega | simp (maxSteps := 1000000) only [go_sem, simprocAttr, ↓reduceIte])
  refine VcLoop.intro (fun x : Nat => ⟨13, [(2, .ptr 0 0), (1, .bool c), (0, .int .i64 t)], [(0, .box 30 [.own 2]), (2, .row 4 (.bools (R ++ List.replicate x c)))], 3⟩) (fun x => x ≤ t - R.length) (fun x => t - x) 0 ?_ (Nat.zero_le _) fun x hx => ?_
  · refine Ent.of [(2, 1)] rfl (by show 2 ≤ 3; decide) (by decide) ?_ ?_ <;> simp only [go_sem, reduceCtorEq, reduceIte, Nat.reduceEqDiff, Nat.reduceLT, Nat.reduceLeDiff, Int.natCast_succ, renR_ok, belowR_ok, List.replicate_zero, List.append_nil]
  have hl : (R ++ List.replicate x c).length = R.length + x := by rw [List.length_append, List.length_replicate]
  by_cases hlt : R.length + x < t
  · have f1 : (((R.length + x : Nat) : Int) < (t : Int)) = True := eq_true (by omega)
    have e : R ++ List.replicate x c ++ [c] = R ++ List.replicate (x + 1) c := by rw [List.append_assoc, List.replicate_succ']
    generalize R ++ List.replicate x c = Q at *
    (repeat' first | with_reducible (first | intro _ | refine rc ?_ | refine rl ?_ | refine rh ?_ | refine ru ?_ | refine rt ?_ | refine rf ?_ | refine rs ?_ | refine And.intro ?_ ?_) | omega | simp (maxSteps := 1000000) only [go_sem, simprocAttr, ↓reduceIte, hl, f1])
    refine ⟨x + 1, Ent.autoK 2 rfl (by show 2 ≤ 3; decide) ?_ ?_, by omega, by omega⟩ <;> simp only [go_sem, reduceCtorEq, reduceIte, Nat.reduceEqDiff, Nat.reduceLT, Nat.reduceLeDiff, Int.natCast_succ, fromL, e, renR_ok, belowR_ok]
  · have f1 : (((R.length + x : Nat) : Int) < (t : Int)) = False := eq_false (by omega)
    have e : x = t - R.length := by omega
    subst e
    (repeat' first | with_reducible (first | intro _ | refine rc ?_ | refine rl ?_ | refine rh ?_ | refine ru ?_ | refine rt ?_ | refine rf ?_ | refine rs ?_ | refine And.intro ?_ ?_) | omega | simp (maxSteps := 1000000) only [go_sem, simprocAttr, ↓reduceIte, hl, f1])
    refine RetK.of [(2, 2)] 3 (by decide) (by decide) ?_ rfl ?_ <;> simp only [go_sem, reduceCtorEq, reduceIte, Nat.reduceEqDiff, Nat.reduceLT, Nat.reduceLeDiff, Int.natCast_succ, renR_ok, belowR_ok]
theorem refPre_ok (c y : Bytes) : FnOk Tryd.prog 30 [.str c, .cell [.str y]] (.bool (c.isPrefixOf y)) [] := by
  have k := hasPrefix_ok y c
  refine FnOk.of_vc Tryd.func30 rfl (by decide) (by simp [Tryd.f30]) [.tmp 3] rfl fun w0 T0 _ => ?_
  simp only [Tryd.f30, argEnv]
  (repeat' first | with_reducible (first | intro _ | refine rc ?_ | refine rl ?_ | refine rh ?_ | refine ru ?_ | refine rt ?_ | refine rf ?_ | refine rs ?_ | refine And.intro ?_ ?_) | omega | simp (maxSteps := 1000000) only [go_sem, simprocAttr, ↓reduceIte])
  refine VcCall.k (k) ?_
  (repeat' first | with_reducible (first | intro _ | refine rc ?_ | refine rl ?_ | refine rh ?_ | refine ru ?_ | refine rt ?_ | refine rf ?_ | refine rs ?_ | refine And.intro ?_ ?_) | omega | simp (maxSteps := 1000000) only [go_sem, simprocAttr, ↓reduceIte])
  refine Ret.auto 0 ?_ rfl ?_ <;> simp only [go_sem, reduceCtorEq, reduceIte, Nat.reduceEqDiff, Nat.reduceLT, Nat.reduceLeDiff, Int.natCast_succ, Post]
theorem idxR_ok (y : Bytes) (j : Nat) (hj : j ≤ 7) (hno : ∀ i, i < j → (nearCs.getD i []).isPrefixOf y = false) (hy : j < 7 → (nearCs.getD j []).isPrefixOf y = true) :
    FnOk Tryd.prog 29 [.ro (.strs nearCs), .fn 30 [.cell [.str y]]] (.int .i64 (if j < 7 then j else -1)) [] := by
  have hnl : nearCs.length = 7 := rfl
  refine FnOk.of_vc Tryd.func29 rfl (by decide) (by simp [Tryd.f29]) [.tmp 4] rfl fun w0 T0 _ => ?_
  simp only [Tryd.f29, argEnv]
  (repeat' first | with_reducible (first | intro _ | refine rc ?_ | refine rl ?_ | refine rh ?_ | refine ru ?_ | refine rt ?_ | refine rf ?_ | refine rs ?_ | refine And.intro ?_ ?_) | omega | simp (maxSteps := 1000000) only [go_sem, simprocAttr, ↓reduceIte, hnl])
  refine VcLoop.intro (fun i : Nat => ⟨19, [(8, .int .i64 i), (7, .int .i64 7), (1, .fn 30 [.cell [.str y]]), (0, .ro (.strs nearCs))], [], 0⟩) (fun i => i ≤ j) (fun i => 8 - i) 0 ?_ (Nat.zero_le _) fun i hi => ?_
  · refine Ent.auto0 rfl ?_ ?_ <;> simp only [go_sem, reduceCtorEq, reduceIte, Nat.reduceEqDiff, Nat.reduceLT, Nat.reduceLeDiff, Int.natCast_succ]
  by_cases hlt : i < j
  · have k := refPre_ok (nearCs.getD i []) y
    rw [hno i hlt] at k
    have f1 : ((i : Int) < 7) = True := eq_true (by omega)
    (repeat' first | with_reducible (first | intro _ | refine rc ?_ | refine rl ?_ | refine rh ?_ | refine ru ?_ | refine rt ?_ | refine rf ?_ | refine rs ?_ | refine And.intro ?_ ?_) | omega | simp (maxSteps := 1000000) only [go_sem, simprocAttr, ↓reduceIte, f1, hnl])
    refine VcCall.k (k) ?_
    (repeat' first | with_reducible (first | intro _ | refine rc ?_ | refine rl ?_ | refine rh ?_ | refine ru ?_ | refine rt ?_ | refine rf ?_ | refine rs ?_ | refine And.intro ?_ ?_) | omega | simp (maxSteps := 1000000) only [go_sem, simprocAttr, ↓reduceIte])
    refine ⟨i + 1, Ent.auto0 rfl ?_ ?_, by omega, by omega⟩ <;> simp only [go_sem, reduceCtorEq, reduceIte, Nat.reduceEqDiff, Nat.reduceLT, Nat.reduceLeDiff, Int.natCast_succ]
  have e : i = j := by omega
  subst e
  by_cases h7 : i < 7
  · rw [if_pos h7]
    have k := refPre_ok (nearCs.getD i []) y
    rw [hy h7] at k
    have f1 : ((i : Int) < 7) = True := eq_true (by omega)
    (repeat' first | with_reducible (first | intro _ | refine rc ?_ | refine rl ?_ | refine rh ?_ | refine ru ?_ | refine rt ?_ | refine rf ?_ | refine rs ?_ | refine And.intro ?_ ?_) | omega | simp (maxSteps := 1000000) only [go_sem, simprocAttr, ↓reduceIte, f1, hnl])
    refine VcCall.k (k) ?_
    (repeat' first | with_reducible (first | intro _ | refine rc ?_ | refine rl ?_ | refine rh ?_ | refine ru ?_ | refine rt ?_ | refine rf ?_ | refine rs ?_ | refine And.intro ?_ ?_) | omega | simp (maxSteps := 1000000) only [go_sem, simprocAttr, ↓reduceIte])
    refine Ret.auto 0 ?_ rfl ?_ <;> simp only [go_sem, reduceCtorEq, reduceIte, Nat.reduceEqDiff, Nat.reduceLT, Nat.reduceLeDiff, Int.natCast_succ, Post]
  · rw [if_neg h7]
    have f1 : ((i : Int) < 7) = False := eq_false (by omega)
    (repeat' first | with_reducible (first | intro _ | refine rc ?_ | refine rl ?_ | refine rh ?_ | refine ru ?_ | refine rt ?_ | refine rf ?_ | refine rs ?_ | refine And.intro ?_ ?_) | omega | simp (maxSteps := 1000000) only [go_sem, simprocAttr, ↓reduceIte, f1, hnl])
    refine Ret.auto 0 ?_ rfl ?_ <;> simp only [go_sem, reduceCtorEq, reduceIte, Nat.reduceEqDiff, Nat.reduceLT, Nat.reduceLeDiff, Int.natCast_succ, Post]
end Go.Fv.G
